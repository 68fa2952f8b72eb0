/- What the law WindowForgets stands on: the framework, the given functions as plain functions, their walks, and the plain laws; part 6. -/
import Derived.Test.YteecjdpicjpnfabWindowForgetsZ5
set_option linter.unusedSimpArgs false
set_option linter.unusedVariables false
namespace Go.Abs
open Go
theorem JS.swap {a b i j : Nat} {d : List Int} (h : JS a b i j d) (hb : b ≤ d.length) (hij : i < j) (h1 : gN d a < gN d i) (h2 : gN d j ≤ gN d a) : JS a b (i + 1) (j - 1) (swp d i j) := by
 have := h.hi; have := h.hj
 have g := vD (d := d) (i := i) (j := j) (by omega) (by omega)
 have ga : gN (swp d i j) a = gN d a := by rw [g, if_neg (by omega), if_neg (by omega)]
 refine ⟨by omega, by omega, by omega, fun k k1 k2 => ?_, fun k k1 k2 => ?_⟩
 ·rw [ga, g, if_neg (by omega)]
  by_cases hk : k = i
  ·rw [if_pos hk]; exact h2
  ·rw [if_neg hk]; exact h.lo k k1 (by omega)
 ·rw [ga, g]
  by_cases hk : k = j
  ·rw [if_pos hk]; exact h1
  ·rw [if_neg hk, if_neg (by omega)]; exact h.up k (by omega) k2

theorem aAb {a b i j : Nat} {d : List Int} (h : JS a b i j d) (hb : b ≤ d.length) (hl : d.length < 2305843009213693951) : ∃ i' j' : Nat, JS a b i' j' d ∧ i ≤ i' ∧ j' ≤ j ∧ (j' < i' → j' + 1 = i') ∧ (i' ≤ j' → i' < j' ∧ gN d a < gN d i' ∧ gN d j' ≤ gN d a) ∧
  dB (a : Nat) d (i : Nat) (j : Nat) = dZ d (a : Nat) (i' : Nat) (j' : Nat) := by
 have h1 := h.hi; have h2 := h.hij; have h3 := h.hj
 obtain ⟨i', e1, a1, a2, a3, a4⟩ := QY (body := fun s => dY (a : Nat) (j : Nat) s.1 s.2) (d := d) (p := fun k => ¬ gN d a < gN d k) (j := j) (aDx (a := a) (j := j) (d := d) (by omega) (by omega) hl) (j + 1 - i) i rfl h2
 obtain ⟨j', f1, c1, c2, c3, c4⟩ := KR (body := fun s => dX (a : Nat) (i' : Nat) s.1 s.2) (d := d) (p := fun k => gN d a < gN d k) (i := i') (m := j) (by omega) (aBC (a := a) (i := i') (m := j) (d := d) (by omega) (by omega) (by omega) hl) j (Nat.le_refl _) a2
 have hend : i' ≤ j' → i' < j' ∧ gN d a < gN d i' ∧ gN d j' ≤ gN d a := fun hh => by
  have k1 : gN d a < gN d i' := Classical.byContradiction fun hn => a4 (by omega) hn
  have k2 : ¬ gN d a < gN d j' := c4 hh
  refine ⟨?_, k1, by omega⟩
  rcases Nat.lt_or_ge i' j' with h | h
  ·exact h
  ·have : i' = j' := by omega
   rw [this] at k1; exact absurd k1 k2
 refine ⟨i', j', ⟨by omega, by omega, by omega, fun k k1 k2 => ?_, fun k k1 k2 => ?_⟩, a1, c2, fun hh => by omega, hend, ?_⟩
 ·by_cases hk : k < i
  ·exact h.lo k k1 hk
  ·have := a3 k (by omega) k2; omega
 ·by_cases hk : j < k
  ·exact h.up k hk k2
  ·exact c3 k k1 (by omega)
 ·unfold dB jO
  rw [show lp (fun s : List Int × Int => dY (a : Nat) (j : Nat) s.1 s.2) (d, (i : Int)) = some (d, (i' : Int)) from e1]
  simp only [Option.bind_some]
  unfold gR jR
  rw [show lp (fun s : List Int × Int => dX (a : Nat) (i' : Nat) s.1 s.2) (d, (j : Int)) = some (d, (j' : Int)) from f1]
  rfl

theorem aDD {a b : Nat} : ∀ (n i j : Nat) (d : List Int), j + 1 - i = n → b ≤ d.length → d.length < 2305843009213693951 → JS a b i j d →
  ∃ (d' : List Int) (j' : Nat), lp (fun s : List Int × Int × Int => dB (a : Nat) s.1 s.2.1 s.2.2) (d, (i : Int), (j : Int)) = some (d', ((j' + 1 : Nat) : Int)) ∧ Rel (a + 1) b d d' ∧ JS a b (j' + 1) j' d' := by
 intro n
 induction n using Nat.strongRecOn with
 | ind n ih =>
  intro i j d h1 h2 h3 h
  obtain ⟨i', j', p1, p2, p3, p4, p5, p6⟩ := aAb h h2 h3
  have q1 := p1.hi; have q2 := p1.hj; have q3 := p1.hij
  by_cases hlt : j' < i'
  ·have hs : dB (a : Nat) d (i : Nat) (j : Nat) = some (.inr (d, (i' : Int))) := by
    rw [p6]
    unfold dZ
    have : decide ((j' : Int) < (i' : Int)) = true := by simp; omega
    rw [this, cond_true]
   have := p4 hlt
   exact ⟨d, j', by rw [this]; exact cV hs, Rel.refl .., by rw [this]; exact p1⟩
  ·obtain ⟨k1, k2, k3⟩ := p5 (by omega)
   have hs : dB (a : Nat) d (i : Nat) (j : Nat) = some (.inl (swp d i' j', ((i' + 1 : Nat) : Int), ((j' - 1 : Nat) : Int))) := by
    rw [p6]
    unfold dZ
    have : decide ((j' : Int) < (i' : Int)) = false := by simp; omega
    rw [this, cond_false]
    simp only [Int.toNat_natCast]
    rw [aQ (asN (by omega)), aQ (asN (by omega)), aQ (asN (by omega)), aQ (asN (by omega)), wrN (x := (i' : Int) + 1) (n := i' + 1) (by omega) (by omega), wrN (x := (j' : Int) - 1) (n := j' - 1) (by omega) (by omega)]
    rfl
   obtain ⟨d', j2, e, r, p⟩ := ih (j' - 1 + 1 - (i' + 1)) (by omega) (i' + 1) (j' - 1) (swp d i' j') rfl (by rw [iM]; exact h2) (by rw [iM]; exact h3) (p1.swap h2 k1 k2 k3)
   exact ⟨d', j2, (fO hs).trans e, (Rel.swp (i := i') (j := j') (by omega) (by omega) (by omega) (by omega)).trans r, p⟩

theorem UT {lo hi p : Nat} {d : List Int} (h0 : lo < hi) (hb : hi ≤ d.length) (hl : d.length < 2305843009213693951) (hp : lo ≤ p ∧ p < hi) :
  ∃ (m : Nat) (d' : List Int), fG d (lo : Int) (hi : Int) (p : Int) = some ((m : Int), d') ∧ lo < m ∧ m ≤ hi ∧ Rel lo hi d d' ∧ (∀ k, lo ≤ k → k < m → gN d' k ≤ gN d p) ∧ (∀ k, m ≤ k → k < hi → gN d p < gN d' k) := by
 unfold fG
 rw [aQ (asN (by omega)), aQ (asN (by omega)), aQ (asN (by omega)), aQ (asN (by omega)), wrN (x := (lo : Int) + 1) (n := lo + 1) (by omega) (by omega), wrN (x := (hi : Int) - 1) (n := hi - 1) (by omega) (by omega)]
 simp only [Int.toNat_natCast]
 have r0 : Rel lo hi d (swp d lo p) := Rel.swp (i := lo) (j := p) (by omega) (by omega) (by omega) (by omega)
 have l0 : (swp d lo p).length = d.length := iM ..
 have g := vD (d := d) (i := lo) (j := p) (by omega) (by omega)
 have g0 : gN (swp d lo p) lo = gN d p := by
  rw [g]
  by_cases hh : lo = p
  ·rw [if_pos hh, hh]
  ·rw [if_neg hh, if_pos rfl]
 have inv : JS lo hi (lo + 1) (hi - 1) (swp d lo p) := ⟨by omega, by omega, by omega, fun k k1 k2 => by omega, fun k k1 k2 => by omega⟩
 obtain ⟨d', j', e, r, pp⟩ := aDD (a := lo) (b := hi) (hi - 1 + 1 - (lo + 1)) (lo + 1) (hi - 1) (swp d lo p) rfl (by rw [l0]; exact hb) (by rw [l0]; exact hl) inv
 have w1 := pp.hi; have w2 := pp.hj
 have ga : gN d' lo = gN d p := by rw [r.out lo (by omega), g0]
 unfold jM
 rw [show lp (fun s : List Int × Int × Int => dB (lo : Int) s.1 s.2.1 s.2.2) ((List.set (List.set d lo (List.getD d p default)) p (List.getD d lo default)), ((lo + 1 : Nat) : Int), ((hi - 1 : Nat) : Int)) = some (d', ((j' + 1 : Nat) : Int)) from e]
 refine ⟨j' + 1, d', rfl, by omega, by omega, r0.trans (r.mono (by omega) (Nat.le_refl _)), fun k k1 k2 => ?_, fun k k1 k2 => ?_⟩
 ·rw [← ga]
  by_cases hk : k = lo
  ·rw [hk]; exact Int.le_refl _
  ·exact pp.lo k (by omega) k2
 ·rw [← ga]; exact pp.up k (by omega) k2

theorem aAV {lo i : Nat} {d : List Int} : ∀ (n i' : Nat), i' - i = n → rK lo i d → lo < i → (∀ k, i ≤ k → k < i' → gN d (k - 1) ≤ gN d k) → rK lo i' d
 | 0, i', h, hs, _, _ => fun p q p1 p2 p3 => hs p q p1 p2 (by omega)
 | n + 1, i', h, hs, hl, hk => by
  have ih := aAV (d := d) n (i' - 1) (by omega) hs hl fun k k1 k2 => hk k k1 (by omega)
  intro p q p1 p2 p3
  by_cases hq : q = i' - 1
  ·by_cases hp : p = q
   ·rw [hp]; exact Int.le_refl _
   ·have h1 := hk q (by omega) (by omega)
    have h2 := ih p (q - 1) p1 (by omega) (by omega)
    omega
  ·exact ih p q p1 p2 (by omega)

theorem aDY {lo hi : Nat} {d : List Int} (x : Int) (hb : hi ≤ d.length) (hl : d.length < 2305843009213693951) : ∀ (n i : Nat), hi - i = n → 1 ≤ i → i ≤ hi →
  ∃ i' : Nat, lp (fun s : List Int × Int => cT (lo : Nat) (hi : Nat) x s.1 s.2) (d, (i : Int)) = some (d, (i' : Int)) ∧ i ≤ i' ∧ i' ≤ hi ∧ (∀ k, i ≤ k → k < i' → gN d (k - 1) ≤ gN d k) := by
 intro n
 induction n with
 | zero =>
  intro i h1 h2 h3
  refine ⟨i, cV ?_, Nat.le_refl _, h3, fun k k1 k2 => by omega⟩
  show cT _ _ _ _ _ = _
  have : decide ((i : Int) < (hi : Int)) = false := by simp; omega
  simp only [cT, this]
  rw [aQ (fun h => by cases h), aQ (fun h => by cases h)]
  rfl
 | succ n ih =>
  intro i h1 h2 h3
  have hd : decide ((i : Int) < (hi : Int)) = true := by simp; omega
  have hs : cT (lo : Nat) (hi : Nat) x d (i : Nat) = if gN d i < gN d (i - 1) then some (.inr (d, (i : Int))) else some (.inl (d, ((i + 1 : Nat) : Int))) := by
   unfold cT
   rw [hd, wrN (x := (i : Int) - 1) (n := i - 1) (by omega) (by omega), wrN (x := (i : Int) + 1) (n := i + 1) (by omega) (by omega), aQ fun _ => asN (by omega), aQ fun _ => asN (by omega)]
   simp only [dN, cond_true, tY, Option.bind_some, Bool.true_and, Int.toNat_natCast, gN]
   by_cases h : d.getD i default < d.getD (i - 1) default <;> simp [h]
  by_cases h : gN d i < gN d (i - 1)
  ·rw [if_pos h] at hs
   exact ⟨i, cV hs, Nat.le_refl _, h3, fun k k1 k2 => by omega⟩
  ·rw [if_neg h] at hs
   obtain ⟨i', e, a1, a2, a3⟩ := ih (i + 1) (by omega) (by omega) (by omega)
   refine ⟨i', (fO hs).trans e, by omega, a2, fun k k1 k2 => ?_⟩
   by_cases hk : k = i
   ·rw [hk]; omega
   ·exact a3 k (by omega) k2

theorem LU {lo hi : Nat} {d d' : List Int} (r : Rel lo hi d d') (h : lo = 0 ∨ ∀ k, lo ≤ k → k < hi → gN d (lo - 1) ≤ gN d k) : lo = 0 ∨ ∀ k, lo ≤ k → k < hi → gN d' (lo - 1) ≤ gN d' k := by
 by_cases h0 : lo = 0
 ·exact .inl h0
 ·rcases h with h | h
  ·exact .inl h
  ·exact .inr fun k k1 k2 => by
    rw [r.out (lo - 1) (by omega)]
    exact r.all (p := fun v => gN d (lo - 1) ≤ v) h k k1 k2

theorem aEg {lo hi i : Nat} (x y : Int) : ∀ (j : Nat) (d : List Int), lo ≤ j → j ≤ i → i < d.length → d.length < 2305843009213693951 → JL lo j i d → (lo = 0 ∨ ∀ k, lo ≤ k → k ≤ i → gN d (lo - 1) ≤ gN d k) →
  ∃ d', lp (fun s : List Int × Int => cM (lo : Nat) (hi : Nat) x y s.1 s.2) (d, (j : Int)) = some d' ∧ Rel lo (i + 1) d d' ∧ rK lo (i + 1) d' := by
 intro j
 induction j with
 | zero =>
  intro d h1 h2 h3 h4 h5 h6
  refine ⟨d, cV ?_, Rel.refl .., h5.done h1 (by omega)⟩
  show cM _ _ _ _ _ _ = _
  have : decide ((1 : Int) ≤ ((0 : Nat) : Int)) = false := by simp
  simp only [cM, this, cond_false]
 | succ j ih =>
  intro d h1 h2 h3 h4 h5 h6
  have hd : decide ((1 : Int) ≤ ((j + 1 : Nat) : Int)) = true := by simp; omega
  have hs : cM (lo : Nat) (hi : Nat) x y d ((j + 1 : Nat) : Int) = if gN d (j + 1) < gN d j then some (.inl (swp d (j + 1) j, (j : Int))) else some (.inr d) := by
   unfold cM
   rw [hd, cond_true, wrN (x := ((j + 1 : Nat) : Int) - 1) (n := j) (by omega) (by omega), aQ (asN (by omega)), aQ (asN (by omega))]
   simp only [tY, Option.bind_some, Int.toNat_natCast, gN]
   by_cases h : d.getD (j + 1) default < d.getD j default
   ·simp only [h, decide_true, Bool.not_true, cond_false, if_true]
    rw [aQ (asN (by omega)), aQ (asN (by omega)), aQ (asN (by omega)), aQ (asN (by omega))]
    rfl
   ·simp only [h, decide_false, Bool.not_false, cond_true, if_false]
  by_cases h : gN d (j + 1) < gN d j
  ·rw [if_pos h] at hs
   have hlo : lo < j + 1 := by
    rcases h6 with h6 | h6
    ·omega
    ·rcases Nat.lt_or_ge lo (j + 1) with hh | hh
     ·exact hh
     ·have : lo = j + 1 := by omega
      have h7 := h6 (j + 1) (by omega) h2
      rw [this] at h7
      simp only [Nat.add_sub_cancel] at h7
      omega
   have r1 : Rel lo (i + 1) d (swp d (j + 1) j) := Rel.swp (i := j + 1) (j := j) (by omega) (by omega) (by omega) (by omega)
   obtain ⟨d', e, r, s⟩ := ih (swp d (j + 1) j) (by omega) (by omega) (by rw [iM]; exact h3) (by rw [iM]; exact h4) (h5.next hlo h2 h3 h) ((LU r1 (h6.imp id fun h k a b => h k a (by omega))).imp id fun h k a b => h k a (by omega))
   exact ⟨d', (fO hs).trans e, r1.trans r, s⟩
  ·rw [if_neg h] at hs
   exact ⟨d, cV hs, Rel.refl .., h5.done h1 fun hh => h hh.2⟩

theorem aFQ {lo hi i : Nat} (x y : Int) : ∀ (n j : Nat) (d : List Int), hi - j = n → i < j → hi ≤ d.length → d.length < 2305843009213693951 →
  ∃ d', lp (fun s : List Int × Int => cS (lo : Nat) (hi : Nat) x y s.1 s.2) (d, (j : Int)) = some d' ∧ Rel i hi d d' := by
 intro n
 induction n with
 | zero =>
  intro j d h1 h2 h3 h4
  refine ⟨d, cV ?_, Rel.refl ..⟩
  show cS _ _ _ _ _ _ = _
  have : decide ((j : Int) < (hi : Int)) = false := by simp; omega
  simp only [cS, this, cond_false]
 | succ n ih =>
  intro j d h1 h2 h3 h4
  have hd : decide ((j : Int) < (hi : Int)) = true := by simp; omega
  have hs : cS (lo : Nat) (hi : Nat) x y d (j : Nat) = if gN d j < gN d (j - 1) then some (.inl (swp d j (j - 1), ((j + 1 : Nat) : Int))) else some (.inr d) := by
   unfold cS
   rw [hd, cond_true, wrN (x := (j : Int) - 1) (n := j - 1) (by omega) (by omega), wrN (x := (j : Int) + 1) (n := j + 1) (by omega) (by omega), aQ (asN (by omega)), aQ (asN (by omega))]
   simp only [tY, Option.bind_some, Int.toNat_natCast, gN]
   by_cases h : d.getD j default < d.getD (j - 1) default
   ·simp only [h, decide_true, Bool.not_true, cond_false, if_true]
    rw [aQ (asN (by omega)), aQ (asN (by omega)), aQ (asN (by omega)), aQ (asN (by omega))]
    rfl
   ·simp only [h, decide_false, Bool.not_false, cond_true, if_false]
  by_cases h : gN d j < gN d (j - 1)
  ·rw [if_pos h] at hs
   obtain ⟨d', e, r⟩ := ih (j + 1) (swp d j (j - 1)) (by omega) (by omega) (by rw [iM]; exact h3) (by rw [iM]; exact h4)
   exact ⟨d', (fO hs).trans e, (Rel.swp (i := j) (j := j - 1) (by omega) (by omega) (by omega) (by omega)).trans r⟩
  ·rw [if_neg h] at hs
   exact ⟨d, cV hs, Rel.refl ..⟩

theorem aCg {lo hi i : Nat} (x : Int) {d : List Int} (h1 : lo < i) (h2 : i < hi) (h3 : hi ≤ d.length) (h4 : d.length < 2305843009213693951) :
  ∃ d', cL d (lo : Nat) (hi : Nat) (i : Nat) x = some (.inl (d', (i : Int), IntKind.i64.wrap (x + 1))) ∧ Rel i hi d d' := by
 unfold cL
 rw [wrN (x := (hi : Int) - (i : Int)) (n := hi - i) (by omega) (by omega)]
 by_cases h : (2 : Int) ≤ ((hi - i : Nat) : Int)
 ·simp only [h, decide_true, cond_true]
  unfold gZ
  rw [wrN (x := (i : Int) + 1) (n := i + 1) (by omega) (by omega)]
  obtain ⟨d', e, r⟩ := aFQ (lo := lo) (hi := hi) (i := i) (i : Int) x (hi - (i + 1)) (i + 1) d rfl (by omega) h3 h4
  rw [e]
  exact ⟨d', rfl, r⟩
 ·simp only [h, decide_false, cond_false]
  exact ⟨d, rfl, Rel.refl ..⟩

theorem aD7 {lo hi i : Nat} (x : Int) {d : List Int} (h1 : lo < i) (h2 : i ≤ hi) (h3 : hi ≤ d.length) (h4 : d.length < 2305843009213693951) (hs : rK lo i d) (hb : lo = 0 ∨ ∀ k, lo ≤ k → k < hi → gN d (lo - 1) ≤ gN d k) :
  (∃ (fl : Bool) (d' : List Int), dM d (lo : Nat) (hi : Nat) (i : Nat) x = some (.inr (.inr (fl, d'))) ∧ Rel lo hi d d' ∧ (fl = true → rK lo hi d')) ∨
  (∃ (d' : List Int) (i' : Nat), dM d (lo : Nat) (hi : Nat) (i : Nat) x = some (.inl (d', (i' : Int), IntKind.i64.wrap (x + 1))) ∧ Rel lo hi d d' ∧ lo < i' ∧ i' ≤ hi ∧ rK lo i' d') := by
 unfold dM
 obtain ⟨i', e, a1, a2, a3⟩ := aDY (lo := lo) (hi := hi) x h3 h4 (hi - i) i rfl (by omega) h2
 rw [e]
 simp only [Option.bind_some]
 have hs' := aAV (i' - i) i' rfl hs h1 a3
 unfold eW
 by_cases hi' : i' = hi
 ·have : decide ((i' : Int) = (hi : Int)) = true := by simp; omega
  rw [this, cond_true]
  left
  exact ⟨true, d, rfl, Rel.refl .., fun _ => hi' ▸ hs'⟩
 ·have hne : decide ((i' : Int) = (hi : Int)) = false := by simp; omega
  rw [hne, cond_false, wrN (x := (hi : Int) - (lo : Int)) (n := hi - lo) (by omega) (by omega)]
  by_cases h50 : ((hi - lo : Nat) : Int) < 50
  ·simp only [h50, decide_true, cond_true]
   left
   exact ⟨false, d, rfl, Rel.refl .., fun h => by cases h⟩
  ·simp only [h50, decide_false, cond_false]
   rw [wrN (x := (i' : Int) - 1) (n := i' - 1) (by omega) (by omega), wrN (x := (i' : Int) - (lo : Int)) (n := i' - lo) (by omega) (by omega)]
   simp only [Int.toNat_natCast]
   rw [aQ (asN (by omega)), aQ (asN (by omega)), aQ (asN (by omega)), aQ (asN (by omega))]
   have r1 : Rel lo hi d (swp d i' (i' - 1)) := Rel.swp (i := i') (j := i' - 1) (by omega) (by omega) (by omega) (by omega)
   have l1 : (swp d i' (i' - 1)).length = d.length := iM ..
   have g := vD (d := d) (i := i') (j := i' - 1) (by omega) (by omega)
   right
   by_cases hge : (2 : Int) ≤ ((i' - lo : Nat) : Int)
   ·simp only [hge, decide_true, cond_true]
    unfold iA
    have ins : JL lo (i' - 1) (i' - 1) (swp d i' (i' - 1)) := ⟨fun p q p1 p2 p3 p4 p5 => by
     rw [g, g, if_neg p4, if_neg p5, if_neg (by omega), if_neg (by omega)]
     exact hs' p q p1 p2 (by omega), fun q q1 q2 => by omega⟩
    obtain ⟨d2, e2, r2, s2⟩ := aEg (lo := lo) (hi := hi) (i := i' - 1) (i' : Int) x (i' - 1) (swp d i' (i' - 1)) (by omega) (Nat.le_refl _) (by rw [l1]; omega) (by rw [l1]; exact h4) ins ((LU r1 hb).imp id fun h k a b => h k a (by omega))
    have e2' : lp (fun s : List Int × Int => cM (lo : Int) (hi : Int) (i' : Int) x s.1 s.2) ((List.set (List.set d i' (List.getD d (i' - 1) default)) (i' - 1) (List.getD d i' default)), ((i' - 1 : Nat) : Int)) = some d2 := e2
    rw [e2']
    simp only [Option.bind_some]
    rw [show i' - 1 + 1 = i' by omega] at r2 s2
    have l2 : d2.length = d.length := by rw [r2.len, l1]
    obtain ⟨d3, e3, r3⟩ := aCg (lo := lo) (hi := hi) (i := i') x (d := d2) (by omega) (by omega) (by omega) (by omega)
    rw [e3]
    refine ⟨d3, i', rfl, (r1.trans (r2.mono (Nat.le_refl _) (by omega))).trans (r3.mono (by omega) (Nat.le_refl _)), by omega, a2, fun p q p1 p2 p3 => ?_⟩
    rw [r3.out p (by omega), r3.out q (by omega)]
    exact s2 p q p1 p2 p3
   ·simp only [hge, decide_false, cond_false]
    obtain ⟨d3, e3, r3⟩ := aCg (lo := lo) (hi := hi) (i := i') x (d := swp d i' (i' - 1)) (by omega) (by omega) (by omega) (by omega)
    have e3' : cL (List.set (List.set d i' (List.getD d (i' - 1) default)) (i' - 1) (List.getD d i' default)) (lo : Int) (hi : Int) (i' : Int) x = _ := e3
    rw [e3']
    refine ⟨d3, i', rfl, r1.trans (r3.mono (by omega) (Nat.le_refl _)), by omega, a2, ?_⟩
    have : i' = lo + 1 := by omega
    rw [this]; exact MX lo d3

theorem aGc {lo hi : Nat} : ∀ (n x i : Nat) (d : List Int), 5 - x = n → lo < i → i ≤ hi → hi ≤ d.length → d.length < 2305843009213693951 → rK lo i d → (lo = 0 ∨ ∀ k, lo ≤ k → k < hi → gN d (lo - 1) ≤ gN d k) → x ≤ 5 →
  ∃ (fl : Bool) (d' : List Int), (lp (fun s : List Int × Int × Int => cB (lo : Nat) (hi : Nat) s.1 s.2.1 s.2.2) (d, (i : Int), (x : Int))).bind (Sum.elim (fun rr => eV rr) (fun rr => some (rr.1, rr.2))) = some (fl, d') ∧ Rel lo hi d d' ∧ (fl = true → rK lo hi d') := by
 intro n
 induction n with
 | zero =>
  intro x i d h1 h2 h3 h4 h5 h6 h7 h8
  have hs : cB (lo : Nat) (hi : Nat) d (i : Nat) (x : Nat) = some (.inr (.inl d)) := by
   have : decide ((x : Int) < 5) = false := by simp; omega
   simp only [cB, this, cond_false]
  rw [cV (show (fun s : List Int × Int × Int => cB (lo : Nat) (hi : Nat) s.1 s.2.1 s.2.2) (d, (i : Int), (x : Int)) = _ from hs)]
  exact ⟨false, d, rfl, Rel.refl .., fun h => by cases h⟩
 | succ n ih =>
  intro x i d h1 h2 h3 h4 h5 h6 h7 h8
  have hl2 : cB (lo : Nat) (hi : Nat) d (i : Nat) (x : Nat) = dM d (lo : Nat) (hi : Nat) (i : Nat) (x : Nat) := by
   have : decide ((x : Int) < 5) = true := by simp; omega
   simp only [cB, this, cond_true]
  rcases aD7 (lo := lo) (hi := hi) (x : Int) h2 h3 h4 h5 h6 h7 with ⟨fl, d', e, r, s⟩ | ⟨d', i', e, r, k1, k2, s⟩
  ·rw [cV (show (fun s : List Int × Int × Int => cB (lo : Nat) (hi : Nat) s.1 s.2.1 s.2.2) (d, (i : Int), (x : Int)) = _ from hl2.trans e)]
   exact ⟨fl, d', rfl, r, s⟩
  ·rw [wrN (x := (x : Int) + 1) (n := x + 1) (by omega) (by omega)] at e
   obtain ⟨fl, d2, e2, r2, s2⟩ := ih (x + 1) i' d' (by omega) k1 k2 (by rw [r.len]; exact h4) (by rw [r.len]; exact h5) s (LU r h7) (by omega)
   rw [fO (show (fun s : List Int × Int × Int => cB (lo : Nat) (hi : Nat) s.1 s.2.1 s.2.2) (d, (i : Int), (x : Int)) = _ from hl2.trans e)]
   exact ⟨fl, d2, e2, r.trans r2, s2⟩

theorem aDy {lo hi : Nat} {d : List Int} (h0 : lo < hi) (h1 : hi ≤ d.length) (h2 : d.length < 2305843009213693951) (hb : lo = 0 ∨ ∀ k, lo ≤ k → k < hi → gN d (lo - 1) ≤ gN d k) :
  ∃ (fl : Bool) (d' : List Int), eY d (lo : Int) (hi : Int) = some (fl, d') ∧ Rel lo hi d d' ∧ (fl = true → rK lo hi d') := by
 unfold eY hU
 rw [wrN (x := (lo : Int) + 1) (n := lo + 1) (by omega) (by omega)]
 exact aGc (lo := lo) (hi := hi) (5 - 0) 0 (lo + 1) d rfl (by omega) (by omega) h1 h2 (MX lo d) hb (by omega)

end Go.Abs
namespace Go.Abs
open Go
abbrev PS := List Int × Int × Int × Int × Bool × Bool

abbrev PR := List Int → Int → Int → Int → Option (List Int)

def BR (a b : Nat) (d d' : List Int) : Prop := Rel a b d d' ∧ rK a b d'

structure AV (a b lim : Nat) (d : List Int) : Prop where
 ab : a ≤ b
 bl : b ≤ d.length
 len : d.length < 2305843009213693951
 bnd : a = 0 ∨ ∀ k, a ≤ k → k < b → gN d (a - 1) ≤ gN d k
 lim : lim ≤ 100

def LP (rec : PR) (N : Nat) : Prop := ∀ (d : List Int) (a b lim : Nat), AV a b lim d → (rec d (a : Int) (b : Int) (lim : Int) = none ∧ N ≤ b - a) ∨ ∃ d', rec d (a : Int) (b : Int) (lim : Int) = some d' ∧ BR a b d d'

def HT (N a b : Nat) (d : List Int) (F : Option (PS ⊕ List Int)) : Prop :=
 (F = none ∧ N + 1 ≤ b - a) ∨ (∃ d', F = some (.inr d') ∧ BR a b d d') ∨
 ∃ (d' : List Int) (a' b' lim' : Nat) (wb wp : Bool), F = some (.inl (d', (a' : Int), (b' : Int), (lim' : Int), wb, wp)) ∧ b' - a' < b - a ∧ AV a' b' lim' d' ∧ ∀ d'', BR a' b' d' d'' → BR a b d d''

theorem BR.pre {a b : Nat} {d d1 d' : List Int} (r : Rel a b d d1) (h : BR a b d1 d') : BR a b d d' := ⟨r.trans h.1, h.2⟩

theorem HT.pre {N a b : Nat} {d d1 : List Int} {F : Option (PS ⊕ List Int)} (r : Rel a b d d1) (h : HT N a b d1 F) : HT N a b d F := by
 rcases h with h | ⟨d', h1, h2⟩ | ⟨d', a', b', lim', wb, wp, h1, h2, h3, h4⟩
 ·exact .inl h
 ·exact .inr (.inl ⟨d', h1, h2.pre r⟩)
 ·exact .inr (.inr ⟨d', a', b', lim', wb, wp, h1, h2, h3, fun d'' hg => (h4 d'' hg).pre r⟩)

theorem AV.rel {a b lim : Nat} {d d1 : List Int} (h : AV a b lim d) (r : Rel a b d d1) : AV a b lim d1 :=
 ⟨h.ab, by rw [r.len]; exact h.bl, by rw [r.len]; exact h.len, LU r h.bnd, h.lim⟩

theorem XH {a m b : Nat} {d : List Int} (hm : m < b) (h1 : ∀ k, a ≤ k → k < m → gN d k ≤ gN d m) (h2 : ∀ k, m < k → k < b → gN d m ≤ gN d k) (s1 : rK a m d) (s2 : rK (m + 1) b d) : rK a b d := by
 intro p q p1 p2 p3
 by_cases hq : q < m
 ·exact s1 p q p1 p2 hq
 ·by_cases hp : m < p
  ·exact s2 p q hp p2 p3
  ·have g1 : gN d p ≤ gN d m := by
    by_cases e : p = m
    ·rw [e]; exact Int.le_refl _
    ·exact h1 p p1 (by omega)
   have g2 : gN d m ≤ gN d q := by
    by_cases e : q = m
    ·rw [e]; exact Int.le_refl _
    ·exact h2 q (by omega) p3
   omega

theorem aCv {rec : PR} {N a b lim p : Nat} {d : List Int} (hrec : LP rec N) (hv : AV a b lim d) (h12 : 12 < b - a) (hp : a ≤ p ∧ p < b) (wb wp : Bool) (len : Int) :
  HT N a b d (iO rec d (a : Int) (b : Int) (lim : Int) wb wp len (p : Int)) := by
 have hb := hv.bl; have hl := hv.len
 -- with all equal ones on the left
 have eqc : 0 < a → ¬ gN d (a - 1) < gN d p → HT N a b d ((fG d (a : Int) (b : Int) (p : Int)).bind fun x20 => some (.inl (x20.2, x20.1, (b : Int), (lim : Int), wb, wp))) := by
  intro ha hn
  obtain ⟨m, d', e, m1, m2, r, q1, q2⟩ := UT (lo := a) (hi := b) (p := p) (d := d) (by omega) hb hl hp
  have hall : ∀ k, a ≤ k → k < b → gN d p ≤ gN d' k := by
   refine r.all (p := fun v => gN d p ≤ v) fun k k1 k2 => ?_
   rcases hv.bnd with h | h
   ·omega
   ·have := h k k1 k2; omega
  rw [e]
  refine .inr (.inr ⟨d', m, b, lim, wb, wp, rfl, by omega, ⟨m2, by rw [r.len]; exact hb, by rw [r.len]; exact hl, .inr fun k k1 k2 => ?_, hv.lim⟩, fun d'' hg => ⟨r.trans (hg.1.mono (by omega) (Nat.le_refl _)), fun x y x1 x2 x3 => ?_⟩⟩)
  ·have := q1 (m - 1) (by omega) (by omega); have := q2 k k1 k2; omega
  ·by_cases hx : m ≤ x
   ·exact hg.2 x y hx x2 x3
   ·rw [hg.1.out x (by omega)]
    have g1 := q1 x x1 (by omega)
    by_cases hy : y < m
    ·rw [hg.1.out y (by omega)]
     have g2 := hall y (by omega) (by omega); omega
    ·have g2 := hg.1.all (p := fun v => gN d p < v) q2 y (by omega) x3
     omega
 -- a partition, and the lesser part first
 have ptc : HT N a b d ((iE d (a : Int) (b : Int) (p : Int)).bind fun x23 =>
   bE ((8 : Int) ≠ 0) <|
   cond (decide ((IntKind.i64.wrap (x23.1.1 - (a : Int))) < (IntKind.i64.wrap ((b : Int) - x23.1.1))))
   ((rec x23.2 (a : Int) x23.1.1 (lim : Int)).bind fun x28 =>
   some (.inl (x28, IntKind.i64.wrap (x23.1.1 + (1 : Int)), (b : Int), (lim : Int), decide ((IntKind.i64.wrap (Int.tdiv len (8 : Int))) ≤ (IntKind.i64.wrap (x23.1.1 - (a : Int)))), x23.1.2)))
   ((rec x23.2 (IntKind.i64.wrap (x23.1.1 + (1 : Int))) (b : Int) (lim : Int)).bind fun x31 =>
   some (.inl (x31, (a : Int), x23.1.1, (lim : Int), decide ((IntKind.i64.wrap (Int.tdiv len (8 : Int))) ≤ (IntKind.i64.wrap ((b : Int) - x23.1.1))), x23.1.2)))) := by
  obtain ⟨m, fl, d1, e, m1, m2, r, q1, q2⟩ := YT (lo := a) (hi := b) (p := p) (d := d) (by omega) hb hl hp
  have hv1 := hv.rel r
  rw [e]
  simp only [Option.bind_some]
  rw [aQ (by decide), wrN (x := (m : Int) + 1) (n := m + 1) (by omega) (by omega)]
  have vL : AV a m lim d1 := ⟨m1, by have := hv1.bl; omega, hv1.len, hv1.bnd.imp id fun h k k1 k2 => h k k1 (by omega), hv.lim⟩
  have vR : AV (m + 1) b lim d1 := ⟨by omega, hv1.bl, hv1.len, .inr fun k k1 k2 => by simpa using q2 k (by omega) k2, hv.lim⟩
  cases decide ((IntKind.i64.wrap ((m : Int) - (a : Int))) < (IntKind.i64.wrap ((b : Int) - (m : Int)))) with
  | true =>
   rw [cond_true]
   rcases hrec d1 a m lim vL with ⟨hn, hN⟩ | ⟨d2, e2, g2⟩
   ·rw [hn]; exact .inl ⟨rfl, by omega⟩
   ·rw [e2]
    simp only [Option.bind_some]
    have top : gN d2 m = gN d1 m := g2.1.out m (by omega)
    refine .inr (.inr ⟨d2, m + 1, b, lim, _, _, rfl, by omega, ⟨by omega, by rw [g2.1.len]; exact hv1.bl, by rw [g2.1.len]; exact hv1.len, .inr fun k k1 k2 => ?_, hv.lim⟩, fun d3 hg => ⟨(r.trans (g2.1.mono (Nat.le_refl _) (by omega))).trans (hg.1.mono (by omega) (Nat.le_refl _)), ?_⟩⟩)
    ·rw [show m + 1 - 1 = m by omega, top, g2.1.out k (by omega)]; exact q2 k (by omega) k2
    ·have o3 : ∀ k, k ≤ m → gN d3 k = gN d2 k := fun k hk => hg.1.out k (by omega)
     refine XH m2 (fun k k1 k2 => ?_) (fun k k1 k2 => ?_) (fun x y x1 x2 x3 => by rw [o3 x (by omega), o3 y (by omega)]; exact g2.2 x y x1 x2 x3) hg.2
     ·rw [o3 k (by omega), o3 m (by omega), top]
      exact g2.1.all (p := fun v => v ≤ gN d1 m) q1 k k1 k2
     ·rw [o3 m (by omega), top]
      exact hg.1.all (p := fun v => gN d1 m ≤ v) (fun k k1 k2 => by rw [g2.1.out k (by omega)]; exact q2 k (by omega) k2) k (by omega) k2
  | false =>
   rw [cond_false]
   rcases hrec d1 (m + 1) b lim vR with ⟨hn, hN⟩ | ⟨d2, e2, g2⟩
   ·rw [hn]; exact .inl ⟨rfl, by omega⟩
   ·rw [e2]
    simp only [Option.bind_some]
    have low : ∀ k, k ≤ m → gN d2 k = gN d1 k := fun k hk => g2.1.out k (by omega)
    refine .inr (.inr ⟨d2, a, m, lim, _, _, rfl, by omega, ⟨m1, by rw [g2.1.len]; have := hv1.bl; omega, by rw [g2.1.len]; exact hv1.len, ?_, hv.lim⟩, fun d3 hg => ⟨(r.trans (g2.1.mono (by omega) (Nat.le_refl _))).trans (hg.1.mono (Nat.le_refl _) (by omega)), ?_⟩⟩)
    ·rcases hv1.bnd with h | h
     ·exact .inl h
     ·exact .inr fun k k1 k2 => by rw [low (a - 1) (by omega), low k (by omega)]; exact h k k1 (by omega)
    ·have o3 : ∀ k, m ≤ k → gN d3 k = gN d2 k := fun k hk => hg.1.out k (by omega)
     refine XH m2 (fun k k1 k2 => ?_) (fun k k1 k2 => ?_) hg.2 (fun x y x1 x2 x3 => by rw [o3 x (by omega), o3 y (by omega)]; exact g2.2 x y x1 x2 x3)
     ·rw [o3 m (Nat.le_refl _), low m (Nat.le_refl _)]
      exact hg.1.all (p := fun v => v ≤ gN d1 m) (fun k k1 k2 => by rw [low k (by omega)]; exact q1 k k1 k2) k k1 k2
     ·rw [o3 m (Nat.le_refl _), low m (Nat.le_refl _), o3 k (by omega)]
      exact g2.1.all (p := fun v => gN d1 m ≤ v) (fun k k1 k2 => q2 k (by omega) k2) k (by omega) k2
 unfold iO
 by_cases ha : 0 < a
 ·have hd : decide ((0 : Int) < (a : Int)) = true := by simp; omega
  rw [hd, wrN (x := (a : Int) - 1) (n := a - 1) (by omega) (by omega), aQ fun _ => asN (by omega), aQ fun _ => asN (by omega)]
  simp only [dN, cond_true, tY, Option.bind_some, Bool.true_and, Int.toNat_natCast]
  by_cases hlt : gN d (a - 1) < gN d p
  ·simp only [gN] at hlt
   simp only [hlt, decide_true, Bool.not_true, cond_false]
   exact ptc
  ·have := eqc ha hlt
   simp only [gN] at hlt
   simp only [hlt, decide_false, Bool.not_false, cond_true]
   exact this
 ·have hd : decide ((0 : Int) < (a : Int)) = false := by simp; omega
  rw [hd, aQ (fun h => by cases h), aQ (fun h => by cases h)]
  simp only [dN, cond_false, Option.bind_some, Bool.false_and]
  exact ptc

theorem aBY {rec : PR} {N a b lim p : Nat} {d : List Int} (hrec : LP rec N) (hv : AV a b lim d) (h12 : 12 < b - a) (hp : a ≤ p ∧ p < b) (wb wp : Bool) (len hint : Int) :
  HT N a b d (iL rec d (a : Int) (b : Int) (lim : Int) wb wp len (p : Int) hint) := by
 unfold iL
 cases ((wb && wp) && (decide (hint = (1 : Int)))) with
 | false => exact aCv hrec hv h12 hp wb wp len
 | true =>
  rw [cond_true]
  obtain ⟨fl, d', e, r, s⟩ := aDy (lo := a) (hi := b) (d := d) (by omega) hv.bl hv.len hv.bnd
  rw [e]
  simp only [Option.bind_some]
  cases fl with
  | true => exact .inr (.inl ⟨d', rfl, r, s rfl⟩)
  | false => exact (aCv hrec (hv.rel r) h12 hp wb wp len).pre r

theorem aCF {rec : PR} {N a b lim : Nat} {d : List Int} (hrec : LP rec N) (hv : AV a b lim d) (h12 : 12 < b - a) (wb wp : Bool) (len : Int) :
  HT N a b d (iN rec d (a : Int) (b : Int) (lim : Int) wb wp len) := by
 have hb := hv.bl; have hl := hv.len
 unfold iN
 obtain ⟨p, h, e, p1, p2⟩ := aBx (lo := a) (hi := b) (d := d) h12 hb hl
 rw [e]
 simp only [Option.bind_some]
 by_cases h2 : h = 2
 ·simp only [h2, decide_true, cond_true]
  obtain ⟨d', e2, r⟩ := aB2 (lo := a) (hi := b) (d := d) (by omega) hb (by omega)
  rw [e2]
  simp only [Option.bind_some]
  rw [wrN (x := (b : Int) - 1) (n := b - 1) (by omega) (by omega), wrN (x := (p : Int) - (a : Int)) (n := p - a) (by omega) (by omega), wrN (x := ((b - 1 : Nat) : Int) - ((p - a : Nat) : Int)) (n := b - 1 - (p - a)) (by omega) (by omega)]
  exact (aBY hrec (hv.rel r) h12 ⟨by omega, by omega⟩ wb wp len 1).pre r
 ·simp only [h2, decide_false, cond_false]
  exact aBY hrec hv h12 ⟨p1, p2⟩ wb wp len h

theorem aGb {rec : PR} {N a b lim : Nat} {d : List Int} (hrec : LP rec N) (hv : AV a b lim d) (wb wp : Bool) :
  HT N a b d (eP rec d (a : Int) (b : Int) (lim : Int) wb wp) := by
 have hb := hv.bl; have hl := hv.len; have hab := hv.ab
 unfold eP
 rw [wrN (x := (b : Int) - (a : Int)) (n := b - a) (by omega) (by omega)]
 by_cases h12 : ((b - a : Nat) : Int) ≤ 12
 ·simp only [h12, decide_true, cond_true]
  obtain ⟨d', e, r, s⟩ := aDB (lo := a) (hi := b) (d := d) hb (by omega) hab
  rw [e]
  exact .inr (.inl ⟨d', rfl, r, s⟩)
 ·simp only [h12, decide_false, cond_false]
  by_cases h0 : lim = 0
  ·have : decide ((lim : Int) = 0) = true := by simp; exact h0
   rw [this, cond_true]
   obtain ⟨d', e, r, s⟩ := aCI (lo := a) (hi := b) (d := d) (by omega) hb hl
   rw [e]
   exact .inr (.inl ⟨d', rfl, r, s⟩)
  ·have : decide ((lim : Int) = 0) = false := by simp; exact h0
   rw [this, cond_false]
   cases wb with
   | true => exact aCF hrec hv (by omega) true wp _
   | false =>
    simp only [Bool.not_false, cond_true]
    obtain ⟨d', e, r⟩ := aB4 (lo := a) (hi := b) (d := d) (by omega) hb hl
    rw [e]
    simp only [Option.bind_some]
    have hlim := hv.lim
    rw [wrN (x := (lim : Int) - 1) (n := lim - 1) (by omega) (by omega)]
    have hv' := hv.rel r
    exact (aCF hrec ⟨hv'.ab, hv'.bl, hv'.len, hv'.bnd, by omega⟩ (by omega) false wp _).pre r

theorem aER {S R : Type} {body : S → Option (S ⊕ R)} {s : S} (h : body s = none) : lp body s = none := by
 cases e : lp body s with
 | none => rfl
 | some r =>
  obtain ⟨k, hk⟩ := LO.1 e
  cases k with
  | zero => simp [iter] at hk
  | succ k => simp [iter, h] at hk

theorem aFJ {rec : PR} {N : Nat} (hrec : LP rec N) : ∀ (n a b lim : Nat) (d : List Int) (wb wp : Bool), b - a = n → AV a b lim d →
  (lp (fun s : PS => eP rec s.1 s.2.1 s.2.2.1 s.2.2.2.1 s.2.2.2.2.1 s.2.2.2.2.2) (d, (a : Int), (b : Int), (lim : Int), wb, wp) = none ∧ N + 1 ≤ b - a) ∨
  ∃ d', lp (fun s : PS => eP rec s.1 s.2.1 s.2.2.1 s.2.2.2.1 s.2.2.2.2.1 s.2.2.2.2.2) (d, (a : Int), (b : Int), (lim : Int), wb, wp) = some d' ∧ BR a b d d' := by
 intro n
 induction n using Nat.strongRecOn with
 | ind n ih =>
  intro a b lim d wb wp hn hv
  rcases aGb hrec hv wb wp with ⟨h1, h2⟩ | ⟨d', h1, h2⟩ | ⟨d', a', b', lim', wb', wp', h1, h2, h3, h4⟩
  ·exact .inl ⟨aER h1, h2⟩
  ·exact .inr ⟨d', cV h1, h2⟩
  ·rw [fO (show (fun s : PS => eP rec s.1 s.2.1 s.2.2.1 s.2.2.2.1 s.2.2.2.2.1 s.2.2.2.2.2) (d, (a : Int), (b : Int), (lim : Int), wb, wp) = _ from h1)]
   rcases ih (b' - a') (by omega) a' b' lim' d' wb' wp' rfl h3 with ⟨g1, g2⟩ | ⟨d2, g1, g2⟩
   ·exact .inl ⟨g1, by omega⟩
   ·exact .inr ⟨d2, g1, h4 d2 g2⟩

theorem ZE : ∀ k : Nat, LP (dR k) k
 | 0 => fun _ _ _ _ _ => .inl ⟨rfl, Nat.zero_le _⟩
 | k + 1 => fun d a b lim hv => by
  show (gT (dR k) d a b lim = none ∧ _) ∨ ∃ d', gT (dR k) d a b lim = some d' ∧ _
  unfold gT mD
  rcases aFJ (ZE k) (b - a) a b lim d true true rfl hv with ⟨h1, h2⟩ | ⟨d', h1, h2⟩
  ·rw [h1]; exact .inl ⟨rfl, h2⟩
  ·rw [h1]; exact .inr ⟨d', rfl, h2⟩

theorem aGa {a b lim : Nat} {d : List Int} (hv : AV a b lim d) : ∃ d', kK d (a : Int) (b : Int) (lim : Int) = some d' ∧ BR a b d d' := by
 unfold kK
 obtain ⟨d', e, g⟩ : ∃ d', dR (b - a + 1) d (a : Int) (b : Int) (lim : Int) = some d' ∧ BR a b d d' := by
  rcases ZE (b - a + 1) d a b lim hv with ⟨_, h⟩ | h
  ·omega
  ·exact h
 cases hf : VN (fun k => dR k d (a : Int) (b : Int) (lim : Int)) with
 | none =>
  exfalso
  unfold VN at hf
  have hex : ∃ k r, dR k d (a : Int) (b : Int) (lim : Int) = some r := ⟨_, d', e⟩
  rw [dif_pos hex] at hf
  obtain ⟨r, hr⟩ := Classical.choose_spec hex
  have hf' : dR (Classical.choose hex) d (a : Int) (b : Int) (lim : Int) = none := hf
  rw [hr] at hf'
  cases hf'
 | some r =>
  obtain ⟨k, hk⟩ := TW hf
  rcases ZE k d a b lim hv with ⟨h, _⟩ | ⟨d2, h, g2⟩
  ·rw [h] at hk; cases hk
  ·rw [h] at hk; cases hk; exact ⟨_, rfl, g2⟩

theorem aAC {d : List Int} (hl : d.length < 2305843009213693951) : ∃ d', gS d = some d' ∧ d'.Perm d ∧ d'.Pairwise (· ≤ ·) := by
 unfold gS
 have hL : ∃ L : Nat, lE (IntKind.u64.wrap ((List.length d : Nat) : Int)) = some (L : Int) ∧ L ≤ 100 := by
  rw [LI (by omega) (by omega)]
  by_cases h0 : d.length = 0
  ·rw [h0]; exact ⟨0, aDT, by omega⟩
  ·obtain ⟨k, e, h1, _⟩ := aC0 (x := ((List.length d : Nat) : Int)) (by omega) (by omega)
   exact ⟨k + 1, by rw [e]; rfl, by omega⟩
 obtain ⟨L, eL, hL⟩ := hL
 rw [eL]
 simp only [Option.bind_some]
 obtain ⟨d', e, g⟩ := aGa (a := 0) (b := d.length) (lim := L) (d := d) ⟨Nat.zero_le _, Nat.le_refl _, hl, .inl rfl, hL⟩
 have e' : kK d 0 ((List.length d : Nat) : Int) (L : Int) = some d' := e
 rw [e']
 refine ⟨d', rfl, g.1.perm, List.pairwise_iff_getElem.2 fun i j hi hj hij => ?_⟩
 have := g.2 i j (Nat.zero_le _) (by omega) (by rw [g.1.len] at hj; exact hj)
 simp only [gN, List.getD_eq_getElem?_getD, List.getElem?_eq_getElem hi, List.getElem?_eq_getElem hj] at this
 exact this

theorem aAz {d s : List Int} (hl : d.length < 2305843009213693951) (hp : s.Perm d) (hs : s.Pairwise (· ≤ ·)) : gS d = some s := by
 obtain ⟨d', e, p, q⟩ := aAC hl
 rw [e]
 congr 1
 exact (p.trans hp.symm).eq_of_pairwise (le := (· ≤ ·)) (fun a b _ _ h1 h2 => Int.le_antisymm h1 h2) q hs

end Go.Abs
namespace Go.Abs
open Go
def kS (frm : Int) (l : List aE) (c : List Int) : List Int := l.foldl (fun c e => if frm < e.At then jS e.At c else c) c

def yQ (frm : Int) (l : List aE) (m : List (Int × Int)) : List (Int × Int) := l.foldl (fun m e => if frm < e.At then fE m e.At 1 else m) m

def nR (l : List aE) (frm : Int) : List Int × Int :=
 if !eS l then ([], 2) else if !jT l then ([], 20) else if frm < 0 ∨ 1125899906842624 < frm then ([], 13) else if frm = 1125899906842624 then ([], 0) else (kS frm l [frm], 0)

theorem IU {k v : Int} : ∀ {m : List (Int × Int)}, k ∈ m.map (·.1) → (fE m k v).map (·.1) = m.map (·.1)
 | [], h => by simp at h
 | p :: m, h => by
  by_cases hp : p.1 = k
  ·simp [fE, hp]
  ·simp only [List.map_cons, List.mem_cons] at h
   rcases h with h | h
   ·exact absurd h.symm hp
   ·simp only [fE, hp, if_false, List.map_cons, IU h]

theorem UI {k v : Int} {m : List (Int × Int)} (h : k ∉ m.map (·.1)) : (fE m k v).map (·.1) = m.map (·.1) ++ [k] := by
 rw [IM fun p hp e => h (List.mem_map.2 ⟨p, hp, e⟩)]; simp

theorem HW {t : Int} : ∀ {ps : List Int}, t ∉ ps → (jS t ps).Perm (t :: ps)
 | [], _ => List.Perm.refl _
 | p :: r, h => by
  simp only [List.mem_cons, not_or] at h
  unfold jS
  rw [if_neg (fun e => h.1 e.symm)]
  split
  ·exact List.Perm.refl _
  ·exact (List.Perm.cons p (HW h.2)).trans (List.Perm.swap ..)

theorem FI {frm : Int} : ∀ {l : List aE} {c : List Int} {m : List (Int × Int)}, (∀ e ∈ l, e.At < 1125899906842624) → Inc (frm - 1) c → (m.map (·.1)).Perm c →
  ((yQ frm l m).map (·.1)).Perm (kS frm l c) ∧ Inc (frm - 1) (kS frm l c)
 | [], _, _, _, hi, hp => ⟨hp, hi⟩
 | e :: l, c, m, he, hi, hp => by
  have hl : ∀ e ∈ l, e.At < 1125899906842624 := fun q hq => he q (List.mem_cons_of_mem _ hq)
  by_cases h : frm < e.At
  ·have e1 : yQ frm (e :: l) m = yQ frm l (fE m e.At 1) := by simp [yQ, h]
   have e2 : kS frm (e :: l) c = kS frm l (jS e.At c) := by simp [kS, h]
   rw [e1, e2]
   refine FI hl (CC hi (by omega) (he e (by simp))) ?_
   by_cases hm : e.At ∈ m.map (·.1)
   ·rw [IU hm, HS hi (hp.mem_iff.1 hm)]; exact hp
   ·rw [UI hm]
    exact ((List.perm_append_comm).trans (List.Perm.cons _ hp)).trans (HW fun hc => hm (hp.mem_iff.2 hc)).symm
  ·have e1 : yQ frm (e :: l) m = yQ frm l m := by simp [yQ, h]
   have e2 : kS frm (e :: l) c = kS frm l c := by simp [kS, h]
   rw [e1, e2]
   exact FI hl hi hp

theorem FA {frm : Int} : ∀ {l : List aE} {c : List Int}, (kS frm l c).length ≤ c.length + l.length
 | [], c => by simp [kS]
 | e :: l, c => by
  by_cases h : frm < e.At
  ·have e2 : kS frm (e :: l) c = kS frm l (jS e.At c) := by simp [kS, h]
   rw [e2]
   have h1 := FA (frm := frm) (l := l) (c := jS e.At c)
   have h2 := LA (t := e.At) (ps := c)
   simp only [List.length_cons]; omega
  ·have e2 : kS frm (e :: l) c = kS frm l c := by simp [kS, h]
   rw [e2]
   have h1 := FA (frm := frm) (l := l) (c := c)
   simp only [List.length_cons]; omega

theorem FH {frm x : Int} : ∀ {l : List aE} {c : List Int}, x ∈ kS frm l c ↔ x ∈ c ∨ ∃ e ∈ l, e.At = x ∧ frm < x
 | [], c => by simp [kS]
 | e :: l, c => by
  by_cases h : frm < e.At
  ·have e2 : kS frm (e :: l) c = kS frm l (jS e.At c) := by simp [kS, h]
   rw [e2, FH, FP]
   constructor
   ·rintro ((h1 | h1) | ⟨q, h1, h2⟩)
    ·exact .inr ⟨e, by simp, h1.symm, by omega⟩
    ·exact .inl h1
    ·exact .inr ⟨q, by simp [h1], h2⟩
   ·rintro (h1 | ⟨q, h1, h2, h3⟩)
    ·exact .inl (.inr h1)
    ·rcases List.mem_cons.1 h1 with rfl | h1
     ·exact .inl (.inl h2.symm)
     ·exact .inr ⟨q, h1, h2, h3⟩
  ·have e2 : kS frm (e :: l) c = kS frm l c := by simp [kS, h]
   rw [e2, FH]
   constructor
   ·rintro (h1 | ⟨q, h1, h2⟩)
    ·exact .inl h1
    ·exact .inr ⟨q, by simp [h1], h2⟩
   ·rintro (h1 | ⟨q, h1, h2, h3⟩)
    ·exact .inl h1
    ·rcases List.mem_cons.1 h1 with rfl | h1
     ·exact absurd (h2 ▸ h3) h
     ·exact .inr ⟨q, h1, h2, h3⟩

theorem yZ : ∀ {ps : List Int} {last : Int}, Inc last ps → ps.Pairwise (· < ·)
 | [], _, _ => List.Pairwise.nil
 | p :: r, last, h => List.Pairwise.cons (fun x hx => (h.2.above x hx).1) (yZ h.2)

theorem RL {ps : List Int} {last : Int} (h : Inc last ps) : ps.Pairwise (· ≤ ·) := (yZ h).imp fun h => by omega

theorem ZM {frm : Int} {l : List aE} (hl : l.length ≤ 1000000) (m : List (Int × Int)) : lp (fun s : List (Int × Int) × Int => pI frm l ((l.length : Nat) : Int) s.1 s.2) (m, 0) = some (yQ frm l m) := by
 refine xD (l := l) (body := fun s : List (Int × Int) × Int => pI frm l ((l.length : Nat) : Int) s.1 s.2) (fun (s : List (Int × Int)) i => (s, i)) (fun s r => yQ frm r s) (fun _ _ => True) m ?_ ?_ trivial
 ·intro i a r s ha _
  left
  obtain ⟨d1, d2, d3, d4⟩ := idx ha (by omega)
  by_cases h : frm < a.At
  ·refine ⟨fE s a.At 1, ?_, trivial, by simp [yQ, h]⟩
   simp only [pI, sR, d1, cond_true, aQ d2, d3, d4, h, decide_true]
  ·refine ⟨s, ?_, trivial, by simp [yQ, h]⟩
   simp only [pI, sR, d1, cond_true, aQ d2, d3, d4, h, decide_false, cond_false]
 ·intro s _
  simp only [pI, kL, cond_false]; rfl

theorem UB {m : List (Int × Int)} : ∀ {q : List (Int × Int)} {out : List Int}, out.length + q.length ≤ 1000000 → dQ (fun (s : List Int) (x : Int × Int) => tE m s x.1 x.2) out q = some (out ++ q.map (·.1))
 | [], out, _ => by simp [dQ]
 | x :: q, out, h => by
  simp only [List.length_cons] at h
  have e1 : tE m out x.1 x.2 = some (out ++ [x.1]) := by
   unfold tE
   rw [aQ (by simp only [List.length_cons, List.length_nil]; omega)]
  simp only [dQ, e1, Option.bind_some]
  rw [UB (by simp only [List.length_append, List.length_cons, List.length_nil]; omega)]
  simp

theorem ZS {l : List aE} (hl : okL l) (frm : Int) : yI l frm = some (nR l frm) := by
 unfold yI nR
 rw [DH hl, Option.bind_some]
 cases hm : eS l with
 | false => simp
 | true =>
  simp only [Bool.not_true, cond_false, Bool.false_eq_true, if_false, FT hl, Option.bind_some]
  cases ht : jT l with
  | false => simp
  | true =>
   simp only [Bool.not_true, cond_false, Bool.false_eq_true, if_false]
   by_cases h1 : frm < 0 ∨ 1125899906842624 < frm
   ·have : (decide (frm < 0) || decide (1125899906842624 < frm)) = true := by simpa using h1
    rw [this, cond_true, if_pos h1]
   ·have : (decide (frm < 0) || decide (1125899906842624 < frm)) = false := by simpa using h1
    rw [this, cond_false, if_neg h1]
    by_cases h2 : frm = 1125899906842624
    ·simp [h2]
    ·rw [decide_eq_false h2, cond_false, if_neg h2]
     have hn := (jN hm).1
     have hat : ∀ e ∈ l, e.At < 1125899906842624 := fun e he => (xS hm he).2.2.1
     obtain ⟨p1, p2⟩ := FI (frm := frm) (l := l) (c := [frm]) (m := [(frm, 1)]) hat ⟨⟨by omega, by omega⟩, trivial⟩ (List.Perm.refl _)
     have hcl := FA (frm := frm) (l := l) (c := [frm])
     have hsl : (yQ frm l [(frm, 1)]).length = (kS frm l [frm]).length := by have := p1.length_eq; simpa using this
     simp only [List.length_cons, List.length_nil] at hcl
     have e0 : fE ([] : List (Int × Int)) frm 1 = [(frm, 1)] := rfl
     rw [e0]
     unfold AQ
     rw [ZM (by omega), Option.bind_some]
     unfold wL
     rw [aQ (by omega)]
     unfold AF
     refine JX fun q hq => ?_
     rw [UB (by have := hq.length_eq; simp only [List.length_nil]; omega), Option.bind_some, List.nil_append]
     unfold zX zW
     have hp : (kS frm l [frm]).Perm (q.map (·.1)) := ((hq.map (·.1)).trans p1).symm
     rw [aAz (s := kS frm l [frm]) (by have := hp.length_eq; omega) hp (RL p2)]
     rfl

theorem NW {l : List aE} {frm : Int} (h : (nR l frm).2 = 0) : eS l = true ∧ jT l = true ∧ 0 ≤ frm ∧ ((frm = 1125899906842624 ∧ (nR l frm).1 = []) ∨ (frm < 1125899906842624 ∧ (nR l frm).1 = kS frm l [frm])) := by
 unfold nR at h ⊢
 cases hm : eS l with
 | false => simp [hm] at h
 | true =>
  cases ht : jT l with
  | false => simp [hm, ht] at h
  | true =>
   by_cases h1 : frm < 0 ∨ 1125899906842624 < frm
   ·simp [hm, ht, h1] at h
   ·by_cases h2 : frm = 1125899906842624
    ·subst h2; simp
    ·simp only [hm, ht, h1, h2, Bool.not_true, Bool.false_eq_true, if_false, true_and, false_and, false_or, and_true]
     omega

theorem aDk {l : List aE} {frm : Int} (h : (nR l frm).2 ≠ 0) : (nR l frm).1 = [] := by
 unfold nR at h ⊢
 split
 ·rfl
 ·split
  ·rfl
  ·split
   ·rfl
   ·split
    ·rfl
    ·rename_i h1 h2 h3 h4; simp [h1, h2, h3, h4] at h

theorem BX {l : List aE} {frm : Int} : Inc (frm - 1) (nR l frm).1 ∧ (nR l frm).1.length ≤ 4097 := by
 by_cases h : (nR l frm).2 = 0
 ·obtain ⟨hm, _, _, ⟨_, h2⟩ | ⟨h1, h2⟩⟩ := NW h
  ·rw [h2]; exact ⟨trivial, by simp⟩
  ·rw [h2]
   refine ⟨(FI (frm := frm) (l := l) (c := [frm]) (m := [(frm, 1)]) (fun e he => (xS hm he).2.2.1) ⟨⟨by omega, h1⟩, trivial⟩ (List.Perm.refl _)).2, ?_⟩
   have h4 := (jN hm).1
   have h3 := FA (frm := frm) (l := l) (c := [frm])
   simp only [List.length_cons, List.length_nil] at h3
   omega
 ·rw [aDk h]; exact ⟨trivial, by simp⟩

end Go.Abs
namespace Go.Abs
open Go
def oK (t : Int) (gs : List (List aI × List aB)) : List bB := gs.filterMap fun g => if 0 < val g.2 t then some ⟨g.1, val g.2 t⟩ else none

def nA (al : Int → List bB) : List Int → List aN
 | [] => []
 | t :: cs => (if al t = [] then [] else [⟨⟨t, cs.headD 1125899906842624⟩, al t⟩]) ++ nA al cs

def aDJ (x : List aN) : List aN × Int := if 1024 < x.length then ([], 7) else (x, 0)

def yH (l : List aE) (frm : Int) : List aN × Int := if (nR l frm).2 ≠ 0 then ([], (nR l frm).2) else aDJ (nA (fun t => oK t (groups l)) (nR l frm).1)

theorem ZW (t : Int) (g : List aI × List aB) (gs : List (List aI × List aB)) : oK t (g :: gs) = (if 0 < val g.2 t then [⟨g.1, val g.2 t⟩] else []) ++ oK t gs := by
 unfold oK
 rw [List.filterMap_cons]
 by_cases h : 0 < val g.2 t <;> simp [h]

theorem aBg (t : Int) (gs : List (List aI × List aB)) : (oK t gs).length ≤ gs.length := List.length_filterMap_le ..

theorem GF {r : List aI} (h : r.length ≤ 4398046510976) : gG r = some r := by
 unfold gG
 rw [aQ (by omega)]

theorem XL {gs : List (List aI × List aB)} (hg : ∀ g ∈ gs, eO g.2 = true ∧ g.1.length ≤ 4398046510976) (hn : gs.length ≤ 1000000) (t : Int) : sQ t (gs.map fun g => ⟨g.1, g.2⟩) = some (oK t gs) := by
 unfold sQ vO
 rw [List.length_map]
 have key := xD (l := gs) (body := fun s : List bB × Int => nP t (gs.map fun g => ⟨g.1, g.2⟩) ((gs.length : Nat) : Int) s.1 s.2) (fun (s : List bB) i => (s, i)) (fun s r => s ++ oK t r)
  (fun s r => s.length + r.length ≤ 1000000 ∧ ∀ g ∈ r, eO g.2 = true ∧ g.1.length ≤ 4398046510976) [] ?_ ?_ ⟨by simpa using hn, hg⟩
 ·rw [key]; rfl
 ·rintro i a r s ha ⟨hs, hr⟩
  left
  simp only [List.length_cons] at hs
  have ha' : (gs.map fun g => (⟨g.1, g.2⟩ : cC))[i]? = some ⟨a.1, a.2⟩ := by rw [List.getElem?_map, ha]; rfl
  obtain ⟨d1, d2, d3, d4⟩ := idx ha' (by rw [List.length_map]; omega)
  rw [List.length_map] at d1
  obtain ⟨m1, m2⟩ := hr a (by simp)
  have hr' : ∀ g ∈ r, eO g.2 = true ∧ g.1.length ≤ 4398046510976 := fun g hg => hr g (by simp [hg])
  rw [ZW]
  by_cases h : 0 < val a.2 t
  ·refine ⟨s ++ [⟨a.1, val a.2 t⟩], ?_, ⟨by simp only [List.length_append, List.length_cons, List.length_nil]; omega, hr'⟩, by simp [h]⟩
   simp only [nP, pP, d1, cond_true, aQ d2, d3, d4, aBn, m1, if_true, Option.bind_some, h, decide_true, GF m2]
   rw [aQ (by simp only [List.length_cons, List.length_nil]; omega)]
  ·refine ⟨s, ?_, ⟨by omega, hr'⟩, by simp [h]⟩
   simp only [nP, pP, d1, cond_true, aQ d2, d3, d4, aBn, m1, if_true, Option.bind_some, h, decide_false, cond_false]
 ·rintro s _
  simp only [nP, kL, cond_false]
  simp [oK]

theorem OS (al : Int → List bB) : ∀ cs : List Int, (nA al cs).length ≤ cs.length
 | [] => by simp [nA]
 | t :: cs => by
  unfold nA
  have := OS al cs
  split <;> simp <;> omega

theorem aDV {cs r : List Int} {t : Int} {i : Nat} (hd : cs.drop i = t :: r) (d : Int) : (cs[i + 1]?).getD d = r.headD d := by
 have := (drop_cons hd).2
 rw [← List.head?_drop, this]
 cases r <;> rfl

theorem YP {cuts : List Int} {gs : List (List aI × List aB)} (hc : cuts.length ≤ 1000000) (hg : ∀ g ∈ gs, eO g.2 = true ∧ g.1.length ≤ 4398046510976) (hn : gs.length ≤ 1000000) :
  lp (fun s : List aN × Int => nZ cuts (gs.map fun g => ⟨g.1, g.2⟩) cuts ((cuts.length : Nat) : Int) s.1 s.2) ([], 0) = some (if 1024 < (nA (fun t => oK t gs) cuts).length then .inr ([], 7) else .inl (nA (fun t => oK t gs) cuts)) := by
 let al := fun t => oK t gs
 have key : ∀ (r : List Int) (k : Nat) (s : List aN), cuts.drop k = r → k ≤ cuts.length → s.length ≤ 1024 →
   lp (fun s : List aN × Int => nZ cuts (gs.map fun g => ⟨g.1, g.2⟩) cuts ((cuts.length : Nat) : Int) s.1 s.2) (s, (k : Int)) = some (if 1024 < (s ++ nA al r).length then .inr ([], 7) else .inl (s ++ nA al r)) := by
  intro r
  induction r with
  | nil =>
   intro k s hd hk hs
   have : k = cuts.length := by
    have := congrArg List.length hd
    simp only [List.length_drop, List.length_nil] at this; omega
   subst this
   refine cV ?_
   simp only [nZ, kL, cond_false, nA, List.append_nil]
   rw [if_neg (by omega)]
  | cons t r ih =>
   intro k s hd hk hs
   obtain ⟨h1, h2⟩ := drop_cons hd
   obtain ⟨d1, d2, d3, d4⟩ := idx h1 (by omega)
   have hlt : k < cuts.length := (List.getElem?_eq_some_iff.1 h1).1
   have hb : nZ cuts (gs.map fun g => ⟨g.1, g.2⟩) cuts ((cuts.length : Nat) : Int) s (k : Int) =
     some (if al t = [] then .inl (s, ((k + 1 : Nat) : Int)) else if s.length = 1024 then .inr (.inr ([], 7)) else .inl (s ++ [⟨⟨t, r.headD 1125899906842624⟩, al t⟩], ((k + 1 : Nat) : Int))) := by
    simp only [nZ, uN, uU, d1, cond_true, aQ d2, d3, d4, XL hg hn, Option.bind_some]
    by_cases ha : oK t gs = []
    ·simp [al, ha]
    ·have ha1 : decide (((oK t gs).length : Int) = 0) = false := by
      rw [decide_eq_false_iff_not]; intro e
      exact ha (List.length_eq_zero_iff.1 (by omega))
     rw [ha1, cond_false, if_neg (show ¬ al t = [] from ha)]
     by_cases hs1 : s.length = 1024
     ·rw [if_pos hs1, decide_eq_true (by omega), cond_true]
     ·rw [if_neg hs1, decide_eq_false (by omega), cond_false]
      have hh := aDV hd 1125899906842624
      by_cases hk1 : k + 1 < cuts.length
      ·rw [decide_eq_true (by omega), cond_true, aQ (by omega), aQ (by simp only [List.length_cons, List.length_nil]; omega)]
       have : List.getD cuts (Int.toNat ((k + 1 : Nat) : Int)) default = r.headD 1125899906842624 := by
        rw [← hh, Int.toNat_natCast, List.getD_eq_getElem?_getD, List.getElem?_eq_getElem hk1]; rfl
       rw [this]
      ·rw [decide_eq_false (by omega), cond_false, aQ (by simp only [List.length_cons, List.length_nil]; omega)]
       have : r.headD 1125899906842624 = 1125899906842624 := by
        rw [← hh, List.getElem?_eq_none (by omega)]; rfl
       rw [this]
   by_cases ha : al t = []
   ·rw [if_pos ha] at hb
    rw [fO hb, ih (k + 1) s h2 (by omega) hs]
    simp [nA, ha]
   ·rw [if_neg ha] at hb
    by_cases hs1 : s.length = 1024
    ·rw [if_pos hs1] at hb
     rw [cV hb, if_pos]
     simp [nA, ha]; omega
    ·rw [if_neg hs1] at hb
     rw [fO hb, ih (k + 1) _ h2 (by omega) (by simp only [List.length_append, List.length_cons, List.length_nil]; omega)]
     simp [nA, ha]
 exact key cuts 0 [] rfl (by omega) (by simp)

theorem QE (c0 : List Int) (c : List aE) : ∀ (gs : List (List aI × List aB)) (out : List cC), out.length + gs.length ≤ 1000000 →
  itG (fun st t29 t30 => rnd (fun (s : List cC) => oA c0 c s t29 t30) st) gs (.inl out : List cC ⊕ List cC) = some (.inl (out ++ gs.map fun g => ⟨g.1, g.2⟩))
 | [], out, _ => by simp [itG]
 | g :: gs, out, h => by
  simp only [List.length_cons] at h
  have e1 : oA c0 c out g.1 g.2 = some (.inl (out ++ [⟨g.1, g.2⟩])) := by
   unfold oA
   rw [aQ (by simp only [List.length_cons, List.length_nil]; omega)]
  have e2 : rnd (fun (s : List cC) => oA c0 c s g.1 g.2) (.inl out : List cC ⊕ List cC) = some (.inl (out ++ [⟨g.1, g.2⟩]), true) := by
   simp only [rnd, e1, Option.bind_some]; rfl
  unfold itG
  rw [e2]
  simp only [Option.bind_some, if_true]
  rw [QE c0 c gs _ (by simp only [List.length_append, List.length_cons, List.length_nil]; omega)]
  simp

theorem CW {l : List aE} (hl : okL l) (hm : eS l = true) : (∀ g ∈ groups l, eO g.2 = true ∧ g.1.length ≤ 4398046510976) ∧ (groups l).length ≤ 4096 := by
 obtain ⟨h1, h2, _⟩ := jN hm
 exact ⟨fun g hg => ⟨(h2 g hg).2, FG hl hg⟩, by have := PK l; omega⟩

theorem XW {l : List aE} (hl : okL l) (frm : Int) : wI l frm = some (yH l frm) := by
 unfold wI yH
 rw [ZS hl, Option.bind_some]
 by_cases h : (nR l frm).2 = 0
 ·rw [if_neg (by simpa using h), decide_eq_true h, Bool.not_true, cond_false]
  have hm := (NW h).1
  obtain ⟨g1, g2⟩ := CW hl hm
  have hc := (BX (l := l) (frm := frm)).2
  unfold rN
  rw [Option.bind_some]
  unfold yV
  rw [PW hl (s' := .inl ([] ++ (groups l).map fun g => (⟨g.1, g.2⟩ : cC))) (by rw [hm, if_pos rfl]; exact QE _ _ _ _ (by simp; omega)), Option.bind_some, Sum.elim_inl, List.nil_append]
  unfold uK
  rw [YP (by omega) g1 (by omega)]
  unfold aDJ
  split <;> rfl
 ·rw [if_pos h, decide_eq_false h]; rfl

end Go.Abs
namespace Go.Abs
open Go
def jA (hop n : Int) : Int := if n < 0 then 0 else (n / hop + 1) * hop

def zC (size hop : Int) : Bool := (((decide ((1 : Int) ≤ size)) && (decide (size ≤ (1099511627776 : Int)))) && (decide ((1 : Int) ≤ hop))) && (decide (hop ≤ (1099511627776 : Int)))

def oF (t : Int) : Bool := (decide ((0 : Int) ≤ t)) && (decide (t ≤ (1125899906842624 : Int)))

def DC (size hop t : Int) : Int × Int :=
 if !zC size hop then (0, 2) else if !oF t then (0, 13) else if t = 1125899906842624 then (1125899906842624, 0) else (min (jA hop (t - size)) 1125899906842624, 0)

theorem LH {size hop : Int} (h : zC size hop = true) : 1 ≤ size ∧ size ≤ 1099511627776 ∧ 1 ≤ hop ∧ hop ≤ 1099511627776 := by
 simp only [zC, Bool.and_eq_true, decide_eq_true_eq] at h; omega

theorem DB {t : Int} (h : oF t = true) : 0 ≤ t ∧ t ≤ 1125899906842624 := by
 simp only [oF, Bool.and_eq_true, decide_eq_true_eq] at h; omega

theorem aDv {n hop : Int} (h : 0 ≤ n) : Int.tdiv n hop = n / hop := Int.tdiv_eq_ediv_of_nonneg h

theorem KP {n hop : Int} (hh : 1 ≤ hop) : n / hop * hop ≤ n ∧ n < (n / hop + 1) * hop := by
 have h1 := Int.mul_ediv_add_emod n hop
 have h2 := Int.emod_nonneg n (show hop ≠ 0 by omega)
 have h3 := Int.emod_lt_of_pos n (show 0 < hop by omega)
 rw [Int.add_mul, Int.mul_comm (n / hop) hop]
 omega

theorem wK {hop n : Int} (hh : 1 ≤ hop) : 0 ≤ jA hop n ∧ n < jA hop n ∧ (0 ≤ n → jA hop n ≤ n + hop) ∧ (n < 0 → jA hop n = 0) ∧ ∃ k : Int, jA hop n = k * hop := by
 unfold jA
 split
 ·exact ⟨Int.le_refl _, by omega, by omega, fun _ => rfl, 0, by simp⟩
 ·rename_i h
  have := KP (n := n) hh
  rw [Int.add_mul] at this ⊢
  refine ⟨by omega, by omega, by omega, by omega, n / hop + 1, by rw [Int.add_mul]⟩

theorem KL {hop n : Int} (h1 : 1 ≤ hop) (h2 : hop ≤ 1099511627776) (h3 : n ≤ 4503599627370496) : qZ hop n = some (jA hop n) := by
 unfold qZ
 by_cases hn : n < 0
 ·simp [hn, jA]
 ·have hn0 : 0 ≤ n := by omega
  have hm : Int.tmod n hop = n % hop := Int.tmod_eq_emod_of_nonneg hn0
  have hr : ¬ n % hop < 0 := by have := Int.emod_nonneg n (show hop ≠ 0 by omega); omega
  have hd0 : 0 ≤ n / hop := Int.ediv_nonneg hn0 (by omega)
  have hd1 : n / hop ≤ n := Int.ediv_le_self _ hn0
  have hf := KP (n := n) h1
  have e1 : wR (Int.tdiv n hop) = n / hop := by rw [aDv hn0]; exact cW (by omega) (by omega)
  have e2 : IntKind.i64.wrap (n / hop + 1) = n / hop + 1 := cW (by omega) (by omega)
  have e3 : IntKind.i64.wrap ((n / hop + 1) * hop) = (n / hop + 1) * hop := cW (by omega) (by rw [Int.add_mul]; omega)
  have e0 : xX n hop = some (n / hop, n % hop, 0) := by
   unfold xX
   have hb : decide (hop < 1) = false := by simp; omega
   rw [hb, cond_false, aQ (by omega), aQ (by omega), hm, decide_eq_false hr, cond_false]
   unfold wC
   rw [show IntKind.i64.wrap (Int.tdiv n hop) = n / hop from e1]
  have hb : decide (n < (0 : Int)) = false := decide_eq_false hn
  rw [hb, cond_false, e0]
  simp only [Option.bind_some, e2, e3, jA, if_neg hn]

theorem aFu {size hop t : Int} : AD size hop t = some (DC size hop t) := by
 unfold AD DC
 simp only [zP, uB, Option.bind_some]
 rw [show ((((decide ((1 : Int) ≤ size)) && (decide (size ≤ (1099511627776 : Int)))) && (decide ((1 : Int) ≤ hop))) && (decide (hop ≤ (1099511627776 : Int)))) = zC size hop from rfl, show ((decide ((0 : Int) ≤ t)) && (decide (t ≤ (1125899906842624 : Int)))) = oF t from rfl]
 cases hm : zC size hop with
 | false => rfl
 | true =>
  cases ht : oF t with
  | false => rfl
  | true =>
   have hm' := LH hm; have ht' := DB ht
   by_cases hf : t = 1125899906842624
   ·simp [hf]
   ·have e1 : IntKind.i64.wrap (t - size) = t - size := cW (by omega) (by omega)
    simp only [Bool.not_true, cond_false, decide_eq_false hf, Bool.false_eq_true, if_false, if_neg hf, e1]
    rw [KL hm'.2.2.1 hm'.2.2.2 (by omega)]
    simp only [Option.bind_some]
    have : (if (1125899906842624 : Int) < jA hop (t - size) then (1125899906842624 : Int) else jA hop (t - size)) = min (jA hop (t - size)) 1125899906842624 := by
     rw [Int.min_def]; split <;> split <;> omega
    rw [this]

def aEF (hop : Int) : Nat → Int → List Int
 | 0, _ => []
 | n + 1, t => t :: aEF hop n (t + hop)

def EE (hop t b : Int) : List Int := aEF hop ((b - t + hop - 1) / hop).toNat t

theorem NJ {hop t b : Int} (hh : 1 ≤ hop) (h : b ≤ t) : EE hop t b = [] := by
 unfold EE
 have : (b - t + hop - 1) / hop ≤ 0 := by
  have h1 : b - t + hop - 1 < 1 * hop := by omega
  have := Int.ediv_lt_of_lt_mul (by omega) h1
  omega
 rw [show ((b - t + hop - 1) / hop).toNat = 0 by omega]; rfl

theorem JR {hop t b : Int} (hh : 1 ≤ hop) (h : t < b) : EE hop t b = t :: EE hop (t + hop) b := by
 unfold EE
 have h1 : (b - t + hop - 1) / hop = (b - (t + hop) + hop - 1) / hop + 1 := by
  rw [show b - t + hop - 1 = (b - (t + hop) + hop - 1) + hop by omega, Int.add_ediv_of_dvd_right (Int.dvd_refl hop), Int.ediv_self (by omega)]
 have h2 : 0 ≤ (b - (t + hop) + hop - 1) / hop := Int.ediv_nonneg (by omega) (by omega)
 rw [h1, show ((b - (t + hop) + hop - 1) / hop + 1).toNat = ((b - (t + hop) + hop - 1) / hop).toNat + 1 by omega]
 rfl

theorem MV {hop b : Int} (hh : 1 ≤ hop) {C : Int → Prop} (h0 : ∀ t, b ≤ t → C t) (h1 : ∀ t, t < b → C (t + hop) → C t) (t : Int) : C t := by
 generalize hn : (b - t).toNat = n
 induction n using Nat.strongRecOn generalizing t with
 | ind n ih =>
  by_cases h : t < b
  ·exact h1 t h (ih (b - (t + hop)).toNat (by omega) _ rfl)
  ·exact h0 t (by omega)

theorem VP {hop b x : Int} (hh : 1 ≤ hop) : ∀ t, x ∈ EE hop t b ↔ ∃ k : Nat, x = t + k * hop ∧ x < b := by
 refine MV hh (b := b) (fun t h => ?_) (fun t h ih => ?_)
 ·rw [NJ hh h]
  simp only [List.not_mem_nil, false_iff, not_exists, not_and]
  intro k hk
  have : 0 ≤ (k : Int) * hop := Int.mul_nonneg (by omega) (by omega)
  omega
 ·rw [JR hh h, List.mem_cons, ih]
  constructor
  ·rintro (rfl | ⟨k, rfl, hk⟩)
   ·exact ⟨0, by simp, h⟩
   ·refine ⟨k + 1, ?_, hk⟩
    rw [Int.natCast_add, Int.add_mul]; omega
  ·rintro ⟨k, hk1, hk2⟩
   match k with
   | 0 => left; simpa using hk1
   | k + 1 =>
    right
    refine ⟨k, ?_, hk2⟩
    rw [Int.natCast_add, Int.add_mul] at hk1; omega

theorem aDc {hop b : Int} (hh : 1 ≤ hop) : ∀ t, (EE hop t b).Pairwise (· < ·) ∧ ∀ x ∈ EE hop t b, t ≤ x := by
 refine MV hh (b := b) (fun t h => ?_) (fun t h ih => ?_)
 ·rw [NJ hh h]; simp
 ·rw [JR hh h]
  refine ⟨List.pairwise_cons.2 ⟨fun x hx => ?_, ih.1⟩, fun x hx => ?_⟩
  ·have := ih.2 x hx; omega
  ·rcases List.mem_cons.1 hx with rfl | hx
   ·exact Int.le_refl _
   ·have := ih.2 x hx; omega

def zG {σ α : Type} (y : σ → α → Option (σ × Bool)) : List α → σ → Option σ
 | [], s => some s
 | a :: r, s => (y s a).bind fun x => if x.2 then zG y r x.1 else some x.1

def uL (size hop frm : Int) (s : bJ) : Int := max (jA hop (s.From - size)) (jA hop (frm - 1))

def wV (front : Int) (s : bJ) : Int := min (min s.To front) 1125899906842624

def tG (size hop frm front : Int) (s : bJ) : List Int := EE hop (uL size hop frm s) (wV front s)

structure OkH (size hop frm front : Int) : Prop where
 s0 : 1 ≤ size
 s1 : size ≤ 1099511627776
 h0 : 1 ≤ hop
 h1 : hop ≤ 1099511627776
 f0 : 0 ≤ frm
 f1 : frm ≤ 1125899906842624
 r0 : 0 ≤ front
 r1 : front ≤ 1125899906842624

theorem YI {σ : Type} {y : σ → Int → Option (σ × Bool)} {hop front : Int} {sp : bJ} (hh : 1 ≤ hop) (hh1 : hop ≤ 1099511627776) : ∀ (t : Int) (s s' : σ), 0 ≤ t → zG y (EE hop t (wV front sp)) s = some s' → qC y s hop sp front t = some s' := by
 have main : ∀ (t : Int), ∀ (s s' : σ), 0 ≤ t → zG y (EE hop t (wV front sp)) s = some s' → ∃ x, lp (fun s => kC y hop sp front s.1 s.2) (s, t) = some x ∧ Sum.elim id id x = s' := by
  have hbe : (if (1125899906842624 : Int) < (if front < sp.To then front else sp.To) then (1125899906842624 : Int) else (if front < sp.To then front else sp.To)) = wV front sp := by
   unfold wV; simp only [Int.min_def]; split <;> split <;> split <;> split <;> omega
  refine MV hh (b := wV front sp) (fun t h s s' ht hi => ?_) (fun t h ih s s' ht hi => ?_)
  ·rw [NJ hh h] at hi
   simp only [zG, Option.some.injEq] at hi
   refine ⟨.inl s, cV ?_, hi⟩
   show kC _ _ _ _ _ _ = _
   simp only [kC, hbe]
   rw [decide_eq_false (by omega), cond_false]
  ·rw [JR hh h] at hi
   simp only [zG] at hi
   obtain ⟨x, hx, hi⟩ := aW hi
   have hb1 : wV front sp ≤ 1125899906842624 := Int.min_le_right _ _
   have hw : IntKind.i64.wrap (t + hop) = t + hop := cW (by omega) (by omega)
   have hb : (fun s : σ × Int => kC y hop sp front s.1 s.2) (s, t) = some (if x.2 then .inl (x.1, t + hop) else .inr (.inr x.1)) := by
    show kC _ _ _ _ _ _ = _
    simp only [kC, hbe]
    rw [decide_eq_true h, cond_true, hx]
    simp only [Option.bind_some, hw]
    cases x.2 <;> rfl
   cases hx2 : x.2
   ·rw [hx2] at hb hi
    simp only [Bool.false_eq_true, if_false, Option.some.injEq] at hb hi
    exact ⟨_, cV hb, hi⟩
   ·rw [hx2] at hb hi
    simp only [if_true] at hb hi
    obtain ⟨z, hz1, hz2⟩ := ih x.1 s' (by omega) hi
    exact ⟨z, by rw [fO hb]; exact hz1, hz2⟩
 intro t s s' ht hi
 obtain ⟨x, h1, h2⟩ := main t s s' ht hi
 unfold qC
 rw [h1]
 cases x <;> simpa using h2

theorem aBm {σ : Type} {y : σ → Int → Option (σ × Bool)} {size hop frm front : Int} {sp : bJ} (ok : OkH size hop frm front) (h1 : -1 ≤ sp.From) (h2 : sp.From ≤ 1125899906842624) {s s' : σ} (h : zG y (tG size hop frm front sp) s = some s') :
  rA y hop sp size frm front s = some s' := by
 obtain ⟨a1, a2, a3, a4, a5, a6, a7, a8⟩ := ok
 unfold rA
 have w1 : IntKind.i64.wrap (sp.From - size) = sp.From - size := cW (by omega) (by omega)
 have w2 : IntKind.i64.wrap (frm - 1) = frm - 1 := cW (by omega) (by omega)
 rw [w1, w2, KL a3 a4 (by omega), KL a3 a4 (by omega)]
 simp only [Option.bind_some]
 have e : (if jA hop (frm - 1) > jA hop (sp.From - size) then jA hop (frm - 1) else jA hop (sp.From - size)) = uL size hop frm sp := by
  unfold uL; rw [Int.max_def]; split <;> split <;> omega
 rw [e]
 refine YI a3 a4 _ _ _ ?_ h
 have := (wK (n := sp.From - size) a3).1
 unfold uL; omega

end Go.Abs
namespace Go.Abs
open Go
def okC (x : List bB) : Prop := x.length ≤ 1000000 ∧ ∀ c ∈ x, c.Row.length ≤ 17592186044416

theorem UU {x : List bB} (h : okC x) : pL x x = some true := by
 unfold pL rJ
 rw [QV rfl, cond_false]
 have h1 := h.1
 rw [aCw (l := x) (body := fun s => mN x x s) (fun i => i) (fun _ => false) (.inr false) (.inl ()) ?_ ?_]
 ·simp [oL]
 ·intro i a ha
  obtain ⟨d1, d2, d3, d4⟩ := idx ha (by omega)
  simp only [mN, d1, cond_true, aQ d2, d3, d4, decide_true, Bool.not_true, Bool.not_false, dN, UJ a.Row a.Row (h.2 a (List.mem_of_getElem? ha)), Option.bind_some, Bool.false_or, cond_false]
  rw [aQ (fun _ => d2), aQ (fun _ => d2)]
  rfl
 ·simp only [mN, kL, cond_false]

theorem YG {x : List aN} (h1 : x.length ≤ 1000000) (h : ∀ p ∈ x, okC p.Rows) : wU x x = some true := by
 unfold wU yS
 rw [QV rfl, cond_false]
 rw [aCw (l := x) (body := fun s => rM x x s) (fun i => i) (fun _ => false) (.inr false) (.inl ()) ?_ ?_]
 ·simp [uQ]
 ·intro i a ha
  obtain ⟨d1, d2, d3, d4⟩ := idx ha (by omega)
  simp only [rM, d1, cond_true, aQ d2, d3, d4, decide_true, Bool.and_self, Bool.not_true, Bool.not_false, dN, UU (h a (List.mem_of_getElem? ha)), Option.bind_some, Bool.false_or, cond_false]
  rw [aQ (fun _ => d2), aQ (fun _ => d2)]
  rfl
 ·simp only [rM, kL, cond_false]

theorem aBz {gs : List (List aI × List aB)} (hg : ∀ g ∈ gs, eO g.2 = true ∧ g.1.length ≤ 4398046510976) (hn : gs.length ≤ 1000000) (t : Int) : okC (oK t gs) := by
 refine ⟨by have := aBg t gs; omega, fun c hc => ?_⟩
 obtain ⟨g, h1, h2⟩ := List.mem_filterMap.1 hc
 split at h2
 ·simp only [Option.some.injEq] at h2; subst h2
  have := (hg g h1).2; simp only; omega
 ·cases h2

theorem ON {al : Int → List bB} {p : aN} : ∀ {cs : List Int}, p ∈ nA al cs → ∃ t ∈ cs, p.Rows = al t ∧ p.Span.From = t
 | [], h => by simp [nA] at h
 | t :: cs, h => by
  unfold nA at h
  rcases List.mem_append.1 h with h | h
  ·split at h
   ·simp at h
   ·simp at h; subst h; exact ⟨t, by simp, rfl, rfl⟩
  ·obtain ⟨t', h1, h2⟩ := ON h
   exact ⟨t', by simp [h1], h2⟩

theorem aA9 {l : List aE} (hl : okL l) (frm : Int) : (yH l frm).1.length ≤ 4097 ∧ ∀ p ∈ (yH l frm).1, okC p.Rows := by
 unfold yH
 by_cases h : (nR l frm).2 = 0
 ·rw [if_neg (by simpa using h)]
  obtain ⟨g1, g2⟩ := CW hl (NW h).1
  unfold aDJ
  split
  ·simp
  ·refine ⟨by show (nA (fun t => oK t (groups l)) (nR l frm).1).length ≤ 4097; have := OS (fun t => oK t (groups l)) (nR l frm).1; have := (BX (l := l) (frm := frm)).2; omega, fun p hp => ?_⟩
   obtain ⟨t, _, h2, _⟩ := ON hp
   rw [h2]; exact aBz g1 (by omega) t
 ·rw [if_pos h]; simp

def VC : aI := ⟨1, 1, ByteArray.empty⟩

end Go.Abs
namespace Go.Abs
open Go
def oH (e : aE) : Bool := decide (0 < e.Net) && decide (-1 < e.At)

def bU (l : List aE) : List Int := (l.filter oH).foldl (fun c e => jS e.At c) []

theorem OR {S : Type} {body : S → aE → Option (S ⊕ S)} {l : List aE} (hl : l.length ≤ 1000000) (f : S → aE → S) (Inv : S → List aE → Prop)
  (h : ∀ s e r, Inv s (e :: r) → (oH e = true → body s e = some (.inl (f s e)) ∧ Inv (f s e) r) ∧ (oH e = false → Inv s r)) {s : S} (hi : Inv s l) :
  mX (fun st e => rnd (fun s => body s e) st) l (.inl s : S ⊕ S) = some (.inl ((l.filter oH).foldl f s)) := by
 unfold mX rI
 rw [xD (l := l) (body := fun s : (S ⊕ S) × Int => lA (fun st e => rnd (fun s => body s e) st) l ((l.length : Nat) : Int) s.1 s.2) (fun (s : S) i => (.inl s, i)) (fun s r => .inl (.inl ((r.filter oH).foldl f s))) Inv s ?_ ?_ hi]
 ·rfl
 ·intro i e r s he hI
  left
  obtain ⟨d1, d2, d3, d4⟩ := idx he (by omega)
  obtain ⟨h1, h2⟩ := h s e r hI
  cases hr : oH e with
  | true =>
   obtain ⟨b1, b2⟩ := h1 hr
   refine ⟨f s e, ?_, b2, by simp [hr]⟩
   have hc : (decide (0 < e.Net) && decide (-1 < e.At)) = true := hr
   simp only [lA, d1, cond_true, aQ d2, d3, d4, hc, BZ, rnd, b1, Option.bind_some, Bool.true_and]
   rfl
  | false =>
   refine ⟨s, ?_, h2 hr, by simp [hr]⟩
   have hc : (decide (0 < e.Net) && decide (-1 < e.At)) = false := hr
   simp only [lA, d1, cond_true, aQ d2, d3, d4, hc, BZ, cond_false, Option.bind_some, Bool.false_and]
 ·intro s _
  simp only [lA, kL, cond_false]
  rfl

theorem BY : ∀ {a b : List Int}, a.Pairwise (· < ·) → b.Pairwise (· < ·) → (∀ x, x ∈ a ↔ x ∈ b) → a = b
 | [], [], _, _, _ => rfl
 | [], y :: b, _, _, h => by have := (h y).2 (by simp); simp at this
 | x :: a, [], _, _, h => by have := (h x).1 (by simp); simp at this
 | x :: a, y :: b, ha, hb, h => by
  obtain ⟨a1, a2⟩ := List.pairwise_cons.1 ha
  obtain ⟨b1, b2⟩ := List.pairwise_cons.1 hb
  have hxy : x = y := by
   rcases List.mem_cons.1 ((h x).1 (by simp)) with h1 | h1
   ·exact h1
   ·rcases List.mem_cons.1 ((h y).2 (by simp)) with h2 | h2
    ·exact h2.symm
    ·have := a1 y h2; have := b1 x h1; omega
  subst hxy
  rw [BY a2 b2 fun z => ?_]
  constructor
  ·intro hz
   rcases List.mem_cons.1 ((h z).1 (by simp [hz])) with h1 | h1
   ·have := a1 z hz; omega
   ·exact h1
  ·intro hz
   rcases List.mem_cons.1 ((h z).2 (by simp [hz])) with h1 | h1
   ·have := b1 z hz; omega
   ·exact h1

theorem PI {d : List Int} (hd : d.Pairwise (· ≤ ·)) {i j : Nat} (hij : i ≤ j) (hj : j < d.length) : d.getD i 0 ≤ d.getD j 0 := by
 rw [List.getD_eq_getElem?_getD, List.getD_eq_getElem?_getD, List.getElem?_eq_getElem (by omega), List.getElem?_eq_getElem hj]
 rcases Nat.lt_or_ge i j with h | h
 ·exact List.pairwise_iff_getElem.1 hd i j (by omega) hj h
 ·have : i = j := by omega
  subst this; exact Int.le_refl _

theorem KM {d : List Int} {p : Nat} (hp : p < d.length) : d.take (p + 1) = d.take p ++ [d.getD p 0] := by
 rw [List.take_add_one, List.getElem?_eq_getElem hp, List.getD_eq_getElem?_getD, List.getElem?_eq_getElem hp]; rfl

theorem ZX {d : List Int} (hd : d.Pairwise (· ≤ ·)) {p : Nat} (hp : p < d.length) {x : Int} (hx : x ∈ d.take (p + 1)) : x ≤ d.getD p 0 := by
 obtain ⟨i, hi⟩ := List.getElem?_of_mem hx
 rw [List.getElem?_take] at hi
 split at hi
 ·rename_i hlt
  have := PI hd (i := i) (j := p) (by omega) hp
  rw [List.getD_eq_getElem?_getD (i := i), hi] at this
  exact this
 ·cases hi

def Kept (d c : List Int) (p : Nat) : Prop := c.Pairwise (· < ·) ∧ ∀ x, x ∈ c ↔ x ∈ d.take p

theorem Kept.same {d c : List Int} {p : Nat} (h : Kept d c p) (h0 : 0 < p) (hp : p < d.length) (e : d.getD p 0 = d.getD (p - 1) 0) : Kept d c (p + 1) := by
 refine ⟨h.1, fun x => ?_⟩
 rw [h.2 x, KM hp, List.mem_append]
 constructor
 ·exact .inl
 ·rintro (h1 | h1)
  ·exact h1
  ·rw [List.mem_singleton.1 h1, e]
   have : p - 1 < p := by omega
   refine List.mem_of_getElem? (i := p - 1) ?_
   rw [List.getElem?_take, if_pos this, List.getD_eq_getElem?_getD, List.getElem?_eq_getElem (by omega)]; rfl

theorem Kept.more {d c : List Int} {p : Nat} (hd : d.Pairwise (· ≤ ·)) (h : Kept d c p) (h0 : 0 < p) (hp : p < d.length) (e : d.getD p 0 ≠ d.getD (p - 1) 0) : Kept d (c ++ [d.getD p 0]) (p + 1) := by
 have hle := PI hd (i := p - 1) (j := p) (by omega) hp
 refine ⟨?_, fun x => by rw [KM hp, List.mem_append, List.mem_append, h.2 x]⟩
 rw [List.pairwise_append]
 refine ⟨h.1, by simp, fun a ha b hb => ?_⟩
 rw [List.mem_singleton.1 hb]
 have ha' := (h.2 a).1 ha
 have : a ≤ d.getD (p - 1) 0 := by
  refine ZX hd (by omega) ?_
  rwa [show p - 1 + 1 = p by omega]
 omega

theorem tK (d : List Int) (i : Nat) : d.getD i default = d.getD i 0 := rfl

theorem XO {d : List Int} (hd : d.Pairwise (· ≤ ·)) (hl : d.length ≤ 1000000) {k : Nat} (hk0 : 0 < k) (hk : k < d.length) {c : List Int} (hc : Kept d c (k + 1)) (hck : c = d.take k) :
  ∃ r, lp (fun s : List Int × Int × Int => fV (0 + Int.toNat ((k : Nat) : Int)) (d.length - Int.toNat ((k : Nat) : Int)) s.1 s.2.1 s.2.2) (d, ((k : Nat) : Int), 1) = some r ∧
   ∃ c' k3 : Nat → Nat, True ∧ ∃ (cc : List Int) (m : Nat), r.2 = ((m : Nat) : Int) ∧ r.1.length = d.length ∧ m ≤ d.length ∧ r.1.take m = cc ∧ Kept d cc d.length := by
 have key := YF (body := fun s : List Int × Int × Int => fV (0 + Int.toNat ((k : Nat) : Int)) (d.length - Int.toNat ((k : Nat) : Int)) s.1 s.2.1 s.2.2)
  (I := fun s => ∃ (k2 m : Nat), s.2.2 = ((k2 : Nat) : Int) ∧ s.2.1 = ((m : Nat) : Int) ∧ 0 < k2 ∧ k + k2 ≤ d.length ∧ s.1.length = d.length ∧ m + 1 ≤ k + k2 ∧ (∀ j, m ≤ j → s.1[j]? = d[j]?) ∧ Kept d (s.1.take m) (k + k2))
  (m := fun s => d.length + 1 - s.2.2.toNat) (Post := fun r => ∃ m : Nat, r.2 = ((m : Nat) : Int) ∧ r.1.length = d.length ∧ m ≤ d.length ∧ Kept d (r.1.take m) d.length) ?_ (s := (d, ((k : Nat) : Int), 1)) ?_
 ·obtain ⟨r, h1, m, h2, h3, h4, h5⟩ := key
  exact ⟨r, h1, id, id, trivial, _, m, h2, h3, h4, rfl, h5⟩
 ·rintro ⟨s0, k3, k25⟩ ⟨k2, m, e1, e2, g1, g2, g3, g4, g5, g6⟩
  simp only at e1 e2 g3 g5 g6
  subst e1 e2
  by_cases hlt : k + k2 < d.length
  ·left
   have hat : ∀ j, m ≤ j → s0.getD j 0 = d.getD j 0 := fun j hj => by
    rw [List.getD_eq_getElem?_getD, List.getD_eq_getElem?_getD, g5 j hj]
   have w1 : IntKind.i64.wrap (((k2 : Nat) : Int) - 1) = ((k2 - 1 : Nat) : Int) := by rw [cW (by omega) (by omega)]; omega
   have w2 : IntKind.i64.wrap (((k2 : Nat) : Int) + 1) = ((k2 + 1 : Nat) : Int) := by rw [cW (by omega) (by omega)]; omega
   have w3 : IntKind.i64.wrap (((m : Nat) : Int) + 1) = ((m + 1 : Nat) : Int) := by rw [cW (by omega) (by omega)]; omega
   have c1 : decide (((k2 : Nat) : Int) < ((d.length - Int.toNat ((k : Nat) : Int) : Nat) : Int)) = true := by
    rw [decide_eq_true_eq]; simp only [Int.toNat_natCast]; omega
   have c2 : (0 : Int) ≤ ((k2 : Nat) : Int) ∧ ((k2 : Nat) : Int) < ((d.length - Int.toNat ((k : Nat) : Int) : Nat) : Int) := ⟨by omega, by simp only [Int.toNat_natCast]; omega⟩
   have c3 : 0 + Int.toNat ((k : Nat) : Int) + Int.toNat ((k2 : Nat) : Int) < s0.length := by simp only [Int.toNat_natCast]; omega
   have c4 : (0 : Int) ≤ ((k2 - 1 : Nat) : Int) ∧ ((k2 - 1 : Nat) : Int) < ((d.length - Int.toNat ((k : Nat) : Int) : Nat) : Int) := ⟨by omega, by simp only [Int.toNat_natCast]; omega⟩
   have c5 : 0 + Int.toNat ((k : Nat) : Int) + Int.toNat ((k2 - 1 : Nat) : Int) < s0.length := by simp only [Int.toNat_natCast]; omega
   have c6 : (0 : Int) ≤ ((m : Nat) : Int) ∧ ((m : Nat) : Int) < ((s0.length : Nat) : Int) := ⟨by omega, by omega⟩
   have i1 : s0.getD (0 + Int.toNat ((k : Nat) : Int) + Int.toNat ((k2 : Nat) : Int)) default = d.getD (k + k2) 0 := by
    rw [tK, show 0 + Int.toNat ((k : Nat) : Int) + Int.toNat ((k2 : Nat) : Int) = k + k2 by simp only [Int.toNat_natCast]; omega]; exact hat _ (by omega)
   have i2 : s0.getD (0 + Int.toNat ((k : Nat) : Int) + Int.toNat ((k2 - 1 : Nat) : Int)) default = d.getD (k + k2 - 1) 0 := by
    rw [tK, show 0 + Int.toNat ((k : Nat) : Int) + Int.toNat ((k2 - 1 : Nat) : Int) = k + k2 - 1 by simp only [Int.toNat_natCast]; omega]; exact hat _ (by omega)
   by_cases he : d.getD (k + k2) 0 = d.getD (k + k2 - 1) 0
   ·refine ⟨(s0, ((m : Nat) : Int), ((k2 + 1 : Nat) : Int)), ?_, ⟨k2 + 1, m, rfl, rfl, by omega, by omega, g3, by omega, g5, ?_⟩, by simp only [Int.toNat_natCast]; omega⟩
    ·simp only [fV, jQ, c1, cond_true, aQ c2, aQ c3, w1, aQ c4, aQ c5, i1, i2, he, decide_true, Bool.not_true, cond_false, w2]
    ·exact g6.same (by omega) hlt he
   ·refine ⟨(s0.set m (d.getD (k + k2) 0), ((m + 1 : Nat) : Int), ((k2 + 1 : Nat) : Int)), ?_, ⟨k2 + 1, m + 1, rfl, rfl, by omega, by omega, by simpa using g3, by omega, fun j hj => ?_, ?_⟩, by simp only [Int.toNat_natCast]; omega⟩
    ·simp only [fV, jQ, c1, cond_true, aQ c2, aQ c3, w1, aQ c4, aQ c5, i1, i2, decide_eq_false he, Bool.not_false, aQ c6, w2, w3]
     rfl
    ·simp only
     rw [List.getElem?_set_ne (by omega)]; exact g5 j (by omega)
    ·have h1 := g6.more hd (by omega) hlt he
     have h2 : (s0.set m (d.getD (k + k2) 0)).take (m + 1) = s0.take m ++ [d.getD (k + k2) 0] := by
      rw [List.take_add_one, List.take_set_of_le (Nat.le_refl m), List.getElem?_set_self (by omega)]; rfl
     simp only
     rw [h2]; exact h1
  ·right
   have hk2 : k + k2 = d.length := by omega
   refine ⟨(s0, ((m : Nat) : Int)), ?_, m, rfl, g3, by omega, by rw [← hk2]; exact g6⟩
   have c1 : decide (((k2 : Nat) : Int) < ((d.length - Int.toNat ((k : Nat) : Int) : Nat) : Int)) = false := by
    rw [decide_eq_false_iff_not]; simp only [Int.toNat_natCast]; omega
   simp only [fV, c1, cond_false]
 ·refine ⟨1, k, rfl, rfl, by omega, by omega, rfl, by omega, fun _ _ => rfl, ?_⟩
  rw [← hck]; exact hc

theorem aBf {k : Nat} {d : List Int} : (kR k d).take k = d.take k := by
 unfold kR
 by_cases h : k ≤ d.length
 ·rw [List.take_append_of_le_length (by simp; omega), List.take_take]; simp
 ·have e1 : d.take k = d := List.take_of_length_le (by omega)
  rw [e1, show d.length - k = 0 by omega, List.replicate_zero, List.append_nil, e1]

theorem aBQ {d : List Int} (hd : d.Pairwise (· ≤ ·)) (hl : d.length ≤ 1000000) : ∃ c, kF d = some c ∧ Kept d c d.length := by
 unfold kF
 by_cases h2 : d.length < 2
 ·rw [decide_eq_true (by omega), cond_true]
  refine ⟨d, rfl, ?_, fun x => by rw [List.take_length]⟩
  match d, h2 with
  | [], _ => exact List.Pairwise.nil
  | [x], _ => exact List.pairwise_singleton ..
  | _ :: _ :: _, h => simp at h; omega
 ·rw [decide_eq_false (by omega), cond_false]
  unfold nE
  have key := YF (body := fun s : List Int × Int => iG s.1 s.2)
   (I := fun s => s.1 = d ∧ ∃ k : Nat, s.2 = ((k : Nat) : Int) ∧ 0 < k ∧ k ≤ d.length ∧ (d.take k).Pairwise (· < ·)) (m := fun s => d.length + 1 - s.2.toNat)
   (Post := fun r => ∃ c, Sum.elim (fun rr : List Int => lK rr) (fun rr => some rr) r = some c ∧ Kept d c d.length) ?_ (s := (d, 1)) ?_
  ·obtain ⟨r, h3, c, h4, h5⟩ := key
   rw [h3, Option.bind_some]
   exact ⟨c, h4, h5⟩
  ·rintro ⟨s0, k3⟩ ⟨e1, k, e2, g1, g2, g3⟩
   simp only at e1 e2
   subst e1 e2
   by_cases hlt : k < s0.length
   ·have w1 : IntKind.i64.wrap (((k : Nat) : Int) - 1) = ((k - 1 : Nat) : Int) := by rw [cW (by omega) (by omega)]; omega
    have w2 : IntKind.i64.wrap (((k : Nat) : Int) + 1) = ((k + 1 : Nat) : Int) := by rw [cW (by omega) (by omega)]; omega
    have c1 : (0 : Int) ≤ ((k : Nat) : Int) ∧ ((k : Nat) : Int) < ((s0.length : Nat) : Int) := ⟨by omega, by omega⟩
    have c2 : (0 : Int) ≤ ((k - 1 : Nat) : Int) ∧ ((k - 1 : Nat) : Int) < ((s0.length : Nat) : Int) := ⟨by omega, by omega⟩
    have hK : Kept s0 (s0.take k) k := ⟨g3, fun _ => Iff.rfl⟩
    by_cases he : s0.getD k 0 = s0.getD (k - 1) 0
    ·right
     obtain ⟨r, h3, _, _, _, cc, m, h4, h5, h6, h7, h8⟩ := XO hd hl g1 hlt (hK.same g1 hlt he) rfl
     refine ⟨.inr cc, ?_, cc, rfl, h8⟩
     have c3 : (0 : Int) ≤ ((k : Nat) : Int) ∧ ((k : Nat) : Int) ≤ ((s0.length : Nat) : Int) := ⟨by omega, by omega⟩
     simp only [iG, decide_eq_true c1.2, cond_true, aQ c1, w1, aQ c2, Int.toNat_natCast, tK, he, decide_true, aQ c3, nH]
     rw [Int.toNat_natCast] at h3
     rw [h3, Option.bind_some]
     unfold lC
     rw [h4, aQ (by omega), aQ (by rw [clearL_len]; omega), aQ (by rw [clearL_len, Int.toNat_natCast]; omega), Int.toNat_natCast, Nat.zero_add, aBf, h7]
    ·left
     refine ⟨(s0, ((k + 1 : Nat) : Int)), ?_, ⟨rfl, k + 1, rfl, by omega, by omega, ?_⟩, by simp only [Int.toNat_natCast]; omega⟩
     ·simp only [iG, nG, decide_eq_true c1.2, cond_true, aQ c1, w1, aQ c2, Int.toNat_natCast, tK, decide_eq_false he, cond_false, w2]
     ·rw [KM hlt]
      exact (hK.more hd g1 hlt he).1
   ·right
    have hk : k = s0.length := by omega
    subst hk
    refine ⟨.inl s0, ?_, s0, rfl, ?_, fun x => by rw [List.take_length]⟩
    ·simp only [iG, kL, cond_false]
    ·rwa [List.take_length] at g3
  ·refine ⟨rfl, 1, rfl, by omega, by omega, ?_⟩
   match d, h2 with
   | x :: r, _ => simp
   | [], h => simp at h

theorem PZ {l : List aE} : ∀ {c : List Int}, (∀ e ∈ l, oH e = true ∧ e.At < 1125899906842624) → Inc (-1) c → Inc (-1) (l.foldl (fun c e => jS e.At c) c) ∧ (∀ x, x ∈ l.foldl (fun c e => jS e.At c) c ↔ x ∈ c ∨ ∃ e ∈ l, e.At = x) := by
 induction l with
 | nil => intro c _ hi; exact ⟨hi, fun x => by simp⟩
 | cons e l ih =>
  intro c he hi
  have h1 := he e (by simp)
  have hr : -1 < e.At := by have := h1.1; simp [oH] at this; omega
  obtain ⟨i1, i2⟩ := ih (c := jS e.At c) (fun q hq => he q (by simp [hq])) (CC hi hr h1.2)
  refine ⟨i1, fun x => ?_⟩
  rw [List.foldl_cons, i2 x, FP]
  constructor
  ·rintro ((h | h) | ⟨q, h, h'⟩)
   ·exact .inr ⟨e, by simp, h.symm⟩
   ·exact .inl h
   ·exact .inr ⟨q, by simp [h], h'⟩
  ·rintro (h | ⟨q, h, h'⟩)
   ·exact .inl (.inr h)
   ·rcases List.mem_cons.1 h with rfl | h
    ·exact .inl (.inl h'.symm)
    ·exact .inr ⟨q, h, h'⟩

theorem MC {l : List aE} (h : ∀ e ∈ l, e.At < 1125899906842624) : Inc (-1) (bU l) :=
 (PZ (c := []) (fun e he => by have := List.mem_filter.1 he; exact ⟨this.2, h e this.1⟩) trivial).1

theorem FX {l : List aE} (h : ∀ e ∈ l, e.At < 1125899906842624) {x : Int} : x ∈ bU l ↔ ∃ e ∈ l, oH e = true ∧ e.At = x := by
 unfold bU
 rw [(PZ (c := []) (fun e he => by have := List.mem_filter.1 he; exact ⟨this.2, h e this.1⟩) trivial).2 x]
 constructor
 ·rintro (h1 | ⟨e, h1, h2⟩)
  ·simp at h1
  ·have := List.mem_filter.1 h1; exact ⟨e, this.1, this.2, h2⟩
 ·rintro ⟨e, h1, h2, h3⟩
  exact .inr ⟨e, List.mem_filter.2 ⟨h1, h2⟩, h3⟩

theorem aCr {l : List aE} : ∀ {c : List Int}, l.foldl (fun c e => c ++ [e.At]) c = c ++ l.map (·.At) := by
 induction l with
 | nil => intro c; simp
 | cons e l ih => intro c; rw [List.foldl_cons, ih]; simp

theorem FL {l : List aE} (hn : l.length ≤ 4096) (hat : ∀ e ∈ l, e.At < 1125899906842624) : pR l = some (bU l) := by
 unfold pR qN
 rw [Option.bind_some]
 unfold tS
 rw [OR (by omega) (fun s e => s ++ [e.At]) (fun s r => s.length + r.length ≤ 1000000) (fun s e r hI => ⟨fun _ => ⟨?_, ?_⟩, fun _ => ?_⟩) (by simp; omega), Option.bind_some, Sum.elim_inl, aCr, List.nil_append]
 ·have hfl := List.length_filter_le oH l
  obtain ⟨d', h1, h2, h3⟩ := aAC (d := (l.filter oH).map (·.At)) (by simp; omega)
  have hdl : d'.length ≤ 4096 := by rw [h2.length_eq, List.length_map]; omega
  obtain ⟨c, h4, h5⟩ := aBQ h3 (by omega)
  rw [h1, Option.bind_some, h4, Option.bind_some]
  congr 1
  refine BY h5.1 (yZ (MC hat)) fun x => ?_
  rw [h5.2 x, List.take_length, h2.mem_iff, FX hat, List.mem_map]
  constructor
  ·rintro ⟨e, q1, q2⟩
   have := List.mem_filter.1 q1; exact ⟨e, this.1, this.2, q2⟩
  ·rintro ⟨e, q1, q2, q3⟩
   exact ⟨e, List.mem_filter.2 ⟨q1, q2⟩, q3⟩
 ·simp only [List.length_cons] at hI
  unfold qU
  rw [aQ (by simp only [List.length_cons, List.length_nil]; omega)]
 ·simp only [List.length_cons, List.length_append, List.length_nil] at hI ⊢; omega
 ·simp only [List.length_cons] at hI; omega

theorem aAr (l : List aE) : (bU l).length ≤ l.length := by
 have key : ∀ (l : List aE) (c : List Int), (l.foldl (fun c e => jS e.At c) c).length ≤ c.length + l.length := by
  intro l
  induction l with
  | nil => intro c; simp
  | cons e l ih => intro c; rw [List.foldl_cons]; have := ih (jS e.At c); have := LA (t := e.At) (ps := c); simp only [List.length_cons]; omega
 have h1 := key (l.filter oH) []
 have h2 := List.length_filter_le oH l
 simp only [List.length_nil] at h1
 unfold bU; omega

end Go.Abs
namespace Go.Abs
open Go
theorem aEd {a : List Int} {t : Int} {m : Nat} (h1 : ∀ x ∈ a.take m, x < t) (h2 : ∀ x ∈ a.drop m, t ≤ x) : (a.filter fun x => decide (x < t)) = a.take m ∧ (a.filter fun x => decide (t ≤ x)) = a.drop m := by
 have e : a = a.take m ++ a.drop m := (List.take_append_drop m a).symm
 have e1 : (a.take m).filter (fun x => decide (x < t)) = a.take m := List.filter_eq_self.2 fun x hx => by simpa using h1 x hx
 have e2 : (a.drop m).filter (fun x => decide (x < t)) = [] := List.filter_eq_nil_iff.2 fun x hx => by have := h2 x hx; simp; omega
 have e3 : (a.take m).filter (fun x => decide (t ≤ x)) = [] := List.filter_eq_nil_iff.2 fun x hx => by have := h1 x hx; simp; omega
 have e4 : (a.drop m).filter (fun x => decide (t ≤ x)) = a.drop m := List.filter_eq_self.2 fun x hx => by simpa using h2 x hx
 constructor
 ·conv => lhs; rw [e]
  rw [List.filter_append, e1, e2, List.append_nil]
 ·conv => lhs; rw [e]
  rw [List.filter_append, e3, e4, List.nil_append]

theorem aAy (x y : Int) : dF x y = some (decide (x < y)) := by simp [dF, lO, dN]

theorem aGi {a : List Int} (hd : a.Pairwise (· ≤ ·)) (hl : a.length ≤ 1000000) (t : Int) : ∃ (m : Nat) (b : Bool), fL a t = some (((m : Nat) : Int), b) ∧ m ≤ a.length ∧ (a.filter fun x => decide (x < t)) = a.take m ∧ (a.filter fun x => decide (t ≤ x)) = a.drop m := by
 unfold fL lH
 have key := YF (body := fun s : Int × Int => fB a t ((a.length : Nat) : Int) s.1 s.2)
  (I := fun s => ∃ i j : Nat, s.1 = ((i : Nat) : Int) ∧ s.2 = ((j : Nat) : Int) ∧ i ≤ j ∧ j ≤ a.length ∧ (∀ k, k < i → a.getD k 0 < t) ∧ ∀ k, j ≤ k → k < a.length → t ≤ a.getD k 0)
  (m := fun s => s.2.toNat - s.1.toNat) (Post := fun r => ∃ m : Nat, r = ((m : Nat) : Int) ∧ m ≤ a.length ∧ (∀ k, k < m → a.getD k 0 < t) ∧ ∀ k, m ≤ k → k < a.length → t ≤ a.getD k 0) ?_ (s := (0, ((a.length : Nat) : Int))) ?_
 ·obtain ⟨r, h1, m, rfl, h2, h3, h4⟩ := key
  rw [h1, Option.bind_some]
  have hs := aEd (a := a) (t := t) (m := m) (fun x hx => by
   obtain ⟨k, hk⟩ := List.getElem?_of_mem hx
   rw [List.getElem?_take] at hk
   split at hk
   ·rename_i hlt
    have := h3 k hlt
    rwa [List.getD_eq_getElem?_getD, hk] at this
   ·cases hk) (fun x hx => by
   obtain ⟨k, hk⟩ := List.getElem?_of_mem hx
   rw [List.getElem?_drop] at hk
   have hlt := (List.getElem?_eq_some_iff.1 hk).1
   have := h4 (m + k) (by omega) hlt
   rwa [List.getD_eq_getElem?_getD, hk] at this)
  unfold jH
  have c1 : ∀ b : Bool, (b && decide (((m : Nat) : Int) < ((a.length : Nat) : Int))) = true → (0 : Int) ≤ ((m : Nat) : Int) ∧ ((m : Nat) : Int) < ((a.length : Nat) : Int) := fun b hb => by
   simp only [Bool.and_eq_true, decide_eq_true_eq] at hb; omega
  rw [aQ (fun hb => by have := of_decide_eq_true hb; omega), aQ (c1 _)]
  simp only [pH, dN]
  cases (!decide (a.getD (Int.toNat ((m : Nat) : Int)) default = t) && decide (((m : Nat) : Int) < ((a.length : Nat) : Int))) <;> simp only [cond_true, cond_false, Option.bind_some, Bool.and_true, Bool.and_false, decide_true, Bool.not_true]
  ·exact ⟨m, _, rfl, h2, hs.1, hs.2⟩
  ·exact ⟨m, _, rfl, h2, hs.1, hs.2⟩
 ·rintro ⟨x, y⟩ ⟨i, j, e1, e2, g1, g2, g3, g4⟩
  simp only at e1 e2
  subst e1 e2
  by_cases hij : i < j
  ·left
   have hm : IntKind.i64.wrap (Int.fdiv (IntKind.u64.wrap (IntKind.i64.wrap (((i : Nat) : Int) + ((j : Nat) : Int)))) (2 ^ (min (Int.toNat (1 : Int)) 64))) = (((i + j) / 2 : Nat) : Int) := by
    rw [← Int.natCast_add]; exact half (by omega)
   have c1 : (0 : Int) ≤ (((i + j) / 2 : Nat) : Int) ∧ (((i + j) / 2 : Nat) : Int) < ((a.length : Nat) : Int) := ⟨by omega, by omega⟩
   have w1 : IntKind.i64.wrap ((((i + j) / 2 : Nat) : Int) + 1) = (((i + j) / 2 + 1 : Nat) : Int) := by rw [cW (by omega) (by omega)]; omega
   by_cases hc : a.getD ((i + j) / 2) 0 < t
   ·refine ⟨((((i + j) / 2 + 1 : Nat) : Int), ((j : Nat) : Int)), ?_, ⟨(i + j) / 2 + 1, j, rfl, rfl, by omega, g2, fun k hk => ?_, g4⟩, by simp only [Int.toNat_natCast]; omega⟩
    ·simp only [fB, decide_eq_true (show ((i : Nat) : Int) < ((j : Nat) : Int) by omega), cond_true, aQ (show (0 : Int) ≤ 1 by decide), hm, aQ c1, Int.toNat_natCast, tK, aAy, Option.bind_some, w1]
     rw [decide_eq_true hc, cond_true]
    ·have := PI hd (i := k) (j := (i + j) / 2) (by omega) (by omega); omega
   ·refine ⟨(((i : Nat) : Int), (((i + j) / 2 : Nat) : Int)), ?_, ⟨i, (i + j) / 2, rfl, rfl, by omega, by omega, g3, fun k hk hkl => ?_⟩, by simp only [Int.toNat_natCast]; omega⟩
    ·simp only [fB, decide_eq_true (show ((i : Nat) : Int) < ((j : Nat) : Int) by omega), cond_true, aQ (show (0 : Int) ≤ 1 by decide), hm, aQ c1, Int.toNat_natCast, tK, aAy, Option.bind_some, w1]
     rw [decide_eq_false hc, cond_false]
    ·have := PI hd (i := (i + j) / 2) (j := k) (by omega) hkl; omega
  ·right
   refine ⟨((i : Nat) : Int), ?_, i, rfl, by omega, g3, fun k hk hkl => g4 k (by omega) hkl⟩
   simp only [fB, decide_eq_false (show ¬ ((i : Nat) : Int) < ((j : Nat) : Int) by omega), cond_false]
 ·exact ⟨0, a.length, rfl, rfl, by omega, Nat.le_refl _, fun k hk => by omega, fun k h1 h2 => by omega⟩

def oJ (l : List aE) (n : Int) : Int := if !eS l || decide (n < 1) || decide (64 < n) then 2 else if !jT l then 20 else 0

theorem JT {l : List aE} (hl : okL l) (n : Int) : tF l n = some (oJ l n) := by
 unfold tF oJ
 rw [DH hl, Option.bind_some]
 cases (!eS l || decide (n < 1) || decide (64 < n)) with
 | true => rfl
 | false =>
  rw [cond_false, FT hl, Option.bind_some]
  cases jT l <;> rfl

theorem JH {l : List aE} {n : Int} (h : oJ l n = 0) : eS l = true ∧ jT l = true ∧ 1 ≤ n ∧ n ≤ 64 := by
 unfold oJ at h
 cases hm : eS l with
 | false => simp [hm] at h
 | true =>
  cases ht : jT l with
  | false => rw [hm, ht] at h; split at h <;> simp at h
  | true =>
   rw [hm, ht] at h
   split at h
   ·simp at h
   ·rename_i c; simp at c; exact ⟨rfl, rfl, by omega, by omega⟩

theorem TQ {l : List aE} {n : Int} (hm : eS l = true) (ht : jT l = true) (h1 : 1 ≤ n) (h2 : n ≤ 64) : oJ l n = 0 := by
 unfold oJ
 have e1 : decide (n < 1) = false := by simp; omega
 have e2 : decide (64 < n) = false := by simp; omega
 rw [hm, ht, e1, e2]; rfl

theorem KN {l : List aE} (hm : eS l = true) : ∀ e ∈ l, e.At < 1125899906842624 := fun e he => (xS hm he).2.2.1

def fU (a : List Int) (t : Int) : Nat := (a.filter fun x => decide (x < t)).length

def firstM (a : List Int) (n t : Int) : Nat := ((fU a t : Int) - n + 1).toNat

def oZ (a : List Int) (n t : Int) : Int := if firstM a n t = fU a t then t else a.getD (firstM a n t) 0

def BW (l : List aE) (n t : Int) : Int × Int :=
 if oJ l n ≠ 0 then (0, oJ l n) else if t < 0 ∨ 1125899906842624 < t then (0, 13) else if t = 1125899906842624 then (t, 0) else (oZ (bU l) n t, 0)

theorem AX (a : List Int) (t : Int) : fU a t ≤ a.length := List.length_filter_le ..

theorem VI {a : List Int} (hd : a.Pairwise (· ≤ ·)) (hl : a.length ≤ 1000000) (t : Int) : (∃ b : Bool, fL a t = some (((fU a t : Nat) : Int), b)) ∧ (a.filter fun x => decide (x < t)) = a.take (fU a t) ∧ (a.filter fun x => decide (t ≤ x)) = a.drop (fU a t) := by
 obtain ⟨m, b, h1, h2, h3, h4⟩ := aGi hd hl t
 have hm : fU a t = m := by unfold fU; rw [h3, List.length_take]; omega
 rw [hm]; exact ⟨⟨b, h1⟩, h3, h4⟩

theorem rD {l : List aE} (hm : eS l = true) : (bU l).Pairwise (· < ·) ∧ (bU l).Pairwise (· ≤ ·) ∧ (bU l).length ≤ 4096 ∧ ∀ x ∈ bU l, 0 ≤ x ∧ x < 1125899906842624 := by
 have hi := MC (KN hm)
 refine ⟨yZ hi, RL hi, by have := aAr l; have := (jN hm).1; omega, fun x hx => by have := hi.above x hx; omega⟩

theorem US {l : List aE} (hl : okL l) (n t : Int) : uI l n t = some (BW l n t) := by
 unfold uI BW
 rw [JT hl, Option.bind_some]
 by_cases h : oJ l n = 0
 ·obtain ⟨hm, _, n1, n2⟩ := JH h
  obtain ⟨f1, f2, f3, f4⟩ := rD hm
  rw [decide_eq_true h, Bool.not_true, cond_false, if_neg (by simpa using h)]
  by_cases h1 : t < 0 ∨ 1125899906842624 < t
  ·have : (decide (t < 0) || decide (1125899906842624 < t)) = true := by simpa using h1
   rw [this, cond_true, if_pos h1]
  ·have : (decide (t < 0) || decide (1125899906842624 < t)) = false := by simpa using h1
   rw [this, cond_false, if_neg h1]
   by_cases h2 : t = 1125899906842624
   ·rw [decide_eq_true h2, cond_true, if_pos h2]
   ·rw [decide_eq_false h2, cond_false, if_neg h2, FL (jN hm).1 (KN hm), Option.bind_some]
    obtain ⟨⟨b, hb⟩, hs1, hs2⟩ := VI f2 (by omega) t
    have hle := AX (bU l) t
    rw [hb, Option.bind_some]
    have w1 : IntKind.i64.wrap (IntKind.i64.wrap (((fU (bU l) t : Nat) : Int) - n) + 1) = ((fU (bU l) t : Nat) : Int) - n + 1 := by
     rw [cW (n := ((fU (bU l) t : Nat) : Int) - n) (by omega) (by omega), cW (by omega) (by omega)]
    have e1 : (if IntKind.i64.wrap (IntKind.i64.wrap (((fU (bU l) t : Nat) : Int) - n) + 1) > 0 then IntKind.i64.wrap (IntKind.i64.wrap (((fU (bU l) t : Nat) : Int) - n) + 1) else 0) = ((firstM (bU l) n t : Nat) : Int) := by
     rw [w1]; unfold firstM
     split <;> omega
    simp only [e1]
    unfold oZ
    by_cases hf : firstM (bU l) n t = fU (bU l) t
    ·rw [decide_eq_true (by omega), cond_true, if_pos hf]
    ·have hlt : firstM (bU l) n t < fU (bU l) t := by unfold firstM at hf ⊢; omega
     rw [decide_eq_false (by omega), cond_false, if_neg hf, aQ (by omega), Int.toNat_natCast]; rfl
 ·rw [decide_eq_false h, Bool.not_false, cond_true, if_pos h]

end Go.Abs
namespace Go.Abs
open Go
theorem aBT (a b : List aI) (hl : a.length ≤ 17592186044416) : fZ a b = some (decide (a = b)) := by
 have := IT a b hl
 unfold rY at this
 simpa using this

def inW (a b : Int) (j : aB) : Bool := decide (0 < j.Net) && (decide (a ≤ j.At) && decide (j.At < b))

def oP (a b : Int) (f : List aB) : Int := ((f.filter (inW a b)).map aB.Net).sum

def zY (a b : Int) (gs : List (List aI × List aB)) : List bB := gs.filterMap fun g => if 0 < oP a b g.2 then some ⟨g.1, oP a b g.2⟩ else none

def nF (rs : List bB) : bB := rs.getD (rs.length - 1) default

def CM (rs : List bB) (e : aE) : List bB := if 0 < rs.length ∧ (nF rs).Row = e.Row then rs.set (rs.length - 1) ⟨(nF rs).Row, (nF rs).N + e.Net⟩ else rs ++ [⟨e.Row, e.Net⟩]

def EJ (p : aN) (e : aE) : aN := if e.At < p.Span.From ∨ p.Span.To ≤ e.At then p else ⟨p.Span, CM p.Rows e⟩

def rG (a b : Int) (rs : List bB) (e : aE) : List bB := if inW a b (jE e) then CM rs e else rs

theorem zO (a b : Int) (j : aB) (f : List aB) : oP a b (j :: f) = (if inW a b j then j.Net else 0) + oP a b f := by
 unfold oP
 by_cases h : inW a b j <;> simp [h]

theorem GH (a b : Int) : ∀ f : List aB, 0 ≤ oP a b f ∧ (oP a b f = 0 ↔ f.filter (inW a b) = [])
 | [] => by simp [oP]
 | j :: f => by
  obtain ⟨h1, h2⟩ := GH a b f
  rw [zO]
  by_cases h : inW a b j
  ·have : 0 < j.Net := by simp [inW] at h; omega
   rw [if_pos h]
   refine ⟨by omega, ?_⟩
   constructor
   ·intro e; omega
   ·intro e; simp [h] at e
  ·rw [if_neg h, Int.zero_add]
   refine ⟨h1, ?_⟩
   rw [h2]; simp [h]

theorem PL (a b : Int) (g : List aI × List aB) (gs : List (List aI × List aB)) : zY a b (g :: gs) = (if 0 < oP a b g.2 then [⟨g.1, oP a b g.2⟩] else []) ++ zY a b gs := by
 unfold zY
 rw [List.filterMap_cons]
 by_cases h : 0 < oP a b g.2 <;> simp [h]

theorem aA4 (R : List bB) (c : bB) : nF (R ++ [c]) = c := by
 unfold nF
 simp [List.getD_eq_getElem?_getD]

theorem aDt (R : List bB) (c d : bB) : (R ++ [c]).set ((R ++ [c]).length - 1) d = R ++ [d] := by
 simp [List.set_append_right]

theorem RP (a b : Int) (r : List aI) : ∀ (f : List aB) (R : List bB) (v : Int), (iS r f).foldl (rG a b) (R ++ [⟨r, v⟩]) = R ++ [⟨r, v + oP a b f⟩]
 | [], R, v => by simp [iS, oP]
 | j :: f, R, v => by
  have e : iS r (j :: f) = ⟨r, j.At, j.Net⟩ :: iS r f := rfl
  rw [e, List.foldl_cons, zO]
  have ej : jE ⟨r, j.At, j.Net⟩ = j := rfl
  by_cases h : inW a b j
  ·have e1 : rG a b (R ++ [⟨r, v⟩]) ⟨r, j.At, j.Net⟩ = R ++ [⟨r, v + j.Net⟩] := by
    unfold rG CM
    rw [ej, if_pos h, aA4, if_pos ⟨by simp, rfl⟩, aDt]
   rw [e1, RP a b r f, if_pos h, Int.add_assoc]
  ·have e1 : rG a b (R ++ [⟨r, v⟩]) ⟨r, j.At, j.Net⟩ = R ++ [⟨r, v⟩] := by
    unfold rG
    rw [ej, if_neg h]
   rw [e1, RP a b r f, if_neg h, Int.zero_add]

theorem JM {rs : List bB} (h : 0 < rs.length) : nF rs ∈ rs := by
 unfold nF
 rw [List.getD_eq_getElem?_getD, List.getElem?_eq_getElem (by omega)]
 exact List.getElem_mem _

theorem VS (a b : Int) (r : List aI) : ∀ (f : List aB) (rs : List bB), (∀ c ∈ rs, c.Row ≠ r) → (iS r f).foldl (rG a b) rs = rs ++ (if 0 < oP a b f then [⟨r, oP a b f⟩] else [])
 | [], rs, _ => by simp [iS, oP]
 | j :: f, rs, hr => by
  have e : iS r (j :: f) = ⟨r, j.At, j.Net⟩ :: iS r f := rfl
  have ej : jE ⟨r, j.At, j.Net⟩ = j := rfl
  rw [e, List.foldl_cons, zO]
  have hg := (GH a b f).1
  by_cases h : inW a b j
  ·have hj : 0 < j.Net := by simp [inW] at h; omega
   have e1 : rG a b rs ⟨r, j.At, j.Net⟩ = rs ++ [⟨r, j.Net⟩] := by
    unfold rG CM
    rw [ej, if_pos h, if_neg fun hc => hr _ (JM hc.1) hc.2]
   rw [e1, RP, if_pos h, if_pos (by omega)]
  ·have e1 : rG a b rs ⟨r, j.At, j.Net⟩ = rs := by
    unfold rG
    rw [ej, if_neg h]
   rw [e1, VS a b r f rs hr, if_neg h, Int.zero_add]

theorem MR (a b : Int) : ∀ {gs : List (List aI × List aB)} {rs : List bB}, tT gs → (∀ c ∈ rs, ∀ g ∈ gs, c.Row ≠ g.1) → (flat gs).foldl (rG a b) rs = rs ++ zY a b gs
 | [], rs, _, _ => by simp [flat, zY]
 | g :: gs, rs, hs, hr => by
  obtain ⟨h1, h2⟩ := List.pairwise_cons.1 hs
  rw [tJ, List.foldl_append, VS a b g.1 g.2 rs fun c hc => hr c hc g (by simp), MR a b h2 fun c hc q hq => ?_, PL, List.append_assoc]
  rcases List.mem_append.1 hc with hc | hc
  ·exact hr c hc q (by simp [hq])
  ·split at hc
   ·simp at hc; subst hc
    intro e
    have : tC g.1 q.1 < 0 := h1 q hq
    simp only at e
    rw [e] at this
    exact sF this
   ·simp at hc

theorem RN {a b : Int} {e : aE} : inW a b (jE e) = true ↔ 0 < e.Net ∧ a ≤ e.At ∧ e.At < b := by
 unfold inW jE
 simp only [Bool.and_eq_true, decide_eq_true_eq]

theorem IL {a b : Int} (ha : 0 ≤ a) : ∀ (l : List aE) (rs : List bB), (l.filter oH).foldl EJ ⟨⟨a, b⟩, rs⟩ = ⟨⟨a, b⟩, l.foldl (rG a b) rs⟩
 | [], rs => rfl
 | e :: l, rs => by
  cases h : oH e with
  | true =>
   have hp : 0 < e.Net ∧ -1 < e.At := by simpa [oH] using h
   simp only [List.filter_cons, h, if_true, List.foldl_cons]
   by_cases hw : e.At < a ∨ b ≤ e.At
   ·have e1 : EJ ⟨⟨a, b⟩, rs⟩ e = ⟨⟨a, b⟩, rs⟩ := by unfold EJ; rw [if_pos hw]
    have e2 : rG a b rs e = rs := by
     unfold rG
     have : inW a b (jE e) = false := by
      cases hq : inW a b (jE e) with
      | false => rfl
      | true => have := RN.1 hq; omega
     rw [this]; rfl
    rw [e1, e2, IL ha l rs]
   ·have e1 : EJ ⟨⟨a, b⟩, rs⟩ e = ⟨⟨a, b⟩, CM rs e⟩ := by unfold EJ; rw [if_neg hw]
    have e2 : rG a b rs e = CM rs e := by
     unfold rG
     have : inW a b (jE e) = true := RN.2 ⟨hp.1, by omega, by omega⟩
     rw [this]; rfl
    rw [e1, e2, IL ha l (CM rs e)]
  | false =>
   have hp : ¬ (0 < e.Net ∧ -1 < e.At) := by simpa [oH] using h
   have e2 : rG a b rs e = rs := by
    unfold rG
    have : inW a b (jE e) = false := by
     cases hq : inW a b (jE e) with
     | false => rfl
     | true => have := RN.1 hq; omega
    rw [this]; rfl
   simp only [List.filter_cons, h, Bool.false_eq_true, if_false, List.foldl_cons, e2]
   exact IL ha l rs

def JA (l : List aE) (run : List Int) : aN := ⟨⟨run.getD 0 0, run.getD (run.length - 1) 0 + 1⟩, zY (run.getD 0 0) (run.getD (run.length - 1) 0 + 1) (groups l)⟩

def RA (rs : List bB) (r : List aE) : Prop := rs.length + r.length ≤ 1000000 ∧ (∀ c ∈ rs, c.Row.length ≤ 17592186044416 ∧ 0 ≤ c.N ∧ c.N + 1048576 * r.length ≤ 4503599627370496) ∧ ∀ e ∈ r, e.Row.length ≤ 4398046510976 ∧ e.Net ≤ 1048576

theorem SK {rs : List bB} {e : aE} {r : List aE} (h : RA rs (e :: r)) : RA rs r := by
 obtain ⟨h1, h2, h3⟩ := h
 simp only [List.length_cons] at h1 h2
 exact ⟨by omega, fun c hc => by have := h2 c hc; omega, fun q hq => h3 q (by simp [hq])⟩

theorem aDF {rs : List bB} {e : aE} {r : List aE} (h : RA rs (e :: r)) (hn : 0 < e.Net) : RA (CM rs e) r := by
 obtain ⟨h1, h2, h3⟩ := h
 have he := h3 e (by simp)
 simp only [List.length_cons] at h1 h2
 unfold CM
 split
 ·rename_i hc
  have hm := h2 _ (JM hc.1)
  refine ⟨by rw [List.length_set]; omega, fun c hcm => ?_, fun q hq => h3 q (by simp [hq])⟩
  rcases List.mem_or_eq_of_mem_set hcm with hcm | rfl
  ·have := h2 c hcm; omega
  ·refine ⟨hm.1, ?_⟩; simp only; omega
 ·refine ⟨by simp only [List.length_append, List.length_cons, List.length_nil]; omega, fun c hcm => ?_, fun q hq => h3 q (by simp [hq])⟩
  rcases List.mem_append.1 hcm with hcm | hcm
  ·have := h2 c hcm; omega
  ·simp at hcm; subst hcm; simp only; omega

theorem aBA {l : List aE} {t p : aN} {e : aE} {r : List aE} (h : RA p.Rows (e :: r)) (hr : oH e = true) : oN l t p e = some (.inl (t, EJ p e)) := by
 obtain ⟨h1, h2, h3⟩ := h
 have he := h3 e (by simp)
 have hn : 0 < e.Net := by simp [oH] at hr; omega
 simp only [List.length_cons] at h1 h2
 unfold oN EJ
 by_cases hw : e.At < p.Span.From ∨ p.Span.To ≤ e.At
 ·have : (decide (e.At < p.Span.From) || decide (p.Span.To ≤ e.At)) = true := by simpa using hw
  rw [this, cond_true, if_pos hw]
 ·have : (decide (e.At < p.Span.From) || decide (p.Span.To ≤ e.At)) = false := by simpa using hw
  rw [this, cond_false, if_neg hw]
  have w1 : IntKind.i64.wrap (((p.Rows.length : Nat) : Int) - 1) = ((p.Rows.length : Nat) : Int) - 1 := cW (by omega) (by omega)
  rw [w1]
  by_cases h0 : 0 < p.Rows.length
  ·have c1 : (0 : Int) ≤ ((p.Rows.length : Nat) : Int) - 1 ∧ ((p.Rows.length : Nat) : Int) - 1 < ((p.Rows.length : Nat) : Int) := ⟨by omega, by omega⟩
   have e1 : Int.toNat (((p.Rows.length : Nat) : Int) - 1) = p.Rows.length - 1 := by omega
   have e2 : p.Rows.getD (p.Rows.length - 1) default = nF p.Rows := rfl
   have hm := h2 _ (JM h0)
   rw [aQ (fun _ => c1), decide_eq_true c1.1]
   simp only [dN, cond_true, e1, e2, aBT _ e.Row hm.1, Option.bind_some, Bool.true_and]
   by_cases hq : (nF p.Rows).Row = e.Row
   ·rw [decide_eq_true hq, cond_true, aQ c1, aQ c1]
    unfold CM
    rw [if_pos ⟨h0, hq⟩, cW (by omega) (by omega)]
   ·rw [decide_eq_false hq, cond_false, GF he.1, Option.bind_some, aQ (by simp only [List.length_cons, List.length_nil]; omega)]
    unfold CM
    rw [if_neg fun hc => hq hc.2]
  ·have c0 : decide ((0 : Int) ≤ ((p.Rows.length : Nat) : Int) - 1) = false := by rw [decide_eq_false_iff_not]; omega
   rw [aQ (fun hc => by rw [c0] at hc; cases hc), c0]
   simp only [dN, cond_false, Option.bind_some, Bool.false_and]
   rw [GF he.1, Option.bind_some, aQ (by simp only [List.length_cons, List.length_nil]; omega)]
   unfold CM
   rw [if_neg fun hc => h0 hc.1]

theorem OG {l : List aE} (hl : okL l) (hm : eS l = true) {run : List Int} (h0 : 0 < run.length) (h1 : run.length ≤ 1000000) (hr : ∀ x ∈ run, 0 ≤ x ∧ x < 1125899906842624) : rV l run = some (JA l run) := by
 unfold rV qN tU
 have w1 : IntKind.i64.wrap (((run.length : Nat) : Int) - 1) = ((run.length : Nat) : Int) - 1 := cW (by omega) (by omega)
 have e1 : Int.toNat (((run.length : Nat) : Int) - 1) = run.length - 1 := by omega
 have hg : ∀ i, i < run.length → 0 ≤ run.getD i 0 ∧ run.getD i 0 < 1125899906842624 := fun i hi => by
  rw [List.getD_eq_getElem?_getD, List.getElem?_eq_getElem hi]; exact hr _ (List.getElem_mem _)
 have ha := hg 0 h0
 have hb := hg (run.length - 1) (by omega)
 rw [aQ (by omega), w1, aQ (by omega), Option.bind_some, e1, tK, tK, show Int.toNat (0 : Int) = 0 from rfl, cW (by omega) (by omega)]
 have hn := (jN hm).1
 rw [OR (by omega) (fun (s : aN × aN) e => (s.1, EJ s.2 e)) (fun s r => RA s.2.Rows r) (fun s e r hI => ⟨fun hrise => ⟨aBA hI hrise, ?_⟩, fun _ => SK hI⟩)
  ⟨by simp; omega, by simp, fun e he => ⟨hl.2 e he, (xS hm he).2.2.2.2.1⟩⟩, Option.bind_some, Sum.elim_inl]
 ·have key : ∀ (es : List aE) (s : aN × aN), (es.foldl (fun (s : aN × aN) e => (s.1, EJ s.2 e)) s).2 = es.foldl EJ s.2 := by
   intro es
   induction es with
   | nil => intro s; rfl
   | cons e es ih => intro s; rw [List.foldl_cons, List.foldl_cons, ih]
  rw [key]
  simp only
  rw [IL ha.1]
  have hfl := FW l
  have hsg := MR (run.getD 0 0) (run.getD (run.length - 1) 0 + 1) (gs := groups l) (rs := []) (jN hm).2.2 (by simp)
  rw [hfl] at hsg
  rw [hsg, List.nil_append]
  rfl
 ·simp only
  unfold EJ
  split
  ·exact SK hI
  ·exact aDF hI (by simp [oH] at hrise; omega)

def qG (n : Nat) (mk : List Int → aN) : List Int → List aN
 | [] => []
 | x :: r => (if n ≤ r.length + 1 then [mk ((x :: r).take n)] else []) ++ qG n mk r

theorem MI {n : Nat} {mk : List Int → aN} : ∀ {r : List Int}, r.length < n → qG n mk r = []
 | [], _ => rfl
 | x :: r, h => by
  simp only [List.length_cons] at h
  unfold qG
  rw [if_neg (by omega), MI (by omega)]; rfl

theorem TZ {n : Nat} {mk : List Int → aN} (hn : 0 < n) : ∀ r : List Int, (qG n mk r).length = r.length + 1 - n
 | [] => by simp [qG]; omega
 | x :: r => by
  unfold qG
  rw [List.length_append, TZ hn r]
  simp only [List.length_cons]
  split
  ·simp; omega
  ·simp; omega

theorem HB {l : List aE} (hl : okL l) (hm : eS l = true) {n : Int} (h1 : 1 ≤ n) (h2 : n ≤ 64) : ∀ (rest : List Int) (out : List aN), (∀ x ∈ rest, 0 ≤ x ∧ x < 1125899906842624) → out.length + rest.length ≤ 1000000 →
  lp (fun s : List Int × List aN => mL l n s.1 s.2) (rest, out) = some (out ++ qG n.toNat (JA l) rest)
 | [], out, _, _ => by
  refine cV ?_
  simp only [mL, decide_eq_false (show ¬ n ≤ ((([] : List Int).length : Nat) : Int) by simp; omega), cond_false]
  simp [qG]
 | x :: r, out, hr, ho => by
  simp only [List.length_cons] at ho
  by_cases hc : n ≤ (((x :: r).length : Nat) : Int)
  ·have hlen : n.toNat ≤ (x :: r).length := by omega
   have ht : ((x :: r).take n.toNat).length = n.toNat := by rw [List.length_take]; omega
   have hw := OG hl hm (run := (x :: r).take n.toNat) (by omega) (by omega) (fun y hy => hr y (List.mem_of_mem_take hy))
   have hb : mL l n (x :: r) out = some (.inl (r, out ++ [JA l ((x :: r).take n.toNat)])) := by
    simp only [mL, decide_eq_true hc, cond_true]
    rw [aQ ⟨by omega, Int.le_refl _, hc⟩, hw, Option.bind_some, aQ (by simp only [List.length_cons, List.length_nil]; omega), aQ ⟨by omega, by simp only [List.length_cons]; omega⟩]
    rfl
   rw [fO hb, HB hl hm h1 h2 r _ (fun y hy => hr y (by simp [hy])) (by simp only [List.length_append, List.length_cons, List.length_nil]; omega)]
   conv => rhs; unfold qG
   simp only [List.length_cons] at hlen
   rw [if_pos hlen, List.append_assoc]
  ·have hlen : (x :: r).length < n.toNat := by omega
   rw [MI hlen]
   refine cV ?_
   simp only [mL, decide_eq_false hc, cond_false, List.append_nil]

def wJ (l : List aE) (n frm : Int) : List aN × Int :=
 if oJ l n ≠ 0 then ([], oJ l n) else if frm < 0 ∨ 1125899906842624 < frm then ([], 13) else
 if 1024 < (((bU l).drop (fU (bU l) frm)).length : Int) - n + 1 then ([], 7) else (qG n.toNat (JA l) ((bU l).drop (fU (bU l) frm)), 0)

theorem RZ {l : List aE} (hl : okL l) (n frm : Int) : tA l n frm = some (wJ l n frm) := by
 unfold tA wJ
 rw [JT hl, Option.bind_some]
 by_cases h : oJ l n = 0
 ·obtain ⟨hm, ht, n1, n2⟩ := JH h
  obtain ⟨f1, f2, f3, f4⟩ := rD hm
  rw [decide_eq_true h, Bool.not_true, cond_false, if_neg (by simpa using h)]
  by_cases h1 : frm < 0 ∨ 1125899906842624 < frm
  ·have : (decide (frm < 0) || decide (1125899906842624 < frm)) = true := by simpa using h1
   rw [this, cond_true, if_pos h1]
  ·have : (decide (frm < 0) || decide (1125899906842624 < frm)) = false := by simpa using h1
   rw [this, cond_false, if_neg h1, FL (jN hm).1 (KN hm), Option.bind_some]
   obtain ⟨⟨b, hb⟩, _, _⟩ := VI f2 (by omega) frm
   have hle := AX (bU l) frm
   rw [hb, Option.bind_some, aQ ⟨by omega, by omega, Int.le_refl _, Int.le_refl _⟩]
   simp only [Int.toNat_natCast, List.take_length]
   have hdl : ((bU l).drop (fU (bU l) frm)).length ≤ 4096 := by rw [List.length_drop]; omega
   have w1 : IntKind.i64.wrap (IntKind.i64.wrap (((((bU l).drop (fU (bU l) frm)).length : Nat) : Int) - n) + 1) = ((((bU l).drop (fU (bU l) frm)).length : Nat) : Int) - n + 1 := by
    rw [cW (n := ((((bU l).drop (fU (bU l) frm)).length : Nat) : Int) - n) (by omega) (by omega), cW (by omega) (by omega)]
   rw [w1]
   by_cases h3 : 1024 < ((((bU l).drop (fU (bU l) frm)).length : Nat) : Int) - n + 1
   ·rw [decide_eq_true h3, cond_true, if_pos h3]
   ·rw [decide_eq_false h3, cond_false, if_neg h3]
    unfold vV
    rw [HB hl hm n1 n2 _ [] (fun x hx => f4 x (List.mem_of_mem_drop hx)) (by simp only [List.length_nil]; omega)]
    rfl
 ·rw [decide_eq_false h, Bool.not_false, cond_true, if_pos h]

end Go.Abs
namespace Go.Abs
open Go
theorem w00 : IntKind.i64.wrap 0 = 0 := cW (by omega) (by omega)

def qB : Int → Int → List aB → List bJ
 | n, fr, [] => if 0 < n then [⟨fr, 1125899906842624⟩] else []
 | n, fr, j :: r => if n + j.Net = 0 then ⟨if n = 0 then j.At else fr, j.At⟩ :: qB 0 (if n = 0 then j.At else fr) r else qB (n + j.Net) (if n = 0 then j.At else fr) r

def EF (f : List aB) : List bJ := qB 0 0 f

def CU (n : Int) (f : List aB) : Prop := n ≤ 1048576 * (2048 - f.length) ∧ -(1048576 * (2048 - f.length)) ≤ n ∧ f.length ≤ 1024

theorem CU.next {n : Int} {j : aB} {r : List aB} (h : CU n (j :: r)) (hj : j.Net ≤ 1048576 ∧ -1048576 ≤ j.Net) : CU (n + j.Net) r := by
 obtain ⟨h1, h2, h3⟩ := h
 simp only [List.length_cons] at h1 h2 h3
 exact ⟨by omega, by omega, by omega⟩

theorem CU.small {n : Int} {f : List aB} (h : CU n f) : n ≤ 4294967296 ∧ -4294967296 ≤ n := by
 obtain ⟨h1, h2, h3⟩ := h
 omega

theorem CU.zero {n : Int} {f : List aB} (h : CU n f) : CU 0 f := by
 obtain ⟨h1, h2, h3⟩ := h
 exact ⟨by omega, by omega, h3⟩

theorem YZ {σ : Type} {y : σ → bJ → Option (σ × Bool)} {f : List aB} (hl : f.length ≤ 1024) : ∀ (r : List aB) (k : Nat) (last n fr : Int) (s s' : σ), f.drop k = r → k ≤ f.length → oD last r → CU n r → zG y (qB n fr r) s = some s' →
  ∃ x, lp (fun s : σ × Int × Int × Int => gX y f ((f.length : Nat) : Int) s.1 s.2.1 s.2.2.1 s.2.2.2) (s, n, fr, (k : Int)) = some x ∧ Sum.elim (fun rr => oT y rr.1 rr.2.1 rr.2.2) (fun rr => some rr) x = some s' := by
 intro r
 induction r with
 | nil =>
  intro k last n fr s s' hd hk _ _ h
  have hk' : k = f.length := by
   have := congrArg List.length hd
   simp at this; omega
  subst hk'
  refine ⟨.inl (s, n, fr), cV ?_, ?_⟩
  ·show gX _ _ _ _ _ _ _ = _
   simp only [gX, kL, cond_false]
  ·simp only [Sum.elim_inl, oT]
   by_cases hn : 0 < n
   ·simp only [qB, hn, if_true, zG] at h
    obtain ⟨x, hx, h⟩ := aW h
    rw [decide_eq_true hn, cond_true, hx]
    simp only [Option.bind_some]
    cases hx2 : x.2 <;> rw [hx2] at h <;> simpa using h
   ·simp only [qB, hn, if_false, zG] at h
    rw [decide_eq_false hn, cond_false]; exact h
 | cons j r ih =>
  intro k last n fr s s' hd hk hr hroom h
  obtain ⟨hget, hd'⟩ := drop_cons hd
  have hlt : k < f.length := (List.getElem?_eq_some_iff.1 hget).1
  obtain ⟨d1, d2, d3, d4⟩ := idx hget (by omega)
  have hj := hr.1
  have hnx := hroom.next ⟨hj.2.2.2.1, hj.2.2.2.2⟩
  have hsm := hnx.small
  have hw : IntKind.i64.wrap (n + j.Net) = n + j.Net := cW (by omega) (by omega)
  -- what the body does
  have body : gX y f ((f.length : Nat) : Int) s n fr (k : Int) = mW y s n (if n = 0 then j.At else fr) j f ((f.length : Nat) : Int) (k : Int) := by
   simp only [gX, d1, cond_true, aQ d2, d3]
   by_cases hn : n = 0 <;> simp [hn]
  by_cases hz : n + j.Net = 0
  ·simp only [qB, hz, if_true, zG] at h
   obtain ⟨x, hx, h⟩ := aW h
   have hb : (fun s : σ × Int × Int × Int => gX y f ((f.length : Nat) : Int) s.1 s.2.1 s.2.2.1 s.2.2.2) (s, n, fr, (k : Int)) = some (if x.2 then .inl (x.1, 0, (if n = 0 then j.At else fr), ((k + 1 : Nat) : Int)) else .inr (.inr x.1)) := by
    show gX _ _ _ _ _ _ _ = _
    rw [body]
    simp only [mW, hw, d4, hz, w00, decide_true, BZ, cond_true, hx, Option.bind_some, Bool.true_and]
    cases x.2 <;> rfl
   cases hx2 : x.2
   ·rw [hx2] at hb h
    simp only [Bool.false_eq_true, if_false, Option.some.injEq] at hb h
    exact ⟨_, cV hb, by simpa using h⟩
   ·rw [hx2] at hb h
    simp only [if_true] at hb h
    obtain ⟨z, hz1, hz2⟩ := ih (k + 1) j.At 0 _ x.1 s' hd' (by omega) hr.2 hnx.zero h
    exact ⟨z, by rw [fO hb]; exact hz1, hz2⟩
  ·simp only [qB, hz, if_false] at h
   have hb : (fun s : σ × Int × Int × Int => gX y f ((f.length : Nat) : Int) s.1 s.2.1 s.2.2.1 s.2.2.2) (s, n, fr, (k : Int)) = some (.inl (s, n + j.Net, (if n = 0 then j.At else fr), ((k + 1 : Nat) : Int))) := by
    show gX _ _ _ _ _ _ _ = _
    rw [body]
    simp only [mW, hw, d4, decide_eq_false hz, BZ, cond_false, Option.bind_some, Bool.false_and]
   obtain ⟨z, hz1, hz2⟩ := ih (k + 1) j.At (n + j.Net) _ s s' hd' (by omega) hr.2 hnx h
   exact ⟨z, by rw [fO hb]; exact hz1, hz2⟩

theorem aBS {σ : Type} {y : σ → bJ → Option (σ × Bool)} {f : List aB} (hf : eO f = true) {s s' : σ} (h : zG y (EF f) s = some s') : rU y f s = some s' := by
 obtain ⟨hl, hr⟩ := mO.1 hf
 obtain ⟨x, h1, h2⟩ := YZ (y := y) hl f 0 (-2) 0 0 s s' rfl (by omega) hr ⟨by omega, by omega, hl⟩ h
 unfold rU tQ
 simp only [Int.natCast_zero] at h1
 rw [h1]
 exact h2

theorem HK {x : Int} (hx : x < 1125899906842624) : ∀ {f : List aB} {last n fr : Int}, oD last f → (∀ t, 0 ≤ n + val f t) → (n ≠ 0 → fr ≤ last) →
  ((∃ s ∈ qB n fr f, s.From ≤ x ∧ x < s.To) ↔ (n ≠ 0 → fr ≤ x) ∧ 0 < n + val f x)
 | [], last, n, fr, _, hn, _ => by
  have h0 := hn 0
  simp only [SA, Int.add_zero] at h0 ⊢
  unfold qB
  by_cases h : 0 < n
  ·rw [if_pos h]
   simp only [List.mem_singleton]
   constructor
   ·rintro ⟨s, rfl, h1, h2⟩; exact ⟨fun _ => h1, h⟩
   ·rintro ⟨h1, _⟩; exact ⟨_, rfl, h1 (by omega), hx⟩
  ·rw [if_neg h]
   simp [h]
 | j :: r, last, n, fr, hr, hn, hf => by
  have hj := hr.1
  have hab := hr.2.above
  have hv : ∀ t, t ≤ j.At → val r t = 0 := fun t ht => sD fun k hk => by have := (hab k hk).1; omega
  have hn0 : 0 ≤ n := by
   have := hn (j.At - 1)
   rw [kN, if_neg (by omega), hv _ (by omega)] at this; omega
  have hn1 : 0 ≤ n + j.Net := by
   have := hn j.At
   rw [kN, if_pos (by omega), hv _ (by omega)] at this; omega
  have hn2 : ∀ t, 0 ≤ (n + j.Net) + val r t := fun t => by
   by_cases ht : j.At ≤ t
   ·have := hn t
    rw [kN, if_pos ht] at this; omega
   ·rw [hv t (by omega)]; omega
  rw [kN]
  unfold qB
  by_cases hz : n + j.Net = 0
  ·rw [if_pos hz]
   have ih := HK hx (f := r) (last := j.At) (n := 0) (fr := if n = 0 then j.At else fr) hr.2 (fun t => by have := hn2 t; omega) (by simp)
   have e : (∃ s ∈ (⟨if n = 0 then j.At else fr, j.At⟩ : bJ) :: qB 0 (if n = 0 then j.At else fr) r, s.From ≤ x ∧ x < s.To) ↔ ((if n = 0 then j.At else fr) ≤ x ∧ x < j.At) ∨ (∃ s ∈ qB 0 (if n = 0 then j.At else fr) r, s.From ≤ x ∧ x < s.To) := by
    simp only [List.mem_cons, or_and_right, exists_or, exists_eq_left]
   rw [e, ih]
   by_cases hnz : n = 0
   ·omega
   ·rw [if_neg hnz]
    have hfl := hf hnz
    by_cases hxj : j.At ≤ x
    ·rw [if_pos hxj]
     constructor
     ·rintro (h | h)
      ·omega
      ·exact ⟨fun _ => by omega, by have := h.2; omega⟩
     ·rintro ⟨_, h⟩; right; exact ⟨by simp, by omega⟩
    ·rw [if_neg hxj, hv x (by omega)]
     constructor
     ·rintro (h | h)
      ·exact ⟨fun _ => h.1, by omega⟩
      ·have := h.2; omega
     ·rintro ⟨h, _⟩; left; exact ⟨h hnz, by omega⟩
  ·rw [if_neg hz, HK hx (f := r) (last := j.At) (n := n + j.Net) (fr := if n = 0 then j.At else fr) hr.2 hn2 (fun _ => by
    split
    ·exact Int.le_refl _
    ·rename_i h; have := hf h; omega)]
   by_cases hnz : n = 0
   ·simp only [hnz, if_true]
    by_cases hxj : j.At ≤ x
    ·rw [if_pos hxj]
     constructor
     ·rintro ⟨_, h⟩; exact ⟨by simp, by omega⟩
     ·rintro ⟨_, h⟩; exact ⟨fun _ => hxj, by omega⟩
    ·rw [if_neg hxj, hv x (by omega)]
     constructor
     ·rintro ⟨h, _⟩; exact absurd (h (by omega)) hxj
     ·rintro ⟨_, h⟩; omega
   ·rw [if_neg hnz]
    by_cases hxj : j.At ≤ x
    ·rw [if_pos hxj]
     constructor
     ·rintro ⟨h, h2⟩; exact ⟨fun _ => h hz, by omega⟩
     ·rintro ⟨h, h2⟩; exact ⟨fun _ => h hnz, by omega⟩
    ·rw [if_neg hxj, hv x (by omega)]
     constructor
     ·rintro ⟨h, h2⟩; exact ⟨fun _ => h hz, by omega⟩
     ·rintro ⟨h, h2⟩; exact ⟨fun _ => h hnz, by omega⟩

theorem GC : ∀ {f : List aB} {last n fr : Int}, oD last f → -2 ≤ last → last < 1125899906842624 → (n ≠ 0 → fr ≤ last ∧ -1 ≤ fr) → ∀ s ∈ qB n fr f, -1 ≤ s.From ∧ s.From < s.To ∧ s.To ≤ 1125899906842624
 | [], last, n, fr, _, h1, h2, hf, s, hs => by
  unfold qB at hs
  split at hs
  ·simp only [List.mem_singleton] at hs; subst hs
   have := hf (by omega)
   exact ⟨this.2, by show fr < 1125899906842624; omega, Int.le_refl _⟩
  ·simp at hs
 | j :: r, last, n, fr, hr, h1, h2, hf, s, hs => by
  have hj := hr.1
  have key : (if n = 0 then j.At else fr) ≤ j.At ∧ -1 ≤ (if n = 0 then j.At else fr) := by
   split
   ·omega
   ·rename_i h; have := hf h; omega
  unfold qB at hs
  split at hs
  ·rcases List.mem_cons.1 hs with rfl | hs
   ·rename_i hz
    have hnz : n ≠ 0 := by omega
    have := hf hnz
    refine ⟨key.2, ?_, by show j.At ≤ _; omega⟩
    show (if n = 0 then j.At else fr) < j.At
    rw [if_neg hnz]; omega
   ·exact GC hr.2 (by omega) (by omega) (by simp) s hs
  ·exact GC hr.2 (by omega) (by omega) (fun _ => key) s hs

theorem QL {f : List aB} (hf : eO f = true) (hv : ∀ t, 0 ≤ val f t) {x : Int} (hx : x < 1125899906842624) : (∃ s ∈ EF f, s.From ≤ x ∧ x < s.To) ↔ 0 < val f x := by
 rw [EF, HK hx (mO.1 hf).2 (fun t => by have := hv t; omega) (by simp)]
 simp

theorem ME {f : List aB} (hf : eO f = true) : ∀ s ∈ EF f, -1 ≤ s.From ∧ s.From < s.To ∧ s.To ≤ 1125899906842624 :=
 GC (mO.1 hf).2 (by omega) (by omega) (by simp)

def eX (f : List aB) (a b : Int) : Int := val f a + oP (a + 1) b f

theorem PT (a b : Int) : ∀ {f : List aB}, (∀ j ∈ f, j.Net ≤ 1048576) → 0 ≤ oP a b f ∧ oP a b f ≤ 1048576 * f.length
 | [], _ => by simp [oP]
 | j :: r, h => by
  have ih := PT a b (f := r) fun k hk => h k (List.mem_cons_of_mem _ hk)
  have hj := h j (by simp)
  rw [zO]
  simp only [List.length_cons, Int.natCast_add, Int.natCast_one, Int.mul_add, Int.mul_one]
  by_cases hi : inW a b j = true
  ·rw [if_pos hi]
   simp only [inW, Bool.and_eq_true, decide_eq_true_eq] at hi
   omega
  ·rw [if_neg hi]; omega

theorem OZ {f : List aB} (hf : eO f = true) {w : bJ} : uO f w = some (eX f w.From w.To) := by
 obtain ⟨hl, hr⟩ := mO.1 hf
 have hb := hr.above
 have hv := SO (f := f) w.From (show (0 : Int) ≤ 1048576 by omega) fun j hj => ⟨(hb j hj).2.2.2.1, (hb j hj).2.2.2.2⟩
 unfold uO
 rw [aBn, hf]
 simp only [if_true, Option.bind_some]
 unfold xH
 have key := xD (l := f) (body := fun s : Int × Int => qR w f ((f.length : Nat) : Int) s.1 s.2) (fun (n : Int) i => (n, i)) (fun n r => n + oP (w.From + 1) w.To r)
  (fun n r => n ≤ 1048576 * (2048 - r.length) ∧ -(1048576 * (2048 - r.length)) ≤ n ∧ r.length ≤ 1024 ∧ ∀ j ∈ r, j.Net ≤ 1048576 ∧ -1048576 ≤ j.Net) (val f w.From) ?_ ?_ ⟨by omega, by omega, hl, fun j hj => ⟨(hb j hj).2.2.2.1, (hb j hj).2.2.2.2⟩⟩
 ·rw [key]
  rfl
 ·intro i j r n hj hI
  left
  obtain ⟨d1, d2, d3, d4⟩ := idx hj (by omega)
  obtain ⟨i1, i2, i3, i4⟩ := hI
  simp only [List.length_cons] at i1 i2 i3
  have i5 := i4 j (by simp)
  have hmx : (if (0 : Int) > j.Net then (0 : Int) else j.Net) = if 0 < j.Net then j.Net else 0 := by split <;> split <;> omega
  refine ⟨n + (if inW (w.From + 1) w.To j then j.Net else 0), ?_, ⟨?_, ?_, by omega, fun k hk => i4 k (List.mem_cons_of_mem _ hk)⟩, by rw [zO]; omega⟩
  ·have e1 : inW (w.From + 1) w.To j = (decide (0 < j.Net) && ((decide (w.From < j.At)) && (decide (j.At < w.To)))) := by
    unfold inW
    have : decide (w.From + 1 ≤ j.At) = decide (w.From < j.At) := decide_eq_decide.2 (by omega)
    rw [this]
   simp only [qR, d1, cond_true, aQ d2, d3, hmx, e1]
   cases hw : (decide (w.From < j.At)) && (decide (j.At < w.To)) with
   | false =>
    simp only [cond_false, qQ, d4, Bool.and_false, Bool.false_eq_true, if_false, Int.add_zero]
   | true =>
    have : IntKind.i64.wrap (n + (if 0 < j.Net then j.Net else 0)) = n + (if 0 < j.Net then j.Net else 0) := cW (by split <;> omega) (by split <;> omega)
    simp only [cond_true, qQ, d4, this, Bool.and_true, decide_eq_true_eq]
  ·split <;> omega
  ·split <;> omega
 ·intro n _
  simp only [qR, kL, cond_false]
  simp [oP]

theorem ZG {a b x : Int} (h1 : a ≤ x) (h2 : x < b) : ∀ f : List aB, val f x ≤ val f a + oP (a + 1) b f
 | [] => by simp [oP, SA]
 | j :: r => by
  have ih := ZG h1 h2 r
  rw [kN, kN, zO]
  by_cases hi : inW (a + 1) b j = true
  ·rw [if_pos hi]
   simp only [inW, Bool.and_eq_true, decide_eq_true_eq] at hi
   split <;> split <;> omega
  ·rw [if_neg hi]
   have hi : ¬ (0 < j.Net ∧ a + 1 ≤ j.At ∧ j.At < b) := by simpa [inW] using hi
   split <;> split <;> omega

theorem XI : ∀ {f : List aB} {last : Int}, oD last f → ∀ j ∈ f, val f j.At = val f (j.At - 1) + j.Net
 | [], _, _, j, hj => by simp at hj
 | k :: r, last, hr, j, hj => by
  have hab := hr.2.above
  rw [kN, kN]
  rcases List.mem_cons.1 hj with rfl | hj
  ·rw [if_pos (by omega), if_neg (by omega), sD (f := r) fun q hq => (hab q hq).1, sD (f := r) fun q hq => by have := (hab q hq).1; omega]
   omega
  ·have := (hab j hj).1
   rw [if_pos (by omega), if_pos (by omega), XI hr.2 j hj]
   omega

theorem MT {f : List aB} (hf : eO f = true) (hv : ∀ t, 0 ≤ val f t) {a b : Int} (hab : a < b) : 0 < eX f a b ↔ ∃ x, a ≤ x ∧ x < b ∧ 0 < val f x := by
 obtain ⟨hl, hr⟩ := mO.1 hf
 have hb := hr.above
 have hg := PT (a + 1) b (f := f) fun j hj => (hb j hj).2.2.2.1
 unfold eX
 constructor
 ·intro h
  by_cases h0 : 0 < val f a
  ·exact ⟨a, Int.le_refl _, hab, h0⟩
  ·have hva := hv a
   have hne : f.filter (inW (a + 1) b) ≠ [] := by
    intro hc
    unfold oP at h
    rw [hc] at h
    simp at h; omega
   obtain ⟨j, hj⟩ := List.exists_mem_of_ne_nil _ hne
   obtain ⟨hj1, hj2⟩ := List.mem_filter.1 hj
   simp only [inW, Bool.and_eq_true, decide_eq_true_eq] at hj2
   have := XI hr j hj1
   have := hv (j.At - 1)
   exact ⟨j.At, by omega, by omega, by omega⟩
 ·rintro ⟨x, h1, h2, h3⟩
  have := ZG h1 h2 f
  omega

end Go.Abs
namespace Go.Abs
open Go
theorem UE {n : Nat} {mk : List Int → aN} {p : aN} : ∀ {r : List Int}, p ∈ qG n mk r → ∃ run, p = mk run
 | [], h => by simp [qG] at h
 | x :: r, h => by
  unfold qG at h
  rcases List.mem_append.1 h with h | h
  ·split at h
   ·simp at h; exact ⟨_, h⟩
   ·simp at h
  ·exact UE h

theorem aCR {gs : List (List aI × List aB)} (hg : ∀ g ∈ gs, eO g.2 = true ∧ g.1.length ≤ 4398046510976) (hn : gs.length ≤ 1000000) (a b : Int) : okC (zY a b gs) := by
 refine ⟨by have : (zY a b gs).length ≤ gs.length := List.length_filterMap_le ..; omega, fun c hc => ?_⟩
 obtain ⟨g, h1, h2⟩ := List.mem_filterMap.1 hc
 split at h2
 ·simp only [Option.some.injEq] at h2; subst h2
  have := (hg g h1).2; simp only; omega
 ·cases h2

theorem aBh {l : List aE} (hl : okL l) (n frm : Int) : (wJ l n frm).1.length ≤ 4097 ∧ ∀ p ∈ (wJ l n frm).1, okC p.Rows := by
 unfold wJ
 by_cases h : oJ l n = 0
 ·obtain ⟨hm, ht, n1, n2⟩ := JH h
  obtain ⟨g1, g2⟩ := CW hl hm
  obtain ⟨_, _, f3, _⟩ := rD hm
  rw [if_neg (by simpa using h)]
  split
  ·simp
  ·split
   ·simp
   ·simp only
    refine ⟨by rw [TZ (by omega), List.length_drop]; omega, fun p hp => ?_⟩
    obtain ⟨run, rfl⟩ := UE hp
    exact aCR g1 (by omega) _ _
 ·rw [if_pos h]; simp

end Go.Abs
namespace Go.Abs
open Go
theorem UA {β : Type} {k : Int} {v : β} : ∀ {m : List (Int × β)}, k ∈ m.map (·.1) → (fE m k v).map (·.1) = m.map (·.1)
 | [], h => by simp at h
 | p :: m, h => by
  by_cases hp : p.1 = k
  ·simp [fE, hp]
  ·simp only [List.map_cons, List.mem_cons] at h
   rcases h with h | h
   ·exact absurd h.symm hp
   ·simp only [fE, hp, if_false, List.map_cons, UA h]

theorem SG {β : Type} {k : Int} {v : β} {m : List (Int × β)} (h : k ∉ m.map (·.1)) : (fE m k v).map (·.1) = m.map (·.1) ++ [k] := by
 rw [IM fun p hp e => h (List.mem_map.2 ⟨p, hp, e⟩)]; simp

theorem KZ {β : Type} {k : Int} : ∀ {m : List (Int × β)}, gK m k = none ↔ k ∉ m.map (·.1)
 | [] => by simp [gK]
 | p :: m => by
  rw [gK]
  by_cases hp : p.1 = k
  ·simp [hp]
  ·rw [if_neg hp, KZ (m := m)]
   simp only [List.map_cons, List.mem_cons, not_or]
   exact ⟨fun h => ⟨fun e => hp e.symm, h⟩, fun h => h.2⟩

theorem JP {β : Type} {k x : Int} {v : β} : ∀ {m : List (Int × β)}, gK (fE m k v) x = if x = k then some v else gK m x
 | [] => by
  simp only [fE, gK]
  by_cases h : k = x
  ·simp [h]
  ·rw [if_neg h, if_neg (fun e => h e.symm)]
 | p :: m => by
  by_cases hp : p.1 = k
  ·simp only [fE, if_pos hp, gK]
   by_cases h : k = x
   ·simp [h]
   ·rw [if_neg h, if_neg (fun e => h e.symm), if_neg (by rw [hp]; exact h)]
  ·simp only [fE, if_neg hp, gK]
   by_cases h : p.1 = x
   ·rw [if_pos h, if_pos h, if_neg (fun e => hp (h.trans e))]
   ·rw [if_neg h, if_neg h, JP (m := m)]

theorem JZ {S α : Type} {f : S → α → Option S} : ∀ {a b : List α} {s : S}, dQ f s (a ++ b) = (dQ f s a).bind fun s' => dQ f s' b
 | [], b, s => rfl
 | x :: a, b, s => by
  simp only [List.cons_append, dQ]
  cases f s x with
  | none => rfl
  | some s' => exact JZ (a := a)

def mkW (size t : Int) : aN := ⟨⟨t, min (t + size) 1125899906842624⟩, []⟩

def jU (g : List aI × List aB) (p : aN) : aN :=
 if p.Rows = [] ∨ (nF p.Rows).Row ≠ g.1 then ⟨p.Span, p.Rows ++ [⟨g.1, eX g.2 p.Span.From p.Span.To⟩]⟩ else p

def mU (size : Int) (g : List aI × List aB) (m : List (Int × aN)) (t : Int) : Option (List (Int × aN)) :=
 match gK m t with
 | none => if m.length = 1024 then none else some (fE m t (jU g (mkW size t)))
 | some p => some (fE m t (jU g p))

theorem zS (rs : List bB) (c : bB) : nF (rs ++ [c]) = c := by
 unfold nF
 have : (rs ++ [c]).length - 1 = rs.length := by simp
 rw [this, List.getD_eq_getElem?_getD, List.getElem?_append_right (Nat.le_refl _)]
 simp

theorem ZL (g : List aI × List aB) (p : aN) : (jU g p).Rows ≠ [] ∧ (nF (jU g p).Rows).Row = g.1 := by
 unfold jU
 split
 ·exact ⟨by simp, by rw [zS]⟩
 ·rename_i h
  simp only [not_or, Decidable.not_not] at h
  exact h

theorem WN (g : List aI × List aB) (p : aN) : jU g (jU g p) = jU g p := by
 obtain ⟨h1, h2⟩ := ZL g p
 have key : ∀ q : aN, q.Rows ≠ [] → (nF q.Rows).Row = g.1 → jU g q = q := fun q a b => by
  unfold jU
  rw [if_neg (by simp [a, b])]
 exact key _ h1 h2

theorem KQ {g : List aI × List aB} (hg : eO g.2 = true) (hr : g.1.length ≤ 4398046510976) {p : aN} (hp : p.Rows.length ≤ 1000000) (hlr : p.Rows ≠ [] → (nF p.Rows).Row.length ≤ 4398046510976) : pY g.1 g.2 p = some (jU g p) := by
 unfold pY
 have hlen : IntKind.i64.wrap (((List.length p.Rows : Nat) : Int) - 1) = ((List.length p.Rows : Nat) : Int) - 1 := cW (by omega) (by omega)
 simp only [wR, lN, gD, hlen]
 cases hR : p.Rows with
 | nil =>
  have h0 : decide ((((List.length ([] : List bB) : Nat) : Int) - 1) < 0) = true := by decide
  simp only [h0, Bool.not_true, Bool.true_or, cond_true, dN, cond_false, Option.bind_some]
  rw [aQ (by simp)]
  rw [CV hr, Option.bind_some, OZ hg, Option.bind_some, aQ (by simp)]
  unfold jU
  rw [if_pos (.inl hR), hR]
 | cons c rs =>
  have hl2 : (c :: rs).length ≤ 1000000 := by rw [← hR]; exact hp
  have hge : 0 ≤ (((List.length (c :: rs) : Nat) : Int) - 1) ∧ (((List.length (c :: rs) : Nat) : Int) - 1) < ((List.length (c :: rs) : Nat) : Int) := by simp only [List.length_cons]; omega
  have h0 : decide ((((List.length (c :: rs) : Nat) : Int) - 1) < 0) = false := decide_eq_false (by omega)
  have hlast : List.getD (c :: rs) (Int.toNat (((List.length (c :: rs) : Nat) : Int) - 1)) default = nF (c :: rs) := by
   unfold nF
   congr 1
   omega
  rw [h0]
  simp only [Bool.not_false, Bool.false_or, dN, cond_true]
  rw [aQ (fun _ => hge), hlast]
  have hsame : rY (nF (c :: rs)).Row g.1 = some (decide ((nF (c :: rs)).Row = g.1)) := by
   have := hlr (by rw [hR]; simp)
   rw [hR] at this
   exact IT _ _ (by omega)
  rw [hsame, Option.bind_some]
  unfold jU
  rw [hR]
  by_cases hq : (nF (c :: rs)).Row = g.1
  ·rw [decide_eq_true hq, if_neg (by simp [hq])]; rfl
  ·rw [decide_eq_false hq, if_pos (.inr hq)]
   simp only [Bool.not_false, cond_true]
   rw [CV hr, Option.bind_some, OZ hg, Option.bind_some, aQ (by simp only [List.length_cons, List.length_nil] at hl2 ⊢; omega)]

def NU (n : Nat) (r : List aI) (p : aN) : Prop := (p.Rows.length ≤ n ∨ (p.Rows ≠ [] ∧ (nF p.Rows).Row = r ∧ p.Rows.length ≤ n + 1)) ∧ (p.Rows ≠ [] → (nF p.Rows).Row.length ≤ 4398046510976)

theorem NU.add {n : Nat} {g : List aI × List aB} (hr : g.1.length ≤ 4398046510976) {p : aN} (h : NU n g.1 p) : NU n g.1 (jU g p) := by
 obtain ⟨h, h'⟩ := h
 unfold jU
 split
 ·rename_i hc
  refine ⟨.inr ⟨by simp, by rw [zS], ?_⟩, fun _ => by rw [zS]; exact hr⟩
  rcases h with h | ⟨h1, h2, h3⟩
  ·simp; omega
  ·rcases hc with hc | hc
   ·exact absurd hc h1
   ·exact absurd h2 hc
 ·exact ⟨h, h'⟩

def HU (n : Nat) (r : List aI) (m : List (Int × aN)) : Prop := ∀ t p, gK m t = some p → NU n r p

theorem aDw {size : Int} {g : List aI × List aB} (hg : eO g.2 = true) (hr : g.1.length ≤ 4398046510976) {n : Nat} (hn : n ≤ 900000) {m : List (Int × aN)} (hm : HU n g.1 m) {t : Int} (h0 : 0 ≤ t) (h1 : t < 1125899906842624) (hs0 : 0 ≤ size) (hs : size ≤ 1099511627776) (b : Bool) :
  (∀ m', mU size g m t = some m' → oC g.1 g.2 size b m t = some (.inl (b, m')) ∧ HU n g.1 m') ∧ (mU size g m t = none → oC g.1 g.2 size b m t = some (.inr (false, m))) := by
 unfold mU oC
 have small : ∀ p, NU n g.1 p → p.Rows.length ≤ 1000000 := fun p hp => by rcases hp.1 with h | ⟨_, _, h⟩ <;> omega
 have put : ∀ p, NU n g.1 p → HU n g.1 (fE m t (jU g p)) := by
  intro p hp t' p' h
  rw [JP] at h
  split at h
  ·cases h; exact hp.add hr
  ·exact hm t' p' h
 cases hgt : gK m t with
 | none =>
  simp only
  have hw : IntKind.i64.wrap (t + size) = t + size := cW (by omega) (by omega)
  have hmk : (aN.mk (bJ.mk t (if (1125899906842624 : Int) < (wR (t + size)) then (1125899906842624 : Int) else (wR (t + size)))) []) = mkW size t := by
   unfold mkW
   simp only [wR, hw]
   congr 2
   rw [Int.min_def]; split <;> split <;> omega
  have hf : NU n g.1 (mkW size t) := ⟨.inl (by simp [mkW]), fun h => absurd rfl h⟩
  rw [hmk, KQ hg hr (small _ hf) hf.2]
  by_cases hl : m.length = 1024
  ·have : decide ((lN m) = (1024 : Int)) = true := decide_eq_true (by simp only [lN]; omega)
   rw [this, if_pos hl]
   exact ⟨fun m' h => (by cases h), fun _ => rfl⟩
  ·have : decide ((lN m) = (1024 : Int)) = false := decide_eq_false (by simp only [lN]; omega)
   rw [this, if_neg hl]
   refine ⟨fun m' h => ?_, fun h => (by cases h)⟩
   cases h
   exact ⟨rfl, put _ hf⟩
 | some p =>
  simp only
  have hf := hm t p hgt
  rw [KQ hg hr (small _ hf) hf.2]
  refine ⟨fun m' h => ?_, fun h => (by cases h)⟩
  cases h
  exact ⟨rfl, put _ hf⟩

theorem XP {size : Int} {g : List aI × List aB} (hg : eO g.2 = true) (hr : g.1.length ≤ 4398046510976) {n : Nat} (hn : n ≤ 900000) (hs0 : 0 ≤ size) (hs : size ≤ 1099511627776) (b : Bool) : ∀ (ts : List Int) (m : List (Int × aN)), HU n g.1 m → (∀ t ∈ ts, 0 ≤ t ∧ t < 1125899906842624) →
  ∃ x, zG (fun st t => rnd (fun (q : Bool × List (Int × aN)) => oC g.1 g.2 size q.1 q.2 t) st) ts (.inl (b, m)) = some x ∧ (∀ m', dQ (mU size g) m ts = some m' → x = .inl (b, m') ∧ HU n g.1 m') ∧ (dQ (mU size g) m ts = none → ∃ q, q.1 = false ∧ x = .inr q)
 | [], m, hm, _ => ⟨_, rfl, fun m' h => by simp only [dQ, Option.some.injEq] at h; subst h; exact ⟨rfl, hm⟩, fun h => by simp [dQ] at h⟩
 | t :: ts, m, hm, ht => by
  obtain ⟨h0, h1⟩ := ht t (by simp)
  obtain ⟨a1, a2⟩ := aDw hg hr hn hm h0 h1 hs0 hs b
  simp only [zG, dQ]
  cases hst : mU size g m t with
  | none =>
   have e := a2 hst
   refine ⟨.inr (false, m), ?_, fun m' h => (by simp at h), fun _ => ⟨_, rfl, rfl⟩⟩
   simp only [rnd, e, Option.bind_some, Sum.isLeft_inr, Bool.false_eq_true, if_false]
  | some m1 =>
   obtain ⟨e, hm1⟩ := a1 m1 hst
   obtain ⟨x, e1, e2, e3⟩ := XP hg hr hn hs0 hs b ts m1 hm1 fun t' h' => ht t' (by simp [h'])
   refine ⟨x, ?_, e2, e3⟩
   simp only [rnd, e, Option.bind_some, Sum.isLeft_inl, if_true]
   exact e1

def pM (size hop frm front : Int) (f : List aB) : List Int := (EF f).flatMap (tG size hop frm front)

theorem IV {size hop frm front : Int} (ok : OkH size hop frm front) (s : bJ) : ∀ t ∈ tG size hop frm front s, 0 ≤ t ∧ t < 1125899906842624 := by
 intro t ht
 unfold tG at ht
 have h1 := (aDc (b := wV front s) ok.h0 (uL size hop frm s)).2 t ht
 obtain ⟨k, _, h2⟩ := (VP ok.h0 _).1 ht
 have h3 := (wK (n := s.From - size) ok.h0).1
 have h4 : jA hop (s.From - size) ≤ uL size hop frm s := Int.le_max_left _ _
 have h5 : wV front s ≤ 1125899906842624 := Int.min_le_right _ _
 omega

theorem WD {size hop frm front : Int} (ok : OkH size hop frm front) {g : List aI × List aB} (hg : eO g.2 = true) (hr : g.1.length ≤ 4398046510976) {n : Nat} (hn : n ≤ 900000) (b : Bool) : ∀ (ss : List bJ) (m : List (Int × aN)), HU n g.1 m → (∀ s ∈ ss, -1 ≤ s.From ∧ s.From < s.To ∧ s.To ≤ 1125899906842624) →
  ∃ x, zG (fun st s => rnd (fun (q : Bool × List (Int × aN)) => qA g.1 g.2 size hop frm front q.1 q.2 s) st) ss (.inl (b, m)) = some x ∧ (∀ m', dQ (mU size g) m (ss.flatMap (tG size hop frm front)) = some m' → x = .inl (b, m') ∧ HU n g.1 m') ∧ (dQ (mU size g) m (ss.flatMap (tG size hop frm front)) = none → ∃ q, q.1 = false ∧ x = .inr q)
 | [], m, hm, _ => ⟨_, rfl, fun m' h => by simp only [List.flatMap_nil, dQ, Option.some.injEq] at h; subst h; exact ⟨rfl, hm⟩, fun h => by simp [dQ] at h⟩
 | s :: ss, m, hm, hs => by
  have hsp := hs s (by simp)
  obtain ⟨x, e1, e2, e3⟩ := XP hg hr hn (size := size) (by have := ok.s0; omega) ok.s1 b (tG size hop frm front s) m hm (IV ok s)
  have hl : qA g.1 g.2 size hop frm front b m s = (Sum.elim (fun q => some (.inl q)) (fun q => some (.inr q)) x : Option ((Bool × List (Int × aN)) ⊕ (Bool × List (Int × aN)))) := by
   unfold qA
   simp only [zV, Option.bind_some]
   rw [aBm ok hsp.1 (by omega) e1]
   rfl
  simp only [zG, List.flatMap_cons, JZ]
  cases hst : dQ (mU size g) m (tG size hop frm front s) with
  | none =>
   obtain ⟨q, hq, rfl⟩ := e3 hst
   refine ⟨.inr q, ?_, fun m' h => (by simp at h), fun _ => ⟨_, hq, rfl⟩⟩
   simp only [rnd, hl, Sum.elim_inr, Option.bind_some, Sum.isLeft_inr, Bool.false_eq_true, if_false]
  | some m1 =>
   obtain ⟨rfl, hm1⟩ := e2 m1 hst
   obtain ⟨x, f1, f2, f3⟩ := WD ok hg hr hn b ss m1 hm1 fun s' h' => hs s' (by simp [h'])
   refine ⟨x, ?_, f2, f3⟩
   simp only [rnd, hl, Sum.elim_inl, Option.bind_some, Sum.isLeft_inl, if_true]
   exact f1

theorem aC3 {size hop frm front : Int} (ok : OkH size hop frm front) {g : List aI × List aB} (hg : eO g.2 = true) (hr : g.1.length ≤ 4398046510976) {n : Nat} (hn : n ≤ 900000) {m : List (Int × aN)} (hm : HU n g.1 m) :
  ∃ x, wY m g.1 g.2 size hop frm front = some x ∧ (∀ m', dQ (mU size g) m (pM size hop frm front g.2) = some m' → x = (true, m') ∧ HU n g.1 m') ∧ (dQ (mU size g) m (pM size hop frm front g.2) = none → x.1 = false) := by
 obtain ⟨x, e1, e2, e3⟩ := WD ok hg hr hn false (EF g.2) m hm (ME hg)
 unfold wY
 simp only [BS, Option.bind_some]
 rw [aBS hg e1, Option.bind_some]
 unfold pM
 cases hst : dQ (mU size g) m ((EF g.2).flatMap (tG size hop frm front)) with
 | none =>
  obtain ⟨q, hq, rfl⟩ := e3 hst
  exact ⟨_, rfl, fun m' h => (by cases h), fun _ => hq⟩
 | some m1 =>
  obtain ⟨rfl, hm1⟩ := e2 m1 hst
  exact ⟨_, rfl, fun m' h => (by cases h; exact ⟨rfl, hm1⟩), fun h => (by cases h)⟩

end Go.Abs
namespace Go.Abs
open Go
theorem IX {hop n x : Int} (hh : 1 ≤ hop) (h0 : 0 ≤ x) (hx : ∃ k : Int, x = k * hop) (h : n < x) : jA hop n ≤ x := by
 unfold jA
 split
 ·exact h0
 ·obtain ⟨k, rfl⟩ := hx
  have hf := KP (n := n) hh
  have : n / hop < k := by
   rcases Int.lt_or_le (n / hop) k with h1 | h1
   ·exact h1
   ·have := Int.mul_le_mul_of_nonneg_right h1 (show 0 ≤ hop by omega)
    omega
  exact Int.mul_le_mul_of_nonneg_right (show n / hop + 1 ≤ k by omega) (by omega)

theorem ZH {size hop frm : Int} {s : bJ} (hh : 1 ≤ hop) (hf : 0 ≤ frm) : 0 ≤ uL size hop frm s ∧ (∃ k : Int, uL size hop frm s = k * hop) ∧ s.From - size < uL size hop frm s ∧ frm ≤ uL size hop frm s ∧
  ∀ x : Int, 0 ≤ x → (∃ k : Int, x = k * hop) → s.From - size < x → frm ≤ x → uL size hop frm s ≤ x := by
 obtain ⟨a1, a2, _, _, a5⟩ := wK (n := s.From - size) hh
 obtain ⟨b1, b2, _, _, b5⟩ := wK (n := frm - 1) hh
 unfold uL
 refine ⟨by omega, ?_, by omega, by omega, fun x x0 xk x1 x2 => ?_⟩
 ·rcases Int.le_total (jA hop (s.From - size)) (jA hop (frm - 1)) with h | h
  ·rw [Int.max_eq_right h]; exact b5
  ·rw [Int.max_eq_left h]; exact a5
 ·have c1 := IX hh x0 xk x1
  have c2 := IX hh x0 xk (show frm - 1 < x by omega)
  omega

theorem MK {size hop frm front : Int} (ok : OkH size hop frm front) {s : bJ} {x : Int} : x ∈ tG size hop frm front s ↔ 0 ≤ x ∧ (∃ k : Int, x = k * hop) ∧ frm ≤ x ∧ x < front ∧ x < 1125899906842624 ∧ s.From - size < x ∧ x < s.To := by
 obtain ⟨f1, ⟨q, f2⟩, f3, f4, f5⟩ := ZH (size := size) (s := s) ok.h0 ok.f0
 have hb : x < wV front s ↔ x < s.To ∧ x < front ∧ x < 1125899906842624 := by unfold wV; omega
 unfold tG
 rw [VP ok.h0]
 constructor
 ·rintro ⟨k, h1, h2⟩
  have h3 := hb.1 h2
  have h4 : 0 ≤ (k : Int) * hop := Int.mul_nonneg (by omega) (by have := ok.h0; omega)
  refine ⟨by omega, ⟨q + k, ?_⟩, by omega, h3.2.1, h3.2.2, by omega, h3.1⟩
  rw [Int.add_mul]; omega
 ·rintro ⟨h1, ⟨k, hk⟩, h2, h3, h4, h5, h6⟩
  have h7 := f5 x h1 ⟨k, hk⟩ h5 h2
  have h8 : q ≤ k := by
   rcases Int.lt_or_le k q with hlt | hle
   ·have u := Int.mul_le_mul_of_nonneg_right (show k + 1 ≤ q by omega) (show 0 ≤ hop by have := ok.h0; omega)
    have u0 := ok.h0
    rw [Int.add_mul] at u
    omega
   ·exact hle
  refine ⟨(k - q).toNat, ?_, hb.2 ⟨h6, h3, h4⟩⟩
  rw [Int.toNat_of_nonneg (by omega), Int.sub_mul]; omega

theorem aEM {size hop frm front : Int} (hm : zC size hop = true) (h1 : oF frm = true) (h2 : oF front = true) : OkH size hop frm front := by
 have a := LH hm; have b := DB h1; have c := DB h2
 exact ⟨a.1, a.2.1, a.2.2.1, a.2.2.2, b.1, b.2, c.1, c.2⟩

end Go.Abs
namespace Go.Abs
open Go
abbrev G1 := List aI × List aB

def jW (size t : Int) : Int := min (t + size) 1125899906842624

def yO (size t : Int) (gs : List G1) : List bB := gs.filterMap fun g => if 0 < eX g.2 t (jW size t) then some ⟨g.1, eX g.2 t (jW size t)⟩ else none

def sO (size hop frm front : Int) (gs : List G1) (m : List (Int × aN)) : Option (List (Int × aN)) := dQ (fun m g => dQ (mU size g) m (pM size hop frm front g.2)) m gs

def yJ (size hop frm front : Int) (gs : List G1) : List Int := gs.flatMap fun g => pM size hop frm front g.2

def AZ (size hop frm front : Int) (gs : List G1) : List Int := (yJ size hop frm front gs).foldl (fun c t => jS t c) []

def xU (c : List Int) (ts : List Int) : List Int := ts.foldl (fun c t => jS t c) c

theorem FO (c : List Int) (t : Int) (ts : List Int) : xU c (t :: ts) = xU (jS t c) ts := rfl

theorem aAq (c a b : List Int) : xU c (a ++ b) = xU (xU c a) b := List.foldl_append ..

theorem NQ {last : Int} : ∀ {ts c : List Int}, Inc last c → (∀ t ∈ ts, last < t ∧ t < 1125899906842624) → Inc last (xU c ts)
 | [], c, h, _ => h
 | t :: ts, c, h, ht => by
  rw [FO]
  exact NQ (CC h (ht t (by simp)).1 (ht t (by simp)).2) fun x hx => ht x (by simp [hx])

theorem WZ {x : Int} : ∀ {ts c : List Int}, x ∈ xU c ts ↔ x ∈ ts ∨ x ∈ c
 | [], c => by simp [xU]
 | t :: ts, c => by
  rw [FO, WZ, FP]
  simp only [List.mem_cons]
  constructor
  ·rintro (h | h | h)
   ·exact .inl (.inr h)
   ·exact .inl (.inl h)
   ·exact .inr h
  ·rintro ((h | h) | h)
   ·exact .inr (.inl h)
   ·exact .inl h
   ·exact .inr (.inr h)

theorem OQ {t : Int} : ∀ {ps : List Int}, ps.length ≤ (jS t ps).length
 | [] => by simp [jS]
 | p :: r => by
  unfold jS
  split
  ·exact Nat.le_refl _
  ·split
   ·simp
   ·simp only [List.length_cons]
    have := OQ (t := t) (ps := r)
    omega

theorem JU : ∀ {ts c : List Int}, c.length ≤ (xU c ts).length
 | [], c => Nat.le_refl _
 | t :: ts, c => by
  rw [FO]
  exact Nat.le_trans OQ JU

theorem OF {size : Int} {g : G1} {last : Int} : ∀ {ts : List Int} {m : List (Int × aN)} {c : List Int}, Inc last c → (∀ t ∈ ts, last < t ∧ t < 1125899906842624) → (m.map (·.1)).Perm c → m.length ≤ 1024 →
  (∀ m', dQ (mU size g) m ts = some m' → (m'.map (·.1)).Perm (xU c ts) ∧ m'.length ≤ 1024) ∧ (dQ (mU size g) m ts = none → 1024 < (xU c ts).length)
 | [], m, c, _, _, hp, hl => ⟨fun m' h => by simp only [dQ, Option.some.injEq] at h; subst h; exact ⟨hp, hl⟩, fun h => by simp [dQ] at h⟩
 | t :: ts, m, c, hi, ht, hp, hl => by
  have ht0 := ht t (by simp)
  have hi' := CC hi ht0.1 ht0.2
  have rec1 := fun (m1 : List (Int × aN)) => OF (size := size) (g := g) (last := last) (ts := ts) (m := m1) (c := jS t c) hi' (fun x hx => ht x (by simp [hx]))
  simp only [dQ, FO]
  cases hg : gK m t with
  | none =>
   have hk : t ∉ m.map (·.1) := KZ.1 hg
   have hk' : t ∉ c := fun h => hk (hp.mem_iff.2 h)
   have hw := HW hk'
   by_cases hf : m.length = 1024
   ·have e : mU size g m t = none := by unfold mU; rw [hg]; simp [hf]
    rw [e]
    refine ⟨fun m' h => (by simp at h), fun _ => ?_⟩
    have h1 := hw.length_eq
    have h2 := hp.length_eq
    have h3 := JU (ts := ts) (c := jS t c)
    simp only [List.length_map, List.length_cons] at h1 h2
    omega
   ·have e : mU size g m t = some (fE m t (jU g (mkW size t))) := by unfold mU; rw [hg]; simp [hf]
    rw [e]
    have hp' : ((fE m t (jU g (mkW size t))).map (·.1)).Perm (jS t c) := by
     rw [SG hk]
     exact (List.perm_append_comm.trans (List.Perm.cons _ hp)).trans hw.symm
    refine rec1 _ hp' ?_
    have h1 := congrArg List.length (SG (v := jU g (mkW size t)) hk)
    simp only [List.length_map, List.length_append, List.length_cons, List.length_nil] at h1
    omega
  | some p =>
   have e : mU size g m t = some (fE m t (jU g p)) := by unfold mU; rw [hg]
   rw [e]
   have hk : t ∈ m.map (·.1) := by
    refine Decidable.byContradiction fun h => ?_
    rw [KZ.2 h] at hg; cases hg
   have hw : jS t c = c := HS hi (hp.mem_iff.1 hk)
   have hk2 := UA (v := jU g p) hk
   refine rec1 _ (by rw [hk2, hw]; exact hp) ?_
   have h1 := congrArg List.length hk2
   simp only [List.length_map] at h1
   omega

theorem EI {size hop frm front : Int} (ok : OkH size hop frm front) (f : List aB) : ∀ t ∈ pM size hop frm front f, -1 < t ∧ t < 1125899906842624 := by
 intro t ht
 obtain ⟨s, _, hs⟩ := List.mem_flatMap.1 ht
 have := IV ok s t hs
 omega

theorem QI {size hop frm front : Int} (ok : OkH size hop frm front) : ∀ {gs : List G1} {m : List (Int × aN)} {c : List Int}, Inc (-1) c → (m.map (·.1)).Perm c → m.length ≤ 1024 →
  (∀ m', sO size hop frm front gs m = some m' → (m'.map (·.1)).Perm (xU c (yJ size hop frm front gs)) ∧ m'.length ≤ 1024) ∧ (sO size hop frm front gs m = none → 1024 < (xU c (yJ size hop frm front gs)).length)
 | [], m, c, _, hp, hl => ⟨fun m' h => by simp only [sO, dQ, Option.some.injEq] at h; subst h; exact ⟨hp, hl⟩, fun h => by simp [sO, dQ] at h⟩
 | g :: gs, m, c, hi, hp, hl => by
  obtain ⟨k1, k2⟩ := OF (size := size) (g := g) hi (EI ok g.2) hp hl
  have e : yJ size hop frm front (g :: gs) = pM size hop frm front g.2 ++ yJ size hop frm front gs := rfl
  rw [e, aAq]
  simp only [sO, dQ]
  cases hs : dQ (mU size g) m (pM size hop frm front g.2) with
  | none =>
   refine ⟨fun m' h => (by simp at h), fun _ => ?_⟩
   have := k2 hs
   have := JU (ts := yJ size hop frm front gs) (c := xU c (pM size hop frm front g.2))
   omega
  | some m1 =>
   obtain ⟨p1, p2⟩ := k1 m1 hs
   exact QI ok (gs := gs) (m := m1) (NQ hi (EI ok g.2)) p1 p2

theorem TG {size : Int} {g : G1} (x : Int) : ∀ {ts : List Int} {m m' : List (Int × aN)}, dQ (mU size g) m ts = some m' → gK m' x = if x ∈ ts then some (jU g ((gK m x).getD (mkW size x))) else gK m x
 | [], m, m', h => by simp only [dQ, Option.some.injEq] at h; subst h; simp
 | t :: ts, m, m', h => by
  simp only [dQ] at h
  obtain ⟨m1, h1, h2⟩ := aW h
  have e : ∃ p, m1 = fE m t (jU g p) ∧ p = (gK m t).getD (mkW size t) := by
   unfold mU at h1
   cases hg : gK m t with
   | none =>
    rw [hg] at h1
    simp only at h1
    split at h1
    ·cases h1
    ·cases h1; exact ⟨_, rfl, rfl⟩
   | some p => rw [hg] at h1; cases h1; exact ⟨_, rfl, rfl⟩
  obtain ⟨p, rfl, rfl⟩ := e
  rw [TG x h2, JP]
  by_cases hx : x = t
  ·subst hx
   simp only [if_true, List.mem_cons, true_or, Option.getD_some, WN, ite_self]
  ·simp only [hx, if_false, List.mem_cons, false_or]

def AB (size hop frm front x : Int) (o : Option aN) (gs : List G1) : Option aN :=
 gs.foldl (fun o g => if x ∈ pM size hop frm front g.2 then some (jU g (o.getD (mkW size x))) else o) o

theorem SX {size hop frm front : Int} (x : Int) : ∀ {gs : List G1} {m m' : List (Int × aN)}, sO size hop frm front gs m = some m' → gK m' x = AB size hop frm front x (gK m x) gs
 | [], m, m', h => by simp only [sO, dQ, Option.some.injEq] at h; subst h; rfl
 | g :: gs, m, m', h => by
  simp only [sO, dQ] at h
  obtain ⟨m1, h1, h2⟩ := aW h
  have := SX x (gs := gs) h2
  rw [this, TG x h1]
  rfl

def vM (size hop frm front x : Int) (gs : List G1) : List bB := gs.filterMap fun g => if x ∈ pM size hop frm front g.2 then some ⟨g.1, eX g.2 x (jW size x)⟩ else none

theorem IB {size hop frm front x : Int} : ∀ {gs : List G1} {rs : List bB}, tT gs → rs ≠ [] → (∀ g ∈ gs, (nF rs).Row ≠ g.1) → AB size hop frm front x (some ⟨⟨x, jW size x⟩, rs⟩) gs = some ⟨⟨x, jW size x⟩, rs ++ vM size hop frm front x gs⟩
 | [], rs, _, _, _ => by simp [AB, vM]
 | g :: gs, rs, hs, hn, hl => by
  have hs' := List.pairwise_cons.1 hs
  have hg := hl g (by simp)
  simp only [AB, List.foldl_cons, Option.getD_some]
  by_cases hx : x ∈ pM size hop frm front g.2
  ·rw [if_pos hx]
   have e : jU g ⟨⟨x, jW size x⟩, rs⟩ = ⟨⟨x, jW size x⟩, rs ++ [⟨g.1, eX g.2 x (jW size x)⟩]⟩ := by
    unfold jU
    rw [if_pos (.inr hg)]
   rw [e]
   have := IB (size := size) (hop := hop) (frm := frm) (front := front) (x := x) (gs := gs) (rs := rs ++ [⟨g.1, eX g.2 x (jW size x)⟩]) hs'.2 (by simp) (fun q hq => by
    rw [zS]
    intro h
    have := hs'.1 q hq
    unfold ltG at this
    rw [show g.1 = q.1 from h] at this
    exact sF this)
   unfold AB at this
   rw [this]
   simp [vM, hx]
  ·rw [if_neg hx]
   have := IB (size := size) (hop := hop) (frm := frm) (front := front) (x := x) (gs := gs) (rs := rs) hs'.2 hn (fun q hq => hl q (by simp [hq]))
   unfold AB at this
   rw [this]
   simp [vM, hx]

theorem QM {size hop frm front x : Int} : ∀ {gs : List G1}, tT gs → AB size hop frm front x none gs = if vM size hop frm front x gs = [] then none else some ⟨⟨x, jW size x⟩, vM size hop frm front x gs⟩
 | [], _ => by simp [AB, vM]
 | g :: gs, hs => by
  have hs' := List.pairwise_cons.1 hs
  simp only [AB, List.foldl_cons, Option.getD_none]
  by_cases hx : x ∈ pM size hop frm front g.2
  ·rw [if_pos hx]
   have e : jU g (mkW size x) = ⟨⟨x, jW size x⟩, [⟨g.1, eX g.2 x (jW size x)⟩]⟩ := by
    unfold jU mkW
    rw [if_pos (.inl rfl)]; rfl
   rw [e]
   have := IB (size := size) (hop := hop) (frm := frm) (front := front) (x := x) (gs := gs) (rs := [⟨g.1, eX g.2 x (jW size x)⟩]) hs'.2 (by simp) (fun q hq h => by
    have h1 := hs'.1 q hq
    unfold ltG at h1
    have h2 : g.1 = q.1 := h
    rw [h2] at h1
    exact sF h1)
   unfold AB at this
   rw [this]
   simp [vM, hx]
  ·rw [if_neg hx]
   have := QM (size := size) (hop := hop) (frm := frm) (front := front) (x := x) (gs := gs) hs'.2
   unfold AB at this
   rw [this]
   have e : vM size hop frm front x (g :: gs) = vM size hop frm front x gs := by simp [vM, hx]
   rw [e]

theorem CR {size hop frm front : Int} (ok : OkH size hop frm front) {f : List aB} (hf : eO f = true) (hv : ∀ t, 0 ≤ val f t) {x : Int} : x ∈ pM size hop frm front f ↔ (0 ≤ x ∧ (∃ k : Int, x = k * hop) ∧ frm ≤ x ∧ x < front ∧ x < 1125899906842624) ∧ 0 < eX f x (jW size x) := by
 have hs0 := ok.s0
 unfold pM
 rw [List.mem_flatMap]
 constructor
 ·rintro ⟨s, h1, h2⟩
  obtain ⟨a1, a2, a3, a4, a5, a6, a7⟩ := (MK ok).1 h2
  have hsp := ME hf s h1
  refine ⟨⟨a1, a2, a3, a4, a5⟩, (MT hf hv (by unfold jW; omega)).2 ⟨max x s.From, by omega, by unfold jW; omega, ?_⟩⟩
  exact (QL hf hv (by omega)).1 ⟨s, h1, by omega, by omega⟩
 ·rintro ⟨⟨a1, a2, a3, a4, a5⟩, h⟩
  obtain ⟨y, y1, y2, y3⟩ := (MT hf hv (by unfold jW; omega)).1 h
  unfold jW at y2
  obtain ⟨s, h1, h2, h3⟩ := (QL hf hv (by omega)).2 y3
  exact ⟨s, h1, (MK ok).2 ⟨a1, a2, a3, a4, a5, by omega, by omega⟩⟩

theorem filterMap_eq {α β : Type} {f h : α → Option β} : ∀ {l : List α}, (∀ a ∈ l, f a = h a) → l.filterMap f = l.filterMap h
 | [], _ => rfl
 | a :: l, H => by
  rw [List.filterMap_cons, List.filterMap_cons, H a (by simp), filterMap_eq fun b hb => H b (by simp [hb])]

theorem aCJ {size hop frm front x : Int} (ok : OkH size hop frm front) (hx : 0 ≤ x ∧ (∃ k : Int, x = k * hop) ∧ frm ≤ x ∧ x < front ∧ x < 1125899906842624) {gs : List G1} (hg : ∀ g ∈ gs, eO g.2 = true ∧ ∀ t, 0 ≤ val g.2 t) : vM size hop frm front x gs = yO size x gs := by
 unfold vM yO
 refine filterMap_eq fun g h => ?_
 have := CR ok (hg g h).1 (hg g h).2 (x := x)
 by_cases hb : 0 < eX g.2 x (jW size x)
 ·rw [if_pos (this.2 ⟨hx, hb⟩), if_pos hb]
 ·rw [if_neg (fun q => hb (this.1 q).2), if_neg hb]

def JB (size hop frm front : Int) (gs : List G1) : List aN := (AZ size hop frm front gs).map fun t => ⟨⟨t, jW size t⟩, yO size t gs⟩

theorem XF {size hop frm front x : Int} {gs : List G1} : x ∈ AZ size hop frm front gs ↔ ∃ g ∈ gs, x ∈ pM size hop frm front g.2 := by
 have : AZ size hop frm front gs = xU [] (yJ size hop frm front gs) := rfl
 rw [this, WZ]
 simp [yJ, List.mem_flatMap]

theorem XS {size hop frm front : Int} (ok : OkH size hop frm front) (gs : List G1) : Inc (-1) (AZ size hop frm front gs) := by
 refine NQ (ts := yJ size hop frm front gs) (c := []) trivial fun t ht => ?_
 obtain ⟨g, _, h⟩ := List.mem_flatMap.1 ht
 exact EI ok g.2 t h

theorem aEp {size hop frm front : Int} (ok : OkH size hop frm front) {gs : List G1} (hs : tT gs) (hg : ∀ g ∈ gs, eO g.2 = true ∧ ∀ t, 0 ≤ val g.2 t) :
  (∀ m', sO size hop frm front gs [] = some m' → (AZ size hop frm front gs).length ≤ 1024 ∧ (m'.map (·.1)).Perm (AZ size hop frm front gs) ∧ ∀ x ∈ AZ size hop frm front gs, gK m' x = some ⟨⟨x, jW size x⟩, yO size x gs⟩) ∧
  (sO size hop frm front gs [] = none → 1024 < (AZ size hop frm front gs).length) := by
 obtain ⟨k1, k2⟩ := QI ok (gs := gs) (m := []) (c := []) trivial (List.Perm.refl _) (by simp)
 refine ⟨fun m' h => ?_, k2⟩
 obtain ⟨p1, p2⟩ := k1 m' h
 refine ⟨?_, p1, fun x hx => ?_⟩
 ·have := p1.length_eq
  simp only [List.length_map] at this
  show (xU [] (yJ size hop frm front gs)).length ≤ 1024
  omega
 ·rw [SX x h]
  obtain ⟨g, hgm, hxg⟩ := XF.1 hx
  have hxx := (CR ok (hg g hgm).1 (hg g hgm).2).1 hxg
  have e : gK ([] : List (Int × aN)) x = none := rfl
  rw [e, QM hs, ← aCJ ok hxx.1 hg, if_neg]
  intro hc
  have : (⟨g.1, eX g.2 x (jW size x)⟩ : bB) ∈ vM size hop frm front x gs := List.mem_filterMap.2 ⟨g, hgm, by rw [if_pos hxg]⟩
  rw [hc] at this
  simp at this

end Go.Abs
namespace Go.Abs
open Go
def vC (l : List aE) (size hop frm front : Int) : List aN × Int :=
 if !(zC size hop && eS l) then ([], 2) else if !jT l then ([], 20) else if !(oF frm && oF front) then ([], 13)
 else if 1024 < (AZ size hop frm front (groups l)).length then ([], 7) else (JB size hop frm front (groups l), 0)

def aFM (n : Nat) (m : List (Int × aN)) : Prop := ∀ t p, gK m t = some p → p.Rows.length ≤ n ∧ (p.Rows ≠ [] → (nF p.Rows).Row.length ≤ 4398046510976)

theorem PN {size hop frm front : Int} (ok : OkH size hop frm front) (a : List aN) (b : Int) : ∀ (gs : List G1) (n : Nat) (m : List (Int × aN)), (∀ g ∈ gs, eO g.2 = true ∧ g.1.length ≤ 4398046510976) → n + gs.length ≤ 900000 → aFM n m →
  ∃ x, itG (fun st r f => rnd (fun (q : List aN × Int × List (Int × aN)) => nL size hop frm front q.1 q.2.1 q.2.2 r f) st) gs (.inl (a, b, m)) = some x ∧ (∀ m', sO size hop frm front gs m = some m' → x = .inl (a, b, m')) ∧ (sO size hop frm front gs m = none → ∃ q, x = .inr ([], 7, q))
 | [], n, m, _, _, _ => ⟨_, rfl, fun m' h => by simp only [sO, dQ, Option.some.injEq] at h; subst h; rfl, fun h => by simp [sO, dQ] at h⟩
 | g :: gs, n, m, hg, hn, hm => by
  obtain ⟨h1, h2⟩ := hg g (by simp)
  simp only [List.length_cons] at hn
  obtain ⟨y, e1, e2, e3⟩ := aC3 ok (g := g) h1 h2 (n := n) (by omega) (m := m) (fun t p h => ⟨.inl (hm t p h).1, (hm t p h).2⟩)
  simp only [itG, sO, dQ]
  cases hs : dQ (mU size g) m (pM size hop frm front g.2) with
  | none =>
   have e4 := e3 hs
   refine ⟨.inr ([], 7, y.2), ?_, fun m' h => (by simp at h), fun _ => ⟨_, rfl⟩⟩
   have hb : nL size hop frm front a b m g.1 g.2 = some (.inr ([], 7, y.2)) := by
    unfold nL
    rw [e1, Option.bind_some, e4]; rfl
   simp only [rnd, hb, Option.bind_some, Sum.isLeft_inr, Bool.false_eq_true, if_false]
  | some m1 =>
   obtain ⟨rfl, hf⟩ := e2 m1 hs
   have hm1 : aFM (n + 1) m1 := fun t p h => by
    obtain ⟨q1, q2⟩ := hf t p h
    refine ⟨?_, q2⟩
    rcases q1 with q | ⟨_, _, q⟩ <;> omega
   obtain ⟨x, f1, f2, f3⟩ := PN ok a b gs (n + 1) m1 (fun q hq => hg q (by simp [hq])) (by omega) hm1
   refine ⟨x, ?_, f2, f3⟩
   have hb : nL size hop frm front a b m g.1 g.2 = some (.inl (a, b, m1)) := by
    unfold nL
    rw [e1, Option.bind_some]; rfl
   simp only [rnd, hb, Option.bind_some, Sum.isLeft_inl, if_true]
   exact f1

theorem QG : ∀ (q s : List Int), s.length + q.length ≤ 100000 → dQ sY s q = some (s ++ q)
 | [], s, _ => by simp [dQ]
 | t :: q, s, h => by
  simp only [List.length_cons] at h
  have e : sY s t = some (s ++ [t]) := by
   unfold sY
   rw [aQ (by simp only [List.length_cons, List.length_nil]; omega)]
  simp only [dQ, e, Option.bind_some]
  rw [QG q (s ++ [t]) (by simp; omega)]
  simp

theorem aGh {m : List (Int × aN)} {B : List Int} {mk : Int → aN} (hp : (m.map (·.1)).Perm B) (hs : B.Pairwise (· ≤ ·)) (hl : B.length ≤ 1024) (hg : ∀ x ∈ B, gK m x = some (mk x)) : wE m = some (B.map mk, 0) := by
 have hml : m.length = B.length := by simpa using hp.length_eq
 unfold wE
 rw [aQ (by simp only [lN]; omega)]
 refine JX fun q hq => ?_
 have hqB : q.Perm B := hq.trans hp
 have hql := hqB.length_eq
 rw [QG q [] (by simp only [List.length_nil]; omega), Option.bind_some, List.nil_append]
 unfold DR
 rw [aAz (by omega) hqB.symm hs, Option.bind_some, aQ (by simp only [lN]; omega)]
 have key := xD (l := B) (body := fun s : List aN × Int => sP m B (lN B) s.1 s.2) (fun (s : List aN) i => (s, i)) (fun s r => s ++ r.map mk)
  (fun s r => s.length + r.length ≤ 100000 ∧ ∀ x ∈ r, x ∈ B) [] ?_ ?_ ⟨by simp only [List.length_nil]; omega, fun x hx => hx⟩
 ·rw [key]
  simp
 ·rintro i x r s hx ⟨h1, h2⟩
  left
  simp only [List.length_cons] at h1
  obtain ⟨d1, d2, d3, d4⟩ := idx hx (by omega)
  refine ⟨s ++ [mk x], ?_, ⟨by simp; omega, fun y hy => h2 y (by simp [hy])⟩, by simp⟩
  simp only [sP, lN, gD, wR, d1, cond_true, aQ d2, d3, d4, hg x (h2 x (by simp))]
  rw [aQ (by simp only [List.length_cons, List.length_nil]; omega)]
 ·rintro s _
  simp only [sP, lN, kL, cond_false]
  simp

theorem aAd {l : List aE} (hl : okL l) (size hop frm front : Int) : yL l size hop frm front = some (vC l size hop frm front) := by
 unfold yL vC
 simp only [zP, uB, Option.bind_some]
 rw [show ((((decide ((1 : Int) ≤ size)) && (decide (size ≤ (1099511627776 : Int)))) && (decide ((1 : Int) ≤ hop))) && (decide (hop ≤ (1099511627776 : Int)))) = zC size hop from rfl, show ((decide ((0 : Int) ≤ frm)) && (decide (frm ≤ (1125899906842624 : Int)))) = oF frm from rfl, show ((decide ((0 : Int) ≤ front)) && (decide (front ≤ (1125899906842624 : Int)))) = oF front from rfl]
 rw [DH hl, FT hl]
 cases hm : zC size hop with
 | false => rfl
 | true =>
  cases he : eS l with
  | false => rfl
  | true =>
   simp only [Bool.not_true, Bool.not_false, dN, cond_true, Option.bind_some, Bool.or_self, cond_false, Bool.and_self, Bool.false_eq_true, if_false]
   cases ht : jT l with
   | false => rfl
   | true =>
    simp only [Bool.not_true, cond_false, Bool.false_eq_true, if_false]
    cases h1 : oF frm with
    | false => rfl
    | true =>
     cases h2 : oF front with
     | false => rfl
     | true =>
      simp only [Bool.not_true, Bool.not_false, cond_true, Option.bind_some, Bool.or_self, cond_false, Bool.and_self, Bool.false_eq_true, if_false]
      have ok := aEM hm h1 h2
      obtain ⟨e1, e2, e3⟩ := jN he
      have hn := PK l
      have hv : ∀ g ∈ groups l, eO g.2 = true ∧ ∀ t, 0 ≤ val g.2 t := fun g hg => by
       refine ⟨(e2 g hg).2, fun t => ?_⟩
       have := (xO.1 ht).2 g.1 t
       rwa [← tP e3, BF e3 hg] at this
      have hrow : ∀ g ∈ groups l, eO g.2 = true ∧ g.1.length ≤ 4398046510976 := fun g hg => ⟨(e2 g hg).2, FG hl hg⟩
      unfold DT
      simp only [rN, Option.bind_some]
      obtain ⟨x, f1, f2, f3⟩ := PN ok [] 0 (groups l) 0 [] hrow (by omega) (fun t p h => by simp [gK] at h)
      rw [PW hl (s' := x) (by rw [he]; exact f1), Option.bind_some]
      obtain ⟨k1, k2⟩ := aEp ok e3 hv
      cases hs : sO size hop frm front (groups l) [] with
      | none =>
       obtain ⟨q, rfl⟩ := f3 hs
       rw [if_pos (k2 hs)]; rfl
      | some m1 =>
       obtain rfl := f2 m1 hs
       obtain ⟨p1, p2, p3⟩ := k1 m1 hs
       rw [if_neg (by omega)]
       simp only [Sum.elim_inl]
       exact aGh p2 (RL (XS ok _)) p1 p3

end Go.Abs
namespace Go.Abs
open Go
theorem aBK (size t : Int) (g : G1) (gs : List G1) : yO size t (g :: gs) = (if 0 < eX g.2 t (jW size t) then [⟨g.1, eX g.2 t (jW size t)⟩] else []) ++ yO size t gs := by
 unfold yO
 by_cases h : 0 < eX g.2 t (jW size t) <;> simp [h]

end Go.Abs
namespace Go.Abs
open Go
theorem aFw {f : List aB} {t : Int} (hf : eO f = true) (h0 : 0 ≤ t) (ht : t < 1125899906842624) (h : (rest f t).2 = 0) : (rest f t).1 = xL t f := by
 unfold rest at h ⊢
 rw [if_pos hf, if_neg (by omega), if_neg (by omega)] at h ⊢
 unfold told at h ⊢
 split at h
 ·rename_i c; rw [if_pos c]
 ·simp at h

theorem lI {l : List aE} (h : eS l = true) (r : List aI) : look (groups l) r = gL l r := tP (jN h).2.2 r

theorem aD9 {by1 : List aB → List aB × Int} {l : List aE} (hb : ∀ f, eO f = true → (by1 f).2 = 0 → eO (by1 f).1 = true) (h : (zH by1 l).2 = 0) : eS (zH by1 l).1 = true := by
 obtain ⟨h1, h2, h3, h4⟩ := GP h
 obtain ⟨_, g1, g2⟩ := jN h1
 rw [h3] at h4 ⊢
 refine aCy (wG g2) (fun g hg => ?_) h4
 obtain ⟨q, hq, rfl⟩ := List.mem_map.1 hg
 exact ⟨(g1 q hq).1, hb _ (g1 q hq).2 (h2 q hq)⟩

theorem aFo {f : List aB} (h : (told f).2 = 0) : eO (told f).1 = true := by
 unfold told at h ⊢
 split at h
 ·rename_i c; rw [if_pos c]; exact c
 ·simp at h

theorem aEn {f : List aB} {t : Int} (hf : eO f = true) (h : (rest f t).2 = 0) : eO (rest f t).1 = true := by
 unfold rest at h ⊢
 rw [if_pos hf] at h ⊢
 split
 ·exact SD
 ·rename_i c
  rw [if_neg c] at h
  split
  ·exact hf
  ·rename_i c2; rw [if_neg c2] at h; exact aFo h

theorem FB {l : List aE} {t : Int} (h : (gI l t).2 = 0) : eS (gI l t).1 = true := aD9 (fun _ a b => aEn a b) h

theorem sH {l : List aE} {t : Int} (h0 : 0 ≤ t) (ht : t < 1125899906842624) (h : (gI l t).2 = 0) (r : List aI) : gL (gI l t).1 r = xL t (gL l r) := by
 have hm := (GP h).1
 have h1 := aCi (by1 := fun f => rest f t) (by rw [XC]) h r
 have h2 := aD3 (by1 := fun f => rest f t) (by rw [XC]) h r
 rw [lI hm] at h1 h2
 have := lI (FB h) r
 unfold gI at this ⊢
 rw [← this, h1, aFw (qJ hm r) h0 ht h2]

end Go.Abs
namespace Go.Abs
open Go
theorem EX {l : List aE} {e : aE} : jE e ∈ gL l e.Row ↔ e ∈ l := by
 unfold gL
 rw [List.mem_map]
 constructor
 ·rintro ⟨q, h1, h2⟩
  obtain ⟨h3, h4⟩ := List.mem_filter.1 h1
  have h5 : q.Row = e.Row := by simpa using h4
  obtain ⟨r, a, n⟩ := q; obtain ⟨r', a', n'⟩ := e
  simp only [jE, aB.mk.injEq] at h2 h5
  subst h5
  rw [← h2.1, ← h2.2]; exact h3
 ·intro h
  exact ⟨e, List.mem_filter.2 ⟨h, by simp⟩, rfl⟩

theorem DG {t : Int} : ∀ {f : List aB}, ∀ j ∈ kQ t f, j.At < t
 | [], j, h => by simp [kQ] at h
 | k :: f, j, h => by
  unfold kQ at h
  split at h
  ·simp at h
  ·rcases List.mem_cons.1 h with rfl | h
   ·omega
   ·exact DG j h

def byW (a b : Int) (f : List aB) : List aB × Int := (f.filter (inW a b), 0)

theorem NF (a b : Int) : ∀ gs : List (List aI × List aB), zY a b gs = (sI (qT (byW a b) gs)).map fun g => (⟨g.1, (g.2.map aB.Net).sum⟩ : bB)
 | [] => rfl
 | g :: gs => by
  rw [PL, NF a b gs]
  have e : qT (byW a b) (g :: gs) = (g.1, g.2.filter (inW a b)) :: qT (byW a b) gs := rfl
  rw [e]
  obtain ⟨h1, h2⟩ := GH a b g.2
  unfold sI
  by_cases h : g.2.filter (inW a b) = []
  ·rw [if_neg (by rw [h2.2 h]; omega)]
   simp [h]
  ·rw [if_pos (by have : oP a b g.2 ≠ 0 := fun q => h (h2.1 q); omega)]
   have hq : (!(g.2.filter (inW a b)).isEmpty) = true := by simpa [List.isEmpty_iff] using h
   simp only [List.filter_cons, hq, if_true, List.map_cons]
   rfl

theorem zL {gs : List (List aI × List aB)} (hs : tT gs) (r : List aI) : look (sI gs) r = look gs r := by
 rw [← AE hs, SU hs]

theorem aDr {l m : List aE} {a b : Int} (hl : eS l = true) (hm : eS m = true) (h : ∀ r, (gL l r).filter (inW a b) = (gL m r).filter (inW a b)) : zY a b (groups l) = zY a b (groups m) := by
 have sl := (jN hl).2.2
 have sm := (jN hm).2.2
 have s1 := wG (by1 := byW a b) sl
 have s2 := wG (by1 := byW a b) sm
 rw [NF, NF, LK (gs := sI (qT (byW a b) (groups l))) (hs := sI (qT (byW a b) (groups m))) (s1.filter _) (s2.filter _) (xA _) (xA _) fun r => ?_]
 rw [zL s1, zL s2, tN (by1 := byW a b) rfl, tN (by1 := byW a b) rfl, lI hl, lI hm]
 exact h r

theorem aDP {a b t : Int} (ha : t ≤ a) (f : List aB) : f.filter (inW a b) = (aft t f).filter (inW a b) := by
 conv => lhs; rw [← xB t f]
 rw [List.filter_append]
 have : (kQ t f).filter (inW a b) = [] := List.filter_eq_nil_iff.2 fun j hj => by
  have := DG j hj
  simp [inW]; omega
 rw [this, List.nil_append]

theorem TF {a b t : Int} (h0 : 0 ≤ t) (ha : t ≤ a) (f : List aB) : (xL t f).filter (inW a b) = f.filter (inW a b) := by
 rw [aDP ha f]
 unfold xL
 rw [List.filter_append]
 have : (if tB (kQ t f) = 0 then [] else [(⟨-1, tB (kQ t f)⟩ : aB)]).filter (inW a b) = [] := by
  split
  ·rfl
  ·have : inW a b ⟨-1, tB (kQ t f)⟩ = false := by
    cases hq : inW a b ⟨-1, tB (kQ t f)⟩ with
    | false => rfl
    | true => simp only [inW, Bool.and_eq_true, decide_eq_true_eq] at hq; omega
   simp [this]
 rw [this, List.nil_append]

theorem aE2 {S : List Int} (hS : S.Pairwise (· < ·)) {i j : Nat} (hij : i < j) (hj : j < S.length) : S.getD i 0 < S.getD j 0 := by
 rw [List.getD_eq_getElem?_getD, List.getD_eq_getElem?_getD, List.getElem?_eq_getElem (by omega), List.getElem?_eq_getElem hj]
 exact List.pairwise_iff_getElem.1 hS i j (by omega) hj hij

theorem DA {S : List Int} (hS : S.Pairwise (· < ·)) (hl : S.length ≤ 1000000) (t : Int) : (∀ i, i < fU S t → S.getD i 0 < t) ∧ (∀ i, fU S t ≤ i → i < S.length → t ≤ S.getD i 0) := by
 have hle := AX S t
 obtain ⟨_, hs1, hs2⟩ := VI (hS.imp fun h => by omega) hl t
 refine ⟨fun i hi => ?_, fun i hi hil => ?_⟩
 ·have hm1 : S.getD i 0 ∈ S.take (fU S t) := by
   refine List.mem_of_getElem? (i := i) ?_
   rw [List.getElem?_take, if_pos hi, List.getD_eq_getElem?_getD, List.getElem?_eq_getElem (by omega)]; rfl
  rw [← hs1] at hm1
  simpa using (List.mem_filter.1 hm1).2
 ·have hm1 : S.getD i 0 ∈ S.drop (fU S t) := by
   refine List.mem_of_getElem? (i := i - fU S t) ?_
   rw [List.getElem?_drop, show fU S t + (i - fU S t) = i by omega, List.getD_eq_getElem?_getD, List.getElem?_eq_getElem hil]; rfl
  rw [← hs2] at hm1
  simpa using (List.mem_filter.1 hm1).2

theorem NH {S : List Int} (hS : S.Pairwise (· < ·)) (hl : S.length ≤ 1000000) {t : Int} {k : Nat} (hk : k ≤ S.length) (h1 : ∀ i, i < k → S.getD i 0 < t) (h2 : k < S.length → t ≤ S.getD k 0) : fU S t = k := by
 obtain ⟨g1, g2⟩ := DA hS hl t
 have hle := AX S t
 rcases Nat.lt_trichotomy (fU S t) k with h | h | h
 ·have := g2 (fU S t) (Nat.le_refl _) (by omega)
  have := h1 (fU S t) h; omega
 ·exact h
 ·have := h2 (by omega)
  have := g1 k h; omega

theorem ZF {S : List Int} (hS : S.Pairwise (· < ·)) (hl : S.length ≤ 1000000) {n : Int} (hn : 1 ≤ n) (t : Int) : oZ S n t ≤ t ∧ (oZ S n t = t ∨ oZ S n t ∈ S) := by
 obtain ⟨g1, g2⟩ := DA hS hl t
 have hle := AX S t
 unfold oZ
 by_cases hfm : firstM S n t = fU S t
 ·rw [if_pos hfm]; exact ⟨Int.le_refl _, .inl rfl⟩
 ·rw [if_neg hfm]
  have hf : firstM S n t < fU S t := by unfold firstM at hfm ⊢; omega
  refine ⟨by have := g1 _ hf; omega, .inr ?_⟩
  rw [List.getD_eq_getElem?_getD, List.getElem?_eq_getElem (by omega)]
  exact List.getElem_mem _

theorem aDu {l : List aE} {n t : Int} (h : (BW l n t).2 = 0) : oJ l n = 0 ∧ 0 ≤ t ∧ t ≤ 1125899906842624 ∧ (t < 1125899906842624 → (BW l n t).1 = oZ (bU l) n t) ∧ (t = 1125899906842624 → (BW l n t).1 = t) := by
 unfold BW at h ⊢
 by_cases hc : oJ l n = 0
 ·rw [if_neg (by simpa using hc)] at h ⊢
  by_cases h1 : t < 0 ∨ 1125899906842624 < t
  ·rw [if_pos h1] at h; simp at h
  ·rw [if_neg h1]
   refine ⟨hc, by omega, by omega, fun h2 => by rw [if_neg (by omega)], fun h2 => by rw [if_pos h2]⟩
 ·rw [if_pos hc] at h; exact absurd h hc

theorem MO {n : Nat} {mk mk' : List Int → aN} : ∀ {S : List Int}, (∀ run : List Int, (∀ x ∈ run, x ∈ S) → run ≠ [] → mk run = mk' run) → 0 < n → qG n mk S = qG n mk' S
 | [], _, _ => rfl
 | x :: r, h, hn => by
  unfold qG
  rw [MO (fun run hr h0 => h run (fun y hy => by simp [hr y hy]) h0) hn, h ((x :: r).take n) (fun y hy => List.mem_of_mem_take hy) (by simp; omega)]

theorem RX {l : List aE} {n t : Int} (hl : eS l = true) (ht : jT l = true) (hn : 1 ≤ n) (hn2 : n ≤ 64) (t0 : 0 ≤ t) (t1 : t < 1125899906842624) (hk : (gI l (oZ (bU l) n t)).2 = 0) :
  BW (gI l (oZ (bU l) n t)).1 n t = (oZ (bU l) n t, 0) ∧ wJ (gI l (oZ (bU l) n t)).1 n (oZ (bU l) n t) = wJ l n (oZ (bU l) n t) := by
 obtain ⟨l1, _, l3, l4⟩ := rD hl
 obtain ⟨o1, o2⟩ := ZF l1 (by omega) hn t
 have f0 : 0 ≤ oZ (bU l) n t := by
  rcases o2 with h | h
  ·omega
  ·have := l4 _ h; omega
 have hfrm : ∃ frm, frm = oZ (bU l) n t := ⟨_, rfl⟩
 obtain ⟨frm, hfrm⟩ := hfrm
 rw [← hfrm] at o1 o2 f0 hk ⊢
 have mr := FB hk
 have tr : jT (gI l frm).1 = true := xO.2 ⟨mr, fun r => by
  rw [sH f0 (by omega) hk]
  refine SP (XN (qJ hl r) (by omega)) fun s s1 s2 => ?_
  rw [FE (qJ hl r) s (by omega)]
  exact (xO.1 ht).2 r _⟩
 have hmem : ∀ e : aE, -1 < e.At → (e ∈ (gI l frm).1 ↔ e ∈ l ∧ frm ≤ e.At) := by
  intro e hat
  rw [← EX, ← EX (l := l), sH f0 (by omega) hk]
  unfold xL
  rw [List.mem_append]
  have hfa := xB frm (gL l e.Row)
  constructor
  ·rintro (h | h)
   ·split at h
    ·simp at h
    ·simp only [List.mem_singleton] at h
     have := congrArg aB.At h
     simp only [jE] at this; omega
   ·have := KF (mO.1 (qJ hl e.Row)).2 _ h
    exact ⟨by rw [← hfa]; exact List.mem_append.2 (.inr h), this⟩
  ·rintro ⟨h1, h2⟩
   right
   rw [← hfa] at h1
   rcases List.mem_append.1 h1 with h3 | h3
   ·have := DG _ h3
    simp only [jE] at this; omega
   ·exact h3
 have hS : bU (gI l frm).1 = (bU l).filter fun x => decide (frm ≤ x) := by
  refine BY (rD mr).1 (l1.filter _) fun x => ?_
  rw [FX (KN mr), List.mem_filter, FX (KN hl)]
  constructor
  ·rintro ⟨e, h1, h2, h3⟩
   have hat : -1 < e.At := by simp [oH] at h2; omega
   obtain ⟨h4, h5⟩ := (hmem e hat).1 h1
   exact ⟨⟨e, h4, h2, h3⟩, by simp; omega⟩
  ·rintro ⟨⟨e, h1, h2, h3⟩, h4⟩
   have hat : -1 < e.At := by simp [oH] at h2; omega
   have h5 : frm ≤ x := by simpa using h4
   exact ⟨e, (hmem e hat).2 ⟨h1, by omega⟩, h2, h3⟩
 obtain ⟨_, _, hd⟩ := VI (l1.imp fun h => by omega) (by omega) frm
 have hle := AX (bU l) t
 obtain ⟨g1, g2⟩ := DA l1 (by omega) t
 have hff : firstM (bU l) n t ≤ fU (bU l) t := by unfold firstM; omega
 have hF : fU (bU l) frm = firstM (bU l) n t := by
  by_cases hf : firstM (bU l) n t = fU (bU l) t
  ·have : frm = t := by rw [hfrm]; unfold oZ; rw [if_pos hf]
   rw [this, hf]
  ·have he : frm = (bU l).getD (firstM (bU l) n t) 0 := by rw [hfrm]; unfold oZ; rw [if_neg hf]
   refine NH l1 (by omega) (by omega) (fun i hi => ?_) (fun _ => by omega)
   rw [he]; exact aE2 l1 hi (by omega)
 rw [hd, hF] at hS
 have hSl : (bU (gI l frm).1).length = (bU l).length - firstM (bU l) n t := by rw [hS, List.length_drop]
 have s1 := (rD mr).1
 have hget : ∀ i, (bU (gI l frm).1).getD i 0 = (bU l).getD (firstM (bU l) n t + i) 0 := fun i => by
  rw [hS, List.getD_eq_getElem?_getD, List.getD_eq_getElem?_getD, List.getElem?_drop]
 have hM' : fU (bU (gI l frm).1) t = fU (bU l) t - firstM (bU l) n t := by
  refine NH s1 (by omega) (by omega) (fun i hi => by rw [hget]; exact g1 _ (by omega)) (fun hlt => by rw [hget]; exact g2 _ (by omega) (by omega))
 have hM0 : fU (bU (gI l frm).1) frm = 0 := by
  refine NH s1 (by omega) (by omega) (fun i hi => by omega) (fun hlt => ?_)
  rw [hget]
  obtain ⟨_, q2⟩ := DA l1 (by omega) frm
  exact q2 _ (by omega) (by omega)
 have hc : oJ (gI l frm).1 n = 0 := TQ mr tr hn hn2
 have hcl : oJ l n = 0 := TQ hl ht hn hn2
 constructor
 ·unfold BW
  rw [if_neg (by simpa using hc), if_neg (by omega), if_neg (by omega)]
  congr 1
  unfold oZ
  have hf' : firstM (bU (gI l frm).1) n t = 0 := by
   unfold firstM; rw [hM']; unfold firstM; omega
  rw [hf', hM', hget]
  by_cases hf : firstM (bU l) n t = fU (bU l) t
  ·have : frm = t := by rw [hfrm]; unfold oZ; rw [if_pos hf]
   rw [if_pos (by omega), this]
  ·have he : frm = (bU l).getD (firstM (bU l) n t) 0 := by rw [hfrm]; unfold oZ; rw [if_neg hf]
   rw [if_neg (by omega), Nat.add_zero, ← he]
 ·have p1 : ∀ y, oJ y n = 0 → wJ y n frm = if 1024 < (((bU y).drop (fU (bU y) frm)).length : Int) - n + 1 then ([], 7) else (qG n.toNat (JA y) ((bU y).drop (fU (bU y) frm)), 0) := fun y hy => by
   unfold wJ
   rw [if_neg (by simpa using hy), if_neg (by omega)]
  rw [p1 _ hc, p1 _ hcl, hM0, hF, List.drop_zero, hS]
  have hw : qG n.toNat (JA (gI l frm).1) ((bU l).drop (firstM (bU l) n t)) = qG n.toNat (JA l) ((bU l).drop (firstM (bU l) n t)) := by
   refine MO (fun run hr h0 => ?_) (by omega)
   have hge : frm ≤ run.getD 0 0 := by
    cases run with
    | nil => exact absurd rfl h0
    | cons x r =>
     have hx := hr x (by simp)
     rw [← hF, ← hd] at hx
     simpa using (List.mem_filter.1 hx).2
   unfold JA
   rw [aDr mr hl fun r => by rw [sH f0 (by omega) hk, TF f0 hge]]
  rw [hw]

end Go.Abs
namespace Go.Abs
open Go
def l28 : List aE := [⟨[VC], 3, 1⟩, ⟨[VC], 7, -1⟩]

theorem aDb : okL l28 := ⟨by decide, by decide⟩

theorem aCd {gs : List G1} (hg : ∀ g ∈ gs, eO g.2 = true ∧ g.1.length ≤ 4398046510976) (hn : gs.length ≤ 1000000) (size t : Int) : okC (yO size t gs) := by
 refine ⟨by have : (yO size t gs).length ≤ gs.length := List.length_filterMap_le ..; omega, fun c hc => ?_⟩
 obtain ⟨g, h1, h2⟩ := List.mem_filterMap.1 hc
 split at h2
 ·simp only [Option.some.injEq] at h2; subst h2
  have := (hg g h1).2; simp only; omega
 ·cases h2

theorem aAe {l : List aE} (hl : okL l) (size hop frm front : Int) : (vC l size hop frm front).1.length ≤ 1024 ∧ ∀ p ∈ (vC l size hop frm front).1, okC p.Rows := by
 unfold vC
 cases hm : zC size hop && eS l with
 | false => simp
 | true =>
  have he : eS l = true := (Bool.and_eq_true .. |>.mp hm).2
  obtain ⟨g1, g2⟩ := CW hl he
  simp only [Bool.not_true, Bool.false_eq_true, if_false]
  split
  ·simp
  ·split
   ·simp
   ·split
    ·simp
    ·rename_i h
     refine ⟨by simp only [JB, List.length_map]; omega, fun p hp => ?_⟩
     obtain ⟨t, _, rfl⟩ := List.mem_map.1 hp
     exact aCd g1 (by omega) _ _

theorem MB (a b : Int) : eX [] a b = 0 := rfl

def byH (a b : Int) (f : List aB) : List aB × Int := (if 0 < eX f a b then [⟨0, eX f a b⟩] else [], 0)

theorem NM (size t : Int) : ∀ gs : List G1, yO size t gs = (sI (qT (byH t (jW size t)) gs)).map fun g => (⟨g.1, (g.2.map aB.Net).sum⟩ : bB)
 | [] => rfl
 | g :: gs => by
  rw [aBK, NM size t gs]
  have e : qT (byH t (jW size t)) (g :: gs) = (g.1, (byH t (jW size t) g.2).1) :: qT (byH t (jW size t)) gs := rfl
  rw [e]
  unfold sI byH
  by_cases h : 0 < eX g.2 t (jW size t)
  ·simp [h]
  ·simp [h]

theorem aC1 {l m : List aE} {size t : Int} (hl : eS l = true) (hm : eS m = true) (h : ∀ r, eX (gL l r) t (jW size t) = eX (gL m r) t (jW size t)) : yO size t (groups l) = yO size t (groups m) := by
 have sl := (jN hl).2.2
 have sm := (jN hm).2.2
 have s1 := wG (by1 := byH t (jW size t)) sl
 have s2 := wG (by1 := byH t (jW size t)) sm
 have hn : (byH t (jW size t) []).1 = [] := by unfold byH; rw [MB]; rfl
 rw [NM, NM, LK (gs := sI (qT (byH t (jW size t)) (groups l))) (hs := sI (qT (byH t (jW size t)) (groups m))) (s1.filter _) (s2.filter _) (xA _) (xA _) fun r => ?_]
 rw [zL s1, zL s2, tN (by1 := byH t (jW size t)) hn, tN (by1 := byH t (jW size t)) hn, lI hl, lI hm]
 unfold byH
 rw [h r]

theorem JF {l : List aE} (hl : eS l = true) (ht : jT l = true) {size hop frm front : Int} (ok : OkH size hop frm front) {x : Int} :
  x ∈ AZ size hop frm front (groups l) ↔ (0 ≤ x ∧ (∃ k : Int, x = k * hop) ∧ frm ≤ x ∧ x < front ∧ x < 1125899906842624) ∧ ∃ r, 0 < eX (gL l r) x (jW size x) := by
 rw [XF]
 obtain ⟨_, h2, h3⟩ := jN hl
 have hv : ∀ g ∈ groups l, eO g.2 = true ∧ ∀ t, 0 ≤ val g.2 t := fun g hg => by
  refine ⟨(h2 g hg).2, fun t => ?_⟩
  have := (xO.1 ht).2 g.1 t
  rwa [← tP h3, BF h3 hg] at this
 constructor
 ·rintro ⟨g, hg, hx⟩
  obtain ⟨a, b⟩ := (CR ok (hv g hg).1 (hv g hg).2).1 hx
  refine ⟨a, g.1, ?_⟩
  rwa [← tP h3, BF h3 hg]
 ·rintro ⟨a, r, hb⟩
  rw [← lI hl] at hb
  rcases CX (groups l) r with ⟨h4, _⟩ | ⟨g, hg, _, h4⟩
  ·rw [h4, MB] at hb; omega
  ·rw [h4] at hb
   exact ⟨g, hg, (CR ok (hv g hg).1 (hv g hg).2).2 ⟨a, hb⟩⟩

theorem SN {size hop frm front : Int} (ok : OkH size hop frm front) (gs : List G1) : (AZ size hop frm front gs).Pairwise (· < ·) := yZ (XS ok gs)

theorem WA {f : List aB} {t a b : Int} (hf : eO f = true) (h0 : 0 ≤ t) (ha : t ≤ a) : eX (xL t f) a b = eX f a b := by
 unfold eX oP
 rw [TF h0 (show t ≤ a + 1 by omega), FE hf a (by omega)]
 congr 2
 omega

theorem zT {l : List aE} {t : Int} (hl : eS l = true) (ht : jT l = true) (h0 : 0 ≤ t) (h1 : t < 1125899906842624) (h : (gI l t).2 = 0) : eS (gI l t).1 = true ∧ jT (gI l t).1 = true := by
 have mr := FB h
 refine ⟨mr, xO.2 ⟨mr, fun r => ?_⟩⟩
 rw [sH h0 h1 h]
 refine SP (XN (qJ hl r) (by omega)) fun s s1 s2 => ?_
 rw [FE (qJ hl r) s (by omega)]
 exact (xO.1 ht).2 r _

theorem ZK {l : List aE} {size hop frm front : Int} (hl : eS l = true) (tl : jT l = true) (h0 : 0 ≤ frm) (h1 : frm < 1125899906842624) (h : (gI l frm).2 = 0) : vC (gI l frm).1 size hop frm front = vC l size hop frm front := by
 obtain ⟨mr, tr⟩ := zT hl tl h0 h1 h
 unfold vC
 rw [mr, tr, hl, tl]
 cases hm : zC size hop with
 | false => rfl
 | true =>
  cases hf : oF frm && oF front with
  | false => rfl
  | true =>
   simp only [Bool.and_eq_true] at hf
   have ok := aEM hm hf.1 hf.2
   have same : ∀ x, frm ≤ x → ∀ r, eX (gL (gI l frm).1 r) x (jW size x) = eX (gL l r) x (jW size x) := fun x hx r => by
    rw [sH h0 h1 h, WA (qJ hl r) h0 hx]
   have hB : AZ size hop frm front (groups (gI l frm).1) = AZ size hop frm front (groups l) := by
    refine BY (SN ok _) (SN ok _) fun x => ?_
    rw [JF mr tr ok, JF hl tl ok]
    constructor
    ·rintro ⟨a, r, b⟩
     exact ⟨a, r, by rw [← same x a.2.2.1 r]; exact b⟩
    ·rintro ⟨a, r, b⟩
     exact ⟨a, r, by rw [same x a.2.2.1 r]; exact b⟩
   have hP : JB size hop frm front (groups (gI l frm).1) = JB size hop frm front (groups l) := by
    unfold JB
    rw [hB]
    refine List.map_congr_left fun x hx => ?_
    have := ((JF hl tl ok).1 hx).1.2.2.1
    rw [aC1 mr hl (same x this)]
   rw [hB, hP]

end Go.Abs
namespace Go.Abs
open Go
theorem aFL {l : List aE} (m : ∀ a ∈ l, yD a) (y : List.length l * 40 ≤ 140737488351232) : okL l :=
 ⟨by omega, fun e he => by have := (m e he).1.2; omega⟩

end Go.Abs
namespace Go.Abs
open Go
def AK (w : bY) : Bool :=
 if w.Kind = 1 then decide (w.Size = 0) && decide (w.Hop = 0) else if w.Kind = 2 then zC w.Size w.Hop
 else if w.Kind = 3 then (decide (1 ≤ w.Size) && decide (w.Size ≤ 64)) && decide (w.Hop = 0) else false

def nU (w : bY) (l : List aE) (t : Int) : Int := if !AK w || !eS l then 2 else if !jT l then 20 else if !oF t then 13 else 0

theorem GW (w : bY) : qP w = some (if AK w then 0 else 2) := by
 unfold qP AK
 by_cases h1 : w.Kind = 1
 ·rw [decide_eq_true h1, cond_true, if_pos h1]
  unfold lF
  cases decide (w.Size = 0) && decide (w.Hop = 0) <;> rfl
 ·by_cases h2 : w.Kind = 2
  ·rw [decide_eq_false h1, cond_false, decide_eq_true h2, cond_true, if_neg h1, if_pos h2]
   unfold qS lF zC
   cases decide (1 ≤ w.Size) <;> cases decide (w.Size ≤ 1099511627776) <;> cases decide (1 ≤ w.Hop) <;> cases decide (w.Hop ≤ 1099511627776) <;> rfl
  ·rw [decide_eq_false h1, cond_false, decide_eq_false h2, cond_false, if_neg h1, if_neg h2]
   by_cases h3 : w.Kind = 3
   ·rw [decide_eq_true h3, cond_true, if_pos h3]
    unfold lF
    cases (decide (1 ≤ w.Size) && decide (w.Size ≤ 64)) && decide (w.Hop = 0) <;> rfl
   ·rw [decide_eq_false h3, cond_false, if_neg h3]
    rfl

theorem GZ {l : List aE} (hl : okL l) (w : bY) (t : Int) : qM w l t = some (nU w l t) := by
 unfold qM nU
 rw [GW, Option.bind_some]
 cases hk : AK w with
 | false => rfl
 | true =>
  simp only [if_true, decide_true, Bool.not_true, Bool.not_false, Bool.false_or, dN, cond_true, DH hl, Option.bind_some, FT hl]
  cases eS l with
  | false => rfl
  | true =>
   cases jT l with
   | false => rfl
   | true =>
    simp only [Bool.not_true, cond_false, Bool.false_eq_true, if_false]
    unfold oF
    by_cases h1 : t < 0
    ·have h2 : ¬ (0 : Int) ≤ t := by omega
     simp [h1, h2]
    ·have h2 : (0 : Int) ≤ t := by omega
     by_cases h3 : (1125899906842624 : Int) < t
     ·have h4 : ¬ t ≤ (1125899906842624 : Int) := by omega
      simp [h2, h3, h4]
     ·have h4 : t ≤ (1125899906842624 : Int) := by omega
      simp [h1, h2, h3, h4]

theorem HQ {w : bY} {l : List aE} {t : Int} (h : nU w l t = 0) : AK w = true ∧ eS l = true ∧ jT l = true ∧ 0 ≤ t ∧ t ≤ 1125899906842624 := by
 unfold nU at h
 cases h1 : AK w <;> cases h2 : eS l <;> cases h3 : jT l <;> cases h4 : oF t <;> simp [h1, h2, h3, h4] at h
 exact ⟨rfl, rfl, rfl, DB h4⟩

theorem IQ {w : bY} {l : List aE} {t : Int} (h1 : AK w = true) (h2 : eS l = true) (h3 : jT l = true) (h4 : 0 ≤ t) (h5 : t ≤ 1125899906842624) : nU w l t = 0 := by
 have : oF t = true := by unfold oF; simp [h4, h5]
 unfold nU; simp [h1, h2, h3, this]

theorem aEH {w : bY} (h : AK w = true) (h2 : w.Kind = 2) : zC w.Size w.Hop = true := by
 unfold AK at h
 rw [if_neg (by omega), if_pos h2] at h; exact h

theorem aGl {w : bY} (h : AK w = true) (h3 : w.Kind = 3) : 1 ≤ w.Size ∧ w.Size ≤ 64 := by
 unfold AK at h
 rw [if_neg (by omega), if_neg (by omega), if_pos h3] at h
 simp only [Bool.and_eq_true, decide_eq_true_eq] at h; omega

def nC (w : bY) (l : List aE) (t : Int) : Int × Int :=
 if nU w l t ≠ 0 then (0, nU w l t) else if w.Kind = 2 then (min (DC w.Size w.Hop t).1 t, 0) else if w.Kind = 3 then BW l w.Size t else (t, 0)

theorem WS {size hop t : Int} (hm : zC size hop = true) (h0 : 0 ≤ t) (h1 : t ≤ 1125899906842624) : DC size hop t = (if t = 1125899906842624 then 1125899906842624 else min (jA hop (t - size)) 1125899906842624, 0) := by
 unfold DC
 have : oF t = true := by unfold oF; simp [h0, h1]
 rw [hm, this]
 simp only [Bool.not_true, Bool.false_eq_true, if_false]
 split <;> rfl

theorem BE {l : List aE} (hl : okL l) (w : bY) (t : Int) : oR w l t = some (nC w l t) := by
 unfold oR nC
 rw [GZ hl, Option.bind_some]
 by_cases hc : nU w l t = 0
 ·obtain ⟨hk, _, _, t0, t1⟩ := HQ hc
  rw [if_neg (by simpa using hc), hc, decide_eq_true rfl, Bool.not_true, cond_false]
  by_cases h2 : w.Kind = 2
  ·rw [decide_eq_true h2, cond_true, if_pos h2, aFu, Option.bind_some, WS (aEH hk h2) t0 t1]
   simp only [Int.min_def]
   congr 2
   split <;> split <;> (try split) <;> omega
  ·rw [decide_eq_false h2, cond_false, if_neg h2]
   by_cases h3 : w.Kind = 3
   ·rw [decide_eq_true h3, cond_true, if_pos h3, US hl, Option.bind_some]
   ·rw [decide_eq_false h3, cond_false, if_neg h3]
 ·rw [if_pos hc, decide_eq_false hc]; rfl

def GX (t : Int) (e : aE) : Int := if 0 < e.Net then max t (e.At + 1) else t

def sB (l : List aE) (t : Int) : Int := l.foldl GX t

theorem front_eq {l : List aE} (hn : l.length ≤ 1000000) (ha : ∀ e ∈ l, -1 ≤ e.At ∧ e.At < 1125899906842624) (t : Int) : tD l t = some (sB l t) := by
 unfold tD vZ
 have := xD (l := l) (body := fun s : Int × Int => pQ l ((l.length : Nat) : Int) s.1 s.2) (fun (s : Int) i => (s, i)) (fun s r => r.foldl GX s) (fun _ r => ∀ e ∈ r, -1 ≤ e.At ∧ e.At < 1125899906842624) t ?_ ?_ ha
 ·rw [this]; rfl
 ·intro i e r s he hI
  left
  have hb := hI e (by simp)
  refine ⟨GX s e, ?_, fun q hq => hI q (by simp [hq]), rfl⟩
  obtain ⟨d1, d2, d3, d4⟩ := idx he (by omega)
  have w1 : IntKind.i64.wrap (e.At + 1) = e.At + 1 := cW (by omega) (by omega)
  simp only [pQ, sC, d1, cond_true, aQ d2, d3, d4, w1]
  unfold GX
  by_cases h : 0 < e.Net
  ·rw [decide_eq_true h, cond_true, if_pos h]
   congr 3
   rw [Int.max_def]; split <;> split <;> omega
  ·rw [decide_eq_false h, cond_false, if_neg h]
 ·intro s _
  simp only [pQ, kL, cond_false]; simp

def wQ (w : bY) (l : List aE) (frm t : Int) : List aN × Int :=
 if nU w l t ≠ 0 then ([], nU w l t) else if w.Kind = 2 then vC l w.Size w.Hop frm (sB l t) else if w.Kind = 3 then wJ l w.Size frm else yH l frm

theorem aE8 {l : List aE} (hm : eS l = true) : l.length ≤ 1000000 ∧ ∀ e ∈ l, -1 ≤ e.At ∧ e.At < 1125899906842624 := by
 have := (jN hm).1
 exact ⟨by omega, fun e he => ⟨by have := (xS hm he).2.1; omega, (xS hm he).2.2.1⟩⟩

theorem BH {l : List aE} (hl : okL l) (w : bY) (frm t : Int) : oQ w l frm t = some (wQ w l frm t) := by
 unfold oQ wQ
 rw [GZ hl, Option.bind_some]
 by_cases hc : nU w l t = 0
 ·obtain ⟨hk, hm, _, t0, t1⟩ := HQ hc
  obtain ⟨a1, a2⟩ := aE8 hm
  rw [if_neg (by simpa using hc), hc, decide_eq_true rfl, Bool.not_true, cond_false]
  by_cases h2 : w.Kind = 2
  ·rw [decide_eq_true h2, cond_true, if_pos h2, front_eq a1 a2, Option.bind_some, aAd hl, Option.bind_some]
  ·rw [decide_eq_false h2, cond_false, if_neg h2]
   by_cases h3 : w.Kind = 3
   ·rw [decide_eq_true h3, cond_true, if_pos h3, RZ hl, Option.bind_some]
   ·rw [decide_eq_false h3, cond_false, if_neg h3, XW hl, Option.bind_some]
 ·rw [if_pos hc, decide_eq_false hc]; rfl

theorem aBI {l : List aE} (hl : okL l) (w : bY) (frm t : Int) : (wQ w l frm t).1.length ≤ 4097 ∧ ∀ p ∈ (wQ w l frm t).1, okC p.Rows := by
 unfold wQ
 split
 ·simp
 ·split
  ·have := aAe hl w.Size w.Hop frm (sB l t)
   exact ⟨by omega, this.2⟩
  ·split
   ·exact aBh hl w.Size frm
   ·exact aA9 hl frm

theorem EZ {w : bY} {l : List aE} {t : Int} (h : nU w l t = 0) : nC w l t = if w.Kind = 2 then (min (DC w.Size w.Hop t).1 t, 0) else if w.Kind = 3 then BW l w.Size t else (t, 0) := by
 unfold nC; rw [h]; rfl

theorem zI {w : bY} {l : List aE} {frm t : Int} (h : nU w l t = 0) : wQ w l frm t = if w.Kind = 2 then vC l w.Size w.Hop frm (sB l t) else if w.Kind = 3 then wJ l w.Size frm else yH l frm := by
 unfold wQ; rw [h]; rfl

theorem aDa {l : List aE} {w : bY} {t : Int} (h : (nC w l t).2 = 0) : nU w l t = 0 := by
 unfold nC at h
 by_cases c1 : nU w l t = 0
 ·exact c1
 ·rw [if_pos c1] at h; exact absurd h c1

def w30 : bY := ⟨2, 10, 5⟩

theorem aFk : nC w30 l28 12 = (5, 0) := by decide +kernel

theorem aFh : wQ w30 l28 0 2 = ([⟨⟨0, 10⟩, [⟨[VC], 1⟩]⟩], 0) := by decide +kernel

theorem FN : sX = some true := by
 unfold sX
 have h1 := BH aDb w30 0 2
 have h2 := BE aDb w30 12
 rw [aFh] at h1
 rw [aFk] at h2
 simp only [l28, VC, w30] at h1 h2
 rw [h2, Option.bind_some, h1, Option.bind_some, GW, aQ (fun _ => by decide)]
 rfl

end Go.Abs
namespace Go.Abs
open Go
theorem JO {al al' : Int → List bB} : ∀ {cs : List Int}, (∀ x ∈ cs, al x = al' x) → nA al cs = nA al' cs
 | [], _ => rfl
 | c :: cs, h => by unfold nA; rw [h c (by simp), JO fun x hx => h x (by simp [hx])]

def RQ (q : List aB → Int) (gs : List G1) : List bB := gs.filterMap fun g => if 0 < q g.2 then some ⟨g.1, q g.2⟩ else none

def byC (q : List aB → Int) (f : List aB) : List aB × Int := (if 0 < q f then [⟨0, q f⟩] else [], 0)

theorem SB (q : List aB → Int) : ∀ gs : List G1, RQ q gs = (sI (qT (byC q) gs)).map fun g => (⟨g.1, (g.2.map aB.Net).sum⟩ : bB)
 | [] => rfl
 | g :: gs => by
  have e : qT (byC q) (g :: gs) = (g.1, (byC q g.2).1) :: qT (byC q) gs := rfl
  have e2 : RQ q (g :: gs) = (if 0 < q g.2 then [⟨g.1, q g.2⟩] else []) ++ RQ q gs := by
   unfold RQ
   rw [List.filterMap_cons]
   by_cases h : 0 < q g.2 <;> simp [h]
  rw [e2, SB q gs, e]
  unfold sI byC
  by_cases h : 0 < q g.2
  ·simp [h]
  ·simp [h]

theorem aDQ {q : List aB → Int} {l m : List aE} (h0 : q [] = 0) (hl : eS l = true) (hm : eS m = true) (h : ∀ r, q (gL l r) = q (gL m r)) : RQ q (groups l) = RQ q (groups m) := by
 have sl := (jN hl).2.2
 have sm := (jN hm).2.2
 have s1 := wG (by1 := byC q) sl
 have s2 := wG (by1 := byC q) sm
 have hn : (byC q []).1 = [] := by unfold byC; rw [h0]; rfl
 rw [SB, SB, LK (gs := sI (qT (byC q) (groups l))) (hs := sI (qT (byC q) (groups m))) (s1.filter _) (s2.filter _) (xA _) (xA _) fun r => ?_]
 rw [zL s1, zL s2, tN (by1 := byC q) hn, tN (by1 := byC q) hn, lI hl, lI hm]
 unfold byC
 rw [h r]

theorem aCo {l m : List aE} {t : Int} (hl : eS l = true) (hm : eS m = true) (h : ∀ r, val (gL l r) t = val (gL m r) t) : oK t (groups l) = oK t (groups m) :=
 aDQ (q := fun f => val f t) rfl hl hm h

theorem FQ {l : List aE} {frm : Int} (hl : eS l = true) (f0 : 0 ≤ frm) (f1 : frm < 1125899906842624) (hk : (gI l frm).2 = 0) : ∀ e : aE, -1 < e.At → (e ∈ (gI l frm).1 ↔ e ∈ l ∧ frm ≤ e.At) := by
 intro e hat
 rw [← EX, ← EX (l := l), sH f0 f1 hk]
 unfold xL
 rw [List.mem_append]
 have hfa := xB frm (gL l e.Row)
 constructor
 ·rintro (h | h)
  ·split at h
   ·simp at h
   ·simp only [List.mem_singleton] at h
    have := congrArg aB.At h
    simp only [jE] at this; omega
  ·have := KF (mO.1 (qJ hl e.Row)).2 _ h
   exact ⟨by rw [← hfa]; exact List.mem_append.2 (.inr h), this⟩
 ·rintro ⟨h1, h2⟩
  right
  rw [← hfa] at h1
  rcases List.mem_append.1 h1 with h3 | h3
  ·have := DG _ h3
   simp only [jE] at this; omega
  ·exact h3

theorem XX {l : List aE} {t : Int} (hl : eS l = true) (tl : jT l = true) (h0 : 0 ≤ t) (h1 : t < 1125899906842624) (hk : (gI l t).2 = 0) : yH (gI l t).1 t = yH l t := by
 obtain ⟨mr, tr⟩ := zT hl tl h0 h1 hk
 have hC : nR (gI l t).1 t = nR l t := by
  have i1 := yZ (BX (l := (gI l t).1) (frm := t)).1
  have i2 := yZ (BX (l := l) (frm := t)).1
  have e : ∀ y, eS y = true → jT y = true → nR y t = (kS t y [t], 0) := fun y a b => by
   unfold nR
   rw [a, b, if_neg (by simp), if_neg (by simp), if_neg (by omega), if_neg (by omega)]
  rw [e _ mr tr] at i1 ⊢
  rw [e _ hl tl] at i2 ⊢
  congr 1
  refine BY i1 i2 fun x => ?_
  rw [FH, FH]
  constructor
  ·rintro (ha | ⟨q, hq, hx, hp⟩)
   ·exact .inl ha
   ·exact .inr ⟨q, ((FQ hl h0 h1 hk q (by omega)).1 hq).1, hx, hp⟩
  ·rintro (ha | ⟨q, hq, hx, hp⟩)
   ·exact .inl ha
   ·exact .inr ⟨q, (FQ hl h0 h1 hk q (by omega)).2 ⟨hq, by omega⟩, hx, hp⟩
 unfold yH
 rw [hC]
 split
 ·rfl
 ·congr 1
  refine JO fun x hx => ?_
  have hx' := ((BX (l := l) (frm := t)).1.above x hx).1
  refine aCo mr hl fun r => ?_
  rw [sH h0 h1 hk, FE (qJ hl r) x (by omega), if_neg (by omega)]

theorem GG : ∀ {l : List aE} {t x : Int}, sB l t ≤ x ↔ t ≤ x ∧ ∀ e ∈ l, 0 < e.Net → e.At + 1 ≤ x
 | [], t, x => by unfold sB; simp
 | e :: l, t, x => by
  have h3 : sB (e :: l) t = sB l (GX t e) := rfl
  rw [h3, GG (l := l)]
  unfold GX
  simp only [List.forall_mem_cons]
  by_cases h : 0 < e.Net
  ·rw [if_pos h]
   constructor
   ·rintro ⟨a, b⟩; exact ⟨by omega, fun _ => by omega, b⟩
   ·rintro ⟨a, b, c⟩; have := b h; exact ⟨by omega, c⟩
  ·rw [if_neg h]
   constructor
   ·rintro ⟨a, b⟩; exact ⟨a, fun hh => absurd hh h, b⟩
   ·rintro ⟨a, _, c⟩; exact ⟨a, c⟩

theorem aBu {l : List aE} {a t : Int} (hl : eS l = true) (a0 : 0 ≤ a) (a1 : a < 1125899906842624) (hat : a ≤ t) (hk : (gI l a).2 = 0) : sB (gI l a).1 t = sB l t := by
 have mr := FB hk
 have key : ∀ x, sB (gI l a).1 t ≤ x ↔ sB l t ≤ x := fun x => by
  rw [GG, GG]
  constructor
  ·rintro ⟨h1, h2⟩
   refine ⟨h1, fun e he hn => ?_⟩
   by_cases hq : a ≤ e.At
   ·exact h2 e ((FQ hl a0 a1 hk e (by omega)).2 ⟨he, hq⟩) hn
   ·omega
  ·rintro ⟨h1, h2⟩
   refine ⟨h1, fun e he hn => ?_⟩
   by_cases hq : -1 < e.At
   ·exact h2 e ((FQ hl a0 a1 hk e hq).1 he).1 hn
   ·omega
 have h1 := (key (sB l t)).2 (Int.le_refl _)
 have h2 := (key (sB (gI l a).1 t)).1 (Int.le_refl _)
 omega

end Go.Abs
namespace Go.Abs
open Go
theorem UN {l : List aE} {w : bY} {t : Int} (ht : t < 1125899906842624) (h : (nC w l t).2 = 0) (hk : (gI l (nC w l t).1).2 = 0) :
  nC w (gI l (nC w l t).1).1 t = nC w l t ∧ wQ w (gI l (nC w l t).1).1 (nC w l t).1 t = wQ w l (nC w l t).1 t := by
 have c1 := aDa h
 ·obtain ⟨kw, ml, tl, t0, t1⟩ := HQ c1
  have e := EZ c1
  by_cases k2 : w.Kind = 2
  ·rw [if_pos k2] at e
   have hm := aEH kw k2
   have hh := (LH hm).2.2.1
   have hb := wK (n := t - w.Size) hh
   have a0 : 0 ≤ min (DC w.Size w.Hop t).1 t ∧ min (DC w.Size w.Hop t).1 t ≤ t := by
    rw [WS hm t0 t1]; simp only; split <;> omega
   rw [e] at hk ⊢
   simp only at hk ⊢
   generalize hA : min (DC w.Size w.Hop t).1 t = A at *
   obtain ⟨mr, tr⟩ := zT ml tl a0.1 (by omega) hk
   have c2 := IQ kw mr tr t0 t1
   refine ⟨?_, ?_⟩
   ·rw [EZ c2, if_pos k2, hA]
   ·rw [zI c2, zI c1, if_pos k2, if_pos k2, aBu ml a0.1 (by omega) a0.2 hk, ZK ml tl a0.1 (by omega) hk]
  ·rw [if_neg k2] at e
   by_cases k3 : w.Kind = 3
   ·rw [if_pos k3] at e
    obtain ⟨n1, n2⟩ := aGl kw k3
    rw [e] at h hk ⊢
    obtain ⟨_, _, _, q1, _⟩ := aDu h
    have q1 := q1 ht
    obtain ⟨f1, _, f3, f4⟩ := rD ml
    obtain ⟨o1, o2⟩ := ZF f1 (by omega) n1 t
    have f0 : 0 ≤ oZ (bU l) w.Size t := by
     rcases o2 with o | o
     ·omega
     ·have := f4 _ o; omega
    rw [q1] at hk ⊢
    obtain ⟨s1, s2⟩ := RX ml tl n1 n2 t0 ht hk
    obtain ⟨mr, tr⟩ := zT ml tl f0 (by omega) hk
    have c2 := IQ kw mr tr t0 t1
    refine ⟨?_, ?_⟩
    ·rw [EZ c2, if_neg k2, if_pos k3, s1]
     exact Prod.ext q1.symm h.symm
    ·rw [zI c2, zI c1, if_neg k2, if_neg k2, if_pos k3, if_pos k3, s2]
   ·rw [if_neg k3] at e
    rw [e] at hk ⊢
    simp only at hk ⊢
    obtain ⟨mr, tr⟩ := zT ml tl t0 ht hk
    have c2 := IQ kw mr tr t0 t1
    refine ⟨?_, ?_⟩
    ·rw [EZ c2, if_neg k2, if_neg k3]
    ·rw [zI c2, zI c1, if_neg k2, if_neg k2, if_neg k3, if_neg k3, XX ml tl t0 ht hk]

theorem JD (l0 : bY) (m0 : yR l0) (l1 : (List aE)) (m1 : ∀ a ∈ l1, yD a) (y1 : List.length l1 * 40 ≤ 140737488351232) (a2 : Int) (w2 : vH a2) : pU l0 l1 a2 = some true := by
 have k1 := aFL m1 y1
 unfold pU
 rw [BE k1, Option.bind_some, aDU k1, Option.bind_some]
 by_cases h1 : (nC l0 l1 a2).2 = 0
 ·by_cases hk : (gI l1 (nC l0 l1 a2).1).2 = 0
  ·by_cases t1 : a2 < 1125899906842624
   ·have b1 : decide ((1125899906842624 : Int) ≤ a2) = false := by simp; omega
    obtain ⟨s1, s2⟩ := UN t1 h1 hk
    have kr := aDe k1 (nC l0 l1 a2).1
    obtain ⟨u1, u2⟩ := aBI k1 l0 (nC l0 l1 a2).1 a2
    rw [BE kr, BH k1, BH kr, s1, s2]
    simp only [h1, hk, decide_true, Bool.not_true, b1, Bool.or_self, cond_false, Option.bind_some, FN, Bool.and_self, dN, cond_true, YG (show (wQ l0 l1 (nC l0 l1 a2).1 a2).1.length ≤ 1000000 by omega) u2]
   ·have b1 : decide ((1125899906842624 : Int) ≤ a2) = true := by simp; omega
    simp [b1, FN]
  ·simp [hk, FN]
 ·simp [h1, FN]

end Go.Abs
