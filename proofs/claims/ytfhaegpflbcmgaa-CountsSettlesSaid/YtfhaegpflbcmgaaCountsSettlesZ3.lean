/- What the law CountsSettles stands on: the framework, the given functions as plain functions, their walks, and the plain laws; part 3. -/
import Derived.Test.YtfhaegpflbcmgaaCountsSettlesZ2
set_option linter.unusedSimpArgs false
set_option linter.unusedVariables false
namespace Go.Abs
open Go
noncomputable def cL (a1 : Int) (b2 : Int) (i7 : Int) (j8 : Int) (aA : List Int) (j10 : Int) : Option ((List Int × Int) ⊕ ((List Int))) :=
  cond (decide (j10 < b2))
  (bA (0 ≤ j10 ∧ j10 < ((List.length aA : Nat) : Int)) <|
  bA (0 ≤ (IntKind.i64.wrap (j10 - (1 : Int))) ∧ (IntKind.i64.wrap (j10 - (1 : Int))) < ((List.length aA : Nat) : Int)) <|
  (cN (List.getD aA (Int.toNat j10) default) (List.getD aA (Int.toNat (IntKind.i64.wrap (j10 - (1 : Int)))) default)).bind fun x12 =>
  cond (!x12)
  (some (.inr aA))
  (bA (0 ≤ (IntKind.i64.wrap (j10 - (1 : Int))) ∧ (IntKind.i64.wrap (j10 - (1 : Int))) < ((List.length aA : Nat) : Int)) <|
  bA (0 ≤ j10 ∧ j10 < ((List.length aA : Nat) : Int)) <|
  bA (0 ≤ j10 ∧ j10 < ((List.length aA : Nat) : Int)) <|
  bA (0 ≤ (IntKind.i64.wrap (j10 - (1 : Int))) ∧ (IntKind.i64.wrap (j10 - (1 : Int))) < ((List.length aA : Nat) : Int)) <|
  some (.inl (List.set (List.set aA (Int.toNat j10) (List.getD aA (Int.toNat (IntKind.i64.wrap (j10 - (1 : Int)))) default)) (Int.toNat (IntKind.i64.wrap (j10 - (1 : Int)))) (List.getD aA (Int.toNat j10) default), IntKind.i64.wrap (j10 + (1 : Int))))))
  (some (.inr aA))

noncomputable def fR (aA : List Int) (a1 : Int) (b2 : Int) (i7 : Int) (j8 : Int) (j10 : Int) : Option ((List Int × Int × Int) ⊕ ((List Int) ⊕ (Bool × (List Int)))) :=
  (lp (fun s => cL a1 b2 i7 j8 s.1 s.2) (aA, j10)).bind (fun rr => dG rr a1 b2 i7 j8)

noncomputable def cE (aA : List Int) (a1 : Int) (b2 : Int) (i7 : Int) (j8 : Int) : Option ((List Int × Int × Int) ⊕ ((List Int) ⊕ (Bool × (List Int)))) :=
  cond (decide ((2 : Int) ≤ (IntKind.i64.wrap (b2 - i7))))
  (fR aA a1 b2 i7 j8 (IntKind.i64.wrap (i7 + (1 : Int))))
  (dG aA a1 b2 i7 j8)

noncomputable def cD (a1 : Int) (b2 : Int) (i7 : Int) (j8 : Int) (aA : List Int) (j9 : Int) : Option ((List Int × Int) ⊕ ((List Int))) :=
  cond (decide ((1 : Int) ≤ j9))
  (bA (0 ≤ j9 ∧ j9 < ((List.length aA : Nat) : Int)) <|
  bA (0 ≤ (IntKind.i64.wrap (j9 - (1 : Int))) ∧ (IntKind.i64.wrap (j9 - (1 : Int))) < ((List.length aA : Nat) : Int)) <|
  (cN (List.getD aA (Int.toNat j9) default) (List.getD aA (Int.toNat (IntKind.i64.wrap (j9 - (1 : Int)))) default)).bind fun x24 =>
  cond (!x24)
  (some (.inr aA))
  (bA (0 ≤ (IntKind.i64.wrap (j9 - (1 : Int))) ∧ (IntKind.i64.wrap (j9 - (1 : Int))) < ((List.length aA : Nat) : Int)) <|
  bA (0 ≤ j9 ∧ j9 < ((List.length aA : Nat) : Int)) <|
  bA (0 ≤ j9 ∧ j9 < ((List.length aA : Nat) : Int)) <|
  bA (0 ≤ (IntKind.i64.wrap (j9 - (1 : Int))) ∧ (IntKind.i64.wrap (j9 - (1 : Int))) < ((List.length aA : Nat) : Int)) <|
  some (.inl (List.set (List.set aA (Int.toNat j9) (List.getD aA (Int.toNat (IntKind.i64.wrap (j9 - (1 : Int)))) default)) (Int.toNat (IntKind.i64.wrap (j9 - (1 : Int)))) (List.getD aA (Int.toNat j9) default), IntKind.i64.wrap (j9 - (1 : Int))))))
  (some (.inr aA))

noncomputable def fP (aA : List Int) (a1 : Int) (b2 : Int) (i7 : Int) (j8 : Int) (j9 : Int) : Option ((List Int × Int × Int) ⊕ ((List Int) ⊕ (Bool × (List Int)))) :=
  (lp (fun s => cD a1 b2 i7 j8 s.1 s.2) (aA, j9)).bind (fun rr => cE rr a1 b2 i7 j8)

noncomputable def eA (aA : List Int) (a1 : Int) (b2 : Int) (i7 : Int) (j8 : Int) : Option ((List Int × Int × Int) ⊕ ((List Int) ⊕ (Bool × (List Int)))) :=
  cond (decide (i7 = b2))
  (some (.inr (.inr (true, aA))))
  (cond (decide ((IntKind.i64.wrap (b2 - a1)) < (50 : Int)))
  (some (.inr (.inr (false, aA))))
  (bA (0 ≤ (IntKind.i64.wrap (i7 - (1 : Int))) ∧ (IntKind.i64.wrap (i7 - (1 : Int))) < ((List.length aA : Nat) : Int)) <|
  bA (0 ≤ i7 ∧ i7 < ((List.length aA : Nat) : Int)) <|
  bA (0 ≤ i7 ∧ i7 < ((List.length aA : Nat) : Int)) <|
  bA (0 ≤ (IntKind.i64.wrap (i7 - (1 : Int))) ∧ (IntKind.i64.wrap (i7 - (1 : Int))) < ((List.length aA : Nat) : Int)) <|
  cond (decide ((2 : Int) ≤ (IntKind.i64.wrap (i7 - a1))))
  (fP (List.set (List.set aA (Int.toNat i7) (List.getD aA (Int.toNat (IntKind.i64.wrap (i7 - (1 : Int)))) default)) (Int.toNat (IntKind.i64.wrap (i7 - (1 : Int)))) (List.getD aA (Int.toNat i7) default)) a1 b2 i7 j8 (IntKind.i64.wrap (i7 - (1 : Int))))
  (cE (List.set (List.set aA (Int.toNat i7) (List.getD aA (Int.toNat (IntKind.i64.wrap (i7 - (1 : Int)))) default)) (Int.toNat (IntKind.i64.wrap (i7 - (1 : Int)))) (List.getD aA (Int.toNat i7) default)) a1 b2 i7 j8)))

noncomputable def cK (a1 : Int) (b2 : Int) (j8 : Int) (aA : List Int) (i7 : Int) : Option ((List Int × Int) ⊕ ((List Int × Int))) :=
  bA ((((decide (i7 < b2))) = true → 0 ≤ i7 ∧ i7 < ((List.length aA : Nat) : Int))) <|
  bA ((((decide (i7 < b2))) = true → 0 ≤ (IntKind.i64.wrap (i7 - (1 : Int))) ∧ (IntKind.i64.wrap (i7 - (1 : Int))) < ((List.length aA : Nat) : Int))) <|
  (cX (decide (i7 < b2)) (cN (List.getD aA (Int.toNat i7) default) (List.getD aA (Int.toNat (IntKind.i64.wrap (i7 - (1 : Int)))) default))).bind fun x34 =>
  cond ((decide (i7 < b2)) && (!x34))
  (some (.inl (aA, IntKind.i64.wrap (i7 + (1 : Int)))))
  (some (.inr (aA, i7)))

noncomputable def cT (aA : List Int) (a1 : Int) (b2 : Int) (i7 : Int) (j8 : Int) : Option ((List Int × Int × Int) ⊕ ((List Int) ⊕ (Bool × (List Int)))) :=
  (lp (fun s => cK a1 b2 j8 s.1 s.2) (aA, i7)).bind (fun rr => eA rr.1 a1 b2 rr.2 j8)

noncomputable def bR (a1 : Int) (b2 : Int) (aA : List Int) (i7 : Int) (j8 : Int) : Option ((List Int × Int × Int) ⊕ ((List Int) ⊕ (Bool × (List Int)))) :=
  cond (decide (j8 < (5 : Int)))
  (cT aA a1 b2 i7 j8)
  (some (.inr (.inl aA)))

noncomputable def fQ (aA : List Int) (a1 : Int) (b2 : Int) (i7 : Int) (j8 : Int) : Option (Bool × List Int) :=
  (lp (fun s => bR a1 b2 s.1 s.2.1 s.2.2) (aA, i7, j8)).bind (Sum.elim (fun rr => dZ rr) (fun rr => some (rr.1, rr.2)))

noncomputable def eE (aA : (List Int)) (a1 : Int) (b2 : Int) : Option (Bool × List Int) :=
  fQ aA a1 b2 (IntKind.i64.wrap (a1 + (1 : Int))) (0 : Int)

noncomputable def iM (aA : List Int) (i9 : Int) : Option (Int × List Int) :=
  some (i9, aA)

noncomputable def dJ (aA : List Int) (a1 : Int) (i9 : Int) (j10 : Int) : Option ((List Int × Int × Int) ⊕ ((List Int × Int))) :=
  cond (decide (j10 < i9))
  (some (.inr (aA, i9)))
  (bA (0 ≤ j10 ∧ j10 < ((List.length aA : Nat) : Int)) <|
  bA (0 ≤ i9 ∧ i9 < ((List.length aA : Nat) : Int)) <|
  bA (0 ≤ i9 ∧ i9 < ((List.length aA : Nat) : Int)) <|
  bA (0 ≤ j10 ∧ j10 < ((List.length aA : Nat) : Int)) <|
  some (.inl (List.set (List.set aA (Int.toNat i9) (List.getD aA (Int.toNat j10) default)) (Int.toNat j10) (List.getD aA (Int.toNat i9) default), IntKind.i64.wrap (i9 + (1 : Int)), IntKind.i64.wrap (j10 - (1 : Int)))))

noncomputable def dK (a1 : Int) (i9 : Int) (aA : List Int) (j10 : Int) : Option ((List Int × Int) ⊕ ((List Int × Int))) :=
  bA ((((decide (i9 ≤ j10))) = true → 0 ≤ a1 ∧ a1 < ((List.length aA : Nat) : Int))) <|
  bA ((((decide (i9 ≤ j10))) = true → 0 ≤ j10 ∧ j10 < ((List.length aA : Nat) : Int))) <|
  (cX (decide (i9 ≤ j10)) (cN (List.getD aA (Int.toNat a1) default) (List.getD aA (Int.toNat j10) default))).bind fun x12 =>
  cond ((decide (i9 ≤ j10)) && x12)
  (some (.inl (aA, IntKind.i64.wrap (j10 - (1 : Int)))))
  (some (.inr (aA, j10)))

noncomputable def iH (aA : List Int) (a1 : Int) (i9 : Int) (j10 : Int) : Option ((List Int × Int × Int) ⊕ ((List Int × Int))) :=
  (lp (fun s => dK a1 i9 s.1 s.2) (aA, j10)).bind (fun rr => dJ rr.1 a1 i9 rr.2)

noncomputable def fM (aA : List Int) (a1 : Int) (i9 : Int) (j10 : Int) : Option ((List Int × Int × Int) ⊕ ((List Int × Int))) :=
  iH aA a1 i9 j10

noncomputable def dI (a1 : Int) (j10 : Int) (aA : List Int) (i9 : Int) : Option ((List Int × Int) ⊕ ((List Int × Int))) :=
  bA ((((decide (i9 ≤ j10))) = true → 0 ≤ a1 ∧ a1 < ((List.length aA : Nat) : Int))) <|
  bA ((((decide (i9 ≤ j10))) = true → 0 ≤ i9 ∧ i9 < ((List.length aA : Nat) : Int))) <|
  (cX (decide (i9 ≤ j10)) (cN (List.getD aA (Int.toNat a1) default) (List.getD aA (Int.toNat i9) default))).bind fun x18 =>
  cond ((decide (i9 ≤ j10)) && (!x18))
  (some (.inl (aA, IntKind.i64.wrap (i9 + (1 : Int)))))
  (some (.inr (aA, i9)))

noncomputable def iK (aA : List Int) (a1 : Int) (i9 : Int) (j10 : Int) : Option ((List Int × Int × Int) ⊕ ((List Int × Int))) :=
  (lp (fun s => dI a1 j10 s.1 s.2) (aA, i9)).bind (fun rr => fM rr.1 a1 rr.2 j10)

noncomputable def cO (a1 : Int) (aA : List Int) (i9 : Int) (j10 : Int) : Option ((List Int × Int × Int) ⊕ ((List Int × Int))) :=
  iK aA a1 i9 j10

noncomputable def iJ (aA : List Int) (a1 : Int) (i9 : Int) (j10 : Int) : Option (Int × List Int) :=
  (lp (fun s => cO a1 s.1 s.2.1 s.2.2) (aA, i9, j10)).bind (fun rr => iM rr.1 rr.2)

noncomputable def eK (aA : (List Int)) (a1 : Int) (b2 : Int) (cF : Int) : Option (Int × List Int) :=
  bA (0 ≤ cF ∧ cF < ((List.length aA : Nat) : Int)) <|
  bA (0 ≤ a1 ∧ a1 < ((List.length aA : Nat) : Int)) <|
  bA (0 ≤ a1 ∧ a1 < ((List.length aA : Nat) : Int)) <|
  bA (0 ≤ cF ∧ cF < ((List.length aA : Nat) : Int)) <|
  iJ (List.set (List.set aA (Int.toNat a1) (List.getD aA (Int.toNat cF) default)) (Int.toNat cF) (List.getD aA (Int.toNat a1) default)) a1 (IntKind.i64.wrap (a1 + (1 : Int))) (IntKind.i64.wrap (b2 - (1 : Int)))

noncomputable def iB (aA : List Int) (a1 : Int) (j11 : Int) : Option ((Int × Bool) × List Int) :=
  bA (0 ≤ a1 ∧ a1 < ((List.length aA : Nat) : Int)) <|
  bA (0 ≤ j11 ∧ j11 < ((List.length aA : Nat) : Int)) <|
  bA (0 ≤ j11 ∧ j11 < ((List.length aA : Nat) : Int)) <|
  bA (0 ≤ a1 ∧ a1 < ((List.length aA : Nat) : Int)) <|
  some ((j11, false), (List.set (List.set aA (Int.toNat j11) (List.getD aA (Int.toNat a1) default)) (Int.toNat a1) (List.getD aA (Int.toNat j11) default)))

noncomputable def eD (aA : List Int) (a1 : Int) (i10 : Int) (j11 : Int) : Option ((List Int × Int × Int) ⊕ ((List Int × Int))) :=
  cond (decide (j11 < i10))
  (some (.inr (aA, j11)))
  (bA (0 ≤ j11 ∧ j11 < ((List.length aA : Nat) : Int)) <|
  bA (0 ≤ i10 ∧ i10 < ((List.length aA : Nat) : Int)) <|
  bA (0 ≤ i10 ∧ i10 < ((List.length aA : Nat) : Int)) <|
  bA (0 ≤ j11 ∧ j11 < ((List.length aA : Nat) : Int)) <|
  some (.inl (List.set (List.set aA (Int.toNat i10) (List.getD aA (Int.toNat j11) default)) (Int.toNat j11) (List.getD aA (Int.toNat i10) default), IntKind.i64.wrap (i10 + (1 : Int)), IntKind.i64.wrap (j11 - (1 : Int)))))

noncomputable def eB (a1 : Int) (i10 : Int) (aA : List Int) (j11 : Int) : Option ((List Int × Int) ⊕ ((List Int × Int))) :=
  bA ((((decide (i10 ≤ j11))) = true → 0 ≤ j11 ∧ j11 < ((List.length aA : Nat) : Int))) <|
  bA ((((decide (i10 ≤ j11))) = true → 0 ≤ a1 ∧ a1 < ((List.length aA : Nat) : Int))) <|
  (cX (decide (i10 ≤ j11)) (cN (List.getD aA (Int.toNat j11) default) (List.getD aA (Int.toNat a1) default))).bind fun x25 =>
  cond ((decide (i10 ≤ j11)) && (!x25))
  (some (.inl (aA, IntKind.i64.wrap (j11 - (1 : Int)))))
  (some (.inr (aA, j11)))

noncomputable def jU (aA : List Int) (a1 : Int) (i10 : Int) (j11 : Int) : Option ((List Int × Int × Int) ⊕ ((List Int × Int))) :=
  (lp (fun s => eB a1 i10 s.1 s.2) (aA, j11)).bind (fun rr => eD rr.1 a1 i10 rr.2)

noncomputable def iD (aA : List Int) (a1 : Int) (i10 : Int) (j11 : Int) : Option ((List Int × Int × Int) ⊕ ((List Int × Int))) :=
  jU aA a1 i10 j11

noncomputable def eF (a1 : Int) (j11 : Int) (aA : List Int) (i10 : Int) : Option ((List Int × Int) ⊕ ((List Int × Int))) :=
  bA ((((decide (i10 ≤ j11))) = true → 0 ≤ i10 ∧ i10 < ((List.length aA : Nat) : Int))) <|
  bA ((((decide (i10 ≤ j11))) = true → 0 ≤ a1 ∧ a1 < ((List.length aA : Nat) : Int))) <|
  (cX (decide (i10 ≤ j11)) (cN (List.getD aA (Int.toNat i10) default) (List.getD aA (Int.toNat a1) default))).bind fun x31 =>
  cond ((decide (i10 ≤ j11)) && x31)
  (some (.inl (aA, IntKind.i64.wrap (i10 + (1 : Int)))))
  (some (.inr (aA, i10)))

noncomputable def jT (aA : List Int) (a1 : Int) (i10 : Int) (j11 : Int) : Option ((List Int × Int × Int) ⊕ ((List Int × Int))) :=
  (lp (fun s => eF a1 j11 s.1 s.2) (aA, i10)).bind (fun rr => iD rr.1 a1 rr.2 j11)

noncomputable def dA (a1 : Int) (aA : List Int) (i10 : Int) (j11 : Int) : Option ((List Int × Int × Int) ⊕ ((List Int × Int))) :=
  jT aA a1 i10 j11

noncomputable def jP (aA : List Int) (a1 : Int) (i10 : Int) (j11 : Int) : Option ((Int × Bool) × List Int) :=
  (lp (fun s => dA a1 s.1 s.2.1 s.2.2) (aA, i10, j11)).bind (fun rr => iB rr.1 a1 rr.2)

noncomputable def eG (aA : List Int) (a1 : Int) (i10 : Int) (j11 : Int) : Option ((Int × Bool) × List Int) :=
  cond (decide (j11 < i10))
  (bA (0 ≤ a1 ∧ a1 < ((List.length aA : Nat) : Int)) <|
  bA (0 ≤ j11 ∧ j11 < ((List.length aA : Nat) : Int)) <|
  bA (0 ≤ j11 ∧ j11 < ((List.length aA : Nat) : Int)) <|
  bA (0 ≤ a1 ∧ a1 < ((List.length aA : Nat) : Int)) <|
  some ((j11, true), (List.set (List.set aA (Int.toNat j11) (List.getD aA (Int.toNat a1) default)) (Int.toNat a1) (List.getD aA (Int.toNat j11) default))))
  (bA (0 ≤ j11 ∧ j11 < ((List.length aA : Nat) : Int)) <|
  bA (0 ≤ i10 ∧ i10 < ((List.length aA : Nat) : Int)) <|
  bA (0 ≤ i10 ∧ i10 < ((List.length aA : Nat) : Int)) <|
  bA (0 ≤ j11 ∧ j11 < ((List.length aA : Nat) : Int)) <|
  jP (List.set (List.set aA (Int.toNat i10) (List.getD aA (Int.toNat j11) default)) (Int.toNat j11) (List.getD aA (Int.toNat i10) default)) a1 (IntKind.i64.wrap (i10 + (1 : Int))) (IntKind.i64.wrap (j11 - (1 : Int))))

noncomputable def eC (a1 : Int) (i10 : Int) (aA : List Int) (j11 : Int) : Option ((List Int × Int) ⊕ ((List Int × Int))) :=
  bA ((((decide (i10 ≤ j11))) = true → 0 ≤ j11 ∧ j11 < ((List.length aA : Nat) : Int))) <|
  bA ((((decide (i10 ≤ j11))) = true → 0 ≤ a1 ∧ a1 < ((List.length aA : Nat) : Int))) <|
  (cX (decide (i10 ≤ j11)) (cN (List.getD aA (Int.toNat j11) default) (List.getD aA (Int.toNat a1) default))).bind fun x37 =>
  cond ((decide (i10 ≤ j11)) && (!x37))
  (some (.inl (aA, IntKind.i64.wrap (j11 - (1 : Int)))))
  (some (.inr (aA, j11)))

noncomputable def jQ (aA : List Int) (a1 : Int) (i10 : Int) (j11 : Int) : Option ((Int × Bool) × List Int) :=
  (lp (fun s => eC a1 i10 s.1 s.2) (aA, j11)).bind (fun rr => eG rr.1 a1 i10 rr.2)

noncomputable def iC (aA : List Int) (a1 : Int) (i10 : Int) (j11 : Int) : Option ((Int × Bool) × List Int) :=
  jQ aA a1 i10 j11

noncomputable def dY (a1 : Int) (j11 : Int) (aA : List Int) (i10 : Int) : Option ((List Int × Int) ⊕ ((List Int × Int))) :=
  bA ((((decide (i10 ≤ j11))) = true → 0 ≤ i10 ∧ i10 < ((List.length aA : Nat) : Int))) <|
  bA ((((decide (i10 ≤ j11))) = true → 0 ≤ a1 ∧ a1 < ((List.length aA : Nat) : Int))) <|
  (cX (decide (i10 ≤ j11)) (cN (List.getD aA (Int.toNat i10) default) (List.getD aA (Int.toNat a1) default))).bind fun x43 =>
  cond ((decide (i10 ≤ j11)) && x43)
  (some (.inl (aA, IntKind.i64.wrap (i10 + (1 : Int)))))
  (some (.inr (aA, i10)))

noncomputable def fC (aA : List Int) (a1 : Int) (i10 : Int) (j11 : Int) : Option ((Int × Bool) × List Int) :=
  (lp (fun s => dY a1 j11 s.1 s.2) (aA, i10)).bind (fun rr => iC rr.1 a1 rr.2 j11)

noncomputable def fU (aA : (List Int)) (a1 : Int) (b2 : Int) (cF : Int) : Option ((Int × Bool) × List Int) :=
  bA (0 ≤ cF ∧ cF < ((List.length aA : Nat) : Int)) <|
  bA (0 ≤ a1 ∧ a1 < ((List.length aA : Nat) : Int)) <|
  bA (0 ≤ a1 ∧ a1 < ((List.length aA : Nat) : Int)) <|
  bA (0 ≤ cF ∧ cF < ((List.length aA : Nat) : Int)) <|
  fC (List.set (List.set aA (Int.toNat a1) (List.getD aA (Int.toNat cF) default)) (Int.toNat cF) (List.getD aA (Int.toNat a1) default)) a1 (IntKind.i64.wrap (a1 + (1 : Int))) (IntKind.i64.wrap (b2 - (1 : Int)))

noncomputable def gH (rec : (List Int) → Int → Int → Int → Option (List Int)) (aA : List Int) (a1 : Int) (b2 : Int) (bW : Int) (bQ : Bool) (bI : Bool) (dM : Int) (fL : Int) : Option ((List Int × Int × Int × Int × Bool × Bool) ⊕ ((List Int))) :=
  bA ((((decide ((0 : Int) < a1))) = true → 0 ≤ (IntKind.i64.wrap (a1 - (1 : Int))) ∧ (IntKind.i64.wrap (a1 - (1 : Int))) < ((List.length aA : Nat) : Int))) <|
  bA ((((decide ((0 : Int) < a1))) = true → 0 ≤ fL ∧ fL < ((List.length aA : Nat) : Int))) <|
  (cX (decide ((0 : Int) < a1)) (cN (List.getD aA (Int.toNat (IntKind.i64.wrap (a1 - (1 : Int)))) default) (List.getD aA (Int.toNat fL) default))).bind fun x16 =>
  cond ((decide ((0 : Int) < a1)) && (!x16))
  ((eK aA a1 b2 fL).bind fun x20 =>
  some (.inl (x20.2, x20.1, b2, bW, bQ, bI)))
  ((fU aA a1 b2 fL).bind fun x23 =>
  bA ((8 : Int) ≠ 0) <|
  cond (decide ((IntKind.i64.wrap (x23.1.1 - a1)) < (IntKind.i64.wrap (b2 - x23.1.1))))
  ((rec x23.2 a1 x23.1.1 bW).bind fun x28 =>
  some (.inl (x28, IntKind.i64.wrap (x23.1.1 + (1 : Int)), b2, bW, decide ((IntKind.i64.wrap (Int.tdiv dM (8 : Int))) ≤ (IntKind.i64.wrap (x23.1.1 - a1))), x23.1.2)))
  ((rec x23.2 (IntKind.i64.wrap (x23.1.1 + (1 : Int))) b2 bW).bind fun x31 =>
  some (.inl (x31, a1, x23.1.1, bW, decide ((IntKind.i64.wrap (Int.tdiv dM (8 : Int))) ≤ (IntKind.i64.wrap (b2 - x23.1.1))), x23.1.2))))

noncomputable def gK (rec : (List Int) → Int → Int → Int → Option (List Int)) (aA : List Int) (a1 : Int) (b2 : Int) (bW : Int) (bQ : Bool) (bI : Bool) (dM : Int) (fL : Int) (zH : Int) : Option ((List Int × Int × Int × Int × Bool × Bool) ⊕ ((List Int))) :=
  cond ((bQ && bI) && (decide (zH = (1 : Int))))
  ((eE aA a1 b2).bind fun x35 =>
  cond x35.1
  (some (.inr x35.2))
  (gH rec x35.2 a1 b2 bW bQ bI dM fL))
  (gH rec aA a1 b2 bW bQ bI dM fL)

noncomputable def gG (rec : (List Int) → Int → Int → Int → Option (List Int)) (aA : List Int) (a1 : Int) (b2 : Int) (bW : Int) (bQ : Bool) (bI : Bool) (dM : Int) : Option ((List Int × Int × Int × Int × Bool × Bool) ⊕ ((List Int))) :=
  (gW aA a1 b2).bind fun x9 =>
  cond (decide (x9.2 = (2 : Int)))
  ((gO aA a1 b2).bind fun x40 =>
  gK rec x40 a1 b2 bW bQ bI dM (IntKind.i64.wrap ((IntKind.i64.wrap (b2 - (1 : Int))) - (IntKind.i64.wrap (x9.1 - a1)))) (1 : Int))
  (gK rec aA a1 b2 bW bQ bI dM x9.1 x9.2)

noncomputable def dW (rec : (List Int) → Int → Int → Int → Option (List Int))  (aA : List Int) (a1 : Int) (b2 : Int) (bW : Int) (bQ : Bool) (bI : Bool) : Option ((List Int × Int × Int × Int × Bool × Bool) ⊕ ((List Int))) :=
  cond (decide ((IntKind.i64.wrap (b2 - a1)) ≤ (12 : Int)))
  ((fY aA a1 b2).bind fun x2 =>
  some (.inr x2))
  (cond (decide (bW = (0 : Int)))
  ((iT aA a1 b2).bind fun x6 =>
  some (.inr x6))
  (cond (!bQ)
  ((gE aA a1 b2).bind fun x44 =>
  gG rec x44 a1 b2 (IntKind.i64.wrap (bW - (1 : Int))) bQ bI (IntKind.i64.wrap (b2 - a1)))
  (gG rec aA a1 b2 bW bQ bI (IntKind.i64.wrap (b2 - a1)))))

noncomputable def kK (rec : (List Int) → Int → Int → Int → Option (List Int)) (aA : List Int) (a1 : Int) (b2 : Int) (bW : Int) (bQ : Bool) (bI : Bool) : Option (List Int) :=
  (lp (fun s => dW rec s.1 s.2.1 s.2.2.1 s.2.2.2.1 s.2.2.2.2.1 s.2.2.2.2.2) (aA, a1, b2, bW, bQ, bI)).bind (fun rr => some rr)

noncomputable def fJ (rec : (List Int) → Int → Int → Int → Option (List Int)) (aA : (List Int)) (a1 : Int) (b2 : Int) (bW : Int) : Option (List Int) :=
  kK rec aA a1 b2 bW true true

noncomputable def cY  : Nat → (List Int) → Int → Int → Int → Option (List Int)
  | 0 => fun _ _ _ _ => none
  | k + 1 => fJ (cY k)

noncomputable def iY (aA : (List Int)) (a1 : Int) (b2 : Int) (bW : Int) : Option (List Int) := MJ (fun k => cY k aA a1 b2 bW)

noncomputable def jY (x0 : (List Int)) : Option (List Int) :=
  (jS (IntKind.u64.wrap ((List.length x0 : Nat) : Int))).bind fun x1 =>
  (iY x0 (0 : Int) ((List.length x0 : Nat) : Int) x1).bind fun x4 =>
  some x4

noncomputable def jN (s0 : List Int) : Option (List Int) :=
  some s0

noncomputable def lE (s0 : List Int) (k3 : Int) : Option ((List Int × Int) ⊕ ((List Int) ⊕ (List Int))) :=
  some (.inl (s0, IntKind.i64.wrap (k3 + (1 : Int))))

noncomputable def jV (s0 : List Int) (k3 : Int) : Option ((List Int × Int) ⊕ ((List Int) ⊕ (List Int))) :=
  bA (0 ≤ k3 ∧ k3 ≤ ((List.length s0 : Nat) : Int)) <|
  bA (0 ≤ k3 ∧ k3 ≤ ((List.length (jF (0 + Int.toNat k3) s0) : Nat) : Int)) <|
  bA (Int.toNat k3 ≤ List.length (jF (0 + Int.toNat k3) s0)) <|
  some (.inr (.inr (List.take (Int.toNat k3) (jF (0 + Int.toNat k3) s0))))

noncomputable def iL (s0 : List Int) (k3 : Int) (k25 : Int) (s24o : Nat) (s24n : Nat) : Option ((List Int × Int × Int) ⊕ ((List Int × Int))) :=
  some (.inl (s0, k3, IntKind.i64.wrap (k25 + (1 : Int))))

noncomputable def eT (s24o : Nat) (s24n : Nat) (s0 : List Int) (k3 : Int) (k25 : Int) : Option ((List Int × Int × Int) ⊕ ((List Int × Int))) :=
  cond (decide (k25 < ((s24n : Nat) : Int)))
  (bA (0 ≤ k25 ∧ k25 < ((s24n : Nat) : Int)) <|
  bA ((s24o + Int.toNat k25) < List.length s0) <|
  bA (0 ≤ (IntKind.i64.wrap (k25 - (1 : Int))) ∧ (IntKind.i64.wrap (k25 - (1 : Int))) < ((s24n : Nat) : Int)) <|
  bA ((s24o + Int.toNat (IntKind.i64.wrap (k25 - (1 : Int)))) < List.length s0) <|
  cond (!decide ((List.getD s0 (s24o + Int.toNat k25) default) = (List.getD s0 (s24o + Int.toNat (IntKind.i64.wrap (k25 - (1 : Int)))) default)))
  (bA (0 ≤ k25 ∧ k25 < ((s24n : Nat) : Int)) <|
  bA ((s24o + Int.toNat k25) < List.length s0) <|
  bA (0 ≤ k3 ∧ k3 < ((List.length s0 : Nat) : Int)) <|
  iL (List.set s0 (Int.toNat k3) (List.getD s0 (s24o + Int.toNat k25) default)) (IntKind.i64.wrap (k3 + (1 : Int))) k25 s24o s24n)
  (iL s0 k3 k25 s24o s24n))
  (some (.inr (s0, k3)))

noncomputable def lG (s0 : List Int) (k3 : Int) (k25 : Int) (s24o : Nat) (s24n : Nat) : Option ((List Int × Int) ⊕ ((List Int) ⊕ (List Int))) :=
  (lp (fun s => eT s24o s24n s.1 s.2.1 s.2.2) (s0, k3, k25)).bind (fun rr => jV rr.1 rr.2)

noncomputable def fX  (s0 : List Int) (k3 : Int) : Option ((List Int × Int) ⊕ ((List Int) ⊕ (List Int))) :=
  cond (decide (k3 < ((List.length s0 : Nat) : Int)))
  (bA (0 ≤ k3 ∧ k3 < ((List.length s0 : Nat) : Int)) <|
  bA (0 ≤ (IntKind.i64.wrap (k3 - (1 : Int))) ∧ (IntKind.i64.wrap (k3 - (1 : Int))) < ((List.length s0 : Nat) : Int)) <|
  cond (decide ((List.getD s0 (Int.toNat k3) default) = (List.getD s0 (Int.toNat (IntKind.i64.wrap (k3 - (1 : Int)))) default)))
  (bA (0 ≤ k3 ∧ k3 ≤ ((List.length s0 : Nat) : Int)) <|
  lG s0 k3 (1 : Int) (0 + Int.toNat k3) (List.length s0 - Int.toNat k3))
  (lE s0 k3))
  (some (.inr (.inl s0)))

noncomputable def lF (s0 : List Int) (k3 : Int) : Option (List Int) :=
  (lp (fun s => fX s.1 s.2) (s0, k3)).bind (Sum.elim (fun rr => jN rr) (fun rr => some rr))

noncomputable def iU (s0 : (List Int)) : Option (List Int) :=
  cond (decide (((List.length s0 : Nat) : Int) < (2 : Int)))
  (some s0)
  (lF s0 (1 : Int))

noncomputable def nW (t7c0 : (List aE)) (out3 : List Int) (t8 : aE) : Option ((List Int) ⊕ (List Int)) :=
  bA ((List.length out3 + List.length ([t8.At])) * 8 ≤ 140737488355328 ∧ List.length out3 + List.length ([t8.At]) ≤ 9223372036854775807) <|
  some (.inl (out3 ++ ([t8.At])))

noncomputable def pT (out3 : List Int) (t7c0 : (List aE)) : Option (List Int) :=
  (kZ (fun st t8 => rnd (fun (s : List Int) => nW t7c0 s t8) st) t7c0 (.inl out3)).bind (Sum.elim (fun (s : List Int) =>
  ((jY s).bind fun x10 =>
  (iU x10).bind fun x13 =>
  some x13))
  (fun (s : List Int) =>
  (none)))

noncomputable def lQ (l0 : (List aE)) : Option (List Int) :=
  (nM l0).bind fun x3 =>
  pT ([] : List Int) x3

noncomputable def oT (l0 : (List aE)) : Option ((List Int) × Int) :=
  (nU l0 (1 : Int)).bind fun x1 =>
  cond (!decide (x1 = (0 : Int)))
  (some ([], x1))
  ((lQ l0).bind fun x5 =>
  some (x5, (0 : Int)))

noncomputable def mS (x0 : Int) : Option Bool :=
  some (!decide (x0 = x0))

noncomputable def hY (x0 : (List Int)) (eZ : Int) (n6 : Int) (i7 : Int) : Option (Int × Bool) :=
  bA ((((decide (i7 < n6))) = true → 0 ≤ i7 ∧ i7 < ((List.length x0 : Nat) : Int))) <|
  bA ((((!(decide ((List.getD x0 (Int.toNat i7) default) = eZ))) && (decide (i7 < n6))) = true → 0 ≤ i7 ∧ i7 < ((List.length x0 : Nat) : Int))) <|
  (cX ((!(decide ((List.getD x0 (Int.toNat i7) default) = eZ))) && (decide (i7 < n6))) (mS (List.getD x0 (Int.toNat i7) default))).bind fun x3 =>
  (cX (x3 && ((!(decide ((List.getD x0 (Int.toNat i7) default) = eZ))) && (decide (i7 < n6)))) (mS eZ)).bind fun x6 =>
  some (i7, (decide (i7 < n6)) && ((decide ((List.getD x0 (Int.toNat i7) default) = eZ)) || (x3 && x6)))

noncomputable def eH (x0 : (List Int)) (eZ : Int) (n6 : Int) (i7 : Int) (j8 : Int) : Option ((Int × Int) ⊕ (Int)) :=
  cond (decide (i7 < j8))
  (bA (0 ≤ (1 : Int)) <|
  bA (0 ≤ (IntKind.i64.wrap (Int.fdiv (IntKind.u64.wrap (IntKind.i64.wrap (i7 + j8))) (2 ^ (min (Int.toNat (1 : Int)) 64)))) ∧ (IntKind.i64.wrap (Int.fdiv (IntKind.u64.wrap (IntKind.i64.wrap (i7 + j8))) (2 ^ (min (Int.toNat (1 : Int)) 64)))) < ((List.length x0 : Nat) : Int)) <|
  (cN (List.getD x0 (Int.toNat (IntKind.i64.wrap (Int.fdiv (IntKind.u64.wrap (IntKind.i64.wrap (i7 + j8))) (2 ^ (min (Int.toNat (1 : Int)) 64))))) default) eZ).bind fun x12 =>
  cond x12
  (some (.inl (IntKind.i64.wrap ((IntKind.i64.wrap (Int.fdiv (IntKind.u64.wrap (IntKind.i64.wrap (i7 + j8))) (2 ^ (min (Int.toNat (1 : Int)) 64)))) + (1 : Int)), j8)))
  (some (.inl (i7, IntKind.i64.wrap (Int.fdiv (IntKind.u64.wrap (IntKind.i64.wrap (i7 + j8))) (2 ^ (min (Int.toNat (1 : Int)) 64)))))))
  (some (.inr i7))

noncomputable def jO (x0 : (List Int)) (eZ : Int) (n6 : Int) (i7 : Int) (j8 : Int) : Option (Int × Bool) :=
  (lp (fun s => eH x0 eZ n6 s.1 s.2) (i7, j8)).bind (fun rr => hY x0 eZ n6 rr)

noncomputable def eP (x0 : (List Int)) (eZ : Int) : Option (Int × Bool) :=
  jO x0 eZ ((List.length x0 : Nat) : Int) (0 : Int) ((List.length x0 : Nat) : Int)

noncomputable def nB (l0 : (List aE)) (n1 : Int) (t2 : Int) : Option (Int × Int) :=
  (nU l0 n1).bind fun x1 =>
  cond (!decide (x1 = (0 : Int)))
  (some ((0 : Int), x1))
  (cond ((decide (t2 < (0 : Int))) || (decide ((1125899906842624 : Int) < t2)))
  (some ((0 : Int), (13 : Int)))
  (cond (decide (t2 = (1125899906842624 : Int)))
  (some (t2, (0 : Int)))
  ((lQ l0).bind fun x7 =>
  (eP x7 t2).bind fun x10 =>
  cond (decide ((if (IntKind.i64.wrap ((IntKind.i64.wrap (x10.1 - n1)) + (1 : Int))) > (0 : Int) then (IntKind.i64.wrap ((IntKind.i64.wrap (x10.1 - n1)) + (1 : Int))) else (0 : Int)) = x10.1))
  (some (t2, (0 : Int)))
  (bA (0 ≤ (if (IntKind.i64.wrap ((IntKind.i64.wrap (x10.1 - n1)) + (1 : Int))) > (0 : Int) then (IntKind.i64.wrap ((IntKind.i64.wrap (x10.1 - n1)) + (1 : Int))) else (0 : Int)) ∧ (if (IntKind.i64.wrap ((IntKind.i64.wrap (x10.1 - n1)) + (1 : Int))) > (0 : Int) then (IntKind.i64.wrap ((IntKind.i64.wrap (x10.1 - n1)) + (1 : Int))) else (0 : Int)) < ((List.length x7 : Nat) : Int)) <|
  some (List.getD x7 (Int.toNat (if (IntKind.i64.wrap ((IntKind.i64.wrap (x10.1 - n1)) + (1 : Int))) > (0 : Int) then (IntKind.i64.wrap ((IntKind.i64.wrap (x10.1 - n1)) + (1 : Int))) else (0 : Int))) default, (0 : Int))))))

noncomputable def gQ (s0 : (List aC)) : Option (List aC) :=
  bA (List.length s0 * 32 ≤ 140737488355328 ∧ List.length s0 ≤ 9223372036854775807) <|
  some s0

noncomputable def mM (sG : (List aE)) (t4 : aR) (p5 : aR) (t22 : aE) : Option ((aR × aR) ⊕ (aR × aR)) :=
  cond ((decide (t22.At < p5.Span.From)) || (decide (p5.Span.To ≤ t22.At)))
  (some (.inl (t4, p5)))
  (bA ((((decide ((0 : Int) ≤ (IntKind.i64.wrap (((List.length p5.Rows : Nat) : Int) - (1 : Int)))))) = true → 0 ≤ (IntKind.i64.wrap (((List.length p5.Rows : Nat) : Int) - (1 : Int))) ∧ (IntKind.i64.wrap (((List.length p5.Rows : Nat) : Int) - (1 : Int))) < ((List.length p5.Rows : Nat) : Int))) <|
  (cX (decide ((0 : Int) ≤ (IntKind.i64.wrap (((List.length p5.Rows : Nat) : Int) - (1 : Int))))) (eV ((List.getD p5.Rows (Int.toNat (IntKind.i64.wrap (((List.length p5.Rows : Nat) : Int) - (1 : Int)))) default).Row) t22.Row)).bind fun x13 =>
  cond ((decide ((0 : Int) ≤ (IntKind.i64.wrap (((List.length p5.Rows : Nat) : Int) - (1 : Int))))) && x13)
  (bA (0 ≤ (IntKind.i64.wrap (((List.length p5.Rows : Nat) : Int) - (1 : Int))) ∧ (IntKind.i64.wrap (((List.length p5.Rows : Nat) : Int) - (1 : Int))) < ((List.length p5.Rows : Nat) : Int)) <|
  bA (0 ≤ (IntKind.i64.wrap (((List.length p5.Rows : Nat) : Int) - (1 : Int))) ∧ (IntKind.i64.wrap (((List.length p5.Rows : Nat) : Int) - (1 : Int))) < ((List.length p5.Rows : Nat) : Int)) <|
  some (.inl (t4, aR.mk p5.Span (List.set p5.Rows (Int.toNat (IntKind.i64.wrap (((List.length p5.Rows : Nat) : Int) - (1 : Int)))) (bU.mk (List.getD p5.Rows (Int.toNat (IntKind.i64.wrap (((List.length p5.Rows : Nat) : Int) - (1 : Int)))) default).Row (IntKind.i64.wrap (((List.getD p5.Rows (Int.toNat (IntKind.i64.wrap (((List.length p5.Rows : Nat) : Int) - (1 : Int)))) default).N) + t22.Net)))))))
  ((gQ t22.Row).bind fun x19 =>
  bA ((List.length p5.Rows + List.length ([bU.mk x19 t22.Net])) * 32 ≤ 140737488355328 ∧ List.length p5.Rows + List.length ([bU.mk x19 t22.Net]) ≤ 9223372036854775807) <|
  some (.inl (t4, aR.mk p5.Span (p5.Rows ++ ([bU.mk x19 t22.Net]))))))

noncomputable def pY (t4 : aR) (p5 : aR) (sG : (List aE)) : Option aR :=
  (kZ (fun st t22 => rnd (fun (s : aR × aR) => mM sG s.1 s.2 t22) st) sG (.inl (t4, p5))).bind (Sum.elim (fun (s : aR × aR) =>
  (some s.2))
  (fun (s : aR × aR) =>
  (none)))

noncomputable def oS (l0 : (List aE)) (run1 : (List Int)) : Option aR :=
  bA (0 ≤ (0 : Int) ∧ (0 : Int) < ((List.length run1 : Nat) : Int)) <|
  bA (0 ≤ (IntKind.i64.wrap (((List.length run1 : Nat) : Int) - (1 : Int))) ∧ (IntKind.i64.wrap (((List.length run1 : Nat) : Int) - (1 : Int))) < ((List.length run1 : Nat) : Int)) <|
  (nM l0).bind fun x6 =>
  pY (aR.mk (cS.mk 0 0) ([])) (aR.mk (cS.mk (List.getD run1 (Int.toNat (0 : Int)) default) (IntKind.i64.wrap ((List.getD run1 (Int.toNat (IntKind.i64.wrap (((List.length run1 : Nat) : Int) - (1 : Int)))) default) + (1 : Int)))) ([])) x6

noncomputable def rE (jA : List aR) : Option ((List aR) × Int) :=
  some (jA, (0 : Int))

noncomputable def kO (l0 : (List aE)) (n1 : Int) (kH : (List Int)) (jA : List aR) : Option (((List Int) × List aR) ⊕ ((List aR))) :=
  cond (decide (n1 ≤ ((List.length kH : Nat) : Int)))
  (bA (0 ≤ n1 ∧ n1 ≤ n1 ∧ n1 ≤ ((List.length kH : Nat) : Int)) <|
  (oS l0 (List.take (Int.toNat n1) kH)).bind fun x20 =>
  bA ((List.length jA + List.length ([x20])) * 40 ≤ 140737488355328 ∧ List.length jA + List.length ([x20]) ≤ 9223372036854775807) <|
  bA (0 ≤ (1 : Int) ∧ (1 : Int) ≤ ((List.length kH : Nat) : Int)) <|
  some (.inl (List.drop (Int.toNat (1 : Int)) kH, jA ++ ([x20]))))
  (some (.inr jA))

noncomputable def rF (l0 : (List aE)) (n1 : Int) (kH : (List Int)) (jA : List aR) : Option ((List aR) × Int) :=
  (lp (fun s => kO l0 n1 s.1 s.2) (kH, jA)).bind (fun rr => rE rr)

noncomputable def mF (l0 : (List aE)) (n1 : Int) (tZ : Int) : Option ((List aR) × Int) :=
  (nU l0 n1).bind fun x1 =>
  cond (!decide (x1 = (0 : Int)))
  (some ([], x1))
  (cond ((decide (tZ < (0 : Int))) || (decide ((1125899906842624 : Int) < tZ)))
  (some ([], (13 : Int)))
  ((lQ l0).bind fun x6 =>
  (eP x6 tZ).bind fun x9 =>
  bA (0 ≤ x9.1 ∧ x9.1 ≤ ((List.length x6 : Nat) : Int) ∧ ((List.length x6 : Nat) : Int) ≤ ((List.length x6 : Nat) : Int) ∧ ((List.length x6 : Nat) : Int) ≤ ((List.length x6 : Nat) : Int)) <|
  cond (decide ((1024 : Int) < (IntKind.i64.wrap ((IntKind.i64.wrap (((List.length (List.drop (Int.toNat x9.1) (List.take (Int.toNat ((List.length x6 : Nat) : Int)) x6)) : Nat) : Int) - n1)) + (1 : Int)))))
  (some ([], (7 : Int)))
  (rF l0 n1 (List.drop (Int.toNat x9.1) (List.take (Int.toNat ((List.length x6 : Nat) : Int)) x6)) ([] : List aR))))

noncomputable def mU  : Option Bool :=
  (oT ([aE.mk ([aC.mk (1 : Int) (1 : Int) ByteArray.empty]) (2 : Int) (1 : Int), aE.mk ([aC.mk (1 : Int) (2 : Int) ByteArray.empty]) (5 : Int) (1 : Int), aE.mk ([aC.mk (1 : Int) (2 : Int) ByteArray.empty]) (7 : Int) (-1 : Int), aE.mk ([aC.mk (1 : Int) (2 : Int) ByteArray.empty]) (8 : Int) (1 : Int)])).bind fun x1 =>
  (nB ([aE.mk ([aC.mk (1 : Int) (1 : Int) ByteArray.empty]) (2 : Int) (1 : Int), aE.mk ([aC.mk (1 : Int) (2 : Int) ByteArray.empty]) (5 : Int) (1 : Int), aE.mk ([aC.mk (1 : Int) (2 : Int) ByteArray.empty]) (7 : Int) (-1 : Int), aE.mk ([aC.mk (1 : Int) (2 : Int) ByteArray.empty]) (8 : Int) (1 : Int)]) (2 : Int) (6 : Int)).bind fun x4 =>
  (mF ([aE.mk ([aC.mk (1 : Int) (1 : Int) ByteArray.empty]) (2 : Int) (1 : Int), aE.mk ([aC.mk (1 : Int) (2 : Int) ByteArray.empty]) (5 : Int) (1 : Int), aE.mk ([aC.mk (1 : Int) (2 : Int) ByteArray.empty]) (7 : Int) (-1 : Int), aE.mk ([aC.mk (1 : Int) (2 : Int) ByteArray.empty]) (8 : Int) (1 : Int)]) (2 : Int) (0 : Int)).bind fun x7 =>
  bA (((((((((decide (x1.2 = (0 : Int))) && (decide (x4.2 = (0 : Int)))) && (decide (x7.2 = (0 : Int)))) && (decide (((List.length x1.1 : Nat) : Int) = (3 : Int)))) && (decide (x4.1 = (5 : Int)))) && (decide (((List.length x7.1 : Nat) : Int) = (2 : Int))))) = true → 0 ≤ (0 : Int) ∧ (0 : Int) < ((List.length x7.1 : Nat) : Int))) <|
  bA ((((((((((decide (x1.2 = (0 : Int))) && (decide (x4.2 = (0 : Int)))) && (decide (x7.2 = (0 : Int)))) && (decide (((List.length x1.1 : Nat) : Int) = (3 : Int)))) && (decide (x4.1 = (5 : Int)))) && (decide (((List.length x7.1 : Nat) : Int) = (2 : Int)))) && ((decide ((((List.getD x7.1 (Int.toNat (0 : Int)) default).Span).From) = ((cS.mk (2 : Int) (6 : Int)).From))) && ((decide ((((List.getD x7.1 (Int.toNat (0 : Int)) default).Span).To) = ((cS.mk (2 : Int) (6 : Int)).To))) && true)))) = true → 0 ≤ (0 : Int) ∧ (0 : Int) < ((List.length x7.1 : Nat) : Int))) <|
  bA (((((((((((decide (x1.2 = (0 : Int))) && (decide (x4.2 = (0 : Int)))) && (decide (x7.2 = (0 : Int)))) && (decide (((List.length x1.1 : Nat) : Int) = (3 : Int)))) && (decide (x4.1 = (5 : Int)))) && (decide (((List.length x7.1 : Nat) : Int) = (2 : Int)))) && ((decide ((((List.getD x7.1 (Int.toNat (0 : Int)) default).Span).From) = ((cS.mk (2 : Int) (6 : Int)).From))) && ((decide ((((List.getD x7.1 (Int.toNat (0 : Int)) default).Span).To) = ((cS.mk (2 : Int) (6 : Int)).To))) && true))) && (decide (((List.length ((List.getD x7.1 (Int.toNat (0 : Int)) default).Rows) : Nat) : Int) = (2 : Int))))) = true → 0 ≤ (1 : Int) ∧ (1 : Int) < ((List.length x7.1 : Nat) : Int))) <|
  bA ((((((((((((decide (x1.2 = (0 : Int))) && (decide (x4.2 = (0 : Int)))) && (decide (x7.2 = (0 : Int)))) && (decide (((List.length x1.1 : Nat) : Int) = (3 : Int)))) && (decide (x4.1 = (5 : Int)))) && (decide (((List.length x7.1 : Nat) : Int) = (2 : Int)))) && ((decide ((((List.getD x7.1 (Int.toNat (0 : Int)) default).Span).From) = ((cS.mk (2 : Int) (6 : Int)).From))) && ((decide ((((List.getD x7.1 (Int.toNat (0 : Int)) default).Span).To) = ((cS.mk (2 : Int) (6 : Int)).To))) && true))) && (decide (((List.length ((List.getD x7.1 (Int.toNat (0 : Int)) default).Rows) : Nat) : Int) = (2 : Int)))) && (decide (((List.length ((List.getD x7.1 (Int.toNat (1 : Int)) default).Rows) : Nat) : Int) = (1 : Int))))) = true → 0 ≤ (1 : Int) ∧ (1 : Int) < ((List.length x7.1 : Nat) : Int))) <|
  bA ((((((((((((decide (x1.2 = (0 : Int))) && (decide (x4.2 = (0 : Int)))) && (decide (x7.2 = (0 : Int)))) && (decide (((List.length x1.1 : Nat) : Int) = (3 : Int)))) && (decide (x4.1 = (5 : Int)))) && (decide (((List.length x7.1 : Nat) : Int) = (2 : Int)))) && ((decide ((((List.getD x7.1 (Int.toNat (0 : Int)) default).Span).From) = ((cS.mk (2 : Int) (6 : Int)).From))) && ((decide ((((List.getD x7.1 (Int.toNat (0 : Int)) default).Span).To) = ((cS.mk (2 : Int) (6 : Int)).To))) && true))) && (decide (((List.length ((List.getD x7.1 (Int.toNat (0 : Int)) default).Rows) : Nat) : Int) = (2 : Int)))) && (decide (((List.length ((List.getD x7.1 (Int.toNat (1 : Int)) default).Rows) : Nat) : Int) = (1 : Int))))) = true → 0 ≤ (0 : Int) ∧ (0 : Int) < ((List.length ((List.getD x7.1 (Int.toNat (1 : Int)) default).Rows) : Nat) : Int))) <|
  some ((((((((((decide (x1.2 = (0 : Int))) && (decide (x4.2 = (0 : Int)))) && (decide (x7.2 = (0 : Int)))) && (decide (((List.length x1.1 : Nat) : Int) = (3 : Int)))) && (decide (x4.1 = (5 : Int)))) && (decide (((List.length x7.1 : Nat) : Int) = (2 : Int)))) && ((decide ((((List.getD x7.1 (Int.toNat (0 : Int)) default).Span).From) = ((cS.mk (2 : Int) (6 : Int)).From))) && ((decide ((((List.getD x7.1 (Int.toNat (0 : Int)) default).Span).To) = ((cS.mk (2 : Int) (6 : Int)).To))) && true))) && (decide (((List.length ((List.getD x7.1 (Int.toNat (0 : Int)) default).Rows) : Nat) : Int) = (2 : Int)))) && (decide (((List.length ((List.getD x7.1 (Int.toNat (1 : Int)) default).Rows) : Nat) : Int) = (1 : Int)))) && (decide (((List.getD ((List.getD x7.1 (Int.toNat (1 : Int)) default).Rows) (Int.toNat (0 : Int)) default).N) = (2 : Int))))

noncomputable def qO  : Option Bool :=
  some true

noncomputable def oJ (a0 : (List aC)) (b1 : (List aC)) (i5 : Int) : Option ((Int) ⊕ (Unit ⊕ Bool)) :=
  cond (decide (i5 < ((List.length a0 : Nat) : Int)))
  (bA (0 ≤ i5 ∧ i5 < ((List.length a0 : Nat) : Int)) <|
  bA (0 ≤ i5 ∧ i5 < ((List.length b1 : Nat) : Int)) <|
  cond (!((decide (((List.getD a0 (Int.toNat i5) default).Kind) = ((List.getD b1 (Int.toNat i5) default).Kind))) && ((decide (((List.getD a0 (Int.toNat i5) default).Num) = ((List.getD b1 (Int.toNat i5) default).Num))) && ((nH ((List.getD a0 (Int.toNat i5) default).Text) ((List.getD b1 (Int.toNat i5) default).Text)) && true))))
  (some (.inr (.inr false)))
  (some (.inl (IntKind.i64.wrap (i5 + (1 : Int))))))
  (some (.inr (.inl ())))

noncomputable def tH (a0 : (List aC)) (b1 : (List aC)) (i5 : Int) : Option Bool :=
  (lp (fun s => oJ a0 b1 s) i5).bind (Sum.elim (fun rr => qO ) (fun rr => some rr))

noncomputable def pN (a0 : (List aC)) (b1 : (List aC)) : Option Bool :=
  cond (!decide (((List.length a0 : Nat) : Int) = ((List.length b1 : Nat) : Int)))
  (some false)
  (tH a0 b1 (0 : Int))

noncomputable def lY  : Option Bool :=
  some true

noncomputable def kQ (a0 : (List bU)) (b1 : (List bU)) (i5 : Int) : Option ((Int) ⊕ (Unit ⊕ Bool)) :=
  cond (decide (i5 < ((List.length a0 : Nat) : Int)))
  (bA (0 ≤ i5 ∧ i5 < ((List.length a0 : Nat) : Int)) <|
  bA (0 ≤ i5 ∧ i5 < ((List.length b1 : Nat) : Int)) <|
  bA ((((!(!decide (((List.getD a0 (Int.toNat i5) default).N) = ((List.getD b1 (Int.toNat i5) default).N))))) = true → 0 ≤ i5 ∧ i5 < ((List.length a0 : Nat) : Int))) <|
  bA ((((!(!decide (((List.getD a0 (Int.toNat i5) default).N) = ((List.getD b1 (Int.toNat i5) default).N))))) = true → 0 ≤ i5 ∧ i5 < ((List.length b1 : Nat) : Int))) <|
  (cX (!(!decide (((List.getD a0 (Int.toNat i5) default).N) = ((List.getD b1 (Int.toNat i5) default).N)))) (pN ((List.getD a0 (Int.toNat i5) default).Row) ((List.getD b1 (Int.toNat i5) default).Row))).bind fun x7 =>
  cond ((!decide (((List.getD a0 (Int.toNat i5) default).N) = ((List.getD b1 (Int.toNat i5) default).N))) || (!x7))
  (some (.inr (.inr false)))
  (some (.inl (IntKind.i64.wrap (i5 + (1 : Int))))))
  (some (.inr (.inl ())))

noncomputable def oC (a0 : (List bU)) (b1 : (List bU)) (i5 : Int) : Option Bool :=
  (lp (fun s => kQ a0 b1 s) i5).bind (Sum.elim (fun rr => lY ) (fun rr => some rr))

noncomputable def mQ (a0 : (List bU)) (b1 : (List bU)) : Option Bool :=
  cond (!decide (((List.length a0 : Nat) : Int) = ((List.length b1 : Nat) : Int)))
  (some false)
  (oC a0 b1 (0 : Int))

noncomputable def qF  : Option Bool :=
  some true

noncomputable def oG (a0 : (List aR)) (b1 : (List aR)) (i5 : Int) : Option ((Int) ⊕ (Unit ⊕ Bool)) :=
  cond (decide (i5 < ((List.length a0 : Nat) : Int)))
  (bA (0 ≤ i5 ∧ i5 < ((List.length a0 : Nat) : Int)) <|
  bA (0 ≤ i5 ∧ i5 < ((List.length b1 : Nat) : Int)) <|
  bA ((((!(!((decide ((((List.getD a0 (Int.toNat i5) default).Span).From) = (((List.getD b1 (Int.toNat i5) default).Span).From))) && ((decide ((((List.getD a0 (Int.toNat i5) default).Span).To) = (((List.getD b1 (Int.toNat i5) default).Span).To))) && true))))) = true → 0 ≤ i5 ∧ i5 < ((List.length a0 : Nat) : Int))) <|
  bA ((((!(!((decide ((((List.getD a0 (Int.toNat i5) default).Span).From) = (((List.getD b1 (Int.toNat i5) default).Span).From))) && ((decide ((((List.getD a0 (Int.toNat i5) default).Span).To) = (((List.getD b1 (Int.toNat i5) default).Span).To))) && true))))) = true → 0 ≤ i5 ∧ i5 < ((List.length b1 : Nat) : Int))) <|
  (cX (!(!((decide ((((List.getD a0 (Int.toNat i5) default).Span).From) = (((List.getD b1 (Int.toNat i5) default).Span).From))) && ((decide ((((List.getD a0 (Int.toNat i5) default).Span).To) = (((List.getD b1 (Int.toNat i5) default).Span).To))) && true)))) (mQ ((List.getD a0 (Int.toNat i5) default).Rows) ((List.getD b1 (Int.toNat i5) default).Rows))).bind fun x7 =>
  cond ((!((decide ((((List.getD a0 (Int.toNat i5) default).Span).From) = (((List.getD b1 (Int.toNat i5) default).Span).From))) && ((decide ((((List.getD a0 (Int.toNat i5) default).Span).To) = (((List.getD b1 (Int.toNat i5) default).Span).To))) && true))) || (!x7))
  (some (.inr (.inr false)))
  (some (.inl (IntKind.i64.wrap (i5 + (1 : Int))))))
  (some (.inr (.inl ())))

noncomputable def tI (a0 : (List aR)) (b1 : (List aR)) (i5 : Int) : Option Bool :=
  (lp (fun s => oG a0 b1 s) i5).bind (Sum.elim (fun rr => qF ) (fun rr => some rr))

noncomputable def rZ (a0 : (List aR)) (b1 : (List aR)) : Option Bool :=
  cond (!decide (((List.length a0 : Nat) : Int) = ((List.length b1 : Nat) : Int)))
  (some false)
  (tI a0 b1 (0 : Int))

noncomputable def vO (l0 : List aE) : Option (List aE) :=
  some l0

noncomputable def nJ (r1 : (List aC)) (t9 : (List aB)) (t10 : Int) (l0 : List aE) (t11 : Int) : Option ((List aE × Int) ⊕ ((List aE))) :=
  cond (decide (t11 < t10))
  (bA (0 ≤ t11 ∧ t11 < ((List.length t9 : Nat) : Int)) <|
  (sN r1).bind fun x7 =>
  bA ((List.length l0 + List.length ([aE.mk x7 ((List.getD t9 (Int.toNat t11) default).At) ((List.getD t9 (Int.toNat t11) default).Net)])) * 40 ≤ 140737488355328 ∧ List.length l0 + List.length ([aE.mk x7 ((List.getD t9 (Int.toNat t11) default).At) ((List.getD t9 (Int.toNat t11) default).Net)]) ≤ 9223372036854775807) <|
  some (.inl (l0 ++ ([aE.mk x7 ((List.getD t9 (Int.toNat t11) default).At) ((List.getD t9 (Int.toNat t11) default).Net)]), IntKind.i64.wrap (t11 + (1 : Int)))))
  (some (.inr l0))

noncomputable def vK (l0 : List aE) (r1 : (List aC)) (t9 : (List aB)) (t10 : Int) (t11 : Int) : Option (List aE) :=
  (lp (fun s => nJ r1 t9 t10 s.1 s.2) (l0, t11)).bind (fun rr => vO rr)

noncomputable def uL (l0 : (List aE)) (r1 : (List aC)) (f2 : (List aB)) : Option (List aE) :=
  vK l0 r1 f2 ((List.length f2 : Nat) : Int) (0 : Int)

noncomputable def mI (by1 : (List aB) → Option ((List aB) × Int)) (kJ : (List aE)) (t4 : (List aE)) (t5 : Int) (out6 : List aE) (t14 : (List aC)) (t15 : (List aB)) : Option (((List aE) × Int × List aE) ⊕ ((List aE) × Int × List aE)) :=
  (by1 t15).bind fun x8 =>
  cond (!decide (x8.2 = (0 : Int)))
  (some (.inr ([], x8.2, out6)))
  ((uL out6 t14 x8.1).bind fun x12 =>
  cond (decide ((4096 : Int) < ((List.length x12 : Nat) : Int)))
  (some (.inr ([], (7 : Int), x12)))
  (some (.inl (t4, t5, x12))))

noncomputable def sE (by1 : (List aB) → Option ((List aB) × Int)) (t4 : (List aE)) (t5 : Int) (out6 : List aE) (kJ : (List aE)) : Option ((List aE) × Int) :=
  (mX (fun st t14 t15 => rnd (fun (s : (List aE) × Int × List aE) => mI by1 kJ s.1 s.2.1 s.2.2 t14 t15) st) kJ (.inl (t4, t5, out6))).bind (Sum.elim (fun (s : (List aE) × Int × List aE) =>
  (some (s.2.2, (0 : Int))))
  (fun (s : (List aE) × Int × List aE) =>
  (some (s.1, s.2.1))))

noncomputable def qJ (l0 : (List aE)) (by1 : (List aB) → Option ((List aB) × Int)) : Option ((List aE) × Int) :=
  (qS l0).bind fun x5 =>
  sE by1 ([]) 0 ([] : List aE) x5

noncomputable def uO (l0 : (List aE)) (by1 : (List aB) → Option ((List aB) × Int)) : Option ((List aE) × Int) :=
  (sJ l0).bind fun x1 =>
  cond (!x1)
  (some ([], (2 : Int)))
  ((qJ l0 by1).bind fun x5 =>
  some (x5.1, x5.2))

noncomputable def gP (s0 : (List aB)) : Option (List aB) :=
  bA (List.length s0 * 16 ≤ 140737488355328 ∧ List.length s0 ≤ 9223372036854775807) <|
  some s0

noncomputable def qW (f0 : (List aB)) : Option ((List aB) × Int) :=
  (mN f0).bind fun x1 =>
  cond (!x1)
  (some ([], (7 : Int)))
  (some (f0, (0 : Int)))

noncomputable def qN (out6 : List aB) : Option ((List aB) × Int) :=
  (qW out6).bind fun x12 =>
  some (x12.1, x12.2)

noncomputable def oM (t1 : Int) (out6 : List aB) (v7 : Int) : Option ((List aB) × Int) :=
  cond (!decide (v7 = (0 : Int)))
  (bA ((List.length out6 + List.length ([aB.mk t1 (IntKind.i64.wrap (0 - v7))])) * 16 ≤ 140737488355328 ∧ List.length out6 + List.length ([aB.mk t1 (IntKind.i64.wrap (0 - v7))]) ≤ 9223372036854775807) <|
  qN (out6 ++ ([aB.mk t1 (IntKind.i64.wrap (0 - v7))])))
  (qN out6)

noncomputable def kI (t1 : Int) (t18 : (List aB)) (t19 : Int) (out6 : List aB) (v7 : Int) (t20 : Int) : Option ((List aB × Int × Int) ⊕ ((List aB × Int))) :=
  cond (decide (t20 < t19))
  (bA (0 ≤ t20 ∧ t20 < ((List.length t18 : Nat) : Int)) <|
  cond (decide (t1 ≤ ((List.getD t18 (Int.toNat t20) default).At)))
  (some (.inr (out6, v7)))
  (bA ((List.length out6 + List.length ([List.getD t18 (Int.toNat t20) default])) * 16 ≤ 140737488355328 ∧ List.length out6 + List.length ([List.getD t18 (Int.toNat t20) default]) ≤ 9223372036854775807) <|
  some (.inl (out6 ++ ([List.getD t18 (Int.toNat t20) default]), IntKind.i64.wrap (v7 + ((List.getD t18 (Int.toNat t20) default).Net)), IntKind.i64.wrap (t20 + (1 : Int))))))
  (some (.inr (out6, v7)))

noncomputable def tE (t1 : Int) (out6 : List aB) (v7 : Int) (t18 : (List aB)) (t19 : Int) (t20 : Int) : Option ((List aB) × Int) :=
  (lp (fun s => kI t1 t18 t19 s.1 s.2.1 s.2.2) (out6, v7, t20)).bind (fun rr => oM t1 rr.1 rr.2)

noncomputable def sD (f0 : (List aB)) (t1 : Int) : Option ((List aB) × Int) :=
  (mN f0).bind fun x1 =>
  cond (!x1)
  (some ([], (2 : Int)))
  (cond (decide ((1125899906842624 : Int) ≤ t1))
  ((gP f0).bind fun x6 =>
  some (x6, (0 : Int)))
  (tE t1 ([] : List aB) (0 : Int) f0 ((List.length f0 : Nat) : Int) (0 : Int)))

noncomputable def nL (f0 : (List aB)) (t1 : Int) : Option ((List aB) × Int) :=
  (sD f0 t1).bind fun x1 =>
  some (x1.1, x1.2)

noncomputable def pJ (l0 : (List aE)) (t1 : Int) : Option ((List aE) × Int) :=
  (uO l0 (fun y0 => nL y0 t1)).bind fun x1 =>
  some (x1.1, x1.2)

noncomputable def qK  : Option Bool :=
  some true

noncomputable def oL (a0 : (List aE)) (b1 : (List aE)) (i5 : Int) : Option ((Int) ⊕ (Unit ⊕ Bool)) :=
  cond (decide (i5 < ((List.length a0 : Nat) : Int)))
  (bA (0 ≤ i5 ∧ i5 < ((List.length a0 : Nat) : Int)) <|
  bA (0 ≤ i5 ∧ i5 < ((List.length b1 : Nat) : Int)) <|
  bA ((((!(!decide (((List.getD a0 (Int.toNat i5) default).At) = ((List.getD b1 (Int.toNat i5) default).At))))) = true → 0 ≤ i5 ∧ i5 < ((List.length a0 : Nat) : Int))) <|
  bA ((((!(!decide (((List.getD a0 (Int.toNat i5) default).At) = ((List.getD b1 (Int.toNat i5) default).At))))) = true → 0 ≤ i5 ∧ i5 < ((List.length b1 : Nat) : Int))) <|
  bA ((((!((!decide (((List.getD a0 (Int.toNat i5) default).At) = ((List.getD b1 (Int.toNat i5) default).At))) || (!decide (((List.getD a0 (Int.toNat i5) default).Net) = ((List.getD b1 (Int.toNat i5) default).Net)))))) = true → 0 ≤ i5 ∧ i5 < ((List.length a0 : Nat) : Int))) <|
  bA ((((!((!decide (((List.getD a0 (Int.toNat i5) default).At) = ((List.getD b1 (Int.toNat i5) default).At))) || (!decide (((List.getD a0 (Int.toNat i5) default).Net) = ((List.getD b1 (Int.toNat i5) default).Net)))))) = true → 0 ≤ i5 ∧ i5 < ((List.length b1 : Nat) : Int))) <|
  (cX (!((!decide (((List.getD a0 (Int.toNat i5) default).At) = ((List.getD b1 (Int.toNat i5) default).At))) || (!decide (((List.getD a0 (Int.toNat i5) default).Net) = ((List.getD b1 (Int.toNat i5) default).Net))))) (pN ((List.getD a0 (Int.toNat i5) default).Row) ((List.getD b1 (Int.toNat i5) default).Row))).bind fun x9 =>
  cond (((!decide (((List.getD a0 (Int.toNat i5) default).At) = ((List.getD b1 (Int.toNat i5) default).At))) || (!decide (((List.getD a0 (Int.toNat i5) default).Net) = ((List.getD b1 (Int.toNat i5) default).Net)))) || (!x9))
  (some (.inr (.inr false)))
  (some (.inl (IntKind.i64.wrap (i5 + (1 : Int))))))
  (some (.inr (.inl ())))

noncomputable def tD (a0 : (List aE)) (b1 : (List aE)) (i5 : Int) : Option Bool :=
  (lp (fun s => oL a0 b1 s) i5).bind (Sum.elim (fun rr => qK ) (fun rr => some rr))

noncomputable def rP (a0 : (List aE)) (b1 : (List aE)) : Option Bool :=
  cond (!decide (((List.length a0 : Nat) : Int) = ((List.length b1 : Nat) : Int)))
  (some false)
  (tD a0 b1 (0 : Int))

noncomputable def pO (out5 : List aR) : Option (List aR) :=
  some out5

noncomputable def nO (l0 : (List aR)) (t1 : Int) (out5 : List aR) (i6 : Int) : Option ((List aR × Int) ⊕ ((List aR))) :=
  some (.inl (out5, IntKind.i64.wrap (i6 + (1 : Int))))

noncomputable def mB (l0 : (List aR)) (t1 : Int) (out5 : List aR) (i6 : Int) : Option ((List aR × Int) ⊕ ((List aR))) :=
  cond (decide (i6 < ((List.length l0 : Nat) : Int)))
  (bA (0 ≤ i6 ∧ i6 < ((List.length l0 : Nat) : Int)) <|
  cond (decide ((((List.getD l0 (Int.toNat i6) default).Span).From) < t1))
  (bA (0 ≤ i6 ∧ i6 < ((List.length l0 : Nat) : Int)) <|
  bA ((List.length out5 + List.length ([List.getD l0 (Int.toNat i6) default])) * 40 ≤ 140737488355328 ∧ List.length out5 + List.length ([List.getD l0 (Int.toNat i6) default]) ≤ 9223372036854775807) <|
  nO l0 t1 (out5 ++ ([List.getD l0 (Int.toNat i6) default])) i6)
  (nO l0 t1 out5 i6))
  (some (.inr out5))

noncomputable def sO (l0 : (List aR)) (t1 : Int) (out5 : List aR) (i6 : Int) : Option (List aR) :=
  (lp (fun s => mB l0 t1 s.1 s.2) (out5, i6)).bind (fun rr => pO rr)

noncomputable def oK (l0 : (List aR)) (t1 : Int) : Option (List aR) :=
  sO l0 t1 ([] : List aR) (0 : Int)

noncomputable def kT (a13 : Int) (q19 : (List aR)) (gU : (List aR)) : Option Bool :=
  (mU ).bind fun x38 =>
  (cX x38 (oK q19 a13)).bind fun x41 =>
  (cX x38 (rZ gU x41)).bind fun x44 =>
  some (x38 && x44)

noncomputable def jH (t3 : Int) (a13 : Int) (q19 : (List aR)) (gU : (List aR)) (k22 : Int) : Option ((Int) ⊕ (Unit ⊕ Bool)) :=
  cond (decide (k22 < ((List.length gU : Nat) : Int)))
  (bA (0 ≤ k22 ∧ k22 < ((List.length gU : Nat) : Int)) <|
  cond (decide (t3 < (((List.getD gU (Int.toNat k22) default).Span).To)))
  (some (.inr (.inr false)))
  (some (.inl (IntKind.i64.wrap (k22 + (1 : Int))))))
  (some (.inr (.inl ())))

noncomputable def mO (t3 : Int) (a13 : Int) (q19 : (List aR)) (gU : (List aR)) (k22 : Int) : Option Bool :=
  (lp (fun s => jH t3 a13 q19 gU s) k22).bind (Sum.elim (fun rr => kT a13 q19 gU) (fun rr => some rr))

noncomputable def nA (l0 : (List aE)) (m1 : (List aE)) (n2 : Int) (t3 : Int) : Option Bool :=
  (pJ l0 t3).bind fun x1 =>
  (pJ m1 t3).bind fun x4 =>
  (cX (!((!decide (x1.2 = (0 : Int))) || (!decide (x4.2 = (0 : Int))))) (rP x1.1 x4.1)).bind fun x7 =>
  cond ((((!decide (x1.2 = (0 : Int))) || (!decide (x4.2 = (0 : Int)))) || (!x7)) || (decide ((1125899906842624 : Int) ≤ t3)))
  ((mU ).bind fun x11 =>
  some x11)
  ((nB l0 n2 t3).bind fun x14 =>
  (nB m1 n2 t3).bind fun x17 =>
  cond ((!decide (x14.2 = (0 : Int))) || (!decide (x17.2 = (0 : Int))))
  ((mU ).bind fun x21 =>
  some x21)
  ((mF l0 n2 (0 : Int)).bind fun x24 =>
  (mF m1 n2 (0 : Int)).bind fun x27 =>
  cond ((!decide (x14.1 = x17.1)) || (decide (t3 < x14.1)))
  (some false)
  (cond ((!decide (x24.2 = (0 : Int))) || (!decide (x27.2 = (0 : Int))))
  ((mU ).bind fun x32 =>
  some x32)
  ((oK x24.1 x14.1).bind fun x35 =>
  mO t3 x14.1 x27.1 x35 (0 : Int)))))

end Go.Abs
namespace Go.Abs
open Go Go.RowKit
def xK (x : aC) : Prop := uY x.Kind ∧ uY x.Num ∧ (fun s => s.size ≤ maxLen) x.Text ∧ True

def oW (x : aE) : Prop := (fun l => (∀ a ∈ l, xK a) ∧ l.length * 32 ≤ 140737488351232) x.Row ∧ uY x.At ∧ uY x.Net ∧ True

end Go.Abs
namespace Go.Abs
open Go Go.RowKit Go.Proofs
noncomputable def tt : TT := ⟨RG Try.prog, KE Try.prog⟩

theorem aD : gI Try.prog tt := gI.of Try.prog

theorem DA (l0 : (List aE)) (r : (List aE)) (h0 : qS l0 = some r) : dH Try.prog 67 [(eL aG l0)] (.fn (.func 91) [] [(.rp (eL aG r))]) := by
  intro H0
  refine dD Try.func67 ?_
  have hO := aL.start H0
  unfold qS at h0
  refine aO ?_
  refine aV aD 2 ?_
  refine qM 1 (eL aG l0) (by kernel_rfl) (by kernel_rfl) ?_
  refine bD ?_
  refine bG [(1, (.rp (eL aG l0)))] ?_
  refine cH aD 2 [(2, (.fn (.func 91) [] [(.rp (eL aG l0))]))] ?_
  refine bH ?_
  obtain rfl := oI h0
  exact aI (jZ (x := (.fn (.func 91) [] [(.rp (eL aG l0))])) (by kernel_rfl) (aN.refl _) ⟨rfl, hO.out⟩)

theorem nT (s10 : (List aC)) (s21 : (List aC)) (r : Bool) (h0 : eV s10 s21 = some r) : dH Try.prog 72 [(eL aK s10), (eL aK s21)] (aF r) := by
  intro H0
  refine dD Try.func72 ?_
  have hO := aL.start H0
  unfold eV at h0
  refine aU aD 1 [] [] ?_
  refine aO ?_
  refine aU aD 5 [] [(10, (aF (!decide ((lN s10) = (lN s21)))))] ?_
  refine bM h0 (fun h0 => ?_) (fun h0 => ?_)
  · refine cH aD 1 [(4, (aF false))] ?_
    refine bH ?_
    obtain rfl := oI h0
    exact aI (aT (Q_r hO))
  refine bL ?_
  refine bG [(0, (eL aK s10)), (1, (eL aK s21))] ?_
  refine gM (fun T H => Has T [] ∧ aL ⟨H0, [], []⟩ H [] ∧ gC  = some r) ?_ ?_
  · clear hO h0
    rintro T H ⟨hT, hO, h0⟩
    refine bF hT ?_
    clear hT
    unfold gC at h0
    refine cH aD 1 [(4, (aF true))] ?_
    refine bH ?_
    obtain rfl := oI h0
    exact aI (Q_r hO)
  refine aU aD 3 [] [(12, (eI (lN s10))), (13, (eI (0 : Int)))] ?_
  refine cG 0 ?_
  refine fW [(0, (eL aK s10)), (1, (eL aK s21)), (12, (eI (lN s10))), (13, (eI (0 : Int)))] ?_
  refine eS (fun T H => ∃ t12 : Int, ∃ t13 : Int, Has T [(0, (eL aK s10)), (1, (eL aK s21)), (12, (eI t12)), (13, (eI t13))] ∧ aL ⟨H0, [], []⟩ H [] ∧ iX s10 s21 t12 t13 = some r) ?_ ⟨(lN s10), (0 : Int), .eq (by kernel_rfl), hO, h0⟩
  clear hO h0
  rintro T H ⟨t12, t13, hT, hO, h0⟩
  refine bF hT ?_
  clear hT
  unfold iX at h0
  obtain ⟨rr0, hl0, h0⟩ := aY h0
  refine dF (by kernel_rfl) (fun (s : Int) T H => Has T [(0, (eL aK s10)), (1, (eL aK s21)), (12, (eI t12)), (13, (eI s))] ∧ aL ⟨H0, [], []⟩ H []) hl0 ⟨.eq (by kernel_rfl), hO⟩ ?_
  clear hO
  rintro k0 s out1 T H ⟨hT, hO⟩ h1 ho0
  obtain ⟨t13, rfl⟩ : ∃ x, x = s := ⟨_, rfl⟩
  replace h1 : eR s10 s21 t12 t13 = some out1 := h1
  refine bF hT ?_
  clear hT
  unfold eR at h1
  refine aU aD 1 [] [(14, (aF (decide (t13 < t12))))] ?_
  refine aO ?_
  refine bM h1 (fun h1 => ?_) (fun h1 => ?_)
  · refine bL ?_
    refine bG [(0, (eL aK s10)), (1, (eL aK s21)), (12, (eI t12)), (13, (eI t13))] ?_
    refine aO ?_
    refine cG 1 ?_
    refine aU aD 2 [] [(5, (eI t13))] ?_
    refine aO ?_
    refine fG (fH [19, 23]) aD 9 ?_
    obtain ⟨c3, h1⟩ := aW h1
    obtain ⟨c4, h1⟩ := aW h1
    refine JT (Ds := [0 ≤ t13 ∧ t13 < (lN s10), 0 ≤ t13 ∧ t13 < (lN s21)]) (by kernel_rfl) ⟨c3, c4, trivial⟩ ?_
    refine bS [5] [(24, (aF (!((decide (((gD s10 t13).Kind) = ((gD s21 t13).Kind))) && ((decide (((gD s10 t13).Num) = ((gD s21 t13).Num))) && ((nH ((gD s10 t13).Text) ((gD s21 t13).Text)) && true))))))] ?_
    refine bM h1 (fun h1 => ?_) (fun h1 => ?_)
    · refine cH aD 1 [(4, (aF false))] ?_
      refine bH ?_
      obtain rfl := oI h1
      obtain rfl : _ = rr0 := ho0
      replace h0 : some false = some r := h0
      obtain rfl := oI h0
      exact aI (bN (aT (aT (bN (aT (Q_r hO))))))
    refine bL ?_
    refine fV [(0, (eL aK s10)), (1, (eL aK s21)), (12, (eI t12)), (13, (eI t13))] ?_
    refine aI (aZ (aH (?_)))
    refine aV aD 2 ?_
    refine bD ?_
    exact aI (aH (⟨rfl, _, (oI h1).symm, .eq (by kernel_rfl), hO⟩))
  refine gZ 0 ?_
  obtain rfl := oI h1
  obtain rfl : _ = rr0 := ho0
  replace h0 : gC  = some r := h0
  exact aI (aX (aX (bX (aH (⟨rfl, .eq (by kernel_rfl), hO, h0⟩)))))

theorem PK (a0 : (List aC)) (b1 : (List aC)) (r : Bool) (h0 : sI a0 b1 = some r) : dH Try.prog 92 [(eL aK a0), (eL aK b1)] (aF r) := by
  intro H0
  refine dD Try.func92 ?_
  have hO := aL.start H0
  unfold sI at h0
  refine aU aD 1 [] [] ?_
  refine aO ?_
  refine aV aD 4 ?_
  refine bO 2 ?_
  obtain ⟨x1, hx2, h0⟩ := aY h0
  refine dO (nT a0 b1 _ hx2) hO ?_
  intro H hO
  refine bD ?_
  refine bG [(4, (aF x1))] ?_
  refine bH ?_
  obtain rfl := oI h0
  exact aI (Q_r hO)

theorem GM (r0 : (List aC)) (r : (List aC)) (h0 : sN r0 = some r) : dH Try.prog 93 [(eL aK r0)] (eL aK r) := by
  intro H0
  refine dD Try.func93 ?_
  have hO := aL.start H0
  unfold sN at h0
  refine aU aD 1 [] [] ?_
  refine aO ?_
  refine aV aD 6 ?_
  refine bO 2 ?_
  obtain ⟨c1, h0⟩ := aW h0
  refine YC 3 32 (lN r0) (by kernel_rfl) (by kernel_rfl) c1 hO ?_
  intro lo2 H hO
  refine bO 4 ?_
  obtain ⟨c4, h0⟩ := aW h0
  refine wZ (e := aK) ([] : List aC) r0 0 lo2 3 32 (eL aK r0) (fun lo3 => [(lo3, 3, List.map aK (([] : List aC) ++ r0))]) (by kernel_rfl) (by kernel_rfl) hO (by kernel_rfl) (GX (fun _ => by kernel_rfl)) c4 (fun _ => by kernel_rfl) ?_
  intro lo3 H hO
  refine bD ?_
  refine bG [(2, (.msl 3 lo3 0 (List.length (([] : List aC) ++ r0))))] ?_
  refine bH ?_
  refine fV [(2, (.msl 3 lo3 0 (List.length (([] : List aC) ++ r0))))] ?_
  refine wA (en := aK) (([] : List aC) ++ r0) 0 0 2 3 lo3 (List.length (([] : List aC) ++ r0)) hO (by kernel_rfl) (by kernel_rfl) (by kernel_rfl) (L' := []) (by kernel_rfl) ?_
  intro H5 hO
  obtain rfl := oI h0
  exact aI (Q_r hO)

theorem yH {σ : Type} (I : σ → Gs → Prop) (yield0_b : Nat) (gR : σ → (List aC) → (List aB) → Option (σ × Bool)) (yield0_h : ∀ st a0 a1 st2 r, gR st a0 a1 = some (st2, r) → CQ Try.prog (yv yield0_b) I st [(eL aK a0), (eL aP a1)] st2 (aF r)) (t1 : (List aE)) (sg0 : σ) (r : σ) (h0 : mX gR t1 sg0 = some r) : wP Try.prog 91 I sg0 [(yv yield0_b), (.rp (eL aG t1))] r (.tup []) := by
  intro H0 G0 hI hg
  refine dD Try.func91 ?_
  obtain ⟨G, hO, hI⟩ : ∃ G, aL ⟨H0, List.map (fun p : Nat × dL => p.1) G0, G⟩ H0 [] ∧ I sg0 G := ⟨G0, aL.FV hg, hI⟩
  clear hg
  unfold mX at h0
  refine aU aD 1 [] [(3, (eI (0 : Int)))] ?_
  refine cG 0 ?_
  refine fW [(0, (yv yield0_b)), (1, (.rp (eL aG t1))), (3, (eI (0 : Int)))] ?_
  refine eS (fun T H => ∃ sg : σ, ∃ i3 : Int, ∃ G : Gs, Has T [(0, (yv yield0_b)), (1, (.rp (eL aG t1))), (3, (eI i3))] ∧ aL ⟨H0, List.map (fun p : Nat × dL => p.1) G0, G⟩ H [] ∧ I sg G ∧ pV gR sg t1 i3 = some r) ?_ ⟨sg0, (0 : Int), G, .eq (by kernel_rfl), hO, hI, h0⟩
  clear hO hI h0
  rintro T H ⟨sg, i3, G, hT, hO, hI, h0⟩
  refine bF hT ?_
  clear hT
  unfold pV at h0
  obtain ⟨rr0, hl0, h0⟩ := aY h0
  refine dF (by kernel_rfl) (fun (s : σ × Int) T H => ∃ G : Gs, Has T [(0, (yv yield0_b)), (1, (.rp (eL aG t1))), (3, (eI s.2))] ∧ aL ⟨H0, List.map (fun p : Nat × dL => p.1) G0, G⟩ H [] ∧ I s.1 G) hl0 ⟨G, .eq (by kernel_rfl), hO, hI⟩ ?_
  clear hO hI
  rintro k0 s out1 T H ⟨G, hT, hO, hI⟩ h1 ho0
  obtain ⟨sg, i3⟩ := s
  replace h1 : iE gR t1 sg i3 = some out1 := h1
  try dsimp only at hT
  refine bF hT ?_
  clear hT
  unfold iE at h1
  refine aO ?_
  refine aU aD 4 [] [(9, (aF (decide (i3 < (lN t1)))))] ?_
  refine bM h1 (fun h1 => ?_) (fun h1 => ?_)
  · refine bL ?_
    refine bG [(0, (yv yield0_b)), (1, (.rp (eL aG t1))), (3, (eI i3))] ?_
    refine cG 1 ?_
    refine aO ?_
    refine aV aD 6 ?_
    obtain ⟨c2, h1⟩ := aW h1
    refine nG [0 ≤ i3 ∧ i3 < (lN t1)] ⟨c2, trivial⟩ ?_
    refine bS [] [(4, (eL aK ((gD t1 i3).Row)))] ?_
    refine aO ?_
    refine aV aD 2 ?_
    refine oZ (xs := []) (k := 2) (by kernel_rfl) (by kernel_rfl) ?_
    refine bD ?_
    refine bS [] [(5, (.sl true 0 (fun _ => .bad)))] ?_
    refine gM (fun T H => ∃ sg : σ, ∃ i3 : Int, ∃ r4 : (List aC), ∃ f5 : List aB, ∃ lo3 : Nat, ∃ G : Gs, Has T [(0, (yv yield0_b)), (1, (.rp (eL aG t1))), (3, (eI i3)), (4, (eL aK r4)), (5, (.msl 2 lo3 0 (List.length f5)))] ∧ aL ⟨H0, List.map (fun p : Nat × dL => p.1) G0, G⟩ H [(lo3, 2, List.map aP f5)] ∧ I sg G ∧ nP gR sg t1 i3 r4 f5 = some out1) ?_ ?_
    · clear hO hI h1
      rintro T H ⟨sg, i3, r4, f5, lo3, G, hT, hO, hI, h1⟩
      refine bF hT ?_
      clear hT
      unfold nP at h1
      refine aO ?_
      refine aV aD 6 ?_
      refine IG (e := aP) f5 0 5 2 lo3 (List.length f5) [] (by kernel_rfl) hO (by kernel_rfl) (by kernel_rfl) (by kernel_rfl) (by kernel_rfl) ?_
      intro H hO
      refine bO 2 ?_
      obtain ⟨x7, hx8, h1⟩ := aY h1
      refine dO (GM r4 _ hx8) hO ?_
      intro H hO
      refine bO 4 ?_
      obtain ⟨x10, hx11, h1⟩ := aY h1
      refine OY (I := I) (yv yield0_b) [(eL aK x7), (eL aP f5)] (aF x10.2) (by kernel_rfl) (by kernel_rfl) (yield0_h _ x7 f5 x10.1 x10.2 hx11) hO hI ?_
      intro G H hO hI
      refine bD ?_
      refine bS [4, 5] [(50, (aF (!x10.2)))] ?_
      refine bM h1 (fun h1 => ?_) (fun h1 => ?_)
      · refine bH ?_
        obtain rfl := oI h1
        obtain rfl : _ = rr0 := ho0
        replace h0 : some x10.1 = some r := h0
        obtain rfl := oI h0
        exact aI (bN (aT (bN (jZ (x := (.tup [])) (by kernel_rfl) (aN.refl _) ⟨rfl, G, hI, hO.EH⟩))))
      refine bL ?_
      exact aI (aZ (aH (⟨rfl, _, (oI h1).symm, _, .eq (by kernel_rfl), hO, hI⟩)))
    refine cG 2 ?_
    refine fW [(0, (yv yield0_b)), (1, (.rp (eL aG t1))), (3, (eI i3)), (4, (eL aK ((gD t1 i3).Row))), (5, (.sl true 0 (fun _ => .bad)))] ?_
    refine ES (el := (fun _ => .bad)) 4 5 2 hO (by kernel_rfl) ?_
    intro lo24 H25 hO
    refine eS (fun T H => ∃ sg : σ, ∃ i3 : Int, ∃ r4 : (List aC), ∃ f5 : List aB, ∃ lo14 : Nat, ∃ G : Gs, Has T [(0, (yv yield0_b)), (1, (.rp (eL aG t1))), (3, (eI i3)), (4, (eL aK r4)), (5, (.msl 2 lo14 0 (List.length f5)))] ∧ aL ⟨H0, List.map (fun p : Nat × dL => p.1) G0, G⟩ H [(lo14, 2, List.map aP f5)] ∧ I sg G ∧ qA gR sg t1 i3 r4 f5 = some out1) ?_ ⟨sg, i3, (gD t1 i3).Row, ([] : List aB), lo24, G, .eq (by kernel_rfl), hO, hI, h1⟩
    clear hO hI h1
    rintro T H ⟨sg, i3, r4, f5, lo14, G, hT, hO, hI, h1⟩
    refine bF hT ?_
    clear hT
    unfold qA at h1
    obtain ⟨rr1, hl1, h1⟩ := aY h1
    refine dF (by kernel_rfl) (fun (s : σ × Int × List aB) T H => ∃ lo14 : Nat, ∃ G : Gs, Has T [(0, (yv yield0_b)), (1, (.rp (eL aG t1))), (3, (eI s.2.1)), (4, (eL aK r4)), (5, (.msl 2 lo14 0 (List.length s.2.2)))] ∧ aL ⟨H0, List.map (fun p : Nat × dL => p.1) G0, G⟩ H [(lo14, 2, List.map aP s.2.2)] ∧ I s.1 G) hl1 ⟨lo14, G, .eq (by kernel_rfl), hO, hI⟩ ?_
    clear hO hI
    rintro k1 s out2 T H ⟨lo14, G, hT, hO, hI⟩ h2 ho1
    obtain ⟨sg, i3, f5⟩ := s
    replace h2 : jB gR t1 r4 sg i3 f5 = some out2 := h2
    try dsimp only at hT
    refine bF hT ?_
    clear hT
    unfold jB at h2
    refine aO ?_
    refine aO ?_
    refine aV aD 13 ?_
    obtain ⟨c15, h2⟩ := aW h2
    refine uB 11 [(((decide (i3 < (lN t1)))) = true → 0 ≤ i3 ∧ i3 < (lN t1))] ⟨c15, trivial⟩ ?_
    obtain ⟨x16, hx17, h2⟩ := aY h2
    refine mW [(20, true)] 92 [(eL aK ((gD t1 i3).Row)), (eL aK r4)] (aF x16) (decide (i3 < (lN t1))) (by kernel_rfl) (by kernel_rfl) (by kernel_rfl) (fun hb18 => (PK ((gD t1 i3).Row) r4 _ (iZ hx17 hb18))) hO ?_
    intro H hO
    refine bD ?_
    refine bS [] [(28, (aF ((decide (i3 < (lN t1))) && x16)))] ?_
    refine bM h2 (fun h2 => ?_) (fun h2 => ?_)
    · refine bL ?_
      refine bG [(0, (yv yield0_b)), (1, (.rp (eL aG t1))), (3, (eI i3)), (4, (eL aK r4)), (5, (.msl 2 lo14 0 (List.length f5)))] ?_
      refine aO ?_
      refine cG 3 ?_
      refine fG (fH [32, 36, 37, 41, 43]) aD 15 ?_
      obtain ⟨c20, h2⟩ := aW h2
      obtain ⟨c21, h2⟩ := aW h2
      refine cA 12 [0 ≤ i3 ∧ i3 < (lN t1), 0 ≤ i3 ∧ i3 < (lN t1)] ⟨c20, c21, trivial⟩ ?_
      refine QB (xs := [(aP (aB.mk ((gD t1 i3).At) ((gD t1 i3).Net)))]) (k := 2) (by kernel_rfl) (by kernel_rfl) ?_
      obtain ⟨c23, h2⟩ := aW h2
      refine HL (e := aP) f5 ([aB.mk ((gD t1 i3).At) ((gD t1 i3).Net)]) 0 lo14 2 16 (kN [(aP (aB.mk ((gD t1 i3).At) ((gD t1 i3).Net)))]) (fun lo22 => [(lo22, 2, List.map aP (f5 ++ ([aB.mk ((gD t1 i3).At) ((gD t1 i3).Net)])))]) (by kernel_rfl) (by kernel_rfl) hO (by kernel_rfl) (by kernel_rfl) c23 (fun _ => by kernel_rfl) ?_
      intro lo22 H hO
      refine jC ?_
      refine fV [(0, (yv yield0_b)), (1, (.rp (eL aG t1))), (3, (eI i3)), (4, (eL aK r4)), (5, (.msl 2 lo22 0 (List.length (f5 ++ ([aB.mk ((gD t1 i3).At) ((gD t1 i3).Net)])))))] ?_
      refine aI (aZ (aH (?_)))
      refine aV aD 3 ?_
      refine bD ?_
      exact aI (aH (⟨rfl, _, (oI h2).symm, _, _, .eq (by kernel_rfl), hO, hI⟩))
    refine gZ 2 ?_
    obtain rfl := oI h2
    obtain rfl : _ = rr1 := ho1
    replace h1 : nP gR sg t1 i3 r4 f5 = some out1 := h1
    exact aI (aX (aX (bX (aH (⟨rfl, _, _, _, _, _, _, .eq (by kernel_rfl), hO, hI, h1⟩)))))
  refine gZ 0 ?_
  obtain rfl := oI h1
  obtain rfl : _ = rr0 := ho0
  replace h0 : some sg = some r := h0
  obtain rfl := oI h0
  exact aI (aX (aX (bX (wS (x := (.tup [])) (by kernel_rfl) (aN.refl _) ⟨rfl, G, hI, hO.EH⟩))))

theorem rU (s0 : (List aC)) (f1_f : Nat) (f1_a f1_c : List V) (f1 : aC → Option Bool) (f1_h : ∀ a0 r, f1 a0 = some r → dH Try.prog f1_f (f1_a ++ [(aK a0)] ++ f1_c) (aF r)) (r : Int) (h0 : iA s0 f1 = some r) : dH Try.prog 100 [(eL aK s0), (.fn (.func f1_f) f1_a f1_c)] (eI r) := by
  intro H0
  refine dD Try.func100 ?_
  have hO := aL.start H0
  unfold iA at h0
  refine aU aD 1 [] [] ?_
  refine gM (fun T H => Has T [] ∧ aL ⟨H0, [], []⟩ H [] ∧ fA f1  = some r) ?_ ?_
  · clear hO h0
    rintro T H ⟨hT, hO, h0⟩
    refine bF hT ?_
    clear hT
    unfold fA at h0
    refine cH aD 1 [(4, (eI (-1 : Int)))] ?_
    refine bH ?_
    obtain rfl := oI h0
    exact aI (Q_r hO)
  refine aU aD 3 [] [(7, (eI (lN s0))), (8, (eI (0 : Int)))] ?_
  refine cG 0 ?_
  refine fW [(0, (eL aK s0)), (1, (.fn (.func f1_f) f1_a f1_c)), (7, (eI (lN s0))), (8, (eI (0 : Int)))] ?_
  refine eS (fun T H => ∃ t7 : Int, ∃ t8 : Int, Has T [(0, (eL aK s0)), (1, (.fn (.func f1_f) f1_a f1_c)), (7, (eI t7)), (8, (eI t8))] ∧ aL ⟨H0, [], []⟩ H [] ∧ gX f1 s0 t7 t8 = some r) ?_ ⟨(lN s0), (0 : Int), .eq (by kernel_rfl), hO, h0⟩
  clear hO h0
  rintro T H ⟨t7, t8, hT, hO, h0⟩
  refine bF hT ?_
  clear hT
  unfold gX at h0
  obtain ⟨rr0, hl0, h0⟩ := aY h0
  refine dF (by kernel_rfl) (fun (s : Int) T H => Has T [(0, (eL aK s0)), (1, (.fn (.func f1_f) f1_a f1_c)), (7, (eI t7)), (8, (eI s))] ∧ aL ⟨H0, [], []⟩ H []) hl0 ⟨.eq (by kernel_rfl), hO⟩ ?_
  clear hO
  rintro k0 s out1 T H ⟨hT, hO⟩ h1 ho0
  obtain ⟨t8, rfl⟩ : ∃ x, x = s := ⟨_, rfl⟩
  replace h1 : gY f1 s0 t7 t8 = some out1 := h1
  refine bF hT ?_
  clear hT
  unfold gY at h1
  refine aU aD 1 [] [(9, (aF (decide (t8 < t7))))] ?_
  refine aO ?_
  refine bM h1 (fun h1 => ?_) (fun h1 => ?_)
  · refine bL ?_
    refine bG [(0, (eL aK s0)), (1, (.fn (.func f1_f) f1_a f1_c)), (7, (eI t7)), (8, (eI t8))] ?_
    refine aO ?_
    refine cG 1 ?_
    refine aU aD 2 [] [(5, (eI t8))] ?_
    refine aO ?_
    refine aV aD 6 ?_
    obtain ⟨c2, h1⟩ := aW h1
    refine uB 5 [0 ≤ t8 ∧ t8 < (lN s0)] ⟨c2, trivial⟩ ?_
    obtain ⟨x3, hx4, h1⟩ := aY h1
    refine dO (f1_h (gD s0 t8) _ hx4) hO ?_
    intro H hO
    refine fI ?_
    refine bS [] [(16, (aF x3))] ?_
    refine bM h1 (fun h1 => ?_) (fun h1 => ?_)
    · refine cH aD 2 [(4, (eI t8))] ?_
      refine bH ?_
      obtain rfl := oI h1
      obtain rfl : _ = rr0 := ho0
      replace h0 : some t8 = some r := h0
      obtain rfl := oI h0
      exact aI (bN (aT (aT (bN (aT (Q_r hO))))))
    refine bL ?_
    refine fV [(0, (eL aK s0)), (1, (.fn (.func f1_f) f1_a f1_c)), (7, (eI t7)), (8, (eI t8))] ?_
    refine aI (aZ (aH (?_)))
    refine aV aD 2 ?_
    refine bD ?_
    exact aI (aH (⟨rfl, _, (oI h1).symm, .eq (by kernel_rfl), hO⟩))
  refine gZ 0 ?_
  obtain rfl := oI h1
  obtain rfl : _ = rr0 := ho0
  replace h0 : fA f1  = some r := h0
  exact aI (aX (aX (bX (aH (⟨rfl, .eq (by kernel_rfl), hO, h0⟩)))))

theorem qQ (s0 : (List aC)) (f1_f : Nat) (f1_a f1_c : List V) (f1 : aC → Option Bool) (f1_h : ∀ a0 r, f1 a0 = some r → dH Try.prog f1_f (f1_a ++ [(aK a0)] ++ f1_c) (aF r)) (r : Bool) (h0 : eO s0 f1 = some r) : dH Try.prog 97 [(eL aK s0), (.fn (.func f1_f) f1_a f1_c)] (aF r) := by
  intro H0
  refine dD Try.func97 ?_
  have hO := aL.start H0
  unfold eO at h0
  refine aU aD 1 [] [] ?_
  refine aO ?_
  refine aV aD 5 ?_
  refine bO 2 ?_
  obtain ⟨x1, hx2, h0⟩ := aY h0
  refine dO (rU s0 f1_f f1_a f1_c f1 f1_h _ hx2) hO ?_
  intro H hO
  refine bD ?_
  refine bG [(4, (aF (decide ((0 : Int) ≤ x1))))] ?_
  refine bH ?_
  obtain rfl := oI h0
  exact aI (Q_r hO)

theorem uQ (v0 : aC) (r : (bE × Bool)) (h0 : kY v0 = some r) : dH Try.prog 110 [(aK v0)] (.tup [(bB r.1), (aF r.2)]) := by
  intro H0
  refine dD Try.func110 ?_
  have hO := aL.start H0
  unfold kY at h0
  refine aO ?_
  refine aV aD 3 ?_
  refine qM 3 (aK v0) (by kernel_rfl) (by kernel_rfl) ?_
  refine bD ?_
  refine bG [(1, (.rp (aK v0)))] ?_
  refine aO ?_
  refine cG 0 ?_
  refine aU aD 9 [] [(4, (aF ((decide (v0.Kind = (1 : Int))) && (nH v0.Text (⟨#[]⟩ : ByteArray)))))] ?_
  refine bM h0 (fun h0 => ?_) (fun h0 => ?_)
  · refine cH aD 5 [(2, (bB (bE.k_number v0.Num))), (3, (aF true))] ?_
    refine bH ?_
    obtain rfl := oI h0
    exact aI (bN (aT (Q_r hO)))
  refine aU aD 15 [4] [(16, (aF (((decide (v0.Kind = (2 : Int))) && (decide (v0.Num = (0 : Int)))) && (decide (((ByteArray.size v0.Text : Nat) : Int) ≤ (64 : Int))))))] ?_
  refine bM h0 (fun h0 => ?_) (fun h0 => ?_)
  · refine cH aD 5 [(2, (bB (bE.k_words v0.Text))), (3, (aF true))] ?_
    refine bH ?_
    obtain rfl := oI h0
    exact aI (bN (aT (Q_r hO)))
  refine bL ?_
  refine fV [] ?_
  refine aI (aZ (aH (?_)))
  refine cH aD 2 [(2, (bB bE.none_)), (3, (aF false))] ?_
  refine bH ?_
  obtain rfl := oI h0
  exact aI (Q_r hO)

theorem NQ (v0 : aC) (r : Bool) (h0 : tC v0 = some r) : dH Try.prog 99 [(aK v0)] (aF r) := by
  intro H0
  refine dD Try.func99 ?_
  have hO := aL.start H0
  unfold tC at h0
  refine aO ?_
  refine aV aD 2 ?_
  refine qM 3 (aK v0) (by kernel_rfl) (by kernel_rfl) ?_
  refine bD ?_
  refine bG [(1, (.rp (aK v0)))] ?_
  refine aO ?_
  refine aV aD 7 ?_
  refine bO 1 ?_
  obtain ⟨⟨x1_0, x1_1⟩, hx2, h0⟩ := aY h0
  refine dO (uQ v0 _ hx2) hO ?_
  intro H hO
  rcases x1_0 with _ | y4 | y5
  · replace h0 : (some x1_1) = some r := h0
    refine bD ?_
    refine bG [(4, (aF x1_1))] ?_
    refine cH aD 2 [(2, (aF x1_1))] ?_
    refine bH ?_
    obtain rfl := oI h0
    exact aI (Q_r hO)
  · replace h0 : (some x1_1) = some r := h0
    refine bD ?_
    refine bG [(4, (aF x1_1))] ?_
    refine cH aD 2 [(2, (aF x1_1))] ?_
    refine bH ?_
    obtain rfl := oI h0
    exact aI (Q_r hO)
  · replace h0 : (some x1_1) = some r := h0
    refine bD ?_
    refine bG [(4, (aF x1_1))] ?_
    refine cH aD 2 [(2, (aF x1_1))] ?_
    refine bH ?_
    obtain rfl := oI h0
    exact aI (Q_r hO)

theorem NF (v0 : aC) (r : Bool) (h0 : sZ v0 = some r) : dH Try.prog 98 [(aK v0)] (aF r) := by
  intro H0
  refine dD Try.func98 ?_
  have hO := aL.start H0
  unfold sZ at h0
  refine aO ?_
  refine aV aD 2 ?_
  refine qM 3 (aK v0) (by kernel_rfl) (by kernel_rfl) ?_
  refine bD ?_
  refine bG [(1, (.rp (aK v0)))] ?_
  refine aO ?_
  refine aV aD 4 ?_
  refine bO 1 ?_
  obtain ⟨x1, hx2, h0⟩ := aY h0
  refine dO (NQ v0 _ hx2) hO ?_
  intro H hO
  refine bD ?_
  refine bG [(2, (aF (!x1)))] ?_
  refine bH ?_
  obtain rfl := oI h0
  exact aI (Q_r hO)

theorem BQ (r0 : (List aC)) (r : Bool) (h0 : rT r0 = some r) : dH Try.prog 76 [(eL aK r0)] (aF r) := by
  intro H0
  refine dD Try.func76 ?_
  have hO := aL.start H0
  unfold rT at h0
  refine aU aD 1 [] [] ?_
  refine aO ?_
  refine aU aD 3 [] [(5, (aF (decide ((8 : Int) < (lN r0)))))] ?_
  refine bM h0 (fun h0 => ?_) (fun h0 => ?_)
  · refine cH aD 1 [(2, (aF false))] ?_
    refine bH ?_
    obtain rfl := oI h0
    exact aI (aT (Q_r hO))
  refine bL ?_
  refine bG [(0, (eL aK r0))] ?_
  refine aO ?_
  refine aV aD 4 ?_
  refine bO 1 ?_
  obtain ⟨x2, hx3, h0⟩ := aY h0
  refine dO (qQ r0 98 [] [] (fun y0 => sZ y0) (fun y0 r h => NF y0 r h) _ hx3) hO ?_
  intro H hO
  refine bD ?_
  refine bG [(2, (aF (!x2)))] ?_
  refine bH ?_
  obtain rfl := oI h0
  exact aI (Q_r hO)

theorem GP (t0 : (List aC)) (r : (Int × (List aC))) (h0 : rH t0 = some r) : tJ Try.prog 101 [(.rp (eL aK t0))] (fun lo => (.fn (.func 102) [] [(.lp lo 0 0), (.rp (eL aK r.2))])) 1 [(eI r.1)] := by
  intro H0
  refine dD Try.func101 ?_
  have hO := aL.start H0
  unfold rH at h0
  refine aU aD 1 [] [] ?_
  refine aO ?_
  refine aV aD 2 ?_
  refine oV 1 (eI 0) (by kernel_rfl) (by kernel_rfl) hO ?_
  intro lo1 H hO
  refine lO 0 lo1 1 0 (eI 0) (eI (-1 : Int)) [(eI 0)] [(lo1, 1, [(eI (-1 : Int))])] hO rfl (by kernel_rfl) ?_
  intro H hO
  refine fI ?_
  refine bS [] [(2, (.lp lo1 0 0))] ?_
  refine aU aD 2 [0] [(1, (.fn (.func 102) [] [(.lp lo1 0 0), (.rp (eL aK t0))]))] ?_
  refine bH ?_
  obtain rfl := oI h0
  exact aI (jZ (x := (.fn (.func 102) [] [(.lp lo1 0 0), (.rp (eL aK t0))])) (by kernel_rfl) (aN.refl _) ⟨lo1, rfl, hO⟩)

theorem rD {σ : Type} (I : σ → Gs → Prop) (s0 : (List aC)) (f1_v : V) (f1 : σ → aC → Option (σ × Bool)) (f1_h : ∀ st a0 st2 r, f1 st a0 = some (st2, r) → CQ Try.prog f1_v I st [(aK a0)] st2 (aF r)) (sg0 : σ) (r : (σ × Int)) (h0 : gS s0 f1 sg0 = some r) : wP Try.prog 100 I sg0 [(eL aK s0), f1_v] r.1 (eI r.2) := by
  intro H0 G0 hI hg
  refine dD Try.func100 ?_
  obtain ⟨G, hO, hI⟩ : ∃ G, aL ⟨H0, List.map (fun p : Nat × dL => p.1) G0, G⟩ H0 [] ∧ I sg0 G := ⟨G0, aL.FV hg, hI⟩
  clear hg
  unfold gS at h0
  refine aU aD 1 [] [] ?_
  refine gM (fun T H => ∃ sg : σ, ∃ G : Gs, Has T [] ∧ aL ⟨H0, List.map (fun p : Nat × dL => p.1) G0, G⟩ H [] ∧ I sg G ∧ eN f1 sg = some r) ?_ ?_
  · clear hO hI h0
    rintro T H ⟨sg, G, hT, hO, hI, h0⟩
    refine bF hT ?_
    clear hT
    unfold eN at h0
    refine cH aD 1 [(4, (eI (-1 : Int)))] ?_
    refine bH ?_
    obtain rfl := oI h0
    exact aI (jZ (x := (eI (-1 : Int))) (by kernel_rfl) (aN.refl _) ⟨rfl, G, hI, hO.EH⟩)
  refine aU aD 3 [] [(7, (eI (lN s0))), (8, (eI (0 : Int)))] ?_
  refine cG 0 ?_
  refine fW [(0, (eL aK s0)), (1, f1_v), (7, (eI (lN s0))), (8, (eI (0 : Int)))] ?_
  refine eS (fun T H => ∃ sg : σ, ∃ t7 : Int, ∃ t8 : Int, ∃ G : Gs, Has T [(0, (eL aK s0)), (1, f1_v), (7, (eI t7)), (8, (eI t8))] ∧ aL ⟨H0, List.map (fun p : Nat × dL => p.1) G0, G⟩ H [] ∧ I sg G ∧ gL f1 sg s0 t7 t8 = some r) ?_ ⟨sg0, (lN s0), (0 : Int), G, .eq (by kernel_rfl), hO, hI, h0⟩
  clear hO hI h0
  rintro T H ⟨sg, t7, t8, G, hT, hO, hI, h0⟩
  refine bF hT ?_
  clear hT
  unfold gL at h0
  obtain ⟨rr0, hl0, h0⟩ := aY h0
  refine dF (by kernel_rfl) (fun (s : σ × Int) T H => ∃ G : Gs, Has T [(0, (eL aK s0)), (1, f1_v), (7, (eI t7)), (8, (eI s.2))] ∧ aL ⟨H0, List.map (fun p : Nat × dL => p.1) G0, G⟩ H [] ∧ I s.1 G) hl0 ⟨G, .eq (by kernel_rfl), hO, hI⟩ ?_
  clear hO hI
  rintro k0 s out1 T H ⟨G, hT, hO, hI⟩ h1 ho0
  obtain ⟨sg, t8⟩ := s
  replace h1 : cB f1 s0 t7 sg t8 = some out1 := h1
  try dsimp only at hT
  refine bF hT ?_
  clear hT
  unfold cB at h1
  refine aU aD 1 [] [(9, (aF (decide (t8 < t7))))] ?_
  refine aO ?_
  refine bM h1 (fun h1 => ?_) (fun h1 => ?_)
  · refine bL ?_
    refine bG [(0, (eL aK s0)), (1, f1_v), (7, (eI t7)), (8, (eI t8))] ?_
    refine aO ?_
    refine cG 1 ?_
    refine aU aD 2 [] [(5, (eI t8))] ?_
    refine aO ?_
    refine aV aD 6 ?_
    obtain ⟨c2, h1⟩ := aW h1
    refine uB 5 [0 ≤ t8 ∧ t8 < (lN s0)] ⟨c2, trivial⟩ ?_
    obtain ⟨x3, hx4, h1⟩ := aY h1
    refine OY (I := I) f1_v [(aK (gD s0 t8))] (aF x3.2) (by kernel_rfl) (by kernel_rfl) (f1_h _ (gD s0 t8) x3.1 x3.2 hx4) hO hI ?_
    intro G H hO hI
    refine fI ?_
    refine bS [] [(16, (aF x3.2))] ?_
    refine bM h1 (fun h1 => ?_) (fun h1 => ?_)
    · refine cH aD 2 [(4, (eI t8))] ?_
      refine bH ?_
      obtain rfl := oI h1
      obtain rfl : _ = rr0 := ho0
      replace h0 : some (x3.1, t8) = some r := h0
      obtain rfl := oI h0
      exact aI (bN (aT (aT (bN (aT (jZ (x := (eI t8)) (by kernel_rfl) (aN.refl _) ⟨rfl, G, hI, hO.EH⟩))))))
    refine bL ?_
    refine fV [(0, (eL aK s0)), (1, f1_v), (7, (eI t7)), (8, (eI t8))] ?_
    refine aI (aZ (aH (?_)))
    refine aV aD 2 ?_
    refine bD ?_
    exact aI (aH (⟨rfl, _, (oI h1).symm, _, .eq (by kernel_rfl), hO, hI⟩))
  refine gZ 0 ?_
  obtain rfl := oI h1
  obtain rfl : _ = rr0 := ho0
  replace h0 : eN f1 sg = some r := h0
  exact aI (aX (aX (bX (aH (⟨rfl, _, _, .eq (by kernel_rfl), hO, hI, h0⟩)))))

theorem CU (v0 : aC) (lo1p : Nat) (t1 : Int) (t2 : (List aC)) (r : (Bool × Int)) (h0 : jK v0 t1 t2 = some r) : mP Try.prog 102 lo1p 1 [(eI t1)] [(eI r.2)] [(aK v0), (.lp lo1p 0 0), (.rp (eL aK t2))] (aF r.1) := by
  intro H0 hl0
  refine dD Try.func102 ?_
  have hO := aL.pI hl0
  clear hl0
  unfold jK at h0
  refine aO ?_
  refine aV aD 2 ?_
  refine qM 3 (aK v0) (by kernel_rfl) (by kernel_rfl) ?_
  refine bD ?_
  refine bS [0] [(3, (.rp (aK v0)))] ?_
  refine aO ?_
  refine aV aD 3 ?_
  refine nR 0 lo1p 1 0 (eI t1) (eI t1) [(eI t1)] hO rfl ?_
  refine bO 2 ?_
  refine lO 0 lo1p 1 0 (eI t1) (eI (wR (t1 + (1 : Int)))) [(eI t1)] [(lo1p, 1, [(eI (wR (t1 + (1 : Int))))])] hO rfl (by kernel_rfl) ?_
  intro H hO
  refine fI ?_
  refine bS [] [] ?_
  refine aO ?_
  refine fG (fH [7, 8, 11]) aD 7 ?_
  refine lK 2 ?_
  refine fE 0 lo1p 1 0 (eI (wR (t1 + (1 : Int)))) (eI (wR (t1 + (1 : Int)))) [(eI (wR (t1 + (1 : Int))))] hO rfl ?_
  obtain ⟨c1, h0⟩ := aW h0
  refine JT (Ds := [0 ≤ (wR (t1 + (1 : Int))) ∧ (wR (t1 + (1 : Int))) < (lN t2)]) (by kernel_rfl) ⟨c1, trivial⟩ ?_
  refine bG [(1, (.lp lo1p 0 0)), (4, (aF (!((decide (v0.Kind = ((gD t2 (wR (t1 + (1 : Int)))).Kind))) && ((decide (v0.Num = ((gD t2 (wR (t1 + (1 : Int)))).Num))) && ((nH v0.Text ((gD t2 (wR (t1 + (1 : Int)))).Text)) && true))))))] ?_
  refine bH ?_
  obtain rfl := oI h0
  exact aI (jZ (x := (aF (!((decide (v0.Kind = ((gD t2 (wR (t1 + (1 : Int)))).Kind))) && ((decide (v0.Num = ((gD t2 (wR (t1 + (1 : Int)))).Num))) && ((nH v0.Text ((gD t2 (wR (t1 + (1 : Int)))).Text)) && true)))))) (by kernel_rfl) (aN.refl _) ⟨rfl, hO.ext, hO.at 0 (by kernel_rfl), rfl⟩)

theorem rK (x0 : Int) (r : Bool) (h0 : jM x0 = some r) : dH Try.prog 95 [(eI x0)] (aF r) := by
  intro H0
  refine dD Try.func95 ?_
  have hO := aL.start H0
  unfold jM at h0
  refine aU aD 1 [] [] ?_
  refine cH aD 4 [(2, (aF (!decide (x0 = x0))))] ?_
  refine bH ?_
  obtain rfl := oI h0
  exact aI (Q_r hO)

theorem CX (x0 : Int) (y1 : Int) (r : Int) (h0 : nD x0 y1 = some r) : dH Try.prog 103 [(eI x0), (eI y1)] (eI r) := by
  intro H0
  refine dD Try.func103 ?_
  have hO := aL.start H0
  unfold nD at h0
  refine aU aD 1 [] [] ?_
  refine aO ?_
  refine aV aD 3 ?_
  refine bO 1 ?_
  obtain ⟨x1, hx2, h0⟩ := aY h0
  refine dO (rK x0 _ hx2) hO ?_
  intro H hO
  refine bD ?_
  refine bS [] [(5, (aF x1))] ?_
  refine aO ?_
  refine aV aD 3 ?_
  refine bO 1 ?_
  obtain ⟨x4, hx5, h0⟩ := aY h0
  refine dO (rK y1 _ hx5) hO ?_
  intro H hO
  refine bD ?_
  refine bS [] [(6, (aF x4))] ?_
  refine aO ?_
  refine aU aD 1 [5] [(11, (aF x1))] ?_
  refine bM h0 (fun h0 => ?_) (fun h0 => ?_)
  · refine aO ?_
    refine cH aD 1 [(12, (aF x4))] ?_
    refine bM h0 (fun h0 => ?_) (fun h0 => ?_)
    · refine cH aD 1 [(4, (eI (0 : Int)))] ?_
      refine bH ?_
      obtain rfl := oI h0
      exact aI (aT (aT (Q_r hO)))
    refine bL ?_
    refine bG [] ?_
    refine cH aD 1 [(4, (eI (-1 : Int)))] ?_
    refine bH ?_
    obtain rfl := oI h0
    exact aI (aT (Q_r hO))
  refine bL ?_
  refine bG [(0, (eI x0)), (1, (eI y1)), (6, (aF x4))] ?_
  refine aO ?_
  refine aU aD 1 [6] [(13, (aF x4))] ?_
  refine bM h0 (fun h0 => ?_) (fun h0 => ?_)
  · refine cH aD 1 [(4, (eI (1 : Int)))] ?_
    refine bH ?_
    obtain rfl := oI h0
    exact aI (aT (Q_r hO))
  refine bL ?_
  refine bG [(0, (eI x0)), (1, (eI y1))] ?_
  refine aO ?_
  refine aU aD 3 [] [(16, (aF (decide (x0 < y1))))] ?_
  refine bM h0 (fun h0 => ?_) (fun h0 => ?_)
  · refine cH aD 1 [(4, (eI (-1 : Int)))] ?_
    refine bH ?_
    obtain rfl := oI h0
    exact aI (aT (Q_r hO))
  refine bL ?_
  refine bG [(0, (eI x0)), (1, (eI y1))] ?_
  refine aO ?_
  refine cH aD 3 [(19, (aF (decide (y1 < x0))))] ?_
  refine bM h0 (fun h0 => ?_) (fun h0 => ?_)
  · refine cH aD 1 [(4, (eI (1 : Int)))] ?_
    refine bH ?_
    obtain rfl := oI h0
    exact aI (aT (Q_r hO))
  refine bL ?_
  refine bG [] ?_
  refine cH aD 1 [(4, (eI (0 : Int)))] ?_
  refine bH ?_
  obtain rfl := oI h0
  exact aI (Q_r hO)

theorem rQ (x0 : Int) (r : Bool) (h0 : kE x0 = some r) : dH Try.prog 114 [(eI x0)] (aF r) := by
  intro H0
  refine dD Try.func114 ?_
  have hO := aL.start H0
  unfold kE at h0
  refine aU aD 1 [] [] ?_
  refine cH aD 4 [(2, (aF (!decide (x0 = x0))))] ?_
  refine bH ?_
  obtain rfl := oI h0
  exact aI (Q_r hO)

theorem wH (x0 : Int) (y1 : Int) (r : Int) (h0 : fO x0 y1 = some r) : dH Try.prog 111 [(eI x0), (eI y1)] (eI r) := by
  intro H0
  refine dD Try.func111 ?_
  have hO := aL.start H0
  unfold fO at h0
  refine aU aD 1 [] [] ?_
  refine aO ?_
  refine aV aD 3 ?_
  refine bO 1 ?_
  obtain ⟨x1, hx2, h0⟩ := aY h0
  refine dO (rQ x0 _ hx2) hO ?_
  intro H hO
  refine bD ?_
  refine bS [] [(5, (aF x1))] ?_
  refine aO ?_
  refine aV aD 3 ?_
  refine bO 1 ?_
  obtain ⟨x4, hx5, h0⟩ := aY h0
  refine dO (rQ y1 _ hx5) hO ?_
  intro H hO
  refine bD ?_
  refine bS [] [(6, (aF x4))] ?_
  refine aO ?_
  refine aU aD 1 [5] [(11, (aF x1))] ?_
  refine bM h0 (fun h0 => ?_) (fun h0 => ?_)
  · refine aO ?_
    refine cH aD 1 [(12, (aF x4))] ?_
    refine bM h0 (fun h0 => ?_) (fun h0 => ?_)
    · refine cH aD 1 [(4, (eI (0 : Int)))] ?_
      refine bH ?_
      obtain rfl := oI h0
      exact aI (aT (aT (Q_r hO)))
    refine bL ?_
    refine bG [] ?_
    refine cH aD 1 [(4, (eI (-1 : Int)))] ?_
    refine bH ?_
    obtain rfl := oI h0
    exact aI (aT (Q_r hO))
  refine bL ?_
  refine bG [(0, (eI x0)), (1, (eI y1)), (6, (aF x4))] ?_
  refine aO ?_
  refine aU aD 1 [6] [(13, (aF x4))] ?_
  refine bM h0 (fun h0 => ?_) (fun h0 => ?_)
  · refine cH aD 1 [(4, (eI (1 : Int)))] ?_
    refine bH ?_
    obtain rfl := oI h0
    exact aI (aT (Q_r hO))
  refine bL ?_
  refine bG [(0, (eI x0)), (1, (eI y1))] ?_
  refine aO ?_
  refine aU aD 3 [] [(16, (aF (decide (x0 < y1))))] ?_
  refine bM h0 (fun h0 => ?_) (fun h0 => ?_)
  · refine cH aD 1 [(4, (eI (-1 : Int)))] ?_
    refine bH ?_
    obtain rfl := oI h0
    exact aI (aT (Q_r hO))
  refine bL ?_
  refine bG [(0, (eI x0)), (1, (eI y1))] ?_
  refine aO ?_
  refine cH aD 3 [(19, (aF (decide (y1 < x0))))] ?_
  refine bM h0 (fun h0 => ?_) (fun h0 => ?_)
  · refine cH aD 1 [(4, (eI (1 : Int)))] ?_
    refine bH ?_
    obtain rfl := oI h0
    exact aI (aT (Q_r hO))
  refine bL ?_
  refine bG [] ?_
  refine cH aD 1 [(4, (eI (0 : Int)))] ?_
  refine bH ?_
  obtain rfl := oI h0
  exact aI (Q_r hO)

theorem tP (a0 : ByteArray) (b1 : ByteArray) (r : Int) (h0 : jD a0 b1 = some r) : dH Try.prog 115 [(uX a0), (uX b1)] (eI r) := by
  intro H0
  refine dD Try.func115 ?_
  have hO := aL.start H0
  unfold jD at h0
  refine aU aD 1 [] [] ?_
  refine aO ?_
  refine aV aD 4 ?_
  refine bO 2 ?_
  refine XJ 116 [(uX a0), (uX b1)] (eI (GY a0 b1)) (by kernel_rfl) (by kernel_rfl) (UU Try.func116 (by kernel_rfl) (by kernel_rfl) (by kernel_rfl) (by kernel_rfl) a0 b1) hO ?_
  intro H hO
  refine bD ?_
  refine bG [(4, (eI (GY a0 b1)))] ?_
  refine bH ?_
  obtain rfl := oI h0
  exact aI (Q_r hO)

theorem CW (a0 : ByteArray) (b1 : ByteArray) (r : Int) (h0 : lS a0 b1 = some r) : dH Try.prog 112 [(uX a0), (uX b1)] (eI r) := by
  intro H0
  refine dD Try.func112 ?_
  have hO := aL.start H0
  unfold lS at h0
  refine aU aD 1 [] [] ?_
  refine aO ?_
  refine aV aD 4 ?_
  refine bO 2 ?_
  obtain ⟨x1, hx2, h0⟩ := aY h0
  refine dO (tP a0 b1 _ hx2) hO ?_
  intro H hO
  refine bD ?_
  refine bG [(4, (eI x1))] ?_
  refine bH ?_
  obtain rfl := oI h0
  exact aI (Q_r hO)

theorem GN (a0 : aC) (b1 : aC) (r : Int) (h0 : oP a0 b1 = some r) : dH Try.prog 104 [(aK a0), (aK b1)] (eI r) := by
  intro H0
  refine dD Try.func104 ?_
  have hO := aL.start H0
  unfold oP at h0
  refine aO ?_
  refine aV aD 3 ?_
  refine qM 3 (aK a0) (by kernel_rfl) (by kernel_rfl) ?_
  refine qM 3 (aK b1) (by kernel_rfl) (by kernel_rfl) ?_
  refine bD ?_
  refine bG [(2, (.rp (aK a0))), (3, (.rp (aK b1)))] ?_
  refine aO ?_
  refine aV aD 7 ?_
  refine bO 1 ?_
  obtain ⟨⟨x1_0, x1_1⟩, hx2, h0⟩ := aY h0
  refine dO (uQ a0 _ hx2) hO ?_
  intro H hO
  rcases x1_0 with _ | y4 | y5
  · replace h0 : ((kY b1).bind fun (x6_0, x6_1) => match x6_0 with | .none_ => (cond ((!x1_1) || (!x6_1)) (some (0 : Int)) (none)) | .k_number y9 => (cond ((!x1_1) || (!x6_1)) (some (0 : Int)) (some (1 : Int))) | .k_words y10 => (cond ((!x1_1) || (!x6_1)) (some (0 : Int)) (none))) = some r := h0
    refine bD ?_
    refine bS [2] [(5, (bB bE.none_)), (6, (aF x1_1))] ?_
    refine aO ?_
    refine aV aD 7 ?_
    refine bO 1 ?_
    obtain ⟨⟨x6_0, x6_1⟩, hx7, h0⟩ := aY h0
    refine dO (uQ b1 _ hx7) hO ?_
    intro H hO
    rcases x6_0 with _ | y9 | y10
    · replace h0 : (cond ((!x1_1) || (!x6_1)) (some (0 : Int)) (none)) = some r := h0
      refine bD ?_
      refine bS [3] [(7, (bB bE.none_)), (8, (aF x6_1))] ?_
      refine aO ?_
      refine aU aD 6 [6, 8] [(28, (aF ((!x1_1) || (!x6_1))))] ?_
      refine bM h0 (fun h0 => ?_) (fun h0 => ?_)
      · refine cH aD 1 [(4, (eI (0 : Int)))] ?_
        refine bH ?_
        obtain rfl := oI h0
        exact aI (aT (Q_r hO))
      refine bL ?_
      refine bG [(5, (bB bE.none_)), (7, (bB bE.none_))] ?_
      refine aU aD 7 [] [(9, (eI 0)), (10, (aF false))] ?_
      refine aU aD 7 [] [(11, (eI 0)), (12, (aF false))] ?_
      refine aO ?_
      refine cG 0 ?_
      refine aU aD 5 [] [(39, (aF false))] ?_
      refine mR (false) (fun hc12 => ?_) (fun hc12 => ?_)
      · cases hc12
      · refine aU aD 2 [9, 10, 11, 39] [(47, (aF false))] ?_
        refine mR (false) (fun hc13 => ?_) (fun hc13 => ?_)
        · cases hc13
        · refine cH aD 2 [(5, (bB bE.none_)), (7, (bB bE.none_)), (49, (aF false))] ?_
          refine mR (false) (fun hc14 => ?_) (fun hc14 => ?_)
          · cases hc14
          · refine bL ?_
            refine fV [(5, (bB bE.none_)), (7, (bB bE.none_))] ?_
            refine aI (aZ (aH (?_)))
            refine aO ?_
            refine fG (fH []) aD 6 ?_
            cases h0
    · replace h0 : (cond ((!x1_1) || (!x6_1)) (some (0 : Int)) (some (1 : Int))) = some r := h0
      refine bD ?_
      refine bS [3] [(7, (bB (bE.k_number y9))), (8, (aF x6_1))] ?_
      refine aO ?_
      refine aU aD 6 [6, 8] [(28, (aF ((!x1_1) || (!x6_1))))] ?_
      refine bM h0 (fun h0 => ?_) (fun h0 => ?_)
      · refine cH aD 1 [(4, (eI (0 : Int)))] ?_
        refine bH ?_
        obtain rfl := oI h0
        exact aI (aT (Q_r hO))
      refine bL ?_
      refine bG [(5, (bB bE.none_)), (7, (bB (bE.k_number y9)))] ?_
      refine aU aD 7 [] [(9, (eI 0)), (10, (aF false))] ?_
      refine aU aD 7 [] [(11, (eI y9)), (12, (aF true))] ?_
      refine aO ?_
      refine cG 0 ?_
      refine aU aD 5 [] [(39, (aF false))] ?_
      refine mR (false) (fun hc16 => ?_) (fun hc16 => ?_)
      · cases hc16
      · refine aU aD 2 [9, 10, 11, 39] [(47, (aF false))] ?_
        refine mR (false) (fun hc17 => ?_) (fun hc17 => ?_)
        · cases hc17
        · refine cH aD 2 [(5, (bB bE.none_)), (7, (bB (bE.k_number y9))), (49, (aF true))] ?_
          refine mR (true) (fun hc18 => ?_) (fun hc18 => ?_)
          · refine cH aD 1 [(4, (eI (1 : Int)))] ?_
            refine bH ?_
            obtain rfl := oI h0
            exact aI (bN (aT (Q_r hO)))
          · cases hc18
    · replace h0 : (cond ((!x1_1) || (!x6_1)) (some (0 : Int)) (none)) = some r := h0
      refine bD ?_
      refine bS [3] [(7, (bB (bE.k_words y10))), (8, (aF x6_1))] ?_
      refine aO ?_
      refine aU aD 6 [6, 8] [(28, (aF ((!x1_1) || (!x6_1))))] ?_
      refine bM h0 (fun h0 => ?_) (fun h0 => ?_)
      · refine cH aD 1 [(4, (eI (0 : Int)))] ?_
        refine bH ?_
        obtain rfl := oI h0
        exact aI (aT (Q_r hO))
      refine bL ?_
      refine bG [(5, (bB bE.none_)), (7, (bB (bE.k_words y10)))] ?_
      refine aU aD 7 [] [(9, (eI 0)), (10, (aF false))] ?_
      refine aU aD 7 [] [(11, (eI 0)), (12, (aF false))] ?_
      refine aO ?_
      refine cG 0 ?_
      refine aU aD 5 [] [(39, (aF false))] ?_
      refine mR (false) (fun hc20 => ?_) (fun hc20 => ?_)
      · cases hc20
      · refine aU aD 2 [9, 10, 11, 39] [(47, (aF false))] ?_
        refine mR (false) (fun hc21 => ?_) (fun hc21 => ?_)
        · cases hc21
        · refine cH aD 2 [(5, (bB bE.none_)), (7, (bB (bE.k_words y10))), (49, (aF false))] ?_
          refine mR (false) (fun hc22 => ?_) (fun hc22 => ?_)
          · cases hc22
          · refine bL ?_
            refine fV [(5, (bB bE.none_)), (7, (bB (bE.k_words y10)))] ?_
            refine aI (aZ (aH (?_)))
            refine aO ?_
            refine fG (fH []) aD 6 ?_
            cases h0
  · replace h0 : ((kY b1).bind fun (x23_0, x23_1) => match x23_0 with | .none_ => (cond ((!x1_1) || (!x23_1)) (some (0 : Int)) (some (-1 : Int))) | .k_number y26 => (cond ((!x1_1) || (!x23_1)) (some (0 : Int)) ((fO y4 y26).bind fun x33 => some x33)) | .k_words y27 => (cond ((!x1_1) || (!x23_1)) (some (0 : Int)) (some (-1 : Int)))) = some r := h0
    refine bD ?_
    refine bS [2] [(5, (bB (bE.k_number y4))), (6, (aF x1_1))] ?_
    refine aO ?_
    refine aV aD 7 ?_
    refine bO 1 ?_
    obtain ⟨⟨x23_0, x23_1⟩, hx24, h0⟩ := aY h0
    refine dO (uQ b1 _ hx24) hO ?_
    intro H hO
    rcases x23_0 with _ | y26 | y27
    · replace h0 : (cond ((!x1_1) || (!x23_1)) (some (0 : Int)) (some (-1 : Int))) = some r := h0
      refine bD ?_
      refine bS [3] [(7, (bB bE.none_)), (8, (aF x23_1))] ?_
      refine aO ?_
      refine aU aD 6 [6, 8] [(28, (aF ((!x1_1) || (!x23_1))))] ?_
      refine bM h0 (fun h0 => ?_) (fun h0 => ?_)
      · refine cH aD 1 [(4, (eI (0 : Int)))] ?_
        refine bH ?_
        obtain rfl := oI h0
        exact aI (aT (Q_r hO))
      refine bL ?_
      refine bG [(5, (bB (bE.k_number y4))), (7, (bB bE.none_))] ?_
      refine aU aD 7 [] [(9, (eI y4)), (10, (aF true))] ?_
      refine aU aD 7 [] [(11, (eI 0)), (12, (aF false))] ?_
      refine aO ?_
      refine cG 0 ?_
      refine aU aD 5 [] [(39, (aF false))] ?_
      refine mR (false) (fun hc29 => ?_) (fun hc29 => ?_)
      · cases hc29
      · refine aU aD 2 [9, 10, 11, 39] [(47, (aF true))] ?_
        refine mR (true) (fun hc30 => ?_) (fun hc30 => ?_)
        · refine cH aD 1 [(4, (eI (-1 : Int)))] ?_
          refine bH ?_
          obtain rfl := oI h0
          exact aI (bN (aT (Q_r hO)))
        · cases hc30
    · replace h0 : (cond ((!x1_1) || (!x23_1)) (some (0 : Int)) ((fO y4 y26).bind fun x33 => some x33)) = some r := h0
      refine bD ?_
      refine bS [3] [(7, (bB (bE.k_number y26))), (8, (aF x23_1))] ?_
      refine aO ?_
      refine aU aD 6 [6, 8] [(28, (aF ((!x1_1) || (!x23_1))))] ?_
      refine bM h0 (fun h0 => ?_) (fun h0 => ?_)
      · refine cH aD 1 [(4, (eI (0 : Int)))] ?_
        refine bH ?_
        obtain rfl := oI h0
        exact aI (aT (Q_r hO))
      refine bL ?_
      refine bG [(5, (bB (bE.k_number y4))), (7, (bB (bE.k_number y26)))] ?_
      refine aU aD 7 [] [(9, (eI y4)), (10, (aF true))] ?_
      refine aU aD 7 [] [(11, (eI y26)), (12, (aF true))] ?_
      refine aO ?_
      refine cG 0 ?_
      refine aU aD 5 [] [(39, (aF true))] ?_
      refine mR (true) (fun hc32 => ?_) (fun hc32 => ?_)
      · refine aO ?_
        refine aV aD 4 ?_
        refine bO 2 ?_
        obtain ⟨x33, hx34, h0⟩ := aY h0
        refine dO (wH y4 y26 _ hx34) hO ?_
        intro H hO
        refine bD ?_
        refine bG [(4, (eI x33))] ?_
        refine bH ?_
        obtain rfl := oI h0
        exact aI (bN (aT (Q_r hO)))
      · cases hc32
    · replace h0 : (cond ((!x1_1) || (!x23_1)) (some (0 : Int)) (some (-1 : Int))) = some r := h0
      refine bD ?_
      refine bS [3] [(7, (bB (bE.k_words y27))), (8, (aF x23_1))] ?_
      refine aO ?_
      refine aU aD 6 [6, 8] [(28, (aF ((!x1_1) || (!x23_1))))] ?_
      refine bM h0 (fun h0 => ?_) (fun h0 => ?_)
      · refine cH aD 1 [(4, (eI (0 : Int)))] ?_
        refine bH ?_
        obtain rfl := oI h0
        exact aI (aT (Q_r hO))
      refine bL ?_
      refine bG [(5, (bB (bE.k_number y4))), (7, (bB (bE.k_words y27)))] ?_
      refine aU aD 7 [] [(9, (eI y4)), (10, (aF true))] ?_
      refine aU aD 7 [] [(11, (eI 0)), (12, (aF false))] ?_
      refine aO ?_
      refine cG 0 ?_
      refine aU aD 5 [] [(39, (aF false))] ?_
      refine mR (false) (fun hc37 => ?_) (fun hc37 => ?_)
      · cases hc37
      · refine aU aD 2 [9, 10, 11, 39] [(47, (aF true))] ?_
        refine mR (true) (fun hc38 => ?_) (fun hc38 => ?_)
        · refine cH aD 1 [(4, (eI (-1 : Int)))] ?_
          refine bH ?_
          obtain rfl := oI h0
          exact aI (bN (aT (Q_r hO)))
        · cases hc38
  · replace h0 : ((kY b1).bind fun (x39_0, x39_1) => match x39_0 with | .none_ => (cond ((!x1_1) || (!x39_1)) (some (0 : Int)) (none)) | .k_number y42 => (cond ((!x1_1) || (!x39_1)) (some (0 : Int)) (some (1 : Int))) | .k_words y43 => (cond ((!x1_1) || (!x39_1)) (some (0 : Int)) ((lS y5 y43).bind fun x56 => some x56))) = some r := h0
    refine bD ?_
    refine bS [2] [(5, (bB (bE.k_words y5))), (6, (aF x1_1))] ?_
    refine aO ?_
    refine aV aD 7 ?_
    refine bO 1 ?_
    obtain ⟨⟨x39_0, x39_1⟩, hx40, h0⟩ := aY h0
    refine dO (uQ b1 _ hx40) hO ?_
    intro H hO
    rcases x39_0 with _ | y42 | y43
    · replace h0 : (cond ((!x1_1) || (!x39_1)) (some (0 : Int)) (none)) = some r := h0
      refine bD ?_
      refine bS [3] [(7, (bB bE.none_)), (8, (aF x39_1))] ?_
      refine aO ?_
      refine aU aD 6 [6, 8] [(28, (aF ((!x1_1) || (!x39_1))))] ?_
      refine bM h0 (fun h0 => ?_) (fun h0 => ?_)
      · refine cH aD 1 [(4, (eI (0 : Int)))] ?_
        refine bH ?_
        obtain rfl := oI h0
        exact aI (aT (Q_r hO))
      refine bL ?_
      refine bG [(5, (bB (bE.k_words y5))), (7, (bB bE.none_))] ?_
      refine aU aD 7 [] [(9, (eI 0)), (10, (aF false))] ?_
      refine aU aD 7 [] [(11, (eI 0)), (12, (aF false))] ?_
      refine aO ?_
      refine cG 0 ?_
      refine aU aD 5 [] [(39, (aF false))] ?_
      refine mR (false) (fun hc45 => ?_) (fun hc45 => ?_)
      · cases hc45
      · refine aU aD 2 [9, 10, 11, 39] [(47, (aF false))] ?_
        refine mR (false) (fun hc46 => ?_) (fun hc46 => ?_)
        · cases hc46
        · refine cH aD 2 [(5, (bB (bE.k_words y5))), (7, (bB bE.none_)), (49, (aF false))] ?_
          refine mR (false) (fun hc47 => ?_) (fun hc47 => ?_)
          · cases hc47
          · refine bL ?_
            refine fV [(5, (bB (bE.k_words y5))), (7, (bB bE.none_))] ?_
            refine aI (aZ (aH (?_)))
            refine aO ?_
            refine fG (fH []) aD 6 ?_
            cases h0
    · replace h0 : (cond ((!x1_1) || (!x39_1)) (some (0 : Int)) (some (1 : Int))) = some r := h0
      refine bD ?_
      refine bS [3] [(7, (bB (bE.k_number y42))), (8, (aF x39_1))] ?_
      refine aO ?_
      refine aU aD 6 [6, 8] [(28, (aF ((!x1_1) || (!x39_1))))] ?_
      refine bM h0 (fun h0 => ?_) (fun h0 => ?_)
      · refine cH aD 1 [(4, (eI (0 : Int)))] ?_
        refine bH ?_
        obtain rfl := oI h0
        exact aI (aT (Q_r hO))
      refine bL ?_
      refine bG [(5, (bB (bE.k_words y5))), (7, (bB (bE.k_number y42)))] ?_
      refine aU aD 7 [] [(9, (eI 0)), (10, (aF false))] ?_
      refine aU aD 7 [] [(11, (eI y42)), (12, (aF true))] ?_
      refine aO ?_
      refine cG 0 ?_
      refine aU aD 5 [] [(39, (aF false))] ?_
      refine mR (false) (fun hc49 => ?_) (fun hc49 => ?_)
      · cases hc49
      · refine aU aD 2 [9, 10, 11, 39] [(47, (aF false))] ?_
        refine mR (false) (fun hc50 => ?_) (fun hc50 => ?_)
        · cases hc50
        · refine cH aD 2 [(5, (bB (bE.k_words y5))), (7, (bB (bE.k_number y42))), (49, (aF true))] ?_
          refine mR (true) (fun hc51 => ?_) (fun hc51 => ?_)
          · refine cH aD 1 [(4, (eI (1 : Int)))] ?_
            refine bH ?_
            obtain rfl := oI h0
            exact aI (bN (aT (Q_r hO)))
          · cases hc51
    · replace h0 : (cond ((!x1_1) || (!x39_1)) (some (0 : Int)) ((lS y5 y43).bind fun x56 => some x56)) = some r := h0
      refine bD ?_
      refine bS [3] [(7, (bB (bE.k_words y43))), (8, (aF x39_1))] ?_
      refine aO ?_
      refine aU aD 6 [6, 8] [(28, (aF ((!x1_1) || (!x39_1))))] ?_
      refine bM h0 (fun h0 => ?_) (fun h0 => ?_)
      · refine cH aD 1 [(4, (eI (0 : Int)))] ?_
        refine bH ?_
        obtain rfl := oI h0
        exact aI (aT (Q_r hO))
      refine bL ?_
      refine bG [(5, (bB (bE.k_words y5))), (7, (bB (bE.k_words y43)))] ?_
      refine aU aD 7 [] [(9, (eI 0)), (10, (aF false))] ?_
      refine aU aD 7 [] [(11, (eI 0)), (12, (aF false))] ?_
      refine aO ?_
      refine cG 0 ?_
      refine aU aD 5 [] [(39, (aF false))] ?_
      refine mR (false) (fun hc53 => ?_) (fun hc53 => ?_)
      · cases hc53
      · refine aU aD 2 [9, 10, 11, 39] [(47, (aF false))] ?_
        refine mR (false) (fun hc54 => ?_) (fun hc54 => ?_)
        · cases hc54
        · refine cH aD 2 [(5, (bB (bE.k_words y5))), (7, (bB (bE.k_words y43))), (49, (aF false))] ?_
          refine mR (false) (fun hc55 => ?_) (fun hc55 => ?_)
          · cases hc55
          · refine bL ?_
            refine fV [(5, (bB (bE.k_words y5))), (7, (bB (bE.k_words y43)))] ?_
            refine aI (aZ (aH (?_)))
            refine aO ?_
            refine fG (fH []) aD 6 ?_
            refine lK 4 ?_
            obtain ⟨x56, hx57, h0⟩ := aY h0
            refine DQ (CW y5 y43 _ hx57) hO ?_
            intro H hO
            refine jC ?_
            refine bG [(4, (eI x56))] ?_
            refine bH ?_
            obtain rfl := oI h0
            exact aI (Q_r hO)

theorem JP (a0 : (List aC)) (b1 : (List aC)) (r : Int) (h0 : qE a0 b1 = some r) : dH Try.prog 77 [(eL aK a0), (eL aK b1)] (eI r) := by
  intro H0
  refine dD Try.func77 ?_
  have hO := aL.start H0
  unfold qE at h0
  refine aO ?_
  refine aV aD 2 ?_
  refine qM 1 (eL aK b1) (by kernel_rfl) (by kernel_rfl) ?_
  refine bD ?_
  refine bS [1] [(3, (.rp (eL aK b1)))] ?_
  refine aO ?_
  refine aO ?_
  refine aV aD 8 ?_
  refine bO 1 ?_
  obtain ⟨x1, hx2, h0⟩ := aY h0
  refine dO (BQ a0 _ hx2) hO ?_
  intro H hO
  refine bO 5 ?_
  obtain ⟨x4, hx5, h0⟩ := aY h0
  refine mW [(10, false)] 76 [(eL aK b1)] (aF x4) (!(!x1)) (by kernel_rfl) (by kernel_rfl) (by kernel_rfl) (fun hb6 => (BQ b1 _ (iZ hx5 hb6))) hO ?_
  intro H hO
  refine bD ?_
  refine bS [] [(14, (aF ((!x1) || (!x4))))] ?_
  refine bM h0 (fun h0 => ?_) (fun h0 => ?_)
  · refine cH aD 1 [(4, (eI (0 : Int)))] ?_
    refine bH ?_
    obtain rfl := oI h0
    exact aI (aT (Q_r hO))
  refine bL ?_
  refine bG [(0, (eL aK a0)), (3, (.rp (eL aK b1)))] ?_
  refine aU aD 6 [] [(5, (eI (if (lN b1) < (lN a0) then (lN b1) else (lN a0))))] ?_
  refine aO ?_
  refine fG (fH []) aD 7 ?_
  obtain ⟨c8, h0⟩ := aW h0
  refine cA 4 [0 ≤ (if (lN b1) < (lN a0) then (lN b1) else (lN a0)) ∧ (if (lN b1) < (lN a0) then (lN b1) else (lN a0)) ≤ (lN a0)] ⟨c8, trivial⟩ ?_
  obtain ⟨x9, hx10, h0⟩ := aY h0
  refine XP (L' := fun lo11 => [(lo11, 1, [(eI x9.1)])]) 1 [(eI x9.1)] 101 [(.rp (eL aK b1))] (fun lo11 => (.fn (.func 102) [] [(.lp lo11 0 0), (.rp (eL aK x9.2))])) (by kernel_rfl) (by kernel_rfl) (GP b1 _ hx10) hO (fun _ => by kernel_rfl) ?_
  intro lo11 H hO
  obtain ⟨x12, hx13, h0⟩ := aY h0
  refine XM (fun st G' => G' = up [(lo11, 1, [(eI st)])] ++ []) [(lo11, 1, [(eI x12.1)])] x9.1 x12.1 100 [(.sl false (Int.toNat (if (lN b1) < (lN a0) then (lN b1) else (lN a0))) (fun i => aK (List.getD a0 i default))), (.fn (.func 102) [] [(.lp lo11 0 0), (.rp (eL aK x9.2))])] (eI x12.2) (by kernel_rfl) (by kernel_rfl) (wP.sub (as0' := [(eL aK (List.take (Int.toNat (if (lN b1) < (lN a0) then (lN b1) else (lN a0))) a0)), (.fn (.func 102) [] [(.lp lo11 0 0), (.rp (eL aK x9.2))])]) (rD _ (List.take (Int.toNat (if (lN b1) < (lN a0) then (lN b1) else (lN a0))) a0) (.fn (.func 102) [] [(.lp lo11 0 0), (.rp (eL aK x9.2))]) (fun st y0 => (jK y0 st x9.2).bind fun o => some (o.2, o.1)) (fun st y0 st2 rr hr => (CU y0 lo11 st x9.2 _ (aAm hr)).toV (ys := []) (zs := [(aK y0)]) (cs := [(.lp lo11 0 0), (.rp (eL aK x9.2))]) (fun Gx hG => ⟨up [], up [] ++ [], hG, rfl⟩)) _ _ hx13) ⟨OV (Int.toNat_le.2 (And.right c8)), aN.refl _, trivial⟩) hO rfl (fun _ h => h) ?_
  intro H hO
  refine jC ?_
  replace hO := hO.pick (L' := []) [] (by decide) (by kernel_rfl)
  refine bS [5] [(6, (eI x12.2))] ?_
  refine aO ?_
  refine aU aD 2 [] [(27, (aF (decide (x12.2 < (0 : Int)))))] ?_
  refine bM h0 (fun h0 => ?_) (fun h0 => ?_)
  · refine aO ?_
    refine aV aD 6 ?_
    refine bO 4 ?_
    obtain ⟨x15, hx16, h0⟩ := aY h0
    refine dO (CX (lN a0) (lN b1) _ hx16) hO ?_
    intro H hO
    refine bD ?_
    refine bG [(4, (eI x15))] ?_
    refine bH ?_
    obtain rfl := oI h0
    exact aI (aT (Q_r hO))
  refine bL ?_
  refine bG [(0, (eL aK a0)), (3, (.rp (eL aK b1))), (6, (eI x12.2))] ?_
  refine aO ?_
  refine fG (fH [36, 37, 40, 41]) aD 10 ?_
  obtain ⟨c18, h0⟩ := aW h0
  obtain ⟨c19, h0⟩ := aW h0
  refine cA 8 [0 ≤ x12.2 ∧ x12.2 < (lN a0), 0 ≤ x12.2 ∧ x12.2 < (lN b1)] ⟨c18, c19, trivial⟩ ?_
  obtain ⟨x20, hx21, h0⟩ := aY h0
  refine DQ (GN (gD a0 x12.2) (gD b1 x12.2) _ hx21) hO ?_
  intro H hO
  refine jC ?_
  refine bG [(4, (eI x20))] ?_
  refine bH ?_
  obtain rfl := oI h0
  exact aI (Q_r hO)

theorem DB (l0 : (List aE)) (holds1_f : Nat) (holds1_a holds1_c : List V) (rV : (List aB) → Option Bool) (holds1_h : ∀ a0 r, rV a0 = some r → dH Try.prog holds1_f (holds1_a ++ [(eL aP a0)] ++ holds1_c) (aF r)) (r : Bool) (h0 : qU l0 rV = some r) : dH Try.prog 56 [(eL aG l0), (.fn (.func holds1_f) holds1_a holds1_c)] (aF r) := by
  intro H0
  refine CL aD Try.func56 (by kernel_rfl) (by kernel_rfl) (by kernel_rfl) ?_
  have hO := aL.start H0
  unfold qU at h0
  refine aO ?_
  refine aV aD 2 ?_
  refine qM 1 (.fn (.func holds1_f) holds1_a holds1_c) (by kernel_rfl) (by kernel_rfl) ?_
  refine oV 1 (aF false) (by kernel_rfl) (by kernel_rfl) hO ?_
  intro lo1 H hO
  refine fI ?_
  refine bS [1] [(3, (.rp (.fn (.func holds1_f) holds1_a holds1_c))), (4, (.lp lo1 0 0))] ?_
  refine aO ?_
  refine aU aD 3 [] [(11, (aF (decide ((4096 : Int) < (lN l0)))))] ?_
  refine bM h0 (fun h0 => ?_) (fun h0 => ?_)
  · refine aO ?_
    refine aV aD 1 ?_
    refine lO 0 lo1 1 0 (aF false) (aF false) [(aF false)] [(lo1, 1, [(aF false)])] hO rfl (by kernel_rfl) ?_
    intro H hO
    refine fI ?_
    refine bG [(4, (.lp lo1 0 0))] ?_
    refine bH ?_
    obtain rfl := oI h0
    exact aI (aT (QM0 (.inr rfl) (rs := [.cell 4 4]) (xs := [(aF false)]) (x := (aF false)) (by kernel_rfl) (tU (lo := lo1) (k := 1) (y := (aF false)) (x := (aF false)) 0 hO (by kernel_rfl) (by kernel_rfl) (by kernel_rfl) (by kernel_rfl) xH) (by kernel_rfl) ⟨rfl, hO.out⟩))
  refine bL ?_
  refine bG [(0, (eL aG l0)), (3, (.rp (.fn (.func holds1_f) holds1_a holds1_c))), (4, (.lp lo1 0 0))] ?_
  refine aO ?_
  refine aV aD 1 ?_
  refine rY 1 (.sl true 0 (fun _ => .bad)) (eL aK ([])) (by kernel_rfl) (by kernel_rfl) (by kernel_rfl) (kR) (by kernel_rfl) (by kernel_rfl) hO ?_
  intro lo3 H hO
  refine fI ?_
  refine bS [] [(5, (.lp lo3 0 0))] ?_
  refine aO ?_
  refine aV aD 2 ?_
  refine oV 1 (aF false) (by kernel_rfl) (by kernel_rfl) hO ?_
  intro lo4 H hO
  refine lO 2 lo4 1 0 (aF false) (aF false) [(aF false)] [(lo1, 1, [(aF false)]), (lo3, 1, [(eL aK ([]))]), (lo4, 1, [(aF false)])] hO rfl (by kernel_rfl) ?_
  intro H hO
  refine fI ?_
  refine bS [] [(6, (.lp lo4 0 0))] ?_
  refine aO ?_
  refine aO ?_
  refine aV aD 2 ?_
  refine bO 1 ?_
  obtain ⟨x5, hx6, h0⟩ := aY h0
  refine dO (DA l0 _ hx6) hO ?_
  intro H hO
  refine fI ?_
  refine bS [0] [(13, (.fn (.func 91) [] [(.rp (eL aG x5))]))] ?_
  refine cG 0 ?_
  refine fW [(3, (.rp (.fn (.func holds1_f) holds1_a holds1_c))), (4, (.lp lo1 0 0)), (5, (.lp lo3 0 0)), (6, (.lp lo4 0 0)), (13, (.fn (.func 91) [] [(.rp (eL aG x5))]))] ?_
  refine eS (fun T H => ∃ t4 : Bool, ∃ nI : (List aC), ∃ jR : Bool, ∃ kJ : (List aE), Has T [(3, (.rp (.fn (.func holds1_f) holds1_a holds1_c))), (4, (.lp lo1 0 0)), (5, (.lp lo3 0 0)), (6, (.lp lo4 0 0)), (13, (.fn (.func 91) [] [(.rp (eL aG kJ))]))] ∧ aL ⟨H0, [], []⟩ H [(lo1, 1, [(aF t4)]), (lo3, 1, [(eL aK nI)]), (lo4, 1, [(aF jR)])] ∧ uJ rV t4 nI jR kJ = some r) ?_ ⟨false, [], false, x5, .eq (by kernel_rfl), hO, h0⟩
  clear hO h0
  rintro T H ⟨t4, nI, jR, kJ, hT, hO, h0⟩
  refine bF (l := [(3, (.rp (.fn (.func holds1_f) holds1_a holds1_c))), (4, (.lp lo1 0 0)), (5, (.lp lo3 0 0)), (6, (.lp lo4 0 0)), (13, (.fn (.func 91) [] [(.rp (eL aG kJ))]))]) hT ?_
  clear hT
  unfold uJ at h0
  obtain ⟨o0, hl0, h0⟩ := aY h0
  refine AM (fid := 91) (ys := []) (cs := [(.rp (eL aG kJ))]) #[14, 15] (fun (A : wT) (b lL : Nat) (st : (Bool × (List aC) × Bool) ⊕ (Bool × (List aC) × Bool)) (G' : Gs) => Sum.elim (fun (s : Bool × (List aC) × Bool) => G' = (lL, .raw (kX b A .ready none)) :: (up [(lo1, 1, [(aF s.1)]), (lo3, 1, [(eL aK s.2.1)]), (lo4, 1, [(aF s.2.2)])] ++ [])) (fun (s : Bool × (List aC) × Bool) => G' = (lL, .raw (kX b A .done (some .ret))) :: (up [(lo1, 1, [(aF s.1)]), (lo3, 1, [(eL aK s.2.1)]), (lo4, 1, [(aF s.2.2)])] ++ [])) st) (.inl (t4, nI, jR)) o0 (.tup []) (by kernel_rfl) (by kernel_rfl) (by kernel_rfl) hO (fun _ _ => rfl) ?_ ?_
  · intro b lL
    clear hO h0
    refine yH _ b (fun st t14 t15 => rnd (fun (s : Bool × (List aC) × Bool) => nS rV kJ s.1 s.2.1 s.2.2 t14 t15) st) ?_ kJ _ _ hl0
    intro st t14 t15 out1 rr hr
    obtain ⟨s, rfl, h1, rfl⟩ := QM hr
    clear hr
    intro Hr Gr hi hg
    obtain ⟨t4, nI, jR⟩ := s
    dsimp only [Sum.elim_inl] at hi
    obtain rfl := hi
    replace h1 : nS rV kJ t4 nI jR t14 t15 = some out1 := h1
    unfold nS at h1
    obtain ⟨E1, hE, hO⟩ := vP hg
    refine vQ (zL (hO.gm 0 _ rfl).2 (by kernel_rfl) (by kernel_rfl) ?_)
    refine fW [(3, (.rp (.fn (.func holds1_f) holds1_a holds1_c))), (4, (.lp lo1 0 0)), (5, (.lp lo3 0 0)), (6, (.lp lo4 0 0)), (13, (.fn (.func 91) [] [(.rp (eL aG kJ))])), (14, (eL aK t14)), (15, (eL aP t15))] ?_
    refine aU aD 1 [13, 14] [(7, (eL aK t14))] ?_
    refine aV aD 1 ?_
    refine bD ?_
    refine fV [(3, (.rp (.fn (.func holds1_f) holds1_a holds1_c))), (4, (.lp lo1 0 0)), (5, (.lp lo3 0 0)), (6, (.lp lo4 0 0)), (7, (eL aK t14)), (8, (eL aP t15))] ?_
    refine aI (⟨rfl, rfl, (hO.gm 0 _ rfl).2, ?_⟩)
    intro o1 ho1
    replace hO := hO.wG o1
    refine cG 1 ?_
    refine aO ?_
    refine aO ?_
    refine aV aD 18 ?_
    refine bO 1 ?_
    obtain ⟨x7, hx8, h1⟩ := aY h1
    refine dO (BQ t14 _ hx8) hO ?_
    intro H hO
    refine bO 4 ?_
    refine qY [(19, false)] 2 lo4 1 0 (aF jR) (aF jR) [(aF jR)] (by kernel_rfl) (by kernel_rfl) hO (by kernel_rfl) (!(!x7)) (by kernel_rfl) (fun hb10 => rfl) ?_
    refine bO 6 ?_
    refine qY [(21, true), (19, false)] 1 lo3 1 0 (eL aK nI) (eL aK nI) [(eL aK nI)] (by kernel_rfl) (by kernel_rfl) hO (by kernel_rfl) (jR && (!(!x7))) (by kernel_rfl) (fun hb11 => rfl) ?_
    refine bO 8 ?_
    obtain ⟨x12, hx13, h1⟩ := aY h1
    refine mW [(21, true), (19, false)] 77 [(eL aK nI), (eL aK t14)] (eI x12) (jR && (!(!x7))) (by kernel_rfl) (by kernel_rfl) (by kernel_rfl) (fun hb14 => (JP nI t14 _ (iZ hx13 hb14))) hO ?_
    intro H hO
    refine bO 15 ?_
    obtain ⟨x15, hx16, h1⟩ := aY h1
    refine mW [(28, false)] holds1_f (holds1_a ++ [(eL aP t15)] ++ holds1_c) (aF x15) (!((!x7) || (jR && (decide ((0 : Int) ≤ x12))))) (by kernel_rfl) (by kernel_rfl) (by kernel_rfl) (fun hb17 => (holds1_h t15 _ (iZ hx16 hb17))) hO ?_
    intro H hO
    refine bD ?_
    refine bS [3, 8] [(33, (aF (((!x7) || (jR && (decide ((0 : Int) ≤ x12)))) || (!x15))))] ?_
    refine bM h1 (fun h1 => ?_) (fun h1 => ?_)
    · refine aO ?_
      refine aV aD 1 ?_
      refine lO 0 lo1 1 0 (aF t4) (aF false) [(aF t4)] [(lo1, 1, [(aF false)]), (lo3, 1, [(eL aK nI)]), (lo4, 1, [(aF jR)])] hO rfl (by kernel_rfl) ?_
      intro H hO
      refine fI ?_
      refine bS [7, 33] [] ?_
      refine bH ?_
      refine fV [(4, (.lp lo1 0 0)), (5, (.lp lo3 0 0)), (6, (.lp lo4 0 0))] ?_
      obtain rfl := oI h1
      exact aI (aT (bN (⟨(iO hO hE ho1 .dead).1, rfl, _, rfl, (iO hO hE ho1 _).2⟩)))
    refine bL ?_
    refine bG [(4, (.lp lo1 0 0)), (5, (.lp lo3 0 0)), (6, (.lp lo4 0 0)), (7, (eL aK t14))] ?_
    refine aV aD 3 ?_
    refine bO 1 ?_
    refine lO 1 lo3 1 0 (eL aK nI) (eL aK t14) [(eL aK nI)] [(lo1, 1, [(aF t4)]), (lo3, 1, [(eL aK t14)]), (lo4, 1, [(aF jR)])] hO rfl (by kernel_rfl) ?_
    intro H hO
    refine lO 2 lo4 1 0 (aF jR) (aF true) [(aF jR)] [(lo1, 1, [(aF t4)]), (lo3, 1, [(eL aK t14)]), (lo4, 1, [(aF true)])] hO rfl (by kernel_rfl) ?_
    intro H hO
    refine fI ?_
    refine fV [(4, (.lp lo1 0 0)), (5, (.lp lo3 0 0)), (6, (.lp lo4 0 0))] ?_
    obtain rfl := oI h1
    exact aI (aZ (⟨(iO hO hE ho1 .dead).1, rfl, _, rfl, (iO hO hE ho1 _).2⟩))
  · intro b lD19 lL H' G' hi hO
    rcases o0 with s | s
    · dsimp only [Sum.elim_inl] at hi
      obtain rfl := hi
      replace h0 : (some true) = some r := h0
      obtain ⟨hlL, hO⟩ := sK hO
      refine ⟨_, _, hlL, (by intro e; cases e), ?_⟩
      refine fV [(4, (.lp lo1 0 0))] ?_
      replace hO := hO.pick (L' := [(lo1, 1, [(aF s.1)])]) [0] (by decide) (by kernel_rfl)
      refine aI (aZ (aH (?_)))
      refine aO ?_
      refine aV aD 1 ?_
      refine lO 0 lo1 1 0 (aF s.1) (aF true) [(aF s.1)] [(lo1, 1, [(aF true)])] hO rfl (by kernel_rfl) ?_
      intro H hO
      refine fI ?_
      refine bG [(4, (.lp lo1 0 0))] ?_
      refine bH ?_
      obtain rfl := oI h0
      have hD := (hO.gm 0 _ rfl).2
      replace hO := (hO.wG .dead).wV
      exact aI (QM1 (.inr rfl) hD (rs := [.cell 4 4]) (xs := [(aF true)]) (x := (aF true)) (by kernel_rfl) (tU (lo := lo1) (k := 1) (y := (aF true)) (x := (aF true)) 0 hO (by kernel_rfl) (by kernel_rfl) (by kernel_rfl) (by kernel_rfl) xH) (by kernel_rfl) ⟨rfl, hO.out⟩)
    · dsimp only [Sum.elim_inr] at hi
      obtain rfl := hi
      replace h0 : (some s.1) = some r := h0
      obtain ⟨hlL, hO⟩ := sK hO
      refine ⟨_, _, hlL, (by intro e; cases e), ?_⟩
      refine bH ?_
      replace hO := hO.pick (L' := [(lo1, 1, [(aF s.1)])]) [0] (by decide) (by kernel_rfl)
      obtain rfl := oI h0
      have hD := (hO.gm 0 _ rfl).2
      replace hO := (hO.wG .dead).wV
      exact aI (bN (aT (QM1 (.inr rfl) hD (rs := [.cell 4 4]) (xs := [(aF s.1)]) (x := (aF s.1)) (by kernel_rfl) (tU (lo := lo1) (k := 1) (y := (aF s.1)) (x := (aF s.1)) 0 hO (by kernel_rfl) (by kernel_rfl) (by kernel_rfl) (by kernel_rfl) xH) (by kernel_rfl) ⟨rfl, hO.out⟩)))

theorem NS (n0 : Int) (r : Bool) (h0 : vM n0 = some r) : dH Try.prog 78 [(eI n0)] (aF r) := by
  intro H0
  refine dD Try.func78 ?_
  have hO := aL.start H0
  unfold vM at h0
  refine aU aD 1 [] [] ?_
  refine cH aD 7 [(2, (aF ((decide (n0 ≤ (1048576 : Int))) && (decide ((-1048576 : Int) ≤ n0)))))] ?_
  refine bH ?_
  obtain rfl := oI h0
  exact aI (Q_r hO)

theorem uM (f0 : (List aB)) (r : Bool) (h0 : mN f0 = some r) : dH Try.prog 57 [(eL aP f0)] (aF r) := by
  intro H0
  refine dD Try.func57 ?_
  have hO := aL.start H0
  unfold mN at h0
  refine aU aD 1 [] [] ?_
  refine aO ?_
  refine aU aD 3 [] [(8, (aF (decide ((1024 : Int) < (lN f0)))))] ?_
  refine bM h0 (fun h0 => ?_) (fun h0 => ?_)
  · refine cH aD 1 [(2, (aF false))] ?_
    refine bH ?_
    obtain rfl := oI h0
    exact aI (aT (Q_r hO))
  refine bL ?_
  refine bG [(0, (eL aP f0))] ?_
  refine aU aD 1 [] [(3, (eI (-2 : Int)))] ?_
  refine gM (fun T H => Has T [] ∧ aL ⟨H0, [], []⟩ H [] ∧ tB  = some r) ?_ ?_
  · clear hO h0
    rintro T H ⟨hT, hO, h0⟩
    refine bF hT ?_
    clear hT
    unfold tB at h0
    refine cH aD 1 [(2, (aF true))] ?_
    refine bH ?_
    obtain rfl := oI h0
    exact aI (Q_r hO)
  refine aU aD 3 [0] [(9, (eL aP f0)), (10, (eI (lN f0))), (11, (eI (0 : Int)))] ?_
  refine cG 0 ?_
  refine fW [(3, (eI (-2 : Int))), (9, (eL aP f0)), (10, (eI (lN f0))), (11, (eI (0 : Int)))] ?_
  refine eS (fun T H => ∃ oY : Int, ∃ t9 : (List aB), ∃ t10 : Int, ∃ t11 : Int, Has T [(3, (eI oY)), (9, (eL aP t9)), (10, (eI t10)), (11, (eI t11))] ∧ aL ⟨H0, [], []⟩ H [] ∧ vI oY t9 t10 t11 = some r) ?_ ⟨(-2 : Int), f0, (lN f0), (0 : Int), .eq (by kernel_rfl), hO, h0⟩
  clear hO h0
  rintro T H ⟨oY, t9, t10, t11, hT, hO, h0⟩
  refine bF hT ?_
  clear hT
  unfold vI at h0
  obtain ⟨rr0, hl0, h0⟩ := aY h0
  refine dF (by kernel_rfl) (fun (s : Int × Int) T H => Has T [(3, (eI s.1)), (9, (eL aP t9)), (10, (eI t10)), (11, (eI s.2))] ∧ aL ⟨H0, [], []⟩ H []) hl0 ⟨.eq (by kernel_rfl), hO⟩ ?_
  clear hO
  rintro k0 s out1 T H ⟨hT, hO⟩ h1 ho0
  obtain ⟨oY, t11⟩ := s
  replace h1 : lI t9 t10 oY t11 = some out1 := h1
  try dsimp only at hT
  refine bF hT ?_
  clear hT
  unfold lI at h1
  refine aU aD 1 [] [(12, (aF (decide (t11 < t10))))] ?_
  refine aO ?_
  refine bM h1 (fun h1 => ?_) (fun h1 => ?_)
  · refine bL ?_
    refine bG [(3, (eI oY)), (9, (eL aP t9)), (10, (eI t10)), (11, (eI t11))] ?_
    refine aO ?_
    refine cG 1 ?_
    refine aO ?_
    refine aV aD 4 ?_
    obtain ⟨c3, h1⟩ := aW h1
    refine uB 2 [0 ≤ t11 ∧ t11 < (lN t9)] ⟨c3, trivial⟩ ?_
    refine oV 2 (aP (aB.mk 0 0)) (by kernel_rfl) (by kernel_rfl) hO ?_
    intro lo4 H hO
    refine lO 0 lo4 2 0 (aP (aB.mk 0 0)) (aP (gD t9 t11)) [(aP (aB.mk 0 0))] [(lo4, 2, [(aP (gD t9 t11))])] hO rfl (by kernel_rfl) ?_
    intro H hO
    refine fI ?_
    refine bS [] [(5, (.lp lo4 0 0))] ?_
    refine aO ?_
    refine aO ?_
    refine aV aD 20 ?_
    refine bO 1 ?_
    refine nR 0 lo4 2 0 (aP (gD t9 t11)) (eI ((gD t9 t11).At)) [(aP (gD t9 t11))] hO rfl ?_
    refine bO 6 ?_
    refine qY [(19, false)] 0 lo4 2 0 (aP (gD t9 t11)) (eI ((gD t9 t11).At)) [(aP (gD t9 t11))] (by kernel_rfl) (by kernel_rfl) hO (by kernel_rfl) (!(decide (((gD t9 t11).At) ≤ oY))) (by kernel_rfl) (fun hb5 => rfl) ?_
    refine bO 11 ?_
    refine qY [(24, false)] 0 lo4 2 0 (aP (gD t9 t11)) (eI ((gD t9 t11).Net)) [(aP (gD t9 t11))] (by kernel_rfl) (by kernel_rfl) hO (by kernel_rfl) (!((decide (((gD t9 t11).At) ≤ oY)) || (decide ((1125899906842624 : Int) ≤ ((gD t9 t11).At))))) (by kernel_rfl) (fun hb6 => rfl) ?_
    refine bO 16 ?_
    refine qY [(29, false)] 0 lo4 2 0 (aP (gD t9 t11)) (eI ((gD t9 t11).Net)) [(aP (gD t9 t11))] (by kernel_rfl) (by kernel_rfl) hO (by kernel_rfl) (!(((decide (((gD t9 t11).At) ≤ oY)) || (decide ((1125899906842624 : Int) ≤ ((gD t9 t11).At)))) || (decide (((gD t9 t11).Net) = (0 : Int))))) (by kernel_rfl) (fun hb7 => rfl) ?_
    obtain ⟨x8, hx9, h1⟩ := aY h1
    refine mW [(29, false)] 78 [(eI ((gD t9 t11).Net))] (aF x8) (!(((decide (((gD t9 t11).At) ≤ oY)) || (decide ((1125899906842624 : Int) ≤ ((gD t9 t11).At)))) || (decide (((gD t9 t11).Net) = (0 : Int))))) (by kernel_rfl) (by kernel_rfl) (by kernel_rfl) (fun hb10 => (NS ((gD t9 t11).Net) _ (iZ hx9 hb10))) hO ?_
    intro H hO
    refine bD ?_
    refine bS [3] [(34, (aF ((((decide (((gD t9 t11).At) ≤ oY)) || (decide ((1125899906842624 : Int) ≤ ((gD t9 t11).At)))) || (decide (((gD t9 t11).Net) = (0 : Int)))) || (!x8))))] ?_
    refine bM h1 (fun h1 => ?_) (fun h1 => ?_)
    · refine aO ?_
      refine aV aD 1 ?_
      refine bD ?_
      refine fV [(2, (aF false))] ?_
      replace hO := hO.pick (L' := []) [] (by decide) (by kernel_rfl)
      refine aI (aH (?_))
      refine bH ?_
      obtain rfl := oI h1
      obtain rfl : _ = rr0 := ho0
      replace h0 : some false = some r := h0
      obtain rfl := oI h0
      exact aI (aT (bN (aT (aT (bN (aT (Q_r hO)))))))
    refine bL ?_
    refine bG [(5, (.lp lo4 0 0)), (9, (eL aP t9)), (10, (eI t10)), (11, (eI t11))] ?_
    refine aV aD 3 ?_
    refine bO 1 ?_
    refine nR 0 lo4 2 0 (aP (gD t9 t11)) (eI ((gD t9 t11).At)) [(aP (gD t9 t11))] hO rfl ?_
    refine bD ?_
    refine fV [(3, (eI ((gD t9 t11).At))), (9, (eL aP t9)), (10, (eI t10)), (11, (eI t11))] ?_
    replace hO := hO.pick (L' := []) [] (by decide) (by kernel_rfl)
    refine aI (aZ (aH (?_)))
    refine aV aD 2 ?_
    refine bD ?_
    exact aI (aH (⟨rfl, _, (oI h1).symm, .eq (by kernel_rfl), hO⟩))
  refine gZ 0 ?_
  obtain rfl := oI h1
  obtain rfl : _ = rr0 := ho0
  replace h0 : tB  = some r := h0
  exact aI (aX (aX (bX (aH (⟨rfl, .eq (by kernel_rfl), hO, h0⟩)))))

theorem GL (l0 : (List aE)) (r : Bool) (h0 : sJ l0 = some r) : dH Try.prog 31 [(eL aG l0)] (aF r) := by
  intro H0
  refine dD Try.func31 ?_
  have hO := aL.start H0
  unfold sJ at h0
  refine aU aD 1 [] [] ?_
  refine aO ?_
  refine aV aD 3 ?_
  refine bO 1 ?_
  obtain ⟨x1, hx2, h0⟩ := aY h0
  refine dO (DB l0 57 [] [] (fun y0 => mN y0) (fun y0 r h => uM y0 r h) _ hx2) hO ?_
  intro H hO
  refine bD ?_
  refine bG [(2, (aF x1))] ?_
  refine bH ?_
  obtain rfl := oI h0
  exact aI (Q_r hO)

theorem MU (f0 : (List aB)) (r : Int) (h0 : rW f0 = some r) : dH Try.prog 59 [(eL aP f0)] (eI r) := by
  intro H0
  refine dD Try.func59 ?_
  have hO := aL.start H0
  unfold rW at h0
  refine aU aD 1 [] [] ?_
  refine aO ?_
  refine aO ?_
  refine aV aD 8 ?_
  refine bO 1 ?_
  obtain ⟨x1, hx2, h0⟩ := aY h0
  refine dO (uM f0 _ hx2) hO ?_
  intro H hO
  refine bD ?_
  refine bS [] [(14, (aF ((!x1) || (decide ((lN f0) = (0 : Int))))))] ?_
  refine bM h0 (fun h0 => ?_) (fun h0 => ?_)
  · refine cH aD 1 [(2, (eI (0 : Int)))] ?_
    refine bH ?_
    obtain rfl := oI h0
    exact aI (aT (Q_r hO))
  refine bL ?_
  refine bG [(0, (eL aP f0))] ?_
  refine aU aD 2 [] [(3, (eI (0 : Int))), (4, (eI (0 : Int)))] ?_
  refine gM (fun T H => ∃ v3 : Int, ∃ gV : Int, Has T [(0, (eL aP f0)), (3, (eI v3)), (4, (eI gV))] ∧ aL ⟨H0, [], []⟩ H [] ∧ oH f0 v3 gV = some r) ?_ ?_
  · clear hO h0
    rintro T H ⟨v3, gV, hT, hO, h0⟩
    refine bF hT ?_
    clear hT
    unfold oH at h0
    refine gM (fun T H => ∃ gV : Int, Has T [(4, (eI gV))] ∧ aL ⟨H0, [], []⟩ H [] ∧ qC gV = some r) ?_ ?_
    · clear hO h0
      rintro T H ⟨gV, hT, hO, h0⟩
      refine bF hT ?_
      clear hT
      unfold qC at h0
      refine cH aD 2 [(2, (eI gV))] ?_
      refine bH ?_
      obtain rfl := oI h0
      exact aI (Q_r hO)
    refine aU aD 3 [0] [(24, (eL aP f0)), (25, (eI (lN f0))), (26, (eI (0 : Int)))] ?_
    refine cG 0 ?_
    refine fW [(3, (eI v3)), (4, (eI gV)), (24, (eL aP f0)), (25, (eI (lN f0))), (26, (eI (0 : Int)))] ?_
    refine eS (fun T H => ∃ v3 : Int, ∃ gV : Int, ∃ t24 : (List aB), ∃ t25 : Int, ∃ t26 : Int, Has T [(3, (eI v3)), (4, (eI gV)), (24, (eL aP t24)), (25, (eI t25)), (26, (eI t26))] ∧ aL ⟨H0, [], []⟩ H [] ∧ qH v3 gV t24 t25 t26 = some r) ?_ ⟨v3, gV, f0, (lN f0), (0 : Int), .eq (by kernel_rfl), hO, h0⟩
    clear hO h0
    rintro T H ⟨v3, gV, t24, t25, t26, hT, hO, h0⟩
    refine bF hT ?_
    clear hT
    unfold qH at h0
    obtain ⟨rr0, hl0, h0⟩ := aY h0
    refine dF (by kernel_rfl) (fun (s : Int × Int × Int) T H => Has T [(3, (eI s.1)), (4, (eI s.2.1)), (24, (eL aP t24)), (25, (eI t25)), (26, (eI s.2.2))] ∧ aL ⟨H0, [], []⟩ H []) hl0 ⟨.eq (by kernel_rfl), hO⟩ ?_
    clear hO
    rintro k0 s out1 T H ⟨hT, hO⟩ h1 ho0
    obtain ⟨v3, gV, t26⟩ := s
    replace h1 : lU t24 t25 v3 gV t26 = some out1 := h1
    try dsimp only at hT
    refine bF hT ?_
    clear hT
    unfold lU at h1
    refine aU aD 1 [] [(27, (aF (decide (t26 < t25))))] ?_
    refine aO ?_
    refine bM h1 (fun h1 => ?_) (fun h1 => ?_)
    · refine bL ?_
      refine bG [(3, (eI v3)), (4, (eI gV)), (24, (eL aP t24)), (25, (eI t25)), (26, (eI t26))] ?_
      refine aO ?_
      refine cG 1 ?_
      refine aO ?_
      refine aV aD 4 ?_
      obtain ⟨c6, h1⟩ := aW h1
      refine uB 2 [0 ≤ t26 ∧ t26 < (lN t24)] ⟨c6, trivial⟩ ?_
      refine oV 2 (aP (aB.mk 0 0)) (by kernel_rfl) (by kernel_rfl) hO ?_
      intro lo7 H hO
      refine lO 0 lo7 2 0 (aP (aB.mk 0 0)) (aP (gD t24 t26)) [(aP (aB.mk 0 0))] [(lo7, 2, [(aP (gD t24 t26))])] hO rfl (by kernel_rfl) ?_
      intro H hO
      refine fI ?_
      refine bS [] [(6, (.lp lo7 0 0))] ?_
      refine aO ?_
      refine aV aD 5 ?_
      refine bO 2 ?_
      refine nR 0 lo7 2 0 (aP (gD t24 t26)) (eI ((gD t24 t26).Net)) [(aP (gD t24 t26))] hO rfl ?_
      refine bD ?_
      replace hO := hO.pick (L' := []) [] (by decide) (by kernel_rfl)
      refine bS [3, 6] [(3, (eI (wR (v3 + ((gD t24 t26).Net)))))] ?_
      refine aV aD 4 ?_
      refine bD ?_
      refine fV [(3, (eI (wR (v3 + ((gD t24 t26).Net))))), (4, (eI (if (wR (v3 + ((gD t24 t26).Net))) < gV then (wR (v3 + ((gD t24 t26).Net))) else gV))), (24, (eL aP t24)), (25, (eI t25)), (26, (eI t26))] ?_
      refine aI (aZ (aH (?_)))
      refine aV aD 2 ?_
      refine bD ?_
      exact aI (aH (⟨rfl, _, (oI h1).symm, .eq (by kernel_rfl), hO⟩))
    refine gZ 0 ?_
    obtain rfl := oI h1
    obtain rfl : _ = rr0 := ho0
    replace h0 : qC gV = some r := h0
    exact aI (aX (aX (bX (aH (⟨rfl, _, .eq (by kernel_rfl), hO, h0⟩)))))
  refine aO ?_
  refine aV aD 5 ?_
  obtain ⟨c8, h0⟩ := aW h0
  refine nG [0 ≤ (0 : Int) ∧ (0 : Int) < (lN f0)] ⟨c8, trivial⟩ ?_
  refine bS [] [(19, (aF (decide (((gD f0 (0 : Int)).At) = (-1 : Int)))))] ?_
  refine bM h0 (fun h0 => ?_) (fun h0 => ?_)
  · refine aV aD 5 ?_
    obtain ⟨c10, h0⟩ := aW h0
    refine nG [0 ≤ (0 : Int) ∧ (0 : Int) < (lN f0)] ⟨c10, trivial⟩ ?_
    exact aI (aH (⟨rfl, _, _, .eq (by kernel_rfl), hO, h0⟩))
  refine bL ?_
  exact aI (aH (⟨rfl, _, _, .eq (by kernel_rfl), hO, h0⟩))

theorem HF (f0 : (List aB)) (r : Bool) (h0 : pG f0 = some r) : dH Try.prog 58 [(eL aP f0)] (aF r) := by
  intro H0
  refine dD Try.func58 ?_
  have hO := aL.start H0
  unfold pG at h0
  refine aU aD 1 [] [] ?_
  refine aO ?_
  refine aV aD 8 ?_
  refine bO 1 ?_
  obtain ⟨x1, hx2, h0⟩ := aY h0
  refine dO (uM f0 _ hx2) hO ?_
  intro H hO
  refine bO 4 ?_
  obtain ⟨x4, hx5, h0⟩ := aY h0
  refine mW [(5, true)] 59 [(eL aP f0)] (eI x4) x1 (by kernel_rfl) (by kernel_rfl) (by kernel_rfl) (fun hb6 => (MU f0 _ (iZ hx5 hb6))) hO ?_
  intro H hO
  refine bD ?_
  refine bG [(2, (aF (x1 && (decide ((0 : Int) ≤ x4)))))] ?_
  refine bH ?_
  obtain rfl := oI h0
  exact aI (Q_r hO)

theorem LS (l0 : (List aE)) (r : Bool) (h0 : sA l0 = some r) : dH Try.prog 32 [(eL aG l0)] (aF r) := by
  intro H0
  refine dD Try.func32 ?_
  have hO := aL.start H0
  unfold sA at h0
  refine aU aD 1 [] [] ?_
  refine aO ?_
  refine aV aD 3 ?_
  refine bO 1 ?_
  obtain ⟨x1, hx2, h0⟩ := aY h0
  refine dO (DB l0 58 [] [] (fun y0 => pG y0) (fun y0 r h => HF y0 r h) _ hx2) hO ?_
  intro H hO
  refine bD ?_
  refine bG [(2, (aF x1))] ?_
  refine bH ?_
  obtain rfl := oI h0
  exact aI (Q_r hO)

theorem xG (l0 : (List aE)) (n1 : Int) (r : Int) (h0 : nU l0 n1 = some r) : dH Try.prog 46 [(eL aG l0), (eI n1)] (eI r) := by
  intro H0
  refine dD Try.func46 ?_
  have hO := aL.start H0
  unfold nU at h0
  refine aU aD 1 [] [] ?_
  refine aO ?_
  refine cG 0 ?_
  refine aO ?_
  refine aV aD 12 ?_
  refine bO 1 ?_
  obtain ⟨x1, hx2, h0⟩ := aY h0
  refine dO (GL l0 _ hx2) hO ?_
  intro H hO
  refine bD ?_
  refine bS [1] [(5, (aF (((!x1) || (decide (n1 < (1 : Int)))) || (decide ((64 : Int) < n1)))))] ?_
  refine bM h0 (fun h0 => ?_) (fun h0 => ?_)
  · refine cH aD 1 [(4, (eI (2 : Int)))] ?_
    refine bH ?_
    obtain rfl := oI h0
    exact aI (bN (aT (Q_r hO)))
  refine aO ?_
  refine aV aD 4 ?_
  refine bO 1 ?_
  obtain ⟨x5, hx6, h0⟩ := aY h0
  refine dO (LS l0 _ hx6) hO ?_
  intro H hO
  refine bD ?_
  refine bG [(17, (aF (!x5)))] ?_
  refine bM h0 (fun h0 => ?_) (fun h0 => ?_)
  · refine cH aD 1 [(4, (eI (20 : Int)))] ?_
    refine bH ?_
    obtain rfl := oI h0
    exact aI (bN (aT (Q_r hO)))
  refine bL ?_
  refine fV [] ?_
  refine aI (aZ (aH (?_)))
  refine cH aD 1 [(4, (eI (0 : Int)))] ?_
  refine bH ?_
  obtain rfl := oI h0
  exact aI (Q_r hO)

theorem zI (l0 : (List aE)) (r : (List aE)) (h0 : nM l0 = some r) : dH Try.prog 68 [(eL aG l0)] (.fn (.func 94) [] [(.rp (eL aG r))]) := by
  intro H0
  refine dD Try.func68 ?_
  have hO := aL.start H0
  unfold nM at h0
  refine aO ?_
  refine aV aD 2 ?_
  refine qM 1 (eL aG l0) (by kernel_rfl) (by kernel_rfl) ?_
  refine bD ?_
  refine bG [(1, (.rp (eL aG l0)))] ?_
  refine cH aD 2 [(2, (.fn (.func 94) [] [(.rp (eL aG l0))]))] ?_
  refine bH ?_
  obtain rfl := oI h0
  exact aI (jZ (x := (.fn (.func 94) [] [(.rp (eL aG l0))])) (by kernel_rfl) (aN.refl _) ⟨rfl, hO.out⟩)

theorem vU {σ : Type} (I : σ → Gs → Prop) (yield0_b : Nat) (gR : σ → aE → Option (σ × Bool)) (yield0_h : ∀ st a0 st2 r, gR st a0 = some (st2, r) → CQ Try.prog (yv yield0_b) I st [(aG a0)] st2 (aF r)) (t1 : (List aE)) (sg0 : σ) (r : σ) (h0 : kZ gR t1 sg0 = some r) : wP Try.prog 94 I sg0 [(yv yield0_b), (.rp (eL aG t1))] r (.tup []) := by
  intro H0 G0 hI hg
  refine dD Try.func94 ?_
  obtain ⟨G, hO, hI⟩ : ∃ G, aL ⟨H0, List.map (fun p : Nat × dL => p.1) G0, G⟩ H0 [] ∧ I sg0 G := ⟨G0, aL.FV hg, hI⟩
  clear hg
  unfold kZ at h0
  refine aU aD 3 [1] [(5, (eL aG t1)), (6, (eI (lN t1))), (7, (eI (0 : Int)))] ?_
  refine cG 0 ?_
  refine fW [(0, (yv yield0_b)), (5, (eL aG t1)), (6, (eI (lN t1))), (7, (eI (0 : Int)))] ?_
  refine eS (fun T H => ∃ sg : σ, ∃ t5 : (List aE), ∃ t6 : Int, ∃ t7 : Int, ∃ G : Gs, Has T [(0, (yv yield0_b)), (5, (eL aG t5)), (6, (eI t6)), (7, (eI t7))] ∧ aL ⟨H0, List.map (fun p : Nat × dL => p.1) G0, G⟩ H [] ∧ I sg G ∧ oA gR sg t5 t6 t7 = some r) ?_ ⟨sg0, t1, (lN t1), (0 : Int), G, .eq (by kernel_rfl), hO, hI, h0⟩
  clear hO hI h0
  rintro T H ⟨sg, t5, t6, t7, G, hT, hO, hI, h0⟩
  refine bF hT ?_
  clear hT
  unfold oA at h0
  obtain ⟨rr0, hl0, h0⟩ := aY h0
  refine dF (by kernel_rfl) (fun (s : σ × Int) T H => ∃ G : Gs, Has T [(0, (yv yield0_b)), (5, (eL aG t5)), (6, (eI t6)), (7, (eI s.2))] ∧ aL ⟨H0, List.map (fun p : Nat × dL => p.1) G0, G⟩ H [] ∧ I s.1 G) hl0 ⟨G, .eq (by kernel_rfl), hO, hI⟩ ?_
  clear hO hI
  rintro k0 s out1 T H ⟨G, hT, hO, hI⟩ h1 ho0
  obtain ⟨sg, t7⟩ := s
  replace h1 : jL gR t5 t6 sg t7 = some out1 := h1
  try dsimp only at hT
  refine bF hT ?_
  clear hT
  unfold jL at h1
  refine aU aD 1 [] [(8, (aF (decide (t7 < t6))))] ?_
  refine aO ?_
  refine bM h1 (fun h1 => ?_) (fun h1 => ?_)
  · refine bL ?_
    refine bG [(0, (yv yield0_b)), (5, (eL aG t5)), (6, (eI t6)), (7, (eI t7))] ?_
    refine aO ?_
    refine cG 1 ?_
    refine aO ?_
    refine aV aD 4 ?_
    obtain ⟨c2, h1⟩ := aW h1
    refine uB 2 [0 ≤ t7 ∧ t7 < (lN t5)] ⟨c2, trivial⟩ ?_
    refine rY 3 (.agg [(.sl true 0 (fun _ => .bad)), (eI 0), (eI 0)]) (aG (aE.mk ([]) 0 0)) (by kernel_rfl) (by kernel_rfl) (by kernel_rfl) (BM (xs := [(.sl true 0 (fun _ => .bad)), (eI 0), (eI 0)]) (ys := [(eL aK ([])), (eI 0), (eI 0)]) ⟨kR, aN.refl _, aN.refl _, trivial⟩) (by kernel_rfl) (by kernel_rfl) hO ?_
    intro lo3 H hO
    refine lO 0 lo3 3 0 (aG (aE.mk ([]) 0 0)) (aG (gD t5 t7)) [(aG (aE.mk ([]) 0 0))] [(lo3, 3, [(aG (gD t5 t7))])] hO rfl (by kernel_rfl) ?_
    intro H hO
    refine fI ?_
    refine bS [] [(4, (.lp lo3 0 0))] ?_
    refine aO ?_
    refine aV aD 14 ?_
    refine bO 1 ?_
    refine nR 0 lo3 3 0 (aG (gD t5 t7)) (eI ((gD t5 t7).Net)) [(aG (gD t5 t7))] hO rfl ?_
    refine bO 5 ?_
    refine qY [(14, true)] 0 lo3 3 0 (aG (gD t5 t7)) (eI ((gD t5 t7).At)) [(aG (gD t5 t7))] (by kernel_rfl) (by kernel_rfl) hO (by kernel_rfl) (decide ((0 : Int) < ((gD t5 t7).Net))) (by kernel_rfl) (fun hb4 => rfl) ?_
    refine bO 10 ?_
    refine qY [(19, true)] 0 lo3 3 0 (aG (gD t5 t7)) (aG (gD t5 t7)) [(aG (gD t5 t7))] (by kernel_rfl) (by kernel_rfl) hO (by kernel_rfl) ((decide ((0 : Int) < ((gD t5 t7).Net))) && (decide ((-1 : Int) < ((gD t5 t7).At)))) (by kernel_rfl) (fun hb5 => rfl) ?_
    obtain ⟨⟨x8, x9⟩, hx7, h1⟩ := aY h1
    replace hx7 := YJ hx7
    refine WD (I := I) [(19, true)] ((decide ((0 : Int) < ((gD t5 t7).Net))) && (decide ((-1 : Int) < ((gD t5 t7).At)))) (yv yield0_b) [(aG (gD t5 t7))] (aF x9) ⟨fun hb => yield0_h _ (gD t5 t7) x8 x9 (hx7.1 hb), hx7.2⟩ hO hI ?_
    intro G H hO hI
    refine bD ?_
    replace hO := hO.pick (L' := []) [] (by decide) (by kernel_rfl)
    refine bS [4] [(24, (aF (((decide ((0 : Int) < ((gD t5 t7).Net))) && (decide ((-1 : Int) < ((gD t5 t7).At)))) && (!x9))))] ?_
    refine bM h1 (fun h1 => ?_) (fun h1 => ?_)
    · refine bH ?_
      obtain rfl := oI h1
      obtain rfl : _ = rr0 := ho0
      replace h0 : some x8 = some r := h0
      obtain rfl := oI h0
      exact aI (bN (aT (aT (bN (jZ (x := (.tup [])) (by kernel_rfl) (aN.refl _) ⟨rfl, G, hI, hO.EH⟩)))))
    refine bL ?_
    refine fV [(0, (yv yield0_b)), (5, (eL aG t5)), (6, (eI t6)), (7, (eI t7))] ?_
    refine aI (aZ (aH (?_)))
    refine aV aD 2 ?_
    refine bD ?_
    exact aI (aH (⟨rfl, _, (oI h1).symm, _, .eq (by kernel_rfl), hO, hI⟩))
  refine gZ 0 ?_
  obtain rfl := oI h1
  obtain rfl : _ = rr0 := ho0
  replace h0 : some sg = some r := h0
  obtain rfl := oI h0
  exact aI (aX (aX (bX (wS (x := (.tup [])) (by kernel_rfl) (aN.refl _) ⟨rfl, G, hI, hO.EH⟩))))

theorem CV (x0 : Int) (r : Int) (h0 : nE x0 = some r) : dH Try.prog 88 [(cP .u64 x0)] (eI r) := by
  intro H0
  refine dD Try.func88 ?_
  have hO := aL.start H0
  unfold nE at h0
  refine aU aD 1 [] [(2, (eI (0 : Int)))] ?_
  refine gM (fun T H => ∃ x0 : Int, ∃ n2 : Int, Has T [(0, (cP .u64 x0)), (2, (eI n2))] ∧ aL ⟨H0, [], []⟩ H [] ∧ kF x0 n2 = some r) ?_ ?_
  · clear hO h0
    rintro T H ⟨x0, n2, hT, hO, h0⟩
    refine bF hT ?_
    clear hT
    unfold kF at h0
    refine gM (fun T H => ∃ x0 : Int, ∃ n2 : Int, Has T [(0, (cP .u64 x0)), (2, (eI n2))] ∧ aL ⟨H0, [], []⟩ H [] ∧ kG x0 n2 = some r) ?_ ?_
    · clear hO h0
      rintro T H ⟨x0, n2, hT, hO, h0⟩
      refine bF hT ?_
      clear hT
      unfold kG at h0
      refine gM (fun T H => ∃ x0 : Int, ∃ n2 : Int, Has T [(0, (cP .u64 x0)), (2, (eI n2))] ∧ aL ⟨H0, [], []⟩ H [] ∧ lB x0 n2 = some r) ?_ ?_
      · clear hO h0
        rintro T H ⟨x0, n2, hT, hO, h0⟩
        refine bF hT ?_
        clear hT
        unfold lB at h0
        refine aO ?_
        refine aV aD 7 ?_
        obtain ⟨c1, h0⟩ := aW h0
        refine nG [0 ≤ (IntKind.u8.wrap x0) ∧ (IntKind.u8.wrap x0) < ((ByteArray.size (⟨#[0, 1, 2, 2, 3, 3, 3, 3, 4, 4, 4, 4, 4, 4, 4, 4, 5, 5, 5, 5, 5, 5, 5, 5, 5, 5, 5, 5, 5, 5, 5, 5, 6, 6, 6, 6, 6, 6, 6, 6, 6, 6, 6, 6, 6, 6, 6, 6, 6, 6, 6, 6, 6, 6, 6, 6, 6, 6, 6, 6, 6, 6, 6, 6, 7, 7, 7, 7, 7, 7, 7, 7, 7, 7, 7, 7, 7, 7, 7, 7, 7, 7, 7, 7, 7, 7, 7, 7, 7, 7, 7, 7, 7, 7, 7, 7, 7, 7, 7, 7, 7, 7, 7, 7, 7, 7, 7, 7, 7, 7, 7, 7, 7, 7, 7, 7, 7, 7, 7, 7, 7, 7, 7, 7, 7, 7, 7, 7, 8, 8, 8, 8, 8, 8, 8, 8, 8, 8, 8, 8, 8, 8, 8, 8, 8, 8, 8, 8, 8, 8, 8, 8, 8, 8, 8, 8, 8, 8, 8, 8, 8, 8, 8, 8, 8, 8, 8, 8, 8, 8, 8, 8, 8, 8, 8, 8, 8, 8, 8, 8, 8, 8, 8, 8, 8, 8, 8, 8, 8, 8, 8, 8, 8, 8, 8, 8, 8, 8, 8, 8, 8, 8, 8, 8, 8, 8, 8, 8, 8, 8, 8, 8, 8, 8, 8, 8, 8, 8, 8, 8, 8, 8, 8, 8, 8, 8, 8, 8, 8, 8, 8, 8, 8, 8, 8, 8, 8, 8, 8, 8, 8, 8, 8, 8, 8, 8, 8, 8, 8, 8, 8, 8, 8, 8, 8, 8]⟩ : ByteArray) : Nat) : Int)] ⟨c1, trivial⟩ ?_
        refine bG [(2, (eI (wR (n2 + (wR (bt (⟨#[0, 1, 2, 2, 3, 3, 3, 3, 4, 4, 4, 4, 4, 4, 4, 4, 5, 5, 5, 5, 5, 5, 5, 5, 5, 5, 5, 5, 5, 5, 5, 5, 6, 6, 6, 6, 6, 6, 6, 6, 6, 6, 6, 6, 6, 6, 6, 6, 6, 6, 6, 6, 6, 6, 6, 6, 6, 6, 6, 6, 6, 6, 6, 6, 7, 7, 7, 7, 7, 7, 7, 7, 7, 7, 7, 7, 7, 7, 7, 7, 7, 7, 7, 7, 7, 7, 7, 7, 7, 7, 7, 7, 7, 7, 7, 7, 7, 7, 7, 7, 7, 7, 7, 7, 7, 7, 7, 7, 7, 7, 7, 7, 7, 7, 7, 7, 7, 7, 7, 7, 7, 7, 7, 7, 7, 7, 7, 7, 8, 8, 8, 8, 8, 8, 8, 8, 8, 8, 8, 8, 8, 8, 8, 8, 8, 8, 8, 8, 8, 8, 8, 8, 8, 8, 8, 8, 8, 8, 8, 8, 8, 8, 8, 8, 8, 8, 8, 8, 8, 8, 8, 8, 8, 8, 8, 8, 8, 8, 8, 8, 8, 8, 8, 8, 8, 8, 8, 8, 8, 8, 8, 8, 8, 8, 8, 8, 8, 8, 8, 8, 8, 8, 8, 8, 8, 8, 8, 8, 8, 8, 8, 8, 8, 8, 8, 8, 8, 8, 8, 8, 8, 8, 8, 8, 8, 8, 8, 8, 8, 8, 8, 8, 8, 8, 8, 8, 8, 8, 8, 8, 8, 8, 8, 8, 8, 8, 8, 8, 8, 8, 8, 8, 8, 8, 8, 8]⟩ : ByteArray) (IntKind.u8.wrap x0)))))))] ?_
        refine bH ?_
        obtain rfl := oI h0
        exact aI (Q_r hO)
      refine aU aD 2 [] [(14, (aF (decide ((256 : Int) ≤ x0))))] ?_
      refine bM h0 (fun h0 => ?_) (fun h0 => ?_)
      · refine aO ?_
        refine aV aD 3 ?_
        obtain ⟨c3, h0⟩ := aW h0
        refine nG [0 ≤ (8 : Int)] ⟨c3, trivial⟩ ?_
        refine bG [(0, (cP .u64 (Int.fdiv x0 (2 ^ (min (Int.toNat (8 : Int)) 64))))), (2, (eI n2))] ?_
        refine aV aD 3 ?_
        refine bD ?_
        exact aI (aH (⟨rfl, _, _, .eq (by kernel_rfl), hO, h0⟩))
      refine bL ?_
      exact aI (aH (⟨rfl, _, _, .eq (by kernel_rfl), hO, h0⟩))
    refine aU aD 2 [] [(8, (aF (decide ((65536 : Int) ≤ x0))))] ?_
    refine bM h0 (fun h0 => ?_) (fun h0 => ?_)
    · refine aO ?_
      refine aV aD 3 ?_
      obtain ⟨c5, h0⟩ := aW h0
      refine nG [0 ≤ (16 : Int)] ⟨c5, trivial⟩ ?_
      refine bG [(0, (cP .u64 (Int.fdiv x0 (2 ^ (min (Int.toNat (16 : Int)) 64))))), (2, (eI n2))] ?_
      refine aV aD 3 ?_
      refine bD ?_
      exact aI (aH (⟨rfl, _, _, .eq (by kernel_rfl), hO, h0⟩))
    refine bL ?_
    exact aI (aH (⟨rfl, _, _, .eq (by kernel_rfl), hO, h0⟩))
  refine aU aD 2 [] [(4, (aF (decide ((4294967296 : Int) ≤ x0))))] ?_
  refine bM h0 (fun h0 => ?_) (fun h0 => ?_)
  · refine aO ?_
    refine aV aD 3 ?_
    obtain ⟨c7, h0⟩ := aW h0
    refine nG [0 ≤ (32 : Int)] ⟨c7, trivial⟩ ?_
    refine bG [(0, (cP .u64 (Int.fdiv x0 (2 ^ (min (Int.toNat (32 : Int)) 64)))))] ?_
    refine aV aD 1 ?_
    refine bD ?_
    exact aI (aH (⟨rfl, _, _, .eq (by kernel_rfl), hO, h0⟩))
  refine bL ?_
  exact aI (aH (⟨rfl, _, _, .eq (by kernel_rfl), hO, h0⟩))

theorem yG (x0 : Int) (r : Int) (h0 : jS x0 = some r) : dH Try.prog 61 [(cP .u64 x0)] (eI r) := by
  intro H0
  refine dD Try.func61 ?_
  have hO := aL.start H0
  unfold jS at h0
  refine aU aD 1 [] [] ?_
  refine aO ?_
  refine mR (false) (fun hc1 => ?_) (fun hc1 => ?_)
  · cases hc1
  · refine bL ?_
    refine aI (aH ?_)
    refine aO ?_
    refine aV aD 3 ?_
    refine bO 1 ?_
    obtain ⟨x2, hx3, h0⟩ := aY h0
    refine dO (CV x0 _ hx3) hO ?_
    intro H hO
    refine bD ?_
    refine bG [(2, (eI x2))] ?_
    refine bH ?_
    obtain rfl := oI h0
    exact aI (Q_r hO)

theorem eU (x0 : Int) (y1 : Int) (r : Bool) (h0 : cN x0 y1 = some r) : dH Try.prog 70 [(eI x0), (eI y1)] (aF r) := by
  intro H0
  refine dD Try.func70 ?_
  have hO := aL.start H0
  unfold cN at h0
  refine aU aD 1 [] [] ?_
  refine aO ?_
  refine aV aD 13 ?_
  refine bO 1 ?_
  obtain ⟨x1, hx2, h0⟩ := aY h0
  refine dO (rK x0 _ hx2) hO ?_
  intro H hO
  refine bO 4 ?_
  obtain ⟨x4, hx5, h0⟩ := aY h0
  refine mW [(7, true)] 95 [(eI y1)] (aF x4) x1 (by kernel_rfl) (by kernel_rfl) (by kernel_rfl) (fun hb6 => (rK y1 _ (iZ hx5 hb6))) hO ?_
  intro H hO
  refine bD ?_
  refine bG [(4, (aF ((x1 && (!x4)) || (decide (x0 < y1)))))] ?_
  refine bH ?_
  obtain rfl := oI h0
  exact aI (Q_r hO)

theorem sW (lo0p : Nat) (aA : (List Int)) (a1 : Int) (b2 : Int) (r : List Int) (h0 : fY aA a1 b2 = some r) : mP Try.prog 79 lo0p 1 (List.map (eI) aA) (List.map (eI) r) [(.msl 1 lo0p 0 (List.length aA)), (eI a1), (eI b2)] (.tup []) := by
  intro H0 hl0
  refine dD Try.func79 ?_
  have hO := aL.pI hl0
  clear hl0
  obtain ⟨N0, hN0⟩ : ∃ n, n = List.length aA := ⟨_, rfl⟩
  have hN : List.length aA = N0 := hN0.symm
  unfold fY at h0
  refine aU aD 3 [] [(6, (eI (wR (a1 + (1 : Int)))))] ?_
  refine cG 0 ?_
  refine fW [(0, (.msl 1 lo0p 0 (List.length aA))), (1, (eI a1)), (2, (eI b2)), (6, (eI (wR (a1 + (1 : Int)))))] ?_
  refine eS (fun T H => ∃ aA : List Int, ∃ i6 : Int, Has T [(0, (.msl 1 lo0p 0 (List.length aA))), (1, (eI a1)), (2, (eI b2)), (6, (eI i6))] ∧ aL ⟨H0, [lo0p], []⟩ H [(lo0p, 1, List.map (eI) aA)] ∧ List.length aA = N0 ∧ iQ aA a1 b2 i6 = some r) ?_ ⟨aA, wR (a1 + (1 : Int)), .eq (by kernel_rfl), hO, hN, h0⟩
  clear hO hN h0
  rintro T H ⟨aA, i6, hT, hO, hN, h0⟩
  refine bF hT ?_
  clear hT
  unfold iQ at h0
  obtain ⟨rr0, hl0, h0⟩ := aY h0
  refine dF (by kernel_rfl) (fun (s : List Int × Int) T H => Has T [(0, (.msl 1 lo0p 0 (List.length s.1))), (1, (eI a1)), (2, (eI b2)), (6, (eI s.2))] ∧ aL ⟨H0, [lo0p], []⟩ H [(lo0p, 1, List.map (eI) s.1)] ∧ List.length s.1 = N0) hl0 ⟨.eq (by kernel_rfl), hO, hN⟩ ?_
  clear hO hN
  rintro k0 s out1 T H ⟨hT, hO, hN⟩ h1 ho0
  obtain ⟨aA, i6⟩ := s
  replace h1 : cZ a1 b2 aA i6 = some out1 := h1
  try dsimp only at hT
  refine bF hT ?_
  clear hT
  unfold cZ at h1
  refine aO ?_
  refine aU aD 3 [] [(12, (aF (decide (i6 < b2))))] ?_
  refine bM h1 (fun h1 => ?_) (fun h1 => ?_)
  · refine bL ?_
    refine bG [(0, (.msl 1 lo0p 0 (List.length aA))), (1, (eI a1)), (2, (eI b2)), (6, (eI i6))] ?_
    refine gM (fun T H => ∃ aA : List Int, Has T [(0, (.msl 1 lo0p 0 (List.length aA))), (1, (eI a1)), (2, (eI b2)), (6, (eI i6))] ∧ aL ⟨H0, [lo0p], []⟩ H [(lo0p, 1, List.map (eI) aA)] ∧ List.length aA = N0 ∧ fS aA a1 b2 i6 = some out1) ?_ ?_
    · clear hO hN h1
      rintro T H ⟨aA, hT, hO, hN, h1⟩
      refine bF hT ?_
      clear hT
      unfold fS at h1
      refine aV aD 3 ?_
      refine bD ?_
      exact aI (aH (⟨rfl, _, (oI h1).symm, .eq (by kernel_rfl), hO, hN⟩))
    refine cG 1 ?_
    refine aU aD 2 [] [(7, (eI i6))] ?_
    refine cG 2 ?_
    refine fW [(0, (.msl 1 lo0p 0 (List.length aA))), (1, (eI a1)), (2, (eI b2)), (6, (eI i6)), (7, (eI i6))] ?_
    refine eS (fun T H => ∃ aA : List Int, ∃ j7 : Int, Has T [(0, (.msl 1 lo0p 0 (List.length aA))), (1, (eI a1)), (2, (eI b2)), (6, (eI i6)), (7, (eI j7))] ∧ aL ⟨H0, [lo0p], []⟩ H [(lo0p, 1, List.map (eI) aA)] ∧ List.length aA = N0 ∧ iP aA a1 b2 i6 j7 = some out1) ?_ ⟨aA, i6, .eq (by kernel_rfl), hO, hN, h1⟩
    clear hO hN h1
    rintro T H ⟨aA, j7, hT, hO, hN, h1⟩
    refine bF hT ?_
    clear hT
    unfold iP at h1
    obtain ⟨rr1, hl1, h1⟩ := aY h1
    refine dF (by kernel_rfl) (fun (s : List Int × Int) T H => Has T [(0, (.msl 1 lo0p 0 (List.length s.1))), (1, (eI a1)), (2, (eI b2)), (6, (eI i6)), (7, (eI s.2))] ∧ aL ⟨H0, [lo0p], []⟩ H [(lo0p, 1, List.map (eI) s.1)] ∧ List.length s.1 = N0) hl1 ⟨.eq (by kernel_rfl), hO, hN⟩ ?_
    clear hO hN
    rintro k1 s out2 T H ⟨hT, hO, hN⟩ h2 ho1
    obtain ⟨aA, j7⟩ := s
    replace h2 : eJ a1 b2 i6 aA j7 = some out2 := h2
    try dsimp only at hT
    refine bF hT ?_
    clear hT
    unfold eJ at h2
    refine aO ?_
    refine aO ?_
    obtain ⟨c2, h2⟩ := aW h2
    obtain ⟨c3, h2⟩ := aW h2
    obtain ⟨x4, hx5, h2⟩ := aY h2
    refine fG (fH []) aD 15 ?_
    refine nV (K := fun T H => Has (lift T) [(0, (.msl 1 lo0p 0 (List.length aA))), (1, (eI a1)), (2, (eI b2)), (6, (eI i6)), (7, (eI j7)), (30, (aF ((decide (a1 < j7)) && x4)))] ∧ aL ⟨H0, [lo0p], []⟩ H [(lo0p, 1, List.map (eI) aA)]) ?_ ?_
    · refine lK 4 ?_
      refine mH (t := 19) (e := decide (a1 < j7)) (by kernel_rfl) (fun hg6 => ?_) (fun hg6 => ?_)
      · refine cA 7 [0 ≤ j7 ∧ j7 < (lN aA)] ⟨(c2 hg6), trivial⟩ ?_
        refine iV 0 lo0p 1 (0 + Int.toNat j7) (eI (gD aA j7)) (eI (gD aA j7)) (List.map (eI) aA) (by kernel_rfl) (by kernel_rfl) (by kernel_rfl) hO (by kernel_rfl) (bV (c2 hg6)) ?_
        refine cA 12 [0 ≤ (wR (j7 - (1 : Int))) ∧ (wR (j7 - (1 : Int))) < (lN aA)] ⟨(c3 hg6), trivial⟩ ?_
        refine iV 0 lo0p 1 (0 + Int.toNat (wR (j7 - (1 : Int)))) (eI (gD aA (wR (j7 - (1 : Int))))) (eI (gD aA (wR (j7 - (1 : Int))))) (List.map (eI) aA) (by kernel_rfl) (by kernel_rfl) (by kernel_rfl) hO (by kernel_rfl) (bV (c3 hg6)) ?_
        refine mV 70 [(eI (gD aA j7)), (eI (gD aA (wR (j7 - (1 : Int)))))] (aF x4) (by kernel_rfl) (by kernel_rfl) (eU (gD aA j7) (gD aA (wR (j7 - (1 : Int)))) _ (iZ hx5 hg6)) hO ?_
        intro H hO
        refine jC ?_
        exact ⟨⟨[(0, (.msl 1 lo0p 0 (List.length aA))), (1, (eI a1)), (2, (eI b2)), (6, (eI i6)), (7, (eI j7)), (30, (aF x4))], by kernel_rfl, rfl, ⟨aN.refl _, aN.refl _, aN.refl _, aN.refl _, aN.refl _, aN.eq (congrArg aF (lW hg6 rfl).symm), trivial⟩⟩, hO⟩
      refine jC ?_
      exact ⟨⟨[(0, (.msl 1 lo0p 0 (List.length aA))), (1, (eI a1)), (2, (eI b2)), (6, (eI i6)), (7, (eI j7)), (30, (aF false))], by kernel_rfl, rfl, ⟨aN.refl _, aN.refl _, aN.refl _, aN.refl _, aN.refl _, aN.eq (congrArg aF (lW hg6 rfl).symm), trivial⟩⟩, hO⟩
    · rintro T H ⟨hT, hO⟩
      refine cW hT ?_
      clear hT
      refine aI (aH ?_)
      refine bM h2 (fun h2 => ?_) (fun h2 => ?_)
      · refine bL ?_
        refine bG [(0, (.msl 1 lo0p 0 (List.length aA))), (1, (eI a1)), (2, (eI b2)), (6, (eI i6)), (7, (eI j7))] ?_
        refine aO ?_
        refine cG 3 ?_
        refine fG (fH []) aD 18 ?_
        obtain ⟨c8, h2⟩ := aW h2
        refine cA 9 [0 ≤ (wR (j7 - (1 : Int))) ∧ (wR (j7 - (1 : Int))) < (lN aA)] ⟨c8, trivial⟩ ?_
        refine fE 0 lo0p 1 (0 + Int.toNat (wR (j7 - (1 : Int)))) (eI (gD aA (wR (j7 - (1 : Int))))) (eI (gD aA (wR (j7 - (1 : Int))))) (List.map (eI) aA) hO (bV c8) ?_
        obtain ⟨c9, h2⟩ := aW h2
        refine cA 13 [0 ≤ j7 ∧ j7 < (lN aA)] ⟨c9, trivial⟩ ?_
        refine fE 0 lo0p 1 (0 + Int.toNat j7) (eI (gD aA j7)) (eI (gD aA j7)) (List.map (eI) aA) hO (bV c9) ?_
        obtain ⟨c10, h2⟩ := aW h2
        refine cA 15 [0 ≤ j7 ∧ j7 < (lN aA)] ⟨c10, trivial⟩ ?_
        refine jX 0 lo0p 1 (0 + Int.toNat j7) (eI (gD aA j7)) (eI (gD aA (wR (j7 - (1 : Int))))) (List.map (eI) aA) [(lo0p, 1, List.map (eI) (List.set aA (Int.toNat j7) (gD aA (wR (j7 - (1 : Int))))))] hO (bV c10) (by simp only [List.set, fZ]) ?_
        intro H hO
        replace hN : List.length (List.set aA (Int.toNat j7) (gD aA (wR (j7 - (1 : Int))))) = N0 := by simpa using hN
        obtain ⟨c11, h2⟩ := aW h2
        refine cA 17 [0 ≤ (wR (j7 - (1 : Int))) ∧ (wR (j7 - (1 : Int))) < (lN aA)] ⟨c11, trivial⟩ ?_
        refine jX 0 lo0p 1 (0 + Int.toNat (wR (j7 - (1 : Int)))) (eI (gD (List.set aA (Int.toNat j7) (gD aA (wR (j7 - (1 : Int))))) (wR (j7 - (1 : Int))))) (eI (gD aA j7)) (List.map (eI) (List.set aA (Int.toNat j7) (gD aA (wR (j7 - (1 : Int)))))) [(lo0p, 1, List.map (eI) (List.set (List.set aA (Int.toNat j7) (gD aA (wR (j7 - (1 : Int))))) (Int.toNat (wR (j7 - (1 : Int)))) (gD aA j7)))] hO (mG c11 (by simp [])) (by simp only [List.set, fZ]) ?_
        intro H hO
        replace hN : List.length (List.set (List.set aA (Int.toNat j7) (gD aA (wR (j7 - (1 : Int))))) (Int.toNat (wR (j7 - (1 : Int)))) (gD aA j7)) = N0 := by simpa using hN
        refine lX (by kernel_rfl) ?_
        refine cW (l := [(0, (.msl 1 lo0p 0 (List.length (List.set (List.set aA (Int.toNat j7) (gD aA (wR (j7 - (1 : Int))))) (Int.toNat (wR (j7 - (1 : Int)))) (gD aA j7))))), (1, (eI a1)), (2, (eI b2)), (6, (eI i6)), (7, (eI j7))]) ⟨[(0, (.msl 1 lo0p 0 (List.length aA))), (1, (eI a1)), (2, (eI b2)), (6, (eI i6)), (7, (eI j7))], by kernel_rfl, rfl, ⟨aN.eq (by simp []), aN.refl _, aN.refl _, aN.refl _, aN.refl _, trivial⟩⟩ ?_
        refine aI (aZ (aH (?_)))
        refine aV aD 3 ?_
        refine bD ?_
        exact aI (aH (⟨rfl, _, (oI h2).symm, .eq (by kernel_rfl), hO, hN⟩))
      refine gZ 2 ?_
      obtain rfl := oI h2
      obtain rfl : _ = rr1 := ho1
      replace h1 : fS aA a1 b2 i6 = some out1 := h1
      exact aI (aX (aX (bX (aZ (aH (⟨rfl, _, .eq (by kernel_rfl), hO, hN, h1⟩))))))
  refine gZ 0 ?_
  obtain rfl := oI h1
  obtain rfl : _ = rr0 := ho0
  replace h0 : some aA = some r := h0
  obtain rfl := oI h0
  exact aI (aX (aX (bX (wS (x := (.tup [])) (by kernel_rfl) (aN.refl _) ⟨rfl, hO.ext, hO.at 0 (by kernel_rfl), by first | rfl | (simp only [List.length_map]; exact hN.trans hN0)⟩))))

theorem pM (lo0p : Nat) (aA : (List Int)) (lo1 : Int) (hi2 : Int) (bC : Int) (r : List Int) (h0 : eY aA lo1 hi2 bC = some r) : mP Try.prog 105 lo0p 1 (List.map (eI) aA) (List.map (eI) r) [(.msl 1 lo0p 0 (List.length aA)), (eI lo1), (eI hi2), (eI bC)] (.tup []) := by
  intro H0 hl0
  refine dD Try.func105 ?_
  have hO := aL.pI hl0
  clear hl0
  obtain ⟨N0, hN0⟩ : ∃ n, n = List.length aA := ⟨_, rfl⟩
  have hN : List.length aA = N0 := hN0.symm
  unfold eY at h0
  refine aU aD 2 [1] [(8, (eI lo1))] ?_
  refine cG 0 ?_
  refine fW [(0, (.msl 1 lo0p 0 (List.length aA))), (2, (eI hi2)), (3, (eI bC)), (8, (eI lo1))] ?_
  refine eS (fun T H => ∃ aA : List Int, ∃ bY : Int, Has T [(0, (.msl 1 lo0p 0 (List.length aA))), (2, (eI hi2)), (3, (eI bC)), (8, (eI bY))] ∧ aL ⟨H0, [lo0p], []⟩ H [(lo0p, 1, List.map (eI) aA)] ∧ List.length aA = N0 ∧ kA aA hi2 bC bY = some r) ?_ ⟨aA, lo1, .eq (by kernel_rfl), hO, hN, h0⟩
  clear hO hN h0
  rintro T H ⟨aA, bY, hT, hO, hN, h0⟩
  refine bF hT ?_
  clear hT
  unfold kA at h0
  obtain ⟨rr0, hl0, h0⟩ := aY h0
  refine dF (by kernel_rfl) (fun (s : List Int × Int) T H => Has T [(0, (.msl 1 lo0p 0 (List.length s.1))), (2, (eI hi2)), (3, (eI bC)), (8, (eI s.2))] ∧ aL ⟨H0, [lo0p], []⟩ H [(lo0p, 1, List.map (eI) s.1)] ∧ List.length s.1 = N0) hl0 ⟨.eq (by kernel_rfl), hO, hN⟩ ?_
  clear hO hN
  rintro k0 s out1 T H ⟨hT, hO, hN⟩ h1 ho0
  obtain ⟨aA, bY⟩ := s
  replace h1 : cU hi2 bC aA bY = some out1 := h1
  try dsimp only at hT
  refine bF hT ?_
  clear hT
  unfold cU at h1
  refine cG 1 ?_
  refine aU aD 4 [] [(9, (eI (wR ((wR ((2 : Int) * bY)) + (1 : Int)))))] ?_
  refine aO ?_
  refine aU aD 3 [] [(16, (aF (decide (hi2 ≤ (wR ((wR ((2 : Int) * bY)) + (1 : Int)))))))] ?_
  refine bM h1 (fun h1 => ?_) (fun h1 => ?_)
  · refine gZ 0 ?_
    obtain rfl := oI h1
    obtain rfl : _ = rr0 := ho0
    replace h0 : some aA = some r := h0
    obtain rfl := oI h0
    exact aI (aX (qZ (by kernel_rfl) (aX (bX (wS (x := (.tup [])) (by kernel_rfl) (aN.refl _) ⟨rfl, hO.ext, hO.at 0 (by kernel_rfl), by first | rfl | (simp only [List.length_map]; exact hN.trans hN0)⟩)))))
  refine bL ?_
  refine bG [(0, (.msl 1 lo0p 0 (List.length aA))), (2, (eI hi2)), (3, (eI bC)), (8, (eI bY)), (9, (eI (wR ((wR ((2 : Int) * bY)) + (1 : Int)))))] ?_
  refine gM (fun T H => ∃ aA : List Int, ∃ dQ : Int, Has T [(0, (.msl 1 lo0p 0 (List.length aA))), (2, (eI hi2)), (3, (eI bC)), (8, (eI bY)), (9, (eI dQ))] ∧ aL ⟨H0, [lo0p], []⟩ H [(lo0p, 1, List.map (eI) aA)] ∧ List.length aA = N0 ∧ fT aA hi2 bC bY dQ = some out1) ?_ ?_
  · clear hO hN h1
    rintro T H ⟨aA, dQ, hT, hO, hN, h1⟩
    refine bF hT ?_
    clear hT
    unfold fT at h1
    refine aO ?_
    refine aO ?_
    refine fG (fH [51]) aD 14 ?_
    obtain ⟨c2, h1⟩ := aW h1
    refine cA 5 [0 ≤ (wR (bC + bY)) ∧ (wR (bC + bY)) < (lN aA)] ⟨c2, trivial⟩ ?_
    refine fE 0 lo0p 1 (0 + Int.toNat (wR (bC + bY))) (eI (gD aA (wR (bC + bY)))) (eI (gD aA (wR (bC + bY)))) (List.map (eI) aA) hO (bV c2) ?_
    obtain ⟨c3, h1⟩ := aW h1
    refine cA 11 [0 ≤ (wR (bC + dQ)) ∧ (wR (bC + dQ)) < (lN aA)] ⟨c3, trivial⟩ ?_
    refine fE 0 lo0p 1 (0 + Int.toNat (wR (bC + dQ))) (eI (gD aA (wR (bC + dQ)))) (eI (gD aA (wR (bC + dQ)))) (List.map (eI) aA) hO (bV c3) ?_
    obtain ⟨x4, hx5, h1⟩ := aY h1
    refine DQ (eU (gD aA (wR (bC + bY))) (gD aA (wR (bC + dQ))) _ hx5) hO ?_
    intro H hO
    refine jC ?_
    refine bS [] [(52, (aF (!x4)))] ?_
    refine bM h1 (fun h1 => ?_) (fun h1 => ?_)
    · refine bH ?_
      obtain rfl := oI h1
      obtain rfl : _ = rr0 := ho0
      replace h0 : some aA = some r := h0
      obtain rfl := oI h0
      exact aI (aT (bN (aT (bN (jZ (x := (.tup [])) (by kernel_rfl) (aN.refl _) ⟨rfl, hO.ext, hO.at 0 (by kernel_rfl), by first | rfl | (simp only [List.length_map]; exact hN.trans hN0)⟩)))))
    refine bL ?_
    refine bG [(0, (.msl 1 lo0p 0 (List.length aA))), (2, (eI hi2)), (3, (eI bC)), (8, (eI bY)), (9, (eI dQ))] ?_
    refine aO ?_
    refine fG (fH []) aD 24 ?_
    obtain ⟨c8, h1⟩ := aW h1
    refine cA 13 [0 ≤ (wR (bC + dQ)) ∧ (wR (bC + dQ)) < (lN aA)] ⟨c8, trivial⟩ ?_
    refine fE 0 lo0p 1 (0 + Int.toNat (wR (bC + dQ))) (eI (gD aA (wR (bC + dQ)))) (eI (gD aA (wR (bC + dQ)))) (List.map (eI) aA) hO (bV c8) ?_
    obtain ⟨c9, h1⟩ := aW h1
    refine cA 19 [0 ≤ (wR (bC + bY)) ∧ (wR (bC + bY)) < (lN aA)] ⟨c9, trivial⟩ ?_
    refine fE 0 lo0p 1 (0 + Int.toNat (wR (bC + bY))) (eI (gD aA (wR (bC + bY)))) (eI (gD aA (wR (bC + bY)))) (List.map (eI) aA) hO (bV c9) ?_
    obtain ⟨c10, h1⟩ := aW h1
    refine cA 21 [0 ≤ (wR (bC + bY)) ∧ (wR (bC + bY)) < (lN aA)] ⟨c10, trivial⟩ ?_
    refine jX 0 lo0p 1 (0 + Int.toNat (wR (bC + bY))) (eI (gD aA (wR (bC + bY)))) (eI (gD aA (wR (bC + dQ)))) (List.map (eI) aA) [(lo0p, 1, List.map (eI) (List.set aA (Int.toNat (wR (bC + bY))) (gD aA (wR (bC + dQ)))))] hO (bV c10) (by simp only [List.set, fZ]) ?_
    intro H hO
    replace hN : List.length (List.set aA (Int.toNat (wR (bC + bY))) (gD aA (wR (bC + dQ)))) = N0 := by simpa using hN
    obtain ⟨c11, h1⟩ := aW h1
    refine cA 23 [0 ≤ (wR (bC + dQ)) ∧ (wR (bC + dQ)) < (lN aA)] ⟨c11, trivial⟩ ?_
    refine jX 0 lo0p 1 (0 + Int.toNat (wR (bC + dQ))) (eI (gD (List.set aA (Int.toNat (wR (bC + bY))) (gD aA (wR (bC + dQ)))) (wR (bC + dQ)))) (eI (gD aA (wR (bC + bY)))) (List.map (eI) (List.set aA (Int.toNat (wR (bC + bY))) (gD aA (wR (bC + dQ))))) [(lo0p, 1, List.map (eI) (List.set (List.set aA (Int.toNat (wR (bC + bY))) (gD aA (wR (bC + dQ)))) (Int.toNat (wR (bC + dQ))) (gD aA (wR (bC + bY)))))] hO (mG c11 (by simp [])) (by simp only [List.set, fZ]) ?_
    intro H hO
    replace hN : List.length (List.set (List.set aA (Int.toNat (wR (bC + bY))) (gD aA (wR (bC + dQ)))) (Int.toNat (wR (bC + dQ))) (gD aA (wR (bC + bY)))) = N0 := by simpa using hN
    refine lX (by kernel_rfl) ?_
    refine cW (l := [(0, (.msl 1 lo0p 0 (List.length (List.set (List.set aA (Int.toNat (wR (bC + bY))) (gD aA (wR (bC + dQ)))) (Int.toNat (wR (bC + dQ))) (gD aA (wR (bC + bY))))))), (2, (eI hi2)), (3, (eI bC)), (9, (eI dQ))]) ⟨[(0, (.msl 1 lo0p 0 (List.length aA))), (2, (eI hi2)), (3, (eI bC)), (9, (eI dQ))], by kernel_rfl, rfl, ⟨aN.eq (by simp []), aN.refl _, aN.refl _, aN.refl _, trivial⟩⟩ ?_
    refine aI (aH (?_))
    refine aV aD 2 ?_
    refine bD ?_
    exact aI (aZ (aH (⟨rfl, _, (oI h1).symm, .eq (by kernel_rfl), hO, hN⟩)))
  refine aO ?_
  obtain ⟨c12, h1⟩ := aW h1
  obtain ⟨c13, h1⟩ := aW h1
  obtain ⟨x14, hx15, h1⟩ := aY h1
  refine fG (fH []) aD 20 ?_
  refine nV (K := fun T H => Has (lift T) [(0, (.msl 1 lo0p 0 (List.length aA))), (2, (eI hi2)), (3, (eI bC)), (8, (eI bY)), (9, (eI (wR ((wR ((2 : Int) * bY)) + (1 : Int))))), (36, (aF ((decide ((wR ((wR ((wR ((2 : Int) * bY)) + (1 : Int))) + (1 : Int))) < hi2)) && x14)))] ∧ aL ⟨H0, [lo0p], []⟩ H [(lo0p, 1, List.map (eI) aA)]) ?_ ?_
  · refine lK 5 ?_
    refine mH (t := 21) (e := decide ((wR ((wR ((wR ((2 : Int) * bY)) + (1 : Int))) + (1 : Int))) < hi2)) (by kernel_rfl) (fun hg16 => ?_) (fun hg16 => ?_)
    · refine cA 10 [0 ≤ (wR (bC + (wR ((wR ((2 : Int) * bY)) + (1 : Int))))) ∧ (wR (bC + (wR ((wR ((2 : Int) * bY)) + (1 : Int))))) < (lN aA)] ⟨(c12 hg16), trivial⟩ ?_
      refine iV 0 lo0p 1 (0 + Int.toNat (wR (bC + (wR ((wR ((2 : Int) * bY)) + (1 : Int)))))) (eI (gD aA (wR (bC + (wR ((wR ((2 : Int) * bY)) + (1 : Int))))))) (eI (gD aA (wR (bC + (wR ((wR ((2 : Int) * bY)) + (1 : Int))))))) (List.map (eI) aA) (by kernel_rfl) (by kernel_rfl) (by kernel_rfl) hO (by kernel_rfl) (bV (c12 hg16)) ?_
      refine cA 17 [0 ≤ (wR ((wR (bC + (wR ((wR ((2 : Int) * bY)) + (1 : Int))))) + (1 : Int))) ∧ (wR ((wR (bC + (wR ((wR ((2 : Int) * bY)) + (1 : Int))))) + (1 : Int))) < (lN aA)] ⟨(c13 hg16), trivial⟩ ?_
      refine iV 0 lo0p 1 (0 + Int.toNat (wR ((wR (bC + (wR ((wR ((2 : Int) * bY)) + (1 : Int))))) + (1 : Int)))) (eI (gD aA (wR ((wR (bC + (wR ((wR ((2 : Int) * bY)) + (1 : Int))))) + (1 : Int))))) (eI (gD aA (wR ((wR (bC + (wR ((wR ((2 : Int) * bY)) + (1 : Int))))) + (1 : Int))))) (List.map (eI) aA) (by kernel_rfl) (by kernel_rfl) (by kernel_rfl) hO (by kernel_rfl) (bV (c13 hg16)) ?_
      refine mV 70 [(eI (gD aA (wR (bC + (wR ((wR ((2 : Int) * bY)) + (1 : Int))))))), (eI (gD aA (wR ((wR (bC + (wR ((wR ((2 : Int) * bY)) + (1 : Int))))) + (1 : Int)))))] (aF x14) (by kernel_rfl) (by kernel_rfl) (eU (gD aA (wR (bC + (wR ((wR ((2 : Int) * bY)) + (1 : Int)))))) (gD aA (wR ((wR (bC + (wR ((wR ((2 : Int) * bY)) + (1 : Int))))) + (1 : Int)))) _ (iZ hx15 hg16)) hO ?_
      intro H hO
      refine jC ?_
      exact ⟨⟨[(0, (.msl 1 lo0p 0 (List.length aA))), (2, (eI hi2)), (3, (eI bC)), (8, (eI bY)), (9, (eI (wR ((wR ((2 : Int) * bY)) + (1 : Int))))), (36, (aF x14))], by kernel_rfl, rfl, ⟨aN.refl _, aN.refl _, aN.refl _, aN.refl _, aN.refl _, aN.eq (congrArg aF (lW hg16 rfl).symm), trivial⟩⟩, hO⟩
    refine jC ?_
    exact ⟨⟨[(0, (.msl 1 lo0p 0 (List.length aA))), (2, (eI hi2)), (3, (eI bC)), (8, (eI bY)), (9, (eI (wR ((wR ((2 : Int) * bY)) + (1 : Int))))), (36, (aF false))], by kernel_rfl, rfl, ⟨aN.refl _, aN.refl _, aN.refl _, aN.refl _, aN.refl _, aN.eq (congrArg aF (lW hg16 rfl).symm), trivial⟩⟩, hO⟩
  · rintro T H ⟨hT, hO⟩
    refine cW hT ?_
    clear hT
    refine aI (aH ?_)
    refine bM h1 (fun h1 => ?_) (fun h1 => ?_)
    · refine aV aD 3 ?_
      refine bD ?_
      exact aI (aH (⟨rfl, _, _, .eq (by kernel_rfl), hO, hN, h1⟩))
    refine bL ?_
    exact aI (aH (⟨rfl, _, _, .eq (by kernel_rfl), hO, hN, h1⟩))

theorem vB (lo0p : Nat) (aA : (List Int)) (a1 : Int) (b2 : Int) (r : List Int) (h0 : iT aA a1 b2 = some r) : mP Try.prog 80 lo0p 1 (List.map (eI) aA) (List.map (eI) r) [(.msl 1 lo0p 0 (List.length aA)), (eI a1), (eI b2)] (.tup []) := by
  intro H0 hl0
  refine dD Try.func80 ?_
  have hO := aL.pI hl0
  clear hl0
  obtain ⟨N0, hN0⟩ : ∃ n, n = List.length aA := ⟨_, rfl⟩
  have hN : List.length aA = N0 := hN0.symm
  unfold iT at h0
  refine aU aD 2 [] [(6, (eI a1))] ?_
  refine aU aD 1 [] [(7, (eI (0 : Int)))] ?_
  refine aU aD 4 [1, 2] [(8, (eI (wR (b2 - a1))))] ?_
  refine gM (fun T H => ∃ aA : List Int, ∃ bK : Int, ∃ lo7 : Int, ∃ hi8 : Int, Has T [(0, (.msl 1 lo0p 0 (List.length aA))), (6, (eI bK)), (7, (eI lo7)), (8, (eI hi8))] ∧ aL ⟨H0, [lo0p], []⟩ H [(lo0p, 1, List.map (eI) aA)] ∧ List.length aA = N0 ∧ iN aA bK lo7 hi8 = some r) ?_ ?_
  · clear hO hN h0
    rintro T H ⟨aA, bK, lo7, hi8, hT, hO, hN, h0⟩
    refine bF hT ?_
    clear hT
    unfold iN at h0
    refine aU aD 3 [8] [(10, (eI (wR (hi8 - (1 : Int)))))] ?_
    refine cG 2 ?_
    refine fW [(0, (.msl 1 lo0p 0 (List.length aA))), (6, (eI bK)), (7, (eI lo7)), (10, (eI (wR (hi8 - (1 : Int)))))] ?_
    refine eS (fun T H => ∃ aA : List Int, ∃ i10 : Int, Has T [(0, (.msl 1 lo0p 0 (List.length aA))), (6, (eI bK)), (7, (eI lo7)), (10, (eI i10))] ∧ aL ⟨H0, [lo0p], []⟩ H [(lo0p, 1, List.map (eI) aA)] ∧ List.length aA = N0 ∧ kC aA bK lo7 i10 = some r) ?_ ⟨aA, wR (hi8 - (1 : Int)), .eq (by kernel_rfl), hO, hN, h0⟩
    clear hO hN h0
    rintro T H ⟨aA, i10, hT, hO, hN, h0⟩
    refine bF hT ?_
    clear hT
    unfold kC at h0
    obtain ⟨rr0, hl0, h0⟩ := aY h0
    refine dF (by kernel_rfl) (fun (s : List Int × Int) T H => Has T [(0, (.msl 1 lo0p 0 (List.length s.1))), (6, (eI bK)), (7, (eI lo7)), (10, (eI s.2))] ∧ aL ⟨H0, [lo0p], []⟩ H [(lo0p, 1, List.map (eI) s.1)] ∧ List.length s.1 = N0) hl0 ⟨.eq (by kernel_rfl), hO, hN⟩ ?_
    clear hO hN
    rintro k0 s out1 T H ⟨hT, hO, hN⟩ h1 ho0
    obtain ⟨aA, i10⟩ := s
    replace h1 : dS bK lo7 aA i10 = some out1 := h1
    try dsimp only at hT
    refine bF hT ?_
    clear hT
    unfold dS at h1
    refine aO ?_
    refine aU aD 2 [] [(30, (aF (decide ((0 : Int) ≤ i10))))] ?_
    refine bM h1 (fun h1 => ?_) (fun h1 => ?_)
    · refine bL ?_
      refine bG [(0, (.msl 1 lo0p 0 (List.length aA))), (6, (eI bK)), (7, (eI lo7)), (10, (eI i10))] ?_
      refine aO ?_
      refine cG 3 ?_
      refine aO ?_
      refine fG (fH []) aD 20 ?_
      obtain ⟨c2, h1⟩ := aW h1
      refine cA 11 [0 ≤ (wR (bK + i10)) ∧ (wR (bK + i10)) < (lN aA)] ⟨c2, trivial⟩ ?_
      refine fE 0 lo0p 1 (0 + Int.toNat (wR (bK + i10))) (eI (gD aA (wR (bK + i10)))) (eI (gD aA (wR (bK + i10)))) (List.map (eI) aA) hO (bV c2) ?_
      obtain ⟨c3, h1⟩ := aW h1
      refine cA 15 [0 ≤ bK ∧ bK < (lN aA)] ⟨c3, trivial⟩ ?_
      refine fE 0 lo0p 1 (0 + Int.toNat bK) (eI (gD aA bK)) (eI (gD aA bK)) (List.map (eI) aA) hO (bV c3) ?_
      obtain ⟨c4, h1⟩ := aW h1
      refine cA 17 [0 ≤ bK ∧ bK < (lN aA)] ⟨c4, trivial⟩ ?_
      refine jX 0 lo0p 1 (0 + Int.toNat bK) (eI (gD aA bK)) (eI (gD aA (wR (bK + i10)))) (List.map (eI) aA) [(lo0p, 1, List.map (eI) (List.set aA (Int.toNat bK) (gD aA (wR (bK + i10)))))] hO (bV c4) (by simp only [List.set, fZ]) ?_
      intro H hO
      replace hN : List.length (List.set aA (Int.toNat bK) (gD aA (wR (bK + i10)))) = N0 := by simpa using hN
      obtain ⟨c5, h1⟩ := aW h1
      refine cA 19 [0 ≤ (wR (bK + i10)) ∧ (wR (bK + i10)) < (lN aA)] ⟨c5, trivial⟩ ?_
      refine jX 0 lo0p 1 (0 + Int.toNat (wR (bK + i10))) (eI (gD (List.set aA (Int.toNat bK) (gD aA (wR (bK + i10)))) (wR (bK + i10)))) (eI (gD aA bK)) (List.map (eI) (List.set aA (Int.toNat bK) (gD aA (wR (bK + i10))))) [(lo0p, 1, List.map (eI) (List.set (List.set aA (Int.toNat bK) (gD aA (wR (bK + i10)))) (Int.toNat (wR (bK + i10))) (gD aA bK)))] hO (mG c5 (by simp [])) (by simp only [List.set, fZ]) ?_
      intro H hO
      replace hN : List.length (List.set (List.set aA (Int.toNat bK) (gD aA (wR (bK + i10)))) (Int.toNat (wR (bK + i10))) (gD aA bK)) = N0 := by simpa using hN
      refine lX (by kernel_rfl) ?_
      refine cW (l := [(0, (.msl 1 lo0p 0 (List.length (List.set (List.set aA (Int.toNat bK) (gD aA (wR (bK + i10)))) (Int.toNat (wR (bK + i10))) (gD aA bK))))), (6, (eI bK)), (7, (eI lo7)), (10, (eI i10))]) ⟨[(0, (.msl 1 lo0p 0 (List.length aA))), (6, (eI bK)), (7, (eI lo7)), (10, (eI i10))], by kernel_rfl, rfl, ⟨aN.eq (by simp []), aN.refl _, aN.refl _, aN.refl _, trivial⟩⟩ ?_
      refine aI (aH (?_))
      refine aV aD 5 ?_
      refine bO 4 ?_
      obtain ⟨x6, hx7, h1⟩ := aY h1
      refine vE [(lo0p, 1, List.map (eI) x6)] 0 (pM lo0p (List.set (List.set aA (Int.toNat bK) (gD aA (wR (bK + i10)))) (Int.toNat (wR (bK + i10))) (gD aA bK)) lo7 i10 bK _ hx7) hO ?_
      intro H hO hl8
      simp only [List.length_map] at hl8
      replace hN := hl8.trans hN
      refine fI ?_
      refine cW (l := [(0, (.msl 1 lo0p 0 (List.length x6))), (6, (eI bK)), (7, (eI lo7)), (10, (eI i10))]) ⟨[(0, (.msl 1 lo0p 0 (List.length (List.set (List.set aA (Int.toNat bK) (gD aA (wR (bK + i10)))) (Int.toNat (wR (bK + i10))) (gD aA bK))))), (6, (eI bK)), (7, (eI lo7)), (10, (eI i10))], by kernel_rfl, rfl, ⟨aN.eq (by simp [hl8]), aN.refl _, aN.refl _, aN.refl _, trivial⟩⟩ ?_
      refine aI (aZ (aH (?_)))
      refine aV aD 3 ?_
      refine bD ?_
      exact aI (aH (⟨rfl, _, (oI h1).symm, .eq (by kernel_rfl), hO, hN⟩))
    refine gZ 2 ?_
    obtain rfl := oI h1
    obtain rfl : _ = rr0 := ho0
    replace h0 : some aA = some r := h0
    obtain rfl := oI h0
    exact aI (aX (aX (bX (wS (x := (.tup [])) (by kernel_rfl) (aN.refl _) ⟨rfl, hO.ext, hO.at 0 (by kernel_rfl), by first | rfl | (simp only [List.length_map]; exact hN.trans hN0)⟩))))
  refine aO ?_
  refine aV aD 4 ?_
  obtain ⟨c9, h0⟩ := aW h0
  refine nG [(2 : Int) ≠ 0] ⟨c9, trivial⟩ ?_
  refine bS [] [(9, (eI (wR (Int.tdiv (wR ((wR (b2 - a1)) - (1 : Int))) (2 : Int)))))] ?_
  refine cG 0 ?_
  refine fW [(0, (.msl 1 lo0p 0 (List.length aA))), (6, (eI a1)), (7, (eI (0 : Int))), (8, (eI (wR (b2 - a1)))), (9, (eI (wR (Int.tdiv (wR ((wR (b2 - a1)) - (1 : Int))) (2 : Int)))))] ?_
  refine eS (fun T H => ∃ aA : List Int, ∃ bK : Int, ∃ lo7 : Int, ∃ hi8 : Int, ∃ i9 : Int, Has T [(0, (.msl 1 lo0p 0 (List.length aA))), (6, (eI bK)), (7, (eI lo7)), (8, (eI hi8)), (9, (eI i9))] ∧ aL ⟨H0, [lo0p], []⟩ H [(lo0p, 1, List.map (eI) aA)] ∧ List.length aA = N0 ∧ kB aA bK lo7 hi8 i9 = some r) ?_ ⟨aA, a1, (0 : Int), wR (b2 - a1), wR (Int.tdiv (wR ((wR (b2 - a1)) - (1 : Int))) (2 : Int)), .eq (by kernel_rfl), hO, hN, h0⟩
  clear hO hN h0
  rintro T H ⟨aA, bK, lo7, hi8, i9, hT, hO, hN, h0⟩
  refine bF hT ?_
  clear hT
  unfold kB at h0
  obtain ⟨rr0, hl0, h0⟩ := aY h0
  refine dF (by kernel_rfl) (fun (s : List Int × Int) T H => Has T [(0, (.msl 1 lo0p 0 (List.length s.1))), (6, (eI bK)), (7, (eI lo7)), (8, (eI hi8)), (9, (eI s.2))] ∧ aL ⟨H0, [lo0p], []⟩ H [(lo0p, 1, List.map (eI) s.1)] ∧ List.length s.1 = N0) hl0 ⟨.eq (by kernel_rfl), hO, hN⟩ ?_
  clear hO hN
  rintro k0 s out1 T H ⟨hT, hO, hN⟩ h1 ho0
  obtain ⟨aA, i9⟩ := s
  replace h1 : dU bK lo7 hi8 aA i9 = some out1 := h1
  try dsimp only at hT
  refine bF hT ?_
  clear hT
  unfold dU at h1
  refine aO ?_
  refine aU aD 2 [] [(19, (aF (decide ((0 : Int) ≤ i9))))] ?_
  refine bM h1 (fun h1 => ?_) (fun h1 => ?_)
  · refine bL ?_
    refine bG [(0, (.msl 1 lo0p 0 (List.length aA))), (6, (eI bK)), (7, (eI lo7)), (8, (eI hi8)), (9, (eI i9))] ?_
    refine aO ?_
    refine cG 1 ?_
    refine aV aD 5 ?_
    refine bO 4 ?_
    obtain ⟨x11, hx12, h1⟩ := aY h1
    refine vE [(lo0p, 1, List.map (eI) x11)] 0 (pM lo0p aA i9 hi8 bK _ hx12) hO ?_
    intro H hO hl13
    simp only [List.length_map] at hl13
    replace hN := hl13.trans hN
    refine fI ?_
    refine cW (l := [(0, (.msl 1 lo0p 0 (List.length x11))), (6, (eI bK)), (7, (eI lo7)), (8, (eI hi8)), (9, (eI i9))]) ⟨[(0, (.msl 1 lo0p 0 (List.length aA))), (6, (eI bK)), (7, (eI lo7)), (8, (eI hi8)), (9, (eI i9))], by kernel_rfl, rfl, ⟨aN.eq (by simp [hl13]), aN.refl _, aN.refl _, aN.refl _, aN.refl _, trivial⟩⟩ ?_
    refine aI (aZ (aH (?_)))
    refine aV aD 3 ?_
    refine bD ?_
    exact aI (aH (⟨rfl, _, (oI h1).symm, .eq (by kernel_rfl), hO, hN⟩))
  refine gZ 0 ?_
  obtain rfl := oI h1
  obtain rfl : _ = rr0 := ho0
  replace h0 : iN aA bK lo7 hi8 = some r := h0
  exact aI (aX (aX (bX (aH (⟨rfl, _, _, _, _, .eq (by kernel_rfl), hO, hN, h0⟩)))))

theorem xX (yX : Int) (r : Int) (h0 : kL yX = some r) : dH Try.prog 106 [(eI yX)] (cP .u64 r) := by
  intro H0
  refine dD Try.func106 ?_
  have hO := aL.start H0
  unfold kL at h0
  refine aU aD 1 [] [] ?_
  refine aO ?_
  refine aV aD 5 ?_
  refine bO 2 ?_
  obtain ⟨x1, hx2, h0⟩ := aY h0
  refine dO (yG (IntKind.u64.wrap yX) _ hx2) hO ?_
  intro H hO
  obtain ⟨c4, h0⟩ := aW h0
  refine nG [0 ≤ x1] ⟨c4, trivial⟩ ?_
  refine bG [(2, (cP .u64 (IntKind.u64.wrap ((1 : Int) * 2 ^ (min (Int.toNat x1) 64)))))] ?_
  refine bH ?_
  obtain rfl := oI h0
  exact aI (Q_r hO)

theorem yN (lo0p : Nat) (r0 : Int) (r : (Int × Int)) (h0 : kU r0 = some r) : wM Try.prog 107 [(.lp lo0p 0 0)] [(lo0p, 1, [(cP .u64 r0)])] (fun x L => x = (cP .u64 r.1) ∧ L = [(lo0p, 1, [(cP .u64 r.2)])]) := by
  intro F H0 hO
  obtain ⟨Fh, Fe, Fg⟩ := F
  refine dD Try.func107 ?_
  unfold kU at h0
  refine aU aD 1 [] [] ?_
  refine aO ?_
  refine fG (fH []) aD 10 ?_
  refine lK 2 ?_
  refine fE 0 lo0p 1 0 (cP .u64 r0) (cP .u64 r0) [(cP .u64 r0)] hO rfl ?_
  refine lK 5 ?_
  refine fE 0 lo0p 1 0 (cP .u64 r0) (cP .u64 r0) [(cP .u64 r0)] hO rfl ?_
  obtain ⟨c1, h0⟩ := aW h0
  refine cA 9 [0 ≤ (13 : Int)] ⟨c1, trivial⟩ ?_
  refine jX 0 lo0p 1 0 (cP .u64 r0) (cP .u64 (bJ .xor .u64 r0 (IntKind.u64.wrap (r0 * 2 ^ (min (Int.toNat (13 : Int)) 64))))) [(cP .u64 r0)] [(lo0p, 1, [(cP .u64 (bJ .xor .u64 r0 (IntKind.u64.wrap (r0 * 2 ^ (min (Int.toNat (13 : Int)) 64)))))])] hO rfl (by kernel_rfl) ?_
  intro H hO
  refine lX (by kernel_rfl) ?_
  refine bS [] [] ?_
  refine aO ?_
  refine fG (fH []) aD 10 ?_
  refine lK 2 ?_
  refine fE 0 lo0p 1 0 (cP .u64 (bJ .xor .u64 r0 (IntKind.u64.wrap (r0 * 2 ^ (min (Int.toNat (13 : Int)) 64))))) (cP .u64 (bJ .xor .u64 r0 (IntKind.u64.wrap (r0 * 2 ^ (min (Int.toNat (13 : Int)) 64))))) [(cP .u64 (bJ .xor .u64 r0 (IntKind.u64.wrap (r0 * 2 ^ (min (Int.toNat (13 : Int)) 64)))))] hO rfl ?_
  refine lK 5 ?_
  refine fE 0 lo0p 1 0 (cP .u64 (bJ .xor .u64 r0 (IntKind.u64.wrap (r0 * 2 ^ (min (Int.toNat (13 : Int)) 64))))) (cP .u64 (bJ .xor .u64 r0 (IntKind.u64.wrap (r0 * 2 ^ (min (Int.toNat (13 : Int)) 64))))) [(cP .u64 (bJ .xor .u64 r0 (IntKind.u64.wrap (r0 * 2 ^ (min (Int.toNat (13 : Int)) 64)))))] hO rfl ?_
  obtain ⟨c2, h0⟩ := aW h0
  refine cA 9 [0 ≤ (7 : Int)] ⟨c2, trivial⟩ ?_
  refine jX 0 lo0p 1 0 (cP .u64 (bJ .xor .u64 r0 (IntKind.u64.wrap (r0 * 2 ^ (min (Int.toNat (13 : Int)) 64))))) (cP .u64 (bJ .xor .u64 (bJ .xor .u64 r0 (IntKind.u64.wrap (r0 * 2 ^ (min (Int.toNat (13 : Int)) 64)))) (Int.fdiv (bJ .xor .u64 r0 (IntKind.u64.wrap (r0 * 2 ^ (min (Int.toNat (13 : Int)) 64)))) (2 ^ (min (Int.toNat (7 : Int)) 64))))) [(cP .u64 (bJ .xor .u64 r0 (IntKind.u64.wrap (r0 * 2 ^ (min (Int.toNat (13 : Int)) 64)))))] [(lo0p, 1, [(cP .u64 (bJ .xor .u64 (bJ .xor .u64 r0 (IntKind.u64.wrap (r0 * 2 ^ (min (Int.toNat (13 : Int)) 64)))) (Int.fdiv (bJ .xor .u64 r0 (IntKind.u64.wrap (r0 * 2 ^ (min (Int.toNat (13 : Int)) 64)))) (2 ^ (min (Int.toNat (7 : Int)) 64)))))])] hO rfl (by kernel_rfl) ?_
  intro H hO
  refine lX (by kernel_rfl) ?_
  refine bS [] [] ?_
  refine aO ?_
  refine fG (fH []) aD 10 ?_
  refine lK 2 ?_
  refine fE 0 lo0p 1 0 (cP .u64 (bJ .xor .u64 (bJ .xor .u64 r0 (IntKind.u64.wrap (r0 * 2 ^ (min (Int.toNat (13 : Int)) 64)))) (Int.fdiv (bJ .xor .u64 r0 (IntKind.u64.wrap (r0 * 2 ^ (min (Int.toNat (13 : Int)) 64)))) (2 ^ (min (Int.toNat (7 : Int)) 64))))) (cP .u64 (bJ .xor .u64 (bJ .xor .u64 r0 (IntKind.u64.wrap (r0 * 2 ^ (min (Int.toNat (13 : Int)) 64)))) (Int.fdiv (bJ .xor .u64 r0 (IntKind.u64.wrap (r0 * 2 ^ (min (Int.toNat (13 : Int)) 64)))) (2 ^ (min (Int.toNat (7 : Int)) 64))))) [(cP .u64 (bJ .xor .u64 (bJ .xor .u64 r0 (IntKind.u64.wrap (r0 * 2 ^ (min (Int.toNat (13 : Int)) 64)))) (Int.fdiv (bJ .xor .u64 r0 (IntKind.u64.wrap (r0 * 2 ^ (min (Int.toNat (13 : Int)) 64)))) (2 ^ (min (Int.toNat (7 : Int)) 64)))))] hO rfl ?_
  refine lK 5 ?_
  refine fE 0 lo0p 1 0 (cP .u64 (bJ .xor .u64 (bJ .xor .u64 r0 (IntKind.u64.wrap (r0 * 2 ^ (min (Int.toNat (13 : Int)) 64)))) (Int.fdiv (bJ .xor .u64 r0 (IntKind.u64.wrap (r0 * 2 ^ (min (Int.toNat (13 : Int)) 64)))) (2 ^ (min (Int.toNat (7 : Int)) 64))))) (cP .u64 (bJ .xor .u64 (bJ .xor .u64 r0 (IntKind.u64.wrap (r0 * 2 ^ (min (Int.toNat (13 : Int)) 64)))) (Int.fdiv (bJ .xor .u64 r0 (IntKind.u64.wrap (r0 * 2 ^ (min (Int.toNat (13 : Int)) 64)))) (2 ^ (min (Int.toNat (7 : Int)) 64))))) [(cP .u64 (bJ .xor .u64 (bJ .xor .u64 r0 (IntKind.u64.wrap (r0 * 2 ^ (min (Int.toNat (13 : Int)) 64)))) (Int.fdiv (bJ .xor .u64 r0 (IntKind.u64.wrap (r0 * 2 ^ (min (Int.toNat (13 : Int)) 64)))) (2 ^ (min (Int.toNat (7 : Int)) 64)))))] hO rfl ?_
  obtain ⟨c3, h0⟩ := aW h0
  refine cA 9 [0 ≤ (17 : Int)] ⟨c3, trivial⟩ ?_
  refine jX 0 lo0p 1 0 (cP .u64 (bJ .xor .u64 (bJ .xor .u64 r0 (IntKind.u64.wrap (r0 * 2 ^ (min (Int.toNat (13 : Int)) 64)))) (Int.fdiv (bJ .xor .u64 r0 (IntKind.u64.wrap (r0 * 2 ^ (min (Int.toNat (13 : Int)) 64)))) (2 ^ (min (Int.toNat (7 : Int)) 64))))) (cP .u64 (bJ .xor .u64 (bJ .xor .u64 (bJ .xor .u64 r0 (IntKind.u64.wrap (r0 * 2 ^ (min (Int.toNat (13 : Int)) 64)))) (Int.fdiv (bJ .xor .u64 r0 (IntKind.u64.wrap (r0 * 2 ^ (min (Int.toNat (13 : Int)) 64)))) (2 ^ (min (Int.toNat (7 : Int)) 64)))) (IntKind.u64.wrap ((bJ .xor .u64 (bJ .xor .u64 r0 (IntKind.u64.wrap (r0 * 2 ^ (min (Int.toNat (13 : Int)) 64)))) (Int.fdiv (bJ .xor .u64 r0 (IntKind.u64.wrap (r0 * 2 ^ (min (Int.toNat (13 : Int)) 64)))) (2 ^ (min (Int.toNat (7 : Int)) 64)))) * 2 ^ (min (Int.toNat (17 : Int)) 64))))) [(cP .u64 (bJ .xor .u64 (bJ .xor .u64 r0 (IntKind.u64.wrap (r0 * 2 ^ (min (Int.toNat (13 : Int)) 64)))) (Int.fdiv (bJ .xor .u64 r0 (IntKind.u64.wrap (r0 * 2 ^ (min (Int.toNat (13 : Int)) 64)))) (2 ^ (min (Int.toNat (7 : Int)) 64)))))] [(lo0p, 1, [(cP .u64 (bJ .xor .u64 (bJ .xor .u64 (bJ .xor .u64 r0 (IntKind.u64.wrap (r0 * 2 ^ (min (Int.toNat (13 : Int)) 64)))) (Int.fdiv (bJ .xor .u64 r0 (IntKind.u64.wrap (r0 * 2 ^ (min (Int.toNat (13 : Int)) 64)))) (2 ^ (min (Int.toNat (7 : Int)) 64)))) (IntKind.u64.wrap ((bJ .xor .u64 (bJ .xor .u64 r0 (IntKind.u64.wrap (r0 * 2 ^ (min (Int.toNat (13 : Int)) 64)))) (Int.fdiv (bJ .xor .u64 r0 (IntKind.u64.wrap (r0 * 2 ^ (min (Int.toNat (13 : Int)) 64)))) (2 ^ (min (Int.toNat (7 : Int)) 64)))) * 2 ^ (min (Int.toNat (17 : Int)) 64)))))])] hO rfl (by kernel_rfl) ?_
  intro H hO
  refine lX (by kernel_rfl) ?_
  refine bS [] [] ?_
  refine aO ?_
  refine aV aD 4 ?_
  refine bO 2 ?_
  refine nR 0 lo0p 1 0 (cP .u64 (bJ .xor .u64 (bJ .xor .u64 (bJ .xor .u64 r0 (IntKind.u64.wrap (r0 * 2 ^ (min (Int.toNat (13 : Int)) 64)))) (Int.fdiv (bJ .xor .u64 r0 (IntKind.u64.wrap (r0 * 2 ^ (min (Int.toNat (13 : Int)) 64)))) (2 ^ (min (Int.toNat (7 : Int)) 64)))) (IntKind.u64.wrap ((bJ .xor .u64 (bJ .xor .u64 r0 (IntKind.u64.wrap (r0 * 2 ^ (min (Int.toNat (13 : Int)) 64)))) (Int.fdiv (bJ .xor .u64 r0 (IntKind.u64.wrap (r0 * 2 ^ (min (Int.toNat (13 : Int)) 64)))) (2 ^ (min (Int.toNat (7 : Int)) 64)))) * 2 ^ (min (Int.toNat (17 : Int)) 64))))) (cP .u64 (bJ .xor .u64 (bJ .xor .u64 (bJ .xor .u64 r0 (IntKind.u64.wrap (r0 * 2 ^ (min (Int.toNat (13 : Int)) 64)))) (Int.fdiv (bJ .xor .u64 r0 (IntKind.u64.wrap (r0 * 2 ^ (min (Int.toNat (13 : Int)) 64)))) (2 ^ (min (Int.toNat (7 : Int)) 64)))) (IntKind.u64.wrap ((bJ .xor .u64 (bJ .xor .u64 r0 (IntKind.u64.wrap (r0 * 2 ^ (min (Int.toNat (13 : Int)) 64)))) (Int.fdiv (bJ .xor .u64 r0 (IntKind.u64.wrap (r0 * 2 ^ (min (Int.toNat (13 : Int)) 64)))) (2 ^ (min (Int.toNat (7 : Int)) 64)))) * 2 ^ (min (Int.toNat (17 : Int)) 64))))) [(cP .u64 (bJ .xor .u64 (bJ .xor .u64 (bJ .xor .u64 r0 (IntKind.u64.wrap (r0 * 2 ^ (min (Int.toNat (13 : Int)) 64)))) (Int.fdiv (bJ .xor .u64 r0 (IntKind.u64.wrap (r0 * 2 ^ (min (Int.toNat (13 : Int)) 64)))) (2 ^ (min (Int.toNat (7 : Int)) 64)))) (IntKind.u64.wrap ((bJ .xor .u64 (bJ .xor .u64 r0 (IntKind.u64.wrap (r0 * 2 ^ (min (Int.toNat (13 : Int)) 64)))) (Int.fdiv (bJ .xor .u64 r0 (IntKind.u64.wrap (r0 * 2 ^ (min (Int.toNat (13 : Int)) 64)))) (2 ^ (min (Int.toNat (7 : Int)) 64)))) * 2 ^ (min (Int.toNat (17 : Int)) 64)))))] hO rfl ?_
  refine bD ?_
  refine bG [(0, (.lp lo0p 0 0)), (2, (cP .u64 (bJ .xor .u64 (bJ .xor .u64 (bJ .xor .u64 r0 (IntKind.u64.wrap (r0 * 2 ^ (min (Int.toNat (13 : Int)) 64)))) (Int.fdiv (bJ .xor .u64 r0 (IntKind.u64.wrap (r0 * 2 ^ (min (Int.toNat (13 : Int)) 64)))) (2 ^ (min (Int.toNat (7 : Int)) 64)))) (IntKind.u64.wrap ((bJ .xor .u64 (bJ .xor .u64 r0 (IntKind.u64.wrap (r0 * 2 ^ (min (Int.toNat (13 : Int)) 64)))) (Int.fdiv (bJ .xor .u64 r0 (IntKind.u64.wrap (r0 * 2 ^ (min (Int.toNat (13 : Int)) 64)))) (2 ^ (min (Int.toNat (7 : Int)) 64)))) * 2 ^ (min (Int.toNat (17 : Int)) 64))))))] ?_
  refine bH ?_
  obtain rfl := oI h0
  exact aI (BC hO ⟨rfl, rfl⟩)

theorem tA (lo0p : Nat) (aA : (List Int)) (a1 : Int) (b2 : Int) (r : List Int) (h0 : gE aA a1 b2 = some r) : mP Try.prog 81 lo0p 1 (List.map (eI) aA) (List.map (eI) r) [(.msl 1 lo0p 0 (List.length aA)), (eI a1), (eI b2)] (.tup []) := by
  intro H0 hl0
  refine dD Try.func81 ?_
  have hO := aL.pI hl0
  clear hl0
  obtain ⟨N0, hN0⟩ : ∃ n, n = List.length aA := ⟨_, rfl⟩
  have hN : List.length aA = N0 := hN0.symm
  unfold gE at h0
  refine aU aD 4 [2] [(6, (eI (wR (b2 - a1))))] ?_
  refine aU aD 2 [] [(15, (aF (decide ((8 : Int) ≤ (wR (b2 - a1))))))] ?_
  refine bM h0 (fun h0 => ?_) (fun h0 => ?_)
  · refine aO ?_
    refine aV aD 4 ?_
    refine bO 2 ?_
    refine oV 1 (cP .u64 0) (by kernel_rfl) (by kernel_rfl) hO ?_
    intro lo2 H hO
    refine lO 1 lo2 1 0 (cP .u64 0) (cP .u64 (IntKind.u64.wrap (wR (b2 - a1)))) [(cP .u64 0)] [(lo0p, 1, List.map (eI) aA), (lo2, 1, [(cP .u64 (IntKind.u64.wrap (wR (b2 - a1))))])] hO rfl (by kernel_rfl) ?_
    intro H hO
    refine fI ?_
    refine bS [15] [(7, (.lp lo2 0 0))] ?_
    refine aO ?_
    refine aV aD 3 ?_
    refine bO 1 ?_
    obtain ⟨x3, hx4, h0⟩ := aY h0
    refine dO (xX (wR (b2 - a1)) _ hx4) hO ?_
    intro H hO
    refine bD ?_
    refine bS [] [(8, (cP .u64 x3))] ?_
    refine aO ?_
    refine aV aD 7 ?_
    obtain ⟨c6, h0⟩ := aW h0
    refine nG [(4 : Int) ≠ 0] ⟨c6, trivial⟩ ?_
    refine bG [(0, (.msl 1 lo0p 0 (List.length aA))), (1, (eI a1)), (6, (eI (wR (b2 - a1)))), (7, (.lp lo2 0 0)), (8, (cP .u64 x3)), (9, (eI (wR ((wR (a1 + (wR ((wR (Int.tdiv (wR (b2 - a1)) (4 : Int))) * (2 : Int))))) - (1 : Int)))))] ?_
    refine cG 0 ?_
    refine fW [(0, (.msl 1 lo0p 0 (List.length aA))), (1, (eI a1)), (6, (eI (wR (b2 - a1)))), (7, (.lp lo2 0 0)), (8, (cP .u64 x3)), (9, (eI (wR ((wR (a1 + (wR ((wR (Int.tdiv (wR (b2 - a1)) (4 : Int))) * (2 : Int))))) - (1 : Int)))))] ?_
    refine eS (fun T H => ∃ aA : List Int, ∃ jI : Int, ∃ kP : Int, ∃ iF : Int, ∃ idx9 : Int, Has T [(0, (.msl 1 lo0p 0 (List.length aA))), (1, (eI a1)), (6, (eI jI)), (7, (.lp lo2 0 0)), (8, (cP .u64 iF)), (9, (eI idx9))] ∧ aL ⟨H0, [lo0p], []⟩ H [(lo0p, 1, List.map (eI) aA), (lo2, 1, [(cP .u64 kP)])] ∧ List.length aA = N0 ∧ iR aA a1 jI kP iF idx9 = some r) ?_ ⟨aA, wR (b2 - a1), IntKind.u64.wrap (wR (b2 - a1)), x3, wR ((wR (a1 + (wR ((wR (Int.tdiv (wR (b2 - a1)) (4 : Int))) * (2 : Int))))) - (1 : Int)), .eq (by kernel_rfl), hO, hN, h0⟩
    clear hO hN h0
    rintro T H ⟨aA, jI, kP, iF, idx9, hT, hO, hN, h0⟩
    refine bF hT ?_
    clear hT
    unfold iR at h0
    obtain ⟨rr0, hl0, h0⟩ := aY h0
    refine dF (by kernel_rfl) (fun (s : List Int × Int × Int) T H => Has T [(0, (.msl 1 lo0p 0 (List.length s.1))), (1, (eI a1)), (6, (eI jI)), (7, (.lp lo2 0 0)), (8, (cP .u64 iF)), (9, (eI s.2.2))] ∧ aL ⟨H0, [lo0p], []⟩ H [(lo0p, 1, List.map (eI) s.1), (lo2, 1, [(cP .u64 s.2.1)])] ∧ List.length s.1 = N0) hl0 ⟨.eq (by kernel_rfl), hO, hN⟩ ?_
    clear hO hN
    rintro k0 s out1 T H ⟨hT, hO, hN⟩ h1 ho0
    obtain ⟨aA, kP, idx9⟩ := s
    replace h1 : cR a1 jI iF aA kP idx9 = some out1 := h1
    try dsimp only at hT
    refine bF hT ?_
    clear hT
    unfold cR at h1
    refine aO ?_
    refine aO ?_
    refine aV aD 8 ?_
    obtain ⟨c7, h1⟩ := aW h1
    refine nG [(4 : Int) ≠ 0] ⟨c7, trivial⟩ ?_
    refine bS [] [(33, (aF (decide (idx9 ≤ (wR ((wR (a1 + (wR ((wR (Int.tdiv jI (4 : Int))) * (2 : Int))))) + (1 : Int)))))))] ?_
    refine bM h1 (fun h1 => ?_) (fun h1 => ?_)
    · refine bL ?_
      refine bG [(0, (.msl 1 lo0p 0 (List.length aA))), (1, (eI a1)), (6, (eI jI)), (7, (.lp lo2 0 0)), (8, (cP .u64 iF)), (9, (eI idx9))] ?_
      refine aO ?_
      refine cG 1 ?_
      refine aO ?_
      refine aV aD 6 ?_
      obtain ⟨x9, hx10, h1⟩ := aY h1
      refine yR [(lo0p, 1, List.map (eI) aA)] [1, 0] (yN lo2 kP _ hx10) hO ?_
      intro r11 L12 H hP13 hO
      obtain ⟨rfl, rfl⟩ := hP13
      replace hO : aL ⟨H0, [lo0p], []⟩ H [(lo2, 1, [(cP .u64 x9.2)]), (lo0p, 1, List.map (eI) aA)] := hO
      refine bD ?_
      replace hO := hO.pick (L' := [(lo0p, 1, List.map (eI) aA), (lo2, 1, [(cP .u64 x9.2)])]) [1, 0] (by decide) (by kernel_rfl)
      refine bS [] [(10, (eI (wR (bJ .and .u64 x9.1 (IntKind.u64.wrap (iF - (1 : Int)))))))] ?_
      refine gM (fun T H => ∃ aA : List Int, ∃ kP : Int, ∃ fD : Int, Has T [(0, (.msl 1 lo0p 0 (List.length aA))), (1, (eI a1)), (6, (eI jI)), (7, (.lp lo2 0 0)), (8, (cP .u64 iF)), (9, (eI idx9)), (10, (eI fD))] ∧ aL ⟨H0, [lo0p], []⟩ H [(lo0p, 1, List.map (eI) aA), (lo2, 1, [(cP .u64 kP)])] ∧ List.length aA = N0 ∧ eM aA a1 jI kP iF idx9 fD = some out1) ?_ ?_
      · clear hO hN h1
        rintro T H ⟨aA, kP, fD, hT, hO, hN, h1⟩
        refine bF hT ?_
        clear hT
        unfold eM at h1
        refine fG (fH []) aD 20 ?_
        obtain ⟨c14, h1⟩ := aW h1
        refine cA 11 [0 ≤ (wR (a1 + fD)) ∧ (wR (a1 + fD)) < (lN aA)] ⟨c14, trivial⟩ ?_
        refine fE 0 lo0p 1 (0 + Int.toNat (wR (a1 + fD))) (eI (gD aA (wR (a1 + fD)))) (eI (gD aA (wR (a1 + fD)))) (List.map (eI) aA) hO (bV c14) ?_
        obtain ⟨c15, h1⟩ := aW h1
        refine cA 15 [0 ≤ idx9 ∧ idx9 < (lN aA)] ⟨c15, trivial⟩ ?_
        refine fE 0 lo0p 1 (0 + Int.toNat idx9) (eI (gD aA idx9)) (eI (gD aA idx9)) (List.map (eI) aA) hO (bV c15) ?_
        obtain ⟨c16, h1⟩ := aW h1
        refine cA 17 [0 ≤ idx9 ∧ idx9 < (lN aA)] ⟨c16, trivial⟩ ?_
        refine jX 0 lo0p 1 (0 + Int.toNat idx9) (eI (gD aA idx9)) (eI (gD aA (wR (a1 + fD)))) (List.map (eI) aA) [(lo0p, 1, List.map (eI) (List.set aA (Int.toNat idx9) (gD aA (wR (a1 + fD))))), (lo2, 1, [(cP .u64 kP)])] hO (bV c16) (by simp only [List.set, fZ]) ?_
        intro H hO
        replace hN : List.length (List.set aA (Int.toNat idx9) (gD aA (wR (a1 + fD)))) = N0 := by simpa using hN
        obtain ⟨c17, h1⟩ := aW h1
        refine cA 19 [0 ≤ (wR (a1 + fD)) ∧ (wR (a1 + fD)) < (lN aA)] ⟨c17, trivial⟩ ?_
        refine jX 0 lo0p 1 (0 + Int.toNat (wR (a1 + fD))) (eI (gD (List.set aA (Int.toNat idx9) (gD aA (wR (a1 + fD)))) (wR (a1 + fD)))) (eI (gD aA idx9)) (List.map (eI) (List.set aA (Int.toNat idx9) (gD aA (wR (a1 + fD))))) [(lo0p, 1, List.map (eI) (List.set (List.set aA (Int.toNat idx9) (gD aA (wR (a1 + fD)))) (Int.toNat (wR (a1 + fD))) (gD aA idx9))), (lo2, 1, [(cP .u64 kP)])] hO (mG c17 (by simp [])) (by simp only [List.set, fZ]) ?_
        intro H hO
        replace hN : List.length (List.set (List.set aA (Int.toNat idx9) (gD aA (wR (a1 + fD)))) (Int.toNat (wR (a1 + fD))) (gD aA idx9)) = N0 := by simpa using hN
        refine lX (by kernel_rfl) ?_
        refine cW (l := [(0, (.msl 1 lo0p 0 (List.length (List.set (List.set aA (Int.toNat idx9) (gD aA (wR (a1 + fD)))) (Int.toNat (wR (a1 + fD))) (gD aA idx9))))), (1, (eI a1)), (6, (eI jI)), (7, (.lp lo2 0 0)), (8, (cP .u64 iF)), (9, (eI idx9))]) ⟨[(0, (.msl 1 lo0p 0 (List.length aA))), (1, (eI a1)), (6, (eI jI)), (7, (.lp lo2 0 0)), (8, (cP .u64 iF)), (9, (eI idx9))], by kernel_rfl, rfl, ⟨aN.eq (by simp []), aN.refl _, aN.refl _, aN.refl _, aN.refl _, aN.refl _, trivial⟩⟩ ?_
        refine aI (aZ (aH (?_)))
        refine aV aD 3 ?_
        refine bD ?_
        exact aI (aH (⟨rfl, _, (oI h1).symm, .eq (by kernel_rfl), hO, hN⟩))
      refine aU aD 3 [] [(43, (aF (decide (jI ≤ (wR (bJ .and .u64 x9.1 (IntKind.u64.wrap (iF - (1 : Int)))))))))] ?_
      refine bM h1 (fun h1 => ?_) (fun h1 => ?_)
      · refine aV aD 4 ?_
        refine bD ?_
        exact aI (aH (⟨rfl, _, _, _, .eq (by kernel_rfl), hO, hN, h1⟩))
      refine bL ?_
      exact aI (aH (⟨rfl, _, _, _, .eq (by kernel_rfl), hO, hN, h1⟩))
    refine gZ 0 ?_
    replace hO := hO.pick (L' := [(lo0p, 1, List.map (eI) aA)]) [0] (by decide) (by kernel_rfl)
    obtain rfl := oI h1
    obtain rfl : _ = rr0 := ho0
    replace h0 : some aA = some r := h0
    obtain rfl := oI h0
    exact aI (aX (aX (bX (wS (x := (.tup [])) (by kernel_rfl) (aN.refl _) ⟨rfl, hO.ext, hO.at 0 (by kernel_rfl), by first | rfl | (simp only [List.length_map]; exact hN.trans hN0)⟩))))
  refine bL ?_
  obtain rfl := oI h0
  exact aI (wS (x := (.tup [])) (by kernel_rfl) (aN.refl _) ⟨rfl, hO.ext, hO.at 0 (by kernel_rfl), by first | rfl | (simp only [List.length_map]; exact hN.trans hN0)⟩)

theorem nC (lo0p : Nat) (aA : (List Int)) (a1 : Int) (b2 : Int) (lo3p : Nat) (qL : Int) (r : ((Int × Int) × Int)) (h0 : fN aA a1 b2 qL = some r) : wM Try.prog 113 [(.msl 1 lo0p 0 (List.length aA)), (eI a1), (eI b2), (.lp lo3p 0 0)] [(lo0p, 1, List.map (eI) aA), (lo3p, 1, [(eI qL)])] (fun x L => x = (.tup [(eI r.1.1), (eI r.1.2)]) ∧ L = [(lo0p, 1, List.map (eI) aA), (lo3p, 1, [(eI r.2)])]) := by
  intro F H0 hO
  obtain ⟨Fh, Fe, Fg⟩ := F
  refine dD Try.func113 ?_
  unfold fN at h0
  refine aU aD 2 [] [] ?_
  refine aO ?_
  refine aO ?_
  refine fG (fH [18]) aD 9 ?_
  obtain ⟨c1, h0⟩ := aW h0
  refine cA 3 [0 ≤ b2 ∧ b2 < (lN aA)] ⟨c1, trivial⟩ ?_
  refine fE 0 lo0p 1 (0 + Int.toNat b2) (eI (gD aA b2)) (eI (gD aA b2)) (List.map (eI) aA) hO (bV c1) ?_
  obtain ⟨c2, h0⟩ := aW h0
  refine cA 7 [0 ≤ a1 ∧ a1 < (lN aA)] ⟨c2, trivial⟩ ?_
  refine fE 0 lo0p 1 (0 + Int.toNat a1) (eI (gD aA a1)) (eI (gD aA a1)) (List.map (eI) aA) hO (bV c2) ?_
  obtain ⟨x3, hx4, h0⟩ := aY h0
  refine DQ (eU (gD aA b2) (gD aA a1) _ hx4) hO ?_
  intro H hO
  refine lX (by kernel_rfl) ?_
  refine bS [] [(18, (aF x3))] ?_
  refine bM h0 (fun h0 => ?_) (fun h0 => ?_)
  · refine aO ?_
    refine aV aD 6 ?_
    refine bO 2 ?_
    refine nR 1 lo3p 1 0 (eI qL) (eI qL) [(eI qL)] hO rfl ?_
    refine bO 5 ?_
    refine lO 1 lo3p 1 0 (eI qL) (eI (wR (qL + (1 : Int)))) [(eI qL)] [(lo0p, 1, List.map (eI) aA), (lo3p, 1, [(eI (wR (qL + (1 : Int))))])] hO rfl (by kernel_rfl) ?_
    intro H hO
    refine fI ?_
    refine bS [18] [] ?_
    refine aU aD 4 [1, 2] [(8, (eI b2)), (9, (eI a1))] ?_
    refine bH ?_
    obtain rfl := oI h0
    exact aI (aT (BC hO ⟨rfl, rfl⟩))
  refine bL ?_
  refine bG [(0, (.msl 1 lo0p 0 (List.length aA))), (1, (eI a1)), (2, (eI b2)), (3, (.lp lo3p 0 0))] ?_
  refine aU aD 4 [1, 2] [(8, (eI a1)), (9, (eI b2))] ?_
  refine bH ?_
  obtain rfl := oI h0
  exact aI (BC hO ⟨rfl, rfl⟩)

theorem qD (lo0p : Nat) (aA : (List Int)) (a1 : Int) (b2 : Int) (c3 : Int) (lo4p : Nat) (AQ : Int) (r : (Int × Int)) (h0 : hM aA a1 b2 c3 AQ = some r) : wM Try.prog 109 [(.msl 1 lo0p 0 (List.length aA)), (eI a1), (eI b2), (eI c3), (.lp lo4p 0 0)] [(lo0p, 1, List.map (eI) aA), (lo4p, 1, [(eI AQ)])] (fun x L => x = (eI r.1) ∧ L = [(lo0p, 1, List.map (eI) aA), (lo4p, 1, [(eI r.2)])]) := by
  intro F H0 hO
  obtain ⟨Fh, Fe, Fg⟩ := F
  refine dD Try.func109 ?_
  unfold hM at h0
  refine aU aD 1 [] [] ?_
  refine aO ?_
  refine aV aD 10 ?_
  refine bO 4 ?_
  obtain ⟨x1, hx2, h0⟩ := aY h0
  refine yR [] [0, 1] (nC lo0p aA a1 b2 lo4p AQ _ hx2) hO ?_
  intro r3 L4 H hP5 hO
  obtain ⟨rfl, rfl⟩ := hP5
  replace hO : aL ⟨Fh, Fe, Fg⟩ H [(lo0p, 1, List.map (eI) aA), (lo4p, 1, [(eI x1.2)])] := hO
  refine bD ?_
  refine bS [1, 2] [(1, (eI x1.1.1)), (2, (eI x1.1.2))] ?_
  refine aO ?_
  refine aV aD 10 ?_
  refine bO 4 ?_
  obtain ⟨x6, hx7, h0⟩ := aY h0
  refine yR [] [0, 1] (nC lo0p aA x1.1.2 c3 lo4p x1.2 _ hx7) hO ?_
  intro r8 L9 H hP10 hO
  obtain ⟨rfl, rfl⟩ := hP10
  replace hO : aL ⟨Fh, Fe, Fg⟩ H [(lo0p, 1, List.map (eI) aA), (lo4p, 1, [(eI x6.2)])] := hO
  refine bD ?_
  refine bS [2, 3] [(2, (eI x6.1.1))] ?_
  refine aO ?_
  refine aV aD 10 ?_
  refine bO 4 ?_
  obtain ⟨x11, hx12, h0⟩ := aY h0
  refine yR [] [0, 1] (nC lo0p aA x1.1.1 x6.1.1 lo4p x6.2 _ hx12) hO ?_
  intro r13 L14 H hP15 hO
  obtain ⟨rfl, rfl⟩ := hP15
  replace hO : aL ⟨Fh, Fe, Fg⟩ H [(lo0p, 1, List.map (eI) aA), (lo4p, 1, [(eI x11.2)])] := hO
  refine bD ?_
  refine bS [1, 2] [(2, (eI x11.1.2))] ?_
  refine cH aD 2 [(0, (.msl 1 lo0p 0 (List.length aA))), (4, (.lp lo4p 0 0)), (10, (eI x11.1.2))] ?_
  refine bH ?_
  obtain rfl := oI h0
  exact aI (BC hO ⟨rfl, rfl⟩)

theorem kM (lo0p : Nat) (aA : (List Int)) (a1 : Int) (lo2p : Nat) (BJ : Int) (r : (Int × Int)) (h0 : dN aA a1 BJ = some r) : wM Try.prog 108 [(.msl 1 lo0p 0 (List.length aA)), (eI a1), (.lp lo2p 0 0)] [(lo0p, 1, List.map (eI) aA), (lo2p, 1, [(eI BJ)])] (fun x L => x = (eI r.1) ∧ L = [(lo0p, 1, List.map (eI) aA), (lo2p, 1, [(eI r.2)])]) := by
  intro F H0 hO
  obtain ⟨Fh, Fe, Fg⟩ := F
  refine dD Try.func108 ?_
  unfold dN at h0
  refine aU aD 1 [] [] ?_
  refine aO ?_
  refine aV aD 9 ?_
  refine bO 7 ?_
  obtain ⟨x1, hx2, h0⟩ := aY h0
  refine yR [] [0, 1] (qD lo0p aA (wR (a1 - (1 : Int))) a1 (wR (a1 + (1 : Int))) lo2p BJ _ hx2) hO ?_
  intro r3 L4 H hP5 hO
  obtain ⟨rfl, rfl⟩ := hP5
  replace hO : aL ⟨Fh, Fe, Fg⟩ H [(lo0p, 1, List.map (eI) aA), (lo2p, 1, [(eI x1.2)])] := hO
  refine bD ?_
  refine bS [1] [(6, (eI x1.1))] ?_
  refine bH ?_
  obtain rfl := oI h0
  exact aI (BC hO ⟨rfl, rfl⟩)

theorem tV (lo0p : Nat) (aA : (List Int)) (a1 : Int) (b2 : Int) (r : (Int × Int)) (h0 : gW aA a1 b2 = some r) : wM Try.prog 82 [(.msl 1 lo0p 0 (List.length aA)), (eI a1), (eI b2)] [(lo0p, 1, List.map (eI) aA)] (fun x L => x = (.tup [(eI r.1), (eI r.2)]) ∧ L = [(lo0p, 1, List.map (eI) aA)]) := by
  intro F H0 hO
  obtain ⟨Fh, Fe, Fg⟩ := F
  refine dD Try.func82 ?_
  unfold gW at h0
  refine aU aD 2 [] [] ?_
  refine aU aD 4 [2] [(8, (eI (wR (b2 - a1))))] ?_
  refine aO ?_
  refine aV aD 1 ?_
  refine oV 1 (eI 0) (by kernel_rfl) (by kernel_rfl) hO ?_
  intro lo1 H hO
  refine fI ?_
  refine bS [] [(9, (.lp lo1 0 0))] ?_
  refine aO ?_
  refine aV aD 6 ?_
  obtain ⟨c2, h0⟩ := aW h0
  refine nG [(4 : Int) ≠ 0] ⟨c2, trivial⟩ ?_
  refine bS [] [(10, (eI (wR (a1 + (wR ((wR (Int.tdiv (wR (b2 - a1)) (4 : Int))) * (1 : Int)))))))] ?_
  refine aO ?_
  refine aV aD 6 ?_
  obtain ⟨c3, h0⟩ := aW h0
  refine nG [(4 : Int) ≠ 0] ⟨c3, trivial⟩ ?_
  refine bG [(0, (.msl 1 lo0p 0 (List.length aA))), (1, (eI a1)), (8, (eI (wR (b2 - a1)))), (9, (.lp lo1 0 0)), (10, (eI (wR (a1 + (wR ((wR (Int.tdiv (wR (b2 - a1)) (4 : Int))) * (1 : Int))))))), (11, (eI (wR (a1 + (wR ((wR (Int.tdiv (wR (b2 - a1)) (4 : Int))) * (2 : Int)))))))] ?_
  refine aO ?_
  refine aV aD 6 ?_
  obtain ⟨c4, h0⟩ := aW h0
  refine nG [(4 : Int) ≠ 0] ⟨c4, trivial⟩ ?_
  refine bS [1] [(12, (eI (wR (a1 + (wR ((wR (Int.tdiv (wR (b2 - a1)) (4 : Int))) * (3 : Int)))))))] ?_
  refine gM (fun T H => ∃ lJ : Int, ∃ j11 : Int, Has T [(0, (.msl 1 lo0p 0 (List.length aA))), (9, (.lp lo1 0 0)), (11, (eI j11))] ∧ aL ⟨Fh, Fe, Fg⟩ H [(lo0p, 1, List.map (eI) aA), (lo1, 1, [(eI lJ)])] ∧ eX aA lJ j11 = some r) ?_ ?_
  · clear hO h0
    rintro T H ⟨lJ, j11, hT, hO, h0⟩
    refine bF hT ?_
    clear hT
    unfold eX at h0
    refine aO ?_
    refine aV aD 1 ?_
    refine nR 1 lo1 1 0 (eI lJ) (eI lJ) [(eI lJ)] hO rfl ?_
    refine fI ?_
    replace hO := hO.pick (L' := [(lo0p, 1, List.map (eI) aA)]) [0] (by decide) (by kernel_rfl)
    refine bS [9] [(49, (eI lJ))] ?_
    refine cG 0 ?_
    refine aU aD 2 [] [(51, (aF (decide (lJ = (0 : Int)))))] ?_
    refine bM h0 (fun h0 => ?_) (fun h0 => ?_)
    · refine aU aD 3 [11, 49, 51] [(6, (eI j11)), (7, (eI (1 : Int)))] ?_
      refine bH ?_
      obtain rfl := oI h0
      exact aI (bN (BC hO ⟨rfl, rfl⟩))
    refine aU aD 2 [49, 51] [(54, (aF (decide (lJ = (12 : Int)))))] ?_
    refine bM h0 (fun h0 => ?_) (fun h0 => ?_)
    · refine aU aD 3 [11, 54] [(6, (eI j11)), (7, (eI (2 : Int)))] ?_
      refine bH ?_
      obtain rfl := oI h0
      exact aI (bN (BC hO ⟨rfl, rfl⟩))
    refine aU aD 3 [11, 54] [(6, (eI j11)), (7, (eI (0 : Int)))] ?_
    refine bH ?_
    obtain rfl := oI h0
    exact aI (bN (BC hO ⟨rfl, rfl⟩))
  refine aU aD 2 [] [(32, (aF (decide ((8 : Int) ≤ (wR (b2 - a1))))))] ?_
  refine bM h0 (fun h0 => ?_) (fun h0 => ?_)
  · refine gM (fun T H => ∃ lJ : Int, ∃ i10 : Int, ∃ j11 : Int, ∃ k12 : Int, Has T [(0, (.msl 1 lo0p 0 (List.length aA))), (9, (.lp lo1 0 0)), (10, (eI i10)), (11, (eI j11)), (12, (eI k12))] ∧ aL ⟨Fh, Fe, Fg⟩ H [(lo0p, 1, List.map (eI) aA), (lo1, 1, [(eI lJ)])] ∧ eW aA lJ i10 j11 k12 = some r) ?_ ?_
    · clear hO h0
      rintro T H ⟨lJ, i10, j11, k12, hT, hO, h0⟩
      refine bF hT ?_
      clear hT
      unfold eW at h0
      refine aV aD 6 ?_
      refine bO 4 ?_
      obtain ⟨x8, hx9, h0⟩ := aY h0
      refine yR [] [0, 1] (qD lo0p aA i10 j11 k12 lo1 lJ _ hx9) hO ?_
      intro r10 L11 H hP12 hO
      obtain ⟨rfl, rfl⟩ := hP12
      replace hO : aL ⟨Fh, Fe, Fg⟩ H [(lo0p, 1, List.map (eI) aA), (lo1, 1, [(eI x8.2)])] := hO
      refine bD ?_
      exact aI (aH (⟨rfl, _, _, .eq (by kernel_rfl), hO, h0⟩))
    refine aU aD 2 [8, 32] [(34, (aF (decide ((50 : Int) ≤ (wR (b2 - a1))))))] ?_
    refine bM h0 (fun h0 => ?_) (fun h0 => ?_)
    · refine aO ?_
      refine aV aD 4 ?_
      refine bO 2 ?_
      obtain ⟨x14, hx15, h0⟩ := aY h0
      refine yR [] [0, 1] (kM lo0p aA (wR (a1 + (wR ((wR (Int.tdiv (wR (b2 - a1)) (4 : Int))) * (1 : Int))))) lo1 0 _ hx15) hO ?_
      intro r16 L17 H hP18 hO
      obtain ⟨rfl, rfl⟩ := hP18
      replace hO : aL ⟨Fh, Fe, Fg⟩ H [(lo0p, 1, List.map (eI) aA), (lo1, 1, [(eI x14.2)])] := hO
      refine bD ?_
      refine bS [10, 34] [(10, (eI x14.1))] ?_
      refine aO ?_
      refine aV aD 4 ?_
      refine bO 2 ?_
      obtain ⟨x19, hx20, h0⟩ := aY h0
      refine yR [] [0, 1] (kM lo0p aA (wR (a1 + (wR ((wR (Int.tdiv (wR (b2 - a1)) (4 : Int))) * (2 : Int))))) lo1 x14.2 _ hx20) hO ?_
      intro r21 L22 H hP23 hO
      obtain ⟨rfl, rfl⟩ := hP23
      replace hO : aL ⟨Fh, Fe, Fg⟩ H [(lo0p, 1, List.map (eI) aA), (lo1, 1, [(eI x19.2)])] := hO
      refine bD ?_
      refine bG [(0, (.msl 1 lo0p 0 (List.length aA))), (9, (.lp lo1 0 0)), (10, (eI x14.1)), (11, (eI x19.1)), (12, (eI (wR (a1 + (wR ((wR (Int.tdiv (wR (b2 - a1)) (4 : Int))) * (3 : Int)))))))] ?_
      refine aV aD 4 ?_
      refine bO 2 ?_
      obtain ⟨x24, hx25, h0⟩ := aY h0
      refine yR [] [0, 1] (kM lo0p aA (wR (a1 + (wR ((wR (Int.tdiv (wR (b2 - a1)) (4 : Int))) * (3 : Int))))) lo1 x19.2 _ hx25) hO ?_
      intro r26 L27 H hP28 hO
      obtain ⟨rfl, rfl⟩ := hP28
      replace hO : aL ⟨Fh, Fe, Fg⟩ H [(lo0p, 1, List.map (eI) aA), (lo1, 1, [(eI x24.2)])] := hO
      refine bD ?_
      exact aI (aH (⟨rfl, _, _, _, _, .eq (by kernel_rfl), hO, h0⟩))
    refine bL ?_
    exact aI (aH (⟨rfl, _, _, _, _, .eq (by kernel_rfl), hO, h0⟩))
  refine bL ?_
  exact aI (aH (⟨rfl, _, _, .eq (by kernel_rfl), hO, h0⟩))

theorem tM (lo0p : Nat) (aA : (List Int)) (a1 : Int) (b2 : Int) (r : List Int) (h0 : gO aA a1 b2 = some r) : mP Try.prog 83 lo0p 1 (List.map (eI) aA) (List.map (eI) r) [(.msl 1 lo0p 0 (List.length aA)), (eI a1), (eI b2)] (.tup []) := by
  intro H0 hl0
  refine dD Try.func83 ?_
  have hO := aL.pI hl0
  clear hl0
  obtain ⟨N0, hN0⟩ : ∃ n, n = List.length aA := ⟨_, rfl⟩
  have hN : List.length aA = N0 := hN0.symm
  unfold gO at h0
  refine aU aD 2 [1] [(6, (eI a1))] ?_
  refine aU aD 3 [2] [(7, (eI (wR (b2 - (1 : Int)))))] ?_
  refine cG 0 ?_
  refine fW [(0, (.msl 1 lo0p 0 (List.length aA))), (6, (eI a1)), (7, (eI (wR (b2 - (1 : Int)))))] ?_
  refine eS (fun T H => ∃ aA : List Int, ∃ i6 : Int, ∃ j7 : Int, Has T [(0, (.msl 1 lo0p 0 (List.length aA))), (6, (eI i6)), (7, (eI j7))] ∧ aL ⟨H0, [lo0p], []⟩ H [(lo0p, 1, List.map (eI) aA)] ∧ List.length aA = N0 ∧ iW aA i6 j7 = some r) ?_ ⟨aA, a1, wR (b2 - (1 : Int)), .eq (by kernel_rfl), hO, hN, h0⟩
  clear hO hN h0
  rintro T H ⟨aA, i6, j7, hT, hO, hN, h0⟩
  refine bF hT ?_
  clear hT
  unfold iW at h0
  obtain ⟨rr0, hl0, h0⟩ := aY h0
  refine dF (by kernel_rfl) (fun (s : List Int × Int × Int) T H => Has T [(0, (.msl 1 lo0p 0 (List.length s.1))), (6, (eI s.2.1)), (7, (eI s.2.2))] ∧ aL ⟨H0, [lo0p], []⟩ H [(lo0p, 1, List.map (eI) s.1)] ∧ List.length s.1 = N0) hl0 ⟨.eq (by kernel_rfl), hO, hN⟩ ?_
  clear hO hN
  rintro k0 s out1 T H ⟨hT, hO, hN⟩ h1 ho0
  obtain ⟨aA, i6, j7⟩ := s
  replace h1 : dB aA i6 j7 = some out1 := h1
  try dsimp only at hT
  refine bF hT ?_
  clear hT
  unfold dB at h1
  refine aO ?_
  refine aU aD 3 [] [(13, (aF (decide (i6 < j7))))] ?_
  refine bM h1 (fun h1 => ?_) (fun h1 => ?_)
  · refine bL ?_
    refine bG [(0, (.msl 1 lo0p 0 (List.length aA))), (6, (eI i6)), (7, (eI j7))] ?_
    refine cG 1 ?_
    refine aO ?_
    refine fG (fH []) aD 16 ?_
    obtain ⟨c2, h1⟩ := aW h1
    refine cA 7 [0 ≤ j7 ∧ j7 < (lN aA)] ⟨c2, trivial⟩ ?_
    refine fE 0 lo0p 1 (0 + Int.toNat j7) (eI (gD aA j7)) (eI (gD aA j7)) (List.map (eI) aA) hO (bV c2) ?_
    obtain ⟨c3, h1⟩ := aW h1
    refine cA 11 [0 ≤ i6 ∧ i6 < (lN aA)] ⟨c3, trivial⟩ ?_
    refine fE 0 lo0p 1 (0 + Int.toNat i6) (eI (gD aA i6)) (eI (gD aA i6)) (List.map (eI) aA) hO (bV c3) ?_
    obtain ⟨c4, h1⟩ := aW h1
    refine cA 13 [0 ≤ i6 ∧ i6 < (lN aA)] ⟨c4, trivial⟩ ?_
    refine jX 0 lo0p 1 (0 + Int.toNat i6) (eI (gD aA i6)) (eI (gD aA j7)) (List.map (eI) aA) [(lo0p, 1, List.map (eI) (List.set aA (Int.toNat i6) (gD aA j7)))] hO (bV c4) (by simp only [List.set, fZ]) ?_
    intro H hO
    replace hN : List.length (List.set aA (Int.toNat i6) (gD aA j7)) = N0 := by simpa using hN
    obtain ⟨c5, h1⟩ := aW h1
    refine cA 15 [0 ≤ j7 ∧ j7 < (lN aA)] ⟨c5, trivial⟩ ?_
    refine jX 0 lo0p 1 (0 + Int.toNat j7) (eI (gD (List.set aA (Int.toNat i6) (gD aA j7)) j7)) (eI (gD aA i6)) (List.map (eI) (List.set aA (Int.toNat i6) (gD aA j7))) [(lo0p, 1, List.map (eI) (List.set (List.set aA (Int.toNat i6) (gD aA j7)) (Int.toNat j7) (gD aA i6)))] hO (mG c5 (by simp [])) (by simp only [List.set, fZ]) ?_
    intro H hO
    replace hN : List.length (List.set (List.set aA (Int.toNat i6) (gD aA j7)) (Int.toNat j7) (gD aA i6)) = N0 := by simpa using hN
    refine lX (by kernel_rfl) ?_
    refine cW (l := [(0, (.msl 1 lo0p 0 (List.length (List.set (List.set aA (Int.toNat i6) (gD aA j7)) (Int.toNat j7) (gD aA i6))))), (6, (eI i6)), (7, (eI j7))]) ⟨[(0, (.msl 1 lo0p 0 (List.length aA))), (6, (eI i6)), (7, (eI j7))], by kernel_rfl, rfl, ⟨aN.eq (by simp []), aN.refl _, aN.refl _, trivial⟩⟩ ?_
    refine aI (aH (?_))
    refine aU aD 3 [6] [(6, (eI (wR (i6 + (1 : Int)))))] ?_
    refine aV aD 3 ?_
    refine bD ?_
    exact aI (aZ (aH (⟨rfl, _, (oI h1).symm, .eq (by kernel_rfl), hO, hN⟩)))
  refine gZ 0 ?_
  obtain rfl := oI h1
  obtain rfl : _ = rr0 := ho0
  replace h0 : some aA = some r := h0
  obtain rfl := oI h0
  exact aI (aX (aX (bX (wS (x := (.tup [])) (by kernel_rfl) (aN.refl _) ⟨rfl, hO.ext, hO.at 0 (by kernel_rfl), by first | rfl | (simp only [List.length_map]; exact hN.trans hN0)⟩))))

theorem pZ (lo0p : Nat) (aA : (List Int)) (a1 : Int) (b2 : Int) (r : (Bool × List Int)) (h0 : eE aA a1 b2 = some r) : mP Try.prog 84 lo0p 1 (List.map (eI) aA) (List.map (eI) r.2) [(.msl 1 lo0p 0 (List.length aA)), (eI a1), (eI b2)] (aF r.1) := by
  intro H0 hl0
  refine dD Try.func84 ?_
  have hO := aL.pI hl0
  clear hl0
  obtain ⟨N0, hN0⟩ : ∃ n, n = List.length aA := ⟨_, rfl⟩
  have hN : List.length aA = N0 := hN0.symm
  unfold eE at h0
  refine aU aD 1 [] [] ?_
  refine aU aD 3 [] [(7, (eI (wR (a1 + (1 : Int)))))] ?_
  refine gM (fun T H => ∃ aA : List Int, Has T [(0, (.msl 1 lo0p 0 (List.length aA)))] ∧ aL ⟨H0, [lo0p], []⟩ H [(lo0p, 1, List.map (eI) aA)] ∧ List.length aA = N0 ∧ dZ aA = some r) ?_ ?_
  · clear hO hN h0
    rintro T H ⟨aA, hT, hO, hN, h0⟩
    refine bF hT ?_
    clear hT
    unfold dZ at h0
    refine aU aD 1 [] [(6, (aF false))] ?_
    refine bH ?_
    obtain rfl := oI h0
    exact aI (jZ (x := (aF false)) (by kernel_rfl) (aN.refl _) ⟨rfl, hO.ext, hO.at 0 (by kernel_rfl), by first | rfl | (simp only [List.length_map]; exact hN.trans hN0)⟩)
  refine aU aD 1 [] [(8, (eI (0 : Int)))] ?_
  refine cG 0 ?_
  refine fW [(0, (.msl 1 lo0p 0 (List.length aA))), (1, (eI a1)), (2, (eI b2)), (7, (eI (wR (a1 + (1 : Int))))), (8, (eI (0 : Int)))] ?_
  refine eS (fun T H => ∃ aA : List Int, ∃ i7 : Int, ∃ j8 : Int, Has T [(0, (.msl 1 lo0p 0 (List.length aA))), (1, (eI a1)), (2, (eI b2)), (7, (eI i7)), (8, (eI j8))] ∧ aL ⟨H0, [lo0p], []⟩ H [(lo0p, 1, List.map (eI) aA)] ∧ List.length aA = N0 ∧ fQ aA a1 b2 i7 j8 = some r) ?_ ⟨aA, wR (a1 + (1 : Int)), (0 : Int), .eq (by kernel_rfl), hO, hN, h0⟩
  clear hO hN h0
  rintro T H ⟨aA, i7, j8, hT, hO, hN, h0⟩
  refine bF hT ?_
  clear hT
  unfold fQ at h0
  obtain ⟨rr0, hl0, h0⟩ := aY h0
  refine dF (by kernel_rfl) (fun (s : List Int × Int × Int) T H => Has T [(0, (.msl 1 lo0p 0 (List.length s.1))), (1, (eI a1)), (2, (eI b2)), (7, (eI s.2.1)), (8, (eI s.2.2))] ∧ aL ⟨H0, [lo0p], []⟩ H [(lo0p, 1, List.map (eI) s.1)] ∧ List.length s.1 = N0) hl0 ⟨.eq (by kernel_rfl), hO, hN⟩ ?_
  clear hO hN
  rintro k0 s out1 T H ⟨hT, hO, hN⟩ h1 ho0
  obtain ⟨aA, i7, j8⟩ := s
  replace h1 : bR a1 b2 aA i7 j8 = some out1 := h1
  try dsimp only at hT
  refine bF hT ?_
  clear hT
  unfold bR at h1
  refine aO ?_
  refine aU aD 2 [] [(14, (aF (decide (j8 < (5 : Int)))))] ?_
  refine bM h1 (fun h1 => ?_) (fun h1 => ?_)
  · refine bL ?_
    refine bG [(0, (.msl 1 lo0p 0 (List.length aA))), (1, (eI a1)), (2, (eI b2)), (7, (eI i7)), (8, (eI j8))] ?_
    refine gM (fun T H => ∃ aA : List Int, ∃ i7 : Int, Has T [(0, (.msl 1 lo0p 0 (List.length aA))), (1, (eI a1)), (2, (eI b2)), (7, (eI i7)), (8, (eI j8))] ∧ aL ⟨H0, [lo0p], []⟩ H [(lo0p, 1, List.map (eI) aA)] ∧ List.length aA = N0 ∧ dG aA a1 b2 i7 j8 = some out1) ?_ ?_
    · clear hO hN h1
      rintro T H ⟨aA, i7, hT, hO, hN, h1⟩
      refine bF hT ?_
      clear hT
      unfold dG at h1
      refine aV aD 3 ?_
      refine bD ?_
      exact aI (aH (⟨rfl, _, (oI h1).symm, .eq (by kernel_rfl), hO, hN⟩))
    refine cG 1 ?_
    refine gM (fun T H => ∃ aA : List Int, ∃ i7 : Int, Has T [(0, (.msl 1 lo0p 0 (List.length aA))), (1, (eI a1)), (2, (eI b2)), (7, (eI i7)), (8, (eI j8))] ∧ aL ⟨H0, [lo0p], []⟩ H [(lo0p, 1, List.map (eI) aA)] ∧ List.length aA = N0 ∧ eA aA a1 b2 i7 j8 = some out1) ?_ ?_
    · clear hO hN h1
      rintro T H ⟨aA, i7, hT, hO, hN, h1⟩
      refine bF hT ?_
      clear hT
      unfold eA at h1
      refine aO ?_
      refine aU aD 3 [] [(37, (aF (decide (i7 = b2))))] ?_
      refine bM h1 (fun h1 => ?_) (fun h1 => ?_)
      · refine aU aD 1 [1, 2, 7, 8, 37] [(6, (aF true))] ?_
        refine bH ?_
        obtain rfl := oI h1
        obtain rfl : _ = rr0 := ho0
        replace h0 : some (true, aA) = some r := h0
        obtain rfl := oI h0
        exact aI (aT (bN (aT (aT (bN (aT (jZ (x := (aF true)) (by kernel_rfl) (aN.refl _) ⟨rfl, hO.ext, hO.at 0 (by kernel_rfl), by first | rfl | (simp only [List.length_map]; exact hN.trans hN0)⟩)))))))
      refine bL ?_
      refine bG [(0, (.msl 1 lo0p 0 (List.length aA))), (1, (eI a1)), (2, (eI b2)), (7, (eI i7)), (8, (eI j8))] ?_
      refine aO ?_
      refine aU aD 4 [] [(41, (aF (decide ((wR (b2 - a1)) < (50 : Int)))))] ?_
      refine bM h1 (fun h1 => ?_) (fun h1 => ?_)
      · refine aU aD 1 [1, 2, 7, 8, 41] [(6, (aF false))] ?_
        refine bH ?_
        obtain rfl := oI h1
        obtain rfl : _ = rr0 := ho0
        replace h0 : some (false, aA) = some r := h0
        obtain rfl := oI h0
        exact aI (aT (bN (aT (aT (bN (aT (jZ (x := (aF false)) (by kernel_rfl) (aN.refl _) ⟨rfl, hO.ext, hO.at 0 (by kernel_rfl), by first | rfl | (simp only [List.length_map]; exact hN.trans hN0)⟩)))))))
      refine bL ?_
      refine bG [(0, (.msl 1 lo0p 0 (List.length aA))), (1, (eI a1)), (2, (eI b2)), (7, (eI i7)), (8, (eI j8))] ?_
      refine aO ?_
      refine fG (fH []) aD 18 ?_
      obtain ⟨c4, h1⟩ := aW h1
      refine cA 9 [0 ≤ (wR (i7 - (1 : Int))) ∧ (wR (i7 - (1 : Int))) < (lN aA)] ⟨c4, trivial⟩ ?_
      refine fE 0 lo0p 1 (0 + Int.toNat (wR (i7 - (1 : Int)))) (eI (gD aA (wR (i7 - (1 : Int))))) (eI (gD aA (wR (i7 - (1 : Int))))) (List.map (eI) aA) hO (bV c4) ?_
      obtain ⟨c5, h1⟩ := aW h1
      refine cA 13 [0 ≤ i7 ∧ i7 < (lN aA)] ⟨c5, trivial⟩ ?_
      refine fE 0 lo0p 1 (0 + Int.toNat i7) (eI (gD aA i7)) (eI (gD aA i7)) (List.map (eI) aA) hO (bV c5) ?_
      obtain ⟨c6, h1⟩ := aW h1
      refine cA 15 [0 ≤ i7 ∧ i7 < (lN aA)] ⟨c6, trivial⟩ ?_
      refine jX 0 lo0p 1 (0 + Int.toNat i7) (eI (gD aA i7)) (eI (gD aA (wR (i7 - (1 : Int))))) (List.map (eI) aA) [(lo0p, 1, List.map (eI) (List.set aA (Int.toNat i7) (gD aA (wR (i7 - (1 : Int))))))] hO (bV c6) (by simp only [List.set, fZ]) ?_
      intro H hO
      replace hN : List.length (List.set aA (Int.toNat i7) (gD aA (wR (i7 - (1 : Int))))) = N0 := by simpa using hN
      obtain ⟨c7, h1⟩ := aW h1
      refine cA 17 [0 ≤ (wR (i7 - (1 : Int))) ∧ (wR (i7 - (1 : Int))) < (lN aA)] ⟨c7, trivial⟩ ?_
      refine jX 0 lo0p 1 (0 + Int.toNat (wR (i7 - (1 : Int)))) (eI (gD (List.set aA (Int.toNat i7) (gD aA (wR (i7 - (1 : Int))))) (wR (i7 - (1 : Int))))) (eI (gD aA i7)) (List.map (eI) (List.set aA (Int.toNat i7) (gD aA (wR (i7 - (1 : Int)))))) [(lo0p, 1, List.map (eI) (List.set (List.set aA (Int.toNat i7) (gD aA (wR (i7 - (1 : Int))))) (Int.toNat (wR (i7 - (1 : Int)))) (gD aA i7)))] hO (mG c7 (by simp [])) (by simp only [List.set, fZ]) ?_
      intro H hO
      replace hN : List.length (List.set (List.set aA (Int.toNat i7) (gD aA (wR (i7 - (1 : Int))))) (Int.toNat (wR (i7 - (1 : Int)))) (gD aA i7)) = N0 := by simpa using hN
      refine lX (by kernel_rfl) ?_
      refine cW (l := [(0, (.msl 1 lo0p 0 (List.length (List.set (List.set aA (Int.toNat i7) (gD aA (wR (i7 - (1 : Int))))) (Int.toNat (wR (i7 - (1 : Int)))) (gD aA i7))))), (1, (eI a1)), (2, (eI b2)), (7, (eI i7)), (8, (eI j8))]) ⟨[(0, (.msl 1 lo0p 0 (List.length aA))), (1, (eI a1)), (2, (eI b2)), (7, (eI i7)), (8, (eI j8))], by kernel_rfl, rfl, ⟨aN.eq (by simp []), aN.refl _, aN.refl _, aN.refl _, aN.refl _, trivial⟩⟩ ?_
      refine aI (aH (?_))
      refine gM (fun T H => ∃ aA : List Int, Has T [(0, (.msl 1 lo0p 0 (List.length aA))), (1, (eI a1)), (2, (eI b2)), (7, (eI i7)), (8, (eI j8))] ∧ aL ⟨H0, [lo0p], []⟩ H [(lo0p, 1, List.map (eI) aA)] ∧ List.length aA = N0 ∧ cE aA a1 b2 i7 j8 = some out1) ?_ ?_
      · clear hO hN h1
        rintro T H ⟨aA, hT, hO, hN, h1⟩
        refine bF hT ?_
        clear hT
        unfold cE at h1
        refine aU aD 4 [] [(98, (aF (decide ((2 : Int) ≤ (wR (b2 - i7))))))] ?_
        refine bM h1 (fun h1 => ?_) (fun h1 => ?_)
        · refine aU aD 3 [98] [(10, (eI (wR (i7 + (1 : Int)))))] ?_
          refine cG 6 ?_
          refine fW [(0, (.msl 1 lo0p 0 (List.length aA))), (1, (eI a1)), (2, (eI b2)), (7, (eI i7)), (8, (eI j8)), (10, (eI (wR (i7 + (1 : Int)))))] ?_
          refine eS (fun T H => ∃ aA : List Int, ∃ j10 : Int, Has T [(0, (.msl 1 lo0p 0 (List.length aA))), (1, (eI a1)), (2, (eI b2)), (7, (eI i7)), (8, (eI j8)), (10, (eI j10))] ∧ aL ⟨H0, [lo0p], []⟩ H [(lo0p, 1, List.map (eI) aA)] ∧ List.length aA = N0 ∧ fR aA a1 b2 i7 j8 j10 = some out1) ?_ ⟨aA, wR (i7 + (1 : Int)), .eq (by kernel_rfl), hO, hN, h1⟩
          clear hO hN h1
          rintro T H ⟨aA, j10, hT, hO, hN, h1⟩
          refine bF hT ?_
          clear hT
          unfold fR at h1
          obtain ⟨rr1, hl1, h1⟩ := aY h1
          refine dF (by kernel_rfl) (fun (s : List Int × Int) T H => Has T [(0, (.msl 1 lo0p 0 (List.length s.1))), (1, (eI a1)), (2, (eI b2)), (7, (eI i7)), (8, (eI j8)), (10, (eI s.2))] ∧ aL ⟨H0, [lo0p], []⟩ H [(lo0p, 1, List.map (eI) s.1)] ∧ List.length s.1 = N0) hl1 ⟨.eq (by kernel_rfl), hO, hN⟩ ?_
          clear hO hN
          rintro k1 s out2 T H ⟨hT, hO, hN⟩ h2 ho1
          obtain ⟨aA, j10⟩ := s
          replace h2 : cL a1 b2 i7 j8 aA j10 = some out2 := h2
          try dsimp only at hT
          refine bF hT ?_
          clear hT
          unfold cL at h2
          refine aO ?_
          refine aU aD 3 [] [(103, (aF (decide (j10 < b2))))] ?_
          refine bM h2 (fun h2 => ?_) (fun h2 => ?_)
          · refine bL ?_
            refine bG [(0, (.msl 1 lo0p 0 (List.length aA))), (1, (eI a1)), (2, (eI b2)), (7, (eI i7)), (8, (eI j8)), (10, (eI j10))] ?_
            refine aO ?_
            refine cG 7 ?_
            refine aO ?_
            refine aO ?_
            refine fG (fH [115]) aD 11 ?_
            obtain ⟨c10, h2⟩ := aW h2
            refine cA 3 [0 ≤ j10 ∧ j10 < (lN aA)] ⟨c10, trivial⟩ ?_
            refine fE 0 lo0p 1 (0 + Int.toNat j10) (eI (gD aA j10)) (eI (gD aA j10)) (List.map (eI) aA) hO (bV c10) ?_
            obtain ⟨c11, h2⟩ := aW h2
            refine cA 8 [0 ≤ (wR (j10 - (1 : Int))) ∧ (wR (j10 - (1 : Int))) < (lN aA)] ⟨c11, trivial⟩ ?_
            refine fE 0 lo0p 1 (0 + Int.toNat (wR (j10 - (1 : Int)))) (eI (gD aA (wR (j10 - (1 : Int))))) (eI (gD aA (wR (j10 - (1 : Int))))) (List.map (eI) aA) hO (bV c11) ?_
            obtain ⟨x12, hx13, h2⟩ := aY h2
            refine DQ (eU (gD aA j10) (gD aA (wR (j10 - (1 : Int)))) _ hx13) hO ?_
            intro H hO
            refine jC ?_
            refine bS [] [(116, (aF (!x12)))] ?_
            refine bM h2 (fun h2 => ?_) (fun h2 => ?_)
            · refine gZ 6 ?_
              obtain rfl := oI h2
              obtain rfl : _ = rr1 := ho1
              replace h1 : dG aA a1 b2 i7 j8 = some out1 := h1
              exact aI (aX (qZ (by kernel_rfl) (aX (aX (bX (aZ (aH (⟨rfl, _, _, .eq (by kernel_rfl), hO, hN, h1⟩))))))))
            refine bL ?_
            refine bG [(0, (.msl 1 lo0p 0 (List.length aA))), (1, (eI a1)), (2, (eI b2)), (7, (eI i7)), (8, (eI j8)), (10, (eI j10))] ?_
            refine fG (fH []) aD 18 ?_
            obtain ⟨c16, h2⟩ := aW h2
            refine cA 9 [0 ≤ (wR (j10 - (1 : Int))) ∧ (wR (j10 - (1 : Int))) < (lN aA)] ⟨c16, trivial⟩ ?_
            refine fE 0 lo0p 1 (0 + Int.toNat (wR (j10 - (1 : Int)))) (eI (gD aA (wR (j10 - (1 : Int))))) (eI (gD aA (wR (j10 - (1 : Int))))) (List.map (eI) aA) hO (bV c16) ?_
            obtain ⟨c17, h2⟩ := aW h2
            refine cA 13 [0 ≤ j10 ∧ j10 < (lN aA)] ⟨c17, trivial⟩ ?_
            refine fE 0 lo0p 1 (0 + Int.toNat j10) (eI (gD aA j10)) (eI (gD aA j10)) (List.map (eI) aA) hO (bV c17) ?_
            obtain ⟨c18, h2⟩ := aW h2
            refine cA 15 [0 ≤ j10 ∧ j10 < (lN aA)] ⟨c18, trivial⟩ ?_
            refine jX 0 lo0p 1 (0 + Int.toNat j10) (eI (gD aA j10)) (eI (gD aA (wR (j10 - (1 : Int))))) (List.map (eI) aA) [(lo0p, 1, List.map (eI) (List.set aA (Int.toNat j10) (gD aA (wR (j10 - (1 : Int))))))] hO (bV c18) (by simp only [List.set, fZ]) ?_
            intro H hO
            replace hN : List.length (List.set aA (Int.toNat j10) (gD aA (wR (j10 - (1 : Int))))) = N0 := by simpa using hN
            obtain ⟨c19, h2⟩ := aW h2
            refine cA 17 [0 ≤ (wR (j10 - (1 : Int))) ∧ (wR (j10 - (1 : Int))) < (lN aA)] ⟨c19, trivial⟩ ?_
            refine jX 0 lo0p 1 (0 + Int.toNat (wR (j10 - (1 : Int)))) (eI (gD (List.set aA (Int.toNat j10) (gD aA (wR (j10 - (1 : Int))))) (wR (j10 - (1 : Int))))) (eI (gD aA j10)) (List.map (eI) (List.set aA (Int.toNat j10) (gD aA (wR (j10 - (1 : Int)))))) [(lo0p, 1, List.map (eI) (List.set (List.set aA (Int.toNat j10) (gD aA (wR (j10 - (1 : Int))))) (Int.toNat (wR (j10 - (1 : Int)))) (gD aA j10)))] hO (mG c19 (by simp [])) (by simp only [List.set, fZ]) ?_
            intro H hO
            replace hN : List.length (List.set (List.set aA (Int.toNat j10) (gD aA (wR (j10 - (1 : Int))))) (Int.toNat (wR (j10 - (1 : Int)))) (gD aA j10)) = N0 := by simpa using hN
            refine lX (by kernel_rfl) ?_
            refine cW (l := [(0, (.msl 1 lo0p 0 (List.length (List.set (List.set aA (Int.toNat j10) (gD aA (wR (j10 - (1 : Int))))) (Int.toNat (wR (j10 - (1 : Int)))) (gD aA j10))))), (1, (eI a1)), (2, (eI b2)), (7, (eI i7)), (8, (eI j8)), (10, (eI j10))]) ⟨[(0, (.msl 1 lo0p 0 (List.length aA))), (1, (eI a1)), (2, (eI b2)), (7, (eI i7)), (8, (eI j8)), (10, (eI j10))], by kernel_rfl, rfl, ⟨aN.eq (by simp []), aN.refl _, aN.refl _, aN.refl _, aN.refl _, aN.refl _, trivial⟩⟩ ?_
            refine aI (aZ (aH (?_)))
            refine aV aD 3 ?_
            refine bD ?_
            exact aI (aH (⟨rfl, _, (oI h2).symm, .eq (by kernel_rfl), hO, hN⟩))
          refine gZ 6 ?_
          obtain rfl := oI h2
          obtain rfl : _ = rr1 := ho1
          replace h1 : dG aA a1 b2 i7 j8 = some out1 := h1
          exact aI (aX (aX (bX (aZ (aH (⟨rfl, _, _, .eq (by kernel_rfl), hO, hN, h1⟩))))))
        refine bL ?_
        exact aI (aZ (aH (⟨rfl, _, _, .eq (by kernel_rfl), hO, hN, h1⟩)))
      refine aU aD 4 [] [(61, (aF (decide ((2 : Int) ≤ (wR (i7 - a1))))))] ?_
      refine bM h1 (fun h1 => ?_) (fun h1 => ?_)
      · refine aU aD 3 [61] [(9, (eI (wR (i7 - (1 : Int)))))] ?_
        refine cG 4 ?_
        refine fW [(0, (.msl 1 lo0p 0 (List.length (List.set (List.set aA (Int.toNat i7) (gD aA (wR (i7 - (1 : Int))))) (Int.toNat (wR (i7 - (1 : Int)))) (gD aA i7))))), (1, (eI a1)), (2, (eI b2)), (7, (eI i7)), (8, (eI j8)), (9, (eI (wR (i7 - (1 : Int)))))] ?_
        refine eS (fun T H => ∃ aA : List Int, ∃ j9 : Int, Has T [(0, (.msl 1 lo0p 0 (List.length aA))), (1, (eI a1)), (2, (eI b2)), (7, (eI i7)), (8, (eI j8)), (9, (eI j9))] ∧ aL ⟨H0, [lo0p], []⟩ H [(lo0p, 1, List.map (eI) aA)] ∧ List.length aA = N0 ∧ fP aA a1 b2 i7 j8 j9 = some out1) ?_ ⟨List.set (List.set aA (Int.toNat i7) (gD aA (wR (i7 - (1 : Int))))) (Int.toNat (wR (i7 - (1 : Int)))) (gD aA i7), wR (i7 - (1 : Int)), .eq (by kernel_rfl), hO, hN, h1⟩
        clear hO hN h1
        rintro T H ⟨aA, j9, hT, hO, hN, h1⟩
        refine bF hT ?_
        clear hT
        unfold fP at h1
        obtain ⟨rr1, hl1, h1⟩ := aY h1
        refine dF (by kernel_rfl) (fun (s : List Int × Int) T H => Has T [(0, (.msl 1 lo0p 0 (List.length s.1))), (1, (eI a1)), (2, (eI b2)), (7, (eI i7)), (8, (eI j8)), (9, (eI s.2))] ∧ aL ⟨H0, [lo0p], []⟩ H [(lo0p, 1, List.map (eI) s.1)] ∧ List.length s.1 = N0) hl1 ⟨.eq (by kernel_rfl), hO, hN⟩ ?_
        clear hO hN
        rintro k1 s out2 T H ⟨hT, hO, hN⟩ h2 ho1
        obtain ⟨aA, j9⟩ := s
        replace h2 : cD a1 b2 i7 j8 aA j9 = some out2 := h2
        try dsimp only at hT
        refine bF hT ?_
        clear hT
        unfold cD at h2
        refine aO ?_
        refine aU aD 2 [] [(65, (aF (decide ((1 : Int) ≤ j9))))] ?_
        refine bM h2 (fun h2 => ?_) (fun h2 => ?_)
        · refine bL ?_
          refine bG [(0, (.msl 1 lo0p 0 (List.length aA))), (1, (eI a1)), (2, (eI b2)), (7, (eI i7)), (8, (eI j8)), (9, (eI j9))] ?_
          refine aO ?_
          refine cG 5 ?_
          refine aO ?_
          refine aO ?_
          refine fG (fH [77]) aD 11 ?_
          obtain ⟨c22, h2⟩ := aW h2
          refine cA 3 [0 ≤ j9 ∧ j9 < (lN aA)] ⟨c22, trivial⟩ ?_
          refine fE 0 lo0p 1 (0 + Int.toNat j9) (eI (gD aA j9)) (eI (gD aA j9)) (List.map (eI) aA) hO (bV c22) ?_
          obtain ⟨c23, h2⟩ := aW h2
          refine cA 8 [0 ≤ (wR (j9 - (1 : Int))) ∧ (wR (j9 - (1 : Int))) < (lN aA)] ⟨c23, trivial⟩ ?_
          refine fE 0 lo0p 1 (0 + Int.toNat (wR (j9 - (1 : Int)))) (eI (gD aA (wR (j9 - (1 : Int))))) (eI (gD aA (wR (j9 - (1 : Int))))) (List.map (eI) aA) hO (bV c23) ?_
          obtain ⟨x24, hx25, h2⟩ := aY h2
          refine DQ (eU (gD aA j9) (gD aA (wR (j9 - (1 : Int)))) _ hx25) hO ?_
          intro H hO
          refine jC ?_
          refine bS [] [(78, (aF (!x24)))] ?_
          refine bM h2 (fun h2 => ?_) (fun h2 => ?_)
          · refine gZ 4 ?_
            obtain rfl := oI h2
            obtain rfl : _ = rr1 := ho1
            replace h1 : cE aA a1 b2 i7 j8 = some out1 := h1
            exact aI (aX (qZ (by kernel_rfl) (aX (aX (bX (aH (⟨rfl, _, .eq (by kernel_rfl), hO, hN, h1⟩)))))))
          refine bL ?_
          refine bG [(0, (.msl 1 lo0p 0 (List.length aA))), (1, (eI a1)), (2, (eI b2)), (7, (eI i7)), (8, (eI j8)), (9, (eI j9))] ?_
          refine fG (fH []) aD 18 ?_
          obtain ⟨c28, h2⟩ := aW h2
          refine cA 9 [0 ≤ (wR (j9 - (1 : Int))) ∧ (wR (j9 - (1 : Int))) < (lN aA)] ⟨c28, trivial⟩ ?_
          refine fE 0 lo0p 1 (0 + Int.toNat (wR (j9 - (1 : Int)))) (eI (gD aA (wR (j9 - (1 : Int))))) (eI (gD aA (wR (j9 - (1 : Int))))) (List.map (eI) aA) hO (bV c28) ?_
          obtain ⟨c29, h2⟩ := aW h2
          refine cA 13 [0 ≤ j9 ∧ j9 < (lN aA)] ⟨c29, trivial⟩ ?_
          refine fE 0 lo0p 1 (0 + Int.toNat j9) (eI (gD aA j9)) (eI (gD aA j9)) (List.map (eI) aA) hO (bV c29) ?_
          obtain ⟨c30, h2⟩ := aW h2
          refine cA 15 [0 ≤ j9 ∧ j9 < (lN aA)] ⟨c30, trivial⟩ ?_
          refine jX 0 lo0p 1 (0 + Int.toNat j9) (eI (gD aA j9)) (eI (gD aA (wR (j9 - (1 : Int))))) (List.map (eI) aA) [(lo0p, 1, List.map (eI) (List.set aA (Int.toNat j9) (gD aA (wR (j9 - (1 : Int))))))] hO (bV c30) (by simp only [List.set, fZ]) ?_
          intro H hO
          replace hN : List.length (List.set aA (Int.toNat j9) (gD aA (wR (j9 - (1 : Int))))) = N0 := by simpa using hN
          obtain ⟨c31, h2⟩ := aW h2
          refine cA 17 [0 ≤ (wR (j9 - (1 : Int))) ∧ (wR (j9 - (1 : Int))) < (lN aA)] ⟨c31, trivial⟩ ?_
          refine jX 0 lo0p 1 (0 + Int.toNat (wR (j9 - (1 : Int)))) (eI (gD (List.set aA (Int.toNat j9) (gD aA (wR (j9 - (1 : Int))))) (wR (j9 - (1 : Int))))) (eI (gD aA j9)) (List.map (eI) (List.set aA (Int.toNat j9) (gD aA (wR (j9 - (1 : Int)))))) [(lo0p, 1, List.map (eI) (List.set (List.set aA (Int.toNat j9) (gD aA (wR (j9 - (1 : Int))))) (Int.toNat (wR (j9 - (1 : Int)))) (gD aA j9)))] hO (mG c31 (by simp [])) (by simp only [List.set, fZ]) ?_
          intro H hO
          replace hN : List.length (List.set (List.set aA (Int.toNat j9) (gD aA (wR (j9 - (1 : Int))))) (Int.toNat (wR (j9 - (1 : Int)))) (gD aA j9)) = N0 := by simpa using hN
          refine lX (by kernel_rfl) ?_
          refine cW (l := [(0, (.msl 1 lo0p 0 (List.length (List.set (List.set aA (Int.toNat j9) (gD aA (wR (j9 - (1 : Int))))) (Int.toNat (wR (j9 - (1 : Int)))) (gD aA j9))))), (1, (eI a1)), (2, (eI b2)), (7, (eI i7)), (8, (eI j8)), (9, (eI j9))]) ⟨[(0, (.msl 1 lo0p 0 (List.length aA))), (1, (eI a1)), (2, (eI b2)), (7, (eI i7)), (8, (eI j8)), (9, (eI j9))], by kernel_rfl, rfl, ⟨aN.eq (by simp []), aN.refl _, aN.refl _, aN.refl _, aN.refl _, aN.refl _, trivial⟩⟩ ?_
          refine aI (aZ (aH (?_)))
          refine aV aD 3 ?_
          refine bD ?_
          exact aI (aH (⟨rfl, _, (oI h2).symm, .eq (by kernel_rfl), hO, hN⟩))
        refine gZ 4 ?_
        obtain rfl := oI h2
        obtain rfl : _ = rr1 := ho1
        replace h1 : cE aA a1 b2 i7 j8 = some out1 := h1
        exact aI (aX (aX (bX (aH (⟨rfl, _, .eq (by kernel_rfl), hO, hN, h1⟩)))))
      refine bL ?_
      exact aI (aH (⟨rfl, _, .eq (by kernel_rfl), hO, hN, h1⟩))
    refine cG 2 ?_
    refine fW [(0, (.msl 1 lo0p 0 (List.length aA))), (1, (eI a1)), (2, (eI b2)), (7, (eI i7)), (8, (eI j8))] ?_
    refine eS (fun T H => ∃ aA : List Int, ∃ i7 : Int, Has T [(0, (.msl 1 lo0p 0 (List.length aA))), (1, (eI a1)), (2, (eI b2)), (7, (eI i7)), (8, (eI j8))] ∧ aL ⟨H0, [lo0p], []⟩ H [(lo0p, 1, List.map (eI) aA)] ∧ List.length aA = N0 ∧ cT aA a1 b2 i7 j8 = some out1) ?_ ⟨aA, i7, .eq (by kernel_rfl), hO, hN, h1⟩
    clear hO hN h1
    rintro T H ⟨aA, i7, hT, hO, hN, h1⟩
    refine bF hT ?_
    clear hT
    unfold cT at h1
    obtain ⟨rr1, hl1, h1⟩ := aY h1
    refine dF (by kernel_rfl) (fun (s : List Int × Int) T H => Has T [(0, (.msl 1 lo0p 0 (List.length s.1))), (1, (eI a1)), (2, (eI b2)), (7, (eI s.2)), (8, (eI j8))] ∧ aL ⟨H0, [lo0p], []⟩ H [(lo0p, 1, List.map (eI) s.1)] ∧ List.length s.1 = N0) hl1 ⟨.eq (by kernel_rfl), hO, hN⟩ ?_
    clear hO hN
    rintro k1 s out2 T H ⟨hT, hO, hN⟩ h2 ho1
    obtain ⟨aA, i7⟩ := s
    replace h2 : cK a1 b2 j8 aA i7 = some out2 := h2
    try dsimp only at hT
    refine bF hT ?_
    clear hT
    unfold cK at h2
    refine aO ?_
    refine aO ?_
    obtain ⟨c32, h2⟩ := aW h2
    obtain ⟨c33, h2⟩ := aW h2
    obtain ⟨x34, hx35, h2⟩ := aY h2
    refine fG (fH []) aD 16 ?_
    refine nV (K := fun T H => Has (lift T) [(0, (.msl 1 lo0p 0 (List.length aA))), (1, (eI a1)), (2, (eI b2)), (7, (eI i7)), (8, (eI j8)), (32, (aF ((decide (i7 < b2)) && (!x34))))] ∧ aL ⟨H0, [lo0p], []⟩ H [(lo0p, 1, List.map (eI) aA)]) ?_ ?_
    · refine lK 4 ?_
      refine mH (t := 20) (e := decide (i7 < b2)) (by kernel_rfl) (fun hg36 => ?_) (fun hg36 => ?_)
      · refine cA 7 [0 ≤ i7 ∧ i7 < (lN aA)] ⟨(c32 hg36), trivial⟩ ?_
        refine iV 0 lo0p 1 (0 + Int.toNat i7) (eI (gD aA i7)) (eI (gD aA i7)) (List.map (eI) aA) (by kernel_rfl) (by kernel_rfl) (by kernel_rfl) hO (by kernel_rfl) (bV (c32 hg36)) ?_
        refine cA 12 [0 ≤ (wR (i7 - (1 : Int))) ∧ (wR (i7 - (1 : Int))) < (lN aA)] ⟨(c33 hg36), trivial⟩ ?_
        refine iV 0 lo0p 1 (0 + Int.toNat (wR (i7 - (1 : Int)))) (eI (gD aA (wR (i7 - (1 : Int))))) (eI (gD aA (wR (i7 - (1 : Int))))) (List.map (eI) aA) (by kernel_rfl) (by kernel_rfl) (by kernel_rfl) hO (by kernel_rfl) (bV (c33 hg36)) ?_
        refine mV 70 [(eI (gD aA i7)), (eI (gD aA (wR (i7 - (1 : Int)))))] (aF x34) (by kernel_rfl) (by kernel_rfl) (eU (gD aA i7) (gD aA (wR (i7 - (1 : Int)))) _ (iZ hx35 hg36)) hO ?_
        intro H hO
        refine jC ?_
        exact ⟨⟨[(0, (.msl 1 lo0p 0 (List.length aA))), (1, (eI a1)), (2, (eI b2)), (7, (eI i7)), (8, (eI j8)), (32, (aF (!x34)))], by kernel_rfl, rfl, ⟨aN.refl _, aN.refl _, aN.refl _, aN.refl _, aN.refl _, aN.eq (congrArg aF (lW hg36 rfl).symm), trivial⟩⟩, hO⟩
      refine jC ?_
      exact ⟨⟨[(0, (.msl 1 lo0p 0 (List.length aA))), (1, (eI a1)), (2, (eI b2)), (7, (eI i7)), (8, (eI j8)), (32, (aF false))], by kernel_rfl, rfl, ⟨aN.refl _, aN.refl _, aN.refl _, aN.refl _, aN.refl _, aN.eq (congrArg aF (lW hg36 rfl).symm), trivial⟩⟩, hO⟩
    · rintro T H ⟨hT, hO⟩
      refine cW hT ?_
      clear hT
      refine aI (aH ?_)
      refine bM h2 (fun h2 => ?_) (fun h2 => ?_)
      · refine bL ?_
        refine bG [(0, (.msl 1 lo0p 0 (List.length aA))), (1, (eI a1)), (2, (eI b2)), (7, (eI i7)), (8, (eI j8))] ?_
        refine cG 3 ?_
        refine aV aD 3 ?_
        refine bD ?_
        exact aI (aZ (aH (⟨rfl, _, (oI h2).symm, .eq (by kernel_rfl), hO, hN⟩)))
      refine gZ 2 ?_
      obtain rfl := oI h2
      obtain rfl : _ = rr1 := ho1
      replace h1 : eA aA a1 b2 i7 j8 = some out1 := h1
      exact aI (aX (aX (bX (aH (⟨rfl, _, _, .eq (by kernel_rfl), hO, hN, h1⟩)))))
  refine gZ 0 ?_
  obtain rfl := oI h1
  obtain rfl : _ = rr0 := ho0
  replace h0 : dZ aA = some r := h0
  exact aI (aX (aX (bX (aH (⟨rfl, _, .eq (by kernel_rfl), hO, hN, h0⟩)))))

theorem sQ (lo0p : Nat) (aA : (List Int)) (a1 : Int) (b2 : Int) (cF : Int) (r : (Int × List Int)) (h0 : eK aA a1 b2 cF = some r) : mP Try.prog 85 lo0p 1 (List.map (eI) aA) (List.map (eI) r.2) [(.msl 1 lo0p 0 (List.length aA)), (eI a1), (eI b2), (eI cF)] (eI r.1) := by
  intro H0 hl0
  refine dD Try.func85 ?_
  have hO := aL.pI hl0
  clear hl0
  obtain ⟨N0, hN0⟩ : ∃ n, n = List.length aA := ⟨_, rfl⟩
  have hN : List.length aA = N0 := hN0.symm
  unfold eK at h0
  refine aU aD 1 [] [] ?_
  refine aO ?_
  refine fG (fH []) aD 16 ?_
  obtain ⟨c1, h0⟩ := aW h0
  refine cA 7 [0 ≤ cF ∧ cF < (lN aA)] ⟨c1, trivial⟩ ?_
  refine fE 0 lo0p 1 (0 + Int.toNat cF) (eI (gD aA cF)) (eI (gD aA cF)) (List.map (eI) aA) hO (bV c1) ?_
  obtain ⟨c2, h0⟩ := aW h0
  refine cA 11 [0 ≤ a1 ∧ a1 < (lN aA)] ⟨c2, trivial⟩ ?_
  refine fE 0 lo0p 1 (0 + Int.toNat a1) (eI (gD aA a1)) (eI (gD aA a1)) (List.map (eI) aA) hO (bV c2) ?_
  obtain ⟨c3, h0⟩ := aW h0
  refine cA 13 [0 ≤ a1 ∧ a1 < (lN aA)] ⟨c3, trivial⟩ ?_
  refine jX 0 lo0p 1 (0 + Int.toNat a1) (eI (gD aA a1)) (eI (gD aA cF)) (List.map (eI) aA) [(lo0p, 1, List.map (eI) (List.set aA (Int.toNat a1) (gD aA cF)))] hO (bV c3) (by simp only [List.set, fZ]) ?_
  intro H hO
  replace hN : List.length (List.set aA (Int.toNat a1) (gD aA cF)) = N0 := by simpa using hN
  obtain ⟨c4, h0⟩ := aW h0
  refine cA 15 [0 ≤ cF ∧ cF < (lN aA)] ⟨c4, trivial⟩ ?_
  refine jX 0 lo0p 1 (0 + Int.toNat cF) (eI (gD (List.set aA (Int.toNat a1) (gD aA cF)) cF)) (eI (gD aA a1)) (List.map (eI) (List.set aA (Int.toNat a1) (gD aA cF))) [(lo0p, 1, List.map (eI) (List.set (List.set aA (Int.toNat a1) (gD aA cF)) (Int.toNat cF) (gD aA a1)))] hO (mG c4 (by simp [])) (by simp only [List.set, fZ]) ?_
  intro H hO
  replace hN : List.length (List.set (List.set aA (Int.toNat a1) (gD aA cF)) (Int.toNat cF) (gD aA a1)) = N0 := by simpa using hN
  refine lX (by kernel_rfl) ?_
  refine cW (l := [(0, (.msl 1 lo0p 0 (List.length (List.set (List.set aA (Int.toNat a1) (gD aA cF)) (Int.toNat cF) (gD aA a1))))), (1, (eI a1)), (2, (eI b2))]) ⟨[(0, (.msl 1 lo0p 0 (List.length aA))), (1, (eI a1)), (2, (eI b2))], by kernel_rfl, rfl, ⟨aN.eq (by simp []), aN.refl _, aN.refl _, trivial⟩⟩ ?_
  refine aI (aH (?_))
  refine aU aD 6 [2] [(9, (eI (wR (a1 + (1 : Int))))), (10, (eI (wR (b2 - (1 : Int)))))] ?_
  refine gM (fun T H => ∃ aA : List Int, ∃ i9 : Int, Has T [(0, (.msl 1 lo0p 0 (List.length aA))), (9, (eI i9))] ∧ aL ⟨H0, [lo0p], []⟩ H [(lo0p, 1, List.map (eI) aA)] ∧ List.length aA = N0 ∧ iM aA i9 = some r) ?_ ?_
  · clear hO hN h0
    rintro T H ⟨aA, i9, hT, hO, hN, h0⟩
    refine bF hT ?_
    clear hT
    unfold iM at h0
    refine aU aD 2 [9] [(8, (eI i9))] ?_
    refine bH ?_
    obtain rfl := oI h0
    exact aI (jZ (x := (eI i9)) (by kernel_rfl) (aN.refl _) ⟨rfl, hO.ext, hO.at 0 (by kernel_rfl), by first | rfl | (simp only [List.length_map]; exact hN.trans hN0)⟩)
  refine cG 0 ?_
  refine fW [(0, (.msl 1 lo0p 0 (List.length (List.set (List.set aA (Int.toNat a1) (gD aA cF)) (Int.toNat cF) (gD aA a1))))), (1, (eI a1)), (9, (eI (wR (a1 + (1 : Int))))), (10, (eI (wR (b2 - (1 : Int)))))] ?_
  refine eS (fun T H => ∃ aA : List Int, ∃ i9 : Int, ∃ j10 : Int, Has T [(0, (.msl 1 lo0p 0 (List.length aA))), (1, (eI a1)), (9, (eI i9)), (10, (eI j10))] ∧ aL ⟨H0, [lo0p], []⟩ H [(lo0p, 1, List.map (eI) aA)] ∧ List.length aA = N0 ∧ iJ aA a1 i9 j10 = some r) ?_ ⟨List.set (List.set aA (Int.toNat a1) (gD aA cF)) (Int.toNat cF) (gD aA a1), wR (a1 + (1 : Int)), wR (b2 - (1 : Int)), .eq (by kernel_rfl), hO, hN, h0⟩
  clear hO hN h0
  rintro T H ⟨aA, i9, j10, hT, hO, hN, h0⟩
  refine bF hT ?_
  clear hT
  unfold iJ at h0
  obtain ⟨rr0, hl0, h0⟩ := aY h0
  refine dF (by kernel_rfl) (fun (s : List Int × Int × Int) T H => Has T [(0, (.msl 1 lo0p 0 (List.length s.1))), (1, (eI a1)), (9, (eI s.2.1)), (10, (eI s.2.2))] ∧ aL ⟨H0, [lo0p], []⟩ H [(lo0p, 1, List.map (eI) s.1)] ∧ List.length s.1 = N0) hl0 ⟨.eq (by kernel_rfl), hO, hN⟩ ?_
  clear hO hN
  rintro k0 s out1 T H ⟨hT, hO, hN⟩ h1 ho0
  obtain ⟨aA, i9, j10⟩ := s
  replace h1 : cO a1 aA i9 j10 = some out1 := h1
  try dsimp only at hT
  refine bF hT ?_
  clear hT
  unfold cO at h1
  refine cG 1 ?_
  refine gM (fun T H => ∃ aA : List Int, ∃ i9 : Int, Has T [(0, (.msl 1 lo0p 0 (List.length aA))), (1, (eI a1)), (9, (eI i9)), (10, (eI j10))] ∧ aL ⟨H0, [lo0p], []⟩ H [(lo0p, 1, List.map (eI) aA)] ∧ List.length aA = N0 ∧ fM aA a1 i9 j10 = some out1) ?_ ?_
  · clear hO hN h1
    rintro T H ⟨aA, i9, hT, hO, hN, h1⟩
    refine bF hT ?_
    clear hT
    unfold fM at h1
    refine gM (fun T H => ∃ aA : List Int, ∃ j10 : Int, Has T [(0, (.msl 1 lo0p 0 (List.length aA))), (1, (eI a1)), (9, (eI i9)), (10, (eI j10))] ∧ aL ⟨H0, [lo0p], []⟩ H [(lo0p, 1, List.map (eI) aA)] ∧ List.length aA = N0 ∧ dJ aA a1 i9 j10 = some out1) ?_ ?_
    · clear hO hN h1
      rintro T H ⟨aA, j10, hT, hO, hN, h1⟩
      refine bF hT ?_
      clear hT
      unfold dJ at h1
      refine aO ?_
      refine aU aD 3 [] [(64, (aF (decide (j10 < i9))))] ?_
      refine bM h1 (fun h1 => ?_) (fun h1 => ?_)
      · refine gZ 0 ?_
        obtain rfl := oI h1
        obtain rfl : _ = rr0 := ho0
        replace h0 : iM aA i9 = some r := h0
        exact aI (aX (qZ (by kernel_rfl) (aX (bX (aH (⟨rfl, _, _, .eq (by kernel_rfl), hO, hN, h0⟩))))))
      refine bL ?_
      refine bG [(0, (.msl 1 lo0p 0 (List.length aA))), (1, (eI a1)), (9, (eI i9)), (10, (eI j10))] ?_
      refine aO ?_
      refine fG (fH []) aD 16 ?_
      obtain ⟨c6, h1⟩ := aW h1
      refine cA 7 [0 ≤ j10 ∧ j10 < (lN aA)] ⟨c6, trivial⟩ ?_
      refine fE 0 lo0p 1 (0 + Int.toNat j10) (eI (gD aA j10)) (eI (gD aA j10)) (List.map (eI) aA) hO (bV c6) ?_
      obtain ⟨c7, h1⟩ := aW h1
      refine cA 11 [0 ≤ i9 ∧ i9 < (lN aA)] ⟨c7, trivial⟩ ?_
      refine fE 0 lo0p 1 (0 + Int.toNat i9) (eI (gD aA i9)) (eI (gD aA i9)) (List.map (eI) aA) hO (bV c7) ?_
      obtain ⟨c8, h1⟩ := aW h1
      refine cA 13 [0 ≤ i9 ∧ i9 < (lN aA)] ⟨c8, trivial⟩ ?_
      refine jX 0 lo0p 1 (0 + Int.toNat i9) (eI (gD aA i9)) (eI (gD aA j10)) (List.map (eI) aA) [(lo0p, 1, List.map (eI) (List.set aA (Int.toNat i9) (gD aA j10)))] hO (bV c8) (by simp only [List.set, fZ]) ?_
      intro H hO
      replace hN : List.length (List.set aA (Int.toNat i9) (gD aA j10)) = N0 := by simpa using hN
      obtain ⟨c9, h1⟩ := aW h1
      refine cA 15 [0 ≤ j10 ∧ j10 < (lN aA)] ⟨c9, trivial⟩ ?_
      refine jX 0 lo0p 1 (0 + Int.toNat j10) (eI (gD (List.set aA (Int.toNat i9) (gD aA j10)) j10)) (eI (gD aA i9)) (List.map (eI) (List.set aA (Int.toNat i9) (gD aA j10))) [(lo0p, 1, List.map (eI) (List.set (List.set aA (Int.toNat i9) (gD aA j10)) (Int.toNat j10) (gD aA i9)))] hO (mG c9 (by simp [])) (by simp only [List.set, fZ]) ?_
      intro H hO
      replace hN : List.length (List.set (List.set aA (Int.toNat i9) (gD aA j10)) (Int.toNat j10) (gD aA i9)) = N0 := by simpa using hN
      refine lX (by kernel_rfl) ?_
      refine cW (l := [(0, (.msl 1 lo0p 0 (List.length (List.set (List.set aA (Int.toNat i9) (gD aA j10)) (Int.toNat j10) (gD aA i9))))), (1, (eI a1)), (9, (eI i9)), (10, (eI j10))]) ⟨[(0, (.msl 1 lo0p 0 (List.length aA))), (1, (eI a1)), (9, (eI i9)), (10, (eI j10))], by kernel_rfl, rfl, ⟨aN.eq (by simp []), aN.refl _, aN.refl _, aN.refl _, trivial⟩⟩ ?_
      refine aI (aH (?_))
      refine aU aD 3 [9] [(9, (eI (wR (i9 + (1 : Int)))))] ?_
      refine aV aD 3 ?_
      refine bD ?_
      exact aI (aZ (aH (⟨rfl, _, (oI h1).symm, .eq (by kernel_rfl), hO, hN⟩)))
    refine cG 4 ?_
    refine fW [(0, (.msl 1 lo0p 0 (List.length aA))), (1, (eI a1)), (9, (eI i9)), (10, (eI j10))] ?_
    refine eS (fun T H => ∃ aA : List Int, ∃ j10 : Int, Has T [(0, (.msl 1 lo0p 0 (List.length aA))), (1, (eI a1)), (9, (eI i9)), (10, (eI j10))] ∧ aL ⟨H0, [lo0p], []⟩ H [(lo0p, 1, List.map (eI) aA)] ∧ List.length aA = N0 ∧ iH aA a1 i9 j10 = some out1) ?_ ⟨aA, j10, .eq (by kernel_rfl), hO, hN, h1⟩
    clear hO hN h1
    rintro T H ⟨aA, j10, hT, hO, hN, h1⟩
    refine bF hT ?_
    clear hT
    unfold iH at h1
    obtain ⟨rr1, hl1, h1⟩ := aY h1
    refine dF (by kernel_rfl) (fun (s : List Int × Int) T H => Has T [(0, (.msl 1 lo0p 0 (List.length s.1))), (1, (eI a1)), (9, (eI i9)), (10, (eI s.2))] ∧ aL ⟨H0, [lo0p], []⟩ H [(lo0p, 1, List.map (eI) s.1)] ∧ List.length s.1 = N0) hl1 ⟨.eq (by kernel_rfl), hO, hN⟩ ?_
    clear hO hN
    rintro k1 s out2 T H ⟨hT, hO, hN⟩ h2 ho1
    obtain ⟨aA, j10⟩ := s
    replace h2 : dK a1 i9 aA j10 = some out2 := h2
    try dsimp only at hT
    refine bF hT ?_
    clear hT
    unfold dK at h2
    refine aO ?_
    refine aO ?_
    obtain ⟨c10, h2⟩ := aW h2
    obtain ⟨c11, h2⟩ := aW h2
    obtain ⟨x12, hx13, h2⟩ := aY h2
    refine fG (fH []) aD 14 ?_
    refine nV (K := fun T H => Has (lift T) [(0, (.msl 1 lo0p 0 (List.length aA))), (1, (eI a1)), (9, (eI i9)), (10, (eI j10)), (59, (aF ((decide (i9 ≤ j10)) && x12)))] ∧ aL ⟨H0, [lo0p], []⟩ H [(lo0p, 1, List.map (eI) aA)]) ?_ ?_
    · refine lK 4 ?_
      refine mH (t := 49) (e := decide (i9 ≤ j10)) (by kernel_rfl) (fun hg14 => ?_) (fun hg14 => ?_)
      · refine cA 7 [0 ≤ a1 ∧ a1 < (lN aA)] ⟨(c10 hg14), trivial⟩ ?_
        refine iV 0 lo0p 1 (0 + Int.toNat a1) (eI (gD aA a1)) (eI (gD aA a1)) (List.map (eI) aA) (by kernel_rfl) (by kernel_rfl) (by kernel_rfl) hO (by kernel_rfl) (bV (c10 hg14)) ?_
        refine cA 11 [0 ≤ j10 ∧ j10 < (lN aA)] ⟨(c11 hg14), trivial⟩ ?_
        refine iV 0 lo0p 1 (0 + Int.toNat j10) (eI (gD aA j10)) (eI (gD aA j10)) (List.map (eI) aA) (by kernel_rfl) (by kernel_rfl) (by kernel_rfl) hO (by kernel_rfl) (bV (c11 hg14)) ?_
        refine mV 70 [(eI (gD aA a1)), (eI (gD aA j10))] (aF x12) (by kernel_rfl) (by kernel_rfl) (eU (gD aA a1) (gD aA j10) _ (iZ hx13 hg14)) hO ?_
        intro H hO
        refine jC ?_
        exact ⟨⟨[(0, (.msl 1 lo0p 0 (List.length aA))), (1, (eI a1)), (9, (eI i9)), (10, (eI j10)), (59, (aF x12))], by kernel_rfl, rfl, ⟨aN.refl _, aN.refl _, aN.refl _, aN.refl _, aN.eq (congrArg aF (lW hg14 rfl).symm), trivial⟩⟩, hO⟩
      refine jC ?_
      exact ⟨⟨[(0, (.msl 1 lo0p 0 (List.length aA))), (1, (eI a1)), (9, (eI i9)), (10, (eI j10)), (59, (aF false))], by kernel_rfl, rfl, ⟨aN.refl _, aN.refl _, aN.refl _, aN.refl _, aN.eq (congrArg aF (lW hg14 rfl).symm), trivial⟩⟩, hO⟩
    · rintro T H ⟨hT, hO⟩
      refine cW hT ?_
      clear hT
      refine aI (aH ?_)
      refine bM h2 (fun h2 => ?_) (fun h2 => ?_)
      · refine bL ?_
        refine bG [(0, (.msl 1 lo0p 0 (List.length aA))), (1, (eI a1)), (9, (eI i9)), (10, (eI j10))] ?_
        refine cG 5 ?_
        refine aV aD 3 ?_
        refine bD ?_
        exact aI (aZ (aH (⟨rfl, _, (oI h2).symm, .eq (by kernel_rfl), hO, hN⟩)))
      refine gZ 4 ?_
      obtain rfl := oI h2
      obtain rfl : _ = rr1 := ho1
      replace h1 : dJ aA a1 i9 j10 = some out1 := h1
      exact aI (aX (aX (bX (aH (⟨rfl, _, _, .eq (by kernel_rfl), hO, hN, h1⟩)))))
  refine cG 2 ?_
  refine fW [(0, (.msl 1 lo0p 0 (List.length aA))), (1, (eI a1)), (9, (eI i9)), (10, (eI j10))] ?_
  refine eS (fun T H => ∃ aA : List Int, ∃ i9 : Int, Has T [(0, (.msl 1 lo0p 0 (List.length aA))), (1, (eI a1)), (9, (eI i9)), (10, (eI j10))] ∧ aL ⟨H0, [lo0p], []⟩ H [(lo0p, 1, List.map (eI) aA)] ∧ List.length aA = N0 ∧ iK aA a1 i9 j10 = some out1) ?_ ⟨aA, i9, .eq (by kernel_rfl), hO, hN, h1⟩
  clear hO hN h1
  rintro T H ⟨aA, i9, hT, hO, hN, h1⟩
  refine bF hT ?_
  clear hT
  unfold iK at h1
  obtain ⟨rr1, hl1, h1⟩ := aY h1
  refine dF (by kernel_rfl) (fun (s : List Int × Int) T H => Has T [(0, (.msl 1 lo0p 0 (List.length s.1))), (1, (eI a1)), (9, (eI s.2)), (10, (eI j10))] ∧ aL ⟨H0, [lo0p], []⟩ H [(lo0p, 1, List.map (eI) s.1)] ∧ List.length s.1 = N0) hl1 ⟨.eq (by kernel_rfl), hO, hN⟩ ?_
  clear hO hN
  rintro k1 s out2 T H ⟨hT, hO, hN⟩ h2 ho1
  obtain ⟨aA, i9⟩ := s
  replace h2 : dI a1 j10 aA i9 = some out2 := h2
  try dsimp only at hT
  refine bF hT ?_
  clear hT
  unfold dI at h2
  refine aO ?_
  refine aO ?_
  obtain ⟨c16, h2⟩ := aW h2
  obtain ⟨c17, h2⟩ := aW h2
  obtain ⟨x18, hx19, h2⟩ := aY h2
  refine fG (fH []) aD 15 ?_
  refine nV (K := fun T H => Has (lift T) [(0, (.msl 1 lo0p 0 (List.length aA))), (1, (eI a1)), (9, (eI i9)), (10, (eI j10)), (43, (aF ((decide (i9 ≤ j10)) && (!x18))))] ∧ aL ⟨H0, [lo0p], []⟩ H [(lo0p, 1, List.map (eI) aA)]) ?_ ?_
  · refine lK 4 ?_
    refine mH (t := 32) (e := decide (i9 ≤ j10)) (by kernel_rfl) (fun hg20 => ?_) (fun hg20 => ?_)
    · refine cA 7 [0 ≤ a1 ∧ a1 < (lN aA)] ⟨(c16 hg20), trivial⟩ ?_
      refine iV 0 lo0p 1 (0 + Int.toNat a1) (eI (gD aA a1)) (eI (gD aA a1)) (List.map (eI) aA) (by kernel_rfl) (by kernel_rfl) (by kernel_rfl) hO (by kernel_rfl) (bV (c16 hg20)) ?_
      refine cA 11 [0 ≤ i9 ∧ i9 < (lN aA)] ⟨(c17 hg20), trivial⟩ ?_
      refine iV 0 lo0p 1 (0 + Int.toNat i9) (eI (gD aA i9)) (eI (gD aA i9)) (List.map (eI) aA) (by kernel_rfl) (by kernel_rfl) (by kernel_rfl) hO (by kernel_rfl) (bV (c17 hg20)) ?_
      refine mV 70 [(eI (gD aA a1)), (eI (gD aA i9))] (aF x18) (by kernel_rfl) (by kernel_rfl) (eU (gD aA a1) (gD aA i9) _ (iZ hx19 hg20)) hO ?_
      intro H hO
      refine jC ?_
      exact ⟨⟨[(0, (.msl 1 lo0p 0 (List.length aA))), (1, (eI a1)), (9, (eI i9)), (10, (eI j10)), (43, (aF (!x18)))], by kernel_rfl, rfl, ⟨aN.refl _, aN.refl _, aN.refl _, aN.refl _, aN.eq (congrArg aF (lW hg20 rfl).symm), trivial⟩⟩, hO⟩
    refine jC ?_
    exact ⟨⟨[(0, (.msl 1 lo0p 0 (List.length aA))), (1, (eI a1)), (9, (eI i9)), (10, (eI j10)), (43, (aF false))], by kernel_rfl, rfl, ⟨aN.refl _, aN.refl _, aN.refl _, aN.refl _, aN.eq (congrArg aF (lW hg20 rfl).symm), trivial⟩⟩, hO⟩
  · rintro T H ⟨hT, hO⟩
    refine cW hT ?_
    clear hT
    refine aI (aH ?_)
    refine bM h2 (fun h2 => ?_) (fun h2 => ?_)
    · refine bL ?_
      refine bG [(0, (.msl 1 lo0p 0 (List.length aA))), (1, (eI a1)), (9, (eI i9)), (10, (eI j10))] ?_
      refine cG 3 ?_
      refine aV aD 3 ?_
      refine bD ?_
      exact aI (aZ (aH (⟨rfl, _, (oI h2).symm, .eq (by kernel_rfl), hO, hN⟩)))
    refine gZ 2 ?_
    obtain rfl := oI h2
    obtain rfl : _ = rr1 := ho1
    replace h1 : fM aA a1 i9 j10 = some out1 := h1
    exact aI (aX (aX (bX (aH (⟨rfl, _, _, .eq (by kernel_rfl), hO, hN, h1⟩)))))

end Go.Abs
namespace Go.Abs
open Go Go.RowKit Go.Proofs
end Go.Abs
