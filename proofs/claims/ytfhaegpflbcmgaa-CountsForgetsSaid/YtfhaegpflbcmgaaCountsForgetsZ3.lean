/- What the law CountsForgets stands on: the framework, the given functions as plain functions, their walks, and the plain laws; part 3. -/
import Derived.Test.YtfhaegpflbcmgaaCountsForgetsZ2
set_option linter.unusedSimpArgs false
set_option linter.unusedVariables false
namespace Go.Abs
open Go
noncomputable def dB (aA : List Int) (a1 : Int) (b2 : Int) (i7 : Int) (j8 : Int) : Option ((List Int × Int × Int) ⊕ ((List Int) ⊕ (Bool × (List Int)))) :=
  some (.inl (aA, i7, IntKind.i64.wrap (j8 + (1 : Int))))

noncomputable def cL (a1 : Int) (b2 : Int) (i7 : Int) (j8 : Int) (aA : List Int) (j10 : Int) : Option ((List Int × Int) ⊕ ((List Int))) :=
  cond (decide (j10 < b2))
  (aZ (0 ≤ j10 ∧ j10 < ((List.length aA : Nat) : Int)) <|
  aZ (0 ≤ (IntKind.i64.wrap (j10 - (1 : Int))) ∧ (IntKind.i64.wrap (j10 - (1 : Int))) < ((List.length aA : Nat) : Int)) <|
  (cN (List.getD aA (Int.toNat j10) default) (List.getD aA (Int.toNat (IntKind.i64.wrap (j10 - (1 : Int)))) default)).bind fun x12 =>
  cond (!x12)
  (some (.inr aA))
  (aZ (0 ≤ (IntKind.i64.wrap (j10 - (1 : Int))) ∧ (IntKind.i64.wrap (j10 - (1 : Int))) < ((List.length aA : Nat) : Int)) <|
  aZ (0 ≤ j10 ∧ j10 < ((List.length aA : Nat) : Int)) <|
  aZ (0 ≤ j10 ∧ j10 < ((List.length aA : Nat) : Int)) <|
  aZ (0 ≤ (IntKind.i64.wrap (j10 - (1 : Int))) ∧ (IntKind.i64.wrap (j10 - (1 : Int))) < ((List.length aA : Nat) : Int)) <|
  some (.inl (List.set (List.set aA (Int.toNat j10) (List.getD aA (Int.toNat (IntKind.i64.wrap (j10 - (1 : Int)))) default)) (Int.toNat (IntKind.i64.wrap (j10 - (1 : Int)))) (List.getD aA (Int.toNat j10) default), IntKind.i64.wrap (j10 + (1 : Int))))))
  (some (.inr aA))

noncomputable def fQ (aA : List Int) (a1 : Int) (b2 : Int) (i7 : Int) (j8 : Int) (j10 : Int) : Option ((List Int × Int × Int) ⊕ ((List Int) ⊕ (Bool × (List Int)))) :=
  (lp (fun s => cL a1 b2 i7 j8 s.1 s.2) (aA, j10)).bind (fun rr => dB rr a1 b2 i7 j8)

noncomputable def cE (aA : List Int) (a1 : Int) (b2 : Int) (i7 : Int) (j8 : Int) : Option ((List Int × Int × Int) ⊕ ((List Int) ⊕ (Bool × (List Int)))) :=
  cond (decide ((2 : Int) ≤ (IntKind.i64.wrap (b2 - i7))))
  (fQ aA a1 b2 i7 j8 (IntKind.i64.wrap (i7 + (1 : Int))))
  (dB aA a1 b2 i7 j8)

noncomputable def cD (a1 : Int) (b2 : Int) (i7 : Int) (j8 : Int) (aA : List Int) (j9 : Int) : Option ((List Int × Int) ⊕ ((List Int))) :=
  cond (decide ((1 : Int) ≤ j9))
  (aZ (0 ≤ j9 ∧ j9 < ((List.length aA : Nat) : Int)) <|
  aZ (0 ≤ (IntKind.i64.wrap (j9 - (1 : Int))) ∧ (IntKind.i64.wrap (j9 - (1 : Int))) < ((List.length aA : Nat) : Int)) <|
  (cN (List.getD aA (Int.toNat j9) default) (List.getD aA (Int.toNat (IntKind.i64.wrap (j9 - (1 : Int)))) default)).bind fun x24 =>
  cond (!x24)
  (some (.inr aA))
  (aZ (0 ≤ (IntKind.i64.wrap (j9 - (1 : Int))) ∧ (IntKind.i64.wrap (j9 - (1 : Int))) < ((List.length aA : Nat) : Int)) <|
  aZ (0 ≤ j9 ∧ j9 < ((List.length aA : Nat) : Int)) <|
  aZ (0 ≤ j9 ∧ j9 < ((List.length aA : Nat) : Int)) <|
  aZ (0 ≤ (IntKind.i64.wrap (j9 - (1 : Int))) ∧ (IntKind.i64.wrap (j9 - (1 : Int))) < ((List.length aA : Nat) : Int)) <|
  some (.inl (List.set (List.set aA (Int.toNat j9) (List.getD aA (Int.toNat (IntKind.i64.wrap (j9 - (1 : Int)))) default)) (Int.toNat (IntKind.i64.wrap (j9 - (1 : Int)))) (List.getD aA (Int.toNat j9) default), IntKind.i64.wrap (j9 - (1 : Int))))))
  (some (.inr aA))

noncomputable def fO (aA : List Int) (a1 : Int) (b2 : Int) (i7 : Int) (j8 : Int) (j9 : Int) : Option ((List Int × Int × Int) ⊕ ((List Int) ⊕ (Bool × (List Int)))) :=
  (lp (fun s => cD a1 b2 i7 j8 s.1 s.2) (aA, j9)).bind (fun rr => cE rr a1 b2 i7 j8)

noncomputable def dZ (aA : List Int) (a1 : Int) (b2 : Int) (i7 : Int) (j8 : Int) : Option ((List Int × Int × Int) ⊕ ((List Int) ⊕ (Bool × (List Int)))) :=
  cond (decide (i7 = b2))
  (some (.inr (.inr (true, aA))))
  (cond (decide ((IntKind.i64.wrap (b2 - a1)) < (50 : Int)))
  (some (.inr (.inr (false, aA))))
  (aZ (0 ≤ (IntKind.i64.wrap (i7 - (1 : Int))) ∧ (IntKind.i64.wrap (i7 - (1 : Int))) < ((List.length aA : Nat) : Int)) <|
  aZ (0 ≤ i7 ∧ i7 < ((List.length aA : Nat) : Int)) <|
  aZ (0 ≤ i7 ∧ i7 < ((List.length aA : Nat) : Int)) <|
  aZ (0 ≤ (IntKind.i64.wrap (i7 - (1 : Int))) ∧ (IntKind.i64.wrap (i7 - (1 : Int))) < ((List.length aA : Nat) : Int)) <|
  cond (decide ((2 : Int) ≤ (IntKind.i64.wrap (i7 - a1))))
  (fO (List.set (List.set aA (Int.toNat i7) (List.getD aA (Int.toNat (IntKind.i64.wrap (i7 - (1 : Int)))) default)) (Int.toNat (IntKind.i64.wrap (i7 - (1 : Int)))) (List.getD aA (Int.toNat i7) default)) a1 b2 i7 j8 (IntKind.i64.wrap (i7 - (1 : Int))))
  (cE (List.set (List.set aA (Int.toNat i7) (List.getD aA (Int.toNat (IntKind.i64.wrap (i7 - (1 : Int)))) default)) (Int.toNat (IntKind.i64.wrap (i7 - (1 : Int)))) (List.getD aA (Int.toNat i7) default)) a1 b2 i7 j8)))

noncomputable def cK (a1 : Int) (b2 : Int) (j8 : Int) (aA : List Int) (i7 : Int) : Option ((List Int × Int) ⊕ ((List Int × Int))) :=
  aZ ((((decide (i7 < b2))) = true → 0 ≤ i7 ∧ i7 < ((List.length aA : Nat) : Int))) <|
  aZ ((((decide (i7 < b2))) = true → 0 ≤ (IntKind.i64.wrap (i7 - (1 : Int))) ∧ (IntKind.i64.wrap (i7 - (1 : Int))) < ((List.length aA : Nat) : Int))) <|
  (dJ (decide (i7 < b2)) (cN (List.getD aA (Int.toNat i7) default) (List.getD aA (Int.toNat (IntKind.i64.wrap (i7 - (1 : Int)))) default))).bind fun x34 =>
  cond ((decide (i7 < b2)) && (!x34))
  (some (.inl (aA, IntKind.i64.wrap (i7 + (1 : Int)))))
  (some (.inr (aA, i7)))

noncomputable def cT (aA : List Int) (a1 : Int) (b2 : Int) (i7 : Int) (j8 : Int) : Option ((List Int × Int × Int) ⊕ ((List Int) ⊕ (Bool × (List Int)))) :=
  (lp (fun s => cK a1 b2 j8 s.1 s.2) (aA, i7)).bind (fun rr => dZ rr.1 a1 b2 rr.2 j8)

noncomputable def bS (a1 : Int) (b2 : Int) (aA : List Int) (i7 : Int) (j8 : Int) : Option ((List Int × Int × Int) ⊕ ((List Int) ⊕ (Bool × (List Int)))) :=
  cond (decide (j8 < (5 : Int)))
  (cT aA a1 b2 i7 j8)
  (some (.inr (.inl aA)))

noncomputable def fP (aA : List Int) (a1 : Int) (b2 : Int) (i7 : Int) (j8 : Int) : Option (Bool × List Int) :=
  (lp (fun s => bS a1 b2 s.1 s.2.1 s.2.2) (aA, i7, j8)).bind (Sum.elim (fun rr => dY rr) (fun rr => some (rr.1, rr.2)))

noncomputable def eF (aA : (List Int)) (a1 : Int) (b2 : Int) : Option (Bool × List Int) :=
  fP aA a1 b2 (IntKind.i64.wrap (a1 + (1 : Int))) (0 : Int)

noncomputable def iI (aA : List Int) (i9 : Int) : Option (Int × List Int) :=
  some (i9, aA)

noncomputable def dF (aA : List Int) (a1 : Int) (i9 : Int) (j10 : Int) : Option ((List Int × Int × Int) ⊕ ((List Int × Int))) :=
  cond (decide (j10 < i9))
  (some (.inr (aA, i9)))
  (aZ (0 ≤ j10 ∧ j10 < ((List.length aA : Nat) : Int)) <|
  aZ (0 ≤ i9 ∧ i9 < ((List.length aA : Nat) : Int)) <|
  aZ (0 ≤ i9 ∧ i9 < ((List.length aA : Nat) : Int)) <|
  aZ (0 ≤ j10 ∧ j10 < ((List.length aA : Nat) : Int)) <|
  some (.inl (List.set (List.set aA (Int.toNat i9) (List.getD aA (Int.toNat j10) default)) (Int.toNat j10) (List.getD aA (Int.toNat i9) default), IntKind.i64.wrap (i9 + (1 : Int)), IntKind.i64.wrap (j10 - (1 : Int)))))

noncomputable def dD (a1 : Int) (i9 : Int) (aA : List Int) (j10 : Int) : Option ((List Int × Int) ⊕ ((List Int × Int))) :=
  aZ ((((decide (i9 ≤ j10))) = true → 0 ≤ a1 ∧ a1 < ((List.length aA : Nat) : Int))) <|
  aZ ((((decide (i9 ≤ j10))) = true → 0 ≤ j10 ∧ j10 < ((List.length aA : Nat) : Int))) <|
  (dJ (decide (i9 ≤ j10)) (cN (List.getD aA (Int.toNat a1) default) (List.getD aA (Int.toNat j10) default))).bind fun x12 =>
  cond ((decide (i9 ≤ j10)) && x12)
  (some (.inl (aA, IntKind.i64.wrap (j10 - (1 : Int)))))
  (some (.inr (aA, j10)))

noncomputable def iD (aA : List Int) (a1 : Int) (i9 : Int) (j10 : Int) : Option ((List Int × Int × Int) ⊕ ((List Int × Int))) :=
  (lp (fun s => dD a1 i9 s.1 s.2) (aA, j10)).bind (fun rr => dF rr.1 a1 i9 rr.2)

noncomputable def fI (aA : List Int) (a1 : Int) (i9 : Int) (j10 : Int) : Option ((List Int × Int × Int) ⊕ ((List Int × Int))) :=
  iD aA a1 i9 j10

noncomputable def dH (a1 : Int) (j10 : Int) (aA : List Int) (i9 : Int) : Option ((List Int × Int) ⊕ ((List Int × Int))) :=
  aZ ((((decide (i9 ≤ j10))) = true → 0 ≤ a1 ∧ a1 < ((List.length aA : Nat) : Int))) <|
  aZ ((((decide (i9 ≤ j10))) = true → 0 ≤ i9 ∧ i9 < ((List.length aA : Nat) : Int))) <|
  (dJ (decide (i9 ≤ j10)) (cN (List.getD aA (Int.toNat a1) default) (List.getD aA (Int.toNat i9) default))).bind fun x18 =>
  cond ((decide (i9 ≤ j10)) && (!x18))
  (some (.inl (aA, IntKind.i64.wrap (i9 + (1 : Int)))))
  (some (.inr (aA, i9)))

noncomputable def iE (aA : List Int) (a1 : Int) (i9 : Int) (j10 : Int) : Option ((List Int × Int × Int) ⊕ ((List Int × Int))) :=
  (lp (fun s => dH a1 j10 s.1 s.2) (aA, i9)).bind (fun rr => fI rr.1 a1 rr.2 j10)

noncomputable def cO (a1 : Int) (aA : List Int) (i9 : Int) (j10 : Int) : Option ((List Int × Int × Int) ⊕ ((List Int × Int))) :=
  iE aA a1 i9 j10

noncomputable def iH (aA : List Int) (a1 : Int) (i9 : Int) (j10 : Int) : Option (Int × List Int) :=
  (lp (fun s => cO a1 s.1 s.2.1 s.2.2) (aA, i9, j10)).bind (fun rr => iI rr.1 rr.2)

noncomputable def eJ (aA : (List Int)) (a1 : Int) (b2 : Int) (cF : Int) : Option (Int × List Int) :=
  aZ (0 ≤ cF ∧ cF < ((List.length aA : Nat) : Int)) <|
  aZ (0 ≤ a1 ∧ a1 < ((List.length aA : Nat) : Int)) <|
  aZ (0 ≤ a1 ∧ a1 < ((List.length aA : Nat) : Int)) <|
  aZ (0 ≤ cF ∧ cF < ((List.length aA : Nat) : Int)) <|
  iH (List.set (List.set aA (Int.toNat a1) (List.getD aA (Int.toNat cF) default)) (Int.toNat cF) (List.getD aA (Int.toNat a1) default)) a1 (IntKind.i64.wrap (a1 + (1 : Int))) (IntKind.i64.wrap (b2 - (1 : Int)))

noncomputable def hM (aA : List Int) (a1 : Int) (j11 : Int) : Option ((Int × Bool) × List Int) :=
  aZ (0 ≤ a1 ∧ a1 < ((List.length aA : Nat) : Int)) <|
  aZ (0 ≤ j11 ∧ j11 < ((List.length aA : Nat) : Int)) <|
  aZ (0 ≤ j11 ∧ j11 < ((List.length aA : Nat) : Int)) <|
  aZ (0 ≤ a1 ∧ a1 < ((List.length aA : Nat) : Int)) <|
  some ((j11, false), (List.set (List.set aA (Int.toNat j11) (List.getD aA (Int.toNat a1) default)) (Int.toNat a1) (List.getD aA (Int.toNat j11) default)))

noncomputable def eC (aA : List Int) (a1 : Int) (i10 : Int) (j11 : Int) : Option ((List Int × Int × Int) ⊕ ((List Int × Int))) :=
  cond (decide (j11 < i10))
  (some (.inr (aA, j11)))
  (aZ (0 ≤ j11 ∧ j11 < ((List.length aA : Nat) : Int)) <|
  aZ (0 ≤ i10 ∧ i10 < ((List.length aA : Nat) : Int)) <|
  aZ (0 ≤ i10 ∧ i10 < ((List.length aA : Nat) : Int)) <|
  aZ (0 ≤ j11 ∧ j11 < ((List.length aA : Nat) : Int)) <|
  some (.inl (List.set (List.set aA (Int.toNat i10) (List.getD aA (Int.toNat j11) default)) (Int.toNat j11) (List.getD aA (Int.toNat i10) default), IntKind.i64.wrap (i10 + (1 : Int)), IntKind.i64.wrap (j11 - (1 : Int)))))

noncomputable def eD (a1 : Int) (i10 : Int) (aA : List Int) (j11 : Int) : Option ((List Int × Int) ⊕ ((List Int × Int))) :=
  aZ ((((decide (i10 ≤ j11))) = true → 0 ≤ j11 ∧ j11 < ((List.length aA : Nat) : Int))) <|
  aZ ((((decide (i10 ≤ j11))) = true → 0 ≤ a1 ∧ a1 < ((List.length aA : Nat) : Int))) <|
  (dJ (decide (i10 ≤ j11)) (cN (List.getD aA (Int.toNat j11) default) (List.getD aA (Int.toNat a1) default))).bind fun x25 =>
  cond ((decide (i10 ≤ j11)) && (!x25))
  (some (.inl (aA, IntKind.i64.wrap (j11 - (1 : Int)))))
  (some (.inr (aA, j11)))

noncomputable def jL (aA : List Int) (a1 : Int) (i10 : Int) (j11 : Int) : Option ((List Int × Int × Int) ⊕ ((List Int × Int))) :=
  (lp (fun s => eD a1 i10 s.1 s.2) (aA, j11)).bind (fun rr => eC rr.1 a1 i10 rr.2)

noncomputable def gX (aA : List Int) (a1 : Int) (i10 : Int) (j11 : Int) : Option ((List Int × Int × Int) ⊕ ((List Int × Int))) :=
  jL aA a1 i10 j11

noncomputable def eG (a1 : Int) (j11 : Int) (aA : List Int) (i10 : Int) : Option ((List Int × Int) ⊕ ((List Int × Int))) :=
  aZ ((((decide (i10 ≤ j11))) = true → 0 ≤ i10 ∧ i10 < ((List.length aA : Nat) : Int))) <|
  aZ ((((decide (i10 ≤ j11))) = true → 0 ≤ a1 ∧ a1 < ((List.length aA : Nat) : Int))) <|
  (dJ (decide (i10 ≤ j11)) (cN (List.getD aA (Int.toNat i10) default) (List.getD aA (Int.toNat a1) default))).bind fun x31 =>
  cond ((decide (i10 ≤ j11)) && x31)
  (some (.inl (aA, IntKind.i64.wrap (i10 + (1 : Int)))))
  (some (.inr (aA, i10)))

noncomputable def jI (aA : List Int) (a1 : Int) (i10 : Int) (j11 : Int) : Option ((List Int × Int × Int) ⊕ ((List Int × Int))) :=
  (lp (fun s => eG a1 j11 s.1 s.2) (aA, i10)).bind (fun rr => gX rr.1 a1 rr.2 j11)

noncomputable def cZ (a1 : Int) (aA : List Int) (i10 : Int) (j11 : Int) : Option ((List Int × Int × Int) ⊕ ((List Int × Int))) :=
  jI aA a1 i10 j11

noncomputable def jJ (aA : List Int) (a1 : Int) (i10 : Int) (j11 : Int) : Option ((Int × Bool) × List Int) :=
  (lp (fun s => cZ a1 s.1 s.2.1 s.2.2) (aA, i10, j11)).bind (fun rr => hM rr.1 a1 rr.2)

noncomputable def eA (aA : List Int) (a1 : Int) (i10 : Int) (j11 : Int) : Option ((Int × Bool) × List Int) :=
  cond (decide (j11 < i10))
  (aZ (0 ≤ a1 ∧ a1 < ((List.length aA : Nat) : Int)) <|
  aZ (0 ≤ j11 ∧ j11 < ((List.length aA : Nat) : Int)) <|
  aZ (0 ≤ j11 ∧ j11 < ((List.length aA : Nat) : Int)) <|
  aZ (0 ≤ a1 ∧ a1 < ((List.length aA : Nat) : Int)) <|
  some ((j11, true), (List.set (List.set aA (Int.toNat j11) (List.getD aA (Int.toNat a1) default)) (Int.toNat a1) (List.getD aA (Int.toNat j11) default))))
  (aZ (0 ≤ j11 ∧ j11 < ((List.length aA : Nat) : Int)) <|
  aZ (0 ≤ i10 ∧ i10 < ((List.length aA : Nat) : Int)) <|
  aZ (0 ≤ i10 ∧ i10 < ((List.length aA : Nat) : Int)) <|
  aZ (0 ≤ j11 ∧ j11 < ((List.length aA : Nat) : Int)) <|
  jJ (List.set (List.set aA (Int.toNat i10) (List.getD aA (Int.toNat j11) default)) (Int.toNat j11) (List.getD aA (Int.toNat i10) default)) a1 (IntKind.i64.wrap (i10 + (1 : Int))) (IntKind.i64.wrap (j11 - (1 : Int))))

noncomputable def eB (a1 : Int) (i10 : Int) (aA : List Int) (j11 : Int) : Option ((List Int × Int) ⊕ ((List Int × Int))) :=
  aZ ((((decide (i10 ≤ j11))) = true → 0 ≤ j11 ∧ j11 < ((List.length aA : Nat) : Int))) <|
  aZ ((((decide (i10 ≤ j11))) = true → 0 ≤ a1 ∧ a1 < ((List.length aA : Nat) : Int))) <|
  (dJ (decide (i10 ≤ j11)) (cN (List.getD aA (Int.toNat j11) default) (List.getD aA (Int.toNat a1) default))).bind fun x37 =>
  cond ((decide (i10 ≤ j11)) && (!x37))
  (some (.inl (aA, IntKind.i64.wrap (j11 - (1 : Int)))))
  (some (.inr (aA, j11)))

noncomputable def jK (aA : List Int) (a1 : Int) (i10 : Int) (j11 : Int) : Option ((Int × Bool) × List Int) :=
  (lp (fun s => eB a1 i10 s.1 s.2) (aA, j11)).bind (fun rr => eA rr.1 a1 i10 rr.2)

noncomputable def gY (aA : List Int) (a1 : Int) (i10 : Int) (j11 : Int) : Option ((Int × Bool) × List Int) :=
  jK aA a1 i10 j11

noncomputable def dX (a1 : Int) (j11 : Int) (aA : List Int) (i10 : Int) : Option ((List Int × Int) ⊕ ((List Int × Int))) :=
  aZ ((((decide (i10 ≤ j11))) = true → 0 ≤ i10 ∧ i10 < ((List.length aA : Nat) : Int))) <|
  aZ ((((decide (i10 ≤ j11))) = true → 0 ≤ a1 ∧ a1 < ((List.length aA : Nat) : Int))) <|
  (dJ (decide (i10 ≤ j11)) (cN (List.getD aA (Int.toNat i10) default) (List.getD aA (Int.toNat a1) default))).bind fun x43 =>
  cond ((decide (i10 ≤ j11)) && x43)
  (some (.inl (aA, IntKind.i64.wrap (i10 + (1 : Int)))))
  (some (.inr (aA, i10)))

noncomputable def fC (aA : List Int) (a1 : Int) (i10 : Int) (j11 : Int) : Option ((Int × Bool) × List Int) :=
  (lp (fun s => dX a1 j11 s.1 s.2) (aA, i10)).bind (fun rr => gY rr.1 a1 rr.2 j11)

noncomputable def fT (aA : (List Int)) (a1 : Int) (b2 : Int) (cF : Int) : Option ((Int × Bool) × List Int) :=
  aZ (0 ≤ cF ∧ cF < ((List.length aA : Nat) : Int)) <|
  aZ (0 ≤ a1 ∧ a1 < ((List.length aA : Nat) : Int)) <|
  aZ (0 ≤ a1 ∧ a1 < ((List.length aA : Nat) : Int)) <|
  aZ (0 ≤ cF ∧ cF < ((List.length aA : Nat) : Int)) <|
  fC (List.set (List.set aA (Int.toNat a1) (List.getD aA (Int.toNat cF) default)) (Int.toNat cF) (List.getD aA (Int.toNat a1) default)) a1 (IntKind.i64.wrap (a1 + (1 : Int))) (IntKind.i64.wrap (b2 - (1 : Int)))

noncomputable def gC (rec : (List Int) → Int → Int → Int → Option (List Int)) (aA : List Int) (a1 : Int) (b2 : Int) (bW : Int) (bP : Bool) (bG : Bool) (dL : Int) (fF : Int) : Option ((List Int × Int × Int × Int × Bool × Bool) ⊕ ((List Int))) :=
  aZ ((((decide ((0 : Int) < a1))) = true → 0 ≤ (IntKind.i64.wrap (a1 - (1 : Int))) ∧ (IntKind.i64.wrap (a1 - (1 : Int))) < ((List.length aA : Nat) : Int))) <|
  aZ ((((decide ((0 : Int) < a1))) = true → 0 ≤ fF ∧ fF < ((List.length aA : Nat) : Int))) <|
  (dJ (decide ((0 : Int) < a1)) (cN (List.getD aA (Int.toNat (IntKind.i64.wrap (a1 - (1 : Int)))) default) (List.getD aA (Int.toNat fF) default))).bind fun x16 =>
  cond ((decide ((0 : Int) < a1)) && (!x16))
  ((eJ aA a1 b2 fF).bind fun x20 =>
  some (.inl (x20.2, x20.1, b2, bW, bP, bG)))
  ((fT aA a1 b2 fF).bind fun x23 =>
  aZ ((8 : Int) ≠ 0) <|
  cond (decide ((IntKind.i64.wrap (x23.1.1 - a1)) < (IntKind.i64.wrap (b2 - x23.1.1))))
  ((rec x23.2 a1 x23.1.1 bW).bind fun x28 =>
  some (.inl (x28, IntKind.i64.wrap (x23.1.1 + (1 : Int)), b2, bW, decide ((IntKind.i64.wrap (Int.tdiv dL (8 : Int))) ≤ (IntKind.i64.wrap (x23.1.1 - a1))), x23.1.2)))
  ((rec x23.2 (IntKind.i64.wrap (x23.1.1 + (1 : Int))) b2 bW).bind fun x31 =>
  some (.inl (x31, a1, x23.1.1, bW, decide ((IntKind.i64.wrap (Int.tdiv dL (8 : Int))) ≤ (IntKind.i64.wrap (b2 - x23.1.1))), x23.1.2))))

noncomputable def fZ (rec : (List Int) → Int → Int → Int → Option (List Int)) (aA : List Int) (a1 : Int) (b2 : Int) (bW : Int) (bP : Bool) (bG : Bool) (dL : Int) (fF : Int) (yJ : Int) : Option ((List Int × Int × Int × Int × Bool × Bool) ⊕ ((List Int))) :=
  cond ((bP && bG) && (decide (yJ = (1 : Int))))
  ((eF aA a1 b2).bind fun x35 =>
  cond x35.1
  (some (.inr x35.2))
  (gC rec x35.2 a1 b2 bW bP bG dL fF))
  (gC rec aA a1 b2 bW bP bG dL fF)

noncomputable def gE (rec : (List Int) → Int → Int → Int → Option (List Int)) (aA : List Int) (a1 : Int) (b2 : Int) (bW : Int) (bP : Bool) (bG : Bool) (dL : Int) : Option ((List Int × Int × Int × Int × Bool × Bool) ⊕ ((List Int))) :=
  (gS aA a1 b2).bind fun x9 =>
  cond (decide (x9.2 = (2 : Int)))
  ((gL aA a1 b2).bind fun x40 =>
  fZ rec x40 a1 b2 bW bP bG dL (IntKind.i64.wrap ((IntKind.i64.wrap (b2 - (1 : Int))) - (IntKind.i64.wrap (x9.1 - a1)))) (1 : Int))
  (fZ rec aA a1 b2 bW bP bG dL x9.1 x9.2)

noncomputable def dV (rec : (List Int) → Int → Int → Int → Option (List Int))  (aA : List Int) (a1 : Int) (b2 : Int) (bW : Int) (bP : Bool) (bG : Bool) : Option ((List Int × Int × Int × Int × Bool × Bool) ⊕ ((List Int))) :=
  cond (decide ((IntKind.i64.wrap (b2 - a1)) ≤ (12 : Int)))
  ((fW aA a1 b2).bind fun x2 =>
  some (.inr x2))
  (cond (decide (bW = (0 : Int)))
  ((iR aA a1 b2).bind fun x6 =>
  some (.inr x6))
  (cond (!bP)
  ((fY aA a1 b2).bind fun x44 =>
  gE rec x44 a1 b2 (IntKind.i64.wrap (bW - (1 : Int))) bP bG (IntKind.i64.wrap (b2 - a1)))
  (gE rec aA a1 b2 bW bP bG (IntKind.i64.wrap (b2 - a1)))))

noncomputable def kI (rec : (List Int) → Int → Int → Int → Option (List Int)) (aA : List Int) (a1 : Int) (b2 : Int) (bW : Int) (bP : Bool) (bG : Bool) : Option (List Int) :=
  (lp (fun s => dV rec s.1 s.2.1 s.2.2.1 s.2.2.2.1 s.2.2.2.2.1 s.2.2.2.2.2) (aA, a1, b2, bW, bP, bG)).bind (fun rr => some rr)

noncomputable def fH (rec : (List Int) → Int → Int → Int → Option (List Int)) (aA : (List Int)) (a1 : Int) (b2 : Int) (bW : Int) : Option (List Int) :=
  kI rec aA a1 b2 bW true true

noncomputable def cX  : Nat → (List Int) → Int → Int → Int → Option (List Int)
  | 0 => fun _ _ _ _ => none
  | k + 1 => fH (cX k)

noncomputable def iV (aA : (List Int)) (a1 : Int) (b2 : Int) (bW : Int) : Option (List Int) := KE (fun k => cX k aA a1 b2 bW)

noncomputable def jU (x0 : (List Int)) : Option (List Int) :=
  (jQ (IntKind.u64.wrap ((List.length x0 : Nat) : Int))).bind fun x1 =>
  (iV x0 (0 : Int) ((List.length x0 : Nat) : Int) x1).bind fun x4 =>
  some x4

noncomputable def jM (s0 : List Int) : Option (List Int) :=
  some s0

noncomputable def lC (s0 : List Int) (k3 : Int) : Option ((List Int × Int) ⊕ ((List Int) ⊕ (List Int))) :=
  some (.inl (s0, IntKind.i64.wrap (k3 + (1 : Int))))

noncomputable def jH (s0 : List Int) (k3 : Int) : Option ((List Int × Int) ⊕ ((List Int) ⊕ (List Int))) :=
  aZ (0 ≤ k3 ∧ k3 ≤ ((List.length s0 : Nat) : Int)) <|
  aZ (0 ≤ k3 ∧ k3 ≤ ((List.length (iZ (0 + Int.toNat k3) s0) : Nat) : Int)) <|
  aZ (Int.toNat k3 ≤ List.length (iZ (0 + Int.toNat k3) s0)) <|
  some (.inr (.inr (List.take (Int.toNat k3) (iZ (0 + Int.toNat k3) s0))))

noncomputable def iG (s0 : List Int) (k3 : Int) (k25 : Int) (s24o : Nat) (s24n : Nat) : Option ((List Int × Int × Int) ⊕ ((List Int × Int))) :=
  some (.inl (s0, k3, IntKind.i64.wrap (k25 + (1 : Int))))

noncomputable def eS (s24o : Nat) (s24n : Nat) (s0 : List Int) (k3 : Int) (k25 : Int) : Option ((List Int × Int × Int) ⊕ ((List Int × Int))) :=
  cond (decide (k25 < ((s24n : Nat) : Int)))
  (aZ (0 ≤ k25 ∧ k25 < ((s24n : Nat) : Int)) <|
  aZ ((s24o + Int.toNat k25) < List.length s0) <|
  aZ (0 ≤ (IntKind.i64.wrap (k25 - (1 : Int))) ∧ (IntKind.i64.wrap (k25 - (1 : Int))) < ((s24n : Nat) : Int)) <|
  aZ ((s24o + Int.toNat (IntKind.i64.wrap (k25 - (1 : Int)))) < List.length s0) <|
  cond (!decide ((List.getD s0 (s24o + Int.toNat k25) default) = (List.getD s0 (s24o + Int.toNat (IntKind.i64.wrap (k25 - (1 : Int)))) default)))
  (aZ (0 ≤ k25 ∧ k25 < ((s24n : Nat) : Int)) <|
  aZ ((s24o + Int.toNat k25) < List.length s0) <|
  aZ (0 ≤ k3 ∧ k3 < ((List.length s0 : Nat) : Int)) <|
  iG (List.set s0 (Int.toNat k3) (List.getD s0 (s24o + Int.toNat k25) default)) (IntKind.i64.wrap (k3 + (1 : Int))) k25 s24o s24n)
  (iG s0 k3 k25 s24o s24n))
  (some (.inr (s0, k3)))

noncomputable def lA (s0 : List Int) (k3 : Int) (k25 : Int) (s24o : Nat) (s24n : Nat) : Option ((List Int × Int) ⊕ ((List Int) ⊕ (List Int))) :=
  (lp (fun s => eS s24o s24n s.1 s.2.1 s.2.2) (s0, k3, k25)).bind (fun rr => jH rr.1 rr.2)

noncomputable def fU  (s0 : List Int) (k3 : Int) : Option ((List Int × Int) ⊕ ((List Int) ⊕ (List Int))) :=
  cond (decide (k3 < ((List.length s0 : Nat) : Int)))
  (aZ (0 ≤ k3 ∧ k3 < ((List.length s0 : Nat) : Int)) <|
  aZ (0 ≤ (IntKind.i64.wrap (k3 - (1 : Int))) ∧ (IntKind.i64.wrap (k3 - (1 : Int))) < ((List.length s0 : Nat) : Int)) <|
  cond (decide ((List.getD s0 (Int.toNat k3) default) = (List.getD s0 (Int.toNat (IntKind.i64.wrap (k3 - (1 : Int)))) default)))
  (aZ (0 ≤ k3 ∧ k3 ≤ ((List.length s0 : Nat) : Int)) <|
  lA s0 k3 (1 : Int) (0 + Int.toNat k3) (List.length s0 - Int.toNat k3))
  (lC s0 k3))
  (some (.inr (.inl s0)))

noncomputable def lB (s0 : List Int) (k3 : Int) : Option (List Int) :=
  (lp (fun s => fU s.1 s.2) (s0, k3)).bind (Sum.elim (fun rr => jM rr) (fun rr => some rr))

noncomputable def iS (s0 : (List Int)) : Option (List Int) :=
  cond (decide (((List.length s0 : Nat) : Int) < (2 : Int)))
  (some s0)
  (lB s0 (1 : Int))

noncomputable def nG (t7c0 : (List aE)) (out3 : List Int) (t8 : aE) : Option ((List Int) ⊕ (List Int)) :=
  aZ ((List.length out3 + List.length ([t8.At])) * 8 ≤ 140737488355328 ∧ List.length out3 + List.length ([t8.At]) ≤ 9223372036854775807) <|
  some (.inl (out3 ++ ([t8.At])))

noncomputable def pE (out3 : List Int) (t7c0 : (List aE)) : Option (List Int) :=
  (kY (fun st t8 => rnd (fun (s : List Int) => nG t7c0 s t8) st) t7c0 (.inl out3)).bind (Sum.elim (fun (s : List Int) =>
  ((jU s).bind fun x10 =>
  (iS x10).bind fun x13 =>
  some x13))
  (fun (s : List Int) =>
  (none)))

noncomputable def lK (l0 : (List aE)) : Option (List Int) :=
  (nC l0).bind fun x3 =>
  pE ([] : List Int) x3

noncomputable def oE (l0 : (List aE)) : Option ((List Int) × Int) :=
  (nF l0 (1 : Int)).bind fun x1 =>
  cond (!decide (x1 = (0 : Int)))
  (some ([], x1))
  ((lK l0).bind fun x5 =>
  some (x5, (0 : Int)))

noncomputable def mN (x0 : Int) : Option Bool :=
  some (!decide (x0 = x0))

noncomputable def hU (x0 : (List Int)) (eX : Int) (n6 : Int) (i7 : Int) : Option (Int × Bool) :=
  aZ ((((decide (i7 < n6))) = true → 0 ≤ i7 ∧ i7 < ((List.length x0 : Nat) : Int))) <|
  aZ ((((!(decide ((List.getD x0 (Int.toNat i7) default) = eX))) && (decide (i7 < n6))) = true → 0 ≤ i7 ∧ i7 < ((List.length x0 : Nat) : Int))) <|
  (dJ ((!(decide ((List.getD x0 (Int.toNat i7) default) = eX))) && (decide (i7 < n6))) (mN (List.getD x0 (Int.toNat i7) default))).bind fun x3 =>
  (dJ (x3 && ((!(decide ((List.getD x0 (Int.toNat i7) default) = eX))) && (decide (i7 < n6)))) (mN eX)).bind fun x6 =>
  some (i7, (decide (i7 < n6)) && ((decide ((List.getD x0 (Int.toNat i7) default) = eX)) || (x3 && x6)))

noncomputable def eE (x0 : (List Int)) (eX : Int) (n6 : Int) (i7 : Int) (j8 : Int) : Option ((Int × Int) ⊕ (Int)) :=
  cond (decide (i7 < j8))
  (aZ (0 ≤ (1 : Int)) <|
  aZ (0 ≤ (IntKind.i64.wrap (Int.fdiv (IntKind.u64.wrap (IntKind.i64.wrap (i7 + j8))) (2 ^ (min (Int.toNat (1 : Int)) 64)))) ∧ (IntKind.i64.wrap (Int.fdiv (IntKind.u64.wrap (IntKind.i64.wrap (i7 + j8))) (2 ^ (min (Int.toNat (1 : Int)) 64)))) < ((List.length x0 : Nat) : Int)) <|
  (cN (List.getD x0 (Int.toNat (IntKind.i64.wrap (Int.fdiv (IntKind.u64.wrap (IntKind.i64.wrap (i7 + j8))) (2 ^ (min (Int.toNat (1 : Int)) 64))))) default) eX).bind fun x12 =>
  cond x12
  (some (.inl (IntKind.i64.wrap ((IntKind.i64.wrap (Int.fdiv (IntKind.u64.wrap (IntKind.i64.wrap (i7 + j8))) (2 ^ (min (Int.toNat (1 : Int)) 64)))) + (1 : Int)), j8)))
  (some (.inl (i7, IntKind.i64.wrap (Int.fdiv (IntKind.u64.wrap (IntKind.i64.wrap (i7 + j8))) (2 ^ (min (Int.toNat (1 : Int)) 64)))))))
  (some (.inr i7))

noncomputable def jN (x0 : (List Int)) (eX : Int) (n6 : Int) (i7 : Int) (j8 : Int) : Option (Int × Bool) :=
  (lp (fun s => eE x0 eX n6 s.1 s.2) (i7, j8)).bind (fun rr => hU x0 eX n6 rr)

noncomputable def eO (x0 : (List Int)) (eX : Int) : Option (Int × Bool) :=
  jN x0 eX ((List.length x0 : Nat) : Int) (0 : Int) ((List.length x0 : Nat) : Int)

noncomputable def mS (l0 : (List aE)) (n1 : Int) (t2 : Int) : Option (Int × Int) :=
  (nF l0 n1).bind fun x1 =>
  cond (!decide (x1 = (0 : Int)))
  (some ((0 : Int), x1))
  (cond ((decide (t2 < (0 : Int))) || (decide ((1125899906842624 : Int) < t2)))
  (some ((0 : Int), (13 : Int)))
  (cond (decide (t2 = (1125899906842624 : Int)))
  (some (t2, (0 : Int)))
  ((lK l0).bind fun x7 =>
  (eO x7 t2).bind fun x10 =>
  cond (decide ((if (IntKind.i64.wrap ((IntKind.i64.wrap (x10.1 - n1)) + (1 : Int))) > (0 : Int) then (IntKind.i64.wrap ((IntKind.i64.wrap (x10.1 - n1)) + (1 : Int))) else (0 : Int)) = x10.1))
  (some (t2, (0 : Int)))
  (aZ (0 ≤ (if (IntKind.i64.wrap ((IntKind.i64.wrap (x10.1 - n1)) + (1 : Int))) > (0 : Int) then (IntKind.i64.wrap ((IntKind.i64.wrap (x10.1 - n1)) + (1 : Int))) else (0 : Int)) ∧ (if (IntKind.i64.wrap ((IntKind.i64.wrap (x10.1 - n1)) + (1 : Int))) > (0 : Int) then (IntKind.i64.wrap ((IntKind.i64.wrap (x10.1 - n1)) + (1 : Int))) else (0 : Int)) < ((List.length x7 : Nat) : Int)) <|
  some (List.getD x7 (Int.toNat (if (IntKind.i64.wrap ((IntKind.i64.wrap (x10.1 - n1)) + (1 : Int))) > (0 : Int) then (IntKind.i64.wrap ((IntKind.i64.wrap (x10.1 - n1)) + (1 : Int))) else (0 : Int))) default, (0 : Int))))))

noncomputable def gJ (s0 : (List aB)) : Option (List aB) :=
  aZ (List.length s0 * 32 ≤ 140737488355328 ∧ List.length s0 ≤ 9223372036854775807) <|
  some s0

noncomputable def mD (rU : (List aE)) (t4 : aX) (p5 : aX) (t22 : aE) : Option ((aX × aX) ⊕ (aX × aX)) :=
  cond ((decide (t22.At < p5.Span.From)) || (decide (p5.Span.To ≤ t22.At)))
  (some (.inl (t4, p5)))
  (aZ ((((decide ((0 : Int) ≤ (IntKind.i64.wrap (((List.length p5.Rows : Nat) : Int) - (1 : Int)))))) = true → 0 ≤ (IntKind.i64.wrap (((List.length p5.Rows : Nat) : Int) - (1 : Int))) ∧ (IntKind.i64.wrap (((List.length p5.Rows : Nat) : Int) - (1 : Int))) < ((List.length p5.Rows : Nat) : Int))) <|
  (dJ (decide ((0 : Int) ≤ (IntKind.i64.wrap (((List.length p5.Rows : Nat) : Int) - (1 : Int))))) (eT ((List.getD p5.Rows (Int.toNat (IntKind.i64.wrap (((List.length p5.Rows : Nat) : Int) - (1 : Int)))) default).Row) t22.Row)).bind fun x13 =>
  cond ((decide ((0 : Int) ≤ (IntKind.i64.wrap (((List.length p5.Rows : Nat) : Int) - (1 : Int))))) && x13)
  (aZ (0 ≤ (IntKind.i64.wrap (((List.length p5.Rows : Nat) : Int) - (1 : Int))) ∧ (IntKind.i64.wrap (((List.length p5.Rows : Nat) : Int) - (1 : Int))) < ((List.length p5.Rows : Nat) : Int)) <|
  aZ (0 ≤ (IntKind.i64.wrap (((List.length p5.Rows : Nat) : Int) - (1 : Int))) ∧ (IntKind.i64.wrap (((List.length p5.Rows : Nat) : Int) - (1 : Int))) < ((List.length p5.Rows : Nat) : Int)) <|
  some (.inl (t4, aX.mk p5.Span (List.set p5.Rows (Int.toNat (IntKind.i64.wrap (((List.length p5.Rows : Nat) : Int) - (1 : Int)))) (bU.mk (List.getD p5.Rows (Int.toNat (IntKind.i64.wrap (((List.length p5.Rows : Nat) : Int) - (1 : Int)))) default).Row (IntKind.i64.wrap (((List.getD p5.Rows (Int.toNat (IntKind.i64.wrap (((List.length p5.Rows : Nat) : Int) - (1 : Int)))) default).N) + t22.Net)))))))
  ((gJ t22.Row).bind fun x19 =>
  aZ ((List.length p5.Rows + List.length ([bU.mk x19 t22.Net])) * 32 ≤ 140737488355328 ∧ List.length p5.Rows + List.length ([bU.mk x19 t22.Net]) ≤ 9223372036854775807) <|
  some (.inl (t4, aX.mk p5.Span (p5.Rows ++ ([bU.mk x19 t22.Net]))))))

noncomputable def pG (t4 : aX) (p5 : aX) (rU : (List aE)) : Option aX :=
  (kY (fun st t22 => rnd (fun (s : aX × aX) => mD rU s.1 s.2 t22) st) rU (.inl (t4, p5))).bind (Sum.elim (fun (s : aX × aX) =>
  (some s.2))
  (fun (s : aX × aX) =>
  (none)))

noncomputable def oB (l0 : (List aE)) (run1 : (List Int)) : Option aX :=
  aZ (0 ≤ (0 : Int) ∧ (0 : Int) < ((List.length run1 : Nat) : Int)) <|
  aZ (0 ≤ (IntKind.i64.wrap (((List.length run1 : Nat) : Int) - (1 : Int))) ∧ (IntKind.i64.wrap (((List.length run1 : Nat) : Int) - (1 : Int))) < ((List.length run1 : Nat) : Int)) <|
  (nC l0).bind fun x6 =>
  pG (aX.mk (cS.mk 0 0) ([])) (aX.mk (cS.mk (List.getD run1 (Int.toNat (0 : Int)) default) (IntKind.i64.wrap ((List.getD run1 (Int.toNat (IntKind.i64.wrap (((List.length run1 : Nat) : Int) - (1 : Int)))) default) + (1 : Int)))) ([])) x6

noncomputable def qQ (iW : List aX) : Option ((List aX) × Int) :=
  some (iW, (0 : Int))

noncomputable def kM (l0 : (List aE)) (n1 : Int) (kF : (List Int)) (iW : List aX) : Option (((List Int) × List aX) ⊕ ((List aX))) :=
  cond (decide (n1 ≤ ((List.length kF : Nat) : Int)))
  (aZ (0 ≤ n1 ∧ n1 ≤ n1 ∧ n1 ≤ ((List.length kF : Nat) : Int)) <|
  (oB l0 (List.take (Int.toNat n1) kF)).bind fun x20 =>
  aZ ((List.length iW + List.length ([x20])) * 40 ≤ 140737488355328 ∧ List.length iW + List.length ([x20]) ≤ 9223372036854775807) <|
  aZ (0 ≤ (1 : Int) ∧ (1 : Int) ≤ ((List.length kF : Nat) : Int)) <|
  some (.inl (List.drop (Int.toNat (1 : Int)) kF, iW ++ ([x20]))))
  (some (.inr iW))

noncomputable def qM (l0 : (List aE)) (n1 : Int) (kF : (List Int)) (iW : List aX) : Option ((List aX) × Int) :=
  (lp (fun s => kM l0 n1 s.1 s.2) (kF, iW)).bind (fun rr => qQ rr)

noncomputable def mI (l0 : (List aE)) (n1 : Int) (tK : Int) : Option ((List aX) × Int) :=
  (nF l0 n1).bind fun x1 =>
  cond (!decide (x1 = (0 : Int)))
  (some ([], x1))
  (cond ((decide (tK < (0 : Int))) || (decide ((1125899906842624 : Int) < tK)))
  (some ([], (13 : Int)))
  ((lK l0).bind fun x6 =>
  (eO x6 tK).bind fun x9 =>
  aZ (0 ≤ x9.1 ∧ x9.1 ≤ ((List.length x6 : Nat) : Int) ∧ ((List.length x6 : Nat) : Int) ≤ ((List.length x6 : Nat) : Int) ∧ ((List.length x6 : Nat) : Int) ≤ ((List.length x6 : Nat) : Int)) <|
  cond (decide ((1024 : Int) < (IntKind.i64.wrap ((IntKind.i64.wrap (((List.length (List.drop (Int.toNat x9.1) (List.take (Int.toNat ((List.length x6 : Nat) : Int)) x6)) : Nat) : Int) - n1)) + (1 : Int)))))
  (some ([], (7 : Int)))
  (qM l0 n1 (List.drop (Int.toNat x9.1) (List.take (Int.toNat ((List.length x6 : Nat) : Int)) x6)) ([] : List aX))))

noncomputable def nN  : Option Bool :=
  (oE ([aE.mk ([aB.mk (1 : Int) (1 : Int) ByteArray.empty]) (2 : Int) (1 : Int), aE.mk ([aB.mk (1 : Int) (2 : Int) ByteArray.empty]) (5 : Int) (1 : Int), aE.mk ([aB.mk (1 : Int) (2 : Int) ByteArray.empty]) (7 : Int) (-1 : Int), aE.mk ([aB.mk (1 : Int) (2 : Int) ByteArray.empty]) (8 : Int) (1 : Int)])).bind fun x1 =>
  (mS ([aE.mk ([aB.mk (1 : Int) (1 : Int) ByteArray.empty]) (2 : Int) (1 : Int), aE.mk ([aB.mk (1 : Int) (2 : Int) ByteArray.empty]) (5 : Int) (1 : Int), aE.mk ([aB.mk (1 : Int) (2 : Int) ByteArray.empty]) (7 : Int) (-1 : Int), aE.mk ([aB.mk (1 : Int) (2 : Int) ByteArray.empty]) (8 : Int) (1 : Int)]) (2 : Int) (6 : Int)).bind fun x4 =>
  (mI ([aE.mk ([aB.mk (1 : Int) (1 : Int) ByteArray.empty]) (2 : Int) (1 : Int), aE.mk ([aB.mk (1 : Int) (2 : Int) ByteArray.empty]) (5 : Int) (1 : Int), aE.mk ([aB.mk (1 : Int) (2 : Int) ByteArray.empty]) (7 : Int) (-1 : Int), aE.mk ([aB.mk (1 : Int) (2 : Int) ByteArray.empty]) (8 : Int) (1 : Int)]) (2 : Int) (0 : Int)).bind fun x7 =>
  aZ (((((((((decide (x1.2 = (0 : Int))) && (decide (x4.2 = (0 : Int)))) && (decide (x7.2 = (0 : Int)))) && (decide (((List.length x1.1 : Nat) : Int) = (3 : Int)))) && (decide (x4.1 = (5 : Int)))) && (decide (((List.length x7.1 : Nat) : Int) = (2 : Int))))) = true → 0 ≤ (0 : Int) ∧ (0 : Int) < ((List.length x7.1 : Nat) : Int))) <|
  aZ ((((((((((decide (x1.2 = (0 : Int))) && (decide (x4.2 = (0 : Int)))) && (decide (x7.2 = (0 : Int)))) && (decide (((List.length x1.1 : Nat) : Int) = (3 : Int)))) && (decide (x4.1 = (5 : Int)))) && (decide (((List.length x7.1 : Nat) : Int) = (2 : Int)))) && ((decide ((((List.getD x7.1 (Int.toNat (0 : Int)) default).Span).From) = ((cS.mk (2 : Int) (6 : Int)).From))) && ((decide ((((List.getD x7.1 (Int.toNat (0 : Int)) default).Span).To) = ((cS.mk (2 : Int) (6 : Int)).To))) && true)))) = true → 0 ≤ (0 : Int) ∧ (0 : Int) < ((List.length x7.1 : Nat) : Int))) <|
  aZ (((((((((((decide (x1.2 = (0 : Int))) && (decide (x4.2 = (0 : Int)))) && (decide (x7.2 = (0 : Int)))) && (decide (((List.length x1.1 : Nat) : Int) = (3 : Int)))) && (decide (x4.1 = (5 : Int)))) && (decide (((List.length x7.1 : Nat) : Int) = (2 : Int)))) && ((decide ((((List.getD x7.1 (Int.toNat (0 : Int)) default).Span).From) = ((cS.mk (2 : Int) (6 : Int)).From))) && ((decide ((((List.getD x7.1 (Int.toNat (0 : Int)) default).Span).To) = ((cS.mk (2 : Int) (6 : Int)).To))) && true))) && (decide (((List.length ((List.getD x7.1 (Int.toNat (0 : Int)) default).Rows) : Nat) : Int) = (2 : Int))))) = true → 0 ≤ (1 : Int) ∧ (1 : Int) < ((List.length x7.1 : Nat) : Int))) <|
  aZ ((((((((((((decide (x1.2 = (0 : Int))) && (decide (x4.2 = (0 : Int)))) && (decide (x7.2 = (0 : Int)))) && (decide (((List.length x1.1 : Nat) : Int) = (3 : Int)))) && (decide (x4.1 = (5 : Int)))) && (decide (((List.length x7.1 : Nat) : Int) = (2 : Int)))) && ((decide ((((List.getD x7.1 (Int.toNat (0 : Int)) default).Span).From) = ((cS.mk (2 : Int) (6 : Int)).From))) && ((decide ((((List.getD x7.1 (Int.toNat (0 : Int)) default).Span).To) = ((cS.mk (2 : Int) (6 : Int)).To))) && true))) && (decide (((List.length ((List.getD x7.1 (Int.toNat (0 : Int)) default).Rows) : Nat) : Int) = (2 : Int)))) && (decide (((List.length ((List.getD x7.1 (Int.toNat (1 : Int)) default).Rows) : Nat) : Int) = (1 : Int))))) = true → 0 ≤ (1 : Int) ∧ (1 : Int) < ((List.length x7.1 : Nat) : Int))) <|
  aZ ((((((((((((decide (x1.2 = (0 : Int))) && (decide (x4.2 = (0 : Int)))) && (decide (x7.2 = (0 : Int)))) && (decide (((List.length x1.1 : Nat) : Int) = (3 : Int)))) && (decide (x4.1 = (5 : Int)))) && (decide (((List.length x7.1 : Nat) : Int) = (2 : Int)))) && ((decide ((((List.getD x7.1 (Int.toNat (0 : Int)) default).Span).From) = ((cS.mk (2 : Int) (6 : Int)).From))) && ((decide ((((List.getD x7.1 (Int.toNat (0 : Int)) default).Span).To) = ((cS.mk (2 : Int) (6 : Int)).To))) && true))) && (decide (((List.length ((List.getD x7.1 (Int.toNat (0 : Int)) default).Rows) : Nat) : Int) = (2 : Int)))) && (decide (((List.length ((List.getD x7.1 (Int.toNat (1 : Int)) default).Rows) : Nat) : Int) = (1 : Int))))) = true → 0 ≤ (0 : Int) ∧ (0 : Int) < ((List.length ((List.getD x7.1 (Int.toNat (1 : Int)) default).Rows) : Nat) : Int))) <|
  some ((((((((((decide (x1.2 = (0 : Int))) && (decide (x4.2 = (0 : Int)))) && (decide (x7.2 = (0 : Int)))) && (decide (((List.length x1.1 : Nat) : Int) = (3 : Int)))) && (decide (x4.1 = (5 : Int)))) && (decide (((List.length x7.1 : Nat) : Int) = (2 : Int)))) && ((decide ((((List.getD x7.1 (Int.toNat (0 : Int)) default).Span).From) = ((cS.mk (2 : Int) (6 : Int)).From))) && ((decide ((((List.getD x7.1 (Int.toNat (0 : Int)) default).Span).To) = ((cS.mk (2 : Int) (6 : Int)).To))) && true))) && (decide (((List.length ((List.getD x7.1 (Int.toNat (0 : Int)) default).Rows) : Nat) : Int) = (2 : Int)))) && (decide (((List.length ((List.getD x7.1 (Int.toNat (1 : Int)) default).Rows) : Nat) : Int) = (1 : Int)))) && (decide (((List.getD ((List.getD x7.1 (Int.toNat (1 : Int)) default).Rows) (Int.toNat (0 : Int)) default).N) = (2 : Int))))

noncomputable def pY  : Option Bool :=
  some true

noncomputable def nX (a0 : (List aB)) (b1 : (List aB)) (i5 : Int) : Option ((Int) ⊕ (Unit ⊕ Bool)) :=
  cond (decide (i5 < ((List.length a0 : Nat) : Int)))
  (aZ (0 ≤ i5 ∧ i5 < ((List.length a0 : Nat) : Int)) <|
  aZ (0 ≤ i5 ∧ i5 < ((List.length b1 : Nat) : Int)) <|
  cond (!((decide (((List.getD a0 (Int.toNat i5) default).Kind) = ((List.getD b1 (Int.toNat i5) default).Kind))) && ((decide (((List.getD a0 (Int.toNat i5) default).Num) = ((List.getD b1 (Int.toNat i5) default).Num))) && ((mV ((List.getD a0 (Int.toNat i5) default).Text) ((List.getD b1 (Int.toNat i5) default).Text)) && true))))
  (some (.inr (.inr false)))
  (some (.inl (IntKind.i64.wrap (i5 + (1 : Int))))))
  (some (.inr (.inl ())))

noncomputable def sR (a0 : (List aB)) (b1 : (List aB)) (i5 : Int) : Option Bool :=
  (lp (fun s => nX a0 b1 s) i5).bind (Sum.elim (fun rr => pY ) (fun rr => some rr))

noncomputable def rA (a0 : (List aB)) (b1 : (List aB)) : Option Bool :=
  cond (!decide (((List.length a0 : Nat) : Int) = ((List.length b1 : Nat) : Int)))
  (some false)
  (sR a0 b1 (0 : Int))

noncomputable def lZ  : Option Bool :=
  some true

noncomputable def kO (a0 : (List bU)) (b1 : (List bU)) (i5 : Int) : Option ((Int) ⊕ (Unit ⊕ Bool)) :=
  cond (decide (i5 < ((List.length a0 : Nat) : Int)))
  (aZ (0 ≤ i5 ∧ i5 < ((List.length a0 : Nat) : Int)) <|
  aZ (0 ≤ i5 ∧ i5 < ((List.length b1 : Nat) : Int)) <|
  aZ ((((!(!decide (((List.getD a0 (Int.toNat i5) default).N) = ((List.getD b1 (Int.toNat i5) default).N))))) = true → 0 ≤ i5 ∧ i5 < ((List.length a0 : Nat) : Int))) <|
  aZ ((((!(!decide (((List.getD a0 (Int.toNat i5) default).N) = ((List.getD b1 (Int.toNat i5) default).N))))) = true → 0 ≤ i5 ∧ i5 < ((List.length b1 : Nat) : Int))) <|
  (dJ (!(!decide (((List.getD a0 (Int.toNat i5) default).N) = ((List.getD b1 (Int.toNat i5) default).N)))) (rA ((List.getD a0 (Int.toNat i5) default).Row) ((List.getD b1 (Int.toNat i5) default).Row))).bind fun x7 =>
  cond ((!decide (((List.getD a0 (Int.toNat i5) default).N) = ((List.getD b1 (Int.toNat i5) default).N))) || (!x7))
  (some (.inr (.inr false)))
  (some (.inl (IntKind.i64.wrap (i5 + (1 : Int))))))
  (some (.inr (.inl ())))

noncomputable def nO (a0 : (List bU)) (b1 : (List bU)) (i5 : Int) : Option Bool :=
  (lp (fun s => kO a0 b1 s) i5).bind (Sum.elim (fun rr => lZ ) (fun rr => some rr))

noncomputable def mL (a0 : (List bU)) (b1 : (List bU)) : Option Bool :=
  cond (!decide (((List.length a0 : Nat) : Int) = ((List.length b1 : Nat) : Int)))
  (some false)
  (nO a0 b1 (0 : Int))

noncomputable def pR  : Option Bool :=
  some true

noncomputable def nZ (a0 : (List aX)) (b1 : (List aX)) (i5 : Int) : Option ((Int) ⊕ (Unit ⊕ Bool)) :=
  cond (decide (i5 < ((List.length a0 : Nat) : Int)))
  (aZ (0 ≤ i5 ∧ i5 < ((List.length a0 : Nat) : Int)) <|
  aZ (0 ≤ i5 ∧ i5 < ((List.length b1 : Nat) : Int)) <|
  aZ ((((!(!((decide ((((List.getD a0 (Int.toNat i5) default).Span).From) = (((List.getD b1 (Int.toNat i5) default).Span).From))) && ((decide ((((List.getD a0 (Int.toNat i5) default).Span).To) = (((List.getD b1 (Int.toNat i5) default).Span).To))) && true))))) = true → 0 ≤ i5 ∧ i5 < ((List.length a0 : Nat) : Int))) <|
  aZ ((((!(!((decide ((((List.getD a0 (Int.toNat i5) default).Span).From) = (((List.getD b1 (Int.toNat i5) default).Span).From))) && ((decide ((((List.getD a0 (Int.toNat i5) default).Span).To) = (((List.getD b1 (Int.toNat i5) default).Span).To))) && true))))) = true → 0 ≤ i5 ∧ i5 < ((List.length b1 : Nat) : Int))) <|
  (dJ (!(!((decide ((((List.getD a0 (Int.toNat i5) default).Span).From) = (((List.getD b1 (Int.toNat i5) default).Span).From))) && ((decide ((((List.getD a0 (Int.toNat i5) default).Span).To) = (((List.getD b1 (Int.toNat i5) default).Span).To))) && true)))) (mL ((List.getD a0 (Int.toNat i5) default).Rows) ((List.getD b1 (Int.toNat i5) default).Rows))).bind fun x7 =>
  cond ((!((decide ((((List.getD a0 (Int.toNat i5) default).Span).From) = (((List.getD b1 (Int.toNat i5) default).Span).From))) && ((decide ((((List.getD a0 (Int.toNat i5) default).Span).To) = (((List.getD b1 (Int.toNat i5) default).Span).To))) && true))) || (!x7))
  (some (.inr (.inr false)))
  (some (.inl (IntKind.i64.wrap (i5 + (1 : Int))))))
  (some (.inr (.inl ())))

noncomputable def sO (a0 : (List aX)) (b1 : (List aX)) (i5 : Int) : Option Bool :=
  (lp (fun s => nZ a0 b1 s) i5).bind (Sum.elim (fun rr => pR ) (fun rr => some rr))

noncomputable def rB (a0 : (List aX)) (b1 : (List aX)) : Option Bool :=
  cond (!decide (((List.length a0 : Nat) : Int) = ((List.length b1 : Nat) : Int)))
  (some false)
  (sO a0 b1 (0 : Int))

noncomputable def vA (l0 : List aE) : Option (List aE) :=
  some l0

noncomputable def mZ (r1 : (List aB)) (t9 : (List aC)) (t10 : Int) (l0 : List aE) (t11 : Int) : Option ((List aE × Int) ⊕ ((List aE))) :=
  cond (decide (t11 < t10))
  (aZ (0 ≤ t11 ∧ t11 < ((List.length t9 : Nat) : Int)) <|
  (rO r1).bind fun x7 =>
  aZ ((List.length l0 + List.length ([aE.mk x7 ((List.getD t9 (Int.toNat t11) default).At) ((List.getD t9 (Int.toNat t11) default).Net)])) * 40 ≤ 140737488355328 ∧ List.length l0 + List.length ([aE.mk x7 ((List.getD t9 (Int.toNat t11) default).At) ((List.getD t9 (Int.toNat t11) default).Net)]) ≤ 9223372036854775807) <|
  some (.inl (l0 ++ ([aE.mk x7 ((List.getD t9 (Int.toNat t11) default).At) ((List.getD t9 (Int.toNat t11) default).Net)]), IntKind.i64.wrap (t11 + (1 : Int)))))
  (some (.inr l0))

noncomputable def uW (l0 : List aE) (r1 : (List aB)) (t9 : (List aC)) (t10 : Int) (t11 : Int) : Option (List aE) :=
  (lp (fun s => mZ r1 t9 t10 s.1 s.2) (l0, t11)).bind (fun rr => vA rr)

noncomputable def tN (l0 : (List aE)) (r1 : (List aB)) (f2 : (List aC)) : Option (List aE) :=
  uW l0 r1 f2 ((List.length f2 : Nat) : Int) (0 : Int)

noncomputable def mC (by1 : (List aC) → Option ((List aC) × Int)) (kJ : (List aE)) (t4 : (List aE)) (t5 : Int) (out6 : List aE) (t14 : (List aB)) (t15 : (List aC)) : Option (((List aE) × Int × List aE) ⊕ ((List aE) × Int × List aE)) :=
  (by1 t15).bind fun x8 =>
  cond (!decide (x8.2 = (0 : Int)))
  (some (.inr ([], x8.2, out6)))
  ((tN out6 t14 x8.1).bind fun x12 =>
  cond (decide ((4096 : Int) < ((List.length x12 : Nat) : Int)))
  (some (.inr ([], (7 : Int), x12)))
  (some (.inl (t4, t5, x12))))

noncomputable def rN (by1 : (List aC) → Option ((List aC) × Int)) (t4 : (List aE)) (t5 : Int) (out6 : List aE) (kJ : (List aE)) : Option ((List aE) × Int) :=
  (mP (fun st t14 t15 => rnd (fun (s : (List aE) × Int × List aE) => mC by1 kJ s.1 s.2.1 s.2.2 t14 t15) st) kJ (.inl (t4, t5, out6))).bind (Sum.elim (fun (s : (List aE) × Int × List aE) =>
  (some (s.2.2, (0 : Int))))
  (fun (s : (List aE) × Int × List aE) =>
  (some (s.1, s.2.1))))

noncomputable def pQ (l0 : (List aE)) (by1 : (List aC) → Option ((List aC) × Int)) : Option ((List aE) × Int) :=
  (qF l0).bind fun x5 =>
  rN by1 ([]) 0 ([] : List aE) x5

noncomputable def tI (l0 : (List aE)) (by1 : (List aC) → Option ((List aC) × Int)) : Option ((List aE) × Int) :=
  (rQ l0).bind fun x1 =>
  cond (!x1)
  (some ([], (2 : Int)))
  ((pQ l0 by1).bind fun x5 =>
  some (x5.1, x5.2))

noncomputable def gM (s0 : (List aC)) : Option (List aC) :=
  aZ (List.length s0 * 16 ≤ 140737488355328 ∧ List.length s0 ≤ 9223372036854775807) <|
  some s0

noncomputable def qH (f0 : (List aC)) : Option ((List aC) × Int) :=
  (mK f0).bind fun x1 =>
  cond (!x1)
  (some ([], (7 : Int)))
  (some (f0, (0 : Int)))

noncomputable def rD (f0 : (List aC)) (at7 : Int) (out8 : List aC) : Option ((List aC) × Int) :=
  aZ (0 ≤ at7 ∧ at7 ≤ ((List.length f0 : Nat) : Int)) <|
  aZ ((List.length out8 + List.length (List.drop (Int.toNat at7) f0)) * 16 ≤ 140737488355328 ∧ List.length out8 + List.length (List.drop (Int.toNat at7) f0) ≤ 9223372036854775807) <|
  (qH (out8 ++ (List.drop (Int.toNat at7) f0))).bind fun x18 =>
  some (x18.1, x18.2)

noncomputable def qU (f0 : (List aC)) (v6 : Int) (at7 : Int) : Option ((List aC) × Int) :=
  cond (!decide (v6 = (0 : Int)))
  (aZ (List.length ([aC.mk (-1 : Int) v6]) * 16 ≤ 140737488355328 ∧ List.length ([aC.mk (-1 : Int) v6]) ≤ 9223372036854775807) <|
  rD f0 at7 ([aC.mk (-1 : Int) v6]))
  (rD f0 at7 ([] : List aC))

noncomputable def kQ (f0 : (List aC)) (t1 : Int) (v6 : Int) (at7 : Int) : Option ((Int × Int) ⊕ ((Int × Int))) :=
  aZ ((((decide (at7 < ((List.length f0 : Nat) : Int)))) = true → 0 ≤ at7 ∧ at7 < ((List.length f0 : Nat) : Int))) <|
  cond ((decide (at7 < ((List.length f0 : Nat) : Int))) && (decide (((List.getD f0 (Int.toNat at7) default).At) < t1)))
  (aZ (0 ≤ at7 ∧ at7 < ((List.length f0 : Nat) : Int)) <|
  some (.inl (IntKind.i64.wrap (v6 + ((List.getD f0 (Int.toNat at7) default).Net)), IntKind.i64.wrap (at7 + (1 : Int)))))
  (some (.inr (v6, at7)))

noncomputable def tY (f0 : (List aC)) (t1 : Int) (v6 : Int) (at7 : Int) : Option ((List aC) × Int) :=
  (lp (fun s => kQ f0 t1 s.1 s.2) (v6, at7)).bind (fun rr => qU f0 rr.1 rr.2)

noncomputable def sN (f0 : (List aC)) (t1 : Int) : Option ((List aC) × Int) :=
  (mK f0).bind fun x1 =>
  cond (!x1)
  (some ([], (2 : Int)))
  (cond (decide ((1125899906842624 : Int) ≤ t1))
  (some ([], (0 : Int)))
  (cond (decide (t1 ≤ (-1 : Int)))
  ((gM f0).bind fun x7 =>
  some (x7, (0 : Int)))
  (tY f0 t1 (0 : Int) (0 : Int))))

noncomputable def nW (f0 : (List aC)) (t1 : Int) : Option ((List aC) × Int) :=
  (sN f0 t1).bind fun x1 =>
  some (x1.1, x1.2)

noncomputable def sF (l0 : (List aE)) (t1 : Int) : Option ((List aE) × Int) :=
  (tI l0 (fun y0 => nW y0 t1)).bind fun x1 =>
  some (x1.1, x1.2)

noncomputable def mQ (l0 : (List aE)) (n1 : Int) (t2 : Int) : Option Bool :=
  (mS l0 n1 t2).bind fun x1 =>
  cond ((!decide (x1.2 = (0 : Int))) || (decide (x1.1 = (1125899906842624 : Int))))
  ((nN ).bind fun x5 =>
  some x5)
  ((sF l0 x1.1).bind fun x8 =>
  cond (!decide (x8.2 = (0 : Int)))
  ((nN ).bind fun x12 =>
  some x12)
  ((mS x8.1 n1 t2).bind fun x15 =>
  (mI l0 n1 x1.1).bind fun x18 =>
  (mI x8.1 n1 x1.1).bind fun x21 =>
  (nN ).bind fun x24 =>
  (dJ (((x24 && (decide (x15.2 = (0 : Int)))) && (decide (x15.1 = x1.1))) && (decide (x18.2 = x21.2))) (rB x18.1 x21.1)).bind fun x27 =>
  some ((((x24 && (decide (x15.2 = (0 : Int)))) && (decide (x15.1 = x1.1))) && (decide (x18.2 = x21.2))) && x27)))

end Go.Abs
namespace Go.Abs
open Go Go.RowKit
def wW (x : aB) : Prop := uD x.Kind ∧ uD x.Num ∧ (fun s => s.size ≤ maxLen) x.Text ∧ True

def sE (x : aE) : Prop := (fun l => (∀ a ∈ l, wW a) ∧ l.length * 32 ≤ 140737488351232) x.Row ∧ uD x.At ∧ uD x.Net ∧ True

end Go.Abs
namespace Go.Abs
open Go Go.RowKit Go.Proofs
noncomputable def tt : TT := ⟨OX Try.prog, JZ Try.prog⟩

theorem aD : gH Try.prog tt := gH.of Try.prog

theorem CO (l0 : (List aE)) (r : (List aE)) (h0 : qF l0 = some r) : dI Try.prog 67 [(eL aG l0)] (.fn (.func 91) [] [(.rp (eL aG r))]) := by
  intro H0
  refine dG Try.func67 ?_
  have hO := aL.start H0
  unfold qF at h0
  refine aO ?_
  refine aT aD 2 ?_
  refine pP 1 (eL aG l0) (by kernel_rfl) (by kernel_rfl) ?_
  refine bE ?_
  refine bH [(1, (.rp (eL aG l0)))] ?_
  refine cH aD 2 [(2, (.fn (.func 91) [] [(.rp (eL aG l0))]))] ?_
  refine bJ ?_
  obtain rfl := oI h0
  exact aI (jY (x := (.fn (.func 91) [] [(.rp (eL aG l0))])) (by kernel_rfl) (aN.refl _) ⟨rfl, hO.out⟩)

theorem nL (s10 : (List aB)) (s21 : (List aB)) (r : Bool) (h0 : eT s10 s21 = some r) : dI Try.prog 72 [(eL aK s10), (eL aK s21)] (aF r) := by
  intro H0
  refine dG Try.func72 ?_
  have hO := aL.start H0
  unfold eT at h0
  refine aS aD 1 [] [] ?_
  refine aO ?_
  refine aS aD 5 [] [(10, (aF (!decide ((lN s10) = (lN s21)))))] ?_
  refine bN h0 (fun h0 => ?_) (fun h0 => ?_)
  · refine cH aD 1 [(4, (aF false))] ?_
    refine bJ ?_
    obtain rfl := oI h0
    exact aI (aR (Q_r hO))
  refine bO ?_
  refine bH [(0, (eL aK s10)), (1, (eL aK s21))] ?_
  refine iA (fun T H => Has T [] ∧ aL ⟨H0, [], []⟩ H [] ∧ fV  = some r) ?_ ?_
  · clear hO h0
    rintro T H ⟨hT, hO, h0⟩
    refine bF hT ?_
    clear hT
    unfold fV at h0
    refine cH aD 1 [(4, (aF true))] ?_
    refine bJ ?_
    obtain rfl := oI h0
    exact aI (Q_r hO)
  refine aS aD 3 [] [(12, (eI (lN s10))), (13, (eI (0 : Int)))] ?_
  refine cG 0 ?_
  refine gR [(0, (eL aK s10)), (1, (eL aK s21)), (12, (eI (lN s10))), (13, (eI (0 : Int)))] ?_
  refine fG (fun T H => ∃ t12 : Int, ∃ t13 : Int, Has T [(0, (eL aK s10)), (1, (eL aK s21)), (12, (eI t12)), (13, (eI t13))] ∧ aL ⟨H0, [], []⟩ H [] ∧ iT s10 s21 t12 t13 = some r) ?_ ⟨(lN s10), (0 : Int), .eq (by kernel_rfl), hO, h0⟩
  clear hO h0
  rintro T H ⟨t12, t13, hT, hO, h0⟩
  refine bF hT ?_
  clear hT
  unfold iT at h0
  obtain ⟨rr0, hl0, h0⟩ := aV h0
  refine dN (by kernel_rfl) (fun (s : Int) T H => Has T [(0, (eL aK s10)), (1, (eL aK s21)), (12, (eI t12)), (13, (eI s))] ∧ aL ⟨H0, [], []⟩ H []) hl0 ⟨.eq (by kernel_rfl), hO⟩ ?_
  clear hO
  rintro k0 s out1 T H ⟨hT, hO⟩ h1 ho0
  obtain ⟨t13, rfl⟩ : ∃ x, x = s := ⟨_, rfl⟩
  replace h1 : eP s10 s21 t12 t13 = some out1 := h1
  refine bF hT ?_
  clear hT
  unfold eP at h1
  refine aS aD 1 [] [(14, (aF (decide (t13 < t12))))] ?_
  refine aO ?_
  refine bN h1 (fun h1 => ?_) (fun h1 => ?_)
  · refine bO ?_
    refine bH [(0, (eL aK s10)), (1, (eL aK s21)), (12, (eI t12)), (13, (eI t13))] ?_
    refine aO ?_
    refine cG 1 ?_
    refine aS aD 2 [] [(5, (eI t13))] ?_
    refine aO ?_
    refine fN (fK [19, 23]) aD 9 ?_
    obtain ⟨c3, h1⟩ := aU h1
    obtain ⟨c4, h1⟩ := aU h1
    refine JF (Ds := [0 ≤ t13 ∧ t13 < (lN s10), 0 ≤ t13 ∧ t13 < (lN s21)]) (by kernel_rfl) ⟨c3, c4, trivial⟩ ?_
    refine bX [5] [(24, (aF (!((decide (((gD s10 t13).Kind) = ((gD s21 t13).Kind))) && ((decide (((gD s10 t13).Num) = ((gD s21 t13).Num))) && ((mV ((gD s10 t13).Text) ((gD s21 t13).Text)) && true))))))] ?_
    refine bN h1 (fun h1 => ?_) (fun h1 => ?_)
    · refine cH aD 1 [(4, (aF false))] ?_
      refine bJ ?_
      obtain rfl := oI h1
      obtain rfl : _ = rr0 := ho0
      replace h0 : some false = some r := h0
      obtain rfl := oI h0
      exact aI (bM (aR (aR (bM (aR (Q_r hO))))))
    refine bO ?_
    refine gK [(0, (eL aK s10)), (1, (eL aK s21)), (12, (eI t12)), (13, (eI t13))] ?_
    refine aI (aY (aH (?_)))
    refine aT aD 2 ?_
    refine bE ?_
    exact aI (aH (⟨rfl, _, (oI h1).symm, .eq (by kernel_rfl), hO⟩))
  refine iP 0 ?_
  obtain rfl := oI h1
  obtain rfl : _ = rr0 := ho0
  replace h0 : fV  = some r := h0
  exact aI (aW (aW (cC (aH (⟨rfl, .eq (by kernel_rfl), hO, h0⟩)))))

theorem QD (a0 : (List aB)) (b1 : (List aB)) (r : Bool) (h0 : rT a0 b1 = some r) : dI Try.prog 92 [(eL aK a0), (eL aK b1)] (aF r) := by
  intro H0
  refine dG Try.func92 ?_
  have hO := aL.start H0
  unfold rT at h0
  refine aS aD 1 [] [] ?_
  refine aO ?_
  refine aT aD 4 ?_
  refine bR 2 ?_
  obtain ⟨x1, hx2, h0⟩ := aV h0
  refine dU (nL a0 b1 _ hx2) hO ?_
  intro H hO
  refine bE ?_
  refine bH [(4, (aF x1))] ?_
  refine bJ ?_
  obtain rfl := oI h0
  exact aI (Q_r hO)

theorem FA (r0 : (List aB)) (r : (List aB)) (h0 : rO r0 = some r) : dI Try.prog 93 [(eL aK r0)] (eL aK r) := by
  intro H0
  refine dG Try.func93 ?_
  have hO := aL.start H0
  unfold rO at h0
  refine aS aD 1 [] [] ?_
  refine aO ?_
  refine aT aD 6 ?_
  refine bR 2 ?_
  obtain ⟨c1, h0⟩ := aU h0
  refine YI 3 32 (lN r0) (by kernel_rfl) (by kernel_rfl) c1 hO ?_
  intro lo2 H hO
  refine bR 4 ?_
  obtain ⟨c4, h0⟩ := aU h0
  refine CB (e := aK) ([] : List aB) r0 0 lo2 3 32 (eL aK r0) (fun lo3 => [(lo3, 3, List.map aK (([] : List aB) ++ r0))]) (by kernel_rfl) (by kernel_rfl) hO (by kernel_rfl) (GV (fun _ => by kernel_rfl)) c4 (fun _ => by kernel_rfl) ?_
  intro lo3 H hO
  refine bE ?_
  refine bH [(2, (.msl 3 lo3 0 (List.length (([] : List aB) ++ r0))))] ?_
  refine bJ ?_
  refine gK [(2, (.msl 3 lo3 0 (List.length (([] : List aB) ++ r0))))] ?_
  refine xL (en := aK) (([] : List aB) ++ r0) 0 0 2 3 lo3 (List.length (([] : List aB) ++ r0)) hO (by kernel_rfl) (by kernel_rfl) (by kernel_rfl) (L' := []) (by kernel_rfl) ?_
  intro H5 hO
  obtain rfl := oI h0
  exact aI (Q_r hO)

theorem xT {σ : Type} (I : σ → Gs → Prop) (yield0_b : Nat) (gO : σ → (List aB) → (List aC) → Option (σ × Bool)) (yield0_h : ∀ st a0 a1 st2 r, gO st a0 a1 = some (st2, r) → CD Try.prog (yv yield0_b) I st [(eL aK a0), (eL aP a1)] st2 (aF r)) (t1 : (List aE)) (sg0 : σ) (r : σ) (h0 : mP gO t1 sg0 = some r) : wE Try.prog 91 I sg0 [(yv yield0_b), (.rp (eL aG t1))] r (.tup []) := by
  intro H0 G0 hI hg
  refine dG Try.func91 ?_
  obtain ⟨G, hO, hI⟩ : ∃ G, aL ⟨H0, List.map (fun p : Nat × dK => p.1) G0, G⟩ H0 [] ∧ I sg0 G := ⟨G0, aL.EX hg, hI⟩
  clear hg
  unfold mP at h0
  refine aS aD 1 [] [(3, (eI (0 : Int)))] ?_
  refine cG 0 ?_
  refine gR [(0, (yv yield0_b)), (1, (.rp (eL aG t1))), (3, (eI (0 : Int)))] ?_
  refine fG (fun T H => ∃ sg : σ, ∃ i3 : Int, ∃ G : Gs, Has T [(0, (yv yield0_b)), (1, (.rp (eL aG t1))), (3, (eI i3))] ∧ aL ⟨H0, List.map (fun p : Nat × dK => p.1) G0, G⟩ H [] ∧ I sg G ∧ pI gO sg t1 i3 = some r) ?_ ⟨sg0, (0 : Int), G, .eq (by kernel_rfl), hO, hI, h0⟩
  clear hO hI h0
  rintro T H ⟨sg, i3, G, hT, hO, hI, h0⟩
  refine bF hT ?_
  clear hT
  unfold pI at h0
  obtain ⟨rr0, hl0, h0⟩ := aV h0
  refine dN (by kernel_rfl) (fun (s : σ × Int) T H => ∃ G : Gs, Has T [(0, (yv yield0_b)), (1, (.rp (eL aG t1))), (3, (eI s.2))] ∧ aL ⟨H0, List.map (fun p : Nat × dK => p.1) G0, G⟩ H [] ∧ I s.1 G) hl0 ⟨G, .eq (by kernel_rfl), hO, hI⟩ ?_
  clear hO hI
  rintro k0 s out1 T H ⟨G, hT, hO, hI⟩ h1 ho0
  obtain ⟨sg, i3⟩ := s
  replace h1 : iC gO t1 sg i3 = some out1 := h1
  try dsimp only at hT
  refine bF hT ?_
  clear hT
  unfold iC at h1
  refine aO ?_
  refine aS aD 4 [] [(9, (aF (decide (i3 < (lN t1)))))] ?_
  refine bN h1 (fun h1 => ?_) (fun h1 => ?_)
  · refine bO ?_
    refine bH [(0, (yv yield0_b)), (1, (.rp (eL aG t1))), (3, (eI i3))] ?_
    refine cG 1 ?_
    refine aO ?_
    refine aT aD 6 ?_
    obtain ⟨c2, h1⟩ := aU h1
    refine mX [0 ≤ i3 ∧ i3 < (lN t1)] ⟨c2, trivial⟩ ?_
    refine bX [] [(4, (eL aK ((gD t1 i3).Row)))] ?_
    refine aO ?_
    refine aT aD 2 ?_
    refine rX (xs := []) (k := 2) (by kernel_rfl) (by kernel_rfl) ?_
    refine bE ?_
    refine bX [] [(5, (.sl true 0 (fun _ => .bad)))] ?_
    refine iA (fun T H => ∃ sg : σ, ∃ i3 : Int, ∃ r4 : (List aB), ∃ f5 : List aC, ∃ lo3 : Nat, ∃ G : Gs, Has T [(0, (yv yield0_b)), (1, (.rp (eL aG t1))), (3, (eI i3)), (4, (eL aK r4)), (5, (.msl 2 lo3 0 (List.length f5)))] ∧ aL ⟨H0, List.map (fun p : Nat × dK => p.1) G0, G⟩ H [(lo3, 2, List.map aP f5)] ∧ I sg G ∧ nM gO sg t1 i3 r4 f5 = some out1) ?_ ?_
    · clear hO hI h1
      rintro T H ⟨sg, i3, r4, f5, lo3, G, hT, hO, hI, h1⟩
      refine bF hT ?_
      clear hT
      unfold nM at h1
      refine aO ?_
      refine aT aD 6 ?_
      refine IN (e := aP) f5 0 5 2 lo3 (List.length f5) [] (by kernel_rfl) hO (by kernel_rfl) (by kernel_rfl) (by kernel_rfl) (by kernel_rfl) ?_
      intro H hO
      refine bR 2 ?_
      obtain ⟨x7, hx8, h1⟩ := aV h1
      refine dU (FA r4 _ hx8) hO ?_
      intro H hO
      refine bR 4 ?_
      obtain ⟨x10, hx11, h1⟩ := aV h1
      refine NI (I := I) (yv yield0_b) [(eL aK x7), (eL aP f5)] (aF x10.2) (by kernel_rfl) (by kernel_rfl) (yield0_h _ x7 f5 x10.1 x10.2 hx11) hO hI ?_
      intro G H hO hI
      refine bE ?_
      refine bX [4, 5] [(50, (aF (!x10.2)))] ?_
      refine bN h1 (fun h1 => ?_) (fun h1 => ?_)
      · refine bJ ?_
        obtain rfl := oI h1
        obtain rfl : _ = rr0 := ho0
        replace h0 : some x10.1 = some r := h0
        obtain rfl := oI h0
        exact aI (bM (aR (bM (jY (x := (.tup [])) (by kernel_rfl) (aN.refl _) ⟨rfl, G, hI, hO.DM⟩))))
      refine bO ?_
      exact aI (aY (aH (⟨rfl, _, (oI h1).symm, _, .eq (by kernel_rfl), hO, hI⟩)))
    refine cG 2 ?_
    refine gR [(0, (yv yield0_b)), (1, (.rp (eL aG t1))), (3, (eI i3)), (4, (eL aK ((gD t1 i3).Row))), (5, (.sl true 0 (fun _ => .bad)))] ?_
    refine RP (el := (fun _ => .bad)) 4 5 2 hO (by kernel_rfl) ?_
    intro lo24 H25 hO
    refine fG (fun T H => ∃ sg : σ, ∃ i3 : Int, ∃ r4 : (List aB), ∃ f5 : List aC, ∃ lo14 : Nat, ∃ G : Gs, Has T [(0, (yv yield0_b)), (1, (.rp (eL aG t1))), (3, (eI i3)), (4, (eL aK r4)), (5, (.msl 2 lo14 0 (List.length f5)))] ∧ aL ⟨H0, List.map (fun p : Nat × dK => p.1) G0, G⟩ H [(lo14, 2, List.map aP f5)] ∧ I sg G ∧ pJ gO sg t1 i3 r4 f5 = some out1) ?_ ⟨sg, i3, (gD t1 i3).Row, ([] : List aC), lo24, G, .eq (by kernel_rfl), hO, hI, h1⟩
    clear hO hI h1
    rintro T H ⟨sg, i3, r4, f5, lo14, G, hT, hO, hI, h1⟩
    refine bF hT ?_
    clear hT
    unfold pJ at h1
    obtain ⟨rr1, hl1, h1⟩ := aV h1
    refine dN (by kernel_rfl) (fun (s : σ × Int × List aC) T H => ∃ lo14 : Nat, ∃ G : Gs, Has T [(0, (yv yield0_b)), (1, (.rp (eL aG t1))), (3, (eI s.2.1)), (4, (eL aK r4)), (5, (.msl 2 lo14 0 (List.length s.2.2)))] ∧ aL ⟨H0, List.map (fun p : Nat × dK => p.1) G0, G⟩ H [(lo14, 2, List.map aP s.2.2)] ∧ I s.1 G) hl1 ⟨lo14, G, .eq (by kernel_rfl), hO, hI⟩ ?_
    clear hO hI
    rintro k1 s out2 T H ⟨lo14, G, hT, hO, hI⟩ h2 ho1
    obtain ⟨sg, i3, f5⟩ := s
    replace h2 : iX gO t1 r4 sg i3 f5 = some out2 := h2
    try dsimp only at hT
    refine bF hT ?_
    clear hT
    unfold iX at h2
    refine aO ?_
    refine aO ?_
    refine aT aD 13 ?_
    obtain ⟨c15, h2⟩ := aU h2
    refine uC 11 [(((decide (i3 < (lN t1)))) = true → 0 ≤ i3 ∧ i3 < (lN t1))] ⟨c15, trivial⟩ ?_
    obtain ⟨x16, hx17, h2⟩ := aV h2
    refine nY [(20, true)] 92 [(eL aK ((gD t1 i3).Row)), (eL aK r4)] (aF x16) (decide (i3 < (lN t1))) (by kernel_rfl) (by kernel_rfl) (by kernel_rfl) (fun hb18 => (QD ((gD t1 i3).Row) r4 _ (kA hx17 hb18))) hO ?_
    intro H hO
    refine bE ?_
    refine bX [] [(28, (aF ((decide (i3 < (lN t1))) && x16)))] ?_
    refine bN h2 (fun h2 => ?_) (fun h2 => ?_)
    · refine bO ?_
      refine bH [(0, (yv yield0_b)), (1, (.rp (eL aG t1))), (3, (eI i3)), (4, (eL aK r4)), (5, (.msl 2 lo14 0 (List.length f5)))] ?_
      refine aO ?_
      refine cG 3 ?_
      refine fN (fK [32, 36, 37, 41, 43]) aD 15 ?_
      obtain ⟨c20, h2⟩ := aU h2
      obtain ⟨c21, h2⟩ := aU h2
      refine cB 12 [0 ≤ i3 ∧ i3 < (lN t1), 0 ≤ i3 ∧ i3 < (lN t1)] ⟨c20, c21, trivial⟩ ?_
      refine OW (xs := [(aP (aC.mk ((gD t1 i3).At) ((gD t1 i3).Net)))]) (k := 2) (by kernel_rfl) (by kernel_rfl) ?_
      obtain ⟨c23, h2⟩ := aU h2
      refine FW (e := aP) f5 ([aC.mk ((gD t1 i3).At) ((gD t1 i3).Net)]) 0 lo14 2 16 (lJ [(aP (aC.mk ((gD t1 i3).At) ((gD t1 i3).Net)))]) (fun lo22 => [(lo22, 2, List.map aP (f5 ++ ([aC.mk ((gD t1 i3).At) ((gD t1 i3).Net)])))]) (by kernel_rfl) (by kernel_rfl) hO (by kernel_rfl) (by kernel_rfl) c23 (fun _ => by kernel_rfl) ?_
      intro lo22 H hO
      refine jS ?_
      refine gK [(0, (yv yield0_b)), (1, (.rp (eL aG t1))), (3, (eI i3)), (4, (eL aK r4)), (5, (.msl 2 lo22 0 (List.length (f5 ++ ([aC.mk ((gD t1 i3).At) ((gD t1 i3).Net)])))))] ?_
      refine aI (aY (aH (?_)))
      refine aT aD 3 ?_
      refine bE ?_
      exact aI (aH (⟨rfl, _, (oI h2).symm, _, _, .eq (by kernel_rfl), hO, hI⟩))
    refine iP 2 ?_
    obtain rfl := oI h2
    obtain rfl : _ = rr1 := ho1
    replace h1 : nM gO sg t1 i3 r4 f5 = some out1 := h1
    exact aI (aW (aW (cC (aH (⟨rfl, _, _, _, _, _, _, .eq (by kernel_rfl), hO, hI, h1⟩)))))
  refine iP 0 ?_
  obtain rfl := oI h1
  obtain rfl : _ = rr0 := ho0
  replace h0 : some sg = some r := h0
  obtain rfl := oI h0
  exact aI (aW (aW (cC (vX (x := (.tup [])) (by kernel_rfl) (aN.refl _) ⟨rfl, G, hI, hO.DM⟩))))

theorem rJ (s0 : (List aB)) (f1_f : Nat) (f1_a f1_c : List V) (f1 : aB → Option Bool) (f1_h : ∀ a0 r, f1 a0 = some r → dI Try.prog f1_f (f1_a ++ [(aK a0)] ++ f1_c) (aF r)) (r : Int) (h0 : gZ s0 f1 = some r) : dI Try.prog 100 [(eL aK s0), (.fn (.func f1_f) f1_a f1_c)] (eI r) := by
  intro H0
  refine dG Try.func100 ?_
  have hO := aL.start H0
  unfold gZ at h0
  refine aS aD 1 [] [] ?_
  refine iA (fun T H => Has T [] ∧ aL ⟨H0, [], []⟩ H [] ∧ eZ f1  = some r) ?_ ?_
  · clear hO h0
    rintro T H ⟨hT, hO, h0⟩
    refine bF hT ?_
    clear hT
    unfold eZ at h0
    refine cH aD 1 [(4, (eI (-1 : Int)))] ?_
    refine bJ ?_
    obtain rfl := oI h0
    exact aI (Q_r hO)
  refine aS aD 3 [] [(7, (eI (lN s0))), (8, (eI (0 : Int)))] ?_
  refine cG 0 ?_
  refine gR [(0, (eL aK s0)), (1, (.fn (.func f1_f) f1_a f1_c)), (7, (eI (lN s0))), (8, (eI (0 : Int)))] ?_
  refine fG (fun T H => ∃ t7 : Int, ∃ t8 : Int, Has T [(0, (eL aK s0)), (1, (.fn (.func f1_f) f1_a f1_c)), (7, (eI t7)), (8, (eI t8))] ∧ aL ⟨H0, [], []⟩ H [] ∧ gV f1 s0 t7 t8 = some r) ?_ ⟨(lN s0), (0 : Int), .eq (by kernel_rfl), hO, h0⟩
  clear hO h0
  rintro T H ⟨t7, t8, hT, hO, h0⟩
  refine bF hT ?_
  clear hT
  unfold gV at h0
  obtain ⟨rr0, hl0, h0⟩ := aV h0
  refine dN (by kernel_rfl) (fun (s : Int) T H => Has T [(0, (eL aK s0)), (1, (.fn (.func f1_f) f1_a f1_c)), (7, (eI t7)), (8, (eI s))] ∧ aL ⟨H0, [], []⟩ H []) hl0 ⟨.eq (by kernel_rfl), hO⟩ ?_
  clear hO
  rintro k0 s out1 T H ⟨hT, hO⟩ h1 ho0
  obtain ⟨t8, rfl⟩ : ∃ x, x = s := ⟨_, rfl⟩
  replace h1 : gU f1 s0 t7 t8 = some out1 := h1
  refine bF hT ?_
  clear hT
  unfold gU at h1
  refine aS aD 1 [] [(9, (aF (decide (t8 < t7))))] ?_
  refine aO ?_
  refine bN h1 (fun h1 => ?_) (fun h1 => ?_)
  · refine bO ?_
    refine bH [(0, (eL aK s0)), (1, (.fn (.func f1_f) f1_a f1_c)), (7, (eI t7)), (8, (eI t8))] ?_
    refine aO ?_
    refine cG 1 ?_
    refine aS aD 2 [] [(5, (eI t8))] ?_
    refine aO ?_
    refine aT aD 6 ?_
    obtain ⟨c2, h1⟩ := aU h1
    refine uC 5 [0 ≤ t8 ∧ t8 < (lN s0)] ⟨c2, trivial⟩ ?_
    obtain ⟨x3, hx4, h1⟩ := aV h1
    refine dU (f1_h (gD s0 t8) _ hx4) hO ?_
    intro H hO
    refine fM ?_
    refine bX [] [(16, (aF x3))] ?_
    refine bN h1 (fun h1 => ?_) (fun h1 => ?_)
    · refine cH aD 2 [(4, (eI t8))] ?_
      refine bJ ?_
      obtain rfl := oI h1
      obtain rfl : _ = rr0 := ho0
      replace h0 : some t8 = some r := h0
      obtain rfl := oI h0
      exact aI (bM (aR (aR (bM (aR (Q_r hO))))))
    refine bO ?_
    refine gK [(0, (eL aK s0)), (1, (.fn (.func f1_f) f1_a f1_c)), (7, (eI t7)), (8, (eI t8))] ?_
    refine aI (aY (aH (?_)))
    refine aT aD 2 ?_
    refine bE ?_
    exact aI (aH (⟨rfl, _, (oI h1).symm, .eq (by kernel_rfl), hO⟩))
  refine iP 0 ?_
  obtain rfl := oI h1
  obtain rfl : _ = rr0 := ho0
  replace h0 : eZ f1  = some r := h0
  exact aI (aW (aW (cC (aH (⟨rfl, .eq (by kernel_rfl), hO, h0⟩)))))

theorem pN (s0 : (List aB)) (f1_f : Nat) (f1_a f1_c : List V) (f1 : aB → Option Bool) (f1_h : ∀ a0 r, f1 a0 = some r → dI Try.prog f1_f (f1_a ++ [(aK a0)] ++ f1_c) (aF r)) (r : Bool) (h0 : eM s0 f1 = some r) : dI Try.prog 97 [(eL aK s0), (.fn (.func f1_f) f1_a f1_c)] (aF r) := by
  intro H0
  refine dG Try.func97 ?_
  have hO := aL.start H0
  unfold eM at h0
  refine aS aD 1 [] [] ?_
  refine aO ?_
  refine aT aD 5 ?_
  refine bR 2 ?_
  obtain ⟨x1, hx2, h0⟩ := aV h0
  refine dU (rJ s0 f1_f f1_a f1_c f1 f1_h _ hx2) hO ?_
  intro H hO
  refine bE ?_
  refine bH [(4, (aF (decide ((0 : Int) ≤ x1))))] ?_
  refine bJ ?_
  obtain rfl := oI h0
  exact aI (Q_r hO)

theorem tH (v0 : aB) (r : (bD × Bool)) (h0 : kV v0 = some r) : dI Try.prog 110 [(aK v0)] (.tup [(bB r.1), (aF r.2)]) := by
  intro H0
  refine dG Try.func110 ?_
  have hO := aL.start H0
  unfold kV at h0
  refine aO ?_
  refine aT aD 3 ?_
  refine pP 3 (aK v0) (by kernel_rfl) (by kernel_rfl) ?_
  refine bE ?_
  refine bH [(1, (.rp (aK v0)))] ?_
  refine aO ?_
  refine cG 0 ?_
  refine aS aD 9 [] [(4, (aF ((decide (v0.Kind = (1 : Int))) && (mV v0.Text (⟨#[]⟩ : ByteArray)))))] ?_
  refine bN h0 (fun h0 => ?_) (fun h0 => ?_)
  · refine cH aD 5 [(2, (bB (bD.k_number v0.Num))), (3, (aF true))] ?_
    refine bJ ?_
    obtain rfl := oI h0
    exact aI (bM (aR (Q_r hO)))
  refine aS aD 15 [4] [(16, (aF (((decide (v0.Kind = (2 : Int))) && (decide (v0.Num = (0 : Int)))) && (decide (((ByteArray.size v0.Text : Nat) : Int) ≤ (64 : Int))))))] ?_
  refine bN h0 (fun h0 => ?_) (fun h0 => ?_)
  · refine cH aD 5 [(2, (bB (bD.k_words v0.Text))), (3, (aF true))] ?_
    refine bJ ?_
    obtain rfl := oI h0
    exact aI (bM (aR (Q_r hO)))
  refine bO ?_
  refine gK [] ?_
  refine aI (aY (aH (?_)))
  refine cH aD 2 [(2, (bB bD.none_)), (3, (aF false))] ?_
  refine bJ ?_
  obtain rfl := oI h0
  exact aI (Q_r hO)

theorem MT (v0 : aB) (r : Bool) (h0 : sK v0 = some r) : dI Try.prog 99 [(aK v0)] (aF r) := by
  intro H0
  refine dG Try.func99 ?_
  have hO := aL.start H0
  unfold sK at h0
  refine aO ?_
  refine aT aD 2 ?_
  refine pP 3 (aK v0) (by kernel_rfl) (by kernel_rfl) ?_
  refine bE ?_
  refine bH [(1, (.rp (aK v0)))] ?_
  refine aO ?_
  refine aT aD 7 ?_
  refine bR 1 ?_
  obtain ⟨⟨x1_0, x1_1⟩, hx2, h0⟩ := aV h0
  refine dU (tH v0 _ hx2) hO ?_
  intro H hO
  rcases x1_0 with _ | y4 | y5
  · replace h0 : (some x1_1) = some r := h0
    refine bE ?_
    refine bH [(4, (aF x1_1))] ?_
    refine cH aD 2 [(2, (aF x1_1))] ?_
    refine bJ ?_
    obtain rfl := oI h0
    exact aI (Q_r hO)
  · replace h0 : (some x1_1) = some r := h0
    refine bE ?_
    refine bH [(4, (aF x1_1))] ?_
    refine cH aD 2 [(2, (aF x1_1))] ?_
    refine bJ ?_
    obtain rfl := oI h0
    exact aI (Q_r hO)
  · replace h0 : (some x1_1) = some r := h0
    refine bE ?_
    refine bH [(4, (aF x1_1))] ?_
    refine cH aD 2 [(2, (aF x1_1))] ?_
    refine bJ ?_
    obtain rfl := oI h0
    exact aI (Q_r hO)

theorem MV (v0 : aB) (r : Bool) (h0 : sJ v0 = some r) : dI Try.prog 98 [(aK v0)] (aF r) := by
  intro H0
  refine dG Try.func98 ?_
  have hO := aL.start H0
  unfold sJ at h0
  refine aO ?_
  refine aT aD 2 ?_
  refine pP 3 (aK v0) (by kernel_rfl) (by kernel_rfl) ?_
  refine bE ?_
  refine bH [(1, (.rp (aK v0)))] ?_
  refine aO ?_
  refine aT aD 4 ?_
  refine bR 1 ?_
  obtain ⟨x1, hx2, h0⟩ := aV h0
  refine dU (MT v0 _ hx2) hO ?_
  intro H hO
  refine bE ?_
  refine bH [(2, (aF (!x1)))] ?_
  refine bJ ?_
  obtain rfl := oI h0
  exact aI (Q_r hO)

theorem BP (r0 : (List aB)) (r : Bool) (h0 : rE r0 = some r) : dI Try.prog 76 [(eL aK r0)] (aF r) := by
  intro H0
  refine dG Try.func76 ?_
  have hO := aL.start H0
  unfold rE at h0
  refine aS aD 1 [] [] ?_
  refine aO ?_
  refine aS aD 3 [] [(5, (aF (decide ((8 : Int) < (lN r0)))))] ?_
  refine bN h0 (fun h0 => ?_) (fun h0 => ?_)
  · refine cH aD 1 [(2, (aF false))] ?_
    refine bJ ?_
    obtain rfl := oI h0
    exact aI (aR (Q_r hO))
  refine bO ?_
  refine bH [(0, (eL aK r0))] ?_
  refine aO ?_
  refine aT aD 4 ?_
  refine bR 1 ?_
  obtain ⟨x2, hx3, h0⟩ := aV h0
  refine dU (pN r0 98 [] [] (fun y0 => sJ y0) (fun y0 r h => MV y0 r h) _ hx3) hO ?_
  intro H hO
  refine bE ?_
  refine bH [(2, (aF (!x2)))] ?_
  refine bJ ?_
  obtain rfl := oI h0
  exact aI (Q_r hO)

theorem EE (t0 : (List aB)) (r : (Int × (List aB))) (h0 : qO t0 = some r) : sQ Try.prog 101 [(.rp (eL aK t0))] (fun lo => (.fn (.func 102) [] [(.lp lo 0 0), (.rp (eL aK r.2))])) 1 [(eI r.1)] := by
  intro H0
  refine dG Try.func101 ?_
  have hO := aL.start H0
  unfold qO at h0
  refine aS aD 1 [] [] ?_
  refine aO ?_
  refine aT aD 2 ?_
  refine oZ 1 (eI 0) (by kernel_rfl) (by kernel_rfl) hO ?_
  intro lo1 H hO
  refine lT 0 lo1 1 0 (eI 0) (eI (-1 : Int)) [(eI 0)] [(lo1, 1, [(eI (-1 : Int))])] hO rfl (by kernel_rfl) ?_
  intro H hO
  refine fM ?_
  refine bX [] [(2, (.lp lo1 0 0))] ?_
  refine aS aD 2 [0] [(1, (.fn (.func 102) [] [(.lp lo1 0 0), (.rp (eL aK t0))]))] ?_
  refine bJ ?_
  obtain rfl := oI h0
  exact aI (jY (x := (.fn (.func 102) [] [(.lp lo1 0 0), (.rp (eL aK t0))])) (by kernel_rfl) (aN.refl _) ⟨lo1, rfl, hO⟩)

theorem qI {σ : Type} (I : σ → Gs → Prop) (s0 : (List aB)) (f1_v : V) (f1 : σ → aB → Option (σ × Bool)) (f1_h : ∀ st a0 st2 r, f1 st a0 = some (st2, r) → CD Try.prog f1_v I st [(aK a0)] st2 (aF r)) (sg0 : σ) (r : (σ × Int)) (h0 : gP s0 f1 sg0 = some r) : wE Try.prog 100 I sg0 [(eL aK s0), f1_v] r.1 (eI r.2) := by
  intro H0 G0 hI hg
  refine dG Try.func100 ?_
  obtain ⟨G, hO, hI⟩ : ∃ G, aL ⟨H0, List.map (fun p : Nat × dK => p.1) G0, G⟩ H0 [] ∧ I sg0 G := ⟨G0, aL.EX hg, hI⟩
  clear hg
  unfold gP at h0
  refine aS aD 1 [] [] ?_
  refine iA (fun T H => ∃ sg : σ, ∃ G : Gs, Has T [] ∧ aL ⟨H0, List.map (fun p : Nat × dK => p.1) G0, G⟩ H [] ∧ I sg G ∧ eN f1 sg = some r) ?_ ?_
  · clear hO hI h0
    rintro T H ⟨sg, G, hT, hO, hI, h0⟩
    refine bF hT ?_
    clear hT
    unfold eN at h0
    refine cH aD 1 [(4, (eI (-1 : Int)))] ?_
    refine bJ ?_
    obtain rfl := oI h0
    exact aI (jY (x := (eI (-1 : Int))) (by kernel_rfl) (aN.refl _) ⟨rfl, G, hI, hO.DM⟩)
  refine aS aD 3 [] [(7, (eI (lN s0))), (8, (eI (0 : Int)))] ?_
  refine cG 0 ?_
  refine gR [(0, (eL aK s0)), (1, f1_v), (7, (eI (lN s0))), (8, (eI (0 : Int)))] ?_
  refine fG (fun T H => ∃ sg : σ, ∃ t7 : Int, ∃ t8 : Int, ∃ G : Gs, Has T [(0, (eL aK s0)), (1, f1_v), (7, (eI t7)), (8, (eI t8))] ∧ aL ⟨H0, List.map (fun p : Nat × dK => p.1) G0, G⟩ H [] ∧ I sg G ∧ gI f1 sg s0 t7 t8 = some r) ?_ ⟨sg0, (lN s0), (0 : Int), G, .eq (by kernel_rfl), hO, hI, h0⟩
  clear hO hI h0
  rintro T H ⟨sg, t7, t8, G, hT, hO, hI, h0⟩
  refine bF hT ?_
  clear hT
  unfold gI at h0
  obtain ⟨rr0, hl0, h0⟩ := aV h0
  refine dN (by kernel_rfl) (fun (s : σ × Int) T H => ∃ G : Gs, Has T [(0, (eL aK s0)), (1, f1_v), (7, (eI t7)), (8, (eI s.2))] ∧ aL ⟨H0, List.map (fun p : Nat × dK => p.1) G0, G⟩ H [] ∧ I s.1 G) hl0 ⟨G, .eq (by kernel_rfl), hO, hI⟩ ?_
  clear hO hI
  rintro k0 s out1 T H ⟨G, hT, hO, hI⟩ h1 ho0
  obtain ⟨sg, t8⟩ := s
  replace h1 : cA f1 s0 t7 sg t8 = some out1 := h1
  try dsimp only at hT
  refine bF hT ?_
  clear hT
  unfold cA at h1
  refine aS aD 1 [] [(9, (aF (decide (t8 < t7))))] ?_
  refine aO ?_
  refine bN h1 (fun h1 => ?_) (fun h1 => ?_)
  · refine bO ?_
    refine bH [(0, (eL aK s0)), (1, f1_v), (7, (eI t7)), (8, (eI t8))] ?_
    refine aO ?_
    refine cG 1 ?_
    refine aS aD 2 [] [(5, (eI t8))] ?_
    refine aO ?_
    refine aT aD 6 ?_
    obtain ⟨c2, h1⟩ := aU h1
    refine uC 5 [0 ≤ t8 ∧ t8 < (lN s0)] ⟨c2, trivial⟩ ?_
    obtain ⟨x3, hx4, h1⟩ := aV h1
    refine NI (I := I) f1_v [(aK (gD s0 t8))] (aF x3.2) (by kernel_rfl) (by kernel_rfl) (f1_h _ (gD s0 t8) x3.1 x3.2 hx4) hO hI ?_
    intro G H hO hI
    refine fM ?_
    refine bX [] [(16, (aF x3.2))] ?_
    refine bN h1 (fun h1 => ?_) (fun h1 => ?_)
    · refine cH aD 2 [(4, (eI t8))] ?_
      refine bJ ?_
      obtain rfl := oI h1
      obtain rfl : _ = rr0 := ho0
      replace h0 : some (x3.1, t8) = some r := h0
      obtain rfl := oI h0
      exact aI (bM (aR (aR (bM (aR (jY (x := (eI t8)) (by kernel_rfl) (aN.refl _) ⟨rfl, G, hI, hO.DM⟩))))))
    refine bO ?_
    refine gK [(0, (eL aK s0)), (1, f1_v), (7, (eI t7)), (8, (eI t8))] ?_
    refine aI (aY (aH (?_)))
    refine aT aD 2 ?_
    refine bE ?_
    exact aI (aH (⟨rfl, _, (oI h1).symm, _, .eq (by kernel_rfl), hO, hI⟩))
  refine iP 0 ?_
  obtain rfl := oI h1
  obtain rfl : _ = rr0 := ho0
  replace h0 : eN f1 sg = some r := h0
  exact aI (aW (aW (cC (aH (⟨rfl, _, _, .eq (by kernel_rfl), hO, hI, h0⟩)))))

theorem CH (v0 : aB) (lo1p : Nat) (t1 : Int) (t2 : (List aB)) (r : (Bool × Int)) (h0 : jF v0 t1 t2 = some r) : mJ Try.prog 102 lo1p 1 [(eI t1)] [(eI r.2)] [(aK v0), (.lp lo1p 0 0), (.rp (eL aK t2))] (aF r.1) := by
  intro H0 hl0
  refine dG Try.func102 ?_
  have hO := aL.oR hl0
  clear hl0
  unfold jF at h0
  refine aO ?_
  refine aT aD 2 ?_
  refine pP 3 (aK v0) (by kernel_rfl) (by kernel_rfl) ?_
  refine bE ?_
  refine bX [0] [(3, (.rp (aK v0)))] ?_
  refine aO ?_
  refine aT aD 3 ?_
  refine oT 0 lo1p 1 0 (eI t1) (eI t1) [(eI t1)] hO rfl ?_
  refine bR 2 ?_
  refine lT 0 lo1p 1 0 (eI t1) (eI (wR (t1 + (1 : Int)))) [(eI t1)] [(lo1p, 1, [(eI (wR (t1 + (1 : Int))))])] hO rfl (by kernel_rfl) ?_
  intro H hO
  refine fM ?_
  refine bX [] [] ?_
  refine aO ?_
  refine fN (fK [7, 8, 11]) aD 7 ?_
  refine lH 2 ?_
  refine fD 0 lo1p 1 0 (eI (wR (t1 + (1 : Int)))) (eI (wR (t1 + (1 : Int)))) [(eI (wR (t1 + (1 : Int))))] hO rfl ?_
  obtain ⟨c1, h0⟩ := aU h0
  refine JF (Ds := [0 ≤ (wR (t1 + (1 : Int))) ∧ (wR (t1 + (1 : Int))) < (lN t2)]) (by kernel_rfl) ⟨c1, trivial⟩ ?_
  refine bH [(1, (.lp lo1p 0 0)), (4, (aF (!((decide (v0.Kind = ((gD t2 (wR (t1 + (1 : Int)))).Kind))) && ((decide (v0.Num = ((gD t2 (wR (t1 + (1 : Int)))).Num))) && ((mV v0.Text ((gD t2 (wR (t1 + (1 : Int)))).Text)) && true))))))] ?_
  refine bJ ?_
  obtain rfl := oI h0
  exact aI (jY (x := (aF (!((decide (v0.Kind = ((gD t2 (wR (t1 + (1 : Int)))).Kind))) && ((decide (v0.Num = ((gD t2 (wR (t1 + (1 : Int)))).Num))) && ((mV v0.Text ((gD t2 (wR (t1 + (1 : Int)))).Text)) && true)))))) (by kernel_rfl) (aN.refl _) ⟨rfl, hO.ext, hO.at 0 (by kernel_rfl), rfl⟩)

theorem qS (x0 : Int) (r : Bool) (h0 : jO x0 = some r) : dI Try.prog 95 [(eI x0)] (aF r) := by
  intro H0
  refine dG Try.func95 ?_
  have hO := aL.start H0
  unfold jO at h0
  refine aS aD 1 [] [] ?_
  refine cH aD 4 [(2, (aF (!decide (x0 = x0))))] ?_
  refine bJ ?_
  obtain rfl := oI h0
  exact aI (Q_r hO)

theorem CK (x0 : Int) (y1 : Int) (r : Int) (h0 : mU x0 y1 = some r) : dI Try.prog 103 [(eI x0), (eI y1)] (eI r) := by
  intro H0
  refine dG Try.func103 ?_
  have hO := aL.start H0
  unfold mU at h0
  refine aS aD 1 [] [] ?_
  refine aO ?_
  refine aT aD 3 ?_
  refine bR 1 ?_
  obtain ⟨x1, hx2, h0⟩ := aV h0
  refine dU (qS x0 _ hx2) hO ?_
  intro H hO
  refine bE ?_
  refine bX [] [(5, (aF x1))] ?_
  refine aO ?_
  refine aT aD 3 ?_
  refine bR 1 ?_
  obtain ⟨x4, hx5, h0⟩ := aV h0
  refine dU (qS y1 _ hx5) hO ?_
  intro H hO
  refine bE ?_
  refine bX [] [(6, (aF x4))] ?_
  refine aO ?_
  refine aS aD 1 [5] [(11, (aF x1))] ?_
  refine bN h0 (fun h0 => ?_) (fun h0 => ?_)
  · refine aO ?_
    refine cH aD 1 [(12, (aF x4))] ?_
    refine bN h0 (fun h0 => ?_) (fun h0 => ?_)
    · refine cH aD 1 [(4, (eI (0 : Int)))] ?_
      refine bJ ?_
      obtain rfl := oI h0
      exact aI (aR (aR (Q_r hO)))
    refine bO ?_
    refine bH [] ?_
    refine cH aD 1 [(4, (eI (-1 : Int)))] ?_
    refine bJ ?_
    obtain rfl := oI h0
    exact aI (aR (Q_r hO))
  refine bO ?_
  refine bH [(0, (eI x0)), (1, (eI y1)), (6, (aF x4))] ?_
  refine aO ?_
  refine aS aD 1 [6] [(13, (aF x4))] ?_
  refine bN h0 (fun h0 => ?_) (fun h0 => ?_)
  · refine cH aD 1 [(4, (eI (1 : Int)))] ?_
    refine bJ ?_
    obtain rfl := oI h0
    exact aI (aR (Q_r hO))
  refine bO ?_
  refine bH [(0, (eI x0)), (1, (eI y1))] ?_
  refine aO ?_
  refine aS aD 3 [] [(16, (aF (decide (x0 < y1))))] ?_
  refine bN h0 (fun h0 => ?_) (fun h0 => ?_)
  · refine cH aD 1 [(4, (eI (-1 : Int)))] ?_
    refine bJ ?_
    obtain rfl := oI h0
    exact aI (aR (Q_r hO))
  refine bO ?_
  refine bH [(0, (eI x0)), (1, (eI y1))] ?_
  refine aO ?_
  refine cH aD 3 [(19, (aF (decide (y1 < x0))))] ?_
  refine bN h0 (fun h0 => ?_) (fun h0 => ?_)
  · refine cH aD 1 [(4, (eI (1 : Int)))] ?_
    refine bJ ?_
    obtain rfl := oI h0
    exact aI (aR (Q_r hO))
  refine bO ?_
  refine bH [] ?_
  refine cH aD 1 [(4, (eI (0 : Int)))] ?_
  refine bJ ?_
  obtain rfl := oI h0
  exact aI (Q_r hO)

theorem qV (x0 : Int) (r : Bool) (h0 : kE x0 = some r) : dI Try.prog 114 [(eI x0)] (aF r) := by
  intro H0
  refine dG Try.func114 ?_
  have hO := aL.start H0
  unfold kE at h0
  refine aS aD 1 [] [] ?_
  refine cH aD 4 [(2, (aF (!decide (x0 = x0))))] ?_
  refine bJ ?_
  obtain rfl := oI h0
  exact aI (Q_r hO)

theorem vN (x0 : Int) (y1 : Int) (r : Int) (h0 : fL x0 y1 = some r) : dI Try.prog 111 [(eI x0), (eI y1)] (eI r) := by
  intro H0
  refine dG Try.func111 ?_
  have hO := aL.start H0
  unfold fL at h0
  refine aS aD 1 [] [] ?_
  refine aO ?_
  refine aT aD 3 ?_
  refine bR 1 ?_
  obtain ⟨x1, hx2, h0⟩ := aV h0
  refine dU (qV x0 _ hx2) hO ?_
  intro H hO
  refine bE ?_
  refine bX [] [(5, (aF x1))] ?_
  refine aO ?_
  refine aT aD 3 ?_
  refine bR 1 ?_
  obtain ⟨x4, hx5, h0⟩ := aV h0
  refine dU (qV y1 _ hx5) hO ?_
  intro H hO
  refine bE ?_
  refine bX [] [(6, (aF x4))] ?_
  refine aO ?_
  refine aS aD 1 [5] [(11, (aF x1))] ?_
  refine bN h0 (fun h0 => ?_) (fun h0 => ?_)
  · refine aO ?_
    refine cH aD 1 [(12, (aF x4))] ?_
    refine bN h0 (fun h0 => ?_) (fun h0 => ?_)
    · refine cH aD 1 [(4, (eI (0 : Int)))] ?_
      refine bJ ?_
      obtain rfl := oI h0
      exact aI (aR (aR (Q_r hO)))
    refine bO ?_
    refine bH [] ?_
    refine cH aD 1 [(4, (eI (-1 : Int)))] ?_
    refine bJ ?_
    obtain rfl := oI h0
    exact aI (aR (Q_r hO))
  refine bO ?_
  refine bH [(0, (eI x0)), (1, (eI y1)), (6, (aF x4))] ?_
  refine aO ?_
  refine aS aD 1 [6] [(13, (aF x4))] ?_
  refine bN h0 (fun h0 => ?_) (fun h0 => ?_)
  · refine cH aD 1 [(4, (eI (1 : Int)))] ?_
    refine bJ ?_
    obtain rfl := oI h0
    exact aI (aR (Q_r hO))
  refine bO ?_
  refine bH [(0, (eI x0)), (1, (eI y1))] ?_
  refine aO ?_
  refine aS aD 3 [] [(16, (aF (decide (x0 < y1))))] ?_
  refine bN h0 (fun h0 => ?_) (fun h0 => ?_)
  · refine cH aD 1 [(4, (eI (-1 : Int)))] ?_
    refine bJ ?_
    obtain rfl := oI h0
    exact aI (aR (Q_r hO))
  refine bO ?_
  refine bH [(0, (eI x0)), (1, (eI y1))] ?_
  refine aO ?_
  refine cH aD 3 [(19, (aF (decide (y1 < x0))))] ?_
  refine bN h0 (fun h0 => ?_) (fun h0 => ?_)
  · refine cH aD 1 [(4, (eI (1 : Int)))] ?_
    refine bJ ?_
    obtain rfl := oI h0
    exact aI (aR (Q_r hO))
  refine bO ?_
  refine bH [] ?_
  refine cH aD 1 [(4, (eI (0 : Int)))] ?_
  refine bJ ?_
  obtain rfl := oI h0
  exact aI (Q_r hO)

theorem tB (a0 : ByteArray) (b1 : ByteArray) (r : Int) (h0 : iY a0 b1 = some r) : dI Try.prog 115 [(uE a0), (uE b1)] (eI r) := by
  intro H0
  refine dG Try.func115 ?_
  have hO := aL.start H0
  unfold iY at h0
  refine aS aD 1 [] [] ?_
  refine aO ?_
  refine aT aD 4 ?_
  refine bR 2 ?_
  refine WV 116 [(uE a0), (uE b1)] (eI (GR a0 b1)) (by kernel_rfl) (by kernel_rfl) (WB Try.func116 (by kernel_rfl) (by kernel_rfl) (by kernel_rfl) (by kernel_rfl) a0 b1) hO ?_
  intro H hO
  refine bE ?_
  refine bH [(4, (eI (GR a0 b1)))] ?_
  refine bJ ?_
  obtain rfl := oI h0
  exact aI (Q_r hO)

theorem CG (a0 : ByteArray) (b1 : ByteArray) (r : Int) (h0 : lO a0 b1 = some r) : dI Try.prog 112 [(uE a0), (uE b1)] (eI r) := by
  intro H0
  refine dG Try.func112 ?_
  have hO := aL.start H0
  unfold lO at h0
  refine aS aD 1 [] [] ?_
  refine aO ?_
  refine aT aD 4 ?_
  refine bR 2 ?_
  obtain ⟨x1, hx2, h0⟩ := aV h0
  refine dU (tB a0 b1 _ hx2) hO ?_
  intro H hO
  refine bE ?_
  refine bH [(4, (eI x1))] ?_
  refine bJ ?_
  obtain rfl := oI h0
  exact aI (Q_r hO)

theorem FT (a0 : aB) (b1 : aB) (r : Int) (h0 : oA a0 b1 = some r) : dI Try.prog 104 [(aK a0), (aK b1)] (eI r) := by
  intro H0
  refine dG Try.func104 ?_
  have hO := aL.start H0
  unfold oA at h0
  refine aO ?_
  refine aT aD 3 ?_
  refine pP 3 (aK a0) (by kernel_rfl) (by kernel_rfl) ?_
  refine pP 3 (aK b1) (by kernel_rfl) (by kernel_rfl) ?_
  refine bE ?_
  refine bH [(2, (.rp (aK a0))), (3, (.rp (aK b1)))] ?_
  refine aO ?_
  refine aT aD 7 ?_
  refine bR 1 ?_
  obtain ⟨⟨x1_0, x1_1⟩, hx2, h0⟩ := aV h0
  refine dU (tH a0 _ hx2) hO ?_
  intro H hO
  rcases x1_0 with _ | y4 | y5
  · replace h0 : ((kV b1).bind fun (x6_0, x6_1) => match x6_0 with | .none_ => (cond ((!x1_1) || (!x6_1)) (some (0 : Int)) (none)) | .k_number y9 => (cond ((!x1_1) || (!x6_1)) (some (0 : Int)) (some (1 : Int))) | .k_words y10 => (cond ((!x1_1) || (!x6_1)) (some (0 : Int)) (none))) = some r := h0
    refine bE ?_
    refine bX [2] [(5, (bB bD.none_)), (6, (aF x1_1))] ?_
    refine aO ?_
    refine aT aD 7 ?_
    refine bR 1 ?_
    obtain ⟨⟨x6_0, x6_1⟩, hx7, h0⟩ := aV h0
    refine dU (tH b1 _ hx7) hO ?_
    intro H hO
    rcases x6_0 with _ | y9 | y10
    · replace h0 : (cond ((!x1_1) || (!x6_1)) (some (0 : Int)) (none)) = some r := h0
      refine bE ?_
      refine bX [3] [(7, (bB bD.none_)), (8, (aF x6_1))] ?_
      refine aO ?_
      refine aS aD 6 [6, 8] [(28, (aF ((!x1_1) || (!x6_1))))] ?_
      refine bN h0 (fun h0 => ?_) (fun h0 => ?_)
      · refine cH aD 1 [(4, (eI (0 : Int)))] ?_
        refine bJ ?_
        obtain rfl := oI h0
        exact aI (aR (Q_r hO))
      refine bO ?_
      refine bH [(5, (bB bD.none_)), (7, (bB bD.none_))] ?_
      refine aS aD 7 [] [(9, (eI 0)), (10, (aF false))] ?_
      refine aS aD 7 [] [(11, (eI 0)), (12, (aF false))] ?_
      refine aO ?_
      refine cG 0 ?_
      refine aS aD 5 [] [(39, (aF false))] ?_
      refine mM (false) (fun hc12 => ?_) (fun hc12 => ?_)
      · cases hc12
      · refine aS aD 2 [9, 10, 11, 39] [(47, (aF false))] ?_
        refine mM (false) (fun hc13 => ?_) (fun hc13 => ?_)
        · cases hc13
        · refine cH aD 2 [(5, (bB bD.none_)), (7, (bB bD.none_)), (49, (aF false))] ?_
          refine mM (false) (fun hc14 => ?_) (fun hc14 => ?_)
          · cases hc14
          · refine bO ?_
            refine gK [(5, (bB bD.none_)), (7, (bB bD.none_))] ?_
            refine aI (aY (aH (?_)))
            refine aO ?_
            refine fN (fK []) aD 6 ?_
            cases h0
    · replace h0 : (cond ((!x1_1) || (!x6_1)) (some (0 : Int)) (some (1 : Int))) = some r := h0
      refine bE ?_
      refine bX [3] [(7, (bB (bD.k_number y9))), (8, (aF x6_1))] ?_
      refine aO ?_
      refine aS aD 6 [6, 8] [(28, (aF ((!x1_1) || (!x6_1))))] ?_
      refine bN h0 (fun h0 => ?_) (fun h0 => ?_)
      · refine cH aD 1 [(4, (eI (0 : Int)))] ?_
        refine bJ ?_
        obtain rfl := oI h0
        exact aI (aR (Q_r hO))
      refine bO ?_
      refine bH [(5, (bB bD.none_)), (7, (bB (bD.k_number y9)))] ?_
      refine aS aD 7 [] [(9, (eI 0)), (10, (aF false))] ?_
      refine aS aD 7 [] [(11, (eI y9)), (12, (aF true))] ?_
      refine aO ?_
      refine cG 0 ?_
      refine aS aD 5 [] [(39, (aF false))] ?_
      refine mM (false) (fun hc16 => ?_) (fun hc16 => ?_)
      · cases hc16
      · refine aS aD 2 [9, 10, 11, 39] [(47, (aF false))] ?_
        refine mM (false) (fun hc17 => ?_) (fun hc17 => ?_)
        · cases hc17
        · refine cH aD 2 [(5, (bB bD.none_)), (7, (bB (bD.k_number y9))), (49, (aF true))] ?_
          refine mM (true) (fun hc18 => ?_) (fun hc18 => ?_)
          · refine cH aD 1 [(4, (eI (1 : Int)))] ?_
            refine bJ ?_
            obtain rfl := oI h0
            exact aI (bM (aR (Q_r hO)))
          · cases hc18
    · replace h0 : (cond ((!x1_1) || (!x6_1)) (some (0 : Int)) (none)) = some r := h0
      refine bE ?_
      refine bX [3] [(7, (bB (bD.k_words y10))), (8, (aF x6_1))] ?_
      refine aO ?_
      refine aS aD 6 [6, 8] [(28, (aF ((!x1_1) || (!x6_1))))] ?_
      refine bN h0 (fun h0 => ?_) (fun h0 => ?_)
      · refine cH aD 1 [(4, (eI (0 : Int)))] ?_
        refine bJ ?_
        obtain rfl := oI h0
        exact aI (aR (Q_r hO))
      refine bO ?_
      refine bH [(5, (bB bD.none_)), (7, (bB (bD.k_words y10)))] ?_
      refine aS aD 7 [] [(9, (eI 0)), (10, (aF false))] ?_
      refine aS aD 7 [] [(11, (eI 0)), (12, (aF false))] ?_
      refine aO ?_
      refine cG 0 ?_
      refine aS aD 5 [] [(39, (aF false))] ?_
      refine mM (false) (fun hc20 => ?_) (fun hc20 => ?_)
      · cases hc20
      · refine aS aD 2 [9, 10, 11, 39] [(47, (aF false))] ?_
        refine mM (false) (fun hc21 => ?_) (fun hc21 => ?_)
        · cases hc21
        · refine cH aD 2 [(5, (bB bD.none_)), (7, (bB (bD.k_words y10))), (49, (aF false))] ?_
          refine mM (false) (fun hc22 => ?_) (fun hc22 => ?_)
          · cases hc22
          · refine bO ?_
            refine gK [(5, (bB bD.none_)), (7, (bB (bD.k_words y10)))] ?_
            refine aI (aY (aH (?_)))
            refine aO ?_
            refine fN (fK []) aD 6 ?_
            cases h0
  · replace h0 : ((kV b1).bind fun (x23_0, x23_1) => match x23_0 with | .none_ => (cond ((!x1_1) || (!x23_1)) (some (0 : Int)) (some (-1 : Int))) | .k_number y26 => (cond ((!x1_1) || (!x23_1)) (some (0 : Int)) ((fL y4 y26).bind fun x33 => some x33)) | .k_words y27 => (cond ((!x1_1) || (!x23_1)) (some (0 : Int)) (some (-1 : Int)))) = some r := h0
    refine bE ?_
    refine bX [2] [(5, (bB (bD.k_number y4))), (6, (aF x1_1))] ?_
    refine aO ?_
    refine aT aD 7 ?_
    refine bR 1 ?_
    obtain ⟨⟨x23_0, x23_1⟩, hx24, h0⟩ := aV h0
    refine dU (tH b1 _ hx24) hO ?_
    intro H hO
    rcases x23_0 with _ | y26 | y27
    · replace h0 : (cond ((!x1_1) || (!x23_1)) (some (0 : Int)) (some (-1 : Int))) = some r := h0
      refine bE ?_
      refine bX [3] [(7, (bB bD.none_)), (8, (aF x23_1))] ?_
      refine aO ?_
      refine aS aD 6 [6, 8] [(28, (aF ((!x1_1) || (!x23_1))))] ?_
      refine bN h0 (fun h0 => ?_) (fun h0 => ?_)
      · refine cH aD 1 [(4, (eI (0 : Int)))] ?_
        refine bJ ?_
        obtain rfl := oI h0
        exact aI (aR (Q_r hO))
      refine bO ?_
      refine bH [(5, (bB (bD.k_number y4))), (7, (bB bD.none_))] ?_
      refine aS aD 7 [] [(9, (eI y4)), (10, (aF true))] ?_
      refine aS aD 7 [] [(11, (eI 0)), (12, (aF false))] ?_
      refine aO ?_
      refine cG 0 ?_
      refine aS aD 5 [] [(39, (aF false))] ?_
      refine mM (false) (fun hc29 => ?_) (fun hc29 => ?_)
      · cases hc29
      · refine aS aD 2 [9, 10, 11, 39] [(47, (aF true))] ?_
        refine mM (true) (fun hc30 => ?_) (fun hc30 => ?_)
        · refine cH aD 1 [(4, (eI (-1 : Int)))] ?_
          refine bJ ?_
          obtain rfl := oI h0
          exact aI (bM (aR (Q_r hO)))
        · cases hc30
    · replace h0 : (cond ((!x1_1) || (!x23_1)) (some (0 : Int)) ((fL y4 y26).bind fun x33 => some x33)) = some r := h0
      refine bE ?_
      refine bX [3] [(7, (bB (bD.k_number y26))), (8, (aF x23_1))] ?_
      refine aO ?_
      refine aS aD 6 [6, 8] [(28, (aF ((!x1_1) || (!x23_1))))] ?_
      refine bN h0 (fun h0 => ?_) (fun h0 => ?_)
      · refine cH aD 1 [(4, (eI (0 : Int)))] ?_
        refine bJ ?_
        obtain rfl := oI h0
        exact aI (aR (Q_r hO))
      refine bO ?_
      refine bH [(5, (bB (bD.k_number y4))), (7, (bB (bD.k_number y26)))] ?_
      refine aS aD 7 [] [(9, (eI y4)), (10, (aF true))] ?_
      refine aS aD 7 [] [(11, (eI y26)), (12, (aF true))] ?_
      refine aO ?_
      refine cG 0 ?_
      refine aS aD 5 [] [(39, (aF true))] ?_
      refine mM (true) (fun hc32 => ?_) (fun hc32 => ?_)
      · refine aO ?_
        refine aT aD 4 ?_
        refine bR 2 ?_
        obtain ⟨x33, hx34, h0⟩ := aV h0
        refine dU (vN y4 y26 _ hx34) hO ?_
        intro H hO
        refine bE ?_
        refine bH [(4, (eI x33))] ?_
        refine bJ ?_
        obtain rfl := oI h0
        exact aI (bM (aR (Q_r hO)))
      · cases hc32
    · replace h0 : (cond ((!x1_1) || (!x23_1)) (some (0 : Int)) (some (-1 : Int))) = some r := h0
      refine bE ?_
      refine bX [3] [(7, (bB (bD.k_words y27))), (8, (aF x23_1))] ?_
      refine aO ?_
      refine aS aD 6 [6, 8] [(28, (aF ((!x1_1) || (!x23_1))))] ?_
      refine bN h0 (fun h0 => ?_) (fun h0 => ?_)
      · refine cH aD 1 [(4, (eI (0 : Int)))] ?_
        refine bJ ?_
        obtain rfl := oI h0
        exact aI (aR (Q_r hO))
      refine bO ?_
      refine bH [(5, (bB (bD.k_number y4))), (7, (bB (bD.k_words y27)))] ?_
      refine aS aD 7 [] [(9, (eI y4)), (10, (aF true))] ?_
      refine aS aD 7 [] [(11, (eI 0)), (12, (aF false))] ?_
      refine aO ?_
      refine cG 0 ?_
      refine aS aD 5 [] [(39, (aF false))] ?_
      refine mM (false) (fun hc37 => ?_) (fun hc37 => ?_)
      · cases hc37
      · refine aS aD 2 [9, 10, 11, 39] [(47, (aF true))] ?_
        refine mM (true) (fun hc38 => ?_) (fun hc38 => ?_)
        · refine cH aD 1 [(4, (eI (-1 : Int)))] ?_
          refine bJ ?_
          obtain rfl := oI h0
          exact aI (bM (aR (Q_r hO)))
        · cases hc38
  · replace h0 : ((kV b1).bind fun (x39_0, x39_1) => match x39_0 with | .none_ => (cond ((!x1_1) || (!x39_1)) (some (0 : Int)) (none)) | .k_number y42 => (cond ((!x1_1) || (!x39_1)) (some (0 : Int)) (some (1 : Int))) | .k_words y43 => (cond ((!x1_1) || (!x39_1)) (some (0 : Int)) ((lO y5 y43).bind fun x56 => some x56))) = some r := h0
    refine bE ?_
    refine bX [2] [(5, (bB (bD.k_words y5))), (6, (aF x1_1))] ?_
    refine aO ?_
    refine aT aD 7 ?_
    refine bR 1 ?_
    obtain ⟨⟨x39_0, x39_1⟩, hx40, h0⟩ := aV h0
    refine dU (tH b1 _ hx40) hO ?_
    intro H hO
    rcases x39_0 with _ | y42 | y43
    · replace h0 : (cond ((!x1_1) || (!x39_1)) (some (0 : Int)) (none)) = some r := h0
      refine bE ?_
      refine bX [3] [(7, (bB bD.none_)), (8, (aF x39_1))] ?_
      refine aO ?_
      refine aS aD 6 [6, 8] [(28, (aF ((!x1_1) || (!x39_1))))] ?_
      refine bN h0 (fun h0 => ?_) (fun h0 => ?_)
      · refine cH aD 1 [(4, (eI (0 : Int)))] ?_
        refine bJ ?_
        obtain rfl := oI h0
        exact aI (aR (Q_r hO))
      refine bO ?_
      refine bH [(5, (bB (bD.k_words y5))), (7, (bB bD.none_))] ?_
      refine aS aD 7 [] [(9, (eI 0)), (10, (aF false))] ?_
      refine aS aD 7 [] [(11, (eI 0)), (12, (aF false))] ?_
      refine aO ?_
      refine cG 0 ?_
      refine aS aD 5 [] [(39, (aF false))] ?_
      refine mM (false) (fun hc45 => ?_) (fun hc45 => ?_)
      · cases hc45
      · refine aS aD 2 [9, 10, 11, 39] [(47, (aF false))] ?_
        refine mM (false) (fun hc46 => ?_) (fun hc46 => ?_)
        · cases hc46
        · refine cH aD 2 [(5, (bB (bD.k_words y5))), (7, (bB bD.none_)), (49, (aF false))] ?_
          refine mM (false) (fun hc47 => ?_) (fun hc47 => ?_)
          · cases hc47
          · refine bO ?_
            refine gK [(5, (bB (bD.k_words y5))), (7, (bB bD.none_))] ?_
            refine aI (aY (aH (?_)))
            refine aO ?_
            refine fN (fK []) aD 6 ?_
            cases h0
    · replace h0 : (cond ((!x1_1) || (!x39_1)) (some (0 : Int)) (some (1 : Int))) = some r := h0
      refine bE ?_
      refine bX [3] [(7, (bB (bD.k_number y42))), (8, (aF x39_1))] ?_
      refine aO ?_
      refine aS aD 6 [6, 8] [(28, (aF ((!x1_1) || (!x39_1))))] ?_
      refine bN h0 (fun h0 => ?_) (fun h0 => ?_)
      · refine cH aD 1 [(4, (eI (0 : Int)))] ?_
        refine bJ ?_
        obtain rfl := oI h0
        exact aI (aR (Q_r hO))
      refine bO ?_
      refine bH [(5, (bB (bD.k_words y5))), (7, (bB (bD.k_number y42)))] ?_
      refine aS aD 7 [] [(9, (eI 0)), (10, (aF false))] ?_
      refine aS aD 7 [] [(11, (eI y42)), (12, (aF true))] ?_
      refine aO ?_
      refine cG 0 ?_
      refine aS aD 5 [] [(39, (aF false))] ?_
      refine mM (false) (fun hc49 => ?_) (fun hc49 => ?_)
      · cases hc49
      · refine aS aD 2 [9, 10, 11, 39] [(47, (aF false))] ?_
        refine mM (false) (fun hc50 => ?_) (fun hc50 => ?_)
        · cases hc50
        · refine cH aD 2 [(5, (bB (bD.k_words y5))), (7, (bB (bD.k_number y42))), (49, (aF true))] ?_
          refine mM (true) (fun hc51 => ?_) (fun hc51 => ?_)
          · refine cH aD 1 [(4, (eI (1 : Int)))] ?_
            refine bJ ?_
            obtain rfl := oI h0
            exact aI (bM (aR (Q_r hO)))
          · cases hc51
    · replace h0 : (cond ((!x1_1) || (!x39_1)) (some (0 : Int)) ((lO y5 y43).bind fun x56 => some x56)) = some r := h0
      refine bE ?_
      refine bX [3] [(7, (bB (bD.k_words y43))), (8, (aF x39_1))] ?_
      refine aO ?_
      refine aS aD 6 [6, 8] [(28, (aF ((!x1_1) || (!x39_1))))] ?_
      refine bN h0 (fun h0 => ?_) (fun h0 => ?_)
      · refine cH aD 1 [(4, (eI (0 : Int)))] ?_
        refine bJ ?_
        obtain rfl := oI h0
        exact aI (aR (Q_r hO))
      refine bO ?_
      refine bH [(5, (bB (bD.k_words y5))), (7, (bB (bD.k_words y43)))] ?_
      refine aS aD 7 [] [(9, (eI 0)), (10, (aF false))] ?_
      refine aS aD 7 [] [(11, (eI 0)), (12, (aF false))] ?_
      refine aO ?_
      refine cG 0 ?_
      refine aS aD 5 [] [(39, (aF false))] ?_
      refine mM (false) (fun hc53 => ?_) (fun hc53 => ?_)
      · cases hc53
      · refine aS aD 2 [9, 10, 11, 39] [(47, (aF false))] ?_
        refine mM (false) (fun hc54 => ?_) (fun hc54 => ?_)
        · cases hc54
        · refine cH aD 2 [(5, (bB (bD.k_words y5))), (7, (bB (bD.k_words y43))), (49, (aF false))] ?_
          refine mM (false) (fun hc55 => ?_) (fun hc55 => ?_)
          · cases hc55
          · refine bO ?_
            refine gK [(5, (bB (bD.k_words y5))), (7, (bB (bD.k_words y43)))] ?_
            refine aI (aY (aH (?_)))
            refine aO ?_
            refine fN (fK []) aD 6 ?_
            refine lH 4 ?_
            obtain ⟨x56, hx57, h0⟩ := aV h0
            refine DB (CG y5 y43 _ hx57) hO ?_
            intro H hO
            refine jS ?_
            refine bH [(4, (eI x56))] ?_
            refine bJ ?_
            obtain rfl := oI h0
            exact aI (Q_r hO)

theorem IX (a0 : (List aB)) (b1 : (List aB)) (r : Int) (h0 : pV a0 b1 = some r) : dI Try.prog 77 [(eL aK a0), (eL aK b1)] (eI r) := by
  intro H0
  refine dG Try.func77 ?_
  have hO := aL.start H0
  unfold pV at h0
  refine aO ?_
  refine aT aD 2 ?_
  refine pP 1 (eL aK b1) (by kernel_rfl) (by kernel_rfl) ?_
  refine bE ?_
  refine bX [1] [(3, (.rp (eL aK b1)))] ?_
  refine aO ?_
  refine aO ?_
  refine aT aD 8 ?_
  refine bR 1 ?_
  obtain ⟨x1, hx2, h0⟩ := aV h0
  refine dU (BP a0 _ hx2) hO ?_
  intro H hO
  refine bR 5 ?_
  obtain ⟨x4, hx5, h0⟩ := aV h0
  refine nY [(10, false)] 76 [(eL aK b1)] (aF x4) (!(!x1)) (by kernel_rfl) (by kernel_rfl) (by kernel_rfl) (fun hb6 => (BP b1 _ (kA hx5 hb6))) hO ?_
  intro H hO
  refine bE ?_
  refine bX [] [(14, (aF ((!x1) || (!x4))))] ?_
  refine bN h0 (fun h0 => ?_) (fun h0 => ?_)
  · refine cH aD 1 [(4, (eI (0 : Int)))] ?_
    refine bJ ?_
    obtain rfl := oI h0
    exact aI (aR (Q_r hO))
  refine bO ?_
  refine bH [(0, (eL aK a0)), (3, (.rp (eL aK b1)))] ?_
  refine aS aD 6 [] [(5, (eI (if (lN b1) < (lN a0) then (lN b1) else (lN a0))))] ?_
  refine aO ?_
  refine fN (fK []) aD 7 ?_
  obtain ⟨c8, h0⟩ := aU h0
  refine cB 4 [0 ≤ (if (lN b1) < (lN a0) then (lN b1) else (lN a0)) ∧ (if (lN b1) < (lN a0) then (lN b1) else (lN a0)) ≤ (lN a0)] ⟨c8, trivial⟩ ?_
  obtain ⟨x9, hx10, h0⟩ := aV h0
  refine WY (L' := fun lo11 => [(lo11, 1, [(eI x9.1)])]) 1 [(eI x9.1)] 101 [(.rp (eL aK b1))] (fun lo11 => (.fn (.func 102) [] [(.lp lo11 0 0), (.rp (eL aK x9.2))])) (by kernel_rfl) (by kernel_rfl) (EE b1 _ hx10) hO (fun _ => by kernel_rfl) ?_
  intro lo11 H hO
  obtain ⟨x12, hx13, h0⟩ := aV h0
  refine XK (fun st G' => G' = up [(lo11, 1, [(eI st)])] ++ []) [(lo11, 1, [(eI x12.1)])] x9.1 x12.1 100 [(.sl false (Int.toNat (if (lN b1) < (lN a0) then (lN b1) else (lN a0))) (fun i => aK (List.getD a0 i default))), (.fn (.func 102) [] [(.lp lo11 0 0), (.rp (eL aK x9.2))])] (eI x12.2) (by kernel_rfl) (by kernel_rfl) (wE.sub (as0' := [(eL aK (List.take (Int.toNat (if (lN b1) < (lN a0) then (lN b1) else (lN a0))) a0)), (.fn (.func 102) [] [(.lp lo11 0 0), (.rp (eL aK x9.2))])]) (qI _ (List.take (Int.toNat (if (lN b1) < (lN a0) then (lN b1) else (lN a0))) a0) (.fn (.func 102) [] [(.lp lo11 0 0), (.rp (eL aK x9.2))]) (fun st y0 => (jF y0 st x9.2).bind fun o => some (o.2, o.1)) (fun st y0 st2 rr hr => (CH y0 lo11 st x9.2 _ (aAf hr)).toV (ys := []) (zs := [(aK y0)]) (cs := [(.lp lo11 0 0), (.rp (eL aK x9.2))]) (fun Gx hG => ⟨up [], up [] ++ [], hG, rfl⟩)) _ _ hx13) ⟨OF (Int.toNat_le.2 (And.right c8)), aN.refl _, trivial⟩) hO rfl (fun _ h => h) ?_
  intro H hO
  refine jS ?_
  replace hO := hO.pick (L' := []) [] (by decide) (by kernel_rfl)
  refine bX [5] [(6, (eI x12.2))] ?_
  refine aO ?_
  refine aS aD 2 [] [(27, (aF (decide (x12.2 < (0 : Int)))))] ?_
  refine bN h0 (fun h0 => ?_) (fun h0 => ?_)
  · refine aO ?_
    refine aT aD 6 ?_
    refine bR 4 ?_
    obtain ⟨x15, hx16, h0⟩ := aV h0
    refine dU (CK (lN a0) (lN b1) _ hx16) hO ?_
    intro H hO
    refine bE ?_
    refine bH [(4, (eI x15))] ?_
    refine bJ ?_
    obtain rfl := oI h0
    exact aI (aR (Q_r hO))
  refine bO ?_
  refine bH [(0, (eL aK a0)), (3, (.rp (eL aK b1))), (6, (eI x12.2))] ?_
  refine aO ?_
  refine fN (fK [36, 37, 40, 41]) aD 10 ?_
  obtain ⟨c18, h0⟩ := aU h0
  obtain ⟨c19, h0⟩ := aU h0
  refine cB 8 [0 ≤ x12.2 ∧ x12.2 < (lN a0), 0 ≤ x12.2 ∧ x12.2 < (lN b1)] ⟨c18, c19, trivial⟩ ?_
  obtain ⟨x20, hx21, h0⟩ := aV h0
  refine DB (FT (gD a0 x12.2) (gD b1 x12.2) _ hx21) hO ?_
  intro H hO
  refine jS ?_
  refine bH [(4, (eI x20))] ?_
  refine bJ ?_
  obtain rfl := oI h0
  exact aI (Q_r hO)

theorem CS (l0 : (List aE)) (holds1_f : Nat) (holds1_a holds1_c : List V) (rC : (List aC) → Option Bool) (holds1_h : ∀ a0 r, rC a0 = some r → dI Try.prog holds1_f (holds1_a ++ [(eL aP a0)] ++ holds1_c) (aF r)) (r : Bool) (h0 : qC l0 rC = some r) : dI Try.prog 56 [(eL aG l0), (.fn (.func holds1_f) holds1_a holds1_c)] (aF r) := by
  intro H0
  refine CC aD Try.func56 (by kernel_rfl) (by kernel_rfl) (by kernel_rfl) ?_
  have hO := aL.start H0
  unfold qC at h0
  refine aO ?_
  refine aT aD 2 ?_
  refine pP 1 (.fn (.func holds1_f) holds1_a holds1_c) (by kernel_rfl) (by kernel_rfl) ?_
  refine oZ 1 (aF false) (by kernel_rfl) (by kernel_rfl) hO ?_
  intro lo1 H hO
  refine fM ?_
  refine bX [1] [(3, (.rp (.fn (.func holds1_f) holds1_a holds1_c))), (4, (.lp lo1 0 0))] ?_
  refine aO ?_
  refine aS aD 3 [] [(11, (aF (decide ((4096 : Int) < (lN l0)))))] ?_
  refine bN h0 (fun h0 => ?_) (fun h0 => ?_)
  · refine aO ?_
    refine aT aD 1 ?_
    refine lT 0 lo1 1 0 (aF false) (aF false) [(aF false)] [(lo1, 1, [(aF false)])] hO rfl (by kernel_rfl) ?_
    intro H hO
    refine fM ?_
    refine bH [(4, (.lp lo1 0 0))] ?_
    refine bJ ?_
    obtain rfl := oI h0
    exact aI (aR (QM0 (.inr rfl) (rs := [.cell 4 4]) (xs := [(aF false)]) (x := (aF false)) (by kernel_rfl) (tD (lo := lo1) (k := 1) (y := (aF false)) (x := (aF false)) 0 hO (by kernel_rfl) (by kernel_rfl) (by kernel_rfl) (by kernel_rfl) xF) (by kernel_rfl) ⟨rfl, hO.out⟩))
  refine bO ?_
  refine bH [(0, (eL aG l0)), (3, (.rp (.fn (.func holds1_f) holds1_a holds1_c))), (4, (.lp lo1 0 0))] ?_
  refine aO ?_
  refine aT aD 1 ?_
  refine rH 1 (.sl true 0 (fun _ => .bad)) (eL aK ([])) (by kernel_rfl) (by kernel_rfl) (by kernel_rfl) (kH) (by kernel_rfl) (by kernel_rfl) hO ?_
  intro lo3 H hO
  refine fM ?_
  refine bX [] [(5, (.lp lo3 0 0))] ?_
  refine aO ?_
  refine aT aD 2 ?_
  refine oZ 1 (aF false) (by kernel_rfl) (by kernel_rfl) hO ?_
  intro lo4 H hO
  refine lT 2 lo4 1 0 (aF false) (aF false) [(aF false)] [(lo1, 1, [(aF false)]), (lo3, 1, [(eL aK ([]))]), (lo4, 1, [(aF false)])] hO rfl (by kernel_rfl) ?_
  intro H hO
  refine fM ?_
  refine bX [] [(6, (.lp lo4 0 0))] ?_
  refine aO ?_
  refine aO ?_
  refine aT aD 2 ?_
  refine bR 1 ?_
  obtain ⟨x5, hx6, h0⟩ := aV h0
  refine dU (CO l0 _ hx6) hO ?_
  intro H hO
  refine fM ?_
  refine bX [0] [(13, (.fn (.func 91) [] [(.rp (eL aG x5))]))] ?_
  refine cG 0 ?_
  refine gR [(3, (.rp (.fn (.func holds1_f) holds1_a holds1_c))), (4, (.lp lo1 0 0)), (5, (.lp lo3 0 0)), (6, (.lp lo4 0 0)), (13, (.fn (.func 91) [] [(.rp (eL aG x5))]))] ?_
  refine fG (fun T H => ∃ t4 : Bool, ∃ mY : (List aB), ∃ jP : Bool, ∃ kJ : (List aE), Has T [(3, (.rp (.fn (.func holds1_f) holds1_a holds1_c))), (4, (.lp lo1 0 0)), (5, (.lp lo3 0 0)), (6, (.lp lo4 0 0)), (13, (.fn (.func 91) [] [(.rp (eL aG kJ))]))] ∧ aL ⟨H0, [], []⟩ H [(lo1, 1, [(aF t4)]), (lo3, 1, [(eL aK mY)]), (lo4, 1, [(aF jP)])] ∧ tM rC t4 mY jP kJ = some r) ?_ ⟨false, [], false, x5, .eq (by kernel_rfl), hO, h0⟩
  clear hO h0
  rintro T H ⟨t4, mY, jP, kJ, hT, hO, h0⟩
  refine bF (l := [(3, (.rp (.fn (.func holds1_f) holds1_a holds1_c))), (4, (.lp lo1 0 0)), (5, (.lp lo3 0 0)), (6, (.lp lo4 0 0)), (13, (.fn (.func 91) [] [(.rp (eL aG kJ))]))]) hT ?_
  clear hT
  unfold tM at h0
  obtain ⟨o0, hl0, h0⟩ := aV h0
  refine zE (fid := 91) (ys := []) (cs := [(.rp (eL aG kJ))]) #[14, 15] (fun (A : wJ) (b lL : Nat) (st : (Bool × (List aB) × Bool) ⊕ (Bool × (List aB) × Bool)) (G' : Gs) => Sum.elim (fun (s : Bool × (List aB) × Bool) => G' = (lL, .raw (kT b A .ready none)) :: (up [(lo1, 1, [(aF s.1)]), (lo3, 1, [(eL aK s.2.1)]), (lo4, 1, [(aF s.2.2)])] ++ [])) (fun (s : Bool × (List aB) × Bool) => G' = (lL, .raw (kT b A .done (some .ret))) :: (up [(lo1, 1, [(aF s.1)]), (lo3, 1, [(eL aK s.2.1)]), (lo4, 1, [(aF s.2.2)])] ++ [])) st) (.inl (t4, mY, jP)) o0 (.tup []) (by kernel_rfl) (by kernel_rfl) (by kernel_rfl) hO (fun _ _ => rfl) ?_ ?_
  · intro b lL
    clear hO h0
    refine xT _ b (fun st t14 t15 => rnd (fun (s : Bool × (List aB) × Bool) => nK rC kJ s.1 s.2.1 s.2.2 t14 t15) st) ?_ kJ _ _ hl0
    intro st t14 t15 out1 rr hr
    obtain ⟨s, rfl, h1, rfl⟩ := PL hr
    clear hr
    intro Hr Gr hi hg
    obtain ⟨t4, mY, jP⟩ := s
    dsimp only [Sum.elim_inl] at hi
    obtain rfl := hi
    replace h1 : nK rC kJ t4 mY jP t14 t15 = some out1 := h1
    unfold nK at h1
    obtain ⟨E1, hE, hO⟩ := uZ hg
    refine vB (zZ (hO.gm 0 _ rfl).2 (by kernel_rfl) (by kernel_rfl) ?_)
    refine gR [(3, (.rp (.fn (.func holds1_f) holds1_a holds1_c))), (4, (.lp lo1 0 0)), (5, (.lp lo3 0 0)), (6, (.lp lo4 0 0)), (13, (.fn (.func 91) [] [(.rp (eL aG kJ))])), (14, (eL aK t14)), (15, (eL aP t15))] ?_
    refine aS aD 1 [13, 14] [(7, (eL aK t14))] ?_
    refine aT aD 1 ?_
    refine bE ?_
    refine gK [(3, (.rp (.fn (.func holds1_f) holds1_a holds1_c))), (4, (.lp lo1 0 0)), (5, (.lp lo3 0 0)), (6, (.lp lo4 0 0)), (7, (eL aK t14)), (8, (eL aP t15))] ?_
    refine aI (⟨rfl, rfl, (hO.gm 0 _ rfl).2, ?_⟩)
    intro o1 ho1
    replace hO := hO.vT o1
    refine cG 1 ?_
    refine aO ?_
    refine aO ?_
    refine aT aD 18 ?_
    refine bR 1 ?_
    obtain ⟨x7, hx8, h1⟩ := aV h1
    refine dU (BP t14 _ hx8) hO ?_
    intro H hO
    refine bR 4 ?_
    refine qB [(19, false)] 2 lo4 1 0 (aF jP) (aF jP) [(aF jP)] (by kernel_rfl) (by kernel_rfl) hO (by kernel_rfl) (!(!x7)) (by kernel_rfl) (fun hb10 => rfl) ?_
    refine bR 6 ?_
    refine qB [(21, true), (19, false)] 1 lo3 1 0 (eL aK mY) (eL aK mY) [(eL aK mY)] (by kernel_rfl) (by kernel_rfl) hO (by kernel_rfl) (jP && (!(!x7))) (by kernel_rfl) (fun hb11 => rfl) ?_
    refine bR 8 ?_
    obtain ⟨x12, hx13, h1⟩ := aV h1
    refine nY [(21, true), (19, false)] 77 [(eL aK mY), (eL aK t14)] (eI x12) (jP && (!(!x7))) (by kernel_rfl) (by kernel_rfl) (by kernel_rfl) (fun hb14 => (IX mY t14 _ (kA hx13 hb14))) hO ?_
    intro H hO
    refine bR 15 ?_
    obtain ⟨x15, hx16, h1⟩ := aV h1
    refine nY [(28, false)] holds1_f (holds1_a ++ [(eL aP t15)] ++ holds1_c) (aF x15) (!((!x7) || (jP && (decide ((0 : Int) ≤ x12))))) (by kernel_rfl) (by kernel_rfl) (by kernel_rfl) (fun hb17 => (holds1_h t15 _ (kA hx16 hb17))) hO ?_
    intro H hO
    refine bE ?_
    refine bX [3, 8] [(33, (aF (((!x7) || (jP && (decide ((0 : Int) ≤ x12)))) || (!x15))))] ?_
    refine bN h1 (fun h1 => ?_) (fun h1 => ?_)
    · refine aO ?_
      refine aT aD 1 ?_
      refine lT 0 lo1 1 0 (aF t4) (aF false) [(aF t4)] [(lo1, 1, [(aF false)]), (lo3, 1, [(eL aK mY)]), (lo4, 1, [(aF jP)])] hO rfl (by kernel_rfl) ?_
      intro H hO
      refine fM ?_
      refine bX [7, 33] [] ?_
      refine bJ ?_
      refine gK [(4, (.lp lo1 0 0)), (5, (.lp lo3 0 0)), (6, (.lp lo4 0 0))] ?_
      obtain rfl := oI h1
      exact aI (aR (bM (⟨(iK hO hE ho1 .dead).1, rfl, _, rfl, (iK hO hE ho1 _).2⟩)))
    refine bO ?_
    refine bH [(4, (.lp lo1 0 0)), (5, (.lp lo3 0 0)), (6, (.lp lo4 0 0)), (7, (eL aK t14))] ?_
    refine aT aD 3 ?_
    refine bR 1 ?_
    refine lT 1 lo3 1 0 (eL aK mY) (eL aK t14) [(eL aK mY)] [(lo1, 1, [(aF t4)]), (lo3, 1, [(eL aK t14)]), (lo4, 1, [(aF jP)])] hO rfl (by kernel_rfl) ?_
    intro H hO
    refine lT 2 lo4 1 0 (aF jP) (aF true) [(aF jP)] [(lo1, 1, [(aF t4)]), (lo3, 1, [(eL aK t14)]), (lo4, 1, [(aF true)])] hO rfl (by kernel_rfl) ?_
    intro H hO
    refine fM ?_
    refine gK [(4, (.lp lo1 0 0)), (5, (.lp lo3 0 0)), (6, (.lp lo4 0 0))] ?_
    obtain rfl := oI h1
    exact aI (aY (⟨(iK hO hE ho1 .dead).1, rfl, _, rfl, (iK hO hE ho1 _).2⟩))
  · intro b lD19 lL H' G' hi hO
    rcases o0 with s | s
    · dsimp only [Sum.elim_inl] at hi
      obtain rfl := hi
      replace h0 : (some true) = some r := h0
      obtain ⟨hlL, hO⟩ := rW hO
      refine ⟨_, _, hlL, (by intro e; cases e), ?_⟩
      refine gK [(4, (.lp lo1 0 0))] ?_
      replace hO := hO.pick (L' := [(lo1, 1, [(aF s.1)])]) [0] (by decide) (by kernel_rfl)
      refine aI (aY (aH (?_)))
      refine aO ?_
      refine aT aD 1 ?_
      refine lT 0 lo1 1 0 (aF s.1) (aF true) [(aF s.1)] [(lo1, 1, [(aF true)])] hO rfl (by kernel_rfl) ?_
      intro H hO
      refine fM ?_
      refine bH [(4, (.lp lo1 0 0))] ?_
      refine bJ ?_
      obtain rfl := oI h0
      have hD := (hO.gm 0 _ rfl).2
      replace hO := (hO.vT .dead).wA
      exact aI (QM1 (.inr rfl) hD (rs := [.cell 4 4]) (xs := [(aF true)]) (x := (aF true)) (by kernel_rfl) (tD (lo := lo1) (k := 1) (y := (aF true)) (x := (aF true)) 0 hO (by kernel_rfl) (by kernel_rfl) (by kernel_rfl) (by kernel_rfl) xF) (by kernel_rfl) ⟨rfl, hO.out⟩)
    · dsimp only [Sum.elim_inr] at hi
      obtain rfl := hi
      replace h0 : (some s.1) = some r := h0
      obtain ⟨hlL, hO⟩ := rW hO
      refine ⟨_, _, hlL, (by intro e; cases e), ?_⟩
      refine bJ ?_
      replace hO := hO.pick (L' := [(lo1, 1, [(aF s.1)])]) [0] (by decide) (by kernel_rfl)
      obtain rfl := oI h0
      have hD := (hO.gm 0 _ rfl).2
      replace hO := (hO.vT .dead).wA
      exact aI (bM (aR (QM1 (.inr rfl) hD (rs := [.cell 4 4]) (xs := [(aF s.1)]) (x := (aF s.1)) (by kernel_rfl) (tD (lo := lo1) (k := 1) (y := (aF s.1)) (x := (aF s.1)) 0 hO (by kernel_rfl) (by kernel_rfl) (by kernel_rfl) (by kernel_rfl) xF) (by kernel_rfl) ⟨rfl, hO.out⟩)))

theorem ML (n0 : Int) (r : Bool) (h0 : uR n0 = some r) : dI Try.prog 78 [(eI n0)] (aF r) := by
  intro H0
  refine dG Try.func78 ?_
  have hO := aL.start H0
  unfold uR at h0
  refine aS aD 1 [] [] ?_
  refine cH aD 7 [(2, (aF ((decide (n0 ≤ (1048576 : Int))) && (decide ((-1048576 : Int) ≤ n0)))))] ?_
  refine bJ ?_
  obtain rfl := oI h0
  exact aI (Q_r hO)

theorem tJ (f0 : (List aC)) (r : Bool) (h0 : mK f0 = some r) : dI Try.prog 57 [(eL aP f0)] (aF r) := by
  intro H0
  refine dG Try.func57 ?_
  have hO := aL.start H0
  unfold mK at h0
  refine aS aD 1 [] [] ?_
  refine aO ?_
  refine aS aD 3 [] [(8, (aF (decide ((1024 : Int) < (lN f0)))))] ?_
  refine bN h0 (fun h0 => ?_) (fun h0 => ?_)
  · refine cH aD 1 [(2, (aF false))] ?_
    refine bJ ?_
    obtain rfl := oI h0
    exact aI (aR (Q_r hO))
  refine bO ?_
  refine bH [(0, (eL aP f0))] ?_
  refine aS aD 1 [] [(3, (eI (-2 : Int)))] ?_
  refine iA (fun T H => Has T [] ∧ aL ⟨H0, [], []⟩ H [] ∧ sI  = some r) ?_ ?_
  · clear hO h0
    rintro T H ⟨hT, hO, h0⟩
    refine bF hT ?_
    clear hT
    unfold sI at h0
    refine cH aD 1 [(2, (aF true))] ?_
    refine bJ ?_
    obtain rfl := oI h0
    exact aI (Q_r hO)
  refine aS aD 3 [0] [(9, (eL aP f0)), (10, (eI (lN f0))), (11, (eI (0 : Int)))] ?_
  refine cG 0 ?_
  refine gR [(3, (eI (-2 : Int))), (9, (eL aP f0)), (10, (eI (lN f0))), (11, (eI (0 : Int)))] ?_
  refine fG (fun T H => ∃ oK : Int, ∃ t9 : (List aC), ∃ t10 : Int, ∃ t11 : Int, Has T [(3, (eI oK)), (9, (eL aP t9)), (10, (eI t10)), (11, (eI t11))] ∧ aL ⟨H0, [], []⟩ H [] ∧ uT oK t9 t10 t11 = some r) ?_ ⟨(-2 : Int), f0, (lN f0), (0 : Int), .eq (by kernel_rfl), hO, h0⟩
  clear hO h0
  rintro T H ⟨oK, t9, t10, t11, hT, hO, h0⟩
  refine bF hT ?_
  clear hT
  unfold uT at h0
  obtain ⟨rr0, hl0, h0⟩ := aV h0
  refine dN (by kernel_rfl) (fun (s : Int × Int) T H => Has T [(3, (eI s.1)), (9, (eL aP t9)), (10, (eI t10)), (11, (eI s.2))] ∧ aL ⟨H0, [], []⟩ H []) hl0 ⟨.eq (by kernel_rfl), hO⟩ ?_
  clear hO
  rintro k0 s out1 T H ⟨hT, hO⟩ h1 ho0
  obtain ⟨oK, t11⟩ := s
  replace h1 : lF t9 t10 oK t11 = some out1 := h1
  try dsimp only at hT
  refine bF hT ?_
  clear hT
  unfold lF at h1
  refine aS aD 1 [] [(12, (aF (decide (t11 < t10))))] ?_
  refine aO ?_
  refine bN h1 (fun h1 => ?_) (fun h1 => ?_)
  · refine bO ?_
    refine bH [(3, (eI oK)), (9, (eL aP t9)), (10, (eI t10)), (11, (eI t11))] ?_
    refine aO ?_
    refine cG 1 ?_
    refine aO ?_
    refine aT aD 4 ?_
    obtain ⟨c3, h1⟩ := aU h1
    refine uC 2 [0 ≤ t11 ∧ t11 < (lN t9)] ⟨c3, trivial⟩ ?_
    refine oZ 2 (aP (aC.mk 0 0)) (by kernel_rfl) (by kernel_rfl) hO ?_
    intro lo4 H hO
    refine lT 0 lo4 2 0 (aP (aC.mk 0 0)) (aP (gD t9 t11)) [(aP (aC.mk 0 0))] [(lo4, 2, [(aP (gD t9 t11))])] hO rfl (by kernel_rfl) ?_
    intro H hO
    refine fM ?_
    refine bX [] [(5, (.lp lo4 0 0))] ?_
    refine aO ?_
    refine aO ?_
    refine aT aD 20 ?_
    refine bR 1 ?_
    refine oT 0 lo4 2 0 (aP (gD t9 t11)) (eI ((gD t9 t11).At)) [(aP (gD t9 t11))] hO rfl ?_
    refine bR 6 ?_
    refine qB [(19, false)] 0 lo4 2 0 (aP (gD t9 t11)) (eI ((gD t9 t11).At)) [(aP (gD t9 t11))] (by kernel_rfl) (by kernel_rfl) hO (by kernel_rfl) (!(decide (((gD t9 t11).At) ≤ oK))) (by kernel_rfl) (fun hb5 => rfl) ?_
    refine bR 11 ?_
    refine qB [(24, false)] 0 lo4 2 0 (aP (gD t9 t11)) (eI ((gD t9 t11).Net)) [(aP (gD t9 t11))] (by kernel_rfl) (by kernel_rfl) hO (by kernel_rfl) (!((decide (((gD t9 t11).At) ≤ oK)) || (decide ((1125899906842624 : Int) ≤ ((gD t9 t11).At))))) (by kernel_rfl) (fun hb6 => rfl) ?_
    refine bR 16 ?_
    refine qB [(29, false)] 0 lo4 2 0 (aP (gD t9 t11)) (eI ((gD t9 t11).Net)) [(aP (gD t9 t11))] (by kernel_rfl) (by kernel_rfl) hO (by kernel_rfl) (!(((decide (((gD t9 t11).At) ≤ oK)) || (decide ((1125899906842624 : Int) ≤ ((gD t9 t11).At)))) || (decide (((gD t9 t11).Net) = (0 : Int))))) (by kernel_rfl) (fun hb7 => rfl) ?_
    obtain ⟨x8, hx9, h1⟩ := aV h1
    refine nY [(29, false)] 78 [(eI ((gD t9 t11).Net))] (aF x8) (!(((decide (((gD t9 t11).At) ≤ oK)) || (decide ((1125899906842624 : Int) ≤ ((gD t9 t11).At)))) || (decide (((gD t9 t11).Net) = (0 : Int))))) (by kernel_rfl) (by kernel_rfl) (by kernel_rfl) (fun hb10 => (ML ((gD t9 t11).Net) _ (kA hx9 hb10))) hO ?_
    intro H hO
    refine bE ?_
    refine bX [3] [(34, (aF ((((decide (((gD t9 t11).At) ≤ oK)) || (decide ((1125899906842624 : Int) ≤ ((gD t9 t11).At)))) || (decide (((gD t9 t11).Net) = (0 : Int)))) || (!x8))))] ?_
    refine bN h1 (fun h1 => ?_) (fun h1 => ?_)
    · refine aO ?_
      refine aT aD 1 ?_
      refine bE ?_
      refine gK [(2, (aF false))] ?_
      replace hO := hO.pick (L' := []) [] (by decide) (by kernel_rfl)
      refine aI (aH (?_))
      refine bJ ?_
      obtain rfl := oI h1
      obtain rfl : _ = rr0 := ho0
      replace h0 : some false = some r := h0
      obtain rfl := oI h0
      exact aI (aR (bM (aR (aR (bM (aR (Q_r hO)))))))
    refine bO ?_
    refine bH [(5, (.lp lo4 0 0)), (9, (eL aP t9)), (10, (eI t10)), (11, (eI t11))] ?_
    refine aT aD 3 ?_
    refine bR 1 ?_
    refine oT 0 lo4 2 0 (aP (gD t9 t11)) (eI ((gD t9 t11).At)) [(aP (gD t9 t11))] hO rfl ?_
    refine bE ?_
    refine gK [(3, (eI ((gD t9 t11).At))), (9, (eL aP t9)), (10, (eI t10)), (11, (eI t11))] ?_
    replace hO := hO.pick (L' := []) [] (by decide) (by kernel_rfl)
    refine aI (aY (aH (?_)))
    refine aT aD 2 ?_
    refine bE ?_
    exact aI (aH (⟨rfl, _, (oI h1).symm, .eq (by kernel_rfl), hO⟩))
  refine iP 0 ?_
  obtain rfl := oI h1
  obtain rfl : _ = rr0 := ho0
  replace h0 : sI  = some r := h0
  exact aI (aW (aW (cC (aH (⟨rfl, .eq (by kernel_rfl), hO, h0⟩)))))

theorem EF (l0 : (List aE)) (r : Bool) (h0 : rQ l0 = some r) : dI Try.prog 31 [(eL aG l0)] (aF r) := by
  intro H0
  refine dG Try.func31 ?_
  have hO := aL.start H0
  unfold rQ at h0
  refine aS aD 1 [] [] ?_
  refine aO ?_
  refine aT aD 3 ?_
  refine bR 1 ?_
  obtain ⟨x1, hx2, h0⟩ := aV h0
  refine dU (CS l0 57 [] [] (fun y0 => mK y0) (fun y0 r h => tJ y0 r h) _ hx2) hO ?_
  intro H hO
  refine bE ?_
  refine bH [(2, (aF x1))] ?_
  refine bJ ?_
  obtain rfl := oI h0
  exact aI (Q_r hO)

theorem LY (f0 : (List aC)) (r : Int) (h0 : qW f0 = some r) : dI Try.prog 59 [(eL aP f0)] (eI r) := by
  intro H0
  refine dG Try.func59 ?_
  have hO := aL.start H0
  unfold qW at h0
  refine aS aD 1 [] [] ?_
  refine aO ?_
  refine aO ?_
  refine aT aD 8 ?_
  refine bR 1 ?_
  obtain ⟨x1, hx2, h0⟩ := aV h0
  refine dU (tJ f0 _ hx2) hO ?_
  intro H hO
  refine bE ?_
  refine bX [] [(14, (aF ((!x1) || (decide ((lN f0) = (0 : Int))))))] ?_
  refine bN h0 (fun h0 => ?_) (fun h0 => ?_)
  · refine cH aD 1 [(2, (eI (0 : Int)))] ?_
    refine bJ ?_
    obtain rfl := oI h0
    exact aI (aR (Q_r hO))
  refine bO ?_
  refine bH [(0, (eL aP f0))] ?_
  refine aS aD 2 [] [(3, (eI (0 : Int))), (4, (eI (0 : Int)))] ?_
  refine iA (fun T H => ∃ v3 : Int, ∃ gT : Int, Has T [(0, (eL aP f0)), (3, (eI v3)), (4, (eI gT))] ∧ aL ⟨H0, [], []⟩ H [] ∧ nV f0 v3 gT = some r) ?_ ?_
  · clear hO h0
    rintro T H ⟨v3, gT, hT, hO, h0⟩
    refine bF hT ?_
    clear hT
    unfold nV at h0
    refine iA (fun T H => ∃ gT : Int, Has T [(4, (eI gT))] ∧ aL ⟨H0, [], []⟩ H [] ∧ pS gT = some r) ?_ ?_
    · clear hO h0
      rintro T H ⟨gT, hT, hO, h0⟩
      refine bF hT ?_
      clear hT
      unfold pS at h0
      refine cH aD 2 [(2, (eI gT))] ?_
      refine bJ ?_
      obtain rfl := oI h0
      exact aI (Q_r hO)
    refine aS aD 3 [0] [(24, (eL aP f0)), (25, (eI (lN f0))), (26, (eI (0 : Int)))] ?_
    refine cG 0 ?_
    refine gR [(3, (eI v3)), (4, (eI gT)), (24, (eL aP f0)), (25, (eI (lN f0))), (26, (eI (0 : Int)))] ?_
    refine fG (fun T H => ∃ v3 : Int, ∃ gT : Int, ∃ t24 : (List aC), ∃ t25 : Int, ∃ t26 : Int, Has T [(3, (eI v3)), (4, (eI gT)), (24, (eL aP t24)), (25, (eI t25)), (26, (eI t26))] ∧ aL ⟨H0, [], []⟩ H [] ∧ pZ v3 gT t24 t25 t26 = some r) ?_ ⟨v3, gT, f0, (lN f0), (0 : Int), .eq (by kernel_rfl), hO, h0⟩
    clear hO h0
    rintro T H ⟨v3, gT, t24, t25, t26, hT, hO, h0⟩
    refine bF hT ?_
    clear hT
    unfold pZ at h0
    obtain ⟨rr0, hl0, h0⟩ := aV h0
    refine dN (by kernel_rfl) (fun (s : Int × Int × Int) T H => Has T [(3, (eI s.1)), (4, (eI s.2.1)), (24, (eL aP t24)), (25, (eI t25)), (26, (eI s.2.2))] ∧ aL ⟨H0, [], []⟩ H []) hl0 ⟨.eq (by kernel_rfl), hO⟩ ?_
    clear hO
    rintro k0 s out1 T H ⟨hT, hO⟩ h1 ho0
    obtain ⟨v3, gT, t26⟩ := s
    replace h1 : lS t24 t25 v3 gT t26 = some out1 := h1
    try dsimp only at hT
    refine bF hT ?_
    clear hT
    unfold lS at h1
    refine aS aD 1 [] [(27, (aF (decide (t26 < t25))))] ?_
    refine aO ?_
    refine bN h1 (fun h1 => ?_) (fun h1 => ?_)
    · refine bO ?_
      refine bH [(3, (eI v3)), (4, (eI gT)), (24, (eL aP t24)), (25, (eI t25)), (26, (eI t26))] ?_
      refine aO ?_
      refine cG 1 ?_
      refine aO ?_
      refine aT aD 4 ?_
      obtain ⟨c6, h1⟩ := aU h1
      refine uC 2 [0 ≤ t26 ∧ t26 < (lN t24)] ⟨c6, trivial⟩ ?_
      refine oZ 2 (aP (aC.mk 0 0)) (by kernel_rfl) (by kernel_rfl) hO ?_
      intro lo7 H hO
      refine lT 0 lo7 2 0 (aP (aC.mk 0 0)) (aP (gD t24 t26)) [(aP (aC.mk 0 0))] [(lo7, 2, [(aP (gD t24 t26))])] hO rfl (by kernel_rfl) ?_
      intro H hO
      refine fM ?_
      refine bX [] [(6, (.lp lo7 0 0))] ?_
      refine aO ?_
      refine aT aD 5 ?_
      refine bR 2 ?_
      refine oT 0 lo7 2 0 (aP (gD t24 t26)) (eI ((gD t24 t26).Net)) [(aP (gD t24 t26))] hO rfl ?_
      refine bE ?_
      replace hO := hO.pick (L' := []) [] (by decide) (by kernel_rfl)
      refine bX [3, 6] [(3, (eI (wR (v3 + ((gD t24 t26).Net)))))] ?_
      refine aT aD 4 ?_
      refine bE ?_
      refine gK [(3, (eI (wR (v3 + ((gD t24 t26).Net))))), (4, (eI (if (wR (v3 + ((gD t24 t26).Net))) < gT then (wR (v3 + ((gD t24 t26).Net))) else gT))), (24, (eL aP t24)), (25, (eI t25)), (26, (eI t26))] ?_
      refine aI (aY (aH (?_)))
      refine aT aD 2 ?_
      refine bE ?_
      exact aI (aH (⟨rfl, _, (oI h1).symm, .eq (by kernel_rfl), hO⟩))
    refine iP 0 ?_
    obtain rfl := oI h1
    obtain rfl : _ = rr0 := ho0
    replace h0 : pS gT = some r := h0
    exact aI (aW (aW (cC (aH (⟨rfl, _, .eq (by kernel_rfl), hO, h0⟩)))))
  refine aO ?_
  refine aT aD 5 ?_
  obtain ⟨c8, h0⟩ := aU h0
  refine mX [0 ≤ (0 : Int) ∧ (0 : Int) < (lN f0)] ⟨c8, trivial⟩ ?_
  refine bX [] [(19, (aF (decide (((gD f0 (0 : Int)).At) = (-1 : Int)))))] ?_
  refine bN h0 (fun h0 => ?_) (fun h0 => ?_)
  · refine aT aD 5 ?_
    obtain ⟨c10, h0⟩ := aU h0
    refine mX [0 ≤ (0 : Int) ∧ (0 : Int) < (lN f0)] ⟨c10, trivial⟩ ?_
    exact aI (aH (⟨rfl, _, _, .eq (by kernel_rfl), hO, h0⟩))
  refine bO ?_
  exact aI (aH (⟨rfl, _, _, .eq (by kernel_rfl), hO, h0⟩))

theorem FX (f0 : (List aC)) (r : Bool) (h0 : oM f0 = some r) : dI Try.prog 58 [(eL aP f0)] (aF r) := by
  intro H0
  refine dG Try.func58 ?_
  have hO := aL.start H0
  unfold oM at h0
  refine aS aD 1 [] [] ?_
  refine aO ?_
  refine aT aD 8 ?_
  refine bR 1 ?_
  obtain ⟨x1, hx2, h0⟩ := aV h0
  refine dU (tJ f0 _ hx2) hO ?_
  intro H hO
  refine bR 4 ?_
  obtain ⟨x4, hx5, h0⟩ := aV h0
  refine nY [(5, true)] 59 [(eL aP f0)] (eI x4) x1 (by kernel_rfl) (by kernel_rfl) (by kernel_rfl) (fun hb6 => (LY f0 _ (kA hx5 hb6))) hO ?_
  intro H hO
  refine bE ?_
  refine bH [(2, (aF (x1 && (decide ((0 : Int) ≤ x4)))))] ?_
  refine bJ ?_
  obtain rfl := oI h0
  exact aI (Q_r hO)

theorem KY (l0 : (List aE)) (r : Bool) (h0 : qX l0 = some r) : dI Try.prog 32 [(eL aG l0)] (aF r) := by
  intro H0
  refine dG Try.func32 ?_
  have hO := aL.start H0
  unfold qX at h0
  refine aS aD 1 [] [] ?_
  refine aO ?_
  refine aT aD 3 ?_
  refine bR 1 ?_
  obtain ⟨x1, hx2, h0⟩ := aV h0
  refine dU (CS l0 58 [] [] (fun y0 => oM y0) (fun y0 r h => FX y0 r h) _ hx2) hO ?_
  intro H hO
  refine bE ?_
  refine bH [(2, (aF x1))] ?_
  refine bJ ?_
  obtain rfl := oI h0
  exact aI (Q_r hO)

theorem xD (l0 : (List aE)) (n1 : Int) (r : Int) (h0 : nF l0 n1 = some r) : dI Try.prog 46 [(eL aG l0), (eI n1)] (eI r) := by
  intro H0
  refine dG Try.func46 ?_
  have hO := aL.start H0
  unfold nF at h0
  refine aS aD 1 [] [] ?_
  refine aO ?_
  refine cG 0 ?_
  refine aO ?_
  refine aT aD 12 ?_
  refine bR 1 ?_
  obtain ⟨x1, hx2, h0⟩ := aV h0
  refine dU (EF l0 _ hx2) hO ?_
  intro H hO
  refine bE ?_
  refine bX [1] [(5, (aF (((!x1) || (decide (n1 < (1 : Int)))) || (decide ((64 : Int) < n1)))))] ?_
  refine bN h0 (fun h0 => ?_) (fun h0 => ?_)
  · refine cH aD 1 [(4, (eI (2 : Int)))] ?_
    refine bJ ?_
    obtain rfl := oI h0
    exact aI (bM (aR (Q_r hO)))
  refine aO ?_
  refine aT aD 4 ?_
  refine bR 1 ?_
  obtain ⟨x5, hx6, h0⟩ := aV h0
  refine dU (KY l0 _ hx6) hO ?_
  intro H hO
  refine bE ?_
  refine bH [(17, (aF (!x5)))] ?_
  refine bN h0 (fun h0 => ?_) (fun h0 => ?_)
  · refine cH aD 1 [(4, (eI (20 : Int)))] ?_
    refine bJ ?_
    obtain rfl := oI h0
    exact aI (bM (aR (Q_r hO)))
  refine bO ?_
  refine gK [] ?_
  refine aI (aY (aH (?_)))
  refine cH aD 1 [(4, (eI (0 : Int)))] ?_
  refine bJ ?_
  obtain rfl := oI h0
  exact aI (Q_r hO)

theorem yT (l0 : (List aE)) (r : (List aE)) (h0 : nC l0 = some r) : dI Try.prog 68 [(eL aG l0)] (.fn (.func 94) [] [(.rp (eL aG r))]) := by
  intro H0
  refine dG Try.func68 ?_
  have hO := aL.start H0
  unfold nC at h0
  refine aO ?_
  refine aT aD 2 ?_
  refine pP 1 (eL aG l0) (by kernel_rfl) (by kernel_rfl) ?_
  refine bE ?_
  refine bH [(1, (.rp (eL aG l0)))] ?_
  refine cH aD 2 [(2, (.fn (.func 94) [] [(.rp (eL aG l0))]))] ?_
  refine bJ ?_
  obtain rfl := oI h0
  exact aI (jY (x := (.fn (.func 94) [] [(.rp (eL aG l0))])) (by kernel_rfl) (aN.refl _) ⟨rfl, hO.out⟩)

theorem vC {σ : Type} (I : σ → Gs → Prop) (yield0_b : Nat) (gO : σ → aE → Option (σ × Bool)) (yield0_h : ∀ st a0 st2 r, gO st a0 = some (st2, r) → CD Try.prog (yv yield0_b) I st [(aG a0)] st2 (aF r)) (t1 : (List aE)) (sg0 : σ) (r : σ) (h0 : kY gO t1 sg0 = some r) : wE Try.prog 94 I sg0 [(yv yield0_b), (.rp (eL aG t1))] r (.tup []) := by
  intro H0 G0 hI hg
  refine dG Try.func94 ?_
  obtain ⟨G, hO, hI⟩ : ∃ G, aL ⟨H0, List.map (fun p : Nat × dK => p.1) G0, G⟩ H0 [] ∧ I sg0 G := ⟨G0, aL.EX hg, hI⟩
  clear hg
  unfold kY at h0
  refine aS aD 3 [1] [(5, (eL aG t1)), (6, (eI (lN t1))), (7, (eI (0 : Int)))] ?_
  refine cG 0 ?_
  refine gR [(0, (yv yield0_b)), (5, (eL aG t1)), (6, (eI (lN t1))), (7, (eI (0 : Int)))] ?_
  refine fG (fun T H => ∃ sg : σ, ∃ t5 : (List aE), ∃ t6 : Int, ∃ t7 : Int, ∃ G : Gs, Has T [(0, (yv yield0_b)), (5, (eL aG t5)), (6, (eI t6)), (7, (eI t7))] ∧ aL ⟨H0, List.map (fun p : Nat × dK => p.1) G0, G⟩ H [] ∧ I sg G ∧ nR gO sg t5 t6 t7 = some r) ?_ ⟨sg0, t1, (lN t1), (0 : Int), G, .eq (by kernel_rfl), hO, hI, h0⟩
  clear hO hI h0
  rintro T H ⟨sg, t5, t6, t7, G, hT, hO, hI, h0⟩
  refine bF hT ?_
  clear hT
  unfold nR at h0
  obtain ⟨rr0, hl0, h0⟩ := aV h0
  refine dN (by kernel_rfl) (fun (s : σ × Int) T H => ∃ G : Gs, Has T [(0, (yv yield0_b)), (5, (eL aG t5)), (6, (eI t6)), (7, (eI s.2))] ∧ aL ⟨H0, List.map (fun p : Nat × dK => p.1) G0, G⟩ H [] ∧ I s.1 G) hl0 ⟨G, .eq (by kernel_rfl), hO, hI⟩ ?_
  clear hO hI
  rintro k0 s out1 T H ⟨G, hT, hO, hI⟩ h1 ho0
  obtain ⟨sg, t7⟩ := s
  replace h1 : jG gO t5 t6 sg t7 = some out1 := h1
  try dsimp only at hT
  refine bF hT ?_
  clear hT
  unfold jG at h1
  refine aS aD 1 [] [(8, (aF (decide (t7 < t6))))] ?_
  refine aO ?_
  refine bN h1 (fun h1 => ?_) (fun h1 => ?_)
  · refine bO ?_
    refine bH [(0, (yv yield0_b)), (5, (eL aG t5)), (6, (eI t6)), (7, (eI t7))] ?_
    refine aO ?_
    refine cG 1 ?_
    refine aO ?_
    refine aT aD 4 ?_
    obtain ⟨c2, h1⟩ := aU h1
    refine uC 2 [0 ≤ t7 ∧ t7 < (lN t5)] ⟨c2, trivial⟩ ?_
    refine rH 3 (.agg [(.sl true 0 (fun _ => .bad)), (eI 0), (eI 0)]) (aG (aE.mk ([]) 0 0)) (by kernel_rfl) (by kernel_rfl) (by kernel_rfl) (AH (xs := [(.sl true 0 (fun _ => .bad)), (eI 0), (eI 0)]) (ys := [(eL aK ([])), (eI 0), (eI 0)]) ⟨kH, aN.refl _, aN.refl _, trivial⟩) (by kernel_rfl) (by kernel_rfl) hO ?_
    intro lo3 H hO
    refine lT 0 lo3 3 0 (aG (aE.mk ([]) 0 0)) (aG (gD t5 t7)) [(aG (aE.mk ([]) 0 0))] [(lo3, 3, [(aG (gD t5 t7))])] hO rfl (by kernel_rfl) ?_
    intro H hO
    refine fM ?_
    refine bX [] [(4, (.lp lo3 0 0))] ?_
    refine aO ?_
    refine aT aD 14 ?_
    refine bR 1 ?_
    refine oT 0 lo3 3 0 (aG (gD t5 t7)) (eI ((gD t5 t7).Net)) [(aG (gD t5 t7))] hO rfl ?_
    refine bR 5 ?_
    refine qB [(14, true)] 0 lo3 3 0 (aG (gD t5 t7)) (eI ((gD t5 t7).At)) [(aG (gD t5 t7))] (by kernel_rfl) (by kernel_rfl) hO (by kernel_rfl) (decide ((0 : Int) < ((gD t5 t7).Net))) (by kernel_rfl) (fun hb4 => rfl) ?_
    refine bR 10 ?_
    refine qB [(19, true)] 0 lo3 3 0 (aG (gD t5 t7)) (aG (gD t5 t7)) [(aG (gD t5 t7))] (by kernel_rfl) (by kernel_rfl) hO (by kernel_rfl) ((decide ((0 : Int) < ((gD t5 t7).Net))) && (decide ((-1 : Int) < ((gD t5 t7).At)))) (by kernel_rfl) (fun hb5 => rfl) ?_
    obtain ⟨⟨x8, x9⟩, hx7, h1⟩ := aV h1
    replace hx7 := XP hx7
    refine UZ (I := I) [(19, true)] ((decide ((0 : Int) < ((gD t5 t7).Net))) && (decide ((-1 : Int) < ((gD t5 t7).At)))) (yv yield0_b) [(aG (gD t5 t7))] (aF x9) ⟨fun hb => yield0_h _ (gD t5 t7) x8 x9 (hx7.1 hb), hx7.2⟩ hO hI ?_
    intro G H hO hI
    refine bE ?_
    replace hO := hO.pick (L' := []) [] (by decide) (by kernel_rfl)
    refine bX [4] [(24, (aF (((decide ((0 : Int) < ((gD t5 t7).Net))) && (decide ((-1 : Int) < ((gD t5 t7).At)))) && (!x9))))] ?_
    refine bN h1 (fun h1 => ?_) (fun h1 => ?_)
    · refine bJ ?_
      obtain rfl := oI h1
      obtain rfl : _ = rr0 := ho0
      replace h0 : some x8 = some r := h0
      obtain rfl := oI h0
      exact aI (bM (aR (aR (bM (jY (x := (.tup [])) (by kernel_rfl) (aN.refl _) ⟨rfl, G, hI, hO.DM⟩)))))
    refine bO ?_
    refine gK [(0, (yv yield0_b)), (5, (eL aG t5)), (6, (eI t6)), (7, (eI t7))] ?_
    refine aI (aY (aH (?_)))
    refine aT aD 2 ?_
    refine bE ?_
    exact aI (aH (⟨rfl, _, (oI h1).symm, _, .eq (by kernel_rfl), hO, hI⟩))
  refine iP 0 ?_
  obtain rfl := oI h1
  obtain rfl : _ = rr0 := ho0
  replace h0 : some sg = some r := h0
  obtain rfl := oI h0
  exact aI (aW (aW (cC (vX (x := (.tup [])) (by kernel_rfl) (aN.refl _) ⟨rfl, G, hI, hO.DM⟩))))

theorem CI (x0 : Int) (r : Int) (h0 : mT x0 = some r) : dI Try.prog 88 [(cP .u64 x0)] (eI r) := by
  intro H0
  refine dG Try.func88 ?_
  have hO := aL.start H0
  unfold mT at h0
  refine aS aD 1 [] [(2, (eI (0 : Int)))] ?_
  refine iA (fun T H => ∃ x0 : Int, ∃ n2 : Int, Has T [(0, (cP .u64 x0)), (2, (eI n2))] ∧ aL ⟨H0, [], []⟩ H [] ∧ kC x0 n2 = some r) ?_ ?_
  · clear hO h0
    rintro T H ⟨x0, n2, hT, hO, h0⟩
    refine bF hT ?_
    clear hT
    unfold kC at h0
    refine iA (fun T H => ∃ x0 : Int, ∃ n2 : Int, Has T [(0, (cP .u64 x0)), (2, (eI n2))] ∧ aL ⟨H0, [], []⟩ H [] ∧ kG x0 n2 = some r) ?_ ?_
    · clear hO h0
      rintro T H ⟨x0, n2, hT, hO, h0⟩
      refine bF hT ?_
      clear hT
      unfold kG at h0
      refine iA (fun T H => ∃ x0 : Int, ∃ n2 : Int, Has T [(0, (cP .u64 x0)), (2, (eI n2))] ∧ aL ⟨H0, [], []⟩ H [] ∧ kX x0 n2 = some r) ?_ ?_
      · clear hO h0
        rintro T H ⟨x0, n2, hT, hO, h0⟩
        refine bF hT ?_
        clear hT
        unfold kX at h0
        refine aO ?_
        refine aT aD 7 ?_
        obtain ⟨c1, h0⟩ := aU h0
        refine mX [0 ≤ (IntKind.u8.wrap x0) ∧ (IntKind.u8.wrap x0) < ((ByteArray.size (⟨#[0, 1, 2, 2, 3, 3, 3, 3, 4, 4, 4, 4, 4, 4, 4, 4, 5, 5, 5, 5, 5, 5, 5, 5, 5, 5, 5, 5, 5, 5, 5, 5, 6, 6, 6, 6, 6, 6, 6, 6, 6, 6, 6, 6, 6, 6, 6, 6, 6, 6, 6, 6, 6, 6, 6, 6, 6, 6, 6, 6, 6, 6, 6, 6, 7, 7, 7, 7, 7, 7, 7, 7, 7, 7, 7, 7, 7, 7, 7, 7, 7, 7, 7, 7, 7, 7, 7, 7, 7, 7, 7, 7, 7, 7, 7, 7, 7, 7, 7, 7, 7, 7, 7, 7, 7, 7, 7, 7, 7, 7, 7, 7, 7, 7, 7, 7, 7, 7, 7, 7, 7, 7, 7, 7, 7, 7, 7, 7, 8, 8, 8, 8, 8, 8, 8, 8, 8, 8, 8, 8, 8, 8, 8, 8, 8, 8, 8, 8, 8, 8, 8, 8, 8, 8, 8, 8, 8, 8, 8, 8, 8, 8, 8, 8, 8, 8, 8, 8, 8, 8, 8, 8, 8, 8, 8, 8, 8, 8, 8, 8, 8, 8, 8, 8, 8, 8, 8, 8, 8, 8, 8, 8, 8, 8, 8, 8, 8, 8, 8, 8, 8, 8, 8, 8, 8, 8, 8, 8, 8, 8, 8, 8, 8, 8, 8, 8, 8, 8, 8, 8, 8, 8, 8, 8, 8, 8, 8, 8, 8, 8, 8, 8, 8, 8, 8, 8, 8, 8, 8, 8, 8, 8, 8, 8, 8, 8, 8, 8, 8, 8, 8, 8, 8, 8, 8, 8]⟩ : ByteArray) : Nat) : Int)] ⟨c1, trivial⟩ ?_
        refine bH [(2, (eI (wR (n2 + (wR (bt (⟨#[0, 1, 2, 2, 3, 3, 3, 3, 4, 4, 4, 4, 4, 4, 4, 4, 5, 5, 5, 5, 5, 5, 5, 5, 5, 5, 5, 5, 5, 5, 5, 5, 6, 6, 6, 6, 6, 6, 6, 6, 6, 6, 6, 6, 6, 6, 6, 6, 6, 6, 6, 6, 6, 6, 6, 6, 6, 6, 6, 6, 6, 6, 6, 6, 7, 7, 7, 7, 7, 7, 7, 7, 7, 7, 7, 7, 7, 7, 7, 7, 7, 7, 7, 7, 7, 7, 7, 7, 7, 7, 7, 7, 7, 7, 7, 7, 7, 7, 7, 7, 7, 7, 7, 7, 7, 7, 7, 7, 7, 7, 7, 7, 7, 7, 7, 7, 7, 7, 7, 7, 7, 7, 7, 7, 7, 7, 7, 7, 8, 8, 8, 8, 8, 8, 8, 8, 8, 8, 8, 8, 8, 8, 8, 8, 8, 8, 8, 8, 8, 8, 8, 8, 8, 8, 8, 8, 8, 8, 8, 8, 8, 8, 8, 8, 8, 8, 8, 8, 8, 8, 8, 8, 8, 8, 8, 8, 8, 8, 8, 8, 8, 8, 8, 8, 8, 8, 8, 8, 8, 8, 8, 8, 8, 8, 8, 8, 8, 8, 8, 8, 8, 8, 8, 8, 8, 8, 8, 8, 8, 8, 8, 8, 8, 8, 8, 8, 8, 8, 8, 8, 8, 8, 8, 8, 8, 8, 8, 8, 8, 8, 8, 8, 8, 8, 8, 8, 8, 8, 8, 8, 8, 8, 8, 8, 8, 8, 8, 8, 8, 8, 8, 8, 8, 8, 8, 8]⟩ : ByteArray) (IntKind.u8.wrap x0)))))))] ?_
        refine bJ ?_
        obtain rfl := oI h0
        exact aI (Q_r hO)
      refine aS aD 2 [] [(14, (aF (decide ((256 : Int) ≤ x0))))] ?_
      refine bN h0 (fun h0 => ?_) (fun h0 => ?_)
      · refine aO ?_
        refine aT aD 3 ?_
        obtain ⟨c3, h0⟩ := aU h0
        refine mX [0 ≤ (8 : Int)] ⟨c3, trivial⟩ ?_
        refine bH [(0, (cP .u64 (Int.fdiv x0 (2 ^ (min (Int.toNat (8 : Int)) 64))))), (2, (eI n2))] ?_
        refine aT aD 3 ?_
        refine bE ?_
        exact aI (aH (⟨rfl, _, _, .eq (by kernel_rfl), hO, h0⟩))
      refine bO ?_
      exact aI (aH (⟨rfl, _, _, .eq (by kernel_rfl), hO, h0⟩))
    refine aS aD 2 [] [(8, (aF (decide ((65536 : Int) ≤ x0))))] ?_
    refine bN h0 (fun h0 => ?_) (fun h0 => ?_)
    · refine aO ?_
      refine aT aD 3 ?_
      obtain ⟨c5, h0⟩ := aU h0
      refine mX [0 ≤ (16 : Int)] ⟨c5, trivial⟩ ?_
      refine bH [(0, (cP .u64 (Int.fdiv x0 (2 ^ (min (Int.toNat (16 : Int)) 64))))), (2, (eI n2))] ?_
      refine aT aD 3 ?_
      refine bE ?_
      exact aI (aH (⟨rfl, _, _, .eq (by kernel_rfl), hO, h0⟩))
    refine bO ?_
    exact aI (aH (⟨rfl, _, _, .eq (by kernel_rfl), hO, h0⟩))
  refine aS aD 2 [] [(4, (aF (decide ((4294967296 : Int) ≤ x0))))] ?_
  refine bN h0 (fun h0 => ?_) (fun h0 => ?_)
  · refine aO ?_
    refine aT aD 3 ?_
    obtain ⟨c7, h0⟩ := aU h0
    refine mX [0 ≤ (32 : Int)] ⟨c7, trivial⟩ ?_
    refine bH [(0, (cP .u64 (Int.fdiv x0 (2 ^ (min (Int.toNat (32 : Int)) 64)))))] ?_
    refine aT aD 1 ?_
    refine bE ?_
    exact aI (aH (⟨rfl, _, _, .eq (by kernel_rfl), hO, h0⟩))
  refine bO ?_
  exact aI (aH (⟨rfl, _, _, .eq (by kernel_rfl), hO, h0⟩))

theorem xR (x0 : Int) (r : Int) (h0 : jQ x0 = some r) : dI Try.prog 61 [(cP .u64 x0)] (eI r) := by
  intro H0
  refine dG Try.func61 ?_
  have hO := aL.start H0
  unfold jQ at h0
  refine aS aD 1 [] [] ?_
  refine aO ?_
  refine mM (false) (fun hc1 => ?_) (fun hc1 => ?_)
  · cases hc1
  · refine bO ?_
    refine aI (aH ?_)
    refine aO ?_
    refine aT aD 3 ?_
    refine bR 1 ?_
    obtain ⟨x2, hx3, h0⟩ := aV h0
    refine dU (CI x0 _ hx3) hO ?_
    intro H hO
    refine bE ?_
    refine bH [(2, (eI x2))] ?_
    refine bJ ?_
    obtain rfl := oI h0
    exact aI (Q_r hO)

theorem eU (x0 : Int) (y1 : Int) (r : Bool) (h0 : cN x0 y1 = some r) : dI Try.prog 70 [(eI x0), (eI y1)] (aF r) := by
  intro H0
  refine dG Try.func70 ?_
  have hO := aL.start H0
  unfold cN at h0
  refine aS aD 1 [] [] ?_
  refine aO ?_
  refine aT aD 13 ?_
  refine bR 1 ?_
  obtain ⟨x1, hx2, h0⟩ := aV h0
  refine dU (qS x0 _ hx2) hO ?_
  intro H hO
  refine bR 4 ?_
  obtain ⟨x4, hx5, h0⟩ := aV h0
  refine nY [(7, true)] 95 [(eI y1)] (aF x4) x1 (by kernel_rfl) (by kernel_rfl) (by kernel_rfl) (fun hb6 => (qS y1 _ (kA hx5 hb6))) hO ?_
  intro H hO
  refine bE ?_
  refine bH [(4, (aF ((x1 && (!x4)) || (decide (x0 < y1)))))] ?_
  refine bJ ?_
  obtain rfl := oI h0
  exact aI (Q_r hO)

theorem sD (lo0p : Nat) (aA : (List Int)) (a1 : Int) (b2 : Int) (r : List Int) (h0 : fW aA a1 b2 = some r) : mJ Try.prog 79 lo0p 1 (List.map (eI) aA) (List.map (eI) r) [(.msl 1 lo0p 0 (List.length aA)), (eI a1), (eI b2)] (.tup []) := by
  intro H0 hl0
  refine dG Try.func79 ?_
  have hO := aL.oR hl0
  clear hl0
  obtain ⟨N0, hN0⟩ : ∃ n, n = List.length aA := ⟨_, rfl⟩
  have hN : List.length aA = N0 := hN0.symm
  unfold fW at h0
  refine aS aD 3 [] [(6, (eI (wR (a1 + (1 : Int)))))] ?_
  refine cG 0 ?_
  refine gR [(0, (.msl 1 lo0p 0 (List.length aA))), (1, (eI a1)), (2, (eI b2)), (6, (eI (wR (a1 + (1 : Int)))))] ?_
  refine fG (fun T H => ∃ aA : List Int, ∃ i6 : Int, Has T [(0, (.msl 1 lo0p 0 (List.length aA))), (1, (eI a1)), (2, (eI b2)), (6, (eI i6))] ∧ aL ⟨H0, [lo0p], []⟩ H [(lo0p, 1, List.map (eI) aA)] ∧ List.length aA = N0 ∧ iN aA a1 b2 i6 = some r) ?_ ⟨aA, wR (a1 + (1 : Int)), .eq (by kernel_rfl), hO, hN, h0⟩
  clear hO hN h0
  rintro T H ⟨aA, i6, hT, hO, hN, h0⟩
  refine bF hT ?_
  clear hT
  unfold iN at h0
  obtain ⟨rr0, hl0, h0⟩ := aV h0
  refine dN (by kernel_rfl) (fun (s : List Int × Int) T H => Has T [(0, (.msl 1 lo0p 0 (List.length s.1))), (1, (eI a1)), (2, (eI b2)), (6, (eI s.2))] ∧ aL ⟨H0, [lo0p], []⟩ H [(lo0p, 1, List.map (eI) s.1)] ∧ List.length s.1 = N0) hl0 ⟨.eq (by kernel_rfl), hO, hN⟩ ?_
  clear hO hN
  rintro k0 s out1 T H ⟨hT, hO, hN⟩ h1 ho0
  obtain ⟨aA, i6⟩ := s
  replace h1 : cY a1 b2 aA i6 = some out1 := h1
  try dsimp only at hT
  refine bF hT ?_
  clear hT
  unfold cY at h1
  refine aO ?_
  refine aS aD 3 [] [(12, (aF (decide (i6 < b2))))] ?_
  refine bN h1 (fun h1 => ?_) (fun h1 => ?_)
  · refine bO ?_
    refine bH [(0, (.msl 1 lo0p 0 (List.length aA))), (1, (eI a1)), (2, (eI b2)), (6, (eI i6))] ?_
    refine iA (fun T H => ∃ aA : List Int, Has T [(0, (.msl 1 lo0p 0 (List.length aA))), (1, (eI a1)), (2, (eI b2)), (6, (eI i6))] ∧ aL ⟨H0, [lo0p], []⟩ H [(lo0p, 1, List.map (eI) aA)] ∧ List.length aA = N0 ∧ fR aA a1 b2 i6 = some out1) ?_ ?_
    · clear hO hN h1
      rintro T H ⟨aA, hT, hO, hN, h1⟩
      refine bF hT ?_
      clear hT
      unfold fR at h1
      refine aT aD 3 ?_
      refine bE ?_
      exact aI (aH (⟨rfl, _, (oI h1).symm, .eq (by kernel_rfl), hO, hN⟩))
    refine cG 1 ?_
    refine aS aD 2 [] [(7, (eI i6))] ?_
    refine cG 2 ?_
    refine gR [(0, (.msl 1 lo0p 0 (List.length aA))), (1, (eI a1)), (2, (eI b2)), (6, (eI i6)), (7, (eI i6))] ?_
    refine fG (fun T H => ∃ aA : List Int, ∃ j7 : Int, Has T [(0, (.msl 1 lo0p 0 (List.length aA))), (1, (eI a1)), (2, (eI b2)), (6, (eI i6)), (7, (eI j7))] ∧ aL ⟨H0, [lo0p], []⟩ H [(lo0p, 1, List.map (eI) aA)] ∧ List.length aA = N0 ∧ iM aA a1 b2 i6 j7 = some out1) ?_ ⟨aA, i6, .eq (by kernel_rfl), hO, hN, h1⟩
    clear hO hN h1
    rintro T H ⟨aA, j7, hT, hO, hN, h1⟩
    refine bF hT ?_
    clear hT
    unfold iM at h1
    obtain ⟨rr1, hl1, h1⟩ := aV h1
    refine dN (by kernel_rfl) (fun (s : List Int × Int) T H => Has T [(0, (.msl 1 lo0p 0 (List.length s.1))), (1, (eI a1)), (2, (eI b2)), (6, (eI i6)), (7, (eI s.2))] ∧ aL ⟨H0, [lo0p], []⟩ H [(lo0p, 1, List.map (eI) s.1)] ∧ List.length s.1 = N0) hl1 ⟨.eq (by kernel_rfl), hO, hN⟩ ?_
    clear hO hN
    rintro k1 s out2 T H ⟨hT, hO, hN⟩ h2 ho1
    obtain ⟨aA, j7⟩ := s
    replace h2 : eK a1 b2 i6 aA j7 = some out2 := h2
    try dsimp only at hT
    refine bF hT ?_
    clear hT
    unfold eK at h2
    refine aO ?_
    refine aO ?_
    obtain ⟨c2, h2⟩ := aU h2
    obtain ⟨c3, h2⟩ := aU h2
    obtain ⟨x4, hx5, h2⟩ := aV h2
    refine fN (fK []) aD 15 ?_
    refine oF (K := fun T H => Has (lift T) [(0, (.msl 1 lo0p 0 (List.length aA))), (1, (eI a1)), (2, (eI b2)), (6, (eI i6)), (7, (eI j7)), (30, (aF ((decide (a1 < j7)) && x4)))] ∧ aL ⟨H0, [lo0p], []⟩ H [(lo0p, 1, List.map (eI) aA)]) ?_ ?_
    · refine lH 4 ?_
      refine nE (t := 19) (e := decide (a1 < j7)) (by kernel_rfl) (fun hg6 => ?_) (fun hg6 => ?_)
      · refine cB 7 [0 ≤ j7 ∧ j7 < (lN aA)] ⟨(c2 hg6), trivial⟩ ?_
        refine iQ 0 lo0p 1 (0 + Int.toNat j7) (eI (gD aA j7)) (eI (gD aA j7)) (List.map (eI) aA) (by kernel_rfl) (by kernel_rfl) (by kernel_rfl) hO (by kernel_rfl) (bV (c2 hg6)) ?_
        refine cB 12 [0 ≤ (wR (j7 - (1 : Int))) ∧ (wR (j7 - (1 : Int))) < (lN aA)] ⟨(c3 hg6), trivial⟩ ?_
        refine iQ 0 lo0p 1 (0 + Int.toNat (wR (j7 - (1 : Int)))) (eI (gD aA (wR (j7 - (1 : Int))))) (eI (gD aA (wR (j7 - (1 : Int))))) (List.map (eI) aA) (by kernel_rfl) (by kernel_rfl) (by kernel_rfl) hO (by kernel_rfl) (bV (c3 hg6)) ?_
        refine nD 70 [(eI (gD aA j7)), (eI (gD aA (wR (j7 - (1 : Int)))))] (aF x4) (by kernel_rfl) (by kernel_rfl) (eU (gD aA j7) (gD aA (wR (j7 - (1 : Int)))) _ (kA hx5 hg6)) hO ?_
        intro H hO
        refine jS ?_
        exact ⟨⟨[(0, (.msl 1 lo0p 0 (List.length aA))), (1, (eI a1)), (2, (eI b2)), (6, (eI i6)), (7, (eI j7)), (30, (aF x4))], by kernel_rfl, rfl, ⟨aN.refl _, aN.refl _, aN.refl _, aN.refl _, aN.refl _, aN.eq (congrArg aF (lX hg6 rfl).symm), trivial⟩⟩, hO⟩
      refine jS ?_
      exact ⟨⟨[(0, (.msl 1 lo0p 0 (List.length aA))), (1, (eI a1)), (2, (eI b2)), (6, (eI i6)), (7, (eI j7)), (30, (aF false))], by kernel_rfl, rfl, ⟨aN.refl _, aN.refl _, aN.refl _, aN.refl _, aN.refl _, aN.eq (congrArg aF (lX hg6 rfl).symm), trivial⟩⟩, hO⟩
    · rintro T H ⟨hT, hO⟩
      refine cW hT ?_
      clear hT
      refine aI (aH ?_)
      refine bN h2 (fun h2 => ?_) (fun h2 => ?_)
      · refine bO ?_
        refine bH [(0, (.msl 1 lo0p 0 (List.length aA))), (1, (eI a1)), (2, (eI b2)), (6, (eI i6)), (7, (eI j7))] ?_
        refine aO ?_
        refine cG 3 ?_
        refine fN (fK []) aD 18 ?_
        obtain ⟨c8, h2⟩ := aU h2
        refine cB 9 [0 ≤ (wR (j7 - (1 : Int))) ∧ (wR (j7 - (1 : Int))) < (lN aA)] ⟨c8, trivial⟩ ?_
        refine fD 0 lo0p 1 (0 + Int.toNat (wR (j7 - (1 : Int)))) (eI (gD aA (wR (j7 - (1 : Int))))) (eI (gD aA (wR (j7 - (1 : Int))))) (List.map (eI) aA) hO (bV c8) ?_
        obtain ⟨c9, h2⟩ := aU h2
        refine cB 13 [0 ≤ j7 ∧ j7 < (lN aA)] ⟨c9, trivial⟩ ?_
        refine fD 0 lo0p 1 (0 + Int.toNat j7) (eI (gD aA j7)) (eI (gD aA j7)) (List.map (eI) aA) hO (bV c9) ?_
        obtain ⟨c10, h2⟩ := aU h2
        refine cB 15 [0 ≤ j7 ∧ j7 < (lN aA)] ⟨c10, trivial⟩ ?_
        refine jR 0 lo0p 1 (0 + Int.toNat j7) (eI (gD aA j7)) (eI (gD aA (wR (j7 - (1 : Int))))) (List.map (eI) aA) [(lo0p, 1, List.map (eI) (List.set aA (Int.toNat j7) (gD aA (wR (j7 - (1 : Int))))))] hO (bV c10) (by simp only [List.set, fX]) ?_
        intro H hO
        replace hN : List.length (List.set aA (Int.toNat j7) (gD aA (wR (j7 - (1 : Int))))) = N0 := by simpa using hN
        obtain ⟨c11, h2⟩ := aU h2
        refine cB 17 [0 ≤ (wR (j7 - (1 : Int))) ∧ (wR (j7 - (1 : Int))) < (lN aA)] ⟨c11, trivial⟩ ?_
        refine jR 0 lo0p 1 (0 + Int.toNat (wR (j7 - (1 : Int)))) (eI (gD (List.set aA (Int.toNat j7) (gD aA (wR (j7 - (1 : Int))))) (wR (j7 - (1 : Int))))) (eI (gD aA j7)) (List.map (eI) (List.set aA (Int.toNat j7) (gD aA (wR (j7 - (1 : Int)))))) [(lo0p, 1, List.map (eI) (List.set (List.set aA (Int.toNat j7) (gD aA (wR (j7 - (1 : Int))))) (Int.toNat (wR (j7 - (1 : Int)))) (gD aA j7)))] hO (mH c11 (by simp [])) (by simp only [List.set, fX]) ?_
        intro H hO
        replace hN : List.length (List.set (List.set aA (Int.toNat j7) (gD aA (wR (j7 - (1 : Int))))) (Int.toNat (wR (j7 - (1 : Int)))) (gD aA j7)) = N0 := by simpa using hN
        refine lW (by kernel_rfl) ?_
        refine cW (l := [(0, (.msl 1 lo0p 0 (List.length (List.set (List.set aA (Int.toNat j7) (gD aA (wR (j7 - (1 : Int))))) (Int.toNat (wR (j7 - (1 : Int)))) (gD aA j7))))), (1, (eI a1)), (2, (eI b2)), (6, (eI i6)), (7, (eI j7))]) ⟨[(0, (.msl 1 lo0p 0 (List.length aA))), (1, (eI a1)), (2, (eI b2)), (6, (eI i6)), (7, (eI j7))], by kernel_rfl, rfl, ⟨aN.eq (by simp []), aN.refl _, aN.refl _, aN.refl _, aN.refl _, trivial⟩⟩ ?_
        refine aI (aY (aH (?_)))
        refine aT aD 3 ?_
        refine bE ?_
        exact aI (aH (⟨rfl, _, (oI h2).symm, .eq (by kernel_rfl), hO, hN⟩))
      refine iP 2 ?_
      obtain rfl := oI h2
      obtain rfl : _ = rr1 := ho1
      replace h1 : fR aA a1 b2 i6 = some out1 := h1
      exact aI (aW (aW (cC (aY (aH (⟨rfl, _, .eq (by kernel_rfl), hO, hN, h1⟩))))))
  refine iP 0 ?_
  obtain rfl := oI h1
  obtain rfl : _ = rr0 := ho0
  replace h0 : some aA = some r := h0
  obtain rfl := oI h0
  exact aI (aW (aW (cC (vX (x := (.tup [])) (by kernel_rfl) (aN.refl _) ⟨rfl, hO.ext, hO.at 0 (by kernel_rfl), by first | rfl | (simp only [List.length_map]; exact hN.trans hN0)⟩))))

theorem oS (lo0p : Nat) (aA : (List Int)) (lo1 : Int) (hi2 : Int) (bC : Int) (r : List Int) (h0 : eY aA lo1 hi2 bC = some r) : mJ Try.prog 105 lo0p 1 (List.map (eI) aA) (List.map (eI) r) [(.msl 1 lo0p 0 (List.length aA)), (eI lo1), (eI hi2), (eI bC)] (.tup []) := by
  intro H0 hl0
  refine dG Try.func105 ?_
  have hO := aL.oR hl0
  clear hl0
  obtain ⟨N0, hN0⟩ : ∃ n, n = List.length aA := ⟨_, rfl⟩
  have hN : List.length aA = N0 := hN0.symm
  unfold eY at h0
  refine aS aD 2 [1] [(8, (eI lo1))] ?_
  refine cG 0 ?_
  refine gR [(0, (.msl 1 lo0p 0 (List.length aA))), (2, (eI hi2)), (3, (eI bC)), (8, (eI lo1))] ?_
  refine fG (fun T H => ∃ aA : List Int, ∃ bY : Int, Has T [(0, (.msl 1 lo0p 0 (List.length aA))), (2, (eI hi2)), (3, (eI bC)), (8, (eI bY))] ∧ aL ⟨H0, [lo0p], []⟩ H [(lo0p, 1, List.map (eI) aA)] ∧ List.length aA = N0 ∧ jZ aA hi2 bC bY = some r) ?_ ⟨aA, lo1, .eq (by kernel_rfl), hO, hN, h0⟩
  clear hO hN h0
  rintro T H ⟨aA, bY, hT, hO, hN, h0⟩
  refine bF hT ?_
  clear hT
  unfold jZ at h0
  obtain ⟨rr0, hl0, h0⟩ := aV h0
  refine dN (by kernel_rfl) (fun (s : List Int × Int) T H => Has T [(0, (.msl 1 lo0p 0 (List.length s.1))), (2, (eI hi2)), (3, (eI bC)), (8, (eI s.2))] ∧ aL ⟨H0, [lo0p], []⟩ H [(lo0p, 1, List.map (eI) s.1)] ∧ List.length s.1 = N0) hl0 ⟨.eq (by kernel_rfl), hO, hN⟩ ?_
  clear hO hN
  rintro k0 s out1 T H ⟨hT, hO, hN⟩ h1 ho0
  obtain ⟨aA, bY⟩ := s
  replace h1 : cU hi2 bC aA bY = some out1 := h1
  try dsimp only at hT
  refine bF hT ?_
  clear hT
  unfold cU at h1
  refine cG 1 ?_
  refine aS aD 4 [] [(9, (eI (wR ((wR ((2 : Int) * bY)) + (1 : Int)))))] ?_
  refine aO ?_
  refine aS aD 3 [] [(16, (aF (decide (hi2 ≤ (wR ((wR ((2 : Int) * bY)) + (1 : Int)))))))] ?_
  refine bN h1 (fun h1 => ?_) (fun h1 => ?_)
  · refine iP 0 ?_
    obtain rfl := oI h1
    obtain rfl : _ = rr0 := ho0
    replace h0 : some aA = some r := h0
    obtain rfl := oI h0
    exact aI (aW (sB (by kernel_rfl) (aW (cC (vX (x := (.tup [])) (by kernel_rfl) (aN.refl _) ⟨rfl, hO.ext, hO.at 0 (by kernel_rfl), by first | rfl | (simp only [List.length_map]; exact hN.trans hN0)⟩)))))
  refine bO ?_
  refine bH [(0, (.msl 1 lo0p 0 (List.length aA))), (2, (eI hi2)), (3, (eI bC)), (8, (eI bY)), (9, (eI (wR ((wR ((2 : Int) * bY)) + (1 : Int)))))] ?_
  refine iA (fun T H => ∃ aA : List Int, ∃ dO : Int, Has T [(0, (.msl 1 lo0p 0 (List.length aA))), (2, (eI hi2)), (3, (eI bC)), (8, (eI bY)), (9, (eI dO))] ∧ aL ⟨H0, [lo0p], []⟩ H [(lo0p, 1, List.map (eI) aA)] ∧ List.length aA = N0 ∧ fS aA hi2 bC bY dO = some out1) ?_ ?_
  · clear hO hN h1
    rintro T H ⟨aA, dO, hT, hO, hN, h1⟩
    refine bF hT ?_
    clear hT
    unfold fS at h1
    refine aO ?_
    refine aO ?_
    refine fN (fK [51]) aD 14 ?_
    obtain ⟨c2, h1⟩ := aU h1
    refine cB 5 [0 ≤ (wR (bC + bY)) ∧ (wR (bC + bY)) < (lN aA)] ⟨c2, trivial⟩ ?_
    refine fD 0 lo0p 1 (0 + Int.toNat (wR (bC + bY))) (eI (gD aA (wR (bC + bY)))) (eI (gD aA (wR (bC + bY)))) (List.map (eI) aA) hO (bV c2) ?_
    obtain ⟨c3, h1⟩ := aU h1
    refine cB 11 [0 ≤ (wR (bC + dO)) ∧ (wR (bC + dO)) < (lN aA)] ⟨c3, trivial⟩ ?_
    refine fD 0 lo0p 1 (0 + Int.toNat (wR (bC + dO))) (eI (gD aA (wR (bC + dO)))) (eI (gD aA (wR (bC + dO)))) (List.map (eI) aA) hO (bV c3) ?_
    obtain ⟨x4, hx5, h1⟩ := aV h1
    refine DB (eU (gD aA (wR (bC + bY))) (gD aA (wR (bC + dO))) _ hx5) hO ?_
    intro H hO
    refine jS ?_
    refine bX [] [(52, (aF (!x4)))] ?_
    refine bN h1 (fun h1 => ?_) (fun h1 => ?_)
    · refine bJ ?_
      obtain rfl := oI h1
      obtain rfl : _ = rr0 := ho0
      replace h0 : some aA = some r := h0
      obtain rfl := oI h0
      exact aI (aR (bM (aR (bM (jY (x := (.tup [])) (by kernel_rfl) (aN.refl _) ⟨rfl, hO.ext, hO.at 0 (by kernel_rfl), by first | rfl | (simp only [List.length_map]; exact hN.trans hN0)⟩)))))
    refine bO ?_
    refine bH [(0, (.msl 1 lo0p 0 (List.length aA))), (2, (eI hi2)), (3, (eI bC)), (8, (eI bY)), (9, (eI dO))] ?_
    refine aO ?_
    refine fN (fK []) aD 24 ?_
    obtain ⟨c8, h1⟩ := aU h1
    refine cB 13 [0 ≤ (wR (bC + dO)) ∧ (wR (bC + dO)) < (lN aA)] ⟨c8, trivial⟩ ?_
    refine fD 0 lo0p 1 (0 + Int.toNat (wR (bC + dO))) (eI (gD aA (wR (bC + dO)))) (eI (gD aA (wR (bC + dO)))) (List.map (eI) aA) hO (bV c8) ?_
    obtain ⟨c9, h1⟩ := aU h1
    refine cB 19 [0 ≤ (wR (bC + bY)) ∧ (wR (bC + bY)) < (lN aA)] ⟨c9, trivial⟩ ?_
    refine fD 0 lo0p 1 (0 + Int.toNat (wR (bC + bY))) (eI (gD aA (wR (bC + bY)))) (eI (gD aA (wR (bC + bY)))) (List.map (eI) aA) hO (bV c9) ?_
    obtain ⟨c10, h1⟩ := aU h1
    refine cB 21 [0 ≤ (wR (bC + bY)) ∧ (wR (bC + bY)) < (lN aA)] ⟨c10, trivial⟩ ?_
    refine jR 0 lo0p 1 (0 + Int.toNat (wR (bC + bY))) (eI (gD aA (wR (bC + bY)))) (eI (gD aA (wR (bC + dO)))) (List.map (eI) aA) [(lo0p, 1, List.map (eI) (List.set aA (Int.toNat (wR (bC + bY))) (gD aA (wR (bC + dO)))))] hO (bV c10) (by simp only [List.set, fX]) ?_
    intro H hO
    replace hN : List.length (List.set aA (Int.toNat (wR (bC + bY))) (gD aA (wR (bC + dO)))) = N0 := by simpa using hN
    obtain ⟨c11, h1⟩ := aU h1
    refine cB 23 [0 ≤ (wR (bC + dO)) ∧ (wR (bC + dO)) < (lN aA)] ⟨c11, trivial⟩ ?_
    refine jR 0 lo0p 1 (0 + Int.toNat (wR (bC + dO))) (eI (gD (List.set aA (Int.toNat (wR (bC + bY))) (gD aA (wR (bC + dO)))) (wR (bC + dO)))) (eI (gD aA (wR (bC + bY)))) (List.map (eI) (List.set aA (Int.toNat (wR (bC + bY))) (gD aA (wR (bC + dO))))) [(lo0p, 1, List.map (eI) (List.set (List.set aA (Int.toNat (wR (bC + bY))) (gD aA (wR (bC + dO)))) (Int.toNat (wR (bC + dO))) (gD aA (wR (bC + bY)))))] hO (mH c11 (by simp [])) (by simp only [List.set, fX]) ?_
    intro H hO
    replace hN : List.length (List.set (List.set aA (Int.toNat (wR (bC + bY))) (gD aA (wR (bC + dO)))) (Int.toNat (wR (bC + dO))) (gD aA (wR (bC + bY)))) = N0 := by simpa using hN
    refine lW (by kernel_rfl) ?_
    refine cW (l := [(0, (.msl 1 lo0p 0 (List.length (List.set (List.set aA (Int.toNat (wR (bC + bY))) (gD aA (wR (bC + dO)))) (Int.toNat (wR (bC + dO))) (gD aA (wR (bC + bY))))))), (2, (eI hi2)), (3, (eI bC)), (9, (eI dO))]) ⟨[(0, (.msl 1 lo0p 0 (List.length aA))), (2, (eI hi2)), (3, (eI bC)), (9, (eI dO))], by kernel_rfl, rfl, ⟨aN.eq (by simp []), aN.refl _, aN.refl _, aN.refl _, trivial⟩⟩ ?_
    refine aI (aH (?_))
    refine aT aD 2 ?_
    refine bE ?_
    exact aI (aY (aH (⟨rfl, _, (oI h1).symm, .eq (by kernel_rfl), hO, hN⟩)))
  refine aO ?_
  obtain ⟨c12, h1⟩ := aU h1
  obtain ⟨c13, h1⟩ := aU h1
  obtain ⟨x14, hx15, h1⟩ := aV h1
  refine fN (fK []) aD 20 ?_
  refine oF (K := fun T H => Has (lift T) [(0, (.msl 1 lo0p 0 (List.length aA))), (2, (eI hi2)), (3, (eI bC)), (8, (eI bY)), (9, (eI (wR ((wR ((2 : Int) * bY)) + (1 : Int))))), (36, (aF ((decide ((wR ((wR ((wR ((2 : Int) * bY)) + (1 : Int))) + (1 : Int))) < hi2)) && x14)))] ∧ aL ⟨H0, [lo0p], []⟩ H [(lo0p, 1, List.map (eI) aA)]) ?_ ?_
  · refine lH 5 ?_
    refine nE (t := 21) (e := decide ((wR ((wR ((wR ((2 : Int) * bY)) + (1 : Int))) + (1 : Int))) < hi2)) (by kernel_rfl) (fun hg16 => ?_) (fun hg16 => ?_)
    · refine cB 10 [0 ≤ (wR (bC + (wR ((wR ((2 : Int) * bY)) + (1 : Int))))) ∧ (wR (bC + (wR ((wR ((2 : Int) * bY)) + (1 : Int))))) < (lN aA)] ⟨(c12 hg16), trivial⟩ ?_
      refine iQ 0 lo0p 1 (0 + Int.toNat (wR (bC + (wR ((wR ((2 : Int) * bY)) + (1 : Int)))))) (eI (gD aA (wR (bC + (wR ((wR ((2 : Int) * bY)) + (1 : Int))))))) (eI (gD aA (wR (bC + (wR ((wR ((2 : Int) * bY)) + (1 : Int))))))) (List.map (eI) aA) (by kernel_rfl) (by kernel_rfl) (by kernel_rfl) hO (by kernel_rfl) (bV (c12 hg16)) ?_
      refine cB 17 [0 ≤ (wR ((wR (bC + (wR ((wR ((2 : Int) * bY)) + (1 : Int))))) + (1 : Int))) ∧ (wR ((wR (bC + (wR ((wR ((2 : Int) * bY)) + (1 : Int))))) + (1 : Int))) < (lN aA)] ⟨(c13 hg16), trivial⟩ ?_
      refine iQ 0 lo0p 1 (0 + Int.toNat (wR ((wR (bC + (wR ((wR ((2 : Int) * bY)) + (1 : Int))))) + (1 : Int)))) (eI (gD aA (wR ((wR (bC + (wR ((wR ((2 : Int) * bY)) + (1 : Int))))) + (1 : Int))))) (eI (gD aA (wR ((wR (bC + (wR ((wR ((2 : Int) * bY)) + (1 : Int))))) + (1 : Int))))) (List.map (eI) aA) (by kernel_rfl) (by kernel_rfl) (by kernel_rfl) hO (by kernel_rfl) (bV (c13 hg16)) ?_
      refine nD 70 [(eI (gD aA (wR (bC + (wR ((wR ((2 : Int) * bY)) + (1 : Int))))))), (eI (gD aA (wR ((wR (bC + (wR ((wR ((2 : Int) * bY)) + (1 : Int))))) + (1 : Int)))))] (aF x14) (by kernel_rfl) (by kernel_rfl) (eU (gD aA (wR (bC + (wR ((wR ((2 : Int) * bY)) + (1 : Int)))))) (gD aA (wR ((wR (bC + (wR ((wR ((2 : Int) * bY)) + (1 : Int))))) + (1 : Int)))) _ (kA hx15 hg16)) hO ?_
      intro H hO
      refine jS ?_
      exact ⟨⟨[(0, (.msl 1 lo0p 0 (List.length aA))), (2, (eI hi2)), (3, (eI bC)), (8, (eI bY)), (9, (eI (wR ((wR ((2 : Int) * bY)) + (1 : Int))))), (36, (aF x14))], by kernel_rfl, rfl, ⟨aN.refl _, aN.refl _, aN.refl _, aN.refl _, aN.refl _, aN.eq (congrArg aF (lX hg16 rfl).symm), trivial⟩⟩, hO⟩
    refine jS ?_
    exact ⟨⟨[(0, (.msl 1 lo0p 0 (List.length aA))), (2, (eI hi2)), (3, (eI bC)), (8, (eI bY)), (9, (eI (wR ((wR ((2 : Int) * bY)) + (1 : Int))))), (36, (aF false))], by kernel_rfl, rfl, ⟨aN.refl _, aN.refl _, aN.refl _, aN.refl _, aN.refl _, aN.eq (congrArg aF (lX hg16 rfl).symm), trivial⟩⟩, hO⟩
  · rintro T H ⟨hT, hO⟩
    refine cW hT ?_
    clear hT
    refine aI (aH ?_)
    refine bN h1 (fun h1 => ?_) (fun h1 => ?_)
    · refine aT aD 3 ?_
      refine bE ?_
      exact aI (aH (⟨rfl, _, _, .eq (by kernel_rfl), hO, hN, h1⟩))
    refine bO ?_
    exact aI (aH (⟨rfl, _, _, .eq (by kernel_rfl), hO, hN, h1⟩))

theorem uN (lo0p : Nat) (aA : (List Int)) (a1 : Int) (b2 : Int) (r : List Int) (h0 : iR aA a1 b2 = some r) : mJ Try.prog 80 lo0p 1 (List.map (eI) aA) (List.map (eI) r) [(.msl 1 lo0p 0 (List.length aA)), (eI a1), (eI b2)] (.tup []) := by
  intro H0 hl0
  refine dG Try.func80 ?_
  have hO := aL.oR hl0
  clear hl0
  obtain ⟨N0, hN0⟩ : ∃ n, n = List.length aA := ⟨_, rfl⟩
  have hN : List.length aA = N0 := hN0.symm
  unfold iR at h0
  refine aS aD 2 [] [(6, (eI a1))] ?_
  refine aS aD 1 [] [(7, (eI (0 : Int)))] ?_
  refine aS aD 4 [1, 2] [(8, (eI (wR (b2 - a1))))] ?_
  refine iA (fun T H => ∃ aA : List Int, ∃ bL : Int, ∃ lo7 : Int, ∃ hi8 : Int, Has T [(0, (.msl 1 lo0p 0 (List.length aA))), (6, (eI bL)), (7, (eI lo7)), (8, (eI hi8))] ∧ aL ⟨H0, [lo0p], []⟩ H [(lo0p, 1, List.map (eI) aA)] ∧ List.length aA = N0 ∧ iJ aA bL lo7 hi8 = some r) ?_ ?_
  · clear hO hN h0
    rintro T H ⟨aA, bL, lo7, hi8, hT, hO, hN, h0⟩
    refine bF hT ?_
    clear hT
    unfold iJ at h0
    refine aS aD 3 [8] [(10, (eI (wR (hi8 - (1 : Int)))))] ?_
    refine cG 2 ?_
    refine gR [(0, (.msl 1 lo0p 0 (List.length aA))), (6, (eI bL)), (7, (eI lo7)), (10, (eI (wR (hi8 - (1 : Int)))))] ?_
    refine fG (fun T H => ∃ aA : List Int, ∃ i10 : Int, Has T [(0, (.msl 1 lo0p 0 (List.length aA))), (6, (eI bL)), (7, (eI lo7)), (10, (eI i10))] ∧ aL ⟨H0, [lo0p], []⟩ H [(lo0p, 1, List.map (eI) aA)] ∧ List.length aA = N0 ∧ jX aA bL lo7 i10 = some r) ?_ ⟨aA, wR (hi8 - (1 : Int)), .eq (by kernel_rfl), hO, hN, h0⟩
    clear hO hN h0
    rintro T H ⟨aA, i10, hT, hO, hN, h0⟩
    refine bF hT ?_
    clear hT
    unfold jX at h0
    obtain ⟨rr0, hl0, h0⟩ := aV h0
    refine dN (by kernel_rfl) (fun (s : List Int × Int) T H => Has T [(0, (.msl 1 lo0p 0 (List.length s.1))), (6, (eI bL)), (7, (eI lo7)), (10, (eI s.2))] ∧ aL ⟨H0, [lo0p], []⟩ H [(lo0p, 1, List.map (eI) s.1)] ∧ List.length s.1 = N0) hl0 ⟨.eq (by kernel_rfl), hO, hN⟩ ?_
    clear hO hN
    rintro k0 s out1 T H ⟨hT, hO, hN⟩ h1 ho0
    obtain ⟨aA, i10⟩ := s
    replace h1 : dQ bL lo7 aA i10 = some out1 := h1
    try dsimp only at hT
    refine bF hT ?_
    clear hT
    unfold dQ at h1
    refine aO ?_
    refine aS aD 2 [] [(30, (aF (decide ((0 : Int) ≤ i10))))] ?_
    refine bN h1 (fun h1 => ?_) (fun h1 => ?_)
    · refine bO ?_
      refine bH [(0, (.msl 1 lo0p 0 (List.length aA))), (6, (eI bL)), (7, (eI lo7)), (10, (eI i10))] ?_
      refine aO ?_
      refine cG 3 ?_
      refine aO ?_
      refine fN (fK []) aD 20 ?_
      obtain ⟨c2, h1⟩ := aU h1
      refine cB 11 [0 ≤ (wR (bL + i10)) ∧ (wR (bL + i10)) < (lN aA)] ⟨c2, trivial⟩ ?_
      refine fD 0 lo0p 1 (0 + Int.toNat (wR (bL + i10))) (eI (gD aA (wR (bL + i10)))) (eI (gD aA (wR (bL + i10)))) (List.map (eI) aA) hO (bV c2) ?_
      obtain ⟨c3, h1⟩ := aU h1
      refine cB 15 [0 ≤ bL ∧ bL < (lN aA)] ⟨c3, trivial⟩ ?_
      refine fD 0 lo0p 1 (0 + Int.toNat bL) (eI (gD aA bL)) (eI (gD aA bL)) (List.map (eI) aA) hO (bV c3) ?_
      obtain ⟨c4, h1⟩ := aU h1
      refine cB 17 [0 ≤ bL ∧ bL < (lN aA)] ⟨c4, trivial⟩ ?_
      refine jR 0 lo0p 1 (0 + Int.toNat bL) (eI (gD aA bL)) (eI (gD aA (wR (bL + i10)))) (List.map (eI) aA) [(lo0p, 1, List.map (eI) (List.set aA (Int.toNat bL) (gD aA (wR (bL + i10)))))] hO (bV c4) (by simp only [List.set, fX]) ?_
      intro H hO
      replace hN : List.length (List.set aA (Int.toNat bL) (gD aA (wR (bL + i10)))) = N0 := by simpa using hN
      obtain ⟨c5, h1⟩ := aU h1
      refine cB 19 [0 ≤ (wR (bL + i10)) ∧ (wR (bL + i10)) < (lN aA)] ⟨c5, trivial⟩ ?_
      refine jR 0 lo0p 1 (0 + Int.toNat (wR (bL + i10))) (eI (gD (List.set aA (Int.toNat bL) (gD aA (wR (bL + i10)))) (wR (bL + i10)))) (eI (gD aA bL)) (List.map (eI) (List.set aA (Int.toNat bL) (gD aA (wR (bL + i10))))) [(lo0p, 1, List.map (eI) (List.set (List.set aA (Int.toNat bL) (gD aA (wR (bL + i10)))) (Int.toNat (wR (bL + i10))) (gD aA bL)))] hO (mH c5 (by simp [])) (by simp only [List.set, fX]) ?_
      intro H hO
      replace hN : List.length (List.set (List.set aA (Int.toNat bL) (gD aA (wR (bL + i10)))) (Int.toNat (wR (bL + i10))) (gD aA bL)) = N0 := by simpa using hN
      refine lW (by kernel_rfl) ?_
      refine cW (l := [(0, (.msl 1 lo0p 0 (List.length (List.set (List.set aA (Int.toNat bL) (gD aA (wR (bL + i10)))) (Int.toNat (wR (bL + i10))) (gD aA bL))))), (6, (eI bL)), (7, (eI lo7)), (10, (eI i10))]) ⟨[(0, (.msl 1 lo0p 0 (List.length aA))), (6, (eI bL)), (7, (eI lo7)), (10, (eI i10))], by kernel_rfl, rfl, ⟨aN.eq (by simp []), aN.refl _, aN.refl _, aN.refl _, trivial⟩⟩ ?_
      refine aI (aH (?_))
      refine aT aD 5 ?_
      refine bR 4 ?_
      obtain ⟨x6, hx7, h1⟩ := aV h1
      refine uI [(lo0p, 1, List.map (eI) x6)] 0 (oS lo0p (List.set (List.set aA (Int.toNat bL) (gD aA (wR (bL + i10)))) (Int.toNat (wR (bL + i10))) (gD aA bL)) lo7 i10 bL _ hx7) hO ?_
      intro H hO hl8
      simp only [List.length_map] at hl8
      replace hN := hl8.trans hN
      refine fM ?_
      refine cW (l := [(0, (.msl 1 lo0p 0 (List.length x6))), (6, (eI bL)), (7, (eI lo7)), (10, (eI i10))]) ⟨[(0, (.msl 1 lo0p 0 (List.length (List.set (List.set aA (Int.toNat bL) (gD aA (wR (bL + i10)))) (Int.toNat (wR (bL + i10))) (gD aA bL))))), (6, (eI bL)), (7, (eI lo7)), (10, (eI i10))], by kernel_rfl, rfl, ⟨aN.eq (by simp [hl8]), aN.refl _, aN.refl _, aN.refl _, trivial⟩⟩ ?_
      refine aI (aY (aH (?_)))
      refine aT aD 3 ?_
      refine bE ?_
      exact aI (aH (⟨rfl, _, (oI h1).symm, .eq (by kernel_rfl), hO, hN⟩))
    refine iP 2 ?_
    obtain rfl := oI h1
    obtain rfl : _ = rr0 := ho0
    replace h0 : some aA = some r := h0
    obtain rfl := oI h0
    exact aI (aW (aW (cC (vX (x := (.tup [])) (by kernel_rfl) (aN.refl _) ⟨rfl, hO.ext, hO.at 0 (by kernel_rfl), by first | rfl | (simp only [List.length_map]; exact hN.trans hN0)⟩))))
  refine aO ?_
  refine aT aD 4 ?_
  obtain ⟨c9, h0⟩ := aU h0
  refine mX [(2 : Int) ≠ 0] ⟨c9, trivial⟩ ?_
  refine bX [] [(9, (eI (wR (Int.tdiv (wR ((wR (b2 - a1)) - (1 : Int))) (2 : Int)))))] ?_
  refine cG 0 ?_
  refine gR [(0, (.msl 1 lo0p 0 (List.length aA))), (6, (eI a1)), (7, (eI (0 : Int))), (8, (eI (wR (b2 - a1)))), (9, (eI (wR (Int.tdiv (wR ((wR (b2 - a1)) - (1 : Int))) (2 : Int)))))] ?_
  refine fG (fun T H => ∃ aA : List Int, ∃ bL : Int, ∃ lo7 : Int, ∃ hi8 : Int, ∃ i9 : Int, Has T [(0, (.msl 1 lo0p 0 (List.length aA))), (6, (eI bL)), (7, (eI lo7)), (8, (eI hi8)), (9, (eI i9))] ∧ aL ⟨H0, [lo0p], []⟩ H [(lo0p, 1, List.map (eI) aA)] ∧ List.length aA = N0 ∧ jW aA bL lo7 hi8 i9 = some r) ?_ ⟨aA, a1, (0 : Int), wR (b2 - a1), wR (Int.tdiv (wR ((wR (b2 - a1)) - (1 : Int))) (2 : Int)), .eq (by kernel_rfl), hO, hN, h0⟩
  clear hO hN h0
  rintro T H ⟨aA, bL, lo7, hi8, i9, hT, hO, hN, h0⟩
  refine bF hT ?_
  clear hT
  unfold jW at h0
  obtain ⟨rr0, hl0, h0⟩ := aV h0
  refine dN (by kernel_rfl) (fun (s : List Int × Int) T H => Has T [(0, (.msl 1 lo0p 0 (List.length s.1))), (6, (eI bL)), (7, (eI lo7)), (8, (eI hi8)), (9, (eI s.2))] ∧ aL ⟨H0, [lo0p], []⟩ H [(lo0p, 1, List.map (eI) s.1)] ∧ List.length s.1 = N0) hl0 ⟨.eq (by kernel_rfl), hO, hN⟩ ?_
  clear hO hN
  rintro k0 s out1 T H ⟨hT, hO, hN⟩ h1 ho0
  obtain ⟨aA, i9⟩ := s
  replace h1 : dR bL lo7 hi8 aA i9 = some out1 := h1
  try dsimp only at hT
  refine bF hT ?_
  clear hT
  unfold dR at h1
  refine aO ?_
  refine aS aD 2 [] [(19, (aF (decide ((0 : Int) ≤ i9))))] ?_
  refine bN h1 (fun h1 => ?_) (fun h1 => ?_)
  · refine bO ?_
    refine bH [(0, (.msl 1 lo0p 0 (List.length aA))), (6, (eI bL)), (7, (eI lo7)), (8, (eI hi8)), (9, (eI i9))] ?_
    refine aO ?_
    refine cG 1 ?_
    refine aT aD 5 ?_
    refine bR 4 ?_
    obtain ⟨x11, hx12, h1⟩ := aV h1
    refine uI [(lo0p, 1, List.map (eI) x11)] 0 (oS lo0p aA i9 hi8 bL _ hx12) hO ?_
    intro H hO hl13
    simp only [List.length_map] at hl13
    replace hN := hl13.trans hN
    refine fM ?_
    refine cW (l := [(0, (.msl 1 lo0p 0 (List.length x11))), (6, (eI bL)), (7, (eI lo7)), (8, (eI hi8)), (9, (eI i9))]) ⟨[(0, (.msl 1 lo0p 0 (List.length aA))), (6, (eI bL)), (7, (eI lo7)), (8, (eI hi8)), (9, (eI i9))], by kernel_rfl, rfl, ⟨aN.eq (by simp [hl13]), aN.refl _, aN.refl _, aN.refl _, aN.refl _, trivial⟩⟩ ?_
    refine aI (aY (aH (?_)))
    refine aT aD 3 ?_
    refine bE ?_
    exact aI (aH (⟨rfl, _, (oI h1).symm, .eq (by kernel_rfl), hO, hN⟩))
  refine iP 0 ?_
  obtain rfl := oI h1
  obtain rfl : _ = rr0 := ho0
  replace h0 : iJ aA bL lo7 hi8 = some r := h0
  exact aI (aW (aW (cC (aH (⟨rfl, _, _, _, _, .eq (by kernel_rfl), hO, hN, h0⟩)))))

theorem xK (yV : Int) (r : Int) (h0 : kK yV = some r) : dI Try.prog 106 [(eI yV)] (cP .u64 r) := by
  intro H0
  refine dG Try.func106 ?_
  have hO := aL.start H0
  unfold kK at h0
  refine aS aD 1 [] [] ?_
  refine aO ?_
  refine aT aD 5 ?_
  refine bR 2 ?_
  obtain ⟨x1, hx2, h0⟩ := aV h0
  refine dU (xR (IntKind.u64.wrap yV) _ hx2) hO ?_
  intro H hO
  obtain ⟨c4, h0⟩ := aU h0
  refine mX [0 ≤ x1] ⟨c4, trivial⟩ ?_
  refine bH [(2, (cP .u64 (IntKind.u64.wrap ((1 : Int) * 2 ^ (min (Int.toNat x1) 64)))))] ?_
  refine bJ ?_
  obtain rfl := oI h0
  exact aI (Q_r hO)

theorem yC (lo0p : Nat) (r0 : Int) (r : (Int × Int)) (h0 : kS r0 = some r) : wH Try.prog 107 [(.lp lo0p 0 0)] [(lo0p, 1, [(cP .u64 r0)])] (fun x L => x = (cP .u64 r.1) ∧ L = [(lo0p, 1, [(cP .u64 r.2)])]) := by
  intro F H0 hO
  obtain ⟨Fh, Fe, Fg⟩ := F
  refine dG Try.func107 ?_
  unfold kS at h0
  refine aS aD 1 [] [] ?_
  refine aO ?_
  refine fN (fK []) aD 10 ?_
  refine lH 2 ?_
  refine fD 0 lo0p 1 0 (cP .u64 r0) (cP .u64 r0) [(cP .u64 r0)] hO rfl ?_
  refine lH 5 ?_
  refine fD 0 lo0p 1 0 (cP .u64 r0) (cP .u64 r0) [(cP .u64 r0)] hO rfl ?_
  obtain ⟨c1, h0⟩ := aU h0
  refine cB 9 [0 ≤ (13 : Int)] ⟨c1, trivial⟩ ?_
  refine jR 0 lo0p 1 0 (cP .u64 r0) (cP .u64 (bK .xor .u64 r0 (IntKind.u64.wrap (r0 * 2 ^ (min (Int.toNat (13 : Int)) 64))))) [(cP .u64 r0)] [(lo0p, 1, [(cP .u64 (bK .xor .u64 r0 (IntKind.u64.wrap (r0 * 2 ^ (min (Int.toNat (13 : Int)) 64)))))])] hO rfl (by kernel_rfl) ?_
  intro H hO
  refine lW (by kernel_rfl) ?_
  refine bX [] [] ?_
  refine aO ?_
  refine fN (fK []) aD 10 ?_
  refine lH 2 ?_
  refine fD 0 lo0p 1 0 (cP .u64 (bK .xor .u64 r0 (IntKind.u64.wrap (r0 * 2 ^ (min (Int.toNat (13 : Int)) 64))))) (cP .u64 (bK .xor .u64 r0 (IntKind.u64.wrap (r0 * 2 ^ (min (Int.toNat (13 : Int)) 64))))) [(cP .u64 (bK .xor .u64 r0 (IntKind.u64.wrap (r0 * 2 ^ (min (Int.toNat (13 : Int)) 64)))))] hO rfl ?_
  refine lH 5 ?_
  refine fD 0 lo0p 1 0 (cP .u64 (bK .xor .u64 r0 (IntKind.u64.wrap (r0 * 2 ^ (min (Int.toNat (13 : Int)) 64))))) (cP .u64 (bK .xor .u64 r0 (IntKind.u64.wrap (r0 * 2 ^ (min (Int.toNat (13 : Int)) 64))))) [(cP .u64 (bK .xor .u64 r0 (IntKind.u64.wrap (r0 * 2 ^ (min (Int.toNat (13 : Int)) 64)))))] hO rfl ?_
  obtain ⟨c2, h0⟩ := aU h0
  refine cB 9 [0 ≤ (7 : Int)] ⟨c2, trivial⟩ ?_
  refine jR 0 lo0p 1 0 (cP .u64 (bK .xor .u64 r0 (IntKind.u64.wrap (r0 * 2 ^ (min (Int.toNat (13 : Int)) 64))))) (cP .u64 (bK .xor .u64 (bK .xor .u64 r0 (IntKind.u64.wrap (r0 * 2 ^ (min (Int.toNat (13 : Int)) 64)))) (Int.fdiv (bK .xor .u64 r0 (IntKind.u64.wrap (r0 * 2 ^ (min (Int.toNat (13 : Int)) 64)))) (2 ^ (min (Int.toNat (7 : Int)) 64))))) [(cP .u64 (bK .xor .u64 r0 (IntKind.u64.wrap (r0 * 2 ^ (min (Int.toNat (13 : Int)) 64)))))] [(lo0p, 1, [(cP .u64 (bK .xor .u64 (bK .xor .u64 r0 (IntKind.u64.wrap (r0 * 2 ^ (min (Int.toNat (13 : Int)) 64)))) (Int.fdiv (bK .xor .u64 r0 (IntKind.u64.wrap (r0 * 2 ^ (min (Int.toNat (13 : Int)) 64)))) (2 ^ (min (Int.toNat (7 : Int)) 64)))))])] hO rfl (by kernel_rfl) ?_
  intro H hO
  refine lW (by kernel_rfl) ?_
  refine bX [] [] ?_
  refine aO ?_
  refine fN (fK []) aD 10 ?_
  refine lH 2 ?_
  refine fD 0 lo0p 1 0 (cP .u64 (bK .xor .u64 (bK .xor .u64 r0 (IntKind.u64.wrap (r0 * 2 ^ (min (Int.toNat (13 : Int)) 64)))) (Int.fdiv (bK .xor .u64 r0 (IntKind.u64.wrap (r0 * 2 ^ (min (Int.toNat (13 : Int)) 64)))) (2 ^ (min (Int.toNat (7 : Int)) 64))))) (cP .u64 (bK .xor .u64 (bK .xor .u64 r0 (IntKind.u64.wrap (r0 * 2 ^ (min (Int.toNat (13 : Int)) 64)))) (Int.fdiv (bK .xor .u64 r0 (IntKind.u64.wrap (r0 * 2 ^ (min (Int.toNat (13 : Int)) 64)))) (2 ^ (min (Int.toNat (7 : Int)) 64))))) [(cP .u64 (bK .xor .u64 (bK .xor .u64 r0 (IntKind.u64.wrap (r0 * 2 ^ (min (Int.toNat (13 : Int)) 64)))) (Int.fdiv (bK .xor .u64 r0 (IntKind.u64.wrap (r0 * 2 ^ (min (Int.toNat (13 : Int)) 64)))) (2 ^ (min (Int.toNat (7 : Int)) 64)))))] hO rfl ?_
  refine lH 5 ?_
  refine fD 0 lo0p 1 0 (cP .u64 (bK .xor .u64 (bK .xor .u64 r0 (IntKind.u64.wrap (r0 * 2 ^ (min (Int.toNat (13 : Int)) 64)))) (Int.fdiv (bK .xor .u64 r0 (IntKind.u64.wrap (r0 * 2 ^ (min (Int.toNat (13 : Int)) 64)))) (2 ^ (min (Int.toNat (7 : Int)) 64))))) (cP .u64 (bK .xor .u64 (bK .xor .u64 r0 (IntKind.u64.wrap (r0 * 2 ^ (min (Int.toNat (13 : Int)) 64)))) (Int.fdiv (bK .xor .u64 r0 (IntKind.u64.wrap (r0 * 2 ^ (min (Int.toNat (13 : Int)) 64)))) (2 ^ (min (Int.toNat (7 : Int)) 64))))) [(cP .u64 (bK .xor .u64 (bK .xor .u64 r0 (IntKind.u64.wrap (r0 * 2 ^ (min (Int.toNat (13 : Int)) 64)))) (Int.fdiv (bK .xor .u64 r0 (IntKind.u64.wrap (r0 * 2 ^ (min (Int.toNat (13 : Int)) 64)))) (2 ^ (min (Int.toNat (7 : Int)) 64)))))] hO rfl ?_
  obtain ⟨c3, h0⟩ := aU h0
  refine cB 9 [0 ≤ (17 : Int)] ⟨c3, trivial⟩ ?_
  refine jR 0 lo0p 1 0 (cP .u64 (bK .xor .u64 (bK .xor .u64 r0 (IntKind.u64.wrap (r0 * 2 ^ (min (Int.toNat (13 : Int)) 64)))) (Int.fdiv (bK .xor .u64 r0 (IntKind.u64.wrap (r0 * 2 ^ (min (Int.toNat (13 : Int)) 64)))) (2 ^ (min (Int.toNat (7 : Int)) 64))))) (cP .u64 (bK .xor .u64 (bK .xor .u64 (bK .xor .u64 r0 (IntKind.u64.wrap (r0 * 2 ^ (min (Int.toNat (13 : Int)) 64)))) (Int.fdiv (bK .xor .u64 r0 (IntKind.u64.wrap (r0 * 2 ^ (min (Int.toNat (13 : Int)) 64)))) (2 ^ (min (Int.toNat (7 : Int)) 64)))) (IntKind.u64.wrap ((bK .xor .u64 (bK .xor .u64 r0 (IntKind.u64.wrap (r0 * 2 ^ (min (Int.toNat (13 : Int)) 64)))) (Int.fdiv (bK .xor .u64 r0 (IntKind.u64.wrap (r0 * 2 ^ (min (Int.toNat (13 : Int)) 64)))) (2 ^ (min (Int.toNat (7 : Int)) 64)))) * 2 ^ (min (Int.toNat (17 : Int)) 64))))) [(cP .u64 (bK .xor .u64 (bK .xor .u64 r0 (IntKind.u64.wrap (r0 * 2 ^ (min (Int.toNat (13 : Int)) 64)))) (Int.fdiv (bK .xor .u64 r0 (IntKind.u64.wrap (r0 * 2 ^ (min (Int.toNat (13 : Int)) 64)))) (2 ^ (min (Int.toNat (7 : Int)) 64)))))] [(lo0p, 1, [(cP .u64 (bK .xor .u64 (bK .xor .u64 (bK .xor .u64 r0 (IntKind.u64.wrap (r0 * 2 ^ (min (Int.toNat (13 : Int)) 64)))) (Int.fdiv (bK .xor .u64 r0 (IntKind.u64.wrap (r0 * 2 ^ (min (Int.toNat (13 : Int)) 64)))) (2 ^ (min (Int.toNat (7 : Int)) 64)))) (IntKind.u64.wrap ((bK .xor .u64 (bK .xor .u64 r0 (IntKind.u64.wrap (r0 * 2 ^ (min (Int.toNat (13 : Int)) 64)))) (Int.fdiv (bK .xor .u64 r0 (IntKind.u64.wrap (r0 * 2 ^ (min (Int.toNat (13 : Int)) 64)))) (2 ^ (min (Int.toNat (7 : Int)) 64)))) * 2 ^ (min (Int.toNat (17 : Int)) 64)))))])] hO rfl (by kernel_rfl) ?_
  intro H hO
  refine lW (by kernel_rfl) ?_
  refine bX [] [] ?_
  refine aO ?_
  refine aT aD 4 ?_
  refine bR 2 ?_
  refine oT 0 lo0p 1 0 (cP .u64 (bK .xor .u64 (bK .xor .u64 (bK .xor .u64 r0 (IntKind.u64.wrap (r0 * 2 ^ (min (Int.toNat (13 : Int)) 64)))) (Int.fdiv (bK .xor .u64 r0 (IntKind.u64.wrap (r0 * 2 ^ (min (Int.toNat (13 : Int)) 64)))) (2 ^ (min (Int.toNat (7 : Int)) 64)))) (IntKind.u64.wrap ((bK .xor .u64 (bK .xor .u64 r0 (IntKind.u64.wrap (r0 * 2 ^ (min (Int.toNat (13 : Int)) 64)))) (Int.fdiv (bK .xor .u64 r0 (IntKind.u64.wrap (r0 * 2 ^ (min (Int.toNat (13 : Int)) 64)))) (2 ^ (min (Int.toNat (7 : Int)) 64)))) * 2 ^ (min (Int.toNat (17 : Int)) 64))))) (cP .u64 (bK .xor .u64 (bK .xor .u64 (bK .xor .u64 r0 (IntKind.u64.wrap (r0 * 2 ^ (min (Int.toNat (13 : Int)) 64)))) (Int.fdiv (bK .xor .u64 r0 (IntKind.u64.wrap (r0 * 2 ^ (min (Int.toNat (13 : Int)) 64)))) (2 ^ (min (Int.toNat (7 : Int)) 64)))) (IntKind.u64.wrap ((bK .xor .u64 (bK .xor .u64 r0 (IntKind.u64.wrap (r0 * 2 ^ (min (Int.toNat (13 : Int)) 64)))) (Int.fdiv (bK .xor .u64 r0 (IntKind.u64.wrap (r0 * 2 ^ (min (Int.toNat (13 : Int)) 64)))) (2 ^ (min (Int.toNat (7 : Int)) 64)))) * 2 ^ (min (Int.toNat (17 : Int)) 64))))) [(cP .u64 (bK .xor .u64 (bK .xor .u64 (bK .xor .u64 r0 (IntKind.u64.wrap (r0 * 2 ^ (min (Int.toNat (13 : Int)) 64)))) (Int.fdiv (bK .xor .u64 r0 (IntKind.u64.wrap (r0 * 2 ^ (min (Int.toNat (13 : Int)) 64)))) (2 ^ (min (Int.toNat (7 : Int)) 64)))) (IntKind.u64.wrap ((bK .xor .u64 (bK .xor .u64 r0 (IntKind.u64.wrap (r0 * 2 ^ (min (Int.toNat (13 : Int)) 64)))) (Int.fdiv (bK .xor .u64 r0 (IntKind.u64.wrap (r0 * 2 ^ (min (Int.toNat (13 : Int)) 64)))) (2 ^ (min (Int.toNat (7 : Int)) 64)))) * 2 ^ (min (Int.toNat (17 : Int)) 64)))))] hO rfl ?_
  refine bE ?_
  refine bH [(0, (.lp lo0p 0 0)), (2, (cP .u64 (bK .xor .u64 (bK .xor .u64 (bK .xor .u64 r0 (IntKind.u64.wrap (r0 * 2 ^ (min (Int.toNat (13 : Int)) 64)))) (Int.fdiv (bK .xor .u64 r0 (IntKind.u64.wrap (r0 * 2 ^ (min (Int.toNat (13 : Int)) 64)))) (2 ^ (min (Int.toNat (7 : Int)) 64)))) (IntKind.u64.wrap ((bK .xor .u64 (bK .xor .u64 r0 (IntKind.u64.wrap (r0 * 2 ^ (min (Int.toNat (13 : Int)) 64)))) (Int.fdiv (bK .xor .u64 r0 (IntKind.u64.wrap (r0 * 2 ^ (min (Int.toNat (13 : Int)) 64)))) (2 ^ (min (Int.toNat (7 : Int)) 64)))) * 2 ^ (min (Int.toNat (17 : Int)) 64))))))] ?_
  refine bJ ?_
  obtain rfl := oI h0
  exact aI (BQ hO ⟨rfl, rfl⟩)

theorem sH (lo0p : Nat) (aA : (List Int)) (a1 : Int) (b2 : Int) (r : List Int) (h0 : fY aA a1 b2 = some r) : mJ Try.prog 81 lo0p 1 (List.map (eI) aA) (List.map (eI) r) [(.msl 1 lo0p 0 (List.length aA)), (eI a1), (eI b2)] (.tup []) := by
  intro H0 hl0
  refine dG Try.func81 ?_
  have hO := aL.oR hl0
  clear hl0
  obtain ⟨N0, hN0⟩ : ∃ n, n = List.length aA := ⟨_, rfl⟩
  have hN : List.length aA = N0 := hN0.symm
  unfold fY at h0
  refine aS aD 4 [2] [(6, (eI (wR (b2 - a1))))] ?_
  refine aS aD 2 [] [(15, (aF (decide ((8 : Int) ≤ (wR (b2 - a1))))))] ?_
  refine bN h0 (fun h0 => ?_) (fun h0 => ?_)
  · refine aO ?_
    refine aT aD 4 ?_
    refine bR 2 ?_
    refine oZ 1 (cP .u64 0) (by kernel_rfl) (by kernel_rfl) hO ?_
    intro lo2 H hO
    refine lT 1 lo2 1 0 (cP .u64 0) (cP .u64 (IntKind.u64.wrap (wR (b2 - a1)))) [(cP .u64 0)] [(lo0p, 1, List.map (eI) aA), (lo2, 1, [(cP .u64 (IntKind.u64.wrap (wR (b2 - a1))))])] hO rfl (by kernel_rfl) ?_
    intro H hO
    refine fM ?_
    refine bX [15] [(7, (.lp lo2 0 0))] ?_
    refine aO ?_
    refine aT aD 3 ?_
    refine bR 1 ?_
    obtain ⟨x3, hx4, h0⟩ := aV h0
    refine dU (xK (wR (b2 - a1)) _ hx4) hO ?_
    intro H hO
    refine bE ?_
    refine bX [] [(8, (cP .u64 x3))] ?_
    refine aO ?_
    refine aT aD 7 ?_
    obtain ⟨c6, h0⟩ := aU h0
    refine mX [(4 : Int) ≠ 0] ⟨c6, trivial⟩ ?_
    refine bH [(0, (.msl 1 lo0p 0 (List.length aA))), (1, (eI a1)), (6, (eI (wR (b2 - a1)))), (7, (.lp lo2 0 0)), (8, (cP .u64 x3)), (9, (eI (wR ((wR (a1 + (wR ((wR (Int.tdiv (wR (b2 - a1)) (4 : Int))) * (2 : Int))))) - (1 : Int)))))] ?_
    refine cG 0 ?_
    refine gR [(0, (.msl 1 lo0p 0 (List.length aA))), (1, (eI a1)), (6, (eI (wR (b2 - a1)))), (7, (.lp lo2 0 0)), (8, (cP .u64 x3)), (9, (eI (wR ((wR (a1 + (wR ((wR (Int.tdiv (wR (b2 - a1)) (4 : Int))) * (2 : Int))))) - (1 : Int)))))] ?_
    refine fG (fun T H => ∃ aA : List Int, ∃ jD : Int, ∃ kP : Int, ∃ iB : Int, ∃ idx9 : Int, Has T [(0, (.msl 1 lo0p 0 (List.length aA))), (1, (eI a1)), (6, (eI jD)), (7, (.lp lo2 0 0)), (8, (cP .u64 iB)), (9, (eI idx9))] ∧ aL ⟨H0, [lo0p], []⟩ H [(lo0p, 1, List.map (eI) aA), (lo2, 1, [(cP .u64 kP)])] ∧ List.length aA = N0 ∧ iL aA a1 jD kP iB idx9 = some r) ?_ ⟨aA, wR (b2 - a1), IntKind.u64.wrap (wR (b2 - a1)), x3, wR ((wR (a1 + (wR ((wR (Int.tdiv (wR (b2 - a1)) (4 : Int))) * (2 : Int))))) - (1 : Int)), .eq (by kernel_rfl), hO, hN, h0⟩
    clear hO hN h0
    rintro T H ⟨aA, jD, kP, iB, idx9, hT, hO, hN, h0⟩
    refine bF hT ?_
    clear hT
    unfold iL at h0
    obtain ⟨rr0, hl0, h0⟩ := aV h0
    refine dN (by kernel_rfl) (fun (s : List Int × Int × Int) T H => Has T [(0, (.msl 1 lo0p 0 (List.length s.1))), (1, (eI a1)), (6, (eI jD)), (7, (.lp lo2 0 0)), (8, (cP .u64 iB)), (9, (eI s.2.2))] ∧ aL ⟨H0, [lo0p], []⟩ H [(lo0p, 1, List.map (eI) s.1), (lo2, 1, [(cP .u64 s.2.1)])] ∧ List.length s.1 = N0) hl0 ⟨.eq (by kernel_rfl), hO, hN⟩ ?_
    clear hO hN
    rintro k0 s out1 T H ⟨hT, hO, hN⟩ h1 ho0
    obtain ⟨aA, kP, idx9⟩ := s
    replace h1 : cR a1 jD iB aA kP idx9 = some out1 := h1
    try dsimp only at hT
    refine bF hT ?_
    clear hT
    unfold cR at h1
    refine aO ?_
    refine aO ?_
    refine aT aD 8 ?_
    obtain ⟨c7, h1⟩ := aU h1
    refine mX [(4 : Int) ≠ 0] ⟨c7, trivial⟩ ?_
    refine bX [] [(33, (aF (decide (idx9 ≤ (wR ((wR (a1 + (wR ((wR (Int.tdiv jD (4 : Int))) * (2 : Int))))) + (1 : Int)))))))] ?_
    refine bN h1 (fun h1 => ?_) (fun h1 => ?_)
    · refine bO ?_
      refine bH [(0, (.msl 1 lo0p 0 (List.length aA))), (1, (eI a1)), (6, (eI jD)), (7, (.lp lo2 0 0)), (8, (cP .u64 iB)), (9, (eI idx9))] ?_
      refine aO ?_
      refine cG 1 ?_
      refine aO ?_
      refine aT aD 6 ?_
      obtain ⟨x9, hx10, h1⟩ := aV h1
      refine yH [(lo0p, 1, List.map (eI) aA)] [1, 0] (yC lo2 kP _ hx10) hO ?_
      intro r11 L12 H hP13 hO
      obtain ⟨rfl, rfl⟩ := hP13
      replace hO : aL ⟨H0, [lo0p], []⟩ H [(lo2, 1, [(cP .u64 x9.2)]), (lo0p, 1, List.map (eI) aA)] := hO
      refine bE ?_
      replace hO := hO.pick (L' := [(lo0p, 1, List.map (eI) aA), (lo2, 1, [(cP .u64 x9.2)])]) [1, 0] (by decide) (by kernel_rfl)
      refine bX [] [(10, (eI (wR (bK .and .u64 x9.1 (IntKind.u64.wrap (iB - (1 : Int)))))))] ?_
      refine iA (fun T H => ∃ aA : List Int, ∃ kP : Int, ∃ fB : Int, Has T [(0, (.msl 1 lo0p 0 (List.length aA))), (1, (eI a1)), (6, (eI jD)), (7, (.lp lo2 0 0)), (8, (cP .u64 iB)), (9, (eI idx9)), (10, (eI fB))] ∧ aL ⟨H0, [lo0p], []⟩ H [(lo0p, 1, List.map (eI) aA), (lo2, 1, [(cP .u64 kP)])] ∧ List.length aA = N0 ∧ eH aA a1 jD kP iB idx9 fB = some out1) ?_ ?_
      · clear hO hN h1
        rintro T H ⟨aA, kP, fB, hT, hO, hN, h1⟩
        refine bF hT ?_
        clear hT
        unfold eH at h1
        refine fN (fK []) aD 20 ?_
        obtain ⟨c14, h1⟩ := aU h1
        refine cB 11 [0 ≤ (wR (a1 + fB)) ∧ (wR (a1 + fB)) < (lN aA)] ⟨c14, trivial⟩ ?_
        refine fD 0 lo0p 1 (0 + Int.toNat (wR (a1 + fB))) (eI (gD aA (wR (a1 + fB)))) (eI (gD aA (wR (a1 + fB)))) (List.map (eI) aA) hO (bV c14) ?_
        obtain ⟨c15, h1⟩ := aU h1
        refine cB 15 [0 ≤ idx9 ∧ idx9 < (lN aA)] ⟨c15, trivial⟩ ?_
        refine fD 0 lo0p 1 (0 + Int.toNat idx9) (eI (gD aA idx9)) (eI (gD aA idx9)) (List.map (eI) aA) hO (bV c15) ?_
        obtain ⟨c16, h1⟩ := aU h1
        refine cB 17 [0 ≤ idx9 ∧ idx9 < (lN aA)] ⟨c16, trivial⟩ ?_
        refine jR 0 lo0p 1 (0 + Int.toNat idx9) (eI (gD aA idx9)) (eI (gD aA (wR (a1 + fB)))) (List.map (eI) aA) [(lo0p, 1, List.map (eI) (List.set aA (Int.toNat idx9) (gD aA (wR (a1 + fB))))), (lo2, 1, [(cP .u64 kP)])] hO (bV c16) (by simp only [List.set, fX]) ?_
        intro H hO
        replace hN : List.length (List.set aA (Int.toNat idx9) (gD aA (wR (a1 + fB)))) = N0 := by simpa using hN
        obtain ⟨c17, h1⟩ := aU h1
        refine cB 19 [0 ≤ (wR (a1 + fB)) ∧ (wR (a1 + fB)) < (lN aA)] ⟨c17, trivial⟩ ?_
        refine jR 0 lo0p 1 (0 + Int.toNat (wR (a1 + fB))) (eI (gD (List.set aA (Int.toNat idx9) (gD aA (wR (a1 + fB)))) (wR (a1 + fB)))) (eI (gD aA idx9)) (List.map (eI) (List.set aA (Int.toNat idx9) (gD aA (wR (a1 + fB))))) [(lo0p, 1, List.map (eI) (List.set (List.set aA (Int.toNat idx9) (gD aA (wR (a1 + fB)))) (Int.toNat (wR (a1 + fB))) (gD aA idx9))), (lo2, 1, [(cP .u64 kP)])] hO (mH c17 (by simp [])) (by simp only [List.set, fX]) ?_
        intro H hO
        replace hN : List.length (List.set (List.set aA (Int.toNat idx9) (gD aA (wR (a1 + fB)))) (Int.toNat (wR (a1 + fB))) (gD aA idx9)) = N0 := by simpa using hN
        refine lW (by kernel_rfl) ?_
        refine cW (l := [(0, (.msl 1 lo0p 0 (List.length (List.set (List.set aA (Int.toNat idx9) (gD aA (wR (a1 + fB)))) (Int.toNat (wR (a1 + fB))) (gD aA idx9))))), (1, (eI a1)), (6, (eI jD)), (7, (.lp lo2 0 0)), (8, (cP .u64 iB)), (9, (eI idx9))]) ⟨[(0, (.msl 1 lo0p 0 (List.length aA))), (1, (eI a1)), (6, (eI jD)), (7, (.lp lo2 0 0)), (8, (cP .u64 iB)), (9, (eI idx9))], by kernel_rfl, rfl, ⟨aN.eq (by simp []), aN.refl _, aN.refl _, aN.refl _, aN.refl _, aN.refl _, trivial⟩⟩ ?_
        refine aI (aY (aH (?_)))
        refine aT aD 3 ?_
        refine bE ?_
        exact aI (aH (⟨rfl, _, (oI h1).symm, .eq (by kernel_rfl), hO, hN⟩))
      refine aS aD 3 [] [(43, (aF (decide (jD ≤ (wR (bK .and .u64 x9.1 (IntKind.u64.wrap (iB - (1 : Int)))))))))] ?_
      refine bN h1 (fun h1 => ?_) (fun h1 => ?_)
      · refine aT aD 4 ?_
        refine bE ?_
        exact aI (aH (⟨rfl, _, _, _, .eq (by kernel_rfl), hO, hN, h1⟩))
      refine bO ?_
      exact aI (aH (⟨rfl, _, _, _, .eq (by kernel_rfl), hO, hN, h1⟩))
    refine iP 0 ?_
    replace hO := hO.pick (L' := [(lo0p, 1, List.map (eI) aA)]) [0] (by decide) (by kernel_rfl)
    obtain rfl := oI h1
    obtain rfl : _ = rr0 := ho0
    replace h0 : some aA = some r := h0
    obtain rfl := oI h0
    exact aI (aW (aW (cC (vX (x := (.tup [])) (by kernel_rfl) (aN.refl _) ⟨rfl, hO.ext, hO.at 0 (by kernel_rfl), by first | rfl | (simp only [List.length_map]; exact hN.trans hN0)⟩))))
  refine bO ?_
  obtain rfl := oI h0
  exact aI (vX (x := (.tup [])) (by kernel_rfl) (aN.refl _) ⟨rfl, hO.ext, hO.at 0 (by kernel_rfl), by first | rfl | (simp only [List.length_map]; exact hN.trans hN0)⟩)

theorem mR (lo0p : Nat) (aA : (List Int)) (a1 : Int) (b2 : Int) (lo3p : Nat) (pU : Int) (r : ((Int × Int) × Int)) (h0 : fJ aA a1 b2 pU = some r) : wH Try.prog 113 [(.msl 1 lo0p 0 (List.length aA)), (eI a1), (eI b2), (.lp lo3p 0 0)] [(lo0p, 1, List.map (eI) aA), (lo3p, 1, [(eI pU)])] (fun x L => x = (.tup [(eI r.1.1), (eI r.1.2)]) ∧ L = [(lo0p, 1, List.map (eI) aA), (lo3p, 1, [(eI r.2)])]) := by
  intro F H0 hO
  obtain ⟨Fh, Fe, Fg⟩ := F
  refine dG Try.func113 ?_
  unfold fJ at h0
  refine aS aD 2 [] [] ?_
  refine aO ?_
  refine aO ?_
  refine fN (fK [18]) aD 9 ?_
  obtain ⟨c1, h0⟩ := aU h0
  refine cB 3 [0 ≤ b2 ∧ b2 < (lN aA)] ⟨c1, trivial⟩ ?_
  refine fD 0 lo0p 1 (0 + Int.toNat b2) (eI (gD aA b2)) (eI (gD aA b2)) (List.map (eI) aA) hO (bV c1) ?_
  obtain ⟨c2, h0⟩ := aU h0
  refine cB 7 [0 ≤ a1 ∧ a1 < (lN aA)] ⟨c2, trivial⟩ ?_
  refine fD 0 lo0p 1 (0 + Int.toNat a1) (eI (gD aA a1)) (eI (gD aA a1)) (List.map (eI) aA) hO (bV c2) ?_
  obtain ⟨x3, hx4, h0⟩ := aV h0
  refine DB (eU (gD aA b2) (gD aA a1) _ hx4) hO ?_
  intro H hO
  refine lW (by kernel_rfl) ?_
  refine bX [] [(18, (aF x3))] ?_
  refine bN h0 (fun h0 => ?_) (fun h0 => ?_)
  · refine aO ?_
    refine aT aD 6 ?_
    refine bR 2 ?_
    refine oT 1 lo3p 1 0 (eI pU) (eI pU) [(eI pU)] hO rfl ?_
    refine bR 5 ?_
    refine lT 1 lo3p 1 0 (eI pU) (eI (wR (pU + (1 : Int)))) [(eI pU)] [(lo0p, 1, List.map (eI) aA), (lo3p, 1, [(eI (wR (pU + (1 : Int))))])] hO rfl (by kernel_rfl) ?_
    intro H hO
    refine fM ?_
    refine bX [18] [] ?_
    refine aS aD 4 [1, 2] [(8, (eI b2)), (9, (eI a1))] ?_
    refine bJ ?_
    obtain rfl := oI h0
    exact aI (aR (BQ hO ⟨rfl, rfl⟩))
  refine bO ?_
  refine bH [(0, (.msl 1 lo0p 0 (List.length aA))), (1, (eI a1)), (2, (eI b2)), (3, (.lp lo3p 0 0))] ?_
  refine aS aD 4 [1, 2] [(8, (eI a1)), (9, (eI b2))] ?_
  refine bJ ?_
  obtain rfl := oI h0
  exact aI (BQ hO ⟨rfl, rfl⟩)

theorem pT (lo0p : Nat) (aA : (List Int)) (a1 : Int) (b2 : Int) (c3 : Int) (lo4p : Nat) (AM : Int) (r : (Int × Int)) (h0 : gW aA a1 b2 c3 AM = some r) : wH Try.prog 109 [(.msl 1 lo0p 0 (List.length aA)), (eI a1), (eI b2), (eI c3), (.lp lo4p 0 0)] [(lo0p, 1, List.map (eI) aA), (lo4p, 1, [(eI AM)])] (fun x L => x = (eI r.1) ∧ L = [(lo0p, 1, List.map (eI) aA), (lo4p, 1, [(eI r.2)])]) := by
  intro F H0 hO
  obtain ⟨Fh, Fe, Fg⟩ := F
  refine dG Try.func109 ?_
  unfold gW at h0
  refine aS aD 1 [] [] ?_
  refine aO ?_
  refine aT aD 10 ?_
  refine bR 4 ?_
  obtain ⟨x1, hx2, h0⟩ := aV h0
  refine yH [] [0, 1] (mR lo0p aA a1 b2 lo4p AM _ hx2) hO ?_
  intro r3 L4 H hP5 hO
  obtain ⟨rfl, rfl⟩ := hP5
  replace hO : aL ⟨Fh, Fe, Fg⟩ H [(lo0p, 1, List.map (eI) aA), (lo4p, 1, [(eI x1.2)])] := hO
  refine bE ?_
  refine bX [1, 2] [(1, (eI x1.1.1)), (2, (eI x1.1.2))] ?_
  refine aO ?_
  refine aT aD 10 ?_
  refine bR 4 ?_
  obtain ⟨x6, hx7, h0⟩ := aV h0
  refine yH [] [0, 1] (mR lo0p aA x1.1.2 c3 lo4p x1.2 _ hx7) hO ?_
  intro r8 L9 H hP10 hO
  obtain ⟨rfl, rfl⟩ := hP10
  replace hO : aL ⟨Fh, Fe, Fg⟩ H [(lo0p, 1, List.map (eI) aA), (lo4p, 1, [(eI x6.2)])] := hO
  refine bE ?_
  refine bX [2, 3] [(2, (eI x6.1.1))] ?_
  refine aO ?_
  refine aT aD 10 ?_
  refine bR 4 ?_
  obtain ⟨x11, hx12, h0⟩ := aV h0
  refine yH [] [0, 1] (mR lo0p aA x1.1.1 x6.1.1 lo4p x6.2 _ hx12) hO ?_
  intro r13 L14 H hP15 hO
  obtain ⟨rfl, rfl⟩ := hP15
  replace hO : aL ⟨Fh, Fe, Fg⟩ H [(lo0p, 1, List.map (eI) aA), (lo4p, 1, [(eI x11.2)])] := hO
  refine bE ?_
  refine bX [1, 2] [(2, (eI x11.1.2))] ?_
  refine cH aD 2 [(0, (.msl 1 lo0p 0 (List.length aA))), (4, (.lp lo4p 0 0)), (10, (eI x11.1.2))] ?_
  refine bJ ?_
  obtain rfl := oI h0
  exact aI (BQ hO ⟨rfl, rfl⟩)

theorem kL (lo0p : Nat) (aA : (List Int)) (a1 : Int) (lo2p : Nat) (BK : Int) (r : (Int × Int)) (h0 : dM aA a1 BK = some r) : wH Try.prog 108 [(.msl 1 lo0p 0 (List.length aA)), (eI a1), (.lp lo2p 0 0)] [(lo0p, 1, List.map (eI) aA), (lo2p, 1, [(eI BK)])] (fun x L => x = (eI r.1) ∧ L = [(lo0p, 1, List.map (eI) aA), (lo2p, 1, [(eI r.2)])]) := by
  intro F H0 hO
  obtain ⟨Fh, Fe, Fg⟩ := F
  refine dG Try.func108 ?_
  unfold dM at h0
  refine aS aD 1 [] [] ?_
  refine aO ?_
  refine aT aD 9 ?_
  refine bR 7 ?_
  obtain ⟨x1, hx2, h0⟩ := aV h0
  refine yH [] [0, 1] (pT lo0p aA (wR (a1 - (1 : Int))) a1 (wR (a1 + (1 : Int))) lo2p BK _ hx2) hO ?_
  intro r3 L4 H hP5 hO
  obtain ⟨rfl, rfl⟩ := hP5
  replace hO : aL ⟨Fh, Fe, Fg⟩ H [(lo0p, 1, List.map (eI) aA), (lo2p, 1, [(eI x1.2)])] := hO
  refine bE ?_
  refine bX [1] [(6, (eI x1.1))] ?_
  refine bJ ?_
  obtain rfl := oI h0
  exact aI (BQ hO ⟨rfl, rfl⟩)

theorem tG (lo0p : Nat) (aA : (List Int)) (a1 : Int) (b2 : Int) (r : (Int × Int)) (h0 : gS aA a1 b2 = some r) : wH Try.prog 82 [(.msl 1 lo0p 0 (List.length aA)), (eI a1), (eI b2)] [(lo0p, 1, List.map (eI) aA)] (fun x L => x = (.tup [(eI r.1), (eI r.2)]) ∧ L = [(lo0p, 1, List.map (eI) aA)]) := by
  intro F H0 hO
  obtain ⟨Fh, Fe, Fg⟩ := F
  refine dG Try.func82 ?_
  unfold gS at h0
  refine aS aD 2 [] [] ?_
  refine aS aD 4 [2] [(8, (eI (wR (b2 - a1))))] ?_
  refine aO ?_
  refine aT aD 1 ?_
  refine oZ 1 (eI 0) (by kernel_rfl) (by kernel_rfl) hO ?_
  intro lo1 H hO
  refine fM ?_
  refine bX [] [(9, (.lp lo1 0 0))] ?_
  refine aO ?_
  refine aT aD 6 ?_
  obtain ⟨c2, h0⟩ := aU h0
  refine mX [(4 : Int) ≠ 0] ⟨c2, trivial⟩ ?_
  refine bX [] [(10, (eI (wR (a1 + (wR ((wR (Int.tdiv (wR (b2 - a1)) (4 : Int))) * (1 : Int)))))))] ?_
  refine aO ?_
  refine aT aD 6 ?_
  obtain ⟨c3, h0⟩ := aU h0
  refine mX [(4 : Int) ≠ 0] ⟨c3, trivial⟩ ?_
  refine bH [(0, (.msl 1 lo0p 0 (List.length aA))), (1, (eI a1)), (8, (eI (wR (b2 - a1)))), (9, (.lp lo1 0 0)), (10, (eI (wR (a1 + (wR ((wR (Int.tdiv (wR (b2 - a1)) (4 : Int))) * (1 : Int))))))), (11, (eI (wR (a1 + (wR ((wR (Int.tdiv (wR (b2 - a1)) (4 : Int))) * (2 : Int)))))))] ?_
  refine aO ?_
  refine aT aD 6 ?_
  obtain ⟨c4, h0⟩ := aU h0
  refine mX [(4 : Int) ≠ 0] ⟨c4, trivial⟩ ?_
  refine bX [1] [(12, (eI (wR (a1 + (wR ((wR (Int.tdiv (wR (b2 - a1)) (4 : Int))) * (3 : Int)))))))] ?_
  refine iA (fun T H => ∃ lI : Int, ∃ j11 : Int, Has T [(0, (.msl 1 lo0p 0 (List.length aA))), (9, (.lp lo1 0 0)), (11, (eI j11))] ∧ aL ⟨Fh, Fe, Fg⟩ H [(lo0p, 1, List.map (eI) aA), (lo1, 1, [(eI lI)])] ∧ eV aA lI j11 = some r) ?_ ?_
  · clear hO h0
    rintro T H ⟨lI, j11, hT, hO, h0⟩
    refine bF hT ?_
    clear hT
    unfold eV at h0
    refine aO ?_
    refine aT aD 1 ?_
    refine oT 1 lo1 1 0 (eI lI) (eI lI) [(eI lI)] hO rfl ?_
    refine fM ?_
    replace hO := hO.pick (L' := [(lo0p, 1, List.map (eI) aA)]) [0] (by decide) (by kernel_rfl)
    refine bX [9] [(49, (eI lI))] ?_
    refine cG 0 ?_
    refine aS aD 2 [] [(51, (aF (decide (lI = (0 : Int)))))] ?_
    refine bN h0 (fun h0 => ?_) (fun h0 => ?_)
    · refine aS aD 3 [11, 49, 51] [(6, (eI j11)), (7, (eI (1 : Int)))] ?_
      refine bJ ?_
      obtain rfl := oI h0
      exact aI (bM (BQ hO ⟨rfl, rfl⟩))
    refine aS aD 2 [49, 51] [(54, (aF (decide (lI = (12 : Int)))))] ?_
    refine bN h0 (fun h0 => ?_) (fun h0 => ?_)
    · refine aS aD 3 [11, 54] [(6, (eI j11)), (7, (eI (2 : Int)))] ?_
      refine bJ ?_
      obtain rfl := oI h0
      exact aI (bM (BQ hO ⟨rfl, rfl⟩))
    refine aS aD 3 [11, 54] [(6, (eI j11)), (7, (eI (0 : Int)))] ?_
    refine bJ ?_
    obtain rfl := oI h0
    exact aI (bM (BQ hO ⟨rfl, rfl⟩))
  refine aS aD 2 [] [(32, (aF (decide ((8 : Int) ≤ (wR (b2 - a1))))))] ?_
  refine bN h0 (fun h0 => ?_) (fun h0 => ?_)
  · refine iA (fun T H => ∃ lI : Int, ∃ i10 : Int, ∃ j11 : Int, ∃ k12 : Int, Has T [(0, (.msl 1 lo0p 0 (List.length aA))), (9, (.lp lo1 0 0)), (10, (eI i10)), (11, (eI j11)), (12, (eI k12))] ∧ aL ⟨Fh, Fe, Fg⟩ H [(lo0p, 1, List.map (eI) aA), (lo1, 1, [(eI lI)])] ∧ eW aA lI i10 j11 k12 = some r) ?_ ?_
    · clear hO h0
      rintro T H ⟨lI, i10, j11, k12, hT, hO, h0⟩
      refine bF hT ?_
      clear hT
      unfold eW at h0
      refine aT aD 6 ?_
      refine bR 4 ?_
      obtain ⟨x8, hx9, h0⟩ := aV h0
      refine yH [] [0, 1] (pT lo0p aA i10 j11 k12 lo1 lI _ hx9) hO ?_
      intro r10 L11 H hP12 hO
      obtain ⟨rfl, rfl⟩ := hP12
      replace hO : aL ⟨Fh, Fe, Fg⟩ H [(lo0p, 1, List.map (eI) aA), (lo1, 1, [(eI x8.2)])] := hO
      refine bE ?_
      exact aI (aH (⟨rfl, _, _, .eq (by kernel_rfl), hO, h0⟩))
    refine aS aD 2 [8, 32] [(34, (aF (decide ((50 : Int) ≤ (wR (b2 - a1))))))] ?_
    refine bN h0 (fun h0 => ?_) (fun h0 => ?_)
    · refine aO ?_
      refine aT aD 4 ?_
      refine bR 2 ?_
      obtain ⟨x14, hx15, h0⟩ := aV h0
      refine yH [] [0, 1] (kL lo0p aA (wR (a1 + (wR ((wR (Int.tdiv (wR (b2 - a1)) (4 : Int))) * (1 : Int))))) lo1 0 _ hx15) hO ?_
      intro r16 L17 H hP18 hO
      obtain ⟨rfl, rfl⟩ := hP18
      replace hO : aL ⟨Fh, Fe, Fg⟩ H [(lo0p, 1, List.map (eI) aA), (lo1, 1, [(eI x14.2)])] := hO
      refine bE ?_
      refine bX [10, 34] [(10, (eI x14.1))] ?_
      refine aO ?_
      refine aT aD 4 ?_
      refine bR 2 ?_
      obtain ⟨x19, hx20, h0⟩ := aV h0
      refine yH [] [0, 1] (kL lo0p aA (wR (a1 + (wR ((wR (Int.tdiv (wR (b2 - a1)) (4 : Int))) * (2 : Int))))) lo1 x14.2 _ hx20) hO ?_
      intro r21 L22 H hP23 hO
      obtain ⟨rfl, rfl⟩ := hP23
      replace hO : aL ⟨Fh, Fe, Fg⟩ H [(lo0p, 1, List.map (eI) aA), (lo1, 1, [(eI x19.2)])] := hO
      refine bE ?_
      refine bH [(0, (.msl 1 lo0p 0 (List.length aA))), (9, (.lp lo1 0 0)), (10, (eI x14.1)), (11, (eI x19.1)), (12, (eI (wR (a1 + (wR ((wR (Int.tdiv (wR (b2 - a1)) (4 : Int))) * (3 : Int)))))))] ?_
      refine aT aD 4 ?_
      refine bR 2 ?_
      obtain ⟨x24, hx25, h0⟩ := aV h0
      refine yH [] [0, 1] (kL lo0p aA (wR (a1 + (wR ((wR (Int.tdiv (wR (b2 - a1)) (4 : Int))) * (3 : Int))))) lo1 x19.2 _ hx25) hO ?_
      intro r26 L27 H hP28 hO
      obtain ⟨rfl, rfl⟩ := hP28
      replace hO : aL ⟨Fh, Fe, Fg⟩ H [(lo0p, 1, List.map (eI) aA), (lo1, 1, [(eI x24.2)])] := hO
      refine bE ?_
      exact aI (aH (⟨rfl, _, _, _, _, .eq (by kernel_rfl), hO, h0⟩))
    refine bO ?_
    exact aI (aH (⟨rfl, _, _, _, _, .eq (by kernel_rfl), hO, h0⟩))
  refine bO ?_
  exact aI (aH (⟨rfl, _, _, .eq (by kernel_rfl), hO, h0⟩))

theorem tA (lo0p : Nat) (aA : (List Int)) (a1 : Int) (b2 : Int) (r : List Int) (h0 : gL aA a1 b2 = some r) : mJ Try.prog 83 lo0p 1 (List.map (eI) aA) (List.map (eI) r) [(.msl 1 lo0p 0 (List.length aA)), (eI a1), (eI b2)] (.tup []) := by
  intro H0 hl0
  refine dG Try.func83 ?_
  have hO := aL.oR hl0
  clear hl0
  obtain ⟨N0, hN0⟩ : ∃ n, n = List.length aA := ⟨_, rfl⟩
  have hN : List.length aA = N0 := hN0.symm
  unfold gL at h0
  refine aS aD 2 [1] [(6, (eI a1))] ?_
  refine aS aD 3 [2] [(7, (eI (wR (b2 - (1 : Int)))))] ?_
  refine cG 0 ?_
  refine gR [(0, (.msl 1 lo0p 0 (List.length aA))), (6, (eI a1)), (7, (eI (wR (b2 - (1 : Int)))))] ?_
  refine fG (fun T H => ∃ aA : List Int, ∃ i6 : Int, ∃ j7 : Int, Has T [(0, (.msl 1 lo0p 0 (List.length aA))), (6, (eI i6)), (7, (eI j7))] ∧ aL ⟨H0, [lo0p], []⟩ H [(lo0p, 1, List.map (eI) aA)] ∧ List.length aA = N0 ∧ iU aA i6 j7 = some r) ?_ ⟨aA, a1, wR (b2 - (1 : Int)), .eq (by kernel_rfl), hO, hN, h0⟩
  clear hO hN h0
  rintro T H ⟨aA, i6, j7, hT, hO, hN, h0⟩
  refine bF hT ?_
  clear hT
  unfold iU at h0
  obtain ⟨rr0, hl0, h0⟩ := aV h0
  refine dN (by kernel_rfl) (fun (s : List Int × Int × Int) T H => Has T [(0, (.msl 1 lo0p 0 (List.length s.1))), (6, (eI s.2.1)), (7, (eI s.2.2))] ∧ aL ⟨H0, [lo0p], []⟩ H [(lo0p, 1, List.map (eI) s.1)] ∧ List.length s.1 = N0) hl0 ⟨.eq (by kernel_rfl), hO, hN⟩ ?_
  clear hO hN
  rintro k0 s out1 T H ⟨hT, hO, hN⟩ h1 ho0
  obtain ⟨aA, i6, j7⟩ := s
  replace h1 : dA aA i6 j7 = some out1 := h1
  try dsimp only at hT
  refine bF hT ?_
  clear hT
  unfold dA at h1
  refine aO ?_
  refine aS aD 3 [] [(13, (aF (decide (i6 < j7))))] ?_
  refine bN h1 (fun h1 => ?_) (fun h1 => ?_)
  · refine bO ?_
    refine bH [(0, (.msl 1 lo0p 0 (List.length aA))), (6, (eI i6)), (7, (eI j7))] ?_
    refine cG 1 ?_
    refine aO ?_
    refine fN (fK []) aD 16 ?_
    obtain ⟨c2, h1⟩ := aU h1
    refine cB 7 [0 ≤ j7 ∧ j7 < (lN aA)] ⟨c2, trivial⟩ ?_
    refine fD 0 lo0p 1 (0 + Int.toNat j7) (eI (gD aA j7)) (eI (gD aA j7)) (List.map (eI) aA) hO (bV c2) ?_
    obtain ⟨c3, h1⟩ := aU h1
    refine cB 11 [0 ≤ i6 ∧ i6 < (lN aA)] ⟨c3, trivial⟩ ?_
    refine fD 0 lo0p 1 (0 + Int.toNat i6) (eI (gD aA i6)) (eI (gD aA i6)) (List.map (eI) aA) hO (bV c3) ?_
    obtain ⟨c4, h1⟩ := aU h1
    refine cB 13 [0 ≤ i6 ∧ i6 < (lN aA)] ⟨c4, trivial⟩ ?_
    refine jR 0 lo0p 1 (0 + Int.toNat i6) (eI (gD aA i6)) (eI (gD aA j7)) (List.map (eI) aA) [(lo0p, 1, List.map (eI) (List.set aA (Int.toNat i6) (gD aA j7)))] hO (bV c4) (by simp only [List.set, fX]) ?_
    intro H hO
    replace hN : List.length (List.set aA (Int.toNat i6) (gD aA j7)) = N0 := by simpa using hN
    obtain ⟨c5, h1⟩ := aU h1
    refine cB 15 [0 ≤ j7 ∧ j7 < (lN aA)] ⟨c5, trivial⟩ ?_
    refine jR 0 lo0p 1 (0 + Int.toNat j7) (eI (gD (List.set aA (Int.toNat i6) (gD aA j7)) j7)) (eI (gD aA i6)) (List.map (eI) (List.set aA (Int.toNat i6) (gD aA j7))) [(lo0p, 1, List.map (eI) (List.set (List.set aA (Int.toNat i6) (gD aA j7)) (Int.toNat j7) (gD aA i6)))] hO (mH c5 (by simp [])) (by simp only [List.set, fX]) ?_
    intro H hO
    replace hN : List.length (List.set (List.set aA (Int.toNat i6) (gD aA j7)) (Int.toNat j7) (gD aA i6)) = N0 := by simpa using hN
    refine lW (by kernel_rfl) ?_
    refine cW (l := [(0, (.msl 1 lo0p 0 (List.length (List.set (List.set aA (Int.toNat i6) (gD aA j7)) (Int.toNat j7) (gD aA i6))))), (6, (eI i6)), (7, (eI j7))]) ⟨[(0, (.msl 1 lo0p 0 (List.length aA))), (6, (eI i6)), (7, (eI j7))], by kernel_rfl, rfl, ⟨aN.eq (by simp []), aN.refl _, aN.refl _, trivial⟩⟩ ?_
    refine aI (aH (?_))
    refine aS aD 3 [6] [(6, (eI (wR (i6 + (1 : Int)))))] ?_
    refine aT aD 3 ?_
    refine bE ?_
    exact aI (aY (aH (⟨rfl, _, (oI h1).symm, .eq (by kernel_rfl), hO, hN⟩)))
  refine iP 0 ?_
  obtain rfl := oI h1
  obtain rfl : _ = rr0 := ho0
  replace h0 : some aA = some r := h0
  obtain rfl := oI h0
  exact aI (aW (aW (cC (vX (x := (.tup [])) (by kernel_rfl) (aN.refl _) ⟨rfl, hO.ext, hO.at 0 (by kernel_rfl), by first | rfl | (simp only [List.length_map]; exact hN.trans hN0)⟩))))

theorem oY (lo0p : Nat) (aA : (List Int)) (a1 : Int) (b2 : Int) (r : (Bool × List Int)) (h0 : eF aA a1 b2 = some r) : mJ Try.prog 84 lo0p 1 (List.map (eI) aA) (List.map (eI) r.2) [(.msl 1 lo0p 0 (List.length aA)), (eI a1), (eI b2)] (aF r.1) := by
  intro H0 hl0
  refine dG Try.func84 ?_
  have hO := aL.oR hl0
  clear hl0
  obtain ⟨N0, hN0⟩ : ∃ n, n = List.length aA := ⟨_, rfl⟩
  have hN : List.length aA = N0 := hN0.symm
  unfold eF at h0
  refine aS aD 1 [] [] ?_
  refine aS aD 3 [] [(7, (eI (wR (a1 + (1 : Int)))))] ?_
  refine iA (fun T H => ∃ aA : List Int, Has T [(0, (.msl 1 lo0p 0 (List.length aA)))] ∧ aL ⟨H0, [lo0p], []⟩ H [(lo0p, 1, List.map (eI) aA)] ∧ List.length aA = N0 ∧ dY aA = some r) ?_ ?_
  · clear hO hN h0
    rintro T H ⟨aA, hT, hO, hN, h0⟩
    refine bF hT ?_
    clear hT
    unfold dY at h0
    refine aS aD 1 [] [(6, (aF false))] ?_
    refine bJ ?_
    obtain rfl := oI h0
    exact aI (jY (x := (aF false)) (by kernel_rfl) (aN.refl _) ⟨rfl, hO.ext, hO.at 0 (by kernel_rfl), by first | rfl | (simp only [List.length_map]; exact hN.trans hN0)⟩)
  refine aS aD 1 [] [(8, (eI (0 : Int)))] ?_
  refine cG 0 ?_
  refine gR [(0, (.msl 1 lo0p 0 (List.length aA))), (1, (eI a1)), (2, (eI b2)), (7, (eI (wR (a1 + (1 : Int))))), (8, (eI (0 : Int)))] ?_
  refine fG (fun T H => ∃ aA : List Int, ∃ i7 : Int, ∃ j8 : Int, Has T [(0, (.msl 1 lo0p 0 (List.length aA))), (1, (eI a1)), (2, (eI b2)), (7, (eI i7)), (8, (eI j8))] ∧ aL ⟨H0, [lo0p], []⟩ H [(lo0p, 1, List.map (eI) aA)] ∧ List.length aA = N0 ∧ fP aA a1 b2 i7 j8 = some r) ?_ ⟨aA, wR (a1 + (1 : Int)), (0 : Int), .eq (by kernel_rfl), hO, hN, h0⟩
  clear hO hN h0
  rintro T H ⟨aA, i7, j8, hT, hO, hN, h0⟩
  refine bF hT ?_
  clear hT
  unfold fP at h0
  obtain ⟨rr0, hl0, h0⟩ := aV h0
  refine dN (by kernel_rfl) (fun (s : List Int × Int × Int) T H => Has T [(0, (.msl 1 lo0p 0 (List.length s.1))), (1, (eI a1)), (2, (eI b2)), (7, (eI s.2.1)), (8, (eI s.2.2))] ∧ aL ⟨H0, [lo0p], []⟩ H [(lo0p, 1, List.map (eI) s.1)] ∧ List.length s.1 = N0) hl0 ⟨.eq (by kernel_rfl), hO, hN⟩ ?_
  clear hO hN
  rintro k0 s out1 T H ⟨hT, hO, hN⟩ h1 ho0
  obtain ⟨aA, i7, j8⟩ := s
  replace h1 : bS a1 b2 aA i7 j8 = some out1 := h1
  try dsimp only at hT
  refine bF hT ?_
  clear hT
  unfold bS at h1
  refine aO ?_
  refine aS aD 2 [] [(14, (aF (decide (j8 < (5 : Int)))))] ?_
  refine bN h1 (fun h1 => ?_) (fun h1 => ?_)
  · refine bO ?_
    refine bH [(0, (.msl 1 lo0p 0 (List.length aA))), (1, (eI a1)), (2, (eI b2)), (7, (eI i7)), (8, (eI j8))] ?_
    refine iA (fun T H => ∃ aA : List Int, ∃ i7 : Int, Has T [(0, (.msl 1 lo0p 0 (List.length aA))), (1, (eI a1)), (2, (eI b2)), (7, (eI i7)), (8, (eI j8))] ∧ aL ⟨H0, [lo0p], []⟩ H [(lo0p, 1, List.map (eI) aA)] ∧ List.length aA = N0 ∧ dB aA a1 b2 i7 j8 = some out1) ?_ ?_
    · clear hO hN h1
      rintro T H ⟨aA, i7, hT, hO, hN, h1⟩
      refine bF hT ?_
      clear hT
      unfold dB at h1
      refine aT aD 3 ?_
      refine bE ?_
      exact aI (aH (⟨rfl, _, (oI h1).symm, .eq (by kernel_rfl), hO, hN⟩))
    refine cG 1 ?_
    refine iA (fun T H => ∃ aA : List Int, ∃ i7 : Int, Has T [(0, (.msl 1 lo0p 0 (List.length aA))), (1, (eI a1)), (2, (eI b2)), (7, (eI i7)), (8, (eI j8))] ∧ aL ⟨H0, [lo0p], []⟩ H [(lo0p, 1, List.map (eI) aA)] ∧ List.length aA = N0 ∧ dZ aA a1 b2 i7 j8 = some out1) ?_ ?_
    · clear hO hN h1
      rintro T H ⟨aA, i7, hT, hO, hN, h1⟩
      refine bF hT ?_
      clear hT
      unfold dZ at h1
      refine aO ?_
      refine aS aD 3 [] [(37, (aF (decide (i7 = b2))))] ?_
      refine bN h1 (fun h1 => ?_) (fun h1 => ?_)
      · refine aS aD 1 [1, 2, 7, 8, 37] [(6, (aF true))] ?_
        refine bJ ?_
        obtain rfl := oI h1
        obtain rfl : _ = rr0 := ho0
        replace h0 : some (true, aA) = some r := h0
        obtain rfl := oI h0
        exact aI (aR (bM (aR (aR (bM (aR (jY (x := (aF true)) (by kernel_rfl) (aN.refl _) ⟨rfl, hO.ext, hO.at 0 (by kernel_rfl), by first | rfl | (simp only [List.length_map]; exact hN.trans hN0)⟩)))))))
      refine bO ?_
      refine bH [(0, (.msl 1 lo0p 0 (List.length aA))), (1, (eI a1)), (2, (eI b2)), (7, (eI i7)), (8, (eI j8))] ?_
      refine aO ?_
      refine aS aD 4 [] [(41, (aF (decide ((wR (b2 - a1)) < (50 : Int)))))] ?_
      refine bN h1 (fun h1 => ?_) (fun h1 => ?_)
      · refine aS aD 1 [1, 2, 7, 8, 41] [(6, (aF false))] ?_
        refine bJ ?_
        obtain rfl := oI h1
        obtain rfl : _ = rr0 := ho0
        replace h0 : some (false, aA) = some r := h0
        obtain rfl := oI h0
        exact aI (aR (bM (aR (aR (bM (aR (jY (x := (aF false)) (by kernel_rfl) (aN.refl _) ⟨rfl, hO.ext, hO.at 0 (by kernel_rfl), by first | rfl | (simp only [List.length_map]; exact hN.trans hN0)⟩)))))))
      refine bO ?_
      refine bH [(0, (.msl 1 lo0p 0 (List.length aA))), (1, (eI a1)), (2, (eI b2)), (7, (eI i7)), (8, (eI j8))] ?_
      refine aO ?_
      refine fN (fK []) aD 18 ?_
      obtain ⟨c4, h1⟩ := aU h1
      refine cB 9 [0 ≤ (wR (i7 - (1 : Int))) ∧ (wR (i7 - (1 : Int))) < (lN aA)] ⟨c4, trivial⟩ ?_
      refine fD 0 lo0p 1 (0 + Int.toNat (wR (i7 - (1 : Int)))) (eI (gD aA (wR (i7 - (1 : Int))))) (eI (gD aA (wR (i7 - (1 : Int))))) (List.map (eI) aA) hO (bV c4) ?_
      obtain ⟨c5, h1⟩ := aU h1
      refine cB 13 [0 ≤ i7 ∧ i7 < (lN aA)] ⟨c5, trivial⟩ ?_
      refine fD 0 lo0p 1 (0 + Int.toNat i7) (eI (gD aA i7)) (eI (gD aA i7)) (List.map (eI) aA) hO (bV c5) ?_
      obtain ⟨c6, h1⟩ := aU h1
      refine cB 15 [0 ≤ i7 ∧ i7 < (lN aA)] ⟨c6, trivial⟩ ?_
      refine jR 0 lo0p 1 (0 + Int.toNat i7) (eI (gD aA i7)) (eI (gD aA (wR (i7 - (1 : Int))))) (List.map (eI) aA) [(lo0p, 1, List.map (eI) (List.set aA (Int.toNat i7) (gD aA (wR (i7 - (1 : Int))))))] hO (bV c6) (by simp only [List.set, fX]) ?_
      intro H hO
      replace hN : List.length (List.set aA (Int.toNat i7) (gD aA (wR (i7 - (1 : Int))))) = N0 := by simpa using hN
      obtain ⟨c7, h1⟩ := aU h1
      refine cB 17 [0 ≤ (wR (i7 - (1 : Int))) ∧ (wR (i7 - (1 : Int))) < (lN aA)] ⟨c7, trivial⟩ ?_
      refine jR 0 lo0p 1 (0 + Int.toNat (wR (i7 - (1 : Int)))) (eI (gD (List.set aA (Int.toNat i7) (gD aA (wR (i7 - (1 : Int))))) (wR (i7 - (1 : Int))))) (eI (gD aA i7)) (List.map (eI) (List.set aA (Int.toNat i7) (gD aA (wR (i7 - (1 : Int)))))) [(lo0p, 1, List.map (eI) (List.set (List.set aA (Int.toNat i7) (gD aA (wR (i7 - (1 : Int))))) (Int.toNat (wR (i7 - (1 : Int)))) (gD aA i7)))] hO (mH c7 (by simp [])) (by simp only [List.set, fX]) ?_
      intro H hO
      replace hN : List.length (List.set (List.set aA (Int.toNat i7) (gD aA (wR (i7 - (1 : Int))))) (Int.toNat (wR (i7 - (1 : Int)))) (gD aA i7)) = N0 := by simpa using hN
      refine lW (by kernel_rfl) ?_
      refine cW (l := [(0, (.msl 1 lo0p 0 (List.length (List.set (List.set aA (Int.toNat i7) (gD aA (wR (i7 - (1 : Int))))) (Int.toNat (wR (i7 - (1 : Int)))) (gD aA i7))))), (1, (eI a1)), (2, (eI b2)), (7, (eI i7)), (8, (eI j8))]) ⟨[(0, (.msl 1 lo0p 0 (List.length aA))), (1, (eI a1)), (2, (eI b2)), (7, (eI i7)), (8, (eI j8))], by kernel_rfl, rfl, ⟨aN.eq (by simp []), aN.refl _, aN.refl _, aN.refl _, aN.refl _, trivial⟩⟩ ?_
      refine aI (aH (?_))
      refine iA (fun T H => ∃ aA : List Int, Has T [(0, (.msl 1 lo0p 0 (List.length aA))), (1, (eI a1)), (2, (eI b2)), (7, (eI i7)), (8, (eI j8))] ∧ aL ⟨H0, [lo0p], []⟩ H [(lo0p, 1, List.map (eI) aA)] ∧ List.length aA = N0 ∧ cE aA a1 b2 i7 j8 = some out1) ?_ ?_
      · clear hO hN h1
        rintro T H ⟨aA, hT, hO, hN, h1⟩
        refine bF hT ?_
        clear hT
        unfold cE at h1
        refine aS aD 4 [] [(98, (aF (decide ((2 : Int) ≤ (wR (b2 - i7))))))] ?_
        refine bN h1 (fun h1 => ?_) (fun h1 => ?_)
        · refine aS aD 3 [98] [(10, (eI (wR (i7 + (1 : Int)))))] ?_
          refine cG 6 ?_
          refine gR [(0, (.msl 1 lo0p 0 (List.length aA))), (1, (eI a1)), (2, (eI b2)), (7, (eI i7)), (8, (eI j8)), (10, (eI (wR (i7 + (1 : Int)))))] ?_
          refine fG (fun T H => ∃ aA : List Int, ∃ j10 : Int, Has T [(0, (.msl 1 lo0p 0 (List.length aA))), (1, (eI a1)), (2, (eI b2)), (7, (eI i7)), (8, (eI j8)), (10, (eI j10))] ∧ aL ⟨H0, [lo0p], []⟩ H [(lo0p, 1, List.map (eI) aA)] ∧ List.length aA = N0 ∧ fQ aA a1 b2 i7 j8 j10 = some out1) ?_ ⟨aA, wR (i7 + (1 : Int)), .eq (by kernel_rfl), hO, hN, h1⟩
          clear hO hN h1
          rintro T H ⟨aA, j10, hT, hO, hN, h1⟩
          refine bF hT ?_
          clear hT
          unfold fQ at h1
          obtain ⟨rr1, hl1, h1⟩ := aV h1
          refine dN (by kernel_rfl) (fun (s : List Int × Int) T H => Has T [(0, (.msl 1 lo0p 0 (List.length s.1))), (1, (eI a1)), (2, (eI b2)), (7, (eI i7)), (8, (eI j8)), (10, (eI s.2))] ∧ aL ⟨H0, [lo0p], []⟩ H [(lo0p, 1, List.map (eI) s.1)] ∧ List.length s.1 = N0) hl1 ⟨.eq (by kernel_rfl), hO, hN⟩ ?_
          clear hO hN
          rintro k1 s out2 T H ⟨hT, hO, hN⟩ h2 ho1
          obtain ⟨aA, j10⟩ := s
          replace h2 : cL a1 b2 i7 j8 aA j10 = some out2 := h2
          try dsimp only at hT
          refine bF hT ?_
          clear hT
          unfold cL at h2
          refine aO ?_
          refine aS aD 3 [] [(103, (aF (decide (j10 < b2))))] ?_
          refine bN h2 (fun h2 => ?_) (fun h2 => ?_)
          · refine bO ?_
            refine bH [(0, (.msl 1 lo0p 0 (List.length aA))), (1, (eI a1)), (2, (eI b2)), (7, (eI i7)), (8, (eI j8)), (10, (eI j10))] ?_
            refine aO ?_
            refine cG 7 ?_
            refine aO ?_
            refine aO ?_
            refine fN (fK [115]) aD 11 ?_
            obtain ⟨c10, h2⟩ := aU h2
            refine cB 3 [0 ≤ j10 ∧ j10 < (lN aA)] ⟨c10, trivial⟩ ?_
            refine fD 0 lo0p 1 (0 + Int.toNat j10) (eI (gD aA j10)) (eI (gD aA j10)) (List.map (eI) aA) hO (bV c10) ?_
            obtain ⟨c11, h2⟩ := aU h2
            refine cB 8 [0 ≤ (wR (j10 - (1 : Int))) ∧ (wR (j10 - (1 : Int))) < (lN aA)] ⟨c11, trivial⟩ ?_
            refine fD 0 lo0p 1 (0 + Int.toNat (wR (j10 - (1 : Int)))) (eI (gD aA (wR (j10 - (1 : Int))))) (eI (gD aA (wR (j10 - (1 : Int))))) (List.map (eI) aA) hO (bV c11) ?_
            obtain ⟨x12, hx13, h2⟩ := aV h2
            refine DB (eU (gD aA j10) (gD aA (wR (j10 - (1 : Int)))) _ hx13) hO ?_
            intro H hO
            refine jS ?_
            refine bX [] [(116, (aF (!x12)))] ?_
            refine bN h2 (fun h2 => ?_) (fun h2 => ?_)
            · refine iP 6 ?_
              obtain rfl := oI h2
              obtain rfl : _ = rr1 := ho1
              replace h1 : dB aA a1 b2 i7 j8 = some out1 := h1
              exact aI (aW (sB (by kernel_rfl) (aW (aW (cC (aY (aH (⟨rfl, _, _, .eq (by kernel_rfl), hO, hN, h1⟩))))))))
            refine bO ?_
            refine bH [(0, (.msl 1 lo0p 0 (List.length aA))), (1, (eI a1)), (2, (eI b2)), (7, (eI i7)), (8, (eI j8)), (10, (eI j10))] ?_
            refine fN (fK []) aD 18 ?_
            obtain ⟨c16, h2⟩ := aU h2
            refine cB 9 [0 ≤ (wR (j10 - (1 : Int))) ∧ (wR (j10 - (1 : Int))) < (lN aA)] ⟨c16, trivial⟩ ?_
            refine fD 0 lo0p 1 (0 + Int.toNat (wR (j10 - (1 : Int)))) (eI (gD aA (wR (j10 - (1 : Int))))) (eI (gD aA (wR (j10 - (1 : Int))))) (List.map (eI) aA) hO (bV c16) ?_
            obtain ⟨c17, h2⟩ := aU h2
            refine cB 13 [0 ≤ j10 ∧ j10 < (lN aA)] ⟨c17, trivial⟩ ?_
            refine fD 0 lo0p 1 (0 + Int.toNat j10) (eI (gD aA j10)) (eI (gD aA j10)) (List.map (eI) aA) hO (bV c17) ?_
            obtain ⟨c18, h2⟩ := aU h2
            refine cB 15 [0 ≤ j10 ∧ j10 < (lN aA)] ⟨c18, trivial⟩ ?_
            refine jR 0 lo0p 1 (0 + Int.toNat j10) (eI (gD aA j10)) (eI (gD aA (wR (j10 - (1 : Int))))) (List.map (eI) aA) [(lo0p, 1, List.map (eI) (List.set aA (Int.toNat j10) (gD aA (wR (j10 - (1 : Int))))))] hO (bV c18) (by simp only [List.set, fX]) ?_
            intro H hO
            replace hN : List.length (List.set aA (Int.toNat j10) (gD aA (wR (j10 - (1 : Int))))) = N0 := by simpa using hN
            obtain ⟨c19, h2⟩ := aU h2
            refine cB 17 [0 ≤ (wR (j10 - (1 : Int))) ∧ (wR (j10 - (1 : Int))) < (lN aA)] ⟨c19, trivial⟩ ?_
            refine jR 0 lo0p 1 (0 + Int.toNat (wR (j10 - (1 : Int)))) (eI (gD (List.set aA (Int.toNat j10) (gD aA (wR (j10 - (1 : Int))))) (wR (j10 - (1 : Int))))) (eI (gD aA j10)) (List.map (eI) (List.set aA (Int.toNat j10) (gD aA (wR (j10 - (1 : Int)))))) [(lo0p, 1, List.map (eI) (List.set (List.set aA (Int.toNat j10) (gD aA (wR (j10 - (1 : Int))))) (Int.toNat (wR (j10 - (1 : Int)))) (gD aA j10)))] hO (mH c19 (by simp [])) (by simp only [List.set, fX]) ?_
            intro H hO
            replace hN : List.length (List.set (List.set aA (Int.toNat j10) (gD aA (wR (j10 - (1 : Int))))) (Int.toNat (wR (j10 - (1 : Int)))) (gD aA j10)) = N0 := by simpa using hN
            refine lW (by kernel_rfl) ?_
            refine cW (l := [(0, (.msl 1 lo0p 0 (List.length (List.set (List.set aA (Int.toNat j10) (gD aA (wR (j10 - (1 : Int))))) (Int.toNat (wR (j10 - (1 : Int)))) (gD aA j10))))), (1, (eI a1)), (2, (eI b2)), (7, (eI i7)), (8, (eI j8)), (10, (eI j10))]) ⟨[(0, (.msl 1 lo0p 0 (List.length aA))), (1, (eI a1)), (2, (eI b2)), (7, (eI i7)), (8, (eI j8)), (10, (eI j10))], by kernel_rfl, rfl, ⟨aN.eq (by simp []), aN.refl _, aN.refl _, aN.refl _, aN.refl _, aN.refl _, trivial⟩⟩ ?_
            refine aI (aY (aH (?_)))
            refine aT aD 3 ?_
            refine bE ?_
            exact aI (aH (⟨rfl, _, (oI h2).symm, .eq (by kernel_rfl), hO, hN⟩))
          refine iP 6 ?_
          obtain rfl := oI h2
          obtain rfl : _ = rr1 := ho1
          replace h1 : dB aA a1 b2 i7 j8 = some out1 := h1
          exact aI (aW (aW (cC (aY (aH (⟨rfl, _, _, .eq (by kernel_rfl), hO, hN, h1⟩))))))
        refine bO ?_
        exact aI (aY (aH (⟨rfl, _, _, .eq (by kernel_rfl), hO, hN, h1⟩)))
      refine aS aD 4 [] [(61, (aF (decide ((2 : Int) ≤ (wR (i7 - a1))))))] ?_
      refine bN h1 (fun h1 => ?_) (fun h1 => ?_)
      · refine aS aD 3 [61] [(9, (eI (wR (i7 - (1 : Int)))))] ?_
        refine cG 4 ?_
        refine gR [(0, (.msl 1 lo0p 0 (List.length (List.set (List.set aA (Int.toNat i7) (gD aA (wR (i7 - (1 : Int))))) (Int.toNat (wR (i7 - (1 : Int)))) (gD aA i7))))), (1, (eI a1)), (2, (eI b2)), (7, (eI i7)), (8, (eI j8)), (9, (eI (wR (i7 - (1 : Int)))))] ?_
        refine fG (fun T H => ∃ aA : List Int, ∃ j9 : Int, Has T [(0, (.msl 1 lo0p 0 (List.length aA))), (1, (eI a1)), (2, (eI b2)), (7, (eI i7)), (8, (eI j8)), (9, (eI j9))] ∧ aL ⟨H0, [lo0p], []⟩ H [(lo0p, 1, List.map (eI) aA)] ∧ List.length aA = N0 ∧ fO aA a1 b2 i7 j8 j9 = some out1) ?_ ⟨List.set (List.set aA (Int.toNat i7) (gD aA (wR (i7 - (1 : Int))))) (Int.toNat (wR (i7 - (1 : Int)))) (gD aA i7), wR (i7 - (1 : Int)), .eq (by kernel_rfl), hO, hN, h1⟩
        clear hO hN h1
        rintro T H ⟨aA, j9, hT, hO, hN, h1⟩
        refine bF hT ?_
        clear hT
        unfold fO at h1
        obtain ⟨rr1, hl1, h1⟩ := aV h1
        refine dN (by kernel_rfl) (fun (s : List Int × Int) T H => Has T [(0, (.msl 1 lo0p 0 (List.length s.1))), (1, (eI a1)), (2, (eI b2)), (7, (eI i7)), (8, (eI j8)), (9, (eI s.2))] ∧ aL ⟨H0, [lo0p], []⟩ H [(lo0p, 1, List.map (eI) s.1)] ∧ List.length s.1 = N0) hl1 ⟨.eq (by kernel_rfl), hO, hN⟩ ?_
        clear hO hN
        rintro k1 s out2 T H ⟨hT, hO, hN⟩ h2 ho1
        obtain ⟨aA, j9⟩ := s
        replace h2 : cD a1 b2 i7 j8 aA j9 = some out2 := h2
        try dsimp only at hT
        refine bF hT ?_
        clear hT
        unfold cD at h2
        refine aO ?_
        refine aS aD 2 [] [(65, (aF (decide ((1 : Int) ≤ j9))))] ?_
        refine bN h2 (fun h2 => ?_) (fun h2 => ?_)
        · refine bO ?_
          refine bH [(0, (.msl 1 lo0p 0 (List.length aA))), (1, (eI a1)), (2, (eI b2)), (7, (eI i7)), (8, (eI j8)), (9, (eI j9))] ?_
          refine aO ?_
          refine cG 5 ?_
          refine aO ?_
          refine aO ?_
          refine fN (fK [77]) aD 11 ?_
          obtain ⟨c22, h2⟩ := aU h2
          refine cB 3 [0 ≤ j9 ∧ j9 < (lN aA)] ⟨c22, trivial⟩ ?_
          refine fD 0 lo0p 1 (0 + Int.toNat j9) (eI (gD aA j9)) (eI (gD aA j9)) (List.map (eI) aA) hO (bV c22) ?_
          obtain ⟨c23, h2⟩ := aU h2
          refine cB 8 [0 ≤ (wR (j9 - (1 : Int))) ∧ (wR (j9 - (1 : Int))) < (lN aA)] ⟨c23, trivial⟩ ?_
          refine fD 0 lo0p 1 (0 + Int.toNat (wR (j9 - (1 : Int)))) (eI (gD aA (wR (j9 - (1 : Int))))) (eI (gD aA (wR (j9 - (1 : Int))))) (List.map (eI) aA) hO (bV c23) ?_
          obtain ⟨x24, hx25, h2⟩ := aV h2
          refine DB (eU (gD aA j9) (gD aA (wR (j9 - (1 : Int)))) _ hx25) hO ?_
          intro H hO
          refine jS ?_
          refine bX [] [(78, (aF (!x24)))] ?_
          refine bN h2 (fun h2 => ?_) (fun h2 => ?_)
          · refine iP 4 ?_
            obtain rfl := oI h2
            obtain rfl : _ = rr1 := ho1
            replace h1 : cE aA a1 b2 i7 j8 = some out1 := h1
            exact aI (aW (sB (by kernel_rfl) (aW (aW (cC (aH (⟨rfl, _, .eq (by kernel_rfl), hO, hN, h1⟩)))))))
          refine bO ?_
          refine bH [(0, (.msl 1 lo0p 0 (List.length aA))), (1, (eI a1)), (2, (eI b2)), (7, (eI i7)), (8, (eI j8)), (9, (eI j9))] ?_
          refine fN (fK []) aD 18 ?_
          obtain ⟨c28, h2⟩ := aU h2
          refine cB 9 [0 ≤ (wR (j9 - (1 : Int))) ∧ (wR (j9 - (1 : Int))) < (lN aA)] ⟨c28, trivial⟩ ?_
          refine fD 0 lo0p 1 (0 + Int.toNat (wR (j9 - (1 : Int)))) (eI (gD aA (wR (j9 - (1 : Int))))) (eI (gD aA (wR (j9 - (1 : Int))))) (List.map (eI) aA) hO (bV c28) ?_
          obtain ⟨c29, h2⟩ := aU h2
          refine cB 13 [0 ≤ j9 ∧ j9 < (lN aA)] ⟨c29, trivial⟩ ?_
          refine fD 0 lo0p 1 (0 + Int.toNat j9) (eI (gD aA j9)) (eI (gD aA j9)) (List.map (eI) aA) hO (bV c29) ?_
          obtain ⟨c30, h2⟩ := aU h2
          refine cB 15 [0 ≤ j9 ∧ j9 < (lN aA)] ⟨c30, trivial⟩ ?_
          refine jR 0 lo0p 1 (0 + Int.toNat j9) (eI (gD aA j9)) (eI (gD aA (wR (j9 - (1 : Int))))) (List.map (eI) aA) [(lo0p, 1, List.map (eI) (List.set aA (Int.toNat j9) (gD aA (wR (j9 - (1 : Int))))))] hO (bV c30) (by simp only [List.set, fX]) ?_
          intro H hO
          replace hN : List.length (List.set aA (Int.toNat j9) (gD aA (wR (j9 - (1 : Int))))) = N0 := by simpa using hN
          obtain ⟨c31, h2⟩ := aU h2
          refine cB 17 [0 ≤ (wR (j9 - (1 : Int))) ∧ (wR (j9 - (1 : Int))) < (lN aA)] ⟨c31, trivial⟩ ?_
          refine jR 0 lo0p 1 (0 + Int.toNat (wR (j9 - (1 : Int)))) (eI (gD (List.set aA (Int.toNat j9) (gD aA (wR (j9 - (1 : Int))))) (wR (j9 - (1 : Int))))) (eI (gD aA j9)) (List.map (eI) (List.set aA (Int.toNat j9) (gD aA (wR (j9 - (1 : Int)))))) [(lo0p, 1, List.map (eI) (List.set (List.set aA (Int.toNat j9) (gD aA (wR (j9 - (1 : Int))))) (Int.toNat (wR (j9 - (1 : Int)))) (gD aA j9)))] hO (mH c31 (by simp [])) (by simp only [List.set, fX]) ?_
          intro H hO
          replace hN : List.length (List.set (List.set aA (Int.toNat j9) (gD aA (wR (j9 - (1 : Int))))) (Int.toNat (wR (j9 - (1 : Int)))) (gD aA j9)) = N0 := by simpa using hN
          refine lW (by kernel_rfl) ?_
          refine cW (l := [(0, (.msl 1 lo0p 0 (List.length (List.set (List.set aA (Int.toNat j9) (gD aA (wR (j9 - (1 : Int))))) (Int.toNat (wR (j9 - (1 : Int)))) (gD aA j9))))), (1, (eI a1)), (2, (eI b2)), (7, (eI i7)), (8, (eI j8)), (9, (eI j9))]) ⟨[(0, (.msl 1 lo0p 0 (List.length aA))), (1, (eI a1)), (2, (eI b2)), (7, (eI i7)), (8, (eI j8)), (9, (eI j9))], by kernel_rfl, rfl, ⟨aN.eq (by simp []), aN.refl _, aN.refl _, aN.refl _, aN.refl _, aN.refl _, trivial⟩⟩ ?_
          refine aI (aY (aH (?_)))
          refine aT aD 3 ?_
          refine bE ?_
          exact aI (aH (⟨rfl, _, (oI h2).symm, .eq (by kernel_rfl), hO, hN⟩))
        refine iP 4 ?_
        obtain rfl := oI h2
        obtain rfl : _ = rr1 := ho1
        replace h1 : cE aA a1 b2 i7 j8 = some out1 := h1
        exact aI (aW (aW (cC (aH (⟨rfl, _, .eq (by kernel_rfl), hO, hN, h1⟩)))))
      refine bO ?_
      exact aI (aH (⟨rfl, _, .eq (by kernel_rfl), hO, hN, h1⟩))
    refine cG 2 ?_
    refine gR [(0, (.msl 1 lo0p 0 (List.length aA))), (1, (eI a1)), (2, (eI b2)), (7, (eI i7)), (8, (eI j8))] ?_
    refine fG (fun T H => ∃ aA : List Int, ∃ i7 : Int, Has T [(0, (.msl 1 lo0p 0 (List.length aA))), (1, (eI a1)), (2, (eI b2)), (7, (eI i7)), (8, (eI j8))] ∧ aL ⟨H0, [lo0p], []⟩ H [(lo0p, 1, List.map (eI) aA)] ∧ List.length aA = N0 ∧ cT aA a1 b2 i7 j8 = some out1) ?_ ⟨aA, i7, .eq (by kernel_rfl), hO, hN, h1⟩
    clear hO hN h1
    rintro T H ⟨aA, i7, hT, hO, hN, h1⟩
    refine bF hT ?_
    clear hT
    unfold cT at h1
    obtain ⟨rr1, hl1, h1⟩ := aV h1
    refine dN (by kernel_rfl) (fun (s : List Int × Int) T H => Has T [(0, (.msl 1 lo0p 0 (List.length s.1))), (1, (eI a1)), (2, (eI b2)), (7, (eI s.2)), (8, (eI j8))] ∧ aL ⟨H0, [lo0p], []⟩ H [(lo0p, 1, List.map (eI) s.1)] ∧ List.length s.1 = N0) hl1 ⟨.eq (by kernel_rfl), hO, hN⟩ ?_
    clear hO hN
    rintro k1 s out2 T H ⟨hT, hO, hN⟩ h2 ho1
    obtain ⟨aA, i7⟩ := s
    replace h2 : cK a1 b2 j8 aA i7 = some out2 := h2
    try dsimp only at hT
    refine bF hT ?_
    clear hT
    unfold cK at h2
    refine aO ?_
    refine aO ?_
    obtain ⟨c32, h2⟩ := aU h2
    obtain ⟨c33, h2⟩ := aU h2
    obtain ⟨x34, hx35, h2⟩ := aV h2
    refine fN (fK []) aD 16 ?_
    refine oF (K := fun T H => Has (lift T) [(0, (.msl 1 lo0p 0 (List.length aA))), (1, (eI a1)), (2, (eI b2)), (7, (eI i7)), (8, (eI j8)), (32, (aF ((decide (i7 < b2)) && (!x34))))] ∧ aL ⟨H0, [lo0p], []⟩ H [(lo0p, 1, List.map (eI) aA)]) ?_ ?_
    · refine lH 4 ?_
      refine nE (t := 20) (e := decide (i7 < b2)) (by kernel_rfl) (fun hg36 => ?_) (fun hg36 => ?_)
      · refine cB 7 [0 ≤ i7 ∧ i7 < (lN aA)] ⟨(c32 hg36), trivial⟩ ?_
        refine iQ 0 lo0p 1 (0 + Int.toNat i7) (eI (gD aA i7)) (eI (gD aA i7)) (List.map (eI) aA) (by kernel_rfl) (by kernel_rfl) (by kernel_rfl) hO (by kernel_rfl) (bV (c32 hg36)) ?_
        refine cB 12 [0 ≤ (wR (i7 - (1 : Int))) ∧ (wR (i7 - (1 : Int))) < (lN aA)] ⟨(c33 hg36), trivial⟩ ?_
        refine iQ 0 lo0p 1 (0 + Int.toNat (wR (i7 - (1 : Int)))) (eI (gD aA (wR (i7 - (1 : Int))))) (eI (gD aA (wR (i7 - (1 : Int))))) (List.map (eI) aA) (by kernel_rfl) (by kernel_rfl) (by kernel_rfl) hO (by kernel_rfl) (bV (c33 hg36)) ?_
        refine nD 70 [(eI (gD aA i7)), (eI (gD aA (wR (i7 - (1 : Int)))))] (aF x34) (by kernel_rfl) (by kernel_rfl) (eU (gD aA i7) (gD aA (wR (i7 - (1 : Int)))) _ (kA hx35 hg36)) hO ?_
        intro H hO
        refine jS ?_
        exact ⟨⟨[(0, (.msl 1 lo0p 0 (List.length aA))), (1, (eI a1)), (2, (eI b2)), (7, (eI i7)), (8, (eI j8)), (32, (aF (!x34)))], by kernel_rfl, rfl, ⟨aN.refl _, aN.refl _, aN.refl _, aN.refl _, aN.refl _, aN.eq (congrArg aF (lX hg36 rfl).symm), trivial⟩⟩, hO⟩
      refine jS ?_
      exact ⟨⟨[(0, (.msl 1 lo0p 0 (List.length aA))), (1, (eI a1)), (2, (eI b2)), (7, (eI i7)), (8, (eI j8)), (32, (aF false))], by kernel_rfl, rfl, ⟨aN.refl _, aN.refl _, aN.refl _, aN.refl _, aN.refl _, aN.eq (congrArg aF (lX hg36 rfl).symm), trivial⟩⟩, hO⟩
    · rintro T H ⟨hT, hO⟩
      refine cW hT ?_
      clear hT
      refine aI (aH ?_)
      refine bN h2 (fun h2 => ?_) (fun h2 => ?_)
      · refine bO ?_
        refine bH [(0, (.msl 1 lo0p 0 (List.length aA))), (1, (eI a1)), (2, (eI b2)), (7, (eI i7)), (8, (eI j8))] ?_
        refine cG 3 ?_
        refine aT aD 3 ?_
        refine bE ?_
        exact aI (aY (aH (⟨rfl, _, (oI h2).symm, .eq (by kernel_rfl), hO, hN⟩)))
      refine iP 2 ?_
      obtain rfl := oI h2
      obtain rfl : _ = rr1 := ho1
      replace h1 : dZ aA a1 b2 i7 j8 = some out1 := h1
      exact aI (aW (aW (cC (aH (⟨rfl, _, _, .eq (by kernel_rfl), hO, hN, h1⟩)))))
  refine iP 0 ?_
  obtain rfl := oI h1
  obtain rfl : _ = rr0 := ho0
  replace h0 : dY aA = some r := h0
  exact aI (aW (aW (cC (aH (⟨rfl, _, .eq (by kernel_rfl), hO, hN, h0⟩)))))

theorem sA (lo0p : Nat) (aA : (List Int)) (a1 : Int) (b2 : Int) (cF : Int) (r : (Int × List Int)) (h0 : eJ aA a1 b2 cF = some r) : mJ Try.prog 85 lo0p 1 (List.map (eI) aA) (List.map (eI) r.2) [(.msl 1 lo0p 0 (List.length aA)), (eI a1), (eI b2), (eI cF)] (eI r.1) := by
  intro H0 hl0
  refine dG Try.func85 ?_
  have hO := aL.oR hl0
  clear hl0
  obtain ⟨N0, hN0⟩ : ∃ n, n = List.length aA := ⟨_, rfl⟩
  have hN : List.length aA = N0 := hN0.symm
  unfold eJ at h0
  refine aS aD 1 [] [] ?_
  refine aO ?_
  refine fN (fK []) aD 16 ?_
  obtain ⟨c1, h0⟩ := aU h0
  refine cB 7 [0 ≤ cF ∧ cF < (lN aA)] ⟨c1, trivial⟩ ?_
  refine fD 0 lo0p 1 (0 + Int.toNat cF) (eI (gD aA cF)) (eI (gD aA cF)) (List.map (eI) aA) hO (bV c1) ?_
  obtain ⟨c2, h0⟩ := aU h0
  refine cB 11 [0 ≤ a1 ∧ a1 < (lN aA)] ⟨c2, trivial⟩ ?_
  refine fD 0 lo0p 1 (0 + Int.toNat a1) (eI (gD aA a1)) (eI (gD aA a1)) (List.map (eI) aA) hO (bV c2) ?_
  obtain ⟨c3, h0⟩ := aU h0
  refine cB 13 [0 ≤ a1 ∧ a1 < (lN aA)] ⟨c3, trivial⟩ ?_
  refine jR 0 lo0p 1 (0 + Int.toNat a1) (eI (gD aA a1)) (eI (gD aA cF)) (List.map (eI) aA) [(lo0p, 1, List.map (eI) (List.set aA (Int.toNat a1) (gD aA cF)))] hO (bV c3) (by simp only [List.set, fX]) ?_
  intro H hO
  replace hN : List.length (List.set aA (Int.toNat a1) (gD aA cF)) = N0 := by simpa using hN
  obtain ⟨c4, h0⟩ := aU h0
  refine cB 15 [0 ≤ cF ∧ cF < (lN aA)] ⟨c4, trivial⟩ ?_
  refine jR 0 lo0p 1 (0 + Int.toNat cF) (eI (gD (List.set aA (Int.toNat a1) (gD aA cF)) cF)) (eI (gD aA a1)) (List.map (eI) (List.set aA (Int.toNat a1) (gD aA cF))) [(lo0p, 1, List.map (eI) (List.set (List.set aA (Int.toNat a1) (gD aA cF)) (Int.toNat cF) (gD aA a1)))] hO (mH c4 (by simp [])) (by simp only [List.set, fX]) ?_
  intro H hO
  replace hN : List.length (List.set (List.set aA (Int.toNat a1) (gD aA cF)) (Int.toNat cF) (gD aA a1)) = N0 := by simpa using hN
  refine lW (by kernel_rfl) ?_
  refine cW (l := [(0, (.msl 1 lo0p 0 (List.length (List.set (List.set aA (Int.toNat a1) (gD aA cF)) (Int.toNat cF) (gD aA a1))))), (1, (eI a1)), (2, (eI b2))]) ⟨[(0, (.msl 1 lo0p 0 (List.length aA))), (1, (eI a1)), (2, (eI b2))], by kernel_rfl, rfl, ⟨aN.eq (by simp []), aN.refl _, aN.refl _, trivial⟩⟩ ?_
  refine aI (aH (?_))
  refine aS aD 6 [2] [(9, (eI (wR (a1 + (1 : Int))))), (10, (eI (wR (b2 - (1 : Int)))))] ?_
  refine iA (fun T H => ∃ aA : List Int, ∃ i9 : Int, Has T [(0, (.msl 1 lo0p 0 (List.length aA))), (9, (eI i9))] ∧ aL ⟨H0, [lo0p], []⟩ H [(lo0p, 1, List.map (eI) aA)] ∧ List.length aA = N0 ∧ iI aA i9 = some r) ?_ ?_
  · clear hO hN h0
    rintro T H ⟨aA, i9, hT, hO, hN, h0⟩
    refine bF hT ?_
    clear hT
    unfold iI at h0
    refine aS aD 2 [9] [(8, (eI i9))] ?_
    refine bJ ?_
    obtain rfl := oI h0
    exact aI (jY (x := (eI i9)) (by kernel_rfl) (aN.refl _) ⟨rfl, hO.ext, hO.at 0 (by kernel_rfl), by first | rfl | (simp only [List.length_map]; exact hN.trans hN0)⟩)
  refine cG 0 ?_
  refine gR [(0, (.msl 1 lo0p 0 (List.length (List.set (List.set aA (Int.toNat a1) (gD aA cF)) (Int.toNat cF) (gD aA a1))))), (1, (eI a1)), (9, (eI (wR (a1 + (1 : Int))))), (10, (eI (wR (b2 - (1 : Int)))))] ?_
  refine fG (fun T H => ∃ aA : List Int, ∃ i9 : Int, ∃ j10 : Int, Has T [(0, (.msl 1 lo0p 0 (List.length aA))), (1, (eI a1)), (9, (eI i9)), (10, (eI j10))] ∧ aL ⟨H0, [lo0p], []⟩ H [(lo0p, 1, List.map (eI) aA)] ∧ List.length aA = N0 ∧ iH aA a1 i9 j10 = some r) ?_ ⟨List.set (List.set aA (Int.toNat a1) (gD aA cF)) (Int.toNat cF) (gD aA a1), wR (a1 + (1 : Int)), wR (b2 - (1 : Int)), .eq (by kernel_rfl), hO, hN, h0⟩
  clear hO hN h0
  rintro T H ⟨aA, i9, j10, hT, hO, hN, h0⟩
  refine bF hT ?_
  clear hT
  unfold iH at h0
  obtain ⟨rr0, hl0, h0⟩ := aV h0
  refine dN (by kernel_rfl) (fun (s : List Int × Int × Int) T H => Has T [(0, (.msl 1 lo0p 0 (List.length s.1))), (1, (eI a1)), (9, (eI s.2.1)), (10, (eI s.2.2))] ∧ aL ⟨H0, [lo0p], []⟩ H [(lo0p, 1, List.map (eI) s.1)] ∧ List.length s.1 = N0) hl0 ⟨.eq (by kernel_rfl), hO, hN⟩ ?_
  clear hO hN
  rintro k0 s out1 T H ⟨hT, hO, hN⟩ h1 ho0
  obtain ⟨aA, i9, j10⟩ := s
  replace h1 : cO a1 aA i9 j10 = some out1 := h1
  try dsimp only at hT
  refine bF hT ?_
  clear hT
  unfold cO at h1
  refine cG 1 ?_
  refine iA (fun T H => ∃ aA : List Int, ∃ i9 : Int, Has T [(0, (.msl 1 lo0p 0 (List.length aA))), (1, (eI a1)), (9, (eI i9)), (10, (eI j10))] ∧ aL ⟨H0, [lo0p], []⟩ H [(lo0p, 1, List.map (eI) aA)] ∧ List.length aA = N0 ∧ fI aA a1 i9 j10 = some out1) ?_ ?_
  · clear hO hN h1
    rintro T H ⟨aA, i9, hT, hO, hN, h1⟩
    refine bF hT ?_
    clear hT
    unfold fI at h1
    refine iA (fun T H => ∃ aA : List Int, ∃ j10 : Int, Has T [(0, (.msl 1 lo0p 0 (List.length aA))), (1, (eI a1)), (9, (eI i9)), (10, (eI j10))] ∧ aL ⟨H0, [lo0p], []⟩ H [(lo0p, 1, List.map (eI) aA)] ∧ List.length aA = N0 ∧ dF aA a1 i9 j10 = some out1) ?_ ?_
    · clear hO hN h1
      rintro T H ⟨aA, j10, hT, hO, hN, h1⟩
      refine bF hT ?_
      clear hT
      unfold dF at h1
      refine aO ?_
      refine aS aD 3 [] [(64, (aF (decide (j10 < i9))))] ?_
      refine bN h1 (fun h1 => ?_) (fun h1 => ?_)
      · refine iP 0 ?_
        obtain rfl := oI h1
        obtain rfl : _ = rr0 := ho0
        replace h0 : iI aA i9 = some r := h0
        exact aI (aW (sB (by kernel_rfl) (aW (cC (aH (⟨rfl, _, _, .eq (by kernel_rfl), hO, hN, h0⟩))))))
      refine bO ?_
      refine bH [(0, (.msl 1 lo0p 0 (List.length aA))), (1, (eI a1)), (9, (eI i9)), (10, (eI j10))] ?_
      refine aO ?_
      refine fN (fK []) aD 16 ?_
      obtain ⟨c6, h1⟩ := aU h1
      refine cB 7 [0 ≤ j10 ∧ j10 < (lN aA)] ⟨c6, trivial⟩ ?_
      refine fD 0 lo0p 1 (0 + Int.toNat j10) (eI (gD aA j10)) (eI (gD aA j10)) (List.map (eI) aA) hO (bV c6) ?_
      obtain ⟨c7, h1⟩ := aU h1
      refine cB 11 [0 ≤ i9 ∧ i9 < (lN aA)] ⟨c7, trivial⟩ ?_
      refine fD 0 lo0p 1 (0 + Int.toNat i9) (eI (gD aA i9)) (eI (gD aA i9)) (List.map (eI) aA) hO (bV c7) ?_
      obtain ⟨c8, h1⟩ := aU h1
      refine cB 13 [0 ≤ i9 ∧ i9 < (lN aA)] ⟨c8, trivial⟩ ?_
      refine jR 0 lo0p 1 (0 + Int.toNat i9) (eI (gD aA i9)) (eI (gD aA j10)) (List.map (eI) aA) [(lo0p, 1, List.map (eI) (List.set aA (Int.toNat i9) (gD aA j10)))] hO (bV c8) (by simp only [List.set, fX]) ?_
      intro H hO
      replace hN : List.length (List.set aA (Int.toNat i9) (gD aA j10)) = N0 := by simpa using hN
      obtain ⟨c9, h1⟩ := aU h1
      refine cB 15 [0 ≤ j10 ∧ j10 < (lN aA)] ⟨c9, trivial⟩ ?_
      refine jR 0 lo0p 1 (0 + Int.toNat j10) (eI (gD (List.set aA (Int.toNat i9) (gD aA j10)) j10)) (eI (gD aA i9)) (List.map (eI) (List.set aA (Int.toNat i9) (gD aA j10))) [(lo0p, 1, List.map (eI) (List.set (List.set aA (Int.toNat i9) (gD aA j10)) (Int.toNat j10) (gD aA i9)))] hO (mH c9 (by simp [])) (by simp only [List.set, fX]) ?_
      intro H hO
      replace hN : List.length (List.set (List.set aA (Int.toNat i9) (gD aA j10)) (Int.toNat j10) (gD aA i9)) = N0 := by simpa using hN
      refine lW (by kernel_rfl) ?_
      refine cW (l := [(0, (.msl 1 lo0p 0 (List.length (List.set (List.set aA (Int.toNat i9) (gD aA j10)) (Int.toNat j10) (gD aA i9))))), (1, (eI a1)), (9, (eI i9)), (10, (eI j10))]) ⟨[(0, (.msl 1 lo0p 0 (List.length aA))), (1, (eI a1)), (9, (eI i9)), (10, (eI j10))], by kernel_rfl, rfl, ⟨aN.eq (by simp []), aN.refl _, aN.refl _, aN.refl _, trivial⟩⟩ ?_
      refine aI (aH (?_))
      refine aS aD 3 [9] [(9, (eI (wR (i9 + (1 : Int)))))] ?_
      refine aT aD 3 ?_
      refine bE ?_
      exact aI (aY (aH (⟨rfl, _, (oI h1).symm, .eq (by kernel_rfl), hO, hN⟩)))
    refine cG 4 ?_
    refine gR [(0, (.msl 1 lo0p 0 (List.length aA))), (1, (eI a1)), (9, (eI i9)), (10, (eI j10))] ?_
    refine fG (fun T H => ∃ aA : List Int, ∃ j10 : Int, Has T [(0, (.msl 1 lo0p 0 (List.length aA))), (1, (eI a1)), (9, (eI i9)), (10, (eI j10))] ∧ aL ⟨H0, [lo0p], []⟩ H [(lo0p, 1, List.map (eI) aA)] ∧ List.length aA = N0 ∧ iD aA a1 i9 j10 = some out1) ?_ ⟨aA, j10, .eq (by kernel_rfl), hO, hN, h1⟩
    clear hO hN h1
    rintro T H ⟨aA, j10, hT, hO, hN, h1⟩
    refine bF hT ?_
    clear hT
    unfold iD at h1
    obtain ⟨rr1, hl1, h1⟩ := aV h1
    refine dN (by kernel_rfl) (fun (s : List Int × Int) T H => Has T [(0, (.msl 1 lo0p 0 (List.length s.1))), (1, (eI a1)), (9, (eI i9)), (10, (eI s.2))] ∧ aL ⟨H0, [lo0p], []⟩ H [(lo0p, 1, List.map (eI) s.1)] ∧ List.length s.1 = N0) hl1 ⟨.eq (by kernel_rfl), hO, hN⟩ ?_
    clear hO hN
    rintro k1 s out2 T H ⟨hT, hO, hN⟩ h2 ho1
    obtain ⟨aA, j10⟩ := s
    replace h2 : dD a1 i9 aA j10 = some out2 := h2
    try dsimp only at hT
    refine bF hT ?_
    clear hT
    unfold dD at h2
    refine aO ?_
    refine aO ?_
    obtain ⟨c10, h2⟩ := aU h2
    obtain ⟨c11, h2⟩ := aU h2
    obtain ⟨x12, hx13, h2⟩ := aV h2
    refine fN (fK []) aD 14 ?_
    refine oF (K := fun T H => Has (lift T) [(0, (.msl 1 lo0p 0 (List.length aA))), (1, (eI a1)), (9, (eI i9)), (10, (eI j10)), (59, (aF ((decide (i9 ≤ j10)) && x12)))] ∧ aL ⟨H0, [lo0p], []⟩ H [(lo0p, 1, List.map (eI) aA)]) ?_ ?_
    · refine lH 4 ?_
      refine nE (t := 49) (e := decide (i9 ≤ j10)) (by kernel_rfl) (fun hg14 => ?_) (fun hg14 => ?_)
      · refine cB 7 [0 ≤ a1 ∧ a1 < (lN aA)] ⟨(c10 hg14), trivial⟩ ?_
        refine iQ 0 lo0p 1 (0 + Int.toNat a1) (eI (gD aA a1)) (eI (gD aA a1)) (List.map (eI) aA) (by kernel_rfl) (by kernel_rfl) (by kernel_rfl) hO (by kernel_rfl) (bV (c10 hg14)) ?_
        refine cB 11 [0 ≤ j10 ∧ j10 < (lN aA)] ⟨(c11 hg14), trivial⟩ ?_
        refine iQ 0 lo0p 1 (0 + Int.toNat j10) (eI (gD aA j10)) (eI (gD aA j10)) (List.map (eI) aA) (by kernel_rfl) (by kernel_rfl) (by kernel_rfl) hO (by kernel_rfl) (bV (c11 hg14)) ?_
        refine nD 70 [(eI (gD aA a1)), (eI (gD aA j10))] (aF x12) (by kernel_rfl) (by kernel_rfl) (eU (gD aA a1) (gD aA j10) _ (kA hx13 hg14)) hO ?_
        intro H hO
        refine jS ?_
        exact ⟨⟨[(0, (.msl 1 lo0p 0 (List.length aA))), (1, (eI a1)), (9, (eI i9)), (10, (eI j10)), (59, (aF x12))], by kernel_rfl, rfl, ⟨aN.refl _, aN.refl _, aN.refl _, aN.refl _, aN.eq (congrArg aF (lX hg14 rfl).symm), trivial⟩⟩, hO⟩
      refine jS ?_
      exact ⟨⟨[(0, (.msl 1 lo0p 0 (List.length aA))), (1, (eI a1)), (9, (eI i9)), (10, (eI j10)), (59, (aF false))], by kernel_rfl, rfl, ⟨aN.refl _, aN.refl _, aN.refl _, aN.refl _, aN.eq (congrArg aF (lX hg14 rfl).symm), trivial⟩⟩, hO⟩
    · rintro T H ⟨hT, hO⟩
      refine cW hT ?_
      clear hT
      refine aI (aH ?_)
      refine bN h2 (fun h2 => ?_) (fun h2 => ?_)
      · refine bO ?_
        refine bH [(0, (.msl 1 lo0p 0 (List.length aA))), (1, (eI a1)), (9, (eI i9)), (10, (eI j10))] ?_
        refine cG 5 ?_
        refine aT aD 3 ?_
        refine bE ?_
        exact aI (aY (aH (⟨rfl, _, (oI h2).symm, .eq (by kernel_rfl), hO, hN⟩)))
      refine iP 4 ?_
      obtain rfl := oI h2
      obtain rfl : _ = rr1 := ho1
      replace h1 : dF aA a1 i9 j10 = some out1 := h1
      exact aI (aW (aW (cC (aH (⟨rfl, _, _, .eq (by kernel_rfl), hO, hN, h1⟩)))))
  refine cG 2 ?_
  refine gR [(0, (.msl 1 lo0p 0 (List.length aA))), (1, (eI a1)), (9, (eI i9)), (10, (eI j10))] ?_
  refine fG (fun T H => ∃ aA : List Int, ∃ i9 : Int, Has T [(0, (.msl 1 lo0p 0 (List.length aA))), (1, (eI a1)), (9, (eI i9)), (10, (eI j10))] ∧ aL ⟨H0, [lo0p], []⟩ H [(lo0p, 1, List.map (eI) aA)] ∧ List.length aA = N0 ∧ iE aA a1 i9 j10 = some out1) ?_ ⟨aA, i9, .eq (by kernel_rfl), hO, hN, h1⟩
  clear hO hN h1
  rintro T H ⟨aA, i9, hT, hO, hN, h1⟩
  refine bF hT ?_
  clear hT
  unfold iE at h1
  obtain ⟨rr1, hl1, h1⟩ := aV h1
  refine dN (by kernel_rfl) (fun (s : List Int × Int) T H => Has T [(0, (.msl 1 lo0p 0 (List.length s.1))), (1, (eI a1)), (9, (eI s.2)), (10, (eI j10))] ∧ aL ⟨H0, [lo0p], []⟩ H [(lo0p, 1, List.map (eI) s.1)] ∧ List.length s.1 = N0) hl1 ⟨.eq (by kernel_rfl), hO, hN⟩ ?_
  clear hO hN
  rintro k1 s out2 T H ⟨hT, hO, hN⟩ h2 ho1
  obtain ⟨aA, i9⟩ := s
  replace h2 : dH a1 j10 aA i9 = some out2 := h2
  try dsimp only at hT
  refine bF hT ?_
  clear hT
  unfold dH at h2
  refine aO ?_
  refine aO ?_
  obtain ⟨c16, h2⟩ := aU h2
  obtain ⟨c17, h2⟩ := aU h2
  obtain ⟨x18, hx19, h2⟩ := aV h2
  refine fN (fK []) aD 15 ?_
  refine oF (K := fun T H => Has (lift T) [(0, (.msl 1 lo0p 0 (List.length aA))), (1, (eI a1)), (9, (eI i9)), (10, (eI j10)), (43, (aF ((decide (i9 ≤ j10)) && (!x18))))] ∧ aL ⟨H0, [lo0p], []⟩ H [(lo0p, 1, List.map (eI) aA)]) ?_ ?_
  · refine lH 4 ?_
    refine nE (t := 32) (e := decide (i9 ≤ j10)) (by kernel_rfl) (fun hg20 => ?_) (fun hg20 => ?_)
    · refine cB 7 [0 ≤ a1 ∧ a1 < (lN aA)] ⟨(c16 hg20), trivial⟩ ?_
      refine iQ 0 lo0p 1 (0 + Int.toNat a1) (eI (gD aA a1)) (eI (gD aA a1)) (List.map (eI) aA) (by kernel_rfl) (by kernel_rfl) (by kernel_rfl) hO (by kernel_rfl) (bV (c16 hg20)) ?_
      refine cB 11 [0 ≤ i9 ∧ i9 < (lN aA)] ⟨(c17 hg20), trivial⟩ ?_
      refine iQ 0 lo0p 1 (0 + Int.toNat i9) (eI (gD aA i9)) (eI (gD aA i9)) (List.map (eI) aA) (by kernel_rfl) (by kernel_rfl) (by kernel_rfl) hO (by kernel_rfl) (bV (c17 hg20)) ?_
      refine nD 70 [(eI (gD aA a1)), (eI (gD aA i9))] (aF x18) (by kernel_rfl) (by kernel_rfl) (eU (gD aA a1) (gD aA i9) _ (kA hx19 hg20)) hO ?_
      intro H hO
      refine jS ?_
      exact ⟨⟨[(0, (.msl 1 lo0p 0 (List.length aA))), (1, (eI a1)), (9, (eI i9)), (10, (eI j10)), (43, (aF (!x18)))], by kernel_rfl, rfl, ⟨aN.refl _, aN.refl _, aN.refl _, aN.refl _, aN.eq (congrArg aF (lX hg20 rfl).symm), trivial⟩⟩, hO⟩
    refine jS ?_
    exact ⟨⟨[(0, (.msl 1 lo0p 0 (List.length aA))), (1, (eI a1)), (9, (eI i9)), (10, (eI j10)), (43, (aF false))], by kernel_rfl, rfl, ⟨aN.refl _, aN.refl _, aN.refl _, aN.refl _, aN.eq (congrArg aF (lX hg20 rfl).symm), trivial⟩⟩, hO⟩
  · rintro T H ⟨hT, hO⟩
    refine cW hT ?_
    clear hT
    refine aI (aH ?_)
    refine bN h2 (fun h2 => ?_) (fun h2 => ?_)
    · refine bO ?_
      refine bH [(0, (.msl 1 lo0p 0 (List.length aA))), (1, (eI a1)), (9, (eI i9)), (10, (eI j10))] ?_
      refine cG 3 ?_
      refine aT aD 3 ?_
      refine bE ?_
      exact aI (aY (aH (⟨rfl, _, (oI h2).symm, .eq (by kernel_rfl), hO, hN⟩)))
    refine iP 2 ?_
    obtain rfl := oI h2
    obtain rfl : _ = rr1 := ho1
    replace h1 : fI aA a1 i9 j10 = some out1 := h1
    exact aI (aW (aW (cC (aH (⟨rfl, _, _, .eq (by kernel_rfl), hO, hN, h1⟩)))))

end Go.Abs
namespace Go.Abs
open Go Go.RowKit Go.Proofs
end Go.Abs
