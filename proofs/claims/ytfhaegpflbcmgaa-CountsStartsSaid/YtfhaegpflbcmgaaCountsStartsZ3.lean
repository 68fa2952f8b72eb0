/- What the law CountsStarts stands on: the framework, the given functions as plain functions, their walks, and the plain laws; part 3. -/
import Derived.Test.YtfhaegpflbcmgaaCountsStartsZ2
set_option linter.unusedSimpArgs false
set_option linter.unusedVariables false
namespace Go.Abs
open Go
noncomputable def fV (aA : List Int) (a1 : Int) (b2 : Int) (i7 : Int) (j8 : Int) (j10 : Int) : Option ((List Int × Int × Int) ⊕ ((List Int) ⊕ (Bool × (List Int)))) :=
  (lp (fun s => cL a1 b2 i7 j8 s.1 s.2) (aA, j10)).bind (fun rr => dK rr a1 b2 i7 j8)

noncomputable def cD (aA : List Int) (a1 : Int) (b2 : Int) (i7 : Int) (j8 : Int) : Option ((List Int × Int × Int) ⊕ ((List Int) ⊕ (Bool × (List Int)))) :=
  cond (decide ((2 : Int) ≤ (IntKind.i64.wrap (b2 - i7))))
  (fV aA a1 b2 i7 j8 (IntKind.i64.wrap (i7 + (1 : Int))))
  (dK aA a1 b2 i7 j8)

noncomputable def cE (a1 : Int) (b2 : Int) (i7 : Int) (j8 : Int) (aA : List Int) (j9 : Int) : Option ((List Int × Int) ⊕ ((List Int))) :=
  cond (decide ((1 : Int) ≤ j9))
  (aY (0 ≤ j9 ∧ j9 < ((List.length aA : Nat) : Int)) <|
  aY (0 ≤ (IntKind.i64.wrap (j9 - (1 : Int))) ∧ (IntKind.i64.wrap (j9 - (1 : Int))) < ((List.length aA : Nat) : Int)) <|
  (cP (List.getD aA (Int.toNat j9) default) (List.getD aA (Int.toNat (IntKind.i64.wrap (j9 - (1 : Int)))) default)).bind fun x24 =>
  cond (!x24)
  (some (.inr aA))
  (aY (0 ≤ (IntKind.i64.wrap (j9 - (1 : Int))) ∧ (IntKind.i64.wrap (j9 - (1 : Int))) < ((List.length aA : Nat) : Int)) <|
  aY (0 ≤ j9 ∧ j9 < ((List.length aA : Nat) : Int)) <|
  aY (0 ≤ j9 ∧ j9 < ((List.length aA : Nat) : Int)) <|
  aY (0 ≤ (IntKind.i64.wrap (j9 - (1 : Int))) ∧ (IntKind.i64.wrap (j9 - (1 : Int))) < ((List.length aA : Nat) : Int)) <|
  some (.inl (List.set (List.set aA (Int.toNat j9) (List.getD aA (Int.toNat (IntKind.i64.wrap (j9 - (1 : Int)))) default)) (Int.toNat (IntKind.i64.wrap (j9 - (1 : Int)))) (List.getD aA (Int.toNat j9) default), IntKind.i64.wrap (j9 - (1 : Int))))))
  (some (.inr aA))

noncomputable def fT (aA : List Int) (a1 : Int) (b2 : Int) (i7 : Int) (j8 : Int) (j9 : Int) : Option ((List Int × Int × Int) ⊕ ((List Int) ⊕ (Bool × (List Int)))) :=
  (lp (fun s => cE a1 b2 i7 j8 s.1 s.2) (aA, j9)).bind (fun rr => cD rr a1 b2 i7 j8)

noncomputable def eD (aA : List Int) (a1 : Int) (b2 : Int) (i7 : Int) (j8 : Int) : Option ((List Int × Int × Int) ⊕ ((List Int) ⊕ (Bool × (List Int)))) :=
  cond (decide (i7 = b2))
  (some (.inr (.inr (true, aA))))
  (cond (decide ((IntKind.i64.wrap (b2 - a1)) < (50 : Int)))
  (some (.inr (.inr (false, aA))))
  (aY (0 ≤ (IntKind.i64.wrap (i7 - (1 : Int))) ∧ (IntKind.i64.wrap (i7 - (1 : Int))) < ((List.length aA : Nat) : Int)) <|
  aY (0 ≤ i7 ∧ i7 < ((List.length aA : Nat) : Int)) <|
  aY (0 ≤ i7 ∧ i7 < ((List.length aA : Nat) : Int)) <|
  aY (0 ≤ (IntKind.i64.wrap (i7 - (1 : Int))) ∧ (IntKind.i64.wrap (i7 - (1 : Int))) < ((List.length aA : Nat) : Int)) <|
  cond (decide ((2 : Int) ≤ (IntKind.i64.wrap (i7 - a1))))
  (fT (List.set (List.set aA (Int.toNat i7) (List.getD aA (Int.toNat (IntKind.i64.wrap (i7 - (1 : Int)))) default)) (Int.toNat (IntKind.i64.wrap (i7 - (1 : Int)))) (List.getD aA (Int.toNat i7) default)) a1 b2 i7 j8 (IntKind.i64.wrap (i7 - (1 : Int))))
  (cD (List.set (List.set aA (Int.toNat i7) (List.getD aA (Int.toNat (IntKind.i64.wrap (i7 - (1 : Int)))) default)) (Int.toNat (IntKind.i64.wrap (i7 - (1 : Int)))) (List.getD aA (Int.toNat i7) default)) a1 b2 i7 j8)))

noncomputable def cK (a1 : Int) (b2 : Int) (j8 : Int) (aA : List Int) (i7 : Int) : Option ((List Int × Int) ⊕ ((List Int × Int))) :=
  aY ((((decide (i7 < b2))) = true → 0 ≤ i7 ∧ i7 < ((List.length aA : Nat) : Int))) <|
  aY ((((decide (i7 < b2))) = true → 0 ≤ (IntKind.i64.wrap (i7 - (1 : Int))) ∧ (IntKind.i64.wrap (i7 - (1 : Int))) < ((List.length aA : Nat) : Int))) <|
  (cX (decide (i7 < b2)) (cP (List.getD aA (Int.toNat i7) default) (List.getD aA (Int.toNat (IntKind.i64.wrap (i7 - (1 : Int)))) default))).bind fun x34 =>
  cond ((decide (i7 < b2)) && (!x34))
  (some (.inl (aA, IntKind.i64.wrap (i7 + (1 : Int)))))
  (some (.inr (aA, i7)))

noncomputable def cW (aA : List Int) (a1 : Int) (b2 : Int) (i7 : Int) (j8 : Int) : Option ((List Int × Int × Int) ⊕ ((List Int) ⊕ (Bool × (List Int)))) :=
  (lp (fun s => cK a1 b2 j8 s.1 s.2) (aA, i7)).bind (fun rr => eD rr.1 a1 b2 rr.2 j8)

noncomputable def bV (a1 : Int) (b2 : Int) (aA : List Int) (i7 : Int) (j8 : Int) : Option ((List Int × Int × Int) ⊕ ((List Int) ⊕ (Bool × (List Int)))) :=
  cond (decide (j8 < (5 : Int)))
  (cW aA a1 b2 i7 j8)
  (some (.inr (.inl aA)))

noncomputable def fU (aA : List Int) (a1 : Int) (b2 : Int) (i7 : Int) (j8 : Int) : Option (Bool × List Int) :=
  (lp (fun s => bV a1 b2 s.1 s.2.1 s.2.2) (aA, i7, j8)).bind (Sum.elim (fun rr => eC rr) (fun rr => some (rr.1, rr.2)))

noncomputable def eO (aA : (List Int)) (a1 : Int) (b2 : Int) : Option (Bool × List Int) :=
  fU aA a1 b2 (IntKind.i64.wrap (a1 + (1 : Int))) (0 : Int)

noncomputable def iN (aA : List Int) (i9 : Int) : Option (Int × List Int) :=
  some (i9, aA)

noncomputable def dL (aA : List Int) (a1 : Int) (i9 : Int) (j10 : Int) : Option ((List Int × Int × Int) ⊕ ((List Int × Int))) :=
  cond (decide (j10 < i9))
  (some (.inr (aA, i9)))
  (aY (0 ≤ j10 ∧ j10 < ((List.length aA : Nat) : Int)) <|
  aY (0 ≤ i9 ∧ i9 < ((List.length aA : Nat) : Int)) <|
  aY (0 ≤ i9 ∧ i9 < ((List.length aA : Nat) : Int)) <|
  aY (0 ≤ j10 ∧ j10 < ((List.length aA : Nat) : Int)) <|
  some (.inl (List.set (List.set aA (Int.toNat i9) (List.getD aA (Int.toNat j10) default)) (Int.toNat j10) (List.getD aA (Int.toNat i9) default), IntKind.i64.wrap (i9 + (1 : Int)), IntKind.i64.wrap (j10 - (1 : Int)))))

noncomputable def dN (a1 : Int) (i9 : Int) (aA : List Int) (j10 : Int) : Option ((List Int × Int) ⊕ ((List Int × Int))) :=
  aY ((((decide (i9 ≤ j10))) = true → 0 ≤ a1 ∧ a1 < ((List.length aA : Nat) : Int))) <|
  aY ((((decide (i9 ≤ j10))) = true → 0 ≤ j10 ∧ j10 < ((List.length aA : Nat) : Int))) <|
  (cX (decide (i9 ≤ j10)) (cP (List.getD aA (Int.toNat a1) default) (List.getD aA (Int.toNat j10) default))).bind fun x12 =>
  cond ((decide (i9 ≤ j10)) && x12)
  (some (.inl (aA, IntKind.i64.wrap (j10 - (1 : Int)))))
  (some (.inr (aA, j10)))

noncomputable def iM (aA : List Int) (a1 : Int) (i9 : Int) (j10 : Int) : Option ((List Int × Int × Int) ⊕ ((List Int × Int))) :=
  (lp (fun s => dN a1 i9 s.1 s.2) (aA, j10)).bind (fun rr => dL rr.1 a1 i9 rr.2)

noncomputable def fN (aA : List Int) (a1 : Int) (i9 : Int) (j10 : Int) : Option ((List Int × Int × Int) ⊕ ((List Int × Int))) :=
  iM aA a1 i9 j10

noncomputable def dM (a1 : Int) (j10 : Int) (aA : List Int) (i9 : Int) : Option ((List Int × Int) ⊕ ((List Int × Int))) :=
  aY ((((decide (i9 ≤ j10))) = true → 0 ≤ a1 ∧ a1 < ((List.length aA : Nat) : Int))) <|
  aY ((((decide (i9 ≤ j10))) = true → 0 ≤ i9 ∧ i9 < ((List.length aA : Nat) : Int))) <|
  (cX (decide (i9 ≤ j10)) (cP (List.getD aA (Int.toNat a1) default) (List.getD aA (Int.toNat i9) default))).bind fun x18 =>
  cond ((decide (i9 ≤ j10)) && (!x18))
  (some (.inl (aA, IntKind.i64.wrap (i9 + (1 : Int)))))
  (some (.inr (aA, i9)))

noncomputable def iK (aA : List Int) (a1 : Int) (i9 : Int) (j10 : Int) : Option ((List Int × Int × Int) ⊕ ((List Int × Int))) :=
  (lp (fun s => dM a1 j10 s.1 s.2) (aA, i9)).bind (fun rr => fN rr.1 a1 rr.2 j10)

noncomputable def cR (a1 : Int) (aA : List Int) (i9 : Int) (j10 : Int) : Option ((List Int × Int × Int) ⊕ ((List Int × Int))) :=
  iK aA a1 i9 j10

noncomputable def iO (aA : List Int) (a1 : Int) (i9 : Int) (j10 : Int) : Option (Int × List Int) :=
  (lp (fun s => cR a1 s.1 s.2.1 s.2.2) (aA, i9, j10)).bind (fun rr => iN rr.1 rr.2)

noncomputable def eP (aA : (List Int)) (a1 : Int) (b2 : Int) (cF : Int) : Option (Int × List Int) :=
  aY (0 ≤ cF ∧ cF < ((List.length aA : Nat) : Int)) <|
  aY (0 ≤ a1 ∧ a1 < ((List.length aA : Nat) : Int)) <|
  aY (0 ≤ a1 ∧ a1 < ((List.length aA : Nat) : Int)) <|
  aY (0 ≤ cF ∧ cF < ((List.length aA : Nat) : Int)) <|
  iO (List.set (List.set aA (Int.toNat a1) (List.getD aA (Int.toNat cF) default)) (Int.toNat cF) (List.getD aA (Int.toNat a1) default)) a1 (IntKind.i64.wrap (a1 + (1 : Int))) (IntKind.i64.wrap (b2 - (1 : Int)))

noncomputable def iB (aA : List Int) (a1 : Int) (j11 : Int) : Option ((Int × Bool) × List Int) :=
  aY (0 ≤ a1 ∧ a1 < ((List.length aA : Nat) : Int)) <|
  aY (0 ≤ j11 ∧ j11 < ((List.length aA : Nat) : Int)) <|
  aY (0 ≤ j11 ∧ j11 < ((List.length aA : Nat) : Int)) <|
  aY (0 ≤ a1 ∧ a1 < ((List.length aA : Nat) : Int)) <|
  some ((j11, false), (List.set (List.set aA (Int.toNat j11) (List.getD aA (Int.toNat a1) default)) (Int.toNat a1) (List.getD aA (Int.toNat j11) default)))

noncomputable def eJ (aA : List Int) (a1 : Int) (i10 : Int) (j11 : Int) : Option ((List Int × Int × Int) ⊕ ((List Int × Int))) :=
  cond (decide (j11 < i10))
  (some (.inr (aA, j11)))
  (aY (0 ≤ j11 ∧ j11 < ((List.length aA : Nat) : Int)) <|
  aY (0 ≤ i10 ∧ i10 < ((List.length aA : Nat) : Int)) <|
  aY (0 ≤ i10 ∧ i10 < ((List.length aA : Nat) : Int)) <|
  aY (0 ≤ j11 ∧ j11 < ((List.length aA : Nat) : Int)) <|
  some (.inl (List.set (List.set aA (Int.toNat i10) (List.getD aA (Int.toNat j11) default)) (Int.toNat j11) (List.getD aA (Int.toNat i10) default), IntKind.i64.wrap (i10 + (1 : Int)), IntKind.i64.wrap (j11 - (1 : Int)))))

noncomputable def eN (a1 : Int) (i10 : Int) (aA : List Int) (j11 : Int) : Option ((List Int × Int) ⊕ ((List Int × Int))) :=
  aY ((((decide (i10 ≤ j11))) = true → 0 ≤ j11 ∧ j11 < ((List.length aA : Nat) : Int))) <|
  aY ((((decide (i10 ≤ j11))) = true → 0 ≤ a1 ∧ a1 < ((List.length aA : Nat) : Int))) <|
  (cX (decide (i10 ≤ j11)) (cP (List.getD aA (Int.toNat j11) default) (List.getD aA (Int.toNat a1) default))).bind fun x25 =>
  cond ((decide (i10 ≤ j11)) && (!x25))
  (some (.inl (aA, IntKind.i64.wrap (j11 - (1 : Int)))))
  (some (.inr (aA, j11)))

noncomputable def kA (aA : List Int) (a1 : Int) (i10 : Int) (j11 : Int) : Option ((List Int × Int × Int) ⊕ ((List Int × Int))) :=
  (lp (fun s => eN a1 i10 s.1 s.2) (aA, j11)).bind (fun rr => eJ rr.1 a1 i10 rr.2)

noncomputable def hU (aA : List Int) (a1 : Int) (i10 : Int) (j11 : Int) : Option ((List Int × Int × Int) ⊕ ((List Int × Int))) :=
  kA aA a1 i10 j11

noncomputable def eF (a1 : Int) (j11 : Int) (aA : List Int) (i10 : Int) : Option ((List Int × Int) ⊕ ((List Int × Int))) :=
  aY ((((decide (i10 ≤ j11))) = true → 0 ≤ i10 ∧ i10 < ((List.length aA : Nat) : Int))) <|
  aY ((((decide (i10 ≤ j11))) = true → 0 ≤ a1 ∧ a1 < ((List.length aA : Nat) : Int))) <|
  (cX (decide (i10 ≤ j11)) (cP (List.getD aA (Int.toNat i10) default) (List.getD aA (Int.toNat a1) default))).bind fun x31 =>
  cond ((decide (i10 ≤ j11)) && x31)
  (some (.inl (aA, IntKind.i64.wrap (i10 + (1 : Int)))))
  (some (.inr (aA, i10)))

noncomputable def jZ (aA : List Int) (a1 : Int) (i10 : Int) (j11 : Int) : Option ((List Int × Int × Int) ⊕ ((List Int × Int))) :=
  (lp (fun s => eF a1 j11 s.1 s.2) (aA, i10)).bind (fun rr => hU rr.1 a1 rr.2 j11)

noncomputable def dH (a1 : Int) (aA : List Int) (i10 : Int) (j11 : Int) : Option ((List Int × Int × Int) ⊕ ((List Int × Int))) :=
  jZ aA a1 i10 j11

noncomputable def jU (aA : List Int) (a1 : Int) (i10 : Int) (j11 : Int) : Option ((Int × Bool) × List Int) :=
  (lp (fun s => dH a1 s.1 s.2.1 s.2.2) (aA, i10, j11)).bind (fun rr => iB rr.1 a1 rr.2)

noncomputable def eE (aA : List Int) (a1 : Int) (i10 : Int) (j11 : Int) : Option ((Int × Bool) × List Int) :=
  cond (decide (j11 < i10))
  (aY (0 ≤ a1 ∧ a1 < ((List.length aA : Nat) : Int)) <|
  aY (0 ≤ j11 ∧ j11 < ((List.length aA : Nat) : Int)) <|
  aY (0 ≤ j11 ∧ j11 < ((List.length aA : Nat) : Int)) <|
  aY (0 ≤ a1 ∧ a1 < ((List.length aA : Nat) : Int)) <|
  some ((j11, true), (List.set (List.set aA (Int.toNat j11) (List.getD aA (Int.toNat a1) default)) (Int.toNat a1) (List.getD aA (Int.toNat j11) default))))
  (aY (0 ≤ j11 ∧ j11 < ((List.length aA : Nat) : Int)) <|
  aY (0 ≤ i10 ∧ i10 < ((List.length aA : Nat) : Int)) <|
  aY (0 ≤ i10 ∧ i10 < ((List.length aA : Nat) : Int)) <|
  aY (0 ≤ j11 ∧ j11 < ((List.length aA : Nat) : Int)) <|
  jU (List.set (List.set aA (Int.toNat i10) (List.getD aA (Int.toNat j11) default)) (Int.toNat j11) (List.getD aA (Int.toNat i10) default)) a1 (IntKind.i64.wrap (i10 + (1 : Int))) (IntKind.i64.wrap (j11 - (1 : Int))))

noncomputable def eG (a1 : Int) (i10 : Int) (aA : List Int) (j11 : Int) : Option ((List Int × Int) ⊕ ((List Int × Int))) :=
  aY ((((decide (i10 ≤ j11))) = true → 0 ≤ j11 ∧ j11 < ((List.length aA : Nat) : Int))) <|
  aY ((((decide (i10 ≤ j11))) = true → 0 ≤ a1 ∧ a1 < ((List.length aA : Nat) : Int))) <|
  (cX (decide (i10 ≤ j11)) (cP (List.getD aA (Int.toNat j11) default) (List.getD aA (Int.toNat a1) default))).bind fun x37 =>
  cond ((decide (i10 ≤ j11)) && (!x37))
  (some (.inl (aA, IntKind.i64.wrap (j11 - (1 : Int)))))
  (some (.inr (aA, j11)))

noncomputable def jW (aA : List Int) (a1 : Int) (i10 : Int) (j11 : Int) : Option ((Int × Bool) × List Int) :=
  (lp (fun s => eG a1 i10 s.1 s.2) (aA, j11)).bind (fun rr => eE rr.1 a1 i10 rr.2)

noncomputable def iA (aA : List Int) (a1 : Int) (i10 : Int) (j11 : Int) : Option ((Int × Bool) × List Int) :=
  jW aA a1 i10 j11

noncomputable def eB (a1 : Int) (j11 : Int) (aA : List Int) (i10 : Int) : Option ((List Int × Int) ⊕ ((List Int × Int))) :=
  aY ((((decide (i10 ≤ j11))) = true → 0 ≤ i10 ∧ i10 < ((List.length aA : Nat) : Int))) <|
  aY ((((decide (i10 ≤ j11))) = true → 0 ≤ a1 ∧ a1 < ((List.length aA : Nat) : Int))) <|
  (cX (decide (i10 ≤ j11)) (cP (List.getD aA (Int.toNat i10) default) (List.getD aA (Int.toNat a1) default))).bind fun x43 =>
  cond ((decide (i10 ≤ j11)) && x43)
  (some (.inl (aA, IntKind.i64.wrap (i10 + (1 : Int)))))
  (some (.inr (aA, i10)))

noncomputable def fH (aA : List Int) (a1 : Int) (i10 : Int) (j11 : Int) : Option ((Int × Bool) × List Int) :=
  (lp (fun s => eB a1 j11 s.1 s.2) (aA, i10)).bind (fun rr => iA rr.1 a1 rr.2 j11)

noncomputable def fZ (aA : (List Int)) (a1 : Int) (b2 : Int) (cF : Int) : Option ((Int × Bool) × List Int) :=
  aY (0 ≤ cF ∧ cF < ((List.length aA : Nat) : Int)) <|
  aY (0 ≤ a1 ∧ a1 < ((List.length aA : Nat) : Int)) <|
  aY (0 ≤ a1 ∧ a1 < ((List.length aA : Nat) : Int)) <|
  aY (0 ≤ cF ∧ cF < ((List.length aA : Nat) : Int)) <|
  fH (List.set (List.set aA (Int.toNat a1) (List.getD aA (Int.toNat cF) default)) (Int.toNat cF) (List.getD aA (Int.toNat a1) default)) a1 (IntKind.i64.wrap (a1 + (1 : Int))) (IntKind.i64.wrap (b2 - (1 : Int)))

noncomputable def gI (rec : (List Int) → Int → Int → Int → Option (List Int)) (aA : List Int) (a1 : Int) (b2 : Int) (bY : Int) (bT : Bool) (bL : Bool) (dO : Int) (fP : Int) : Option ((List Int × Int × Int × Int × Bool × Bool) ⊕ ((List Int))) :=
  aY ((((decide ((0 : Int) < a1))) = true → 0 ≤ (IntKind.i64.wrap (a1 - (1 : Int))) ∧ (IntKind.i64.wrap (a1 - (1 : Int))) < ((List.length aA : Nat) : Int))) <|
  aY ((((decide ((0 : Int) < a1))) = true → 0 ≤ fP ∧ fP < ((List.length aA : Nat) : Int))) <|
  (cX (decide ((0 : Int) < a1)) (cP (List.getD aA (Int.toNat (IntKind.i64.wrap (a1 - (1 : Int)))) default) (List.getD aA (Int.toNat fP) default))).bind fun x16 =>
  cond ((decide ((0 : Int) < a1)) && (!x16))
  ((eP aA a1 b2 fP).bind fun x20 =>
  some (.inl (x20.2, x20.1, b2, bY, bT, bL)))
  ((fZ aA a1 b2 fP).bind fun x23 =>
  aY ((8 : Int) ≠ 0) <|
  cond (decide ((IntKind.i64.wrap (x23.1.1 - a1)) < (IntKind.i64.wrap (b2 - x23.1.1))))
  ((rec x23.2 a1 x23.1.1 bY).bind fun x28 =>
  some (.inl (x28, IntKind.i64.wrap (x23.1.1 + (1 : Int)), b2, bY, decide ((IntKind.i64.wrap (Int.tdiv dO (8 : Int))) ≤ (IntKind.i64.wrap (x23.1.1 - a1))), x23.1.2)))
  ((rec x23.2 (IntKind.i64.wrap (x23.1.1 + (1 : Int))) b2 bY).bind fun x31 =>
  some (.inl (x31, a1, x23.1.1, bY, decide ((IntKind.i64.wrap (Int.tdiv dO (8 : Int))) ≤ (IntKind.i64.wrap (b2 - x23.1.1))), x23.1.2))))

noncomputable def gJ (rec : (List Int) → Int → Int → Int → Option (List Int)) (aA : List Int) (a1 : Int) (b2 : Int) (bY : Int) (bT : Bool) (bL : Bool) (dO : Int) (fP : Int) (zT : Int) : Option ((List Int × Int × Int × Int × Bool × Bool) ⊕ ((List Int))) :=
  cond ((bT && bL) && (decide (zT = (1 : Int))))
  ((eO aA a1 b2).bind fun x35 =>
  cond x35.1
  (some (.inr x35.2))
  (gI rec x35.2 a1 b2 bY bT bL dO fP))
  (gI rec aA a1 b2 bY bT bL dO fP)

noncomputable def gK (rec : (List Int) → Int → Int → Int → Option (List Int)) (aA : List Int) (a1 : Int) (b2 : Int) (bY : Int) (bT : Bool) (bL : Bool) (dO : Int) : Option ((List Int × Int × Int × Int × Bool × Bool) ⊕ ((List Int))) :=
  (gT aA a1 b2).bind fun x9 =>
  cond (decide (x9.2 = (2 : Int)))
  ((gP aA a1 b2).bind fun x40 =>
  gJ rec x40 a1 b2 bY bT bL dO (IntKind.i64.wrap ((IntKind.i64.wrap (b2 - (1 : Int))) - (IntKind.i64.wrap (x9.1 - a1)))) (1 : Int))
  (gJ rec aA a1 b2 bY bT bL dO x9.1 x9.2)

noncomputable def eA (rec : (List Int) → Int → Int → Int → Option (List Int))  (aA : List Int) (a1 : Int) (b2 : Int) (bY : Int) (bT : Bool) (bL : Bool) : Option ((List Int × Int × Int × Int × Bool × Bool) ⊕ ((List Int))) :=
  cond (decide ((IntKind.i64.wrap (b2 - a1)) ≤ (12 : Int)))
  ((gF aA a1 b2).bind fun x2 =>
  some (.inr x2))
  (cond (decide (bY = (0 : Int)))
  ((iW aA a1 b2).bind fun x6 =>
  some (.inr x6))
  (cond (!bT)
  ((gG aA a1 b2).bind fun x44 =>
  gK rec x44 a1 b2 (IntKind.i64.wrap (bY - (1 : Int))) bT bL (IntKind.i64.wrap (b2 - a1)))
  (gK rec aA a1 b2 bY bT bL (IntKind.i64.wrap (b2 - a1)))))

noncomputable def kN (rec : (List Int) → Int → Int → Int → Option (List Int)) (aA : List Int) (a1 : Int) (b2 : Int) (bY : Int) (bT : Bool) (bL : Bool) : Option (List Int) :=
  (lp (fun s => eA rec s.1 s.2.1 s.2.2.1 s.2.2.2.1 s.2.2.2.2.1 s.2.2.2.2.2) (aA, a1, b2, bY, bT, bL)).bind (fun rr => some rr)

noncomputable def fO (rec : (List Int) → Int → Int → Int → Option (List Int)) (aA : (List Int)) (a1 : Int) (b2 : Int) (bY : Int) : Option (List Int) :=
  kN rec aA a1 b2 bY true true

noncomputable def dD  : Nat → (List Int) → Int → Int → Int → Option (List Int)
  | 0 => fun _ _ _ _ => none
  | k + 1 => fO (dD k)

noncomputable def jD (aA : (List Int)) (a1 : Int) (b2 : Int) (bY : Int) : Option (List Int) := MK (fun k => dD k aA a1 b2 bY)

noncomputable def kD (x0 : (List Int)) : Option (List Int) :=
  (jT (IntKind.u64.wrap ((List.length x0 : Nat) : Int))).bind fun x1 =>
  (jD x0 (0 : Int) ((List.length x0 : Nat) : Int) x1).bind fun x4 =>
  some x4

noncomputable def jS (s0 : List Int) : Option (List Int) :=
  some s0

noncomputable def lP (s0 : List Int) (k3 : Int) : Option ((List Int × Int) ⊕ ((List Int) ⊕ (List Int))) :=
  some (.inl (s0, IntKind.i64.wrap (k3 + (1 : Int))))

noncomputable def jY (s0 : List Int) (k3 : Int) : Option ((List Int × Int) ⊕ ((List Int) ⊕ (List Int))) :=
  aY (0 ≤ k3 ∧ k3 ≤ ((List.length s0 : Nat) : Int)) <|
  aY (0 ≤ k3 ∧ k3 ≤ ((List.length (jI (0 + Int.toNat k3) s0) : Nat) : Int)) <|
  aY (Int.toNat k3 ≤ List.length (jI (0 + Int.toNat k3) s0)) <|
  some (.inr (.inr (List.take (Int.toNat k3) (jI (0 + Int.toNat k3) s0))))

noncomputable def iL (s0 : List Int) (k3 : Int) (k25 : Int) (s24o : Nat) (s24n : Nat) : Option ((List Int × Int × Int) ⊕ ((List Int × Int))) :=
  some (.inl (s0, k3, IntKind.i64.wrap (k25 + (1 : Int))))

noncomputable def eX (s24o : Nat) (s24n : Nat) (s0 : List Int) (k3 : Int) (k25 : Int) : Option ((List Int × Int × Int) ⊕ ((List Int × Int))) :=
  cond (decide (k25 < ((s24n : Nat) : Int)))
  (aY (0 ≤ k25 ∧ k25 < ((s24n : Nat) : Int)) <|
  aY ((s24o + Int.toNat k25) < List.length s0) <|
  aY (0 ≤ (IntKind.i64.wrap (k25 - (1 : Int))) ∧ (IntKind.i64.wrap (k25 - (1 : Int))) < ((s24n : Nat) : Int)) <|
  aY ((s24o + Int.toNat (IntKind.i64.wrap (k25 - (1 : Int)))) < List.length s0) <|
  cond (!decide ((List.getD s0 (s24o + Int.toNat k25) default) = (List.getD s0 (s24o + Int.toNat (IntKind.i64.wrap (k25 - (1 : Int)))) default)))
  (aY (0 ≤ k25 ∧ k25 < ((s24n : Nat) : Int)) <|
  aY ((s24o + Int.toNat k25) < List.length s0) <|
  aY (0 ≤ k3 ∧ k3 < ((List.length s0 : Nat) : Int)) <|
  iL (List.set s0 (Int.toNat k3) (List.getD s0 (s24o + Int.toNat k25) default)) (IntKind.i64.wrap (k3 + (1 : Int))) k25 s24o s24n)
  (iL s0 k3 k25 s24o s24n))
  (some (.inr (s0, k3)))

noncomputable def lQ (s0 : List Int) (k3 : Int) (k25 : Int) (s24o : Nat) (s24n : Nat) : Option ((List Int × Int) ⊕ ((List Int) ⊕ (List Int))) :=
  (lp (fun s => eX s24o s24n s.1 s.2.1 s.2.2) (s0, k3, k25)).bind (fun rr => jY rr.1 rr.2)

noncomputable def gC  (s0 : List Int) (k3 : Int) : Option ((List Int × Int) ⊕ ((List Int) ⊕ (List Int))) :=
  cond (decide (k3 < ((List.length s0 : Nat) : Int)))
  (aY (0 ≤ k3 ∧ k3 < ((List.length s0 : Nat) : Int)) <|
  aY (0 ≤ (IntKind.i64.wrap (k3 - (1 : Int))) ∧ (IntKind.i64.wrap (k3 - (1 : Int))) < ((List.length s0 : Nat) : Int)) <|
  cond (decide ((List.getD s0 (Int.toNat k3) default) = (List.getD s0 (Int.toNat (IntKind.i64.wrap (k3 - (1 : Int)))) default)))
  (aY (0 ≤ k3 ∧ k3 ≤ ((List.length s0 : Nat) : Int)) <|
  lQ s0 k3 (1 : Int) (0 + Int.toNat k3) (List.length s0 - Int.toNat k3))
  (lP s0 k3))
  (some (.inr (.inl s0)))

noncomputable def lO (s0 : List Int) (k3 : Int) : Option (List Int) :=
  (lp (fun s => gC s.1 s.2) (s0, k3)).bind (Sum.elim (fun rr => jS rr) (fun rr => some rr))

noncomputable def iX (s0 : (List Int)) : Option (List Int) :=
  cond (decide (((List.length s0 : Nat) : Int) < (2 : Int)))
  (some s0)
  (lO s0 (1 : Int))

noncomputable def oB (t7c0 : (List aI)) (out3 : List Int) (t8 : aI) : Option ((List Int) ⊕ (List Int)) :=
  aY ((List.length out3 + List.length ([t8.At])) * 8 ≤ 140737488355328 ∧ List.length out3 + List.length ([t8.At]) ≤ 9223372036854775807) <|
  some (.inl (out3 ++ ([t8.At])))

noncomputable def qQ (out3 : List Int) (t7c0 : (List aI)) : Option (List Int) :=
  (lJ (fun st t8 => rnd (fun (s : List Int) => oB t7c0 s t8) st) t7c0 (.inl out3)).bind (Sum.elim (fun (s : List Int) =>
  ((kD s).bind fun x10 =>
  (iX x10).bind fun x13 =>
  some x13))
  (fun (s : List Int) =>
  (none)))

noncomputable def lT (l0 : (List aI)) : Option (List Int) :=
  (nS l0).bind fun x3 =>
  qQ ([] : List Int) x3

noncomputable def nD (l0 : (List aI)) : Option ((List Int) × Int) :=
  (nV l0 (1 : Int)).bind fun x1 =>
  cond (!decide (x1 = (0 : Int)))
  (some ([], x1))
  ((lT l0).bind fun x5 =>
  some (x5, (0 : Int)))

noncomputable def mV (x0 : Int) : Option Bool :=
  some (!decide (x0 = x0))

noncomputable def iD (x0 : (List Int)) (eZ : Int) (n6 : Int) (i7 : Int) : Option (Int × Bool) :=
  aY ((((decide (i7 < n6))) = true → 0 ≤ i7 ∧ i7 < ((List.length x0 : Nat) : Int))) <|
  aY ((((!(decide ((List.getD x0 (Int.toNat i7) default) = eZ))) && (decide (i7 < n6))) = true → 0 ≤ i7 ∧ i7 < ((List.length x0 : Nat) : Int))) <|
  (cX ((!(decide ((List.getD x0 (Int.toNat i7) default) = eZ))) && (decide (i7 < n6))) (mV (List.getD x0 (Int.toNat i7) default))).bind fun x3 =>
  (cX (x3 && ((!(decide ((List.getD x0 (Int.toNat i7) default) = eZ))) && (decide (i7 < n6)))) (mV eZ)).bind fun x6 =>
  some (i7, (decide (i7 < n6)) && ((decide ((List.getD x0 (Int.toNat i7) default) = eZ)) || (x3 && x6)))

noncomputable def eH (x0 : (List Int)) (eZ : Int) (n6 : Int) (i7 : Int) (j8 : Int) : Option ((Int × Int) ⊕ (Int)) :=
  cond (decide (i7 < j8))
  (aY (0 ≤ (1 : Int)) <|
  aY (0 ≤ (IntKind.i64.wrap (Int.fdiv (IntKind.u64.wrap (IntKind.i64.wrap (i7 + j8))) (2 ^ (min (Int.toNat (1 : Int)) 64)))) ∧ (IntKind.i64.wrap (Int.fdiv (IntKind.u64.wrap (IntKind.i64.wrap (i7 + j8))) (2 ^ (min (Int.toNat (1 : Int)) 64)))) < ((List.length x0 : Nat) : Int)) <|
  (cP (List.getD x0 (Int.toNat (IntKind.i64.wrap (Int.fdiv (IntKind.u64.wrap (IntKind.i64.wrap (i7 + j8))) (2 ^ (min (Int.toNat (1 : Int)) 64))))) default) eZ).bind fun x12 =>
  cond x12
  (some (.inl (IntKind.i64.wrap ((IntKind.i64.wrap (Int.fdiv (IntKind.u64.wrap (IntKind.i64.wrap (i7 + j8))) (2 ^ (min (Int.toNat (1 : Int)) 64)))) + (1 : Int)), j8)))
  (some (.inl (i7, IntKind.i64.wrap (Int.fdiv (IntKind.u64.wrap (IntKind.i64.wrap (i7 + j8))) (2 ^ (min (Int.toNat (1 : Int)) 64)))))))
  (some (.inr i7))

noncomputable def jV (x0 : (List Int)) (eZ : Int) (n6 : Int) (i7 : Int) (j8 : Int) : Option (Int × Bool) :=
  (lp (fun s => eH x0 eZ n6 s.1 s.2) (i7, j8)).bind (fun rr => iD x0 eZ n6 rr)

noncomputable def eV (x0 : (List Int)) (eZ : Int) : Option (Int × Bool) :=
  jV x0 eZ ((List.length x0 : Nat) : Int) (0 : Int) ((List.length x0 : Nat) : Int)

noncomputable def oT (l0 : (List aI)) (n1 : Int) (t2 : Int) : Option (Int × Int) :=
  (nV l0 n1).bind fun x1 =>
  cond (!decide (x1 = (0 : Int)))
  (some ((0 : Int), x1))
  (cond ((decide (t2 < (0 : Int))) || (decide ((1125899906842624 : Int) < t2)))
  (some ((0 : Int), (13 : Int)))
  (cond (decide (t2 = (1125899906842624 : Int)))
  (some (t2, (0 : Int)))
  ((lT l0).bind fun x7 =>
  (eV x7 t2).bind fun x10 =>
  cond (decide ((if (IntKind.i64.wrap ((IntKind.i64.wrap (x10.1 - n1)) + (1 : Int))) > (0 : Int) then (IntKind.i64.wrap ((IntKind.i64.wrap (x10.1 - n1)) + (1 : Int))) else (0 : Int)) = x10.1))
  (some (t2, (0 : Int)))
  (aY (0 ≤ (if (IntKind.i64.wrap ((IntKind.i64.wrap (x10.1 - n1)) + (1 : Int))) > (0 : Int) then (IntKind.i64.wrap ((IntKind.i64.wrap (x10.1 - n1)) + (1 : Int))) else (0 : Int)) ∧ (if (IntKind.i64.wrap ((IntKind.i64.wrap (x10.1 - n1)) + (1 : Int))) > (0 : Int) then (IntKind.i64.wrap ((IntKind.i64.wrap (x10.1 - n1)) + (1 : Int))) else (0 : Int)) < ((List.length x7 : Nat) : Int)) <|
  some (List.getD x7 (Int.toNat (if (IntKind.i64.wrap ((IntKind.i64.wrap (x10.1 - n1)) + (1 : Int))) > (0 : Int) then (IntKind.i64.wrap ((IntKind.i64.wrap (x10.1 - n1)) + (1 : Int))) else (0 : Int))) default, (0 : Int))))))

noncomputable def gR (s0 : (List aB)) : Option (List aB) :=
  aY (List.length s0 * 32 ≤ 140737488355328 ∧ List.length s0 ≤ 9223372036854775807) <|
  some s0

noncomputable def mO (tF : (List aI)) (t4 : bJ) (p5 : bJ) (t22 : aI) : Option ((bJ × bJ) ⊕ (bJ × bJ)) :=
  cond ((decide (t22.At < p5.Span.From)) || (decide (p5.Span.To ≤ t22.At)))
  (some (.inl (t4, p5)))
  (aY ((((decide ((0 : Int) ≤ (IntKind.i64.wrap (((List.length p5.Rows : Nat) : Int) - (1 : Int)))))) = true → 0 ≤ (IntKind.i64.wrap (((List.length p5.Rows : Nat) : Int) - (1 : Int))) ∧ (IntKind.i64.wrap (((List.length p5.Rows : Nat) : Int) - (1 : Int))) < ((List.length p5.Rows : Nat) : Int))) <|
  (cX (decide ((0 : Int) ≤ (IntKind.i64.wrap (((List.length p5.Rows : Nat) : Int) - (1 : Int))))) (fD ((List.getD p5.Rows (Int.toNat (IntKind.i64.wrap (((List.length p5.Rows : Nat) : Int) - (1 : Int)))) default).Row) t22.Row)).bind fun x13 =>
  cond ((decide ((0 : Int) ≤ (IntKind.i64.wrap (((List.length p5.Rows : Nat) : Int) - (1 : Int))))) && x13)
  (aY (0 ≤ (IntKind.i64.wrap (((List.length p5.Rows : Nat) : Int) - (1 : Int))) ∧ (IntKind.i64.wrap (((List.length p5.Rows : Nat) : Int) - (1 : Int))) < ((List.length p5.Rows : Nat) : Int)) <|
  aY (0 ≤ (IntKind.i64.wrap (((List.length p5.Rows : Nat) : Int) - (1 : Int))) ∧ (IntKind.i64.wrap (((List.length p5.Rows : Nat) : Int) - (1 : Int))) < ((List.length p5.Rows : Nat) : Int)) <|
  some (.inl (t4, bJ.mk p5.Span (List.set p5.Rows (Int.toNat (IntKind.i64.wrap (((List.length p5.Rows : Nat) : Int) - (1 : Int)))) (cG.mk (List.getD p5.Rows (Int.toNat (IntKind.i64.wrap (((List.length p5.Rows : Nat) : Int) - (1 : Int)))) default).Row (IntKind.i64.wrap (((List.getD p5.Rows (Int.toNat (IntKind.i64.wrap (((List.length p5.Rows : Nat) : Int) - (1 : Int)))) default).N) + t22.Net)))))))
  ((gR t22.Row).bind fun x19 =>
  aY ((List.length p5.Rows + List.length ([cG.mk x19 t22.Net])) * 32 ≤ 140737488355328 ∧ List.length p5.Rows + List.length ([cG.mk x19 t22.Net]) ≤ 9223372036854775807) <|
  some (.inl (t4, bJ.mk p5.Span (p5.Rows ++ ([cG.mk x19 t22.Net]))))))

noncomputable def qO (t4 : bJ) (p5 : bJ) (tF : (List aI)) : Option bJ :=
  (lJ (fun st t22 => rnd (fun (s : bJ × bJ) => mO tF s.1 s.2 t22) st) tF (.inl (t4, p5))).bind (Sum.elim (fun (s : bJ × bJ) =>
  (some s.2))
  (fun (s : bJ × bJ) =>
  (none)))

noncomputable def pH (l0 : (List aI)) (run1 : (List Int)) : Option bJ :=
  aY (0 ≤ (0 : Int) ∧ (0 : Int) < ((List.length run1 : Nat) : Int)) <|
  aY (0 ≤ (IntKind.i64.wrap (((List.length run1 : Nat) : Int) - (1 : Int))) ∧ (IntKind.i64.wrap (((List.length run1 : Nat) : Int) - (1 : Int))) < ((List.length run1 : Nat) : Int)) <|
  (nS l0).bind fun x6 =>
  qO (bJ.mk (cV.mk 0 0) ([])) (bJ.mk (cV.mk (List.getD run1 (Int.toNat (0 : Int)) default) (IntKind.i64.wrap ((List.getD run1 (Int.toNat (IntKind.i64.wrap (((List.length run1 : Nat) : Int) - (1 : Int)))) default) + (1 : Int)))) ([])) x6

noncomputable def rX (jH : List bJ) : Option ((List bJ) × Int) :=
  some (jH, (0 : Int))

noncomputable def kR (l0 : (List aI)) (n1 : Int) (kM : (List Int)) (jH : List bJ) : Option (((List Int) × List bJ) ⊕ ((List bJ))) :=
  cond (decide (n1 ≤ ((List.length kM : Nat) : Int)))
  (aY (0 ≤ n1 ∧ n1 ≤ n1 ∧ n1 ≤ ((List.length kM : Nat) : Int)) <|
  (pH l0 (List.take (Int.toNat n1) kM)).bind fun x20 =>
  aY ((List.length jH + List.length ([x20])) * 40 ≤ 140737488355328 ∧ List.length jH + List.length ([x20]) ≤ 9223372036854775807) <|
  aY (0 ≤ (1 : Int) ∧ (1 : Int) ≤ ((List.length kM : Nat) : Int)) <|
  some (.inl (List.drop (Int.toNat (1 : Int)) kM, jH ++ ([x20]))))
  (some (.inr jH))

noncomputable def rY (l0 : (List aI)) (n1 : Int) (kM : (List Int)) (jH : List bJ) : Option ((List bJ) × Int) :=
  (lp (fun s => kR l0 n1 s.1 s.2) (kM, jH)).bind (fun rr => rX rr)

noncomputable def qG (l0 : (List aI)) (n1 : Int) (vI : Int) : Option ((List bJ) × Int) :=
  (nV l0 n1).bind fun x1 =>
  cond (!decide (x1 = (0 : Int)))
  (some ([], x1))
  (cond ((decide (vI < (0 : Int))) || (decide ((1125899906842624 : Int) < vI)))
  (some ([], (13 : Int)))
  ((lT l0).bind fun x6 =>
  (eV x6 vI).bind fun x9 =>
  aY (0 ≤ x9.1 ∧ x9.1 ≤ ((List.length x6 : Nat) : Int) ∧ ((List.length x6 : Nat) : Int) ≤ ((List.length x6 : Nat) : Int) ∧ ((List.length x6 : Nat) : Int) ≤ ((List.length x6 : Nat) : Int)) <|
  cond (decide ((1024 : Int) < (IntKind.i64.wrap ((IntKind.i64.wrap (((List.length (List.drop (Int.toNat x9.1) (List.take (Int.toNat ((List.length x6 : Nat) : Int)) x6)) : Nat) : Int) - n1)) + (1 : Int)))))
  (some ([], (7 : Int)))
  (rY l0 n1 (List.drop (Int.toNat x9.1) (List.take (Int.toNat ((List.length x6 : Nat) : Int)) x6)) ([] : List bJ))))

noncomputable def pZ  : Option Bool :=
  (nD ([aI.mk ([aB.mk (1 : Int) (1 : Int) ByteArray.empty]) (2 : Int) (1 : Int), aI.mk ([aB.mk (1 : Int) (2 : Int) ByteArray.empty]) (5 : Int) (1 : Int), aI.mk ([aB.mk (1 : Int) (2 : Int) ByteArray.empty]) (7 : Int) (-1 : Int), aI.mk ([aB.mk (1 : Int) (2 : Int) ByteArray.empty]) (8 : Int) (1 : Int)])).bind fun x1 =>
  (oT ([aI.mk ([aB.mk (1 : Int) (1 : Int) ByteArray.empty]) (2 : Int) (1 : Int), aI.mk ([aB.mk (1 : Int) (2 : Int) ByteArray.empty]) (5 : Int) (1 : Int), aI.mk ([aB.mk (1 : Int) (2 : Int) ByteArray.empty]) (7 : Int) (-1 : Int), aI.mk ([aB.mk (1 : Int) (2 : Int) ByteArray.empty]) (8 : Int) (1 : Int)]) (2 : Int) (6 : Int)).bind fun x4 =>
  (qG ([aI.mk ([aB.mk (1 : Int) (1 : Int) ByteArray.empty]) (2 : Int) (1 : Int), aI.mk ([aB.mk (1 : Int) (2 : Int) ByteArray.empty]) (5 : Int) (1 : Int), aI.mk ([aB.mk (1 : Int) (2 : Int) ByteArray.empty]) (7 : Int) (-1 : Int), aI.mk ([aB.mk (1 : Int) (2 : Int) ByteArray.empty]) (8 : Int) (1 : Int)]) (2 : Int) (0 : Int)).bind fun x7 =>
  aY (((((((((decide (x1.2 = (0 : Int))) && (decide (x4.2 = (0 : Int)))) && (decide (x7.2 = (0 : Int)))) && (decide (((List.length x1.1 : Nat) : Int) = (3 : Int)))) && (decide (x4.1 = (5 : Int)))) && (decide (((List.length x7.1 : Nat) : Int) = (2 : Int))))) = true → 0 ≤ (0 : Int) ∧ (0 : Int) < ((List.length x7.1 : Nat) : Int))) <|
  aY ((((((((((decide (x1.2 = (0 : Int))) && (decide (x4.2 = (0 : Int)))) && (decide (x7.2 = (0 : Int)))) && (decide (((List.length x1.1 : Nat) : Int) = (3 : Int)))) && (decide (x4.1 = (5 : Int)))) && (decide (((List.length x7.1 : Nat) : Int) = (2 : Int)))) && ((decide ((((List.getD x7.1 (Int.toNat (0 : Int)) default).Span).From) = ((cV.mk (2 : Int) (6 : Int)).From))) && ((decide ((((List.getD x7.1 (Int.toNat (0 : Int)) default).Span).To) = ((cV.mk (2 : Int) (6 : Int)).To))) && true)))) = true → 0 ≤ (0 : Int) ∧ (0 : Int) < ((List.length x7.1 : Nat) : Int))) <|
  aY (((((((((((decide (x1.2 = (0 : Int))) && (decide (x4.2 = (0 : Int)))) && (decide (x7.2 = (0 : Int)))) && (decide (((List.length x1.1 : Nat) : Int) = (3 : Int)))) && (decide (x4.1 = (5 : Int)))) && (decide (((List.length x7.1 : Nat) : Int) = (2 : Int)))) && ((decide ((((List.getD x7.1 (Int.toNat (0 : Int)) default).Span).From) = ((cV.mk (2 : Int) (6 : Int)).From))) && ((decide ((((List.getD x7.1 (Int.toNat (0 : Int)) default).Span).To) = ((cV.mk (2 : Int) (6 : Int)).To))) && true))) && (decide (((List.length ((List.getD x7.1 (Int.toNat (0 : Int)) default).Rows) : Nat) : Int) = (2 : Int))))) = true → 0 ≤ (1 : Int) ∧ (1 : Int) < ((List.length x7.1 : Nat) : Int))) <|
  aY ((((((((((((decide (x1.2 = (0 : Int))) && (decide (x4.2 = (0 : Int)))) && (decide (x7.2 = (0 : Int)))) && (decide (((List.length x1.1 : Nat) : Int) = (3 : Int)))) && (decide (x4.1 = (5 : Int)))) && (decide (((List.length x7.1 : Nat) : Int) = (2 : Int)))) && ((decide ((((List.getD x7.1 (Int.toNat (0 : Int)) default).Span).From) = ((cV.mk (2 : Int) (6 : Int)).From))) && ((decide ((((List.getD x7.1 (Int.toNat (0 : Int)) default).Span).To) = ((cV.mk (2 : Int) (6 : Int)).To))) && true))) && (decide (((List.length ((List.getD x7.1 (Int.toNat (0 : Int)) default).Rows) : Nat) : Int) = (2 : Int)))) && (decide (((List.length ((List.getD x7.1 (Int.toNat (1 : Int)) default).Rows) : Nat) : Int) = (1 : Int))))) = true → 0 ≤ (1 : Int) ∧ (1 : Int) < ((List.length x7.1 : Nat) : Int))) <|
  aY ((((((((((((decide (x1.2 = (0 : Int))) && (decide (x4.2 = (0 : Int)))) && (decide (x7.2 = (0 : Int)))) && (decide (((List.length x1.1 : Nat) : Int) = (3 : Int)))) && (decide (x4.1 = (5 : Int)))) && (decide (((List.length x7.1 : Nat) : Int) = (2 : Int)))) && ((decide ((((List.getD x7.1 (Int.toNat (0 : Int)) default).Span).From) = ((cV.mk (2 : Int) (6 : Int)).From))) && ((decide ((((List.getD x7.1 (Int.toNat (0 : Int)) default).Span).To) = ((cV.mk (2 : Int) (6 : Int)).To))) && true))) && (decide (((List.length ((List.getD x7.1 (Int.toNat (0 : Int)) default).Rows) : Nat) : Int) = (2 : Int)))) && (decide (((List.length ((List.getD x7.1 (Int.toNat (1 : Int)) default).Rows) : Nat) : Int) = (1 : Int))))) = true → 0 ≤ (0 : Int) ∧ (0 : Int) < ((List.length ((List.getD x7.1 (Int.toNat (1 : Int)) default).Rows) : Nat) : Int))) <|
  some ((((((((((decide (x1.2 = (0 : Int))) && (decide (x4.2 = (0 : Int)))) && (decide (x7.2 = (0 : Int)))) && (decide (((List.length x1.1 : Nat) : Int) = (3 : Int)))) && (decide (x4.1 = (5 : Int)))) && (decide (((List.length x7.1 : Nat) : Int) = (2 : Int)))) && ((decide ((((List.getD x7.1 (Int.toNat (0 : Int)) default).Span).From) = ((cV.mk (2 : Int) (6 : Int)).From))) && ((decide ((((List.getD x7.1 (Int.toNat (0 : Int)) default).Span).To) = ((cV.mk (2 : Int) (6 : Int)).To))) && true))) && (decide (((List.length ((List.getD x7.1 (Int.toNat (0 : Int)) default).Rows) : Nat) : Int) = (2 : Int)))) && (decide (((List.length ((List.getD x7.1 (Int.toNat (1 : Int)) default).Rows) : Nat) : Int) = (1 : Int)))) && (decide (((List.getD ((List.getD x7.1 (Int.toNat (1 : Int)) default).Rows) (Int.toNat (0 : Int)) default).N) = (2 : Int))))

noncomputable def pK (v0 : aB) : Option Bool :=
  cond (decide (v0.Kind = (1 : Int)))
  (some (mT v0.Text (⟨#[]⟩ : ByteArray)))
  (some (((decide (v0.Kind = (2 : Int))) && (decide (v0.Num = (0 : Int)))) && (decide (((ByteArray.size v0.Text : Nat) : Int) ≤ (64 : Int)))))

noncomputable def pX (r0 : (List aB)) : Option Bool :=
  some (decide (((List.length r0 : Nat) : Int) ≤ (8 : Int)))

noncomputable def nU (r0 : (List aB)) (i3 : Int) : Option ((Int) ⊕ (Unit ⊕ Bool)) :=
  cond ((decide (i3 < ((List.length r0 : Nat) : Int))) && (decide (i3 < (9 : Int))))
  (aY (0 ≤ i3 ∧ i3 < ((List.length r0 : Nat) : Int)) <|
  (pK (List.getD r0 (Int.toNat i3) default)).bind fun x3 =>
  cond (!x3)
  (some (.inr (.inr false)))
  (some (.inl (IntKind.i64.wrap (i3 + (1 : Int))))))
  (some (.inr (.inl ())))

noncomputable def uZ (r0 : (List aB)) (i3 : Int) : Option Bool :=
  (lp (fun s => nU r0 s) i3).bind (Sum.elim (fun rr => pX r0) (fun rr => some rr))

noncomputable def pI (r0 : (List aB)) : Option Bool :=
  uZ r0 (0 : Int)

noncomputable def sQ  : Option Bool :=
  some true

noncomputable def kU (f0 : (List aM)) (i3 : Int) : Option ((Int) ⊕ (Unit ⊕ Bool)) :=
  cond (decide (i3 < ((List.length f0 : Nat) : Int)))
  (aY (0 ≤ i3 ∧ i3 < ((List.length f0 : Nat) : Int)) <|
  aY ((((!(decide (((List.getD f0 (Int.toNat i3) default).At) < (-1 : Int))))) = true → 0 ≤ i3 ∧ i3 < ((List.length f0 : Nat) : Int))) <|
  aY ((((!((decide (((List.getD f0 (Int.toNat i3) default).At) < (-1 : Int))) || (decide ((1125899906842624 : Int) ≤ ((List.getD f0 (Int.toNat i3) default).At)))))) = true → 0 ≤ i3 ∧ i3 < ((List.length f0 : Nat) : Int))) <|
  aY ((((!(((decide (((List.getD f0 (Int.toNat i3) default).At) < (-1 : Int))) || (decide ((1125899906842624 : Int) ≤ ((List.getD f0 (Int.toNat i3) default).At)))) || (decide (((List.getD f0 (Int.toNat i3) default).Net) = (0 : Int)))))) = true → 0 ≤ i3 ∧ i3 < ((List.length f0 : Nat) : Int))) <|
  aY ((((!((((decide (((List.getD f0 (Int.toNat i3) default).At) < (-1 : Int))) || (decide ((1125899906842624 : Int) ≤ ((List.getD f0 (Int.toNat i3) default).At)))) || (decide (((List.getD f0 (Int.toNat i3) default).Net) = (0 : Int)))) || (decide ((1048576 : Int) < ((List.getD f0 (Int.toNat i3) default).Net)))))) = true → 0 ≤ i3 ∧ i3 < ((List.length f0 : Nat) : Int))) <|
  cond (((((decide (((List.getD f0 (Int.toNat i3) default).At) < (-1 : Int))) || (decide ((1125899906842624 : Int) ≤ ((List.getD f0 (Int.toNat i3) default).At)))) || (decide (((List.getD f0 (Int.toNat i3) default).Net) = (0 : Int)))) || (decide ((1048576 : Int) < ((List.getD f0 (Int.toNat i3) default).Net)))) || (decide (((List.getD f0 (Int.toNat i3) default).Net) < (-1048576 : Int))))
  (some (.inr (.inr false)))
  (aY ((((decide ((0 : Int) < i3))) = true → 0 ≤ i3 ∧ i3 < ((List.length f0 : Nat) : Int))) <|
  aY ((((decide ((0 : Int) < i3))) = true → 0 ≤ (IntKind.i64.wrap (i3 - (1 : Int))) ∧ (IntKind.i64.wrap (i3 - (1 : Int))) < ((List.length f0 : Nat) : Int))) <|
  cond ((decide ((0 : Int) < i3)) && (decide (((List.getD f0 (Int.toNat i3) default).At) ≤ ((List.getD f0 (Int.toNat (IntKind.i64.wrap (i3 - (1 : Int)))) default).At))))
  (some (.inr (.inr false)))
  (some (.inl (IntKind.i64.wrap (i3 + (1 : Int)))))))
  (some (.inr (.inl ())))

noncomputable def vH (f0 : (List aM)) (i3 : Int) : Option Bool :=
  (lp (fun s => kU f0 s) i3).bind (Sum.elim (fun rr => sQ ) (fun rr => some rr))

noncomputable def pL (f0 : (List aM)) : Option Bool :=
  cond (decide ((1024 : Int) < ((List.length f0 : Nat) : Int)))
  (some false)
  (vH f0 (0 : Int))

noncomputable def nY (a2 : aB) (b3 : aB) : Option Int :=
  cond (!decide (((ByteArray.size a2.Text : Nat) : Int) = ((ByteArray.size b3.Text : Nat) : Int)))
  (cond (decide (((ByteArray.size a2.Text : Nat) : Int) < ((ByteArray.size b3.Text : Nat) : Int)))
  (some (-1 : Int))
  (some (1 : Int)))
  (some (0 : Int))

noncomputable def iI (a2 : aB) (b3 : aB) (i5 : Int) : Option ((Int) ⊕ (Unit ⊕ Int)) :=
  cond ((decide (i5 < ((ByteArray.size a2.Text : Nat) : Int))) && (decide (i5 < ((ByteArray.size b3.Text : Nat) : Int))))
  (aY (0 ≤ i5 ∧ i5 < ((ByteArray.size a2.Text : Nat) : Int)) <|
  aY (0 ≤ i5 ∧ i5 < ((ByteArray.size b3.Text : Nat) : Int)) <|
  cond (!decide ((bt a2.Text i5) = (bt b3.Text i5)))
  (aY (0 ≤ i5 ∧ i5 < ((ByteArray.size a2.Text : Nat) : Int)) <|
  aY (0 ≤ i5 ∧ i5 < ((ByteArray.size b3.Text : Nat) : Int)) <|
  cond (decide ((bt a2.Text i5) < (bt b3.Text i5)))
  (some (.inr (.inr (-1 : Int))))
  (some (.inr (.inr (1 : Int)))))
  (some (.inl (IntKind.i64.wrap (i5 + (1 : Int))))))
  (some (.inr (.inl ())))

noncomputable def qR (a2 : aB) (b3 : aB) (i5 : Int) : Option Int :=
  (lp (fun s => iI a2 b3 s) i5).bind (Sum.elim (fun rr => nY a2 b3) (fun rr => some rr))

noncomputable def oY (a0 : aB) (b1 : aB) : Option Int :=
  (pK a0).bind fun x1 =>
  (cX (!(!x1)) (pK b1)).bind fun x4 =>
  cond ((!x1) || (!x4))
  (some (0 : Int))
  (cond (!decide (a0.Kind = b1.Kind))
  (cond (decide (a0.Kind = (1 : Int)))
  (some (-1 : Int))
  (some (1 : Int)))
  (cond (!decide (a0.Num = b1.Num))
  (cond (decide (a0.Num < b1.Num))
  (some (-1 : Int))
  (some (1 : Int)))
  (qR a0 b1 (0 : Int))))

noncomputable def oD (a0 : (List aB)) (b1 : (List aB)) : Option Int :=
  cond (decide (((List.length a0 : Nat) : Int) < ((List.length b1 : Nat) : Int)))
  (some (-1 : Int))
  (cond (decide (((List.length b1 : Nat) : Int) < ((List.length a0 : Nat) : Int)))
  (some (1 : Int))
  (some (0 : Int)))

noncomputable def iE (a0 : (List aB)) (b1 : (List aB)) (i5 : Int) : Option ((Int) ⊕ (Unit ⊕ Int)) :=
  cond ((decide (i5 < ((List.length a0 : Nat) : Int))) && (decide (i5 < ((List.length b1 : Nat) : Int))))
  (aY (0 ≤ i5 ∧ i5 < ((List.length a0 : Nat) : Int)) <|
  aY (0 ≤ i5 ∧ i5 < ((List.length b1 : Nat) : Int)) <|
  (oY (List.getD a0 (Int.toNat i5) default) (List.getD b1 (Int.toNat i5) default)).bind fun x13 =>
  cond (!decide (x13 = (0 : Int)))
  (some (.inr (.inr x13)))
  (some (.inl (IntKind.i64.wrap (i5 + (1 : Int))))))
  (some (.inr (.inl ())))

noncomputable def qL (a0 : (List aB)) (b1 : (List aB)) (i5 : Int) : Option Int :=
  (lp (fun s => iE a0 b1 s) i5).bind (Sum.elim (fun rr => oD a0 b1) (fun rr => some rr))

noncomputable def nA (a0 : (List aB)) (b1 : (List aB)) : Option Int :=
  (pI a0).bind fun x1 =>
  (cX (!(!x1)) (pI b1)).bind fun x4 =>
  cond ((!x1) || (!x4))
  (some (0 : Int))
  (qL a0 b1 (0 : Int))

noncomputable def qW  : Option Bool :=
  some true

noncomputable def oN (a0 : (List aB)) (b1 : (List aB)) (i5 : Int) : Option ((Int) ⊕ (Unit ⊕ Bool)) :=
  cond (decide (i5 < ((List.length a0 : Nat) : Int)))
  (aY (0 ≤ i5 ∧ i5 < ((List.length a0 : Nat) : Int)) <|
  aY (0 ≤ i5 ∧ i5 < ((List.length b1 : Nat) : Int)) <|
  cond (!((decide (((List.getD a0 (Int.toNat i5) default).Kind) = ((List.getD b1 (Int.toNat i5) default).Kind))) && ((decide (((List.getD a0 (Int.toNat i5) default).Num) = ((List.getD b1 (Int.toNat i5) default).Num))) && ((mT ((List.getD a0 (Int.toNat i5) default).Text) ((List.getD b1 (Int.toNat i5) default).Text)) && true))))
  (some (.inr (.inr false)))
  (some (.inl (IntKind.i64.wrap (i5 + (1 : Int))))))
  (some (.inr (.inl ())))

noncomputable def uI (a0 : (List aB)) (b1 : (List aB)) (i5 : Int) : Option Bool :=
  (lp (fun s => oN a0 b1 s) i5).bind (Sum.elim (fun rr => qW ) (fun rr => some rr))

noncomputable def qA (a0 : (List aB)) (b1 : (List aB)) : Option Bool :=
  cond (!decide (((List.length a0 : Nat) : Int) = ((List.length b1 : Nat) : Int)))
  (some false)
  (uI a0 b1 (0 : Int))

noncomputable def uJ (bG : List (List aB)) : Option (List (List aB)) :=
  some bG

noncomputable def rF (l0 : (List aI)) (bG : List (List aB)) (i4 : Int) : Option ((List (List aB) × Int) ⊕ ((List (List aB)))) :=
  some (.inl (bG, IntKind.i64.wrap (i4 + (1 : Int))))

noncomputable def rM (l0 : (List aI)) (bG : List (List aB)) (i4 : Int) (at5 : Int) : Option ((List (List aB) × Int) ⊕ ((List (List aB)))) :=
  aY ((((decide (at5 < ((List.length bG : Nat) : Int)))) = true → 0 ≤ at5 ∧ at5 < ((List.length bG : Nat) : Int))) <|
  aY ((((decide (at5 < ((List.length bG : Nat) : Int)))) = true → 0 ≤ i4 ∧ i4 < ((List.length l0 : Nat) : Int))) <|
  (cX (decide (at5 < ((List.length bG : Nat) : Int))) (qA (List.getD bG (Int.toNat at5) default) ((List.getD l0 (Int.toNat i4) default).Row))).bind fun x10 =>
  cond ((decide (at5 < ((List.length bG : Nat) : Int))) && x10)
  (rF l0 bG i4)
  (aY (0 ≤ at5 ∧ at5 ≤ ((List.length bG : Nat) : Int)) <|
  aY (List.length (List.take (Int.toNat at5) bG) * 24 ≤ 140737488355328 ∧ List.length (List.take (Int.toNat at5) bG) ≤ 9223372036854775807) <|
  aY (0 ≤ i4 ∧ i4 < ((List.length l0 : Nat) : Int)) <|
  aY ((List.length (List.take (Int.toNat at5) bG) + List.length ([(List.getD l0 (Int.toNat i4) default).Row])) * 24 ≤ 140737488355328 ∧ List.length (List.take (Int.toNat at5) bG) + List.length ([(List.getD l0 (Int.toNat i4) default).Row]) ≤ 9223372036854775807) <|
  aY (0 ≤ at5 ∧ at5 ≤ ((List.length bG : Nat) : Int)) <|
  aY ((List.length ((List.take (Int.toNat at5) bG) ++ ([(List.getD l0 (Int.toNat i4) default).Row])) + List.length (List.drop (Int.toNat at5) bG)) * 24 ≤ 140737488355328 ∧ List.length ((List.take (Int.toNat at5) bG) ++ ([(List.getD l0 (Int.toNat i4) default).Row])) + List.length (List.drop (Int.toNat at5) bG) ≤ 9223372036854775807) <|
  rF l0 (((List.take (Int.toNat at5) bG) ++ ([(List.getD l0 (Int.toNat i4) default).Row])) ++ (List.drop (Int.toNat at5) bG)) i4)

noncomputable def kY (l0 : (List aI)) (i4 : Int) (bG : List (List aB)) (at5 : Int) : Option ((List (List aB) × Int) ⊕ ((List (List aB) × Int))) :=
  aY ((((decide (at5 < ((List.length bG : Nat) : Int)))) = true → 0 ≤ at5 ∧ at5 < ((List.length bG : Nat) : Int))) <|
  aY ((((decide (at5 < ((List.length bG : Nat) : Int)))) = true → 0 ≤ i4 ∧ i4 < ((List.length l0 : Nat) : Int))) <|
  (cX (decide (at5 < ((List.length bG : Nat) : Int))) (nA (List.getD bG (Int.toNat at5) default) ((List.getD l0 (Int.toNat i4) default).Row))).bind fun x27 =>
  cond ((decide (at5 < ((List.length bG : Nat) : Int))) && (decide (x27 < (0 : Int))))
  (some (.inl (bG, IntKind.i64.wrap (at5 + (1 : Int)))))
  (some (.inr (bG, at5)))

noncomputable def uE (l0 : (List aI)) (bG : List (List aB)) (i4 : Int) (at5 : Int) : Option ((List (List aB) × Int) ⊕ ((List (List aB)))) :=
  (lp (fun s => kY l0 i4 s.1 s.2) (bG, at5)).bind (fun rr => rM l0 rr.1 i4 rr.2)

noncomputable def mD (l0 : (List aI)) (bG : List (List aB)) (i4 : Int) : Option ((List (List aB) × Int) ⊕ ((List (List aB)))) :=
  cond (decide (i4 < ((List.length l0 : Nat) : Int)))
  (uE l0 bG i4 (0 : Int))
  (some (.inr bG))

noncomputable def uB (l0 : (List aI)) (bG : List (List aB)) (i4 : Int) : Option (List (List aB)) :=
  (lp (fun s => mD l0 s.1 s.2) (bG, i4)).bind (fun rr => uJ rr)

noncomputable def pV (l0 : (List aI)) : Option (List (List aB)) :=
  uB l0 ([] : List (List aB)) (0 : Int)

noncomputable def tB (f5 : List aM) : Option (List aM) :=
  some f5

noncomputable def pT (l0 : (List aI)) (r1 : (List aB)) (f5 : List aM) (i6 : Int) : Option ((List aM × Int) ⊕ ((List aM))) :=
  some (.inl (f5, IntKind.i64.wrap (i6 + (1 : Int))))

noncomputable def lK (l0 : (List aI)) (r1 : (List aB)) (f5 : List aM) (i6 : Int) : Option ((List aM × Int) ⊕ ((List aM))) :=
  cond (decide (i6 < ((List.length l0 : Nat) : Int)))
  (aY (0 ≤ i6 ∧ i6 < ((List.length l0 : Nat) : Int)) <|
  (qA ((List.getD l0 (Int.toNat i6) default).Row) r1).bind fun x8 =>
  cond x8
  (aY (0 ≤ i6 ∧ i6 < ((List.length l0 : Nat) : Int)) <|
  aY (0 ≤ i6 ∧ i6 < ((List.length l0 : Nat) : Int)) <|
  aY ((List.length f5 + List.length ([aM.mk ((List.getD l0 (Int.toNat i6) default).At) ((List.getD l0 (Int.toNat i6) default).Net)])) * 16 ≤ 140737488355328 ∧ List.length f5 + List.length ([aM.mk ((List.getD l0 (Int.toNat i6) default).At) ((List.getD l0 (Int.toNat i6) default).Net)]) ≤ 9223372036854775807) <|
  pT l0 r1 (f5 ++ ([aM.mk ((List.getD l0 (Int.toNat i6) default).At) ((List.getD l0 (Int.toNat i6) default).Net)])) i6)
  (pT l0 r1 f5 i6))
  (some (.inr f5))

noncomputable def tJ (l0 : (List aI)) (r1 : (List aB)) (f5 : List aM) (i6 : Int) : Option (List aM) :=
  (lp (fun s => lK l0 r1 s.1 s.2) (f5, i6)).bind (fun rr => tB rr)

noncomputable def oQ (l0 : (List aI)) (r1 : (List aB)) : Option (List aM) :=
  tJ l0 r1 ([] : List aM) (0 : Int)

noncomputable def vF  : Option Bool :=
  some true

noncomputable def oE (l0 : (List aI)) (pP : (List (List aB))) (i6 : Int) : Option ((Int) ⊕ (Unit ⊕ Bool)) :=
  cond (decide (i6 < ((List.length pP : Nat) : Int)))
  (aY (0 ≤ i6 ∧ i6 < ((List.length pP : Nat) : Int)) <|
  (oQ l0 (List.getD pP (Int.toNat i6) default)).bind fun x7 =>
  cond (decide ((1024 : Int) < ((List.length x7 : Nat) : Int)))
  (some (.inr (.inr false)))
  (some (.inl (IntKind.i64.wrap (i6 + (1 : Int))))))
  (some (.inr (.inl ())))

noncomputable def vG (l0 : (List aI)) (pP : (List (List aB))) (i6 : Int) : Option Bool :=
  (lp (fun s => oE l0 pP s) i6).bind (Sum.elim (fun rr => vF ) (fun rr => some rr))

noncomputable def sR (l0 : (List aI)) : Option Bool :=
  (pV l0).bind fun x2 =>
  vG l0 x2 (0 : Int)

noncomputable def pR (l0 : (List aI)) (i3 : Int) : Option ((Int) ⊕ (Unit ⊕ Bool)) :=
  some (.inl (IntKind.i64.wrap (i3 + (1 : Int))))

noncomputable def mX (l0 : (List aI)) (i3 : Int) : Option ((Int) ⊕ (Unit ⊕ Bool)) :=
  cond (decide (i3 < ((List.length l0 : Nat) : Int)))
  (aY (0 ≤ i3 ∧ i3 < ((List.length l0 : Nat) : Int)) <|
  (pI ((List.getD l0 (Int.toNat i3) default).Row)).bind fun x13 =>
  aY ((((!(!x13))) = true → 0 ≤ i3 ∧ i3 < ((List.length l0 : Nat) : Int))) <|
  aY ((((!(!x13))) = true → 0 ≤ i3 ∧ i3 < ((List.length l0 : Nat) : Int))) <|
  (cX (!(!x13)) (pL ([aM.mk ((List.getD l0 (Int.toNat i3) default).At) ((List.getD l0 (Int.toNat i3) default).Net)]))).bind fun x17 =>
  cond ((!x13) || (!x17))
  (some (.inr (.inr false)))
  (cond (decide (i3 = (0 : Int)))
  (pR l0 i3)
  (aY (0 ≤ (IntKind.i64.wrap (i3 - (1 : Int))) ∧ (IntKind.i64.wrap (i3 - (1 : Int))) < ((List.length l0 : Nat) : Int)) <|
  aY (0 ≤ i3 ∧ i3 < ((List.length l0 : Nat) : Int)) <|
  (nA ((List.getD l0 (Int.toNat (IntKind.i64.wrap (i3 - (1 : Int)))) default).Row) ((List.getD l0 (Int.toNat i3) default).Row)).bind fun x24 =>
  aY ((((decide (x24 = (0 : Int))) && (!(decide ((0 : Int) < x24)))) = true → 0 ≤ (IntKind.i64.wrap (i3 - (1 : Int))) ∧ (IntKind.i64.wrap (i3 - (1 : Int))) < ((List.length l0 : Nat) : Int))) <|
  aY ((((decide (x24 = (0 : Int))) && (!(decide ((0 : Int) < x24)))) = true → 0 ≤ i3 ∧ i3 < ((List.length l0 : Nat) : Int))) <|
  cond ((decide ((0 : Int) < x24)) || ((decide (x24 = (0 : Int))) && (decide (((List.getD l0 (Int.toNat i3) default).At) ≤ ((List.getD l0 (Int.toNat (IntKind.i64.wrap (i3 - (1 : Int)))) default).At)))))
  (some (.inr (.inr false)))
  (pR l0 i3))))
  (some (.inr (.inl ())))

noncomputable def vN (l0 : (List aI)) (i3 : Int) : Option Bool :=
  (lp (fun s => mX l0 s) i3).bind (Sum.elim (fun rr => sR l0) (fun rr => some rr))

noncomputable def rO (l0 : (List aI)) : Option Bool :=
  cond (decide ((4096 : Int) < ((List.length l0 : Nat) : Int)))
  (some false)
  (vN l0 (0 : Int))

noncomputable def qD (v5 : Int) : Option Int :=
  some v5

noncomputable def nT (f0 : (List aM)) (t1 : Int) (v5 : Int) (i6 : Int) : Option ((Int × Int) ⊕ (Int)) :=
  some (.inl (v5, IntKind.i64.wrap (i6 + (1 : Int))))

noncomputable def jM (f0 : (List aM)) (t1 : Int) (v5 : Int) (i6 : Int) : Option ((Int × Int) ⊕ (Int)) :=
  cond (decide (i6 < ((List.length f0 : Nat) : Int)))
  (aY (0 ≤ i6 ∧ i6 < ((List.length f0 : Nat) : Int)) <|
  cond (decide (((List.getD f0 (Int.toNat i6) default).At) ≤ t1))
  (aY (0 ≤ i6 ∧ i6 < ((List.length f0 : Nat) : Int)) <|
  nT f0 t1 (IntKind.i64.wrap (v5 + ((List.getD f0 (Int.toNat i6) default).Net))) i6)
  (nT f0 t1 v5 i6))
  (some (.inr v5))

noncomputable def tE (f0 : (List aM)) (t1 : Int) (v5 : Int) (i6 : Int) : Option Int :=
  (lp (fun s => jM f0 t1 s.1 s.2) (v5, i6)).bind (fun rr => qD rr)

noncomputable def mE (f0 : (List aM)) (t1 : Int) : Option Int :=
  tE f0 t1 (0 : Int) (0 : Int)

noncomputable def qB (m3 : Int) : Option Int :=
  some m3

noncomputable def qE (f0 : (List aM)) (m3 : Int) (i4 : Int) : Option ((Int × Int) ⊕ (Int)) :=
  some (.inl (m3, IntKind.i64.wrap (i4 + (1 : Int))))

noncomputable def lF (f0 : (List aM)) (m3 : Int) (i4 : Int) : Option ((Int × Int) ⊕ (Int)) :=
  cond (decide (i4 < ((List.length f0 : Nat) : Int)))
  (aY (0 ≤ i4 ∧ i4 < ((List.length f0 : Nat) : Int)) <|
  (mE f0 ((List.getD f0 (Int.toNat i4) default).At)).bind fun x10 =>
  cond (decide (x10 < m3))
  (aY (0 ≤ i4 ∧ i4 < ((List.length f0 : Nat) : Int)) <|
  (mE f0 ((List.getD f0 (Int.toNat i4) default).At)).bind fun x15 =>
  qE f0 x15 i4)
  (qE f0 m3 i4))
  (some (.inr m3))

noncomputable def tK (f0 : (List aM)) (m3 : Int) (i4 : Int) : Option Int :=
  (lp (fun s => lF f0 s.1 s.2) (m3, i4)).bind (fun rr => qB rr)

noncomputable def qY (f0 : (List aM)) : Option Int :=
  (pL f0).bind fun x1 =>
  cond (!x1)
  (some (0 : Int))
  ((mE f0 (-1 : Int)).bind fun x5 =>
  tK f0 x5 (0 : Int))

noncomputable def sX  : Option Bool :=
  some true

noncomputable def mN (l0 : (List aI)) (bG : (List (List aB))) (i4 : Int) : Option ((Int) ⊕ (Unit ⊕ Bool)) :=
  cond (decide (i4 < ((List.length bG : Nat) : Int)))
  (aY (0 ≤ i4 ∧ i4 < ((List.length bG : Nat) : Int)) <|
  (oQ l0 (List.getD bG (Int.toNat i4) default)).bind fun x10 =>
  (qY x10).bind fun x13 =>
  cond (decide (x13 < (0 : Int)))
  (some (.inr (.inr false)))
  (some (.inl (IntKind.i64.wrap (i4 + (1 : Int))))))
  (some (.inr (.inl ())))

noncomputable def tG (l0 : (List aI)) (bG : (List (List aB))) (i4 : Int) : Option Bool :=
  (lp (fun s => mN l0 bG s) i4).bind (Sum.elim (fun rr => sX ) (fun rr => some rr))

noncomputable def rG (l0 : (List aI)) : Option Bool :=
  (rO l0).bind fun x1 =>
  cond (!x1)
  (some false)
  ((pV l0).bind fun x5 =>
  tG l0 x5 (0 : Int))

noncomputable def oU (l0 : (List aI)) (n1 : Int) : Option Int :=
  (rO l0).bind fun x1 =>
  cond (((!x1) || (decide (n1 < (1 : Int)))) || (decide ((64 : Int) < n1)))
  (some (2 : Int))
  ((rG l0).bind fun x5 =>
  cond (!x5)
  (some (20 : Int))
  (some (0 : Int)))

noncomputable def oV (out5 : List Int) : Option (List Int) :=
  some out5

noncomputable def oR (t1 : Int) (out5 : List Int) (put6 : Bool) : Option (List Int) :=
  cond (!put6)
  (aY ((List.length out5 + List.length ([t1])) * 8 ≤ 140737488355328 ∧ List.length out5 + List.length ([t1]) ≤ 9223372036854775807) <|
  oV (out5 ++ ([t1])))
  (oV out5)

noncomputable def rI (l0 : (List Int)) (t1 : Int) (out5 : List Int) (put6 : Bool) (i7 : Int) : Option ((List Int × Bool × Int) ⊕ ((List Int × Bool) ⊕ (List Int))) :=
  aY (0 ≤ i7 ∧ i7 < ((List.length l0 : Nat) : Int)) <|
  aY ((List.length out5 + List.length ([List.getD l0 (Int.toNat i7) default])) * 8 ≤ 140737488355328 ∧ List.length out5 + List.length ([List.getD l0 (Int.toNat i7) default]) ≤ 9223372036854775807) <|
  some (.inl (out5 ++ ([List.getD l0 (Int.toNat i7) default]), put6, IntKind.i64.wrap (i7 + (1 : Int))))

noncomputable def iV (l0 : (List Int)) (t1 : Int) (out5 : List Int) (put6 : Bool) (i7 : Int) : Option ((List Int × Bool × Int) ⊕ ((List Int × Bool) ⊕ (List Int))) :=
  cond (decide (i7 < ((List.length l0 : Nat) : Int)))
  (aY (0 ≤ i7 ∧ i7 < ((List.length l0 : Nat) : Int)) <|
  cond (decide ((List.getD l0 (Int.toNat i7) default) = t1))
  (some (.inr (.inr l0)))
  (aY (0 ≤ i7 ∧ i7 < ((List.length l0 : Nat) : Int)) <|
  cond ((decide (t1 < (List.getD l0 (Int.toNat i7) default))) && (!put6))
  (aY ((List.length out5 + List.length ([t1])) * 8 ≤ 140737488355328 ∧ List.length out5 + List.length ([t1]) ≤ 9223372036854775807) <|
  rI l0 t1 (out5 ++ ([t1])) true i7)
  (rI l0 t1 out5 put6 i7)))
  (some (.inr (.inl (out5, put6))))

noncomputable def uD (l0 : (List Int)) (t1 : Int) (out5 : List Int) (put6 : Bool) (i7 : Int) : Option (List Int) :=
  (lp (fun s => iV l0 t1 s.1 s.2.1 s.2.2) (out5, put6, i7)).bind (Sum.elim (fun rr => oR t1 rr.1 rr.2) (fun rr => some rr))

noncomputable def sP (l0 : (List Int)) (t1 : Int) : Option (List Int) :=
  uD l0 t1 ([] : List Int) false (0 : Int)

noncomputable def sF (out5 : (List Int)) : Option ((List Int) × Int) :=
  some (out5, (0 : Int))

noncomputable def mZ (l0 : (List aI)) (out5 : (List Int)) (i6 : Int) : Option (((List Int) × Int) ⊕ ((List Int))) :=
  some (.inl (out5, IntKind.i64.wrap (i6 + (1 : Int))))

noncomputable def kS (l0 : (List aI)) (out5 : (List Int)) (i6 : Int) : Option (((List Int) × Int) ⊕ ((List Int))) :=
  cond (decide (i6 < ((List.length l0 : Nat) : Int)))
  (aY (0 ≤ i6 ∧ i6 < ((List.length l0 : Nat) : Int)) <|
  aY ((((decide ((0 : Int) < ((List.getD l0 (Int.toNat i6) default).Net)))) = true → 0 ≤ i6 ∧ i6 < ((List.length l0 : Nat) : Int))) <|
  cond ((decide ((0 : Int) < ((List.getD l0 (Int.toNat i6) default).Net))) && (decide ((0 : Int) ≤ ((List.getD l0 (Int.toNat i6) default).At))))
  (aY (0 ≤ i6 ∧ i6 < ((List.length l0 : Nat) : Int)) <|
  (sP out5 ((List.getD l0 (Int.toNat i6) default).At)).bind fun x11 =>
  mZ l0 x11 i6)
  (mZ l0 out5 i6))
  (some (.inr out5))

noncomputable def sC (l0 : (List aI)) (out5 : (List Int)) (i6 : Int) : Option ((List Int) × Int) :=
  (lp (fun s => kS l0 s.1 s.2) (out5, i6)).bind (fun rr => sF rr)

noncomputable def nP (l0 : (List aI)) : Option ((List Int) × Int) :=
  (oU l0 (1 : Int)).bind fun x1 =>
  cond (!decide (x1 = (0 : Int)))
  (some ([], x1))
  (sC l0 ([]) (0 : Int))

noncomputable def vC (t0 : Int) : Option Bool :=
  some ((decide ((0 : Int) ≤ t0)) && (decide (t0 ≤ (1125899906842624 : Int))))

noncomputable def rJ (n1 : Int) (t2 : Int) (cM : List Int) : Option (Int × Int) :=
  cond (((decide (t2 = (1125899906842624 : Int))) || (decide (((List.length cM : Nat) : Int) = (0 : Int)))) || (decide (n1 = (1 : Int))))
  (some (t2, (0 : Int)))
  (cond (decide ((IntKind.i64.wrap (n1 - (1 : Int))) ≤ ((List.length cM : Nat) : Int)))
  (aY (0 ≤ (IntKind.i64.wrap (((List.length cM : Nat) : Int) - (IntKind.i64.wrap (n1 - (1 : Int))))) ∧ (IntKind.i64.wrap (((List.length cM : Nat) : Int) - (IntKind.i64.wrap (n1 - (1 : Int))))) < ((List.length cM : Nat) : Int)) <|
  some (List.getD cM (Int.toNat (IntKind.i64.wrap (((List.length cM : Nat) : Int) - (IntKind.i64.wrap (n1 - (1 : Int)))))) default, (0 : Int)))
  (aY (0 ≤ (0 : Int) ∧ (0 : Int) < ((List.length cM : Nat) : Int)) <|
  some (List.getD cM (Int.toNat (0 : Int)) default, (0 : Int))))

noncomputable def oM (n1 : Int) (t2 : Int) (all9 : (List Int)) (cM : List Int) (i12 : Int) : Option ((List Int × Int) ⊕ ((List Int))) :=
  some (.inl (cM, IntKind.i64.wrap (i12 + (1 : Int))))

noncomputable def mB (n1 : Int) (t2 : Int) (all9 : (List Int)) (cM : List Int) (i12 : Int) : Option ((List Int × Int) ⊕ ((List Int))) :=
  cond (decide (i12 < ((List.length all9 : Nat) : Int)))
  (aY (0 ≤ i12 ∧ i12 < ((List.length all9 : Nat) : Int)) <|
  cond (decide ((List.getD all9 (Int.toNat i12) default) < t2))
  (aY (0 ≤ i12 ∧ i12 < ((List.length all9 : Nat) : Int)) <|
  aY ((List.length cM + List.length ([List.getD all9 (Int.toNat i12) default])) * 8 ≤ 140737488355328 ∧ List.length cM + List.length ([List.getD all9 (Int.toNat i12) default]) ≤ 9223372036854775807) <|
  oM n1 t2 all9 (cM ++ ([List.getD all9 (Int.toNat i12) default])) i12)
  (oM n1 t2 all9 cM i12))
  (some (.inr cM))

noncomputable def uK (n1 : Int) (t2 : Int) (all9 : (List Int)) (cM : List Int) (i12 : Int) : Option (Int × Int) :=
  (lp (fun s => mB n1 t2 all9 s.1 s.2) (cM, i12)).bind (fun rr => rJ n1 t2 rr)

noncomputable def sM (l0 : (List aI)) (n1 : Int) (t2 : Int) : Option (Int × Int) :=
  (oU l0 n1).bind fun x1 =>
  cond (!decide (x1 = (0 : Int)))
  (some ((0 : Int), x1))
  ((vC t2).bind fun x5 =>
  cond (!x5)
  (some ((0 : Int), (13 : Int)))
  ((nP l0).bind fun x9 =>
  uK n1 t2 x9.1 ([] : List Int) (0 : Int)))

noncomputable def lH (l0 : (List aI)) (n1 : Int) (t2 : Int) : Option Bool :=
  (oT l0 n1 t2).bind fun x15 =>
  (sM l0 n1 t2).bind fun x18 =>
  (pZ ).bind fun x21 =>
  some ((x21 && (decide (x15.1 = x18.1))) && (decide (x15.2 = x18.2)))

noncomputable def kC (l0 : (List aI)) (n1 : Int) (t2 : Int) (a7 : (List Int)) (b9 : (List Int)) (i11 : Int) : Option ((Int) ⊕ (Unit ⊕ Bool)) :=
  cond (decide (i11 < ((List.length a7 : Nat) : Int)))
  (aY (0 ≤ i11 ∧ i11 < ((List.length a7 : Nat) : Int)) <|
  aY (0 ≤ i11 ∧ i11 < ((List.length b9 : Nat) : Int)) <|
  cond (!decide ((List.getD a7 (Int.toNat i11) default) = (List.getD b9 (Int.toNat i11) default)))
  (some (.inr (.inr false)))
  (some (.inl (IntKind.i64.wrap (i11 + (1 : Int))))))
  (some (.inr (.inl ())))

noncomputable def nC (l0 : (List aI)) (n1 : Int) (t2 : Int) (a7 : (List Int)) (b9 : (List Int)) (i11 : Int) : Option Bool :=
  (lp (fun s => kC l0 n1 t2 a7 b9 s) i11).bind (Sum.elim (fun rr => lH l0 n1 t2) (fun rr => some rr))

noncomputable def nM (l0 : (List aI)) (n1 : Int) (t2 : Int) : Option Bool :=
  (wI l0).bind fun x1 =>
  cond (!x1)
  ((pZ ).bind fun x5 =>
  some x5)
  ((nD l0).bind fun x8 =>
  (nP l0).bind fun x11 =>
  cond ((!decide (x8.2 = x11.2)) || (!decide (((List.length x8.1 : Nat) : Int) = ((List.length x11.1 : Nat) : Int))))
  (some false)
  (nC l0 n1 t2 x8.1 x11.1 (0 : Int)))

end Go.Abs
namespace Go.Abs
open Go Go.RowKit
def yD (x : aB) : Prop := wB x.Kind ∧ wB x.Num ∧ (fun s => s.size ≤ maxLen) x.Text ∧ True

def tZ (x : aI) : Prop := (fun l => (∀ a ∈ l, yD a) ∧ l.length * 32 ≤ 140737488351232) x.Row ∧ wB x.At ∧ wB x.Net ∧ True

end Go.Abs
namespace Go.Abs
open Go Go.RowKit Go.Proofs
noncomputable def tt : TT := ⟨SL Try.prog, MP Try.prog⟩

theorem aC : gM Try.prog tt := gM.of Try.prog

theorem OX (l0 : (List aI)) (r : Bool) (h0 : wI l0 = some r) : dB Try.prog 19 [(eL aH l0)] (aE r) := by
  intro H0
  refine cZ Try.func19 ?_
  have hO := aL.start H0
  unfold wI at h0
  refine aR aC 1 [] [] ?_
  refine bQ aC 4 [(2, (aE (decide ((lN l0) ≤ (60 : Int)))))] ?_
  refine bD ?_
  obtain rfl := oI h0
  exact aG (Q_r hO)

theorem OG (l0 : (List aI)) (r : (List aI)) (h0 : wE l0 = some r) : dB Try.prog 67 [(eL aH l0)] (.fn (.func 91) [] [(.rp (eL aH r))]) := by
  intro H0
  refine cZ Try.func67 ?_
  have hO := aL.start H0
  unfold wE at h0
  refine aN ?_
  refine aU aC 2 ?_
  refine pS 1 (eL aH l0) (by kernel_rfl) (by kernel_rfl) ?_
  refine bA ?_
  refine bB [(1, (.rp (eL aH l0)))] ?_
  refine bQ aC 2 [(2, (.fn (.func 91) [] [(.rp (eL aH l0))]))] ?_
  refine bD ?_
  obtain rfl := oI h0
  exact aG (lA (x := (.fn (.func 91) [] [(.rp (eL aH l0))])) (by kernel_rfl) (aO.refl _) ⟨rfl, hO.out⟩)

theorem nW (s10 : (List aB)) (s21 : (List aB)) (r : Bool) (h0 : fD s10 s21 = some r) : dB Try.prog 72 [(eL aD s10), (eL aD s21)] (aE r) := by
  intro H0
  refine cZ Try.func72 ?_
  have hO := aL.start H0
  unfold fD at h0
  refine aR aC 1 [] [] ?_
  refine aN ?_
  refine aR aC 5 [] [(10, (aE (!decide ((lN s10) = (lN s21)))))] ?_
  refine bE h0 (fun h0 => ?_) (fun h0 => ?_)
  · refine bQ aC 1 [(4, (aE false))] ?_
    refine bD ?_
    obtain rfl := oI h0
    exact aG (aP (Q_r hO))
  refine bF ?_
  refine bB [(0, (eL aD s10)), (1, (eL aD s21))] ?_
  refine dZ (fun T H => Has T [] ∧ aL ⟨H0, [], []⟩ H [] ∧ gH  = some r) ?_ ?_
  · clear hO h0
    rintro T H ⟨hT, hO, h0⟩
    refine aZ hT ?_
    clear hT
    unfold gH at h0
    refine bQ aC 1 [(4, (aE true))] ?_
    refine bD ?_
    obtain rfl := oI h0
    exact aG (Q_r hO)
  refine aR aC 3 [] [(12, (eI (lN s10))), (13, (eI (0 : Int)))] ?_
  refine bX 0 ?_
  refine fG [(0, (eL aD s10)), (1, (eL aD s21)), (12, (eI (lN s10))), (13, (eI (0 : Int)))] ?_
  refine dS (fun T H => ∃ t12 : Int, ∃ t13 : Int, Has T [(0, (eL aD s10)), (1, (eL aD s21)), (12, (eI t12)), (13, (eI t13))] ∧ aL ⟨H0, [], []⟩ H [] ∧ jB s10 s21 t12 t13 = some r) ?_ ⟨(lN s10), (0 : Int), .eq (by kernel_rfl), hO, h0⟩
  clear hO h0
  rintro T H ⟨t12, t13, hT, hO, h0⟩
  refine aZ hT ?_
  clear hT
  unfold jB at h0
  obtain ⟨rr0, hl0, h0⟩ := aV h0
  refine cQ (by kernel_rfl) (fun (s : Int) T H => Has T [(0, (eL aD s10)), (1, (eL aD s21)), (12, (eI t12)), (13, (eI s))] ∧ aL ⟨H0, [], []⟩ H []) hl0 ⟨.eq (by kernel_rfl), hO⟩ ?_
  clear hO
  rintro k0 s out1 T H ⟨hT, hO⟩ h1 ho0
  obtain ⟨t13, rfl⟩ : ∃ x, x = s := ⟨_, rfl⟩
  replace h1 : eW s10 s21 t12 t13 = some out1 := h1
  refine aZ hT ?_
  clear hT
  unfold eW at h1
  refine aR aC 1 [] [(14, (aE (decide (t13 < t12))))] ?_
  refine aN ?_
  refine bE h1 (fun h1 => ?_) (fun h1 => ?_)
  · refine bF ?_
    refine bB [(0, (eL aD s10)), (1, (eL aD s21)), (12, (eI t12)), (13, (eI t13))] ?_
    refine aN ?_
    refine bX 1 ?_
    refine aR aC 2 [] [(5, (eI t13))] ?_
    refine aN ?_
    refine eM (eK [19, 23]) aC 9 ?_
    obtain ⟨c3, h1⟩ := aS h1
    obtain ⟨c4, h1⟩ := aS h1
    refine xQ (Ds := [0 ≤ t13 ∧ t13 < (lN s10), 0 ≤ t13 ∧ t13 < (lN s21)]) (by kernel_rfl) ⟨c3, c4, trivial⟩ ?_
    refine bP [5] [(24, (aE (!((decide (((gD s10 t13).Kind) = ((gD s21 t13).Kind))) && ((decide (((gD s10 t13).Num) = ((gD s21 t13).Num))) && ((mT ((gD s10 t13).Text) ((gD s21 t13).Text)) && true))))))] ?_
    refine bE h1 (fun h1 => ?_) (fun h1 => ?_)
    · refine bQ aC 1 [(4, (aE false))] ?_
      refine bD ?_
      obtain rfl := oI h1
      obtain rfl : _ = rr0 := ho0
      replace h0 : some false = some r := h0
      obtain rfl := oI h0
      exact aG (bI (aP (aP (bI (aP (Q_r hO))))))
    refine bF ?_
    refine fX [(0, (eL aD s10)), (1, (eL aD s21)), (12, (eI t12)), (13, (eI t13))] ?_
    refine aG (aW (aF (?_)))
    refine aU aC 2 ?_
    refine bA ?_
    exact aG (aF (⟨rfl, _, (oI h1).symm, .eq (by kernel_rfl), hO⟩))
  refine fB 0 ?_
  obtain rfl := oI h1
  obtain rfl : _ = rr0 := ho0
  replace h0 : gH  = some r := h0
  exact aG (aT (aT (bO (aF (⟨rfl, .eq (by kernel_rfl), hO, h0⟩)))))

theorem RB (a0 : (List aB)) (b1 : (List aB)) (r : Bool) (h0 : sZ a0 b1 = some r) : dB Try.prog 92 [(eL aD a0), (eL aD b1)] (aE r) := by
  intro H0
  refine cZ Try.func92 ?_
  have hO := aL.start H0
  unfold sZ at h0
  refine aR aC 1 [] [] ?_
  refine aN ?_
  refine aU aC 4 ?_
  refine bS 2 ?_
  obtain ⟨x1, hx2, h0⟩ := aV h0
  refine dI (nW a0 b1 _ hx2) hO ?_
  intro H hO
  refine bA ?_
  refine bB [(4, (aE x1))] ?_
  refine bD ?_
  obtain rfl := oI h0
  exact aG (Q_r hO)

theorem RS (r0 : (List aB)) (r : (List aB)) (h0 : uY r0 = some r) : dB Try.prog 93 [(eL aD r0)] (eL aD r) := by
  intro H0
  refine cZ Try.func93 ?_
  have hO := aL.start H0
  unfold uY at h0
  refine aR aC 1 [] [] ?_
  refine aN ?_
  refine aU aC 6 ?_
  refine bS 2 ?_
  obtain ⟨c1, h0⟩ := aS h0
  refine YE 3 32 (lN r0) (by kernel_rfl) (by kernel_rfl) c1 hO ?_
  intro lo2 H hO
  refine bS 4 ?_
  obtain ⟨c4, h0⟩ := aS h0
  refine tD (e := aD) ([] : List aB) r0 0 lo2 3 32 (eL aD r0) (fun lo3 => [(lo3, 3, List.map aD (([] : List aB) ++ r0))]) (by kernel_rfl) (by kernel_rfl) hO (by kernel_rfl) (PI (fun _ => by kernel_rfl)) c4 (fun _ => by kernel_rfl) ?_
  intro lo3 H hO
  refine bA ?_
  refine bB [(2, (.msl 3 lo3 0 (List.length (([] : List aB) ++ r0))))] ?_
  refine bD ?_
  refine fX [(2, (.msl 3 lo3 0 (List.length (([] : List aB) ++ r0))))] ?_
  refine uU (en := aD) (([] : List aB) ++ r0) 0 0 2 3 lo3 (List.length (([] : List aB) ++ r0)) hO (by kernel_rfl) (by kernel_rfl) (by kernel_rfl) (L' := []) (by kernel_rfl) ?_
  intro H5 hO
  obtain rfl := oI h0
  exact aG (Q_r hO)

theorem HD {σ : Type} (I : σ → Gs → Prop) (yield0_b : Nat) (gQ : σ → (List aB) → (List aM) → Option (σ × Bool)) (yield0_h : ∀ st a0 a1 st2 r, gQ st a0 a1 = some (st2, r) → DU Try.prog (yv yield0_b) I st [(eL aD a0), (eL aX a1)] st2 (aE r)) (t1 : (List aI)) (sg0 : σ) (r : σ) (h0 : pF gQ t1 sg0 = some r) : xG Try.prog 91 I sg0 [(yv yield0_b), (.rp (eL aH t1))] r (.tup []) := by
  intro H0 G0 hI hg
  refine cZ Try.func91 ?_
  obtain ⟨G, hO, hI⟩ : ∃ G, aL ⟨H0, List.map (fun p : Nat × dP => p.1) G0, G⟩ H0 [] ∧ I sg0 G := ⟨G0, aL.GJ hg, hI⟩
  clear hg
  unfold pF at h0
  refine aR aC 1 [] [(3, (eI (0 : Int)))] ?_
  refine bX 0 ?_
  refine fG [(0, (yv yield0_b)), (1, (.rp (eL aH t1))), (3, (eI (0 : Int)))] ?_
  refine dS (fun T H => ∃ sg : σ, ∃ i3 : Int, ∃ G : Gs, Has T [(0, (yv yield0_b)), (1, (.rp (eL aH t1))), (3, (eI i3))] ∧ aL ⟨H0, List.map (fun p : Nat × dP => p.1) G0, G⟩ H [] ∧ I sg G ∧ qJ gQ sg t1 i3 = some r) ?_ ⟨sg0, (0 : Int), G, .eq (by kernel_rfl), hO, hI, h0⟩
  clear hO hI h0
  rintro T H ⟨sg, i3, G, hT, hO, hI, h0⟩
  refine aZ hT ?_
  clear hT
  unfold qJ at h0
  obtain ⟨rr0, hl0, h0⟩ := aV h0
  refine cQ (by kernel_rfl) (fun (s : σ × Int) T H => ∃ G : Gs, Has T [(0, (yv yield0_b)), (1, (.rp (eL aH t1))), (3, (eI s.2))] ∧ aL ⟨H0, List.map (fun p : Nat × dP => p.1) G0, G⟩ H [] ∧ I s.1 G) hl0 ⟨G, .eq (by kernel_rfl), hO, hI⟩ ?_
  clear hO hI
  rintro k0 s out1 T H ⟨G, hT, hO, hI⟩ h1 ho0
  obtain ⟨sg, i3⟩ := s
  replace h1 : iG gQ t1 sg i3 = some out1 := h1
  try dsimp only at hT
  refine aZ hT ?_
  clear hT
  unfold iG at h1
  refine aN ?_
  refine aR aC 4 [] [(9, (aE (decide (i3 < (lN t1)))))] ?_
  refine bE h1 (fun h1 => ?_) (fun h1 => ?_)
  · refine bF ?_
    refine bB [(0, (yv yield0_b)), (1, (.rp (eL aH t1))), (3, (eI i3))] ?_
    refine bX 1 ?_
    refine aN ?_
    refine aU aC 6 ?_
    obtain ⟨c2, h1⟩ := aS h1
    refine lV [0 ≤ i3 ∧ i3 < (lN t1)] ⟨c2, trivial⟩ ?_
    refine bP [] [(4, (eL aD ((gD t1 i3).Row)))] ?_
    refine aN ?_
    refine aU aC 2 ?_
    refine nB (xs := []) (k := 2) (by kernel_rfl) (by kernel_rfl) ?_
    refine bA ?_
    refine bP [] [(5, (.sl true 0 (fun _ => .bad)))] ?_
    refine dZ (fun T H => ∃ sg : σ, ∃ i3 : Int, ∃ r4 : (List aB), ∃ f5 : List aM, ∃ lo3 : Nat, ∃ G : Gs, Has T [(0, (yv yield0_b)), (1, (.rp (eL aH t1))), (3, (eI i3)), (4, (eL aD r4)), (5, (.msl 2 lo3 0 (List.length f5)))] ∧ aL ⟨H0, List.map (fun p : Nat × dP => p.1) G0, G⟩ H [(lo3, 2, List.map aX f5)] ∧ I sg G ∧ oF gQ sg t1 i3 r4 f5 = some out1) ?_ ?_
    · clear hO hI h1
      rintro T H ⟨sg, i3, r4, f5, lo3, G, hT, hO, hI, h1⟩
      refine aZ hT ?_
      clear hT
      unfold oF at h1
      refine aN ?_
      refine aU aC 6 ?_
      refine VD (e := aX) f5 0 5 2 lo3 (List.length f5) [] (by kernel_rfl) hO (by kernel_rfl) (by kernel_rfl) (by kernel_rfl) (by kernel_rfl) ?_
      intro H hO
      refine bS 2 ?_
      obtain ⟨x7, hx8, h1⟩ := aV h1
      refine dI (RS r4 _ hx8) hO ?_
      intro H hO
      refine bS 4 ?_
      obtain ⟨x10, hx11, h1⟩ := aV h1
      refine PZ (I := I) (yv yield0_b) [(eL aD x7), (eL aX f5)] (aE x10.2) (by kernel_rfl) (by kernel_rfl) (yield0_h _ x7 f5 x10.1 x10.2 hx11) hO hI ?_
      intro G H hO hI
      refine bA ?_
      refine bP [4, 5] [(50, (aE (!x10.2)))] ?_
      refine bE h1 (fun h1 => ?_) (fun h1 => ?_)
      · refine bD ?_
        obtain rfl := oI h1
        obtain rfl : _ = rr0 := ho0
        replace h0 : some x10.1 = some r := h0
        obtain rfl := oI h0
        exact aG (bI (aP (bI (lA (x := (.tup [])) (by kernel_rfl) (aO.refl _) ⟨rfl, G, hI, hO.FV⟩))))
      refine bF ?_
      exact aG (aW (aF (⟨rfl, _, (oI h1).symm, _, .eq (by kernel_rfl), hO, hI⟩)))
    refine bX 2 ?_
    refine fG [(0, (yv yield0_b)), (1, (.rp (eL aH t1))), (3, (eI i3)), (4, (eL aD ((gD t1 i3).Row))), (5, (.sl true 0 (fun _ => .bad)))] ?_
    refine zX (el := (fun _ => .bad)) 4 5 2 hO (by kernel_rfl) ?_
    intro lo24 H25 hO
    refine dS (fun T H => ∃ sg : σ, ∃ i3 : Int, ∃ r4 : (List aB), ∃ f5 : List aM, ∃ lo14 : Nat, ∃ G : Gs, Has T [(0, (yv yield0_b)), (1, (.rp (eL aH t1))), (3, (eI i3)), (4, (eL aD r4)), (5, (.msl 2 lo14 0 (List.length f5)))] ∧ aL ⟨H0, List.map (fun p : Nat × dP => p.1) G0, G⟩ H [(lo14, 2, List.map aX f5)] ∧ I sg G ∧ qV gQ sg t1 i3 r4 f5 = some out1) ?_ ⟨sg, i3, (gD t1 i3).Row, ([] : List aM), lo24, G, .eq (by kernel_rfl), hO, hI, h1⟩
    clear hO hI h1
    rintro T H ⟨sg, i3, r4, f5, lo14, G, hT, hO, hI, h1⟩
    refine aZ hT ?_
    clear hT
    unfold qV at h1
    obtain ⟨rr1, hl1, h1⟩ := aV h1
    refine cQ (by kernel_rfl) (fun (s : σ × Int × List aM) T H => ∃ lo14 : Nat, ∃ G : Gs, Has T [(0, (yv yield0_b)), (1, (.rp (eL aH t1))), (3, (eI s.2.1)), (4, (eL aD r4)), (5, (.msl 2 lo14 0 (List.length s.2.2)))] ∧ aL ⟨H0, List.map (fun p : Nat × dP => p.1) G0, G⟩ H [(lo14, 2, List.map aX s.2.2)] ∧ I s.1 G) hl1 ⟨lo14, G, .eq (by kernel_rfl), hO, hI⟩ ?_
    clear hO hI
    rintro k1 s out2 T H ⟨lo14, G, hT, hO, hI⟩ h2 ho1
    obtain ⟨sg, i3, f5⟩ := s
    replace h2 : jF gQ t1 r4 sg i3 f5 = some out2 := h2
    try dsimp only at hT
    refine aZ hT ?_
    clear hT
    unfold jF at h2
    refine aN ?_
    refine aN ?_
    refine aU aC 13 ?_
    obtain ⟨c15, h2⟩ := aS h2
    refine nH 11 [(((decide (i3 < (lN t1)))) = true → 0 ≤ i3 ∧ i3 < (lN t1))] ⟨c15, trivial⟩ ?_
    obtain ⟨x16, hx17, h2⟩ := aV h2
    refine nR [(20, true)] 92 [(eL aD ((gD t1 i3).Row)), (eL aD r4)] (aE x16) (decide (i3 < (lN t1))) (by kernel_rfl) (by kernel_rfl) (by kernel_rfl) (fun hb18 => (RB ((gD t1 i3).Row) r4 _ (jJ hx17 hb18))) hO ?_
    intro H hO
    refine bA ?_
    refine bP [] [(28, (aE ((decide (i3 < (lN t1))) && x16)))] ?_
    refine bE h2 (fun h2 => ?_) (fun h2 => ?_)
    · refine bF ?_
      refine bB [(0, (yv yield0_b)), (1, (.rp (eL aH t1))), (3, (eI i3)), (4, (eL aD r4)), (5, (.msl 2 lo14 0 (List.length f5)))] ?_
      refine aN ?_
      refine bX 3 ?_
      refine eM (eK [32, 36, 37, 41, 43]) aC 15 ?_
      obtain ⟨c20, h2⟩ := aS h2
      obtain ⟨c21, h2⟩ := aS h2
      refine bZ 12 [0 ≤ i3 ∧ i3 < (lN t1), 0 ≤ i3 ∧ i3 < (lN t1)] ⟨c20, c21, trivial⟩ ?_
      refine RJ (xs := [(aX (aM.mk ((gD t1 i3).At) ((gD t1 i3).Net)))]) (k := 2) (by kernel_rfl) (by kernel_rfl) ?_
      obtain ⟨c23, h2⟩ := aS h2
      refine IW (e := aX) f5 ([aM.mk ((gD t1 i3).At) ((gD t1 i3).Net)]) 0 lo14 2 16 (iY [(aX (aM.mk ((gD t1 i3).At) ((gD t1 i3).Net)))]) (fun lo22 => [(lo22, 2, List.map aX (f5 ++ ([aM.mk ((gD t1 i3).At) ((gD t1 i3).Net)])))]) (by kernel_rfl) (by kernel_rfl) hO (by kernel_rfl) (by kernel_rfl) c23 (fun _ => by kernel_rfl) ?_
      intro lo22 H hO
      refine iH ?_
      refine fX [(0, (yv yield0_b)), (1, (.rp (eL aH t1))), (3, (eI i3)), (4, (eL aD r4)), (5, (.msl 2 lo22 0 (List.length (f5 ++ ([aM.mk ((gD t1 i3).At) ((gD t1 i3).Net)])))))] ?_
      refine aG (aW (aF (?_)))
      refine aU aC 3 ?_
      refine bA ?_
      exact aG (aF (⟨rfl, _, (oI h2).symm, _, _, .eq (by kernel_rfl), hO, hI⟩))
    refine fB 2 ?_
    obtain rfl := oI h2
    obtain rfl : _ = rr1 := ho1
    replace h1 : oF gQ sg t1 i3 r4 f5 = some out1 := h1
    exact aG (aT (aT (bO (aF (⟨rfl, _, _, _, _, _, _, .eq (by kernel_rfl), hO, hI, h1⟩)))))
  refine fB 0 ?_
  obtain rfl := oI h1
  obtain rfl : _ = rr0 := ho0
  replace h0 : some sg = some r := h0
  obtain rfl := oI h0
  exact aG (aT (aT (bO (xL (x := (.tup [])) (by kernel_rfl) (aO.refl _) ⟨rfl, G, hI, hO.FV⟩))))

theorem sK (s0 : (List aB)) (f1_f : Nat) (f1_a f1_c : List V) (f1 : aB → Option Bool) (f1_h : ∀ a0 r, f1 a0 = some r → dB Try.prog f1_f (f1_a ++ [(aD a0)] ++ f1_c) (aE r)) (r : Int) (h0 : iC s0 f1 = some r) : dB Try.prog 100 [(eL aD s0), (.fn (.func f1_f) f1_a f1_c)] (eI r) := by
  intro H0
  refine cZ Try.func100 ?_
  have hO := aL.start H0
  unfold iC at h0
  refine aR aC 1 [] [] ?_
  refine dZ (fun T H => Has T [] ∧ aL ⟨H0, [], []⟩ H [] ∧ fF f1  = some r) ?_ ?_
  · clear hO h0
    rintro T H ⟨hT, hO, h0⟩
    refine aZ hT ?_
    clear hT
    unfold fF at h0
    refine bQ aC 1 [(4, (eI (-1 : Int)))] ?_
    refine bD ?_
    obtain rfl := oI h0
    exact aG (Q_r hO)
  refine aR aC 3 [] [(7, (eI (lN s0))), (8, (eI (0 : Int)))] ?_
  refine bX 0 ?_
  refine fG [(0, (eL aD s0)), (1, (.fn (.func f1_f) f1_a f1_c)), (7, (eI (lN s0))), (8, (eI (0 : Int)))] ?_
  refine dS (fun T H => ∃ t7 : Int, ∃ t8 : Int, Has T [(0, (eL aD s0)), (1, (.fn (.func f1_f) f1_a f1_c)), (7, (eI t7)), (8, (eI t8))] ∧ aL ⟨H0, [], []⟩ H [] ∧ gW f1 s0 t7 t8 = some r) ?_ ⟨(lN s0), (0 : Int), .eq (by kernel_rfl), hO, h0⟩
  clear hO h0
  rintro T H ⟨t7, t8, hT, hO, h0⟩
  refine aZ hT ?_
  clear hT
  unfold gW at h0
  obtain ⟨rr0, hl0, h0⟩ := aV h0
  refine cQ (by kernel_rfl) (fun (s : Int) T H => Has T [(0, (eL aD s0)), (1, (.fn (.func f1_f) f1_a f1_c)), (7, (eI t7)), (8, (eI s))] ∧ aL ⟨H0, [], []⟩ H []) hl0 ⟨.eq (by kernel_rfl), hO⟩ ?_
  clear hO
  rintro k0 s out1 T H ⟨hT, hO⟩ h1 ho0
  obtain ⟨t8, rfl⟩ : ∃ x, x = s := ⟨_, rfl⟩
  replace h1 : gV f1 s0 t7 t8 = some out1 := h1
  refine aZ hT ?_
  clear hT
  unfold gV at h1
  refine aR aC 1 [] [(9, (aE (decide (t8 < t7))))] ?_
  refine aN ?_
  refine bE h1 (fun h1 => ?_) (fun h1 => ?_)
  · refine bF ?_
    refine bB [(0, (eL aD s0)), (1, (.fn (.func f1_f) f1_a f1_c)), (7, (eI t7)), (8, (eI t8))] ?_
    refine aN ?_
    refine bX 1 ?_
    refine aR aC 2 [] [(5, (eI t8))] ?_
    refine aN ?_
    refine aU aC 6 ?_
    obtain ⟨c2, h1⟩ := aS h1
    refine nH 5 [0 ≤ t8 ∧ t8 < (lN s0)] ⟨c2, trivial⟩ ?_
    obtain ⟨x3, hx4, h1⟩ := aV h1
    refine dI (f1_h (gD s0 t8) _ hx4) hO ?_
    intro H hO
    refine iF ?_
    refine bP [] [(16, (aE x3))] ?_
    refine bE h1 (fun h1 => ?_) (fun h1 => ?_)
    · refine bQ aC 2 [(4, (eI t8))] ?_
      refine bD ?_
      obtain rfl := oI h1
      obtain rfl : _ = rr0 := ho0
      replace h0 : some t8 = some r := h0
      obtain rfl := oI h0
      exact aG (bI (aP (aP (bI (aP (Q_r hO))))))
    refine bF ?_
    refine fX [(0, (eL aD s0)), (1, (.fn (.func f1_f) f1_a f1_c)), (7, (eI t7)), (8, (eI t8))] ?_
    refine aG (aW (aF (?_)))
    refine aU aC 2 ?_
    refine bA ?_
    exact aG (aF (⟨rfl, _, (oI h1).symm, .eq (by kernel_rfl), hO⟩))
  refine fB 0 ?_
  obtain rfl := oI h1
  obtain rfl : _ = rr0 := ho0
  replace h0 : fF f1  = some r := h0
  exact aG (aT (aT (bO (aF (⟨rfl, .eq (by kernel_rfl), hO, h0⟩)))))

theorem rA (s0 : (List aB)) (f1_f : Nat) (f1_a f1_c : List V) (f1 : aB → Option Bool) (f1_h : ∀ a0 r, f1 a0 = some r → dB Try.prog f1_f (f1_a ++ [(aD a0)] ++ f1_c) (aE r)) (r : Bool) (h0 : eU s0 f1 = some r) : dB Try.prog 97 [(eL aD s0), (.fn (.func f1_f) f1_a f1_c)] (aE r) := by
  intro H0
  refine cZ Try.func97 ?_
  have hO := aL.start H0
  unfold eU at h0
  refine aR aC 1 [] [] ?_
  refine aN ?_
  refine aU aC 5 ?_
  refine bS 2 ?_
  obtain ⟨x1, hx2, h0⟩ := aV h0
  refine dI (sK s0 f1_f f1_a f1_c f1 f1_h _ hx2) hO ?_
  intro H hO
  refine bA ?_
  refine bB [(4, (aE (decide ((0 : Int) ≤ x1))))] ?_
  refine bD ?_
  obtain rfl := oI h0
  exact aG (Q_r hO)

theorem vK (v0 : aB) (r : (bK × Bool)) (h0 : lB v0 = some r) : dB Try.prog 110 [(aD v0)] (.tup [(bC r.1), (aE r.2)]) := by
  intro H0
  refine cZ Try.func110 ?_
  have hO := aL.start H0
  unfold lB at h0
  refine aN ?_
  refine aU aC 3 ?_
  refine pS 3 (aD v0) (by kernel_rfl) (by kernel_rfl) ?_
  refine bA ?_
  refine bB [(1, (.rp (aD v0)))] ?_
  refine aN ?_
  refine bX 0 ?_
  refine aR aC 9 [] [(4, (aE ((decide (v0.Kind = (1 : Int))) && (mT v0.Text (⟨#[]⟩ : ByteArray)))))] ?_
  refine bE h0 (fun h0 => ?_) (fun h0 => ?_)
  · refine bQ aC 5 [(2, (bC (bK.k_number v0.Num))), (3, (aE true))] ?_
    refine bD ?_
    obtain rfl := oI h0
    exact aG (bI (aP (Q_r hO)))
  refine aR aC 15 [4] [(16, (aE (((decide (v0.Kind = (2 : Int))) && (decide (v0.Num = (0 : Int)))) && (decide (((ByteArray.size v0.Text : Nat) : Int) ≤ (64 : Int))))))] ?_
  refine bE h0 (fun h0 => ?_) (fun h0 => ?_)
  · refine bQ aC 5 [(2, (bC (bK.k_words v0.Text))), (3, (aE true))] ?_
    refine bD ?_
    obtain rfl := oI h0
    exact aG (bI (aP (Q_r hO)))
  refine bF ?_
  refine fX [] ?_
  refine aG (aW (aF (?_)))
  refine bQ aC 2 [(2, (bC bK.none_)), (3, (aE false))] ?_
  refine bD ?_
  obtain rfl := oI h0
  exact aG (Q_r hO)

theorem OR (v0 : aB) (r : Bool) (h0 : tS v0 = some r) : dB Try.prog 99 [(aD v0)] (aE r) := by
  intro H0
  refine cZ Try.func99 ?_
  have hO := aL.start H0
  unfold tS at h0
  refine aN ?_
  refine aU aC 2 ?_
  refine pS 3 (aD v0) (by kernel_rfl) (by kernel_rfl) ?_
  refine bA ?_
  refine bB [(1, (.rp (aD v0)))] ?_
  refine aN ?_
  refine aU aC 7 ?_
  refine bS 1 ?_
  obtain ⟨⟨x1_0, x1_1⟩, hx2, h0⟩ := aV h0
  refine dI (vK v0 _ hx2) hO ?_
  intro H hO
  rcases x1_0 with _ | y4 | y5
  · replace h0 : (some x1_1) = some r := h0
    refine bA ?_
    refine bB [(4, (aE x1_1))] ?_
    refine bQ aC 2 [(2, (aE x1_1))] ?_
    refine bD ?_
    obtain rfl := oI h0
    exact aG (Q_r hO)
  · replace h0 : (some x1_1) = some r := h0
    refine bA ?_
    refine bB [(4, (aE x1_1))] ?_
    refine bQ aC 2 [(2, (aE x1_1))] ?_
    refine bD ?_
    obtain rfl := oI h0
    exact aG (Q_r hO)
  · replace h0 : (some x1_1) = some r := h0
    refine bA ?_
    refine bB [(4, (aE x1_1))] ?_
    refine bQ aC 2 [(2, (aE x1_1))] ?_
    refine bD ?_
    obtain rfl := oI h0
    exact aG (Q_r hO)

theorem PC (v0 : aB) (r : Bool) (h0 : tX v0 = some r) : dB Try.prog 98 [(aD v0)] (aE r) := by
  intro H0
  refine cZ Try.func98 ?_
  have hO := aL.start H0
  unfold tX at h0
  refine aN ?_
  refine aU aC 2 ?_
  refine pS 3 (aD v0) (by kernel_rfl) (by kernel_rfl) ?_
  refine bA ?_
  refine bB [(1, (.rp (aD v0)))] ?_
  refine aN ?_
  refine aU aC 4 ?_
  refine bS 1 ?_
  obtain ⟨x1, hx2, h0⟩ := aV h0
  refine dI (OR v0 _ hx2) hO ?_
  intro H hO
  refine bA ?_
  refine bB [(2, (aE (!x1)))] ?_
  refine bD ?_
  obtain rfl := oI h0
  exact aG (Q_r hO)

theorem CW (r0 : (List aB)) (r : Bool) (h0 : sW r0 = some r) : dB Try.prog 76 [(eL aD r0)] (aE r) := by
  intro H0
  refine cZ Try.func76 ?_
  have hO := aL.start H0
  unfold sW at h0
  refine aR aC 1 [] [] ?_
  refine aN ?_
  refine aR aC 3 [] [(5, (aE (decide ((8 : Int) < (lN r0)))))] ?_
  refine bE h0 (fun h0 => ?_) (fun h0 => ?_)
  · refine bQ aC 1 [(2, (aE false))] ?_
    refine bD ?_
    obtain rfl := oI h0
    exact aG (aP (Q_r hO))
  refine bF ?_
  refine bB [(0, (eL aD r0))] ?_
  refine aN ?_
  refine aU aC 4 ?_
  refine bS 1 ?_
  obtain ⟨x2, hx3, h0⟩ := aV h0
  refine dI (rA r0 98 [] [] (fun y0 => tX y0) (fun y0 r h => PC y0 r h) _ hx3) hO ?_
  intro H hO
  refine bA ?_
  refine bB [(2, (aE (!x2)))] ?_
  refine bD ?_
  obtain rfl := oI h0
  exact aG (Q_r hO)

theorem FY (t0 : (List aB)) (r : (Int × (List aB))) (h0 : sE t0 = some r) : wN Try.prog 101 [(.rp (eL aD t0))] (fun lo => (.fn (.func 102) [] [(.lp lo 0 0), (.rp (eL aD r.2))])) 1 [(eI r.1)] := by
  intro H0
  refine cZ Try.func101 ?_
  have hO := aL.start H0
  unfold sE at h0
  refine aR aC 1 [] [] ?_
  refine aN ?_
  refine aU aC 2 ?_
  refine uR 1 (eI 0) (by kernel_rfl) (by kernel_rfl) hO ?_
  intro lo1 H hO
  refine qP 0 lo1 1 0 (eI 0) (eI (-1 : Int)) [(eI 0)] [(lo1, 1, [(eI (-1 : Int))])] hO rfl (by kernel_rfl) ?_
  intro H hO
  refine iF ?_
  refine bP [] [(2, (.lp lo1 0 0))] ?_
  refine aR aC 2 [0] [(1, (.fn (.func 102) [] [(.lp lo1 0 0), (.rp (eL aD t0))]))] ?_
  refine bD ?_
  obtain rfl := oI h0
  exact aG (lA (x := (.fn (.func 102) [] [(.lp lo1 0 0), (.rp (eL aD t0))])) (by kernel_rfl) (aO.refl _) ⟨lo1, rfl, hO⟩)

theorem rW {σ : Type} (I : σ → Gs → Prop) (s0 : (List aB)) (f1_v : V) (f1 : σ → aB → Option (σ × Bool)) (f1_h : ∀ st a0 st2 r, f1 st a0 = some (st2, r) → DU Try.prog f1_v I st [(aD a0)] st2 (aE r)) (sg0 : σ) (r : (σ × Int)) (h0 : gS s0 f1 sg0 = some r) : xG Try.prog 100 I sg0 [(eL aD s0), f1_v] r.1 (eI r.2) := by
  intro H0 G0 hI hg
  refine cZ Try.func100 ?_
  obtain ⟨G, hO, hI⟩ : ∃ G, aL ⟨H0, List.map (fun p : Nat × dP => p.1) G0, G⟩ H0 [] ∧ I sg0 G := ⟨G0, aL.GJ hg, hI⟩
  clear hg
  unfold gS at h0
  refine aR aC 1 [] [] ?_
  refine dZ (fun T H => ∃ sg : σ, ∃ G : Gs, Has T [] ∧ aL ⟨H0, List.map (fun p : Nat × dP => p.1) G0, G⟩ H [] ∧ I sg G ∧ eT f1 sg = some r) ?_ ?_
  · clear hO hI h0
    rintro T H ⟨sg, G, hT, hO, hI, h0⟩
    refine aZ hT ?_
    clear hT
    unfold eT at h0
    refine bQ aC 1 [(4, (eI (-1 : Int)))] ?_
    refine bD ?_
    obtain rfl := oI h0
    exact aG (lA (x := (eI (-1 : Int))) (by kernel_rfl) (aO.refl _) ⟨rfl, G, hI, hO.FV⟩)
  refine aR aC 3 [] [(7, (eI (lN s0))), (8, (eI (0 : Int)))] ?_
  refine bX 0 ?_
  refine fG [(0, (eL aD s0)), (1, f1_v), (7, (eI (lN s0))), (8, (eI (0 : Int)))] ?_
  refine dS (fun T H => ∃ sg : σ, ∃ t7 : Int, ∃ t8 : Int, ∃ G : Gs, Has T [(0, (eL aD s0)), (1, f1_v), (7, (eI t7)), (8, (eI t8))] ∧ aL ⟨H0, List.map (fun p : Nat × dP => p.1) G0, G⟩ H [] ∧ I sg G ∧ gO f1 sg s0 t7 t8 = some r) ?_ ⟨sg0, (lN s0), (0 : Int), G, .eq (by kernel_rfl), hO, hI, h0⟩
  clear hO hI h0
  rintro T H ⟨sg, t7, t8, G, hT, hO, hI, h0⟩
  refine aZ hT ?_
  clear hT
  unfold gO at h0
  obtain ⟨rr0, hl0, h0⟩ := aV h0
  refine cQ (by kernel_rfl) (fun (s : σ × Int) T H => ∃ G : Gs, Has T [(0, (eL aD s0)), (1, f1_v), (7, (eI t7)), (8, (eI s.2))] ∧ aL ⟨H0, List.map (fun p : Nat × dP => p.1) G0, G⟩ H [] ∧ I s.1 G) hl0 ⟨G, .eq (by kernel_rfl), hO, hI⟩ ?_
  clear hO hI
  rintro k0 s out1 T H ⟨G, hT, hO, hI⟩ h1 ho0
  obtain ⟨sg, t8⟩ := s
  replace h1 : cC f1 s0 t7 sg t8 = some out1 := h1
  try dsimp only at hT
  refine aZ hT ?_
  clear hT
  unfold cC at h1
  refine aR aC 1 [] [(9, (aE (decide (t8 < t7))))] ?_
  refine aN ?_
  refine bE h1 (fun h1 => ?_) (fun h1 => ?_)
  · refine bF ?_
    refine bB [(0, (eL aD s0)), (1, f1_v), (7, (eI t7)), (8, (eI t8))] ?_
    refine aN ?_
    refine bX 1 ?_
    refine aR aC 2 [] [(5, (eI t8))] ?_
    refine aN ?_
    refine aU aC 6 ?_
    obtain ⟨c2, h1⟩ := aS h1
    refine nH 5 [0 ≤ t8 ∧ t8 < (lN s0)] ⟨c2, trivial⟩ ?_
    obtain ⟨x3, hx4, h1⟩ := aV h1
    refine PZ (I := I) f1_v [(aD (gD s0 t8))] (aE x3.2) (by kernel_rfl) (by kernel_rfl) (f1_h _ (gD s0 t8) x3.1 x3.2 hx4) hO hI ?_
    intro G H hO hI
    refine iF ?_
    refine bP [] [(16, (aE x3.2))] ?_
    refine bE h1 (fun h1 => ?_) (fun h1 => ?_)
    · refine bQ aC 2 [(4, (eI t8))] ?_
      refine bD ?_
      obtain rfl := oI h1
      obtain rfl : _ = rr0 := ho0
      replace h0 : some (x3.1, t8) = some r := h0
      obtain rfl := oI h0
      exact aG (bI (aP (aP (bI (aP (lA (x := (eI t8)) (by kernel_rfl) (aO.refl _) ⟨rfl, G, hI, hO.FV⟩))))))
    refine bF ?_
    refine fX [(0, (eL aD s0)), (1, f1_v), (7, (eI t7)), (8, (eI t8))] ?_
    refine aG (aW (aF (?_)))
    refine aU aC 2 ?_
    refine bA ?_
    exact aG (aF (⟨rfl, _, (oI h1).symm, _, .eq (by kernel_rfl), hO, hI⟩))
  refine fB 0 ?_
  obtain rfl := oI h1
  obtain rfl : _ = rr0 := ho0
  replace h0 : eT f1 sg = some r := h0
  exact aG (aT (aT (bO (aF (⟨rfl, _, _, .eq (by kernel_rfl), hO, hI, h0⟩)))))

theorem ED (v0 : aB) (lo1p : Nat) (t1 : Int) (t2 : (List aB)) (r : (Bool × Int)) (h0 : jO v0 t1 t2 = some r) : mU Try.prog 102 lo1p 1 [(eI t1)] [(eI r.2)] [(aD v0), (.lp lo1p 0 0), (.rp (eL aD t2))] (aE r.1) := by
  intro H0 hl0
  refine cZ Try.func102 ?_
  have hO := aL.rC hl0
  clear hl0
  unfold jO at h0
  refine aN ?_
  refine aU aC 2 ?_
  refine pS 3 (aD v0) (by kernel_rfl) (by kernel_rfl) ?_
  refine bA ?_
  refine bP [0] [(3, (.rp (aD v0)))] ?_
  refine aN ?_
  refine aU aC 3 ?_
  refine qN 0 lo1p 1 0 (eI t1) (eI t1) [(eI t1)] hO rfl ?_
  refine bS 2 ?_
  refine qP 0 lo1p 1 0 (eI t1) (eI (wR (t1 + (1 : Int)))) [(eI t1)] [(lo1p, 1, [(eI (wR (t1 + (1 : Int))))])] hO rfl (by kernel_rfl) ?_
  intro H hO
  refine iF ?_
  refine bP [] [] ?_
  refine aN ?_
  refine eM (eK [7, 8, 11]) aC 7 ?_
  refine kP 2 ?_
  refine fL 0 lo1p 1 0 (eI (wR (t1 + (1 : Int)))) (eI (wR (t1 + (1 : Int)))) [(eI (wR (t1 + (1 : Int))))] hO rfl ?_
  obtain ⟨c1, h0⟩ := aS h0
  refine xQ (Ds := [0 ≤ (wR (t1 + (1 : Int))) ∧ (wR (t1 + (1 : Int))) < (lN t2)]) (by kernel_rfl) ⟨c1, trivial⟩ ?_
  refine bB [(1, (.lp lo1p 0 0)), (4, (aE (!((decide (v0.Kind = ((gD t2 (wR (t1 + (1 : Int)))).Kind))) && ((decide (v0.Num = ((gD t2 (wR (t1 + (1 : Int)))).Num))) && ((mT v0.Text ((gD t2 (wR (t1 + (1 : Int)))).Text)) && true))))))] ?_
  refine bD ?_
  obtain rfl := oI h0
  exact aG (lA (x := (aE (!((decide (v0.Kind = ((gD t2 (wR (t1 + (1 : Int)))).Kind))) && ((decide (v0.Num = ((gD t2 (wR (t1 + (1 : Int)))).Num))) && ((mT v0.Text ((gD t2 (wR (t1 + (1 : Int)))).Text)) && true)))))) (by kernel_rfl) (aO.refl _) ⟨rfl, hO.ext, hO.at 0 (by kernel_rfl), rfl⟩)

theorem sD (x0 : Int) (r : Bool) (h0 : jX x0 = some r) : dB Try.prog 95 [(eI x0)] (aE r) := by
  intro H0
  refine cZ Try.func95 ?_
  have hO := aL.start H0
  unfold jX at h0
  refine aR aC 1 [] [] ?_
  refine bQ aC 4 [(2, (aE (!decide (x0 = x0))))] ?_
  refine bD ?_
  obtain rfl := oI h0
  exact aG (Q_r hO)

theorem EG (x0 : Int) (y1 : Int) (r : Int) (h0 : nJ x0 y1 = some r) : dB Try.prog 103 [(eI x0), (eI y1)] (eI r) := by
  intro H0
  refine cZ Try.func103 ?_
  have hO := aL.start H0
  unfold nJ at h0
  refine aR aC 1 [] [] ?_
  refine aN ?_
  refine aU aC 3 ?_
  refine bS 1 ?_
  obtain ⟨x1, hx2, h0⟩ := aV h0
  refine dI (sD x0 _ hx2) hO ?_
  intro H hO
  refine bA ?_
  refine bP [] [(5, (aE x1))] ?_
  refine aN ?_
  refine aU aC 3 ?_
  refine bS 1 ?_
  obtain ⟨x4, hx5, h0⟩ := aV h0
  refine dI (sD y1 _ hx5) hO ?_
  intro H hO
  refine bA ?_
  refine bP [] [(6, (aE x4))] ?_
  refine aN ?_
  refine aR aC 1 [5] [(11, (aE x1))] ?_
  refine bE h0 (fun h0 => ?_) (fun h0 => ?_)
  · refine aN ?_
    refine bQ aC 1 [(12, (aE x4))] ?_
    refine bE h0 (fun h0 => ?_) (fun h0 => ?_)
    · refine bQ aC 1 [(4, (eI (0 : Int)))] ?_
      refine bD ?_
      obtain rfl := oI h0
      exact aG (aP (aP (Q_r hO)))
    refine bF ?_
    refine bB [] ?_
    refine bQ aC 1 [(4, (eI (-1 : Int)))] ?_
    refine bD ?_
    obtain rfl := oI h0
    exact aG (aP (Q_r hO))
  refine bF ?_
  refine bB [(0, (eI x0)), (1, (eI y1)), (6, (aE x4))] ?_
  refine aN ?_
  refine aR aC 1 [6] [(13, (aE x4))] ?_
  refine bE h0 (fun h0 => ?_) (fun h0 => ?_)
  · refine bQ aC 1 [(4, (eI (1 : Int)))] ?_
    refine bD ?_
    obtain rfl := oI h0
    exact aG (aP (Q_r hO))
  refine bF ?_
  refine bB [(0, (eI x0)), (1, (eI y1))] ?_
  refine aN ?_
  refine aR aC 3 [] [(16, (aE (decide (x0 < y1))))] ?_
  refine bE h0 (fun h0 => ?_) (fun h0 => ?_)
  · refine bQ aC 1 [(4, (eI (-1 : Int)))] ?_
    refine bD ?_
    obtain rfl := oI h0
    exact aG (aP (Q_r hO))
  refine bF ?_
  refine bB [(0, (eI x0)), (1, (eI y1))] ?_
  refine aN ?_
  refine bQ aC 3 [(19, (aE (decide (y1 < x0))))] ?_
  refine bE h0 (fun h0 => ?_) (fun h0 => ?_)
  · refine bQ aC 1 [(4, (eI (1 : Int)))] ?_
    refine bD ?_
    obtain rfl := oI h0
    exact aG (aP (Q_r hO))
  refine bF ?_
  refine bB [] ?_
  refine bQ aC 1 [(4, (eI (0 : Int)))] ?_
  refine bD ?_
  obtain rfl := oI h0
  exact aG (Q_r hO)

theorem sO (x0 : Int) (r : Bool) (h0 : kK x0 = some r) : dB Try.prog 114 [(eI x0)] (aE r) := by
  intro H0
  refine cZ Try.func114 ?_
  have hO := aL.start H0
  unfold kK at h0
  refine aR aC 1 [] [] ?_
  refine bQ aC 4 [(2, (aE (!decide (x0 = x0))))] ?_
  refine bD ?_
  obtain rfl := oI h0
  exact aG (Q_r hO)

theorem xB (x0 : Int) (y1 : Int) (r : Int) (h0 : fR x0 y1 = some r) : dB Try.prog 111 [(eI x0), (eI y1)] (eI r) := by
  intro H0
  refine cZ Try.func111 ?_
  have hO := aL.start H0
  unfold fR at h0
  refine aR aC 1 [] [] ?_
  refine aN ?_
  refine aU aC 3 ?_
  refine bS 1 ?_
  obtain ⟨x1, hx2, h0⟩ := aV h0
  refine dI (sO x0 _ hx2) hO ?_
  intro H hO
  refine bA ?_
  refine bP [] [(5, (aE x1))] ?_
  refine aN ?_
  refine aU aC 3 ?_
  refine bS 1 ?_
  obtain ⟨x4, hx5, h0⟩ := aV h0
  refine dI (sO y1 _ hx5) hO ?_
  intro H hO
  refine bA ?_
  refine bP [] [(6, (aE x4))] ?_
  refine aN ?_
  refine aR aC 1 [5] [(11, (aE x1))] ?_
  refine bE h0 (fun h0 => ?_) (fun h0 => ?_)
  · refine aN ?_
    refine bQ aC 1 [(12, (aE x4))] ?_
    refine bE h0 (fun h0 => ?_) (fun h0 => ?_)
    · refine bQ aC 1 [(4, (eI (0 : Int)))] ?_
      refine bD ?_
      obtain rfl := oI h0
      exact aG (aP (aP (Q_r hO)))
    refine bF ?_
    refine bB [] ?_
    refine bQ aC 1 [(4, (eI (-1 : Int)))] ?_
    refine bD ?_
    obtain rfl := oI h0
    exact aG (aP (Q_r hO))
  refine bF ?_
  refine bB [(0, (eI x0)), (1, (eI y1)), (6, (aE x4))] ?_
  refine aN ?_
  refine aR aC 1 [6] [(13, (aE x4))] ?_
  refine bE h0 (fun h0 => ?_) (fun h0 => ?_)
  · refine bQ aC 1 [(4, (eI (1 : Int)))] ?_
    refine bD ?_
    obtain rfl := oI h0
    exact aG (aP (Q_r hO))
  refine bF ?_
  refine bB [(0, (eI x0)), (1, (eI y1))] ?_
  refine aN ?_
  refine aR aC 3 [] [(16, (aE (decide (x0 < y1))))] ?_
  refine bE h0 (fun h0 => ?_) (fun h0 => ?_)
  · refine bQ aC 1 [(4, (eI (-1 : Int)))] ?_
    refine bD ?_
    obtain rfl := oI h0
    exact aG (aP (Q_r hO))
  refine bF ?_
  refine bB [(0, (eI x0)), (1, (eI y1))] ?_
  refine aN ?_
  refine bQ aC 3 [(19, (aE (decide (y1 < x0))))] ?_
  refine bE h0 (fun h0 => ?_) (fun h0 => ?_)
  · refine bQ aC 1 [(4, (eI (1 : Int)))] ?_
    refine bD ?_
    obtain rfl := oI h0
    exact aG (aP (Q_r hO))
  refine bF ?_
  refine bB [] ?_
  refine bQ aC 1 [(4, (eI (0 : Int)))] ?_
  refine bD ?_
  obtain rfl := oI h0
  exact aG (Q_r hO)

theorem uO (a0 : ByteArray) (b1 : ByteArray) (r : Int) (h0 : jG a0 b1 = some r) : dB Try.prog 115 [(vY a0), (vY b1)] (eI r) := by
  intro H0
  refine cZ Try.func115 ?_
  have hO := aL.start H0
  unfold jG at h0
  refine aR aC 1 [] [] ?_
  refine aN ?_
  refine aU aC 4 ?_
  refine bS 2 ?_
  refine YR 116 [(vY a0), (vY b1)] (eI (IC a0 b1)) (by kernel_rfl) (by kernel_rfl) (XF Try.func116 (by kernel_rfl) (by kernel_rfl) (by kernel_rfl) (by kernel_rfl) a0 b1) hO ?_
  intro H hO
  refine bA ?_
  refine bB [(4, (eI (IC a0 b1)))] ?_
  refine bD ?_
  obtain rfl := oI h0
  exact aG (Q_r hO)

theorem EE (a0 : ByteArray) (b1 : ByteArray) (r : Int) (h0 : lZ a0 b1 = some r) : dB Try.prog 112 [(vY a0), (vY b1)] (eI r) := by
  intro H0
  refine cZ Try.func112 ?_
  have hO := aL.start H0
  unfold lZ at h0
  refine aR aC 1 [] [] ?_
  refine aN ?_
  refine aU aC 4 ?_
  refine bS 2 ?_
  obtain ⟨x1, hx2, h0⟩ := aV h0
  refine dI (uO a0 b1 _ hx2) hO ?_
  intro H hO
  refine bA ?_
  refine bB [(4, (eI x1))] ?_
  refine bD ?_
  obtain rfl := oI h0
  exact aG (Q_r hO)

theorem GB (a0 : aB) (b1 : aB) (r : Int) (h0 : oW a0 b1 = some r) : dB Try.prog 104 [(aD a0), (aD b1)] (eI r) := by
  intro H0
  refine cZ Try.func104 ?_
  have hO := aL.start H0
  unfold oW at h0
  refine aN ?_
  refine aU aC 3 ?_
  refine pS 3 (aD a0) (by kernel_rfl) (by kernel_rfl) ?_
  refine pS 3 (aD b1) (by kernel_rfl) (by kernel_rfl) ?_
  refine bA ?_
  refine bB [(2, (.rp (aD a0))), (3, (.rp (aD b1)))] ?_
  refine aN ?_
  refine aU aC 7 ?_
  refine bS 1 ?_
  obtain ⟨⟨x1_0, x1_1⟩, hx2, h0⟩ := aV h0
  refine dI (vK a0 _ hx2) hO ?_
  intro H hO
  rcases x1_0 with _ | y4 | y5
  · replace h0 : ((lB b1).bind fun (x6_0, x6_1) => match x6_0 with | .none_ => (cond ((!x1_1) || (!x6_1)) (some (0 : Int)) (none)) | .k_number y9 => (cond ((!x1_1) || (!x6_1)) (some (0 : Int)) (some (1 : Int))) | .k_words y10 => (cond ((!x1_1) || (!x6_1)) (some (0 : Int)) (none))) = some r := h0
    refine bA ?_
    refine bP [2] [(5, (bC bK.none_)), (6, (aE x1_1))] ?_
    refine aN ?_
    refine aU aC 7 ?_
    refine bS 1 ?_
    obtain ⟨⟨x6_0, x6_1⟩, hx7, h0⟩ := aV h0
    refine dI (vK b1 _ hx7) hO ?_
    intro H hO
    rcases x6_0 with _ | y9 | y10
    · replace h0 : (cond ((!x1_1) || (!x6_1)) (some (0 : Int)) (none)) = some r := h0
      refine bA ?_
      refine bP [3] [(7, (bC bK.none_)), (8, (aE x6_1))] ?_
      refine aN ?_
      refine aR aC 6 [6, 8] [(28, (aE ((!x1_1) || (!x6_1))))] ?_
      refine bE h0 (fun h0 => ?_) (fun h0 => ?_)
      · refine bQ aC 1 [(4, (eI (0 : Int)))] ?_
        refine bD ?_
        obtain rfl := oI h0
        exact aG (aP (Q_r hO))
      refine bF ?_
      refine bB [(5, (bC bK.none_)), (7, (bC bK.none_))] ?_
      refine aR aC 7 [] [(9, (eI 0)), (10, (aE false))] ?_
      refine aR aC 7 [] [(11, (eI 0)), (12, (aE false))] ?_
      refine aN ?_
      refine bX 0 ?_
      refine aR aC 5 [] [(39, (aE false))] ?_
      refine nG (false) (fun hc12 => ?_) (fun hc12 => ?_)
      · cases hc12
      · refine aR aC 2 [9, 10, 11, 39] [(47, (aE false))] ?_
        refine nG (false) (fun hc13 => ?_) (fun hc13 => ?_)
        · cases hc13
        · refine bQ aC 2 [(5, (bC bK.none_)), (7, (bC bK.none_)), (49, (aE false))] ?_
          refine nG (false) (fun hc14 => ?_) (fun hc14 => ?_)
          · cases hc14
          · refine bF ?_
            refine fX [(5, (bC bK.none_)), (7, (bC bK.none_))] ?_
            refine aG (aW (aF (?_)))
            refine aN ?_
            refine eM (eK []) aC 6 ?_
            cases h0
    · replace h0 : (cond ((!x1_1) || (!x6_1)) (some (0 : Int)) (some (1 : Int))) = some r := h0
      refine bA ?_
      refine bP [3] [(7, (bC (bK.k_number y9))), (8, (aE x6_1))] ?_
      refine aN ?_
      refine aR aC 6 [6, 8] [(28, (aE ((!x1_1) || (!x6_1))))] ?_
      refine bE h0 (fun h0 => ?_) (fun h0 => ?_)
      · refine bQ aC 1 [(4, (eI (0 : Int)))] ?_
        refine bD ?_
        obtain rfl := oI h0
        exact aG (aP (Q_r hO))
      refine bF ?_
      refine bB [(5, (bC bK.none_)), (7, (bC (bK.k_number y9)))] ?_
      refine aR aC 7 [] [(9, (eI 0)), (10, (aE false))] ?_
      refine aR aC 7 [] [(11, (eI y9)), (12, (aE true))] ?_
      refine aN ?_
      refine bX 0 ?_
      refine aR aC 5 [] [(39, (aE false))] ?_
      refine nG (false) (fun hc16 => ?_) (fun hc16 => ?_)
      · cases hc16
      · refine aR aC 2 [9, 10, 11, 39] [(47, (aE false))] ?_
        refine nG (false) (fun hc17 => ?_) (fun hc17 => ?_)
        · cases hc17
        · refine bQ aC 2 [(5, (bC bK.none_)), (7, (bC (bK.k_number y9))), (49, (aE true))] ?_
          refine nG (true) (fun hc18 => ?_) (fun hc18 => ?_)
          · refine bQ aC 1 [(4, (eI (1 : Int)))] ?_
            refine bD ?_
            obtain rfl := oI h0
            exact aG (bI (aP (Q_r hO)))
          · cases hc18
    · replace h0 : (cond ((!x1_1) || (!x6_1)) (some (0 : Int)) (none)) = some r := h0
      refine bA ?_
      refine bP [3] [(7, (bC (bK.k_words y10))), (8, (aE x6_1))] ?_
      refine aN ?_
      refine aR aC 6 [6, 8] [(28, (aE ((!x1_1) || (!x6_1))))] ?_
      refine bE h0 (fun h0 => ?_) (fun h0 => ?_)
      · refine bQ aC 1 [(4, (eI (0 : Int)))] ?_
        refine bD ?_
        obtain rfl := oI h0
        exact aG (aP (Q_r hO))
      refine bF ?_
      refine bB [(5, (bC bK.none_)), (7, (bC (bK.k_words y10)))] ?_
      refine aR aC 7 [] [(9, (eI 0)), (10, (aE false))] ?_
      refine aR aC 7 [] [(11, (eI 0)), (12, (aE false))] ?_
      refine aN ?_
      refine bX 0 ?_
      refine aR aC 5 [] [(39, (aE false))] ?_
      refine nG (false) (fun hc20 => ?_) (fun hc20 => ?_)
      · cases hc20
      · refine aR aC 2 [9, 10, 11, 39] [(47, (aE false))] ?_
        refine nG (false) (fun hc21 => ?_) (fun hc21 => ?_)
        · cases hc21
        · refine bQ aC 2 [(5, (bC bK.none_)), (7, (bC (bK.k_words y10))), (49, (aE false))] ?_
          refine nG (false) (fun hc22 => ?_) (fun hc22 => ?_)
          · cases hc22
          · refine bF ?_
            refine fX [(5, (bC bK.none_)), (7, (bC (bK.k_words y10)))] ?_
            refine aG (aW (aF (?_)))
            refine aN ?_
            refine eM (eK []) aC 6 ?_
            cases h0
  · replace h0 : ((lB b1).bind fun (x23_0, x23_1) => match x23_0 with | .none_ => (cond ((!x1_1) || (!x23_1)) (some (0 : Int)) (some (-1 : Int))) | .k_number y26 => (cond ((!x1_1) || (!x23_1)) (some (0 : Int)) ((fR y4 y26).bind fun x33 => some x33)) | .k_words y27 => (cond ((!x1_1) || (!x23_1)) (some (0 : Int)) (some (-1 : Int)))) = some r := h0
    refine bA ?_
    refine bP [2] [(5, (bC (bK.k_number y4))), (6, (aE x1_1))] ?_
    refine aN ?_
    refine aU aC 7 ?_
    refine bS 1 ?_
    obtain ⟨⟨x23_0, x23_1⟩, hx24, h0⟩ := aV h0
    refine dI (vK b1 _ hx24) hO ?_
    intro H hO
    rcases x23_0 with _ | y26 | y27
    · replace h0 : (cond ((!x1_1) || (!x23_1)) (some (0 : Int)) (some (-1 : Int))) = some r := h0
      refine bA ?_
      refine bP [3] [(7, (bC bK.none_)), (8, (aE x23_1))] ?_
      refine aN ?_
      refine aR aC 6 [6, 8] [(28, (aE ((!x1_1) || (!x23_1))))] ?_
      refine bE h0 (fun h0 => ?_) (fun h0 => ?_)
      · refine bQ aC 1 [(4, (eI (0 : Int)))] ?_
        refine bD ?_
        obtain rfl := oI h0
        exact aG (aP (Q_r hO))
      refine bF ?_
      refine bB [(5, (bC (bK.k_number y4))), (7, (bC bK.none_))] ?_
      refine aR aC 7 [] [(9, (eI y4)), (10, (aE true))] ?_
      refine aR aC 7 [] [(11, (eI 0)), (12, (aE false))] ?_
      refine aN ?_
      refine bX 0 ?_
      refine aR aC 5 [] [(39, (aE false))] ?_
      refine nG (false) (fun hc29 => ?_) (fun hc29 => ?_)
      · cases hc29
      · refine aR aC 2 [9, 10, 11, 39] [(47, (aE true))] ?_
        refine nG (true) (fun hc30 => ?_) (fun hc30 => ?_)
        · refine bQ aC 1 [(4, (eI (-1 : Int)))] ?_
          refine bD ?_
          obtain rfl := oI h0
          exact aG (bI (aP (Q_r hO)))
        · cases hc30
    · replace h0 : (cond ((!x1_1) || (!x23_1)) (some (0 : Int)) ((fR y4 y26).bind fun x33 => some x33)) = some r := h0
      refine bA ?_
      refine bP [3] [(7, (bC (bK.k_number y26))), (8, (aE x23_1))] ?_
      refine aN ?_
      refine aR aC 6 [6, 8] [(28, (aE ((!x1_1) || (!x23_1))))] ?_
      refine bE h0 (fun h0 => ?_) (fun h0 => ?_)
      · refine bQ aC 1 [(4, (eI (0 : Int)))] ?_
        refine bD ?_
        obtain rfl := oI h0
        exact aG (aP (Q_r hO))
      refine bF ?_
      refine bB [(5, (bC (bK.k_number y4))), (7, (bC (bK.k_number y26)))] ?_
      refine aR aC 7 [] [(9, (eI y4)), (10, (aE true))] ?_
      refine aR aC 7 [] [(11, (eI y26)), (12, (aE true))] ?_
      refine aN ?_
      refine bX 0 ?_
      refine aR aC 5 [] [(39, (aE true))] ?_
      refine nG (true) (fun hc32 => ?_) (fun hc32 => ?_)
      · refine aN ?_
        refine aU aC 4 ?_
        refine bS 2 ?_
        obtain ⟨x33, hx34, h0⟩ := aV h0
        refine dI (xB y4 y26 _ hx34) hO ?_
        intro H hO
        refine bA ?_
        refine bB [(4, (eI x33))] ?_
        refine bD ?_
        obtain rfl := oI h0
        exact aG (bI (aP (Q_r hO)))
      · cases hc32
    · replace h0 : (cond ((!x1_1) || (!x23_1)) (some (0 : Int)) (some (-1 : Int))) = some r := h0
      refine bA ?_
      refine bP [3] [(7, (bC (bK.k_words y27))), (8, (aE x23_1))] ?_
      refine aN ?_
      refine aR aC 6 [6, 8] [(28, (aE ((!x1_1) || (!x23_1))))] ?_
      refine bE h0 (fun h0 => ?_) (fun h0 => ?_)
      · refine bQ aC 1 [(4, (eI (0 : Int)))] ?_
        refine bD ?_
        obtain rfl := oI h0
        exact aG (aP (Q_r hO))
      refine bF ?_
      refine bB [(5, (bC (bK.k_number y4))), (7, (bC (bK.k_words y27)))] ?_
      refine aR aC 7 [] [(9, (eI y4)), (10, (aE true))] ?_
      refine aR aC 7 [] [(11, (eI 0)), (12, (aE false))] ?_
      refine aN ?_
      refine bX 0 ?_
      refine aR aC 5 [] [(39, (aE false))] ?_
      refine nG (false) (fun hc37 => ?_) (fun hc37 => ?_)
      · cases hc37
      · refine aR aC 2 [9, 10, 11, 39] [(47, (aE true))] ?_
        refine nG (true) (fun hc38 => ?_) (fun hc38 => ?_)
        · refine bQ aC 1 [(4, (eI (-1 : Int)))] ?_
          refine bD ?_
          obtain rfl := oI h0
          exact aG (bI (aP (Q_r hO)))
        · cases hc38
  · replace h0 : ((lB b1).bind fun (x39_0, x39_1) => match x39_0 with | .none_ => (cond ((!x1_1) || (!x39_1)) (some (0 : Int)) (none)) | .k_number y42 => (cond ((!x1_1) || (!x39_1)) (some (0 : Int)) (some (1 : Int))) | .k_words y43 => (cond ((!x1_1) || (!x39_1)) (some (0 : Int)) ((lZ y5 y43).bind fun x56 => some x56))) = some r := h0
    refine bA ?_
    refine bP [2] [(5, (bC (bK.k_words y5))), (6, (aE x1_1))] ?_
    refine aN ?_
    refine aU aC 7 ?_
    refine bS 1 ?_
    obtain ⟨⟨x39_0, x39_1⟩, hx40, h0⟩ := aV h0
    refine dI (vK b1 _ hx40) hO ?_
    intro H hO
    rcases x39_0 with _ | y42 | y43
    · replace h0 : (cond ((!x1_1) || (!x39_1)) (some (0 : Int)) (none)) = some r := h0
      refine bA ?_
      refine bP [3] [(7, (bC bK.none_)), (8, (aE x39_1))] ?_
      refine aN ?_
      refine aR aC 6 [6, 8] [(28, (aE ((!x1_1) || (!x39_1))))] ?_
      refine bE h0 (fun h0 => ?_) (fun h0 => ?_)
      · refine bQ aC 1 [(4, (eI (0 : Int)))] ?_
        refine bD ?_
        obtain rfl := oI h0
        exact aG (aP (Q_r hO))
      refine bF ?_
      refine bB [(5, (bC (bK.k_words y5))), (7, (bC bK.none_))] ?_
      refine aR aC 7 [] [(9, (eI 0)), (10, (aE false))] ?_
      refine aR aC 7 [] [(11, (eI 0)), (12, (aE false))] ?_
      refine aN ?_
      refine bX 0 ?_
      refine aR aC 5 [] [(39, (aE false))] ?_
      refine nG (false) (fun hc45 => ?_) (fun hc45 => ?_)
      · cases hc45
      · refine aR aC 2 [9, 10, 11, 39] [(47, (aE false))] ?_
        refine nG (false) (fun hc46 => ?_) (fun hc46 => ?_)
        · cases hc46
        · refine bQ aC 2 [(5, (bC (bK.k_words y5))), (7, (bC bK.none_)), (49, (aE false))] ?_
          refine nG (false) (fun hc47 => ?_) (fun hc47 => ?_)
          · cases hc47
          · refine bF ?_
            refine fX [(5, (bC (bK.k_words y5))), (7, (bC bK.none_))] ?_
            refine aG (aW (aF (?_)))
            refine aN ?_
            refine eM (eK []) aC 6 ?_
            cases h0
    · replace h0 : (cond ((!x1_1) || (!x39_1)) (some (0 : Int)) (some (1 : Int))) = some r := h0
      refine bA ?_
      refine bP [3] [(7, (bC (bK.k_number y42))), (8, (aE x39_1))] ?_
      refine aN ?_
      refine aR aC 6 [6, 8] [(28, (aE ((!x1_1) || (!x39_1))))] ?_
      refine bE h0 (fun h0 => ?_) (fun h0 => ?_)
      · refine bQ aC 1 [(4, (eI (0 : Int)))] ?_
        refine bD ?_
        obtain rfl := oI h0
        exact aG (aP (Q_r hO))
      refine bF ?_
      refine bB [(5, (bC (bK.k_words y5))), (7, (bC (bK.k_number y42)))] ?_
      refine aR aC 7 [] [(9, (eI 0)), (10, (aE false))] ?_
      refine aR aC 7 [] [(11, (eI y42)), (12, (aE true))] ?_
      refine aN ?_
      refine bX 0 ?_
      refine aR aC 5 [] [(39, (aE false))] ?_
      refine nG (false) (fun hc49 => ?_) (fun hc49 => ?_)
      · cases hc49
      · refine aR aC 2 [9, 10, 11, 39] [(47, (aE false))] ?_
        refine nG (false) (fun hc50 => ?_) (fun hc50 => ?_)
        · cases hc50
        · refine bQ aC 2 [(5, (bC (bK.k_words y5))), (7, (bC (bK.k_number y42))), (49, (aE true))] ?_
          refine nG (true) (fun hc51 => ?_) (fun hc51 => ?_)
          · refine bQ aC 1 [(4, (eI (1 : Int)))] ?_
            refine bD ?_
            obtain rfl := oI h0
            exact aG (bI (aP (Q_r hO)))
          · cases hc51
    · replace h0 : (cond ((!x1_1) || (!x39_1)) (some (0 : Int)) ((lZ y5 y43).bind fun x56 => some x56)) = some r := h0
      refine bA ?_
      refine bP [3] [(7, (bC (bK.k_words y43))), (8, (aE x39_1))] ?_
      refine aN ?_
      refine aR aC 6 [6, 8] [(28, (aE ((!x1_1) || (!x39_1))))] ?_
      refine bE h0 (fun h0 => ?_) (fun h0 => ?_)
      · refine bQ aC 1 [(4, (eI (0 : Int)))] ?_
        refine bD ?_
        obtain rfl := oI h0
        exact aG (aP (Q_r hO))
      refine bF ?_
      refine bB [(5, (bC (bK.k_words y5))), (7, (bC (bK.k_words y43)))] ?_
      refine aR aC 7 [] [(9, (eI 0)), (10, (aE false))] ?_
      refine aR aC 7 [] [(11, (eI 0)), (12, (aE false))] ?_
      refine aN ?_
      refine bX 0 ?_
      refine aR aC 5 [] [(39, (aE false))] ?_
      refine nG (false) (fun hc53 => ?_) (fun hc53 => ?_)
      · cases hc53
      · refine aR aC 2 [9, 10, 11, 39] [(47, (aE false))] ?_
        refine nG (false) (fun hc54 => ?_) (fun hc54 => ?_)
        · cases hc54
        · refine bQ aC 2 [(5, (bC (bK.k_words y5))), (7, (bC (bK.k_words y43))), (49, (aE false))] ?_
          refine nG (false) (fun hc55 => ?_) (fun hc55 => ?_)
          · cases hc55
          · refine bF ?_
            refine fX [(5, (bC (bK.k_words y5))), (7, (bC (bK.k_words y43)))] ?_
            refine aG (aW (aF (?_)))
            refine aN ?_
            refine eM (eK []) aC 6 ?_
            refine kP 4 ?_
            obtain ⟨x56, hx57, h0⟩ := aV h0
            refine BV (EE y5 y43 _ hx57) hO ?_
            intro H hO
            refine iH ?_
            refine bB [(4, (eI x56))] ?_
            refine bD ?_
            obtain rfl := oI h0
            exact aG (Q_r hO)

theorem KM (a0 : (List aB)) (b1 : (List aB)) (r : Int) (h0 : rB a0 b1 = some r) : dB Try.prog 77 [(eL aD a0), (eL aD b1)] (eI r) := by
  intro H0
  refine cZ Try.func77 ?_
  have hO := aL.start H0
  unfold rB at h0
  refine aN ?_
  refine aU aC 2 ?_
  refine pS 1 (eL aD b1) (by kernel_rfl) (by kernel_rfl) ?_
  refine bA ?_
  refine bP [1] [(3, (.rp (eL aD b1)))] ?_
  refine aN ?_
  refine aN ?_
  refine aU aC 8 ?_
  refine bS 1 ?_
  obtain ⟨x1, hx2, h0⟩ := aV h0
  refine dI (CW a0 _ hx2) hO ?_
  intro H hO
  refine bS 5 ?_
  obtain ⟨x4, hx5, h0⟩ := aV h0
  refine nR [(10, false)] 76 [(eL aD b1)] (aE x4) (!(!x1)) (by kernel_rfl) (by kernel_rfl) (by kernel_rfl) (fun hb6 => (CW b1 _ (jJ hx5 hb6))) hO ?_
  intro H hO
  refine bA ?_
  refine bP [] [(14, (aE ((!x1) || (!x4))))] ?_
  refine bE h0 (fun h0 => ?_) (fun h0 => ?_)
  · refine bQ aC 1 [(4, (eI (0 : Int)))] ?_
    refine bD ?_
    obtain rfl := oI h0
    exact aG (aP (Q_r hO))
  refine bF ?_
  refine bB [(0, (eL aD a0)), (3, (.rp (eL aD b1)))] ?_
  refine aR aC 6 [] [(5, (eI (if (lN b1) < (lN a0) then (lN b1) else (lN a0))))] ?_
  refine aN ?_
  refine eM (eK []) aC 7 ?_
  obtain ⟨c8, h0⟩ := aS h0
  refine bZ 4 [0 ≤ (if (lN b1) < (lN a0) then (lN b1) else (lN a0)) ∧ (if (lN b1) < (lN a0) then (lN b1) else (lN a0)) ≤ (lN a0)] ⟨c8, trivial⟩ ?_
  obtain ⟨x9, hx10, h0⟩ := aV h0
  refine ZA (L' := fun lo11 => [(lo11, 1, [(eI x9.1)])]) 1 [(eI x9.1)] 101 [(.rp (eL aD b1))] (fun lo11 => (.fn (.func 102) [] [(.lp lo11 0 0), (.rp (eL aD x9.2))])) (by kernel_rfl) (by kernel_rfl) (FY b1 _ hx10) hO (fun _ => by kernel_rfl) ?_
  intro lo11 H hO
  obtain ⟨x12, hx13, h0⟩ := aV h0
  refine YH (fun st G' => G' = up [(lo11, 1, [(eI st)])] ++ []) [(lo11, 1, [(eI x12.1)])] x9.1 x12.1 100 [(.sl false (Int.toNat (if (lN b1) < (lN a0) then (lN b1) else (lN a0))) (fun i => aD (List.getD a0 i default))), (.fn (.func 102) [] [(.lp lo11 0 0), (.rp (eL aD x9.2))])] (eI x12.2) (by kernel_rfl) (by kernel_rfl) (xG.sub (as0' := [(eL aD (List.take (Int.toNat (if (lN b1) < (lN a0) then (lN b1) else (lN a0))) a0)), (.fn (.func 102) [] [(.lp lo11 0 0), (.rp (eL aD x9.2))])]) (rW _ (List.take (Int.toNat (if (lN b1) < (lN a0) then (lN b1) else (lN a0))) a0) (.fn (.func 102) [] [(.lp lo11 0 0), (.rp (eL aD x9.2))]) (fun st y0 => (jO y0 st x9.2).bind fun o => some (o.2, o.1)) (fun st y0 st2 rr hr => (ED y0 lo11 st x9.2 _ (aAH hr)).toV (ys := []) (zs := [(aD y0)]) (cs := [(.lp lo11 0 0), (.rp (eL aD x9.2))]) (fun Gx hG => ⟨up [], up [] ++ [], hG, rfl⟩)) _ _ hx13) ⟨PY (Int.toNat_le.2 (And.right c8)), aO.refl _, trivial⟩) hO rfl (fun _ h => h) ?_
  intro H hO
  refine iH ?_
  replace hO := hO.pick (L' := []) [] (by decide) (by kernel_rfl)
  refine bP [5] [(6, (eI x12.2))] ?_
  refine aN ?_
  refine aR aC 2 [] [(27, (aE (decide (x12.2 < (0 : Int)))))] ?_
  refine bE h0 (fun h0 => ?_) (fun h0 => ?_)
  · refine aN ?_
    refine aU aC 6 ?_
    refine bS 4 ?_
    obtain ⟨x15, hx16, h0⟩ := aV h0
    refine dI (EG (lN a0) (lN b1) _ hx16) hO ?_
    intro H hO
    refine bA ?_
    refine bB [(4, (eI x15))] ?_
    refine bD ?_
    obtain rfl := oI h0
    exact aG (aP (Q_r hO))
  refine bF ?_
  refine bB [(0, (eL aD a0)), (3, (.rp (eL aD b1))), (6, (eI x12.2))] ?_
  refine aN ?_
  refine eM (eK [36, 37, 40, 41]) aC 10 ?_
  obtain ⟨c18, h0⟩ := aS h0
  obtain ⟨c19, h0⟩ := aS h0
  refine bZ 8 [0 ≤ x12.2 ∧ x12.2 < (lN a0), 0 ≤ x12.2 ∧ x12.2 < (lN b1)] ⟨c18, c19, trivial⟩ ?_
  obtain ⟨x20, hx21, h0⟩ := aV h0
  refine BV (GB (gD a0 x12.2) (gD b1 x12.2) _ hx21) hO ?_
  intro H hO
  refine iH ?_
  refine bB [(4, (eI x20))] ?_
  refine bD ?_
  obtain rfl := oI h0
  exact aG (Q_r hO)

theorem EL (l0 : (List aI)) (holds1_f : Nat) (holds1_a holds1_c : List V) (sU : (List aM) → Option Bool) (holds1_h : ∀ a0 r, sU a0 = some r → dB Try.prog holds1_f (holds1_a ++ [(eL aX a0)] ++ holds1_c) (aE r)) (r : Bool) (h0 : rQ l0 sU = some r) : dB Try.prog 56 [(eL aH l0), (.fn (.func holds1_f) holds1_a holds1_c)] (aE r) := by
  intro H0
  refine IE aC Try.func56 (by kernel_rfl) (by kernel_rfl) (by kernel_rfl) ?_
  have hO := aL.start H0
  unfold rQ at h0
  refine aN ?_
  refine aU aC 2 ?_
  refine pS 1 (.fn (.func holds1_f) holds1_a holds1_c) (by kernel_rfl) (by kernel_rfl) ?_
  refine uR 1 (aE false) (by kernel_rfl) (by kernel_rfl) hO ?_
  intro lo1 H hO
  refine iF ?_
  refine bP [1] [(3, (.rp (.fn (.func holds1_f) holds1_a holds1_c))), (4, (.lp lo1 0 0))] ?_
  refine aN ?_
  refine aR aC 3 [] [(11, (aE (decide ((4096 : Int) < (lN l0)))))] ?_
  refine bE h0 (fun h0 => ?_) (fun h0 => ?_)
  · refine aN ?_
    refine aU aC 1 ?_
    refine qP 0 lo1 1 0 (aE false) (aE false) [(aE false)] [(lo1, 1, [(aE false)])] hO rfl (by kernel_rfl) ?_
    intro H hO
    refine iF ?_
    refine bB [(4, (.lp lo1 0 0))] ?_
    refine bD ?_
    obtain rfl := oI h0
    exact aG (aP (QM0 (.inr rfl) (rs := [.cell 4 4]) (xs := [(aE false)]) (x := (aE false)) (by kernel_rfl) (DT (lo := lo1) (k := 1) (y := (aE false)) (x := (aE false)) 0 hO (by kernel_rfl) (by kernel_rfl) (by kernel_rfl) (by kernel_rfl) DQ) (by kernel_rfl) ⟨rfl, hO.out⟩))
  refine bF ?_
  refine bB [(0, (eL aH l0)), (3, (.rp (.fn (.func holds1_f) holds1_a holds1_c))), (4, (.lp lo1 0 0))] ?_
  refine aN ?_
  refine aU aC 1 ?_
  refine vT 1 (.sl true 0 (fun _ => .bad)) (eL aD ([])) (by kernel_rfl) (by kernel_rfl) (by kernel_rfl) (nQ) (by kernel_rfl) (by kernel_rfl) hO ?_
  intro lo3 H hO
  refine iF ?_
  refine bP [] [(5, (.lp lo3 0 0))] ?_
  refine aN ?_
  refine aU aC 2 ?_
  refine uR 1 (aE false) (by kernel_rfl) (by kernel_rfl) hO ?_
  intro lo4 H hO
  refine qP 2 lo4 1 0 (aE false) (aE false) [(aE false)] [(lo1, 1, [(aE false)]), (lo3, 1, [(eL aD ([]))]), (lo4, 1, [(aE false)])] hO rfl (by kernel_rfl) ?_
  intro H hO
  refine iF ?_
  refine bP [] [(6, (.lp lo4 0 0))] ?_
  refine aN ?_
  refine aN ?_
  refine aU aC 2 ?_
  refine bS 1 ?_
  obtain ⟨x5, hx6, h0⟩ := aV h0
  refine dI (OG l0 _ hx6) hO ?_
  intro H hO
  refine iF ?_
  refine bP [0] [(13, (.fn (.func 91) [] [(.rp (eL aH x5))]))] ?_
  refine bX 0 ?_
  refine fG [(3, (.rp (.fn (.func holds1_f) holds1_a holds1_c))), (4, (.lp lo1 0 0)), (5, (.lp lo3 0 0)), (6, (.lp lo4 0 0)), (13, (.fn (.func 91) [] [(.rp (eL aH x5))]))] ?_
  refine dS (fun T H => ∃ t4 : Bool, ∃ nL : (List aB), ∃ jR : Bool, ∃ tA : (List aI), Has T [(3, (.rp (.fn (.func holds1_f) holds1_a holds1_c))), (4, (.lp lo1 0 0)), (5, (.lp lo3 0 0)), (6, (.lp lo4 0 0)), (13, (.fn (.func 91) [] [(.rp (eL aH tA))]))] ∧ aL ⟨H0, [], []⟩ H [(lo1, 1, [(aE t4)]), (lo3, 1, [(eL aD nL)]), (lo4, 1, [(aE jR)])] ∧ vA sU t4 nL jR tA = some r) ?_ ⟨false, [], false, x5, .eq (by kernel_rfl), hO, h0⟩
  clear hO h0
  rintro T H ⟨t4, nL, jR, tA, hT, hO, h0⟩
  refine aZ (l := [(3, (.rp (.fn (.func holds1_f) holds1_a holds1_c))), (4, (.lp lo1 0 0)), (5, (.lp lo3 0 0)), (6, (.lp lo4 0 0)), (13, (.fn (.func 91) [] [(.rp (eL aH tA))]))]) hT ?_
  clear hT
  unfold vA at h0
  obtain ⟨o0, hl0, h0⟩ := aV h0
  refine FQ (fid := 91) (ys := []) (cs := [(.rp (eL aH tA))]) #[14, 15] (fun (A : zE) (b lL : Nat) (st : (Bool × (List aB) × Bool) ⊕ (Bool × (List aB) × Bool)) (G' : Gs) => Sum.elim (fun (s : Bool × (List aB) × Bool) => G' = (lL, .raw (lW b A .ready none)) :: (up [(lo1, 1, [(aE s.1)]), (lo3, 1, [(eL aD s.2.1)]), (lo4, 1, [(aE s.2.2)])] ++ [])) (fun (s : Bool × (List aB) × Bool) => G' = (lL, .raw (lW b A .done (some .ret))) :: (up [(lo1, 1, [(aE s.1)]), (lo3, 1, [(eL aD s.2.1)]), (lo4, 1, [(aE s.2.2)])] ++ [])) st) (.inl (t4, nL, jR)) o0 (.tup []) (by kernel_rfl) (by kernel_rfl) (by kernel_rfl) hO (fun _ _ => rfl) ?_ ?_
  · intro b lL
    clear hO h0
    refine HD _ b (fun st t14 t15 => rnd (fun (s : Bool × (List aB) × Bool) => nX sU tA s.1 s.2.1 s.2.2 t14 t15) st) ?_ tA _ _ hl0
    intro st t14 t15 out1 rr hr
    obtain ⟨s, rfl, h1, rfl⟩ := WS hr
    clear hr
    intro Hr Gr hi hg
    obtain ⟨t4, nL, jR⟩ := s
    dsimp only [Sum.elim_inl] at hi
    obtain rfl := hi
    replace h1 : nX sU tA t4 nL jR t14 t15 = some out1 := h1
    unfold nX at h1
    obtain ⟨E1, hE, hO⟩ := zP hg
    refine zI (FI (hO.gm 0 _ rfl).2 (by kernel_rfl) (by kernel_rfl) ?_)
    refine fG [(3, (.rp (.fn (.func holds1_f) holds1_a holds1_c))), (4, (.lp lo1 0 0)), (5, (.lp lo3 0 0)), (6, (.lp lo4 0 0)), (13, (.fn (.func 91) [] [(.rp (eL aH tA))])), (14, (eL aD t14)), (15, (eL aX t15))] ?_
    refine aR aC 1 [13, 14] [(7, (eL aD t14))] ?_
    refine aU aC 1 ?_
    refine bA ?_
    refine fX [(3, (.rp (.fn (.func holds1_f) holds1_a holds1_c))), (4, (.lp lo1 0 0)), (5, (.lp lo3 0 0)), (6, (.lp lo4 0 0)), (7, (eL aD t14)), (8, (eL aX t15))] ?_
    refine aG (⟨rfl, rfl, (hO.gm 0 _ rfl).2, ?_⟩)
    intro o1 ho1
    replace hO := hO.AI o1
    refine bX 1 ?_
    refine aN ?_
    refine aN ?_
    refine aU aC 18 ?_
    refine bS 1 ?_
    obtain ⟨x7, hx8, h1⟩ := aV h1
    refine dI (CW t14 _ hx8) hO ?_
    intro H hO
    refine bS 4 ?_
    refine rU [(19, false)] 2 lo4 1 0 (aE jR) (aE jR) [(aE jR)] (by kernel_rfl) (by kernel_rfl) hO (by kernel_rfl) (!(!x7)) (by kernel_rfl) (fun hb10 => rfl) ?_
    refine bS 6 ?_
    refine rU [(21, true), (19, false)] 1 lo3 1 0 (eL aD nL) (eL aD nL) [(eL aD nL)] (by kernel_rfl) (by kernel_rfl) hO (by kernel_rfl) (jR && (!(!x7))) (by kernel_rfl) (fun hb11 => rfl) ?_
    refine bS 8 ?_
    obtain ⟨x12, hx13, h1⟩ := aV h1
    refine nR [(21, true), (19, false)] 77 [(eL aD nL), (eL aD t14)] (eI x12) (jR && (!(!x7))) (by kernel_rfl) (by kernel_rfl) (by kernel_rfl) (fun hb14 => (KM nL t14 _ (jJ hx13 hb14))) hO ?_
    intro H hO
    refine bS 15 ?_
    obtain ⟨x15, hx16, h1⟩ := aV h1
    refine nR [(28, false)] holds1_f (holds1_a ++ [(eL aX t15)] ++ holds1_c) (aE x15) (!((!x7) || (jR && (decide ((0 : Int) ≤ x12))))) (by kernel_rfl) (by kernel_rfl) (by kernel_rfl) (fun hb17 => (holds1_h t15 _ (jJ hx16 hb17))) hO ?_
    intro H hO
    refine bA ?_
    refine bP [3, 8] [(33, (aE (((!x7) || (jR && (decide ((0 : Int) ≤ x12)))) || (!x15))))] ?_
    refine bE h1 (fun h1 => ?_) (fun h1 => ?_)
    · refine aN ?_
      refine aU aC 1 ?_
      refine qP 0 lo1 1 0 (aE t4) (aE false) [(aE t4)] [(lo1, 1, [(aE false)]), (lo3, 1, [(eL aD nL)]), (lo4, 1, [(aE jR)])] hO rfl (by kernel_rfl) ?_
      intro H hO
      refine iF ?_
      refine bP [7, 33] [] ?_
      refine bD ?_
      refine fX [(4, (.lp lo1 0 0)), (5, (.lp lo3 0 0)), (6, (.lp lo4 0 0))] ?_
      obtain rfl := oI h1
      exact aG (aP (bI (⟨(mF hO hE ho1 .dead).1, rfl, _, rfl, (mF hO hE ho1 _).2⟩)))
    refine bF ?_
    refine bB [(4, (.lp lo1 0 0)), (5, (.lp lo3 0 0)), (6, (.lp lo4 0 0)), (7, (eL aD t14))] ?_
    refine aU aC 3 ?_
    refine bS 1 ?_
    refine qP 1 lo3 1 0 (eL aD nL) (eL aD t14) [(eL aD nL)] [(lo1, 1, [(aE t4)]), (lo3, 1, [(eL aD t14)]), (lo4, 1, [(aE jR)])] hO rfl (by kernel_rfl) ?_
    intro H hO
    refine qP 2 lo4 1 0 (aE jR) (aE true) [(aE jR)] [(lo1, 1, [(aE t4)]), (lo3, 1, [(eL aD t14)]), (lo4, 1, [(aE true)])] hO rfl (by kernel_rfl) ?_
    intro H hO
    refine iF ?_
    refine fX [(4, (.lp lo1 0 0)), (5, (.lp lo3 0 0)), (6, (.lp lo4 0 0))] ?_
    obtain rfl := oI h1
    exact aG (aW (⟨(mF hO hE ho1 .dead).1, rfl, _, rfl, (mF hO hE ho1 _).2⟩))
  · intro b lD19 lL H' G' hi hO
    rcases o0 with s | s
    · dsimp only [Sum.elim_inl] at hi
      obtain rfl := hi
      replace h0 : (some true) = some r := h0
      obtain ⟨hlL, hO⟩ := xN hO
      refine ⟨_, _, hlL, (by intro e; cases e), ?_⟩
      refine fX [(4, (.lp lo1 0 0))] ?_
      replace hO := hO.pick (L' := [(lo1, 1, [(aE s.1)])]) [0] (by decide) (by kernel_rfl)
      refine aG (aW (aF (?_)))
      refine aN ?_
      refine aU aC 1 ?_
      refine qP 0 lo1 1 0 (aE s.1) (aE true) [(aE s.1)] [(lo1, 1, [(aE true)])] hO rfl (by kernel_rfl) ?_
      intro H hO
      refine iF ?_
      refine bB [(4, (.lp lo1 0 0))] ?_
      refine bD ?_
      obtain rfl := oI h0
      have hD := (hO.gm 0 _ rfl).2
      replace hO := (hO.AI .dead).BG
      exact aG (QM1 (.inr rfl) hD (rs := [.cell 4 4]) (xs := [(aE true)]) (x := (aE true)) (by kernel_rfl) (DT (lo := lo1) (k := 1) (y := (aE true)) (x := (aE true)) 0 hO (by kernel_rfl) (by kernel_rfl) (by kernel_rfl) (by kernel_rfl) DQ) (by kernel_rfl) ⟨rfl, hO.out⟩)
    · dsimp only [Sum.elim_inr] at hi
      obtain rfl := hi
      replace h0 : (some s.1) = some r := h0
      obtain ⟨hlL, hO⟩ := xN hO
      refine ⟨_, _, hlL, (by intro e; cases e), ?_⟩
      refine bD ?_
      replace hO := hO.pick (L' := [(lo1, 1, [(aE s.1)])]) [0] (by decide) (by kernel_rfl)
      obtain rfl := oI h0
      have hD := (hO.gm 0 _ rfl).2
      replace hO := (hO.AI .dead).BG
      exact aG (bI (aP (QM1 (.inr rfl) hD (rs := [.cell 4 4]) (xs := [(aE s.1)]) (x := (aE s.1)) (by kernel_rfl) (DT (lo := lo1) (k := 1) (y := (aE s.1)) (x := (aE s.1)) 0 hO (by kernel_rfl) (by kernel_rfl) (by kernel_rfl) (by kernel_rfl) DQ) (by kernel_rfl) ⟨rfl, hO.out⟩)))

theorem OF (n0 : Int) (r : Bool) (h0 : wG n0 = some r) : dB Try.prog 78 [(eI n0)] (aE r) := by
  intro H0
  refine cZ Try.func78 ?_
  have hO := aL.start H0
  unfold wG at h0
  refine aR aC 1 [] [] ?_
  refine bQ aC 7 [(2, (aE ((decide (n0 ≤ (1048576 : Int))) && (decide ((-1048576 : Int) ≤ n0)))))] ?_
  refine bD ?_
  obtain rfl := oI h0
  exact aG (Q_r hO)

theorem BL (f0 : (List aM)) (r : Bool) (h0 : pE f0 = some r) : dB Try.prog 57 [(eL aX f0)] (aE r) := by
  intro H0
  refine cZ Try.func57 ?_
  have hO := aL.start H0
  unfold pE at h0
  refine aR aC 1 [] [] ?_
  refine aN ?_
  refine aR aC 3 [] [(8, (aE (decide ((1024 : Int) < (lN f0)))))] ?_
  refine bE h0 (fun h0 => ?_) (fun h0 => ?_)
  · refine bQ aC 1 [(2, (aE false))] ?_
    refine bD ?_
    obtain rfl := oI h0
    exact aG (aP (Q_r hO))
  refine bF ?_
  refine bB [(0, (eL aX f0))] ?_
  refine aR aC 1 [] [(3, (eI (-2 : Int)))] ?_
  refine dZ (fun T H => Has T [] ∧ aL ⟨H0, [], []⟩ H [] ∧ tV  = some r) ?_ ?_
  · clear hO h0
    rintro T H ⟨hT, hO, h0⟩
    refine aZ hT ?_
    clear hT
    unfold tV at h0
    refine bQ aC 1 [(2, (aE true))] ?_
    refine bD ?_
    obtain rfl := oI h0
    exact aG (Q_r hO)
  refine aR aC 3 [0] [(9, (eL aX f0)), (10, (eI (lN f0))), (11, (eI (0 : Int)))] ?_
  refine bX 0 ?_
  refine fG [(3, (eI (-2 : Int))), (9, (eL aX f0)), (10, (eI (lN f0))), (11, (eI (0 : Int)))] ?_
  refine dS (fun T H => ∃ pO : Int, ∃ t9 : (List aM), ∃ t10 : Int, ∃ t11 : Int, Has T [(3, (eI pO)), (9, (eL aX t9)), (10, (eI t10)), (11, (eI t11))] ∧ aL ⟨H0, [], []⟩ H [] ∧ wM pO t9 t10 t11 = some r) ?_ ⟨(-2 : Int), f0, (lN f0), (0 : Int), .eq (by kernel_rfl), hO, h0⟩
  clear hO h0
  rintro T H ⟨pO, t9, t10, t11, hT, hO, h0⟩
  refine aZ hT ?_
  clear hT
  unfold wM at h0
  obtain ⟨rr0, hl0, h0⟩ := aV h0
  refine cQ (by kernel_rfl) (fun (s : Int × Int) T H => Has T [(3, (eI s.1)), (9, (eL aX t9)), (10, (eI t10)), (11, (eI s.2))] ∧ aL ⟨H0, [], []⟩ H []) hl0 ⟨.eq (by kernel_rfl), hO⟩ ?_
  clear hO
  rintro k0 s out1 T H ⟨hT, hO⟩ h1 ho0
  obtain ⟨pO, t11⟩ := s
  replace h1 : lS t9 t10 pO t11 = some out1 := h1
  try dsimp only at hT
  refine aZ hT ?_
  clear hT
  unfold lS at h1
  refine aR aC 1 [] [(12, (aE (decide (t11 < t10))))] ?_
  refine aN ?_
  refine bE h1 (fun h1 => ?_) (fun h1 => ?_)
  · refine bF ?_
    refine bB [(3, (eI pO)), (9, (eL aX t9)), (10, (eI t10)), (11, (eI t11))] ?_
    refine aN ?_
    refine bX 1 ?_
    refine aN ?_
    refine aU aC 4 ?_
    obtain ⟨c3, h1⟩ := aS h1
    refine nH 2 [0 ≤ t11 ∧ t11 < (lN t9)] ⟨c3, trivial⟩ ?_
    refine uR 2 (aX (aM.mk 0 0)) (by kernel_rfl) (by kernel_rfl) hO ?_
    intro lo4 H hO
    refine qP 0 lo4 2 0 (aX (aM.mk 0 0)) (aX (gD t9 t11)) [(aX (aM.mk 0 0))] [(lo4, 2, [(aX (gD t9 t11))])] hO rfl (by kernel_rfl) ?_
    intro H hO
    refine iF ?_
    refine bP [] [(5, (.lp lo4 0 0))] ?_
    refine aN ?_
    refine aN ?_
    refine aU aC 20 ?_
    refine bS 1 ?_
    refine qN 0 lo4 2 0 (aX (gD t9 t11)) (eI ((gD t9 t11).At)) [(aX (gD t9 t11))] hO rfl ?_
    refine bS 6 ?_
    refine rU [(19, false)] 0 lo4 2 0 (aX (gD t9 t11)) (eI ((gD t9 t11).At)) [(aX (gD t9 t11))] (by kernel_rfl) (by kernel_rfl) hO (by kernel_rfl) (!(decide (((gD t9 t11).At) ≤ pO))) (by kernel_rfl) (fun hb5 => rfl) ?_
    refine bS 11 ?_
    refine rU [(24, false)] 0 lo4 2 0 (aX (gD t9 t11)) (eI ((gD t9 t11).Net)) [(aX (gD t9 t11))] (by kernel_rfl) (by kernel_rfl) hO (by kernel_rfl) (!((decide (((gD t9 t11).At) ≤ pO)) || (decide ((1125899906842624 : Int) ≤ ((gD t9 t11).At))))) (by kernel_rfl) (fun hb6 => rfl) ?_
    refine bS 16 ?_
    refine rU [(29, false)] 0 lo4 2 0 (aX (gD t9 t11)) (eI ((gD t9 t11).Net)) [(aX (gD t9 t11))] (by kernel_rfl) (by kernel_rfl) hO (by kernel_rfl) (!(((decide (((gD t9 t11).At) ≤ pO)) || (decide ((1125899906842624 : Int) ≤ ((gD t9 t11).At)))) || (decide (((gD t9 t11).Net) = (0 : Int))))) (by kernel_rfl) (fun hb7 => rfl) ?_
    obtain ⟨x8, hx9, h1⟩ := aV h1
    refine nR [(29, false)] 78 [(eI ((gD t9 t11).Net))] (aE x8) (!(((decide (((gD t9 t11).At) ≤ pO)) || (decide ((1125899906842624 : Int) ≤ ((gD t9 t11).At)))) || (decide (((gD t9 t11).Net) = (0 : Int))))) (by kernel_rfl) (by kernel_rfl) (by kernel_rfl) (fun hb10 => (OF ((gD t9 t11).Net) _ (jJ hx9 hb10))) hO ?_
    intro H hO
    refine bA ?_
    refine bP [3] [(34, (aE ((((decide (((gD t9 t11).At) ≤ pO)) || (decide ((1125899906842624 : Int) ≤ ((gD t9 t11).At)))) || (decide (((gD t9 t11).Net) = (0 : Int)))) || (!x8))))] ?_
    refine bE h1 (fun h1 => ?_) (fun h1 => ?_)
    · refine aN ?_
      refine aU aC 1 ?_
      refine bA ?_
      refine fX [(2, (aE false))] ?_
      replace hO := hO.pick (L' := []) [] (by decide) (by kernel_rfl)
      refine aG (aF (?_))
      refine bD ?_
      obtain rfl := oI h1
      obtain rfl : _ = rr0 := ho0
      replace h0 : some false = some r := h0
      obtain rfl := oI h0
      exact aG (aP (bI (aP (aP (bI (aP (Q_r hO)))))))
    refine bF ?_
    refine bB [(5, (.lp lo4 0 0)), (9, (eL aX t9)), (10, (eI t10)), (11, (eI t11))] ?_
    refine aU aC 3 ?_
    refine bS 1 ?_
    refine qN 0 lo4 2 0 (aX (gD t9 t11)) (eI ((gD t9 t11).At)) [(aX (gD t9 t11))] hO rfl ?_
    refine bA ?_
    refine fX [(3, (eI ((gD t9 t11).At))), (9, (eL aX t9)), (10, (eI t10)), (11, (eI t11))] ?_
    replace hO := hO.pick (L' := []) [] (by decide) (by kernel_rfl)
    refine aG (aW (aF (?_)))
    refine aU aC 2 ?_
    refine bA ?_
    exact aG (aF (⟨rfl, _, (oI h1).symm, .eq (by kernel_rfl), hO⟩))
  refine fB 0 ?_
  obtain rfl := oI h1
  obtain rfl : _ = rr0 := ho0
  replace h0 : tV  = some r := h0
  exact aG (aT (aT (bO (aF (⟨rfl, .eq (by kernel_rfl), hO, h0⟩)))))

theorem RU (l0 : (List aI)) (r : Bool) (h0 : vB l0 = some r) : dB Try.prog 31 [(eL aH l0)] (aE r) := by
  intro H0
  refine cZ Try.func31 ?_
  have hO := aL.start H0
  unfold vB at h0
  refine aR aC 1 [] [] ?_
  refine aN ?_
  refine aU aC 3 ?_
  refine bS 1 ?_
  obtain ⟨x1, hx2, h0⟩ := aV h0
  refine dI (EL l0 57 [] [] (fun y0 => pE y0) (fun y0 r h => BL y0 r h) _ hx2) hO ?_
  intro H hO
  refine bA ?_
  refine bB [(2, (aE x1))] ?_
  refine bD ?_
  obtain rfl := oI h0
  exact aG (Q_r hO)

theorem LP (f0 : (List aM)) (r : Int) (h0 : sS f0 = some r) : dB Try.prog 59 [(eL aX f0)] (eI r) := by
  intro H0
  refine cZ Try.func59 ?_
  have hO := aL.start H0
  unfold sS at h0
  refine aR aC 1 [] [] ?_
  refine aN ?_
  refine aN ?_
  refine aU aC 8 ?_
  refine bS 1 ?_
  obtain ⟨x1, hx2, h0⟩ := aV h0
  refine dI (BL f0 _ hx2) hO ?_
  intro H hO
  refine bA ?_
  refine bP [] [(14, (aE ((!x1) || (decide ((lN f0) = (0 : Int))))))] ?_
  refine bE h0 (fun h0 => ?_) (fun h0 => ?_)
  · refine bQ aC 1 [(2, (eI (0 : Int)))] ?_
    refine bD ?_
    obtain rfl := oI h0
    exact aG (aP (Q_r hO))
  refine bF ?_
  refine bB [(0, (eL aX f0))] ?_
  refine aR aC 2 [] [(3, (eI (0 : Int))), (4, (eI (0 : Int)))] ?_
  refine dZ (fun T H => ∃ v3 : Int, ∃ gU : Int, Has T [(0, (eL aX f0)), (3, (eI v3)), (4, (eI gU))] ∧ aL ⟨H0, [], []⟩ H [] ∧ oS f0 v3 gU = some r) ?_ ?_
  · clear hO h0
    rintro T H ⟨v3, gU, hT, hO, h0⟩
    refine aZ hT ?_
    clear hT
    unfold oS at h0
    refine dZ (fun T H => ∃ gU : Int, Has T [(4, (eI gU))] ∧ aL ⟨H0, [], []⟩ H [] ∧ rH gU = some r) ?_ ?_
    · clear hO h0
      rintro T H ⟨gU, hT, hO, h0⟩
      refine aZ hT ?_
      clear hT
      unfold rH at h0
      refine bQ aC 2 [(2, (eI gU))] ?_
      refine bD ?_
      obtain rfl := oI h0
      exact aG (Q_r hO)
    refine aR aC 3 [0] [(24, (eL aX f0)), (25, (eI (lN f0))), (26, (eI (0 : Int)))] ?_
    refine bX 0 ?_
    refine fG [(3, (eI v3)), (4, (eI gU)), (24, (eL aX f0)), (25, (eI (lN f0))), (26, (eI (0 : Int)))] ?_
    refine dS (fun T H => ∃ v3 : Int, ∃ gU : Int, ∃ t24 : (List aM), ∃ t25 : Int, ∃ t26 : Int, Has T [(3, (eI v3)), (4, (eI gU)), (24, (eL aX t24)), (25, (eI t25)), (26, (eI t26))] ∧ aL ⟨H0, [], []⟩ H [] ∧ qZ v3 gU t24 t25 t26 = some r) ?_ ⟨v3, gU, f0, (lN f0), (0 : Int), .eq (by kernel_rfl), hO, h0⟩
    clear hO h0
    rintro T H ⟨v3, gU, t24, t25, t26, hT, hO, h0⟩
    refine aZ hT ?_
    clear hT
    unfold qZ at h0
    obtain ⟨rr0, hl0, h0⟩ := aV h0
    refine cQ (by kernel_rfl) (fun (s : Int × Int × Int) T H => Has T [(3, (eI s.1)), (4, (eI s.2.1)), (24, (eL aX t24)), (25, (eI t25)), (26, (eI s.2.2))] ∧ aL ⟨H0, [], []⟩ H []) hl0 ⟨.eq (by kernel_rfl), hO⟩ ?_
    clear hO
    rintro k0 s out1 T H ⟨hT, hO⟩ h1 ho0
    obtain ⟨v3, gU, t26⟩ := s
    replace h1 : mC t24 t25 v3 gU t26 = some out1 := h1
    try dsimp only at hT
    refine aZ hT ?_
    clear hT
    unfold mC at h1
    refine aR aC 1 [] [(27, (aE (decide (t26 < t25))))] ?_
    refine aN ?_
    refine bE h1 (fun h1 => ?_) (fun h1 => ?_)
    · refine bF ?_
      refine bB [(3, (eI v3)), (4, (eI gU)), (24, (eL aX t24)), (25, (eI t25)), (26, (eI t26))] ?_
      refine aN ?_
      refine bX 1 ?_
      refine aN ?_
      refine aU aC 4 ?_
      obtain ⟨c6, h1⟩ := aS h1
      refine nH 2 [0 ≤ t26 ∧ t26 < (lN t24)] ⟨c6, trivial⟩ ?_
      refine uR 2 (aX (aM.mk 0 0)) (by kernel_rfl) (by kernel_rfl) hO ?_
      intro lo7 H hO
      refine qP 0 lo7 2 0 (aX (aM.mk 0 0)) (aX (gD t24 t26)) [(aX (aM.mk 0 0))] [(lo7, 2, [(aX (gD t24 t26))])] hO rfl (by kernel_rfl) ?_
      intro H hO
      refine iF ?_
      refine bP [] [(6, (.lp lo7 0 0))] ?_
      refine aN ?_
      refine aU aC 5 ?_
      refine bS 2 ?_
      refine qN 0 lo7 2 0 (aX (gD t24 t26)) (eI ((gD t24 t26).Net)) [(aX (gD t24 t26))] hO rfl ?_
      refine bA ?_
      replace hO := hO.pick (L' := []) [] (by decide) (by kernel_rfl)
      refine bP [3, 6] [(3, (eI (wR (v3 + ((gD t24 t26).Net)))))] ?_
      refine aU aC 4 ?_
      refine bA ?_
      refine fX [(3, (eI (wR (v3 + ((gD t24 t26).Net))))), (4, (eI (if (wR (v3 + ((gD t24 t26).Net))) < gU then (wR (v3 + ((gD t24 t26).Net))) else gU))), (24, (eL aX t24)), (25, (eI t25)), (26, (eI t26))] ?_
      refine aG (aW (aF (?_)))
      refine aU aC 2 ?_
      refine bA ?_
      exact aG (aF (⟨rfl, _, (oI h1).symm, .eq (by kernel_rfl), hO⟩))
    refine fB 0 ?_
    obtain rfl := oI h1
    obtain rfl : _ = rr0 := ho0
    replace h0 : rH gU = some r := h0
    exact aG (aT (aT (bO (aF (⟨rfl, _, .eq (by kernel_rfl), hO, h0⟩)))))
  refine aN ?_
  refine aU aC 5 ?_
  obtain ⟨c8, h0⟩ := aS h0
  refine lV [0 ≤ (0 : Int) ∧ (0 : Int) < (lN f0)] ⟨c8, trivial⟩ ?_
  refine bP [] [(19, (aE (decide (((gD f0 (0 : Int)).At) = (-1 : Int)))))] ?_
  refine bE h0 (fun h0 => ?_) (fun h0 => ?_)
  · refine aU aC 5 ?_
    obtain ⟨c10, h0⟩ := aS h0
    refine lV [0 ≤ (0 : Int) ∧ (0 : Int) < (lN f0)] ⟨c10, trivial⟩ ?_
    exact aG (aF (⟨rfl, _, _, .eq (by kernel_rfl), hO, h0⟩))
  refine bF ?_
  exact aG (aF (⟨rfl, _, _, .eq (by kernel_rfl), hO, h0⟩))

theorem IS (f0 : (List aM)) (r : Bool) (h0 : pW f0 = some r) : dB Try.prog 58 [(eL aX f0)] (aE r) := by
  intro H0
  refine cZ Try.func58 ?_
  have hO := aL.start H0
  unfold pW at h0
  refine aR aC 1 [] [] ?_
  refine aN ?_
  refine aU aC 8 ?_
  refine bS 1 ?_
  obtain ⟨x1, hx2, h0⟩ := aV h0
  refine dI (BL f0 _ hx2) hO ?_
  intro H hO
  refine bS 4 ?_
  obtain ⟨x4, hx5, h0⟩ := aV h0
  refine nR [(5, true)] 59 [(eL aX f0)] (eI x4) x1 (by kernel_rfl) (by kernel_rfl) (by kernel_rfl) (fun hb6 => (LP f0 _ (jJ hx5 hb6))) hO ?_
  intro H hO
  refine bA ?_
  refine bB [(2, (aE (x1 && (decide ((0 : Int) ≤ x4)))))] ?_
  refine bD ?_
  obtain rfl := oI h0
  exact aG (Q_r hO)

theorem NJ (l0 : (List aI)) (r : Bool) (h0 : sJ l0 = some r) : dB Try.prog 32 [(eL aH l0)] (aE r) := by
  intro H0
  refine cZ Try.func32 ?_
  have hO := aL.start H0
  unfold sJ at h0
  refine aR aC 1 [] [] ?_
  refine aN ?_
  refine aU aC 3 ?_
  refine bS 1 ?_
  obtain ⟨x1, hx2, h0⟩ := aV h0
  refine dI (EL l0 58 [] [] (fun y0 => pW y0) (fun y0 r h => IS y0 r h) _ hx2) hO ?_
  intro H hO
  refine bA ?_
  refine bB [(2, (aE x1))] ?_
  refine bD ?_
  obtain rfl := oI h0
  exact aG (Q_r hO)

theorem yB (l0 : (List aI)) (n1 : Int) (r : Int) (h0 : nV l0 n1 = some r) : dB Try.prog 46 [(eL aH l0), (eI n1)] (eI r) := by
  intro H0
  refine cZ Try.func46 ?_
  have hO := aL.start H0
  unfold nV at h0
  refine aR aC 1 [] [] ?_
  refine aN ?_
  refine bX 0 ?_
  refine aN ?_
  refine aU aC 12 ?_
  refine bS 1 ?_
  obtain ⟨x1, hx2, h0⟩ := aV h0
  refine dI (RU l0 _ hx2) hO ?_
  intro H hO
  refine bA ?_
  refine bP [1] [(5, (aE (((!x1) || (decide (n1 < (1 : Int)))) || (decide ((64 : Int) < n1)))))] ?_
  refine bE h0 (fun h0 => ?_) (fun h0 => ?_)
  · refine bQ aC 1 [(4, (eI (2 : Int)))] ?_
    refine bD ?_
    obtain rfl := oI h0
    exact aG (bI (aP (Q_r hO)))
  refine aN ?_
  refine aU aC 4 ?_
  refine bS 1 ?_
  obtain ⟨x5, hx6, h0⟩ := aV h0
  refine dI (NJ l0 _ hx6) hO ?_
  intro H hO
  refine bA ?_
  refine bB [(17, (aE (!x5)))] ?_
  refine bE h0 (fun h0 => ?_) (fun h0 => ?_)
  · refine bQ aC 1 [(4, (eI (20 : Int)))] ?_
    refine bD ?_
    obtain rfl := oI h0
    exact aG (bI (aP (Q_r hO)))
  refine bF ?_
  refine fX [] ?_
  refine aG (aW (aF (?_)))
  refine bQ aC 1 [(4, (eI (0 : Int)))] ?_
  refine bD ?_
  obtain rfl := oI h0
  exact aG (Q_r hO)

theorem zZ (l0 : (List aI)) (r : (List aI)) (h0 : nS l0 = some r) : dB Try.prog 68 [(eL aH l0)] (.fn (.func 94) [] [(.rp (eL aH r))]) := by
  intro H0
  refine cZ Try.func68 ?_
  have hO := aL.start H0
  unfold nS at h0
  refine aN ?_
  refine aU aC 2 ?_
  refine pS 1 (eL aH l0) (by kernel_rfl) (by kernel_rfl) ?_
  refine bA ?_
  refine bB [(1, (.rp (eL aH l0)))] ?_
  refine bQ aC 2 [(2, (.fn (.func 94) [] [(.rp (eL aH l0))]))] ?_
  refine bD ?_
  obtain rfl := oI h0
  exact aG (lA (x := (.fn (.func 94) [] [(.rp (eL aH l0))])) (by kernel_rfl) (aO.refl _) ⟨rfl, hO.out⟩)

theorem wQ {σ : Type} (I : σ → Gs → Prop) (yield0_b : Nat) (gQ : σ → aI → Option (σ × Bool)) (yield0_h : ∀ st a0 st2 r, gQ st a0 = some (st2, r) → DU Try.prog (yv yield0_b) I st [(aH a0)] st2 (aE r)) (t1 : (List aI)) (sg0 : σ) (r : σ) (h0 : lJ gQ t1 sg0 = some r) : xG Try.prog 94 I sg0 [(yv yield0_b), (.rp (eL aH t1))] r (.tup []) := by
  intro H0 G0 hI hg
  refine cZ Try.func94 ?_
  obtain ⟨G, hO, hI⟩ : ∃ G, aL ⟨H0, List.map (fun p : Nat × dP => p.1) G0, G⟩ H0 [] ∧ I sg0 G := ⟨G0, aL.GJ hg, hI⟩
  clear hg
  unfold lJ at h0
  refine aR aC 3 [1] [(5, (eL aH t1)), (6, (eI (lN t1))), (7, (eI (0 : Int)))] ?_
  refine bX 0 ?_
  refine fG [(0, (yv yield0_b)), (5, (eL aH t1)), (6, (eI (lN t1))), (7, (eI (0 : Int)))] ?_
  refine dS (fun T H => ∃ sg : σ, ∃ t5 : (List aI), ∃ t6 : Int, ∃ t7 : Int, ∃ G : Gs, Has T [(0, (yv yield0_b)), (5, (eL aH t5)), (6, (eI t6)), (7, (eI t7))] ∧ aL ⟨H0, List.map (fun p : Nat × dP => p.1) G0, G⟩ H [] ∧ I sg G ∧ oH gQ sg t5 t6 t7 = some r) ?_ ⟨sg0, t1, (lN t1), (0 : Int), G, .eq (by kernel_rfl), hO, hI, h0⟩
  clear hO hI h0
  rintro T H ⟨sg, t5, t6, t7, G, hT, hO, hI, h0⟩
  refine aZ hT ?_
  clear hT
  unfold oH at h0
  obtain ⟨rr0, hl0, h0⟩ := aV h0
  refine cQ (by kernel_rfl) (fun (s : σ × Int) T H => ∃ G : Gs, Has T [(0, (yv yield0_b)), (5, (eL aH t5)), (6, (eI t6)), (7, (eI s.2))] ∧ aL ⟨H0, List.map (fun p : Nat × dP => p.1) G0, G⟩ H [] ∧ I s.1 G) hl0 ⟨G, .eq (by kernel_rfl), hO, hI⟩ ?_
  clear hO hI
  rintro k0 s out1 T H ⟨G, hT, hO, hI⟩ h1 ho0
  obtain ⟨sg, t7⟩ := s
  replace h1 : jQ gQ t5 t6 sg t7 = some out1 := h1
  try dsimp only at hT
  refine aZ hT ?_
  clear hT
  unfold jQ at h1
  refine aR aC 1 [] [(8, (aE (decide (t7 < t6))))] ?_
  refine aN ?_
  refine bE h1 (fun h1 => ?_) (fun h1 => ?_)
  · refine bF ?_
    refine bB [(0, (yv yield0_b)), (5, (eL aH t5)), (6, (eI t6)), (7, (eI t7))] ?_
    refine aN ?_
    refine bX 1 ?_
    refine aN ?_
    refine aU aC 4 ?_
    obtain ⟨c2, h1⟩ := aS h1
    refine nH 2 [0 ≤ t7 ∧ t7 < (lN t5)] ⟨c2, trivial⟩ ?_
    refine vT 3 (.agg [(.sl true 0 (fun _ => .bad)), (eI 0), (eI 0)]) (aH (aI.mk ([]) 0 0)) (by kernel_rfl) (by kernel_rfl) (by kernel_rfl) (CV (xs := [(.sl true 0 (fun _ => .bad)), (eI 0), (eI 0)]) (ys := [(eL aD ([])), (eI 0), (eI 0)]) ⟨nQ, aO.refl _, aO.refl _, trivial⟩) (by kernel_rfl) (by kernel_rfl) hO ?_
    intro lo3 H hO
    refine qP 0 lo3 3 0 (aH (aI.mk ([]) 0 0)) (aH (gD t5 t7)) [(aH (aI.mk ([]) 0 0))] [(lo3, 3, [(aH (gD t5 t7))])] hO rfl (by kernel_rfl) ?_
    intro H hO
    refine iF ?_
    refine bP [] [(4, (.lp lo3 0 0))] ?_
    refine aN ?_
    refine aU aC 14 ?_
    refine bS 1 ?_
    refine qN 0 lo3 3 0 (aH (gD t5 t7)) (eI ((gD t5 t7).Net)) [(aH (gD t5 t7))] hO rfl ?_
    refine bS 5 ?_
    refine rU [(14, true)] 0 lo3 3 0 (aH (gD t5 t7)) (eI ((gD t5 t7).At)) [(aH (gD t5 t7))] (by kernel_rfl) (by kernel_rfl) hO (by kernel_rfl) (decide ((0 : Int) < ((gD t5 t7).Net))) (by kernel_rfl) (fun hb4 => rfl) ?_
    refine bS 10 ?_
    refine rU [(19, true)] 0 lo3 3 0 (aH (gD t5 t7)) (aH (gD t5 t7)) [(aH (gD t5 t7))] (by kernel_rfl) (by kernel_rfl) hO (by kernel_rfl) ((decide ((0 : Int) < ((gD t5 t7).Net))) && (decide ((-1 : Int) < ((gD t5 t7).At)))) (by kernel_rfl) (fun hb5 => rfl) ?_
    obtain ⟨⟨x8, x9⟩, hx7, h1⟩ := aV h1
    replace hx7 := YF hx7
    refine VG (I := I) [(19, true)] ((decide ((0 : Int) < ((gD t5 t7).Net))) && (decide ((-1 : Int) < ((gD t5 t7).At)))) (yv yield0_b) [(aH (gD t5 t7))] (aE x9) ⟨fun hb => yield0_h _ (gD t5 t7) x8 x9 (hx7.1 hb), hx7.2⟩ hO hI ?_
    intro G H hO hI
    refine bA ?_
    replace hO := hO.pick (L' := []) [] (by decide) (by kernel_rfl)
    refine bP [4] [(24, (aE (((decide ((0 : Int) < ((gD t5 t7).Net))) && (decide ((-1 : Int) < ((gD t5 t7).At)))) && (!x9))))] ?_
    refine bE h1 (fun h1 => ?_) (fun h1 => ?_)
    · refine bD ?_
      obtain rfl := oI h1
      obtain rfl : _ = rr0 := ho0
      replace h0 : some x8 = some r := h0
      obtain rfl := oI h0
      exact aG (bI (aP (aP (bI (lA (x := (.tup [])) (by kernel_rfl) (aO.refl _) ⟨rfl, G, hI, hO.FV⟩)))))
    refine bF ?_
    refine fX [(0, (yv yield0_b)), (5, (eL aH t5)), (6, (eI t6)), (7, (eI t7))] ?_
    refine aG (aW (aF (?_)))
    refine aU aC 2 ?_
    refine bA ?_
    exact aG (aF (⟨rfl, _, (oI h1).symm, _, .eq (by kernel_rfl), hO, hI⟩))
  refine fB 0 ?_
  obtain rfl := oI h1
  obtain rfl : _ = rr0 := ho0
  replace h0 : some sg = some r := h0
  obtain rfl := oI h0
  exact aG (aT (aT (bO (xL (x := (.tup [])) (by kernel_rfl) (aO.refl _) ⟨rfl, G, hI, hO.FV⟩))))

theorem EH (x0 : Int) (r : Int) (h0 : nI x0 = some r) : dB Try.prog 88 [(cS .u64 x0)] (eI r) := by
  intro H0
  refine cZ Try.func88 ?_
  have hO := aL.start H0
  unfold nI at h0
  refine aR aC 1 [] [(2, (eI (0 : Int)))] ?_
  refine dZ (fun T H => ∃ x0 : Int, ∃ n2 : Int, Has T [(0, (cS .u64 x0)), (2, (eI n2))] ∧ aL ⟨H0, [], []⟩ H [] ∧ kJ x0 n2 = some r) ?_ ?_
  · clear hO h0
    rintro T H ⟨x0, n2, hT, hO, h0⟩
    refine aZ hT ?_
    clear hT
    unfold kJ at h0
    refine dZ (fun T H => ∃ x0 : Int, ∃ n2 : Int, Has T [(0, (cS .u64 x0)), (2, (eI n2))] ∧ aL ⟨H0, [], []⟩ H [] ∧ kI x0 n2 = some r) ?_ ?_
    · clear hO h0
      rintro T H ⟨x0, n2, hT, hO, h0⟩
      refine aZ hT ?_
      clear hT
      unfold kI at h0
      refine dZ (fun T H => ∃ x0 : Int, ∃ n2 : Int, Has T [(0, (cS .u64 x0)), (2, (eI n2))] ∧ aL ⟨H0, [], []⟩ H [] ∧ lI x0 n2 = some r) ?_ ?_
      · clear hO h0
        rintro T H ⟨x0, n2, hT, hO, h0⟩
        refine aZ hT ?_
        clear hT
        unfold lI at h0
        refine aN ?_
        refine aU aC 7 ?_
        obtain ⟨c1, h0⟩ := aS h0
        refine lV [0 ≤ (IntKind.u8.wrap x0) ∧ (IntKind.u8.wrap x0) < ((ByteArray.size (⟨#[0, 1, 2, 2, 3, 3, 3, 3, 4, 4, 4, 4, 4, 4, 4, 4, 5, 5, 5, 5, 5, 5, 5, 5, 5, 5, 5, 5, 5, 5, 5, 5, 6, 6, 6, 6, 6, 6, 6, 6, 6, 6, 6, 6, 6, 6, 6, 6, 6, 6, 6, 6, 6, 6, 6, 6, 6, 6, 6, 6, 6, 6, 6, 6, 7, 7, 7, 7, 7, 7, 7, 7, 7, 7, 7, 7, 7, 7, 7, 7, 7, 7, 7, 7, 7, 7, 7, 7, 7, 7, 7, 7, 7, 7, 7, 7, 7, 7, 7, 7, 7, 7, 7, 7, 7, 7, 7, 7, 7, 7, 7, 7, 7, 7, 7, 7, 7, 7, 7, 7, 7, 7, 7, 7, 7, 7, 7, 7, 8, 8, 8, 8, 8, 8, 8, 8, 8, 8, 8, 8, 8, 8, 8, 8, 8, 8, 8, 8, 8, 8, 8, 8, 8, 8, 8, 8, 8, 8, 8, 8, 8, 8, 8, 8, 8, 8, 8, 8, 8, 8, 8, 8, 8, 8, 8, 8, 8, 8, 8, 8, 8, 8, 8, 8, 8, 8, 8, 8, 8, 8, 8, 8, 8, 8, 8, 8, 8, 8, 8, 8, 8, 8, 8, 8, 8, 8, 8, 8, 8, 8, 8, 8, 8, 8, 8, 8, 8, 8, 8, 8, 8, 8, 8, 8, 8, 8, 8, 8, 8, 8, 8, 8, 8, 8, 8, 8, 8, 8, 8, 8, 8, 8, 8, 8, 8, 8, 8, 8, 8, 8, 8, 8, 8, 8, 8, 8]⟩ : ByteArray) : Nat) : Int)] ⟨c1, trivial⟩ ?_
        refine bB [(2, (eI (wR (n2 + (wR (bt (⟨#[0, 1, 2, 2, 3, 3, 3, 3, 4, 4, 4, 4, 4, 4, 4, 4, 5, 5, 5, 5, 5, 5, 5, 5, 5, 5, 5, 5, 5, 5, 5, 5, 6, 6, 6, 6, 6, 6, 6, 6, 6, 6, 6, 6, 6, 6, 6, 6, 6, 6, 6, 6, 6, 6, 6, 6, 6, 6, 6, 6, 6, 6, 6, 6, 7, 7, 7, 7, 7, 7, 7, 7, 7, 7, 7, 7, 7, 7, 7, 7, 7, 7, 7, 7, 7, 7, 7, 7, 7, 7, 7, 7, 7, 7, 7, 7, 7, 7, 7, 7, 7, 7, 7, 7, 7, 7, 7, 7, 7, 7, 7, 7, 7, 7, 7, 7, 7, 7, 7, 7, 7, 7, 7, 7, 7, 7, 7, 7, 8, 8, 8, 8, 8, 8, 8, 8, 8, 8, 8, 8, 8, 8, 8, 8, 8, 8, 8, 8, 8, 8, 8, 8, 8, 8, 8, 8, 8, 8, 8, 8, 8, 8, 8, 8, 8, 8, 8, 8, 8, 8, 8, 8, 8, 8, 8, 8, 8, 8, 8, 8, 8, 8, 8, 8, 8, 8, 8, 8, 8, 8, 8, 8, 8, 8, 8, 8, 8, 8, 8, 8, 8, 8, 8, 8, 8, 8, 8, 8, 8, 8, 8, 8, 8, 8, 8, 8, 8, 8, 8, 8, 8, 8, 8, 8, 8, 8, 8, 8, 8, 8, 8, 8, 8, 8, 8, 8, 8, 8, 8, 8, 8, 8, 8, 8, 8, 8, 8, 8, 8, 8, 8, 8, 8, 8, 8, 8]⟩ : ByteArray) (IntKind.u8.wrap x0)))))))] ?_
        refine bD ?_
        obtain rfl := oI h0
        exact aG (Q_r hO)
      refine aR aC 2 [] [(14, (aE (decide ((256 : Int) ≤ x0))))] ?_
      refine bE h0 (fun h0 => ?_) (fun h0 => ?_)
      · refine aN ?_
        refine aU aC 3 ?_
        obtain ⟨c3, h0⟩ := aS h0
        refine lV [0 ≤ (8 : Int)] ⟨c3, trivial⟩ ?_
        refine bB [(0, (cS .u64 (Int.fdiv x0 (2 ^ (min (Int.toNat (8 : Int)) 64))))), (2, (eI n2))] ?_
        refine aU aC 3 ?_
        refine bA ?_
        exact aG (aF (⟨rfl, _, _, .eq (by kernel_rfl), hO, h0⟩))
      refine bF ?_
      exact aG (aF (⟨rfl, _, _, .eq (by kernel_rfl), hO, h0⟩))
    refine aR aC 2 [] [(8, (aE (decide ((65536 : Int) ≤ x0))))] ?_
    refine bE h0 (fun h0 => ?_) (fun h0 => ?_)
    · refine aN ?_
      refine aU aC 3 ?_
      obtain ⟨c5, h0⟩ := aS h0
      refine lV [0 ≤ (16 : Int)] ⟨c5, trivial⟩ ?_
      refine bB [(0, (cS .u64 (Int.fdiv x0 (2 ^ (min (Int.toNat (16 : Int)) 64))))), (2, (eI n2))] ?_
      refine aU aC 3 ?_
      refine bA ?_
      exact aG (aF (⟨rfl, _, _, .eq (by kernel_rfl), hO, h0⟩))
    refine bF ?_
    exact aG (aF (⟨rfl, _, _, .eq (by kernel_rfl), hO, h0⟩))
  refine aR aC 2 [] [(4, (aE (decide ((4294967296 : Int) ≤ x0))))] ?_
  refine bE h0 (fun h0 => ?_) (fun h0 => ?_)
  · refine aN ?_
    refine aU aC 3 ?_
    obtain ⟨c7, h0⟩ := aS h0
    refine lV [0 ≤ (32 : Int)] ⟨c7, trivial⟩ ?_
    refine bB [(0, (cS .u64 (Int.fdiv x0 (2 ^ (min (Int.toNat (32 : Int)) 64)))))] ?_
    refine aU aC 1 ?_
    refine bA ?_
    exact aG (aF (⟨rfl, _, _, .eq (by kernel_rfl), hO, h0⟩))
  refine bF ?_
  exact aG (aF (⟨rfl, _, _, .eq (by kernel_rfl), hO, h0⟩))

theorem yR (x0 : Int) (r : Int) (h0 : jT x0 = some r) : dB Try.prog 61 [(cS .u64 x0)] (eI r) := by
  intro H0
  refine cZ Try.func61 ?_
  have hO := aL.start H0
  unfold jT at h0
  refine aR aC 1 [] [] ?_
  refine aN ?_
  refine nG (false) (fun hc1 => ?_) (fun hc1 => ?_)
  · cases hc1
  · refine bF ?_
    refine aG (aF ?_)
    refine aN ?_
    refine aU aC 3 ?_
    refine bS 1 ?_
    obtain ⟨x2, hx3, h0⟩ := aV h0
    refine dI (EH x0 _ hx3) hO ?_
    intro H hO
    refine bA ?_
    refine bB [(2, (eI x2))] ?_
    refine bD ?_
    obtain rfl := oI h0
    exact aG (Q_r hO)

theorem fE (x0 : Int) (y1 : Int) (r : Bool) (h0 : cP x0 y1 = some r) : dB Try.prog 70 [(eI x0), (eI y1)] (aE r) := by
  intro H0
  refine cZ Try.func70 ?_
  have hO := aL.start H0
  unfold cP at h0
  refine aR aC 1 [] [] ?_
  refine aN ?_
  refine aU aC 13 ?_
  refine bS 1 ?_
  obtain ⟨x1, hx2, h0⟩ := aV h0
  refine dI (sD x0 _ hx2) hO ?_
  intro H hO
  refine bS 4 ?_
  obtain ⟨x4, hx5, h0⟩ := aV h0
  refine nR [(7, true)] 95 [(eI y1)] (aE x4) x1 (by kernel_rfl) (by kernel_rfl) (by kernel_rfl) (fun hb6 => (sD y1 _ (jJ hx5 hb6))) hO ?_
  intro H hO
  refine bA ?_
  refine bB [(4, (aE ((x1 && (!x4)) || (decide (x0 < y1)))))] ?_
  refine bD ?_
  obtain rfl := oI h0
  exact aG (Q_r hO)

theorem tY (lo0p : Nat) (aA : (List Int)) (a1 : Int) (b2 : Int) (r : List Int) (h0 : gF aA a1 b2 = some r) : mU Try.prog 79 lo0p 1 (List.map (eI) aA) (List.map (eI) r) [(.msl 1 lo0p 0 (List.length aA)), (eI a1), (eI b2)] (.tup []) := by
  intro H0 hl0
  refine cZ Try.func79 ?_
  have hO := aL.rC hl0
  clear hl0
  obtain ⟨N0, hN0⟩ : ∃ n, n = List.length aA := ⟨_, rfl⟩
  have hN : List.length aA = N0 := hN0.symm
  unfold gF at h0
  refine aR aC 3 [] [(6, (eI (wR (a1 + (1 : Int)))))] ?_
  refine bX 0 ?_
  refine fG [(0, (.msl 1 lo0p 0 (List.length aA))), (1, (eI a1)), (2, (eI b2)), (6, (eI (wR (a1 + (1 : Int)))))] ?_
  refine dS (fun T H => ∃ aA : List Int, ∃ i6 : Int, Has T [(0, (.msl 1 lo0p 0 (List.length aA))), (1, (eI a1)), (2, (eI b2)), (6, (eI i6))] ∧ aL ⟨H0, [lo0p], []⟩ H [(lo0p, 1, List.map (eI) aA)] ∧ List.length aA = N0 ∧ iS aA a1 b2 i6 = some r) ?_ ⟨aA, wR (a1 + (1 : Int)), .eq (by kernel_rfl), hO, hN, h0⟩
  clear hO hN h0
  rintro T H ⟨aA, i6, hT, hO, hN, h0⟩
  refine aZ hT ?_
  clear hT
  unfold iS at h0
  obtain ⟨rr0, hl0, h0⟩ := aV h0
  refine cQ (by kernel_rfl) (fun (s : List Int × Int) T H => Has T [(0, (.msl 1 lo0p 0 (List.length s.1))), (1, (eI a1)), (2, (eI b2)), (6, (eI s.2))] ∧ aL ⟨H0, [lo0p], []⟩ H [(lo0p, 1, List.map (eI) s.1)] ∧ List.length s.1 = N0) hl0 ⟨.eq (by kernel_rfl), hO, hN⟩ ?_
  clear hO hN
  rintro k0 s out1 T H ⟨hT, hO, hN⟩ h1 ho0
  obtain ⟨aA, i6⟩ := s
  replace h1 : dF a1 b2 aA i6 = some out1 := h1
  try dsimp only at hT
  refine aZ hT ?_
  clear hT
  unfold dF at h1
  refine aN ?_
  refine aR aC 3 [] [(12, (aE (decide (i6 < b2))))] ?_
  refine bE h1 (fun h1 => ?_) (fun h1 => ?_)
  · refine bF ?_
    refine bB [(0, (.msl 1 lo0p 0 (List.length aA))), (1, (eI a1)), (2, (eI b2)), (6, (eI i6))] ?_
    refine dZ (fun T H => ∃ aA : List Int, Has T [(0, (.msl 1 lo0p 0 (List.length aA))), (1, (eI a1)), (2, (eI b2)), (6, (eI i6))] ∧ aL ⟨H0, [lo0p], []⟩ H [(lo0p, 1, List.map (eI) aA)] ∧ List.length aA = N0 ∧ fW aA a1 b2 i6 = some out1) ?_ ?_
    · clear hO hN h1
      rintro T H ⟨aA, hT, hO, hN, h1⟩
      refine aZ hT ?_
      clear hT
      unfold fW at h1
      refine aU aC 3 ?_
      refine bA ?_
      exact aG (aF (⟨rfl, _, (oI h1).symm, .eq (by kernel_rfl), hO, hN⟩))
    refine bX 1 ?_
    refine aR aC 2 [] [(7, (eI i6))] ?_
    refine bX 2 ?_
    refine fG [(0, (.msl 1 lo0p 0 (List.length aA))), (1, (eI a1)), (2, (eI b2)), (6, (eI i6)), (7, (eI i6))] ?_
    refine dS (fun T H => ∃ aA : List Int, ∃ j7 : Int, Has T [(0, (.msl 1 lo0p 0 (List.length aA))), (1, (eI a1)), (2, (eI b2)), (6, (eI i6)), (7, (eI j7))] ∧ aL ⟨H0, [lo0p], []⟩ H [(lo0p, 1, List.map (eI) aA)] ∧ List.length aA = N0 ∧ iR aA a1 b2 i6 j7 = some out1) ?_ ⟨aA, i6, .eq (by kernel_rfl), hO, hN, h1⟩
    clear hO hN h1
    rintro T H ⟨aA, j7, hT, hO, hN, h1⟩
    refine aZ hT ?_
    clear hT
    unfold iR at h1
    obtain ⟨rr1, hl1, h1⟩ := aV h1
    refine cQ (by kernel_rfl) (fun (s : List Int × Int) T H => Has T [(0, (.msl 1 lo0p 0 (List.length s.1))), (1, (eI a1)), (2, (eI b2)), (6, (eI i6)), (7, (eI s.2))] ∧ aL ⟨H0, [lo0p], []⟩ H [(lo0p, 1, List.map (eI) s.1)] ∧ List.length s.1 = N0) hl1 ⟨.eq (by kernel_rfl), hO, hN⟩ ?_
    clear hO hN
    rintro k1 s out2 T H ⟨hT, hO, hN⟩ h2 ho1
    obtain ⟨aA, j7⟩ := s
    replace h2 : eR a1 b2 i6 aA j7 = some out2 := h2
    try dsimp only at hT
    refine aZ hT ?_
    clear hT
    unfold eR at h2
    refine aN ?_
    refine aN ?_
    obtain ⟨c2, h2⟩ := aS h2
    obtain ⟨c3, h2⟩ := aS h2
    obtain ⟨x4, hx5, h2⟩ := aV h2
    refine eM (eK []) aC 15 ?_
    refine mW (K := fun T H => Has (lift T) [(0, (.msl 1 lo0p 0 (List.length aA))), (1, (eI a1)), (2, (eI b2)), (6, (eI i6)), (7, (eI j7)), (30, (aE ((decide (a1 < j7)) && x4)))] ∧ aL ⟨H0, [lo0p], []⟩ H [(lo0p, 1, List.map (eI) aA)]) ?_ ?_
    · refine kP 4 ?_
      refine lG (t := 19) (e := decide (a1 < j7)) (by kernel_rfl) (fun hg6 => ?_) (fun hg6 => ?_)
      · refine bZ 7 [0 ≤ j7 ∧ j7 < (lN aA)] ⟨(c2 hg6), trivial⟩ ?_
        refine gZ 0 lo0p 1 (0 + Int.toNat j7) (eI (gD aA j7)) (eI (gD aA j7)) (List.map (eI) aA) (by kernel_rfl) (by kernel_rfl) (by kernel_rfl) hO (by kernel_rfl) (bR (c2 hg6)) ?_
        refine bZ 12 [0 ≤ (wR (j7 - (1 : Int))) ∧ (wR (j7 - (1 : Int))) < (lN aA)] ⟨(c3 hg6), trivial⟩ ?_
        refine gZ 0 lo0p 1 (0 + Int.toNat (wR (j7 - (1 : Int)))) (eI (gD aA (wR (j7 - (1 : Int))))) (eI (gD aA (wR (j7 - (1 : Int))))) (List.map (eI) aA) (by kernel_rfl) (by kernel_rfl) (by kernel_rfl) hO (by kernel_rfl) (bR (c3 hg6)) ?_
        refine mL 70 [(eI (gD aA j7)), (eI (gD aA (wR (j7 - (1 : Int)))))] (aE x4) (by kernel_rfl) (by kernel_rfl) (fE (gD aA j7) (gD aA (wR (j7 - (1 : Int)))) _ (jJ hx5 hg6)) hO ?_
        intro H hO
        refine iH ?_
        exact ⟨⟨[(0, (.msl 1 lo0p 0 (List.length aA))), (1, (eI a1)), (2, (eI b2)), (6, (eI i6)), (7, (eI j7)), (30, (aE x4))], by kernel_rfl, rfl, ⟨aO.refl _, aO.refl _, aO.refl _, aO.refl _, aO.refl _, aO.eq (congrArg aE (jA hg6 rfl).symm), trivial⟩⟩, hO⟩
      refine iH ?_
      exact ⟨⟨[(0, (.msl 1 lo0p 0 (List.length aA))), (1, (eI a1)), (2, (eI b2)), (6, (eI i6)), (7, (eI j7)), (30, (aE false))], by kernel_rfl, rfl, ⟨aO.refl _, aO.refl _, aO.refl _, aO.refl _, aO.refl _, aO.eq (congrArg aE (jA hg6 rfl).symm), trivial⟩⟩, hO⟩
    · rintro T H ⟨hT, hO⟩
      refine dA hT ?_
      clear hT
      refine aG (aF ?_)
      refine bE h2 (fun h2 => ?_) (fun h2 => ?_)
      · refine bF ?_
        refine bB [(0, (.msl 1 lo0p 0 (List.length aA))), (1, (eI a1)), (2, (eI b2)), (6, (eI i6)), (7, (eI j7))] ?_
        refine aN ?_
        refine bX 3 ?_
        refine eM (eK []) aC 18 ?_
        obtain ⟨c8, h2⟩ := aS h2
        refine bZ 9 [0 ≤ (wR (j7 - (1 : Int))) ∧ (wR (j7 - (1 : Int))) < (lN aA)] ⟨c8, trivial⟩ ?_
        refine fL 0 lo0p 1 (0 + Int.toNat (wR (j7 - (1 : Int)))) (eI (gD aA (wR (j7 - (1 : Int))))) (eI (gD aA (wR (j7 - (1 : Int))))) (List.map (eI) aA) hO (bR c8) ?_
        obtain ⟨c9, h2⟩ := aS h2
        refine bZ 13 [0 ≤ j7 ∧ j7 < (lN aA)] ⟨c9, trivial⟩ ?_
        refine fL 0 lo0p 1 (0 + Int.toNat j7) (eI (gD aA j7)) (eI (gD aA j7)) (List.map (eI) aA) hO (bR c9) ?_
        obtain ⟨c10, h2⟩ := aS h2
        refine bZ 15 [0 ≤ j7 ∧ j7 < (lN aA)] ⟨c10, trivial⟩ ?_
        refine kB 0 lo0p 1 (0 + Int.toNat j7) (eI (gD aA j7)) (eI (gD aA (wR (j7 - (1 : Int))))) (List.map (eI) aA) [(lo0p, 1, List.map (eI) (List.set aA (Int.toNat j7) (gD aA (wR (j7 - (1 : Int))))))] hO (bR c10) (by simp only [List.set, gE]) ?_
        intro H hO
        replace hN : List.length (List.set aA (Int.toNat j7) (gD aA (wR (j7 - (1 : Int))))) = N0 := by simpa using hN
        obtain ⟨c11, h2⟩ := aS h2
        refine bZ 17 [0 ≤ (wR (j7 - (1 : Int))) ∧ (wR (j7 - (1 : Int))) < (lN aA)] ⟨c11, trivial⟩ ?_
        refine kB 0 lo0p 1 (0 + Int.toNat (wR (j7 - (1 : Int)))) (eI (gD (List.set aA (Int.toNat j7) (gD aA (wR (j7 - (1 : Int))))) (wR (j7 - (1 : Int))))) (eI (gD aA j7)) (List.map (eI) (List.set aA (Int.toNat j7) (gD aA (wR (j7 - (1 : Int)))))) [(lo0p, 1, List.map (eI) (List.set (List.set aA (Int.toNat j7) (gD aA (wR (j7 - (1 : Int))))) (Int.toNat (wR (j7 - (1 : Int)))) (gD aA j7)))] hO (mK c11 (by simp [])) (by simp only [List.set, gE]) ?_
        intro H hO
        replace hN : List.length (List.set (List.set aA (Int.toNat j7) (gD aA (wR (j7 - (1 : Int))))) (Int.toNat (wR (j7 - (1 : Int)))) (gD aA j7)) = N0 := by simpa using hN
        refine mH (by kernel_rfl) ?_
        refine dA (l := [(0, (.msl 1 lo0p 0 (List.length (List.set (List.set aA (Int.toNat j7) (gD aA (wR (j7 - (1 : Int))))) (Int.toNat (wR (j7 - (1 : Int)))) (gD aA j7))))), (1, (eI a1)), (2, (eI b2)), (6, (eI i6)), (7, (eI j7))]) ⟨[(0, (.msl 1 lo0p 0 (List.length aA))), (1, (eI a1)), (2, (eI b2)), (6, (eI i6)), (7, (eI j7))], by kernel_rfl, rfl, ⟨aO.eq (by simp []), aO.refl _, aO.refl _, aO.refl _, aO.refl _, trivial⟩⟩ ?_
        refine aG (aW (aF (?_)))
        refine aU aC 3 ?_
        refine bA ?_
        exact aG (aF (⟨rfl, _, (oI h2).symm, .eq (by kernel_rfl), hO, hN⟩))
      refine fB 2 ?_
      obtain rfl := oI h2
      obtain rfl : _ = rr1 := ho1
      replace h1 : fW aA a1 b2 i6 = some out1 := h1
      exact aG (aT (aT (bO (aW (aF (⟨rfl, _, .eq (by kernel_rfl), hO, hN, h1⟩))))))
  refine fB 0 ?_
  obtain rfl := oI h1
  obtain rfl : _ = rr0 := ho0
  replace h0 : some aA = some r := h0
  obtain rfl := oI h0
  exact aG (aT (aT (bO (xL (x := (.tup [])) (by kernel_rfl) (aO.refl _) ⟨rfl, hO.ext, hO.at 0 (by kernel_rfl), by first | rfl | (simp only [List.length_map]; exact hN.trans hN0)⟩))))

theorem pY (lo0p : Nat) (aA : (List Int)) (lo1 : Int) (hi2 : Int) (bH : Int) (r : List Int) (h0 : eY aA lo1 hi2 bH = some r) : mU Try.prog 105 lo0p 1 (List.map (eI) aA) (List.map (eI) r) [(.msl 1 lo0p 0 (List.length aA)), (eI lo1), (eI hi2), (eI bH)] (.tup []) := by
  intro H0 hl0
  refine cZ Try.func105 ?_
  have hO := aL.rC hl0
  clear hl0
  obtain ⟨N0, hN0⟩ : ∃ n, n = List.length aA := ⟨_, rfl⟩
  have hN : List.length aA = N0 := hN0.symm
  unfold eY at h0
  refine aR aC 2 [1] [(8, (eI lo1))] ?_
  refine bX 0 ?_
  refine fG [(0, (.msl 1 lo0p 0 (List.length aA))), (2, (eI hi2)), (3, (eI bH)), (8, (eI lo1))] ?_
  refine dS (fun T H => ∃ aA : List Int, ∃ cA : Int, Has T [(0, (.msl 1 lo0p 0 (List.length aA))), (2, (eI hi2)), (3, (eI bH)), (8, (eI cA))] ∧ aL ⟨H0, [lo0p], []⟩ H [(lo0p, 1, List.map (eI) aA)] ∧ List.length aA = N0 ∧ kE aA hi2 bH cA = some r) ?_ ⟨aA, lo1, .eq (by kernel_rfl), hO, hN, h0⟩
  clear hO hN h0
  rintro T H ⟨aA, cA, hT, hO, hN, h0⟩
  refine aZ hT ?_
  clear hT
  unfold kE at h0
  obtain ⟨rr0, hl0, h0⟩ := aV h0
  refine cQ (by kernel_rfl) (fun (s : List Int × Int) T H => Has T [(0, (.msl 1 lo0p 0 (List.length s.1))), (2, (eI hi2)), (3, (eI bH)), (8, (eI s.2))] ∧ aL ⟨H0, [lo0p], []⟩ H [(lo0p, 1, List.map (eI) s.1)] ∧ List.length s.1 = N0) hl0 ⟨.eq (by kernel_rfl), hO, hN⟩ ?_
  clear hO hN
  rintro k0 s out1 T H ⟨hT, hO, hN⟩ h1 ho0
  obtain ⟨aA, cA⟩ := s
  replace h1 : cY hi2 bH aA cA = some out1 := h1
  try dsimp only at hT
  refine aZ hT ?_
  clear hT
  unfold cY at h1
  refine bX 1 ?_
  refine aR aC 4 [] [(9, (eI (wR ((wR ((2 : Int) * cA)) + (1 : Int)))))] ?_
  refine aN ?_
  refine aR aC 3 [] [(16, (aE (decide (hi2 ≤ (wR ((wR ((2 : Int) * cA)) + (1 : Int)))))))] ?_
  refine bE h1 (fun h1 => ?_) (fun h1 => ?_)
  · refine fB 0 ?_
    obtain rfl := oI h1
    obtain rfl : _ = rr0 := ho0
    replace h0 : some aA = some r := h0
    obtain rfl := oI h0
    exact aG (aT (uA (by kernel_rfl) (aT (bO (xL (x := (.tup [])) (by kernel_rfl) (aO.refl _) ⟨rfl, hO.ext, hO.at 0 (by kernel_rfl), by first | rfl | (simp only [List.length_map]; exact hN.trans hN0)⟩)))))
  refine bF ?_
  refine bB [(0, (.msl 1 lo0p 0 (List.length aA))), (2, (eI hi2)), (3, (eI bH)), (8, (eI cA)), (9, (eI (wR ((wR ((2 : Int) * cA)) + (1 : Int)))))] ?_
  refine dZ (fun T H => ∃ aA : List Int, ∃ dV : Int, Has T [(0, (.msl 1 lo0p 0 (List.length aA))), (2, (eI hi2)), (3, (eI bH)), (8, (eI cA)), (9, (eI dV))] ∧ aL ⟨H0, [lo0p], []⟩ H [(lo0p, 1, List.map (eI) aA)] ∧ List.length aA = N0 ∧ fY aA hi2 bH cA dV = some out1) ?_ ?_
  · clear hO hN h1
    rintro T H ⟨aA, dV, hT, hO, hN, h1⟩
    refine aZ hT ?_
    clear hT
    unfold fY at h1
    refine aN ?_
    refine aN ?_
    refine eM (eK [51]) aC 14 ?_
    obtain ⟨c2, h1⟩ := aS h1
    refine bZ 5 [0 ≤ (wR (bH + cA)) ∧ (wR (bH + cA)) < (lN aA)] ⟨c2, trivial⟩ ?_
    refine fL 0 lo0p 1 (0 + Int.toNat (wR (bH + cA))) (eI (gD aA (wR (bH + cA)))) (eI (gD aA (wR (bH + cA)))) (List.map (eI) aA) hO (bR c2) ?_
    obtain ⟨c3, h1⟩ := aS h1
    refine bZ 11 [0 ≤ (wR (bH + dV)) ∧ (wR (bH + dV)) < (lN aA)] ⟨c3, trivial⟩ ?_
    refine fL 0 lo0p 1 (0 + Int.toNat (wR (bH + dV))) (eI (gD aA (wR (bH + dV)))) (eI (gD aA (wR (bH + dV)))) (List.map (eI) aA) hO (bR c3) ?_
    obtain ⟨x4, hx5, h1⟩ := aV h1
    refine BV (fE (gD aA (wR (bH + cA))) (gD aA (wR (bH + dV))) _ hx5) hO ?_
    intro H hO
    refine iH ?_
    refine bP [] [(52, (aE (!x4)))] ?_
    refine bE h1 (fun h1 => ?_) (fun h1 => ?_)
    · refine bD ?_
      obtain rfl := oI h1
      obtain rfl : _ = rr0 := ho0
      replace h0 : some aA = some r := h0
      obtain rfl := oI h0
      exact aG (aP (bI (aP (bI (lA (x := (.tup [])) (by kernel_rfl) (aO.refl _) ⟨rfl, hO.ext, hO.at 0 (by kernel_rfl), by first | rfl | (simp only [List.length_map]; exact hN.trans hN0)⟩)))))
    refine bF ?_
    refine bB [(0, (.msl 1 lo0p 0 (List.length aA))), (2, (eI hi2)), (3, (eI bH)), (8, (eI cA)), (9, (eI dV))] ?_
    refine aN ?_
    refine eM (eK []) aC 24 ?_
    obtain ⟨c8, h1⟩ := aS h1
    refine bZ 13 [0 ≤ (wR (bH + dV)) ∧ (wR (bH + dV)) < (lN aA)] ⟨c8, trivial⟩ ?_
    refine fL 0 lo0p 1 (0 + Int.toNat (wR (bH + dV))) (eI (gD aA (wR (bH + dV)))) (eI (gD aA (wR (bH + dV)))) (List.map (eI) aA) hO (bR c8) ?_
    obtain ⟨c9, h1⟩ := aS h1
    refine bZ 19 [0 ≤ (wR (bH + cA)) ∧ (wR (bH + cA)) < (lN aA)] ⟨c9, trivial⟩ ?_
    refine fL 0 lo0p 1 (0 + Int.toNat (wR (bH + cA))) (eI (gD aA (wR (bH + cA)))) (eI (gD aA (wR (bH + cA)))) (List.map (eI) aA) hO (bR c9) ?_
    obtain ⟨c10, h1⟩ := aS h1
    refine bZ 21 [0 ≤ (wR (bH + cA)) ∧ (wR (bH + cA)) < (lN aA)] ⟨c10, trivial⟩ ?_
    refine kB 0 lo0p 1 (0 + Int.toNat (wR (bH + cA))) (eI (gD aA (wR (bH + cA)))) (eI (gD aA (wR (bH + dV)))) (List.map (eI) aA) [(lo0p, 1, List.map (eI) (List.set aA (Int.toNat (wR (bH + cA))) (gD aA (wR (bH + dV)))))] hO (bR c10) (by simp only [List.set, gE]) ?_
    intro H hO
    replace hN : List.length (List.set aA (Int.toNat (wR (bH + cA))) (gD aA (wR (bH + dV)))) = N0 := by simpa using hN
    obtain ⟨c11, h1⟩ := aS h1
    refine bZ 23 [0 ≤ (wR (bH + dV)) ∧ (wR (bH + dV)) < (lN aA)] ⟨c11, trivial⟩ ?_
    refine kB 0 lo0p 1 (0 + Int.toNat (wR (bH + dV))) (eI (gD (List.set aA (Int.toNat (wR (bH + cA))) (gD aA (wR (bH + dV)))) (wR (bH + dV)))) (eI (gD aA (wR (bH + cA)))) (List.map (eI) (List.set aA (Int.toNat (wR (bH + cA))) (gD aA (wR (bH + dV))))) [(lo0p, 1, List.map (eI) (List.set (List.set aA (Int.toNat (wR (bH + cA))) (gD aA (wR (bH + dV)))) (Int.toNat (wR (bH + dV))) (gD aA (wR (bH + cA)))))] hO (mK c11 (by simp [])) (by simp only [List.set, gE]) ?_
    intro H hO
    replace hN : List.length (List.set (List.set aA (Int.toNat (wR (bH + cA))) (gD aA (wR (bH + dV)))) (Int.toNat (wR (bH + dV))) (gD aA (wR (bH + cA)))) = N0 := by simpa using hN
    refine mH (by kernel_rfl) ?_
    refine dA (l := [(0, (.msl 1 lo0p 0 (List.length (List.set (List.set aA (Int.toNat (wR (bH + cA))) (gD aA (wR (bH + dV)))) (Int.toNat (wR (bH + dV))) (gD aA (wR (bH + cA))))))), (2, (eI hi2)), (3, (eI bH)), (9, (eI dV))]) ⟨[(0, (.msl 1 lo0p 0 (List.length aA))), (2, (eI hi2)), (3, (eI bH)), (9, (eI dV))], by kernel_rfl, rfl, ⟨aO.eq (by simp []), aO.refl _, aO.refl _, aO.refl _, trivial⟩⟩ ?_
    refine aG (aF (?_))
    refine aU aC 2 ?_
    refine bA ?_
    exact aG (aW (aF (⟨rfl, _, (oI h1).symm, .eq (by kernel_rfl), hO, hN⟩)))
  refine aN ?_
  obtain ⟨c12, h1⟩ := aS h1
  obtain ⟨c13, h1⟩ := aS h1
  obtain ⟨x14, hx15, h1⟩ := aV h1
  refine eM (eK []) aC 20 ?_
  refine mW (K := fun T H => Has (lift T) [(0, (.msl 1 lo0p 0 (List.length aA))), (2, (eI hi2)), (3, (eI bH)), (8, (eI cA)), (9, (eI (wR ((wR ((2 : Int) * cA)) + (1 : Int))))), (36, (aE ((decide ((wR ((wR ((wR ((2 : Int) * cA)) + (1 : Int))) + (1 : Int))) < hi2)) && x14)))] ∧ aL ⟨H0, [lo0p], []⟩ H [(lo0p, 1, List.map (eI) aA)]) ?_ ?_
  · refine kP 5 ?_
    refine lG (t := 21) (e := decide ((wR ((wR ((wR ((2 : Int) * cA)) + (1 : Int))) + (1 : Int))) < hi2)) (by kernel_rfl) (fun hg16 => ?_) (fun hg16 => ?_)
    · refine bZ 10 [0 ≤ (wR (bH + (wR ((wR ((2 : Int) * cA)) + (1 : Int))))) ∧ (wR (bH + (wR ((wR ((2 : Int) * cA)) + (1 : Int))))) < (lN aA)] ⟨(c12 hg16), trivial⟩ ?_
      refine gZ 0 lo0p 1 (0 + Int.toNat (wR (bH + (wR ((wR ((2 : Int) * cA)) + (1 : Int)))))) (eI (gD aA (wR (bH + (wR ((wR ((2 : Int) * cA)) + (1 : Int))))))) (eI (gD aA (wR (bH + (wR ((wR ((2 : Int) * cA)) + (1 : Int))))))) (List.map (eI) aA) (by kernel_rfl) (by kernel_rfl) (by kernel_rfl) hO (by kernel_rfl) (bR (c12 hg16)) ?_
      refine bZ 17 [0 ≤ (wR ((wR (bH + (wR ((wR ((2 : Int) * cA)) + (1 : Int))))) + (1 : Int))) ∧ (wR ((wR (bH + (wR ((wR ((2 : Int) * cA)) + (1 : Int))))) + (1 : Int))) < (lN aA)] ⟨(c13 hg16), trivial⟩ ?_
      refine gZ 0 lo0p 1 (0 + Int.toNat (wR ((wR (bH + (wR ((wR ((2 : Int) * cA)) + (1 : Int))))) + (1 : Int)))) (eI (gD aA (wR ((wR (bH + (wR ((wR ((2 : Int) * cA)) + (1 : Int))))) + (1 : Int))))) (eI (gD aA (wR ((wR (bH + (wR ((wR ((2 : Int) * cA)) + (1 : Int))))) + (1 : Int))))) (List.map (eI) aA) (by kernel_rfl) (by kernel_rfl) (by kernel_rfl) hO (by kernel_rfl) (bR (c13 hg16)) ?_
      refine mL 70 [(eI (gD aA (wR (bH + (wR ((wR ((2 : Int) * cA)) + (1 : Int))))))), (eI (gD aA (wR ((wR (bH + (wR ((wR ((2 : Int) * cA)) + (1 : Int))))) + (1 : Int)))))] (aE x14) (by kernel_rfl) (by kernel_rfl) (fE (gD aA (wR (bH + (wR ((wR ((2 : Int) * cA)) + (1 : Int)))))) (gD aA (wR ((wR (bH + (wR ((wR ((2 : Int) * cA)) + (1 : Int))))) + (1 : Int)))) _ (jJ hx15 hg16)) hO ?_
      intro H hO
      refine iH ?_
      exact ⟨⟨[(0, (.msl 1 lo0p 0 (List.length aA))), (2, (eI hi2)), (3, (eI bH)), (8, (eI cA)), (9, (eI (wR ((wR ((2 : Int) * cA)) + (1 : Int))))), (36, (aE x14))], by kernel_rfl, rfl, ⟨aO.refl _, aO.refl _, aO.refl _, aO.refl _, aO.refl _, aO.eq (congrArg aE (jA hg16 rfl).symm), trivial⟩⟩, hO⟩
    refine iH ?_
    exact ⟨⟨[(0, (.msl 1 lo0p 0 (List.length aA))), (2, (eI hi2)), (3, (eI bH)), (8, (eI cA)), (9, (eI (wR ((wR ((2 : Int) * cA)) + (1 : Int))))), (36, (aE false))], by kernel_rfl, rfl, ⟨aO.refl _, aO.refl _, aO.refl _, aO.refl _, aO.refl _, aO.eq (congrArg aE (jA hg16 rfl).symm), trivial⟩⟩, hO⟩
  · rintro T H ⟨hT, hO⟩
    refine dA hT ?_
    clear hT
    refine aG (aF ?_)
    refine bE h1 (fun h1 => ?_) (fun h1 => ?_)
    · refine aU aC 3 ?_
      refine bA ?_
      exact aG (aF (⟨rfl, _, _, .eq (by kernel_rfl), hO, hN, h1⟩))
    refine bF ?_
    exact aG (aF (⟨rfl, _, _, .eq (by kernel_rfl), hO, hN, h1⟩))

theorem wD (lo0p : Nat) (aA : (List Int)) (a1 : Int) (b2 : Int) (r : List Int) (h0 : iW aA a1 b2 = some r) : mU Try.prog 80 lo0p 1 (List.map (eI) aA) (List.map (eI) r) [(.msl 1 lo0p 0 (List.length aA)), (eI a1), (eI b2)] (.tup []) := by
  intro H0 hl0
  refine cZ Try.func80 ?_
  have hO := aL.rC hl0
  clear hl0
  obtain ⟨N0, hN0⟩ : ∃ n, n = List.length aA := ⟨_, rfl⟩
  have hN : List.length aA = N0 := hN0.symm
  unfold iW at h0
  refine aR aC 2 [] [(6, (eI a1))] ?_
  refine aR aC 1 [] [(7, (eI (0 : Int)))] ?_
  refine aR aC 4 [1, 2] [(8, (eI (wR (b2 - a1))))] ?_
  refine dZ (fun T H => ∃ aA : List Int, ∃ bN : Int, ∃ lo7 : Int, ∃ hi8 : Int, Has T [(0, (.msl 1 lo0p 0 (List.length aA))), (6, (eI bN)), (7, (eI lo7)), (8, (eI hi8))] ∧ aL ⟨H0, [lo0p], []⟩ H [(lo0p, 1, List.map (eI) aA)] ∧ List.length aA = N0 ∧ iQ aA bN lo7 hi8 = some r) ?_ ?_
  · clear hO hN h0
    rintro T H ⟨aA, bN, lo7, hi8, hT, hO, hN, h0⟩
    refine aZ hT ?_
    clear hT
    unfold iQ at h0
    refine aR aC 3 [8] [(10, (eI (wR (hi8 - (1 : Int)))))] ?_
    refine bX 2 ?_
    refine fG [(0, (.msl 1 lo0p 0 (List.length aA))), (6, (eI bN)), (7, (eI lo7)), (10, (eI (wR (hi8 - (1 : Int)))))] ?_
    refine dS (fun T H => ∃ aA : List Int, ∃ i10 : Int, Has T [(0, (.msl 1 lo0p 0 (List.length aA))), (6, (eI bN)), (7, (eI lo7)), (10, (eI i10))] ∧ aL ⟨H0, [lo0p], []⟩ H [(lo0p, 1, List.map (eI) aA)] ∧ List.length aA = N0 ∧ kG aA bN lo7 i10 = some r) ?_ ⟨aA, wR (hi8 - (1 : Int)), .eq (by kernel_rfl), hO, hN, h0⟩
    clear hO hN h0
    rintro T H ⟨aA, i10, hT, hO, hN, h0⟩
    refine aZ hT ?_
    clear hT
    unfold kG at h0
    obtain ⟨rr0, hl0, h0⟩ := aV h0
    refine cQ (by kernel_rfl) (fun (s : List Int × Int) T H => Has T [(0, (.msl 1 lo0p 0 (List.length s.1))), (6, (eI bN)), (7, (eI lo7)), (10, (eI s.2))] ∧ aL ⟨H0, [lo0p], []⟩ H [(lo0p, 1, List.map (eI) s.1)] ∧ List.length s.1 = N0) hl0 ⟨.eq (by kernel_rfl), hO, hN⟩ ?_
    clear hO hN
    rintro k0 s out1 T H ⟨hT, hO, hN⟩ h1 ho0
    obtain ⟨aA, i10⟩ := s
    replace h1 : dW bN lo7 aA i10 = some out1 := h1
    try dsimp only at hT
    refine aZ hT ?_
    clear hT
    unfold dW at h1
    refine aN ?_
    refine aR aC 2 [] [(30, (aE (decide ((0 : Int) ≤ i10))))] ?_
    refine bE h1 (fun h1 => ?_) (fun h1 => ?_)
    · refine bF ?_
      refine bB [(0, (.msl 1 lo0p 0 (List.length aA))), (6, (eI bN)), (7, (eI lo7)), (10, (eI i10))] ?_
      refine aN ?_
      refine bX 3 ?_
      refine aN ?_
      refine eM (eK []) aC 20 ?_
      obtain ⟨c2, h1⟩ := aS h1
      refine bZ 11 [0 ≤ (wR (bN + i10)) ∧ (wR (bN + i10)) < (lN aA)] ⟨c2, trivial⟩ ?_
      refine fL 0 lo0p 1 (0 + Int.toNat (wR (bN + i10))) (eI (gD aA (wR (bN + i10)))) (eI (gD aA (wR (bN + i10)))) (List.map (eI) aA) hO (bR c2) ?_
      obtain ⟨c3, h1⟩ := aS h1
      refine bZ 15 [0 ≤ bN ∧ bN < (lN aA)] ⟨c3, trivial⟩ ?_
      refine fL 0 lo0p 1 (0 + Int.toNat bN) (eI (gD aA bN)) (eI (gD aA bN)) (List.map (eI) aA) hO (bR c3) ?_
      obtain ⟨c4, h1⟩ := aS h1
      refine bZ 17 [0 ≤ bN ∧ bN < (lN aA)] ⟨c4, trivial⟩ ?_
      refine kB 0 lo0p 1 (0 + Int.toNat bN) (eI (gD aA bN)) (eI (gD aA (wR (bN + i10)))) (List.map (eI) aA) [(lo0p, 1, List.map (eI) (List.set aA (Int.toNat bN) (gD aA (wR (bN + i10)))))] hO (bR c4) (by simp only [List.set, gE]) ?_
      intro H hO
      replace hN : List.length (List.set aA (Int.toNat bN) (gD aA (wR (bN + i10)))) = N0 := by simpa using hN
      obtain ⟨c5, h1⟩ := aS h1
      refine bZ 19 [0 ≤ (wR (bN + i10)) ∧ (wR (bN + i10)) < (lN aA)] ⟨c5, trivial⟩ ?_
      refine kB 0 lo0p 1 (0 + Int.toNat (wR (bN + i10))) (eI (gD (List.set aA (Int.toNat bN) (gD aA (wR (bN + i10)))) (wR (bN + i10)))) (eI (gD aA bN)) (List.map (eI) (List.set aA (Int.toNat bN) (gD aA (wR (bN + i10))))) [(lo0p, 1, List.map (eI) (List.set (List.set aA (Int.toNat bN) (gD aA (wR (bN + i10)))) (Int.toNat (wR (bN + i10))) (gD aA bN)))] hO (mK c5 (by simp [])) (by simp only [List.set, gE]) ?_
      intro H hO
      replace hN : List.length (List.set (List.set aA (Int.toNat bN) (gD aA (wR (bN + i10)))) (Int.toNat (wR (bN + i10))) (gD aA bN)) = N0 := by simpa using hN
      refine mH (by kernel_rfl) ?_
      refine dA (l := [(0, (.msl 1 lo0p 0 (List.length (List.set (List.set aA (Int.toNat bN) (gD aA (wR (bN + i10)))) (Int.toNat (wR (bN + i10))) (gD aA bN))))), (6, (eI bN)), (7, (eI lo7)), (10, (eI i10))]) ⟨[(0, (.msl 1 lo0p 0 (List.length aA))), (6, (eI bN)), (7, (eI lo7)), (10, (eI i10))], by kernel_rfl, rfl, ⟨aO.eq (by simp []), aO.refl _, aO.refl _, aO.refl _, trivial⟩⟩ ?_
      refine aG (aF (?_))
      refine aU aC 5 ?_
      refine bS 4 ?_
      obtain ⟨x6, hx7, h1⟩ := aV h1
      refine wA [(lo0p, 1, List.map (eI) x6)] 0 (pY lo0p (List.set (List.set aA (Int.toNat bN) (gD aA (wR (bN + i10)))) (Int.toNat (wR (bN + i10))) (gD aA bN)) lo7 i10 bN _ hx7) hO ?_
      intro H hO hl8
      simp only [List.length_map] at hl8
      replace hN := hl8.trans hN
      refine iF ?_
      refine dA (l := [(0, (.msl 1 lo0p 0 (List.length x6))), (6, (eI bN)), (7, (eI lo7)), (10, (eI i10))]) ⟨[(0, (.msl 1 lo0p 0 (List.length (List.set (List.set aA (Int.toNat bN) (gD aA (wR (bN + i10)))) (Int.toNat (wR (bN + i10))) (gD aA bN))))), (6, (eI bN)), (7, (eI lo7)), (10, (eI i10))], by kernel_rfl, rfl, ⟨aO.eq (by simp [hl8]), aO.refl _, aO.refl _, aO.refl _, trivial⟩⟩ ?_
      refine aG (aW (aF (?_)))
      refine aU aC 3 ?_
      refine bA ?_
      exact aG (aF (⟨rfl, _, (oI h1).symm, .eq (by kernel_rfl), hO, hN⟩))
    refine fB 2 ?_
    obtain rfl := oI h1
    obtain rfl : _ = rr0 := ho0
    replace h0 : some aA = some r := h0
    obtain rfl := oI h0
    exact aG (aT (aT (bO (xL (x := (.tup [])) (by kernel_rfl) (aO.refl _) ⟨rfl, hO.ext, hO.at 0 (by kernel_rfl), by first | rfl | (simp only [List.length_map]; exact hN.trans hN0)⟩))))
  refine aN ?_
  refine aU aC 4 ?_
  obtain ⟨c9, h0⟩ := aS h0
  refine lV [(2 : Int) ≠ 0] ⟨c9, trivial⟩ ?_
  refine bP [] [(9, (eI (wR (Int.tdiv (wR ((wR (b2 - a1)) - (1 : Int))) (2 : Int)))))] ?_
  refine bX 0 ?_
  refine fG [(0, (.msl 1 lo0p 0 (List.length aA))), (6, (eI a1)), (7, (eI (0 : Int))), (8, (eI (wR (b2 - a1)))), (9, (eI (wR (Int.tdiv (wR ((wR (b2 - a1)) - (1 : Int))) (2 : Int)))))] ?_
  refine dS (fun T H => ∃ aA : List Int, ∃ bN : Int, ∃ lo7 : Int, ∃ hi8 : Int, ∃ i9 : Int, Has T [(0, (.msl 1 lo0p 0 (List.length aA))), (6, (eI bN)), (7, (eI lo7)), (8, (eI hi8)), (9, (eI i9))] ∧ aL ⟨H0, [lo0p], []⟩ H [(lo0p, 1, List.map (eI) aA)] ∧ List.length aA = N0 ∧ kH aA bN lo7 hi8 i9 = some r) ?_ ⟨aA, a1, (0 : Int), wR (b2 - a1), wR (Int.tdiv (wR ((wR (b2 - a1)) - (1 : Int))) (2 : Int)), .eq (by kernel_rfl), hO, hN, h0⟩
  clear hO hN h0
  rintro T H ⟨aA, bN, lo7, hi8, i9, hT, hO, hN, h0⟩
  refine aZ hT ?_
  clear hT
  unfold kH at h0
  obtain ⟨rr0, hl0, h0⟩ := aV h0
  refine cQ (by kernel_rfl) (fun (s : List Int × Int) T H => Has T [(0, (.msl 1 lo0p 0 (List.length s.1))), (6, (eI bN)), (7, (eI lo7)), (8, (eI hi8)), (9, (eI s.2))] ∧ aL ⟨H0, [lo0p], []⟩ H [(lo0p, 1, List.map (eI) s.1)] ∧ List.length s.1 = N0) hl0 ⟨.eq (by kernel_rfl), hO, hN⟩ ?_
  clear hO hN
  rintro k0 s out1 T H ⟨hT, hO, hN⟩ h1 ho0
  obtain ⟨aA, i9⟩ := s
  replace h1 : dX bN lo7 hi8 aA i9 = some out1 := h1
  try dsimp only at hT
  refine aZ hT ?_
  clear hT
  unfold dX at h1
  refine aN ?_
  refine aR aC 2 [] [(19, (aE (decide ((0 : Int) ≤ i9))))] ?_
  refine bE h1 (fun h1 => ?_) (fun h1 => ?_)
  · refine bF ?_
    refine bB [(0, (.msl 1 lo0p 0 (List.length aA))), (6, (eI bN)), (7, (eI lo7)), (8, (eI hi8)), (9, (eI i9))] ?_
    refine aN ?_
    refine bX 1 ?_
    refine aU aC 5 ?_
    refine bS 4 ?_
    obtain ⟨x11, hx12, h1⟩ := aV h1
    refine wA [(lo0p, 1, List.map (eI) x11)] 0 (pY lo0p aA i9 hi8 bN _ hx12) hO ?_
    intro H hO hl13
    simp only [List.length_map] at hl13
    replace hN := hl13.trans hN
    refine iF ?_
    refine dA (l := [(0, (.msl 1 lo0p 0 (List.length x11))), (6, (eI bN)), (7, (eI lo7)), (8, (eI hi8)), (9, (eI i9))]) ⟨[(0, (.msl 1 lo0p 0 (List.length aA))), (6, (eI bN)), (7, (eI lo7)), (8, (eI hi8)), (9, (eI i9))], by kernel_rfl, rfl, ⟨aO.eq (by simp [hl13]), aO.refl _, aO.refl _, aO.refl _, aO.refl _, trivial⟩⟩ ?_
    refine aG (aW (aF (?_)))
    refine aU aC 3 ?_
    refine bA ?_
    exact aG (aF (⟨rfl, _, (oI h1).symm, .eq (by kernel_rfl), hO, hN⟩))
  refine fB 0 ?_
  obtain rfl := oI h1
  obtain rfl : _ = rr0 := ho0
  replace h0 : iQ aA bN lo7 hi8 = some r := h0
  exact aG (aT (aT (bO (aF (⟨rfl, _, _, _, _, .eq (by kernel_rfl), hO, hN, h0⟩)))))

theorem yN (zU : Int) (r : Int) (h0 : kO zU = some r) : dB Try.prog 106 [(eI zU)] (cS .u64 r) := by
  intro H0
  refine cZ Try.func106 ?_
  have hO := aL.start H0
  unfold kO at h0
  refine aR aC 1 [] [] ?_
  refine aN ?_
  refine aU aC 5 ?_
  refine bS 2 ?_
  obtain ⟨x1, hx2, h0⟩ := aV h0
  refine dI (yR (IntKind.u64.wrap zU) _ hx2) hO ?_
  intro H hO
  obtain ⟨c4, h0⟩ := aS h0
  refine lV [0 ≤ x1] ⟨c4, trivial⟩ ?_
  refine bB [(2, (cS .u64 (IntKind.u64.wrap ((1 : Int) * 2 ^ (min (Int.toNat x1) 64)))))] ?_
  refine bD ?_
  obtain rfl := oI h0
  exact aG (Q_r hO)

theorem zG (lo0p : Nat) (r0 : Int) (r : (Int × Int)) (h0 : kV r0 = some r) : xI Try.prog 107 [(.lp lo0p 0 0)] [(lo0p, 1, [(cS .u64 r0)])] (fun x L => x = (cS .u64 r.1) ∧ L = [(lo0p, 1, [(cS .u64 r.2)])]) := by
  intro F H0 hO
  obtain ⟨Fh, Fe, Fg⟩ := F
  refine cZ Try.func107 ?_
  unfold kV at h0
  refine aR aC 1 [] [] ?_
  refine aN ?_
  refine eM (eK []) aC 10 ?_
  refine kP 2 ?_
  refine fL 0 lo0p 1 0 (cS .u64 r0) (cS .u64 r0) [(cS .u64 r0)] hO rfl ?_
  refine kP 5 ?_
  refine fL 0 lo0p 1 0 (cS .u64 r0) (cS .u64 r0) [(cS .u64 r0)] hO rfl ?_
  obtain ⟨c1, h0⟩ := aS h0
  refine bZ 9 [0 ≤ (13 : Int)] ⟨c1, trivial⟩ ?_
  refine kB 0 lo0p 1 0 (cS .u64 r0) (cS .u64 (bM .xor .u64 r0 (IntKind.u64.wrap (r0 * 2 ^ (min (Int.toNat (13 : Int)) 64))))) [(cS .u64 r0)] [(lo0p, 1, [(cS .u64 (bM .xor .u64 r0 (IntKind.u64.wrap (r0 * 2 ^ (min (Int.toNat (13 : Int)) 64)))))])] hO rfl (by kernel_rfl) ?_
  intro H hO
  refine mH (by kernel_rfl) ?_
  refine bP [] [] ?_
  refine aN ?_
  refine eM (eK []) aC 10 ?_
  refine kP 2 ?_
  refine fL 0 lo0p 1 0 (cS .u64 (bM .xor .u64 r0 (IntKind.u64.wrap (r0 * 2 ^ (min (Int.toNat (13 : Int)) 64))))) (cS .u64 (bM .xor .u64 r0 (IntKind.u64.wrap (r0 * 2 ^ (min (Int.toNat (13 : Int)) 64))))) [(cS .u64 (bM .xor .u64 r0 (IntKind.u64.wrap (r0 * 2 ^ (min (Int.toNat (13 : Int)) 64)))))] hO rfl ?_
  refine kP 5 ?_
  refine fL 0 lo0p 1 0 (cS .u64 (bM .xor .u64 r0 (IntKind.u64.wrap (r0 * 2 ^ (min (Int.toNat (13 : Int)) 64))))) (cS .u64 (bM .xor .u64 r0 (IntKind.u64.wrap (r0 * 2 ^ (min (Int.toNat (13 : Int)) 64))))) [(cS .u64 (bM .xor .u64 r0 (IntKind.u64.wrap (r0 * 2 ^ (min (Int.toNat (13 : Int)) 64)))))] hO rfl ?_
  obtain ⟨c2, h0⟩ := aS h0
  refine bZ 9 [0 ≤ (7 : Int)] ⟨c2, trivial⟩ ?_
  refine kB 0 lo0p 1 0 (cS .u64 (bM .xor .u64 r0 (IntKind.u64.wrap (r0 * 2 ^ (min (Int.toNat (13 : Int)) 64))))) (cS .u64 (bM .xor .u64 (bM .xor .u64 r0 (IntKind.u64.wrap (r0 * 2 ^ (min (Int.toNat (13 : Int)) 64)))) (Int.fdiv (bM .xor .u64 r0 (IntKind.u64.wrap (r0 * 2 ^ (min (Int.toNat (13 : Int)) 64)))) (2 ^ (min (Int.toNat (7 : Int)) 64))))) [(cS .u64 (bM .xor .u64 r0 (IntKind.u64.wrap (r0 * 2 ^ (min (Int.toNat (13 : Int)) 64)))))] [(lo0p, 1, [(cS .u64 (bM .xor .u64 (bM .xor .u64 r0 (IntKind.u64.wrap (r0 * 2 ^ (min (Int.toNat (13 : Int)) 64)))) (Int.fdiv (bM .xor .u64 r0 (IntKind.u64.wrap (r0 * 2 ^ (min (Int.toNat (13 : Int)) 64)))) (2 ^ (min (Int.toNat (7 : Int)) 64)))))])] hO rfl (by kernel_rfl) ?_
  intro H hO
  refine mH (by kernel_rfl) ?_
  refine bP [] [] ?_
  refine aN ?_
  refine eM (eK []) aC 10 ?_
  refine kP 2 ?_
  refine fL 0 lo0p 1 0 (cS .u64 (bM .xor .u64 (bM .xor .u64 r0 (IntKind.u64.wrap (r0 * 2 ^ (min (Int.toNat (13 : Int)) 64)))) (Int.fdiv (bM .xor .u64 r0 (IntKind.u64.wrap (r0 * 2 ^ (min (Int.toNat (13 : Int)) 64)))) (2 ^ (min (Int.toNat (7 : Int)) 64))))) (cS .u64 (bM .xor .u64 (bM .xor .u64 r0 (IntKind.u64.wrap (r0 * 2 ^ (min (Int.toNat (13 : Int)) 64)))) (Int.fdiv (bM .xor .u64 r0 (IntKind.u64.wrap (r0 * 2 ^ (min (Int.toNat (13 : Int)) 64)))) (2 ^ (min (Int.toNat (7 : Int)) 64))))) [(cS .u64 (bM .xor .u64 (bM .xor .u64 r0 (IntKind.u64.wrap (r0 * 2 ^ (min (Int.toNat (13 : Int)) 64)))) (Int.fdiv (bM .xor .u64 r0 (IntKind.u64.wrap (r0 * 2 ^ (min (Int.toNat (13 : Int)) 64)))) (2 ^ (min (Int.toNat (7 : Int)) 64)))))] hO rfl ?_
  refine kP 5 ?_
  refine fL 0 lo0p 1 0 (cS .u64 (bM .xor .u64 (bM .xor .u64 r0 (IntKind.u64.wrap (r0 * 2 ^ (min (Int.toNat (13 : Int)) 64)))) (Int.fdiv (bM .xor .u64 r0 (IntKind.u64.wrap (r0 * 2 ^ (min (Int.toNat (13 : Int)) 64)))) (2 ^ (min (Int.toNat (7 : Int)) 64))))) (cS .u64 (bM .xor .u64 (bM .xor .u64 r0 (IntKind.u64.wrap (r0 * 2 ^ (min (Int.toNat (13 : Int)) 64)))) (Int.fdiv (bM .xor .u64 r0 (IntKind.u64.wrap (r0 * 2 ^ (min (Int.toNat (13 : Int)) 64)))) (2 ^ (min (Int.toNat (7 : Int)) 64))))) [(cS .u64 (bM .xor .u64 (bM .xor .u64 r0 (IntKind.u64.wrap (r0 * 2 ^ (min (Int.toNat (13 : Int)) 64)))) (Int.fdiv (bM .xor .u64 r0 (IntKind.u64.wrap (r0 * 2 ^ (min (Int.toNat (13 : Int)) 64)))) (2 ^ (min (Int.toNat (7 : Int)) 64)))))] hO rfl ?_
  obtain ⟨c3, h0⟩ := aS h0
  refine bZ 9 [0 ≤ (17 : Int)] ⟨c3, trivial⟩ ?_
  refine kB 0 lo0p 1 0 (cS .u64 (bM .xor .u64 (bM .xor .u64 r0 (IntKind.u64.wrap (r0 * 2 ^ (min (Int.toNat (13 : Int)) 64)))) (Int.fdiv (bM .xor .u64 r0 (IntKind.u64.wrap (r0 * 2 ^ (min (Int.toNat (13 : Int)) 64)))) (2 ^ (min (Int.toNat (7 : Int)) 64))))) (cS .u64 (bM .xor .u64 (bM .xor .u64 (bM .xor .u64 r0 (IntKind.u64.wrap (r0 * 2 ^ (min (Int.toNat (13 : Int)) 64)))) (Int.fdiv (bM .xor .u64 r0 (IntKind.u64.wrap (r0 * 2 ^ (min (Int.toNat (13 : Int)) 64)))) (2 ^ (min (Int.toNat (7 : Int)) 64)))) (IntKind.u64.wrap ((bM .xor .u64 (bM .xor .u64 r0 (IntKind.u64.wrap (r0 * 2 ^ (min (Int.toNat (13 : Int)) 64)))) (Int.fdiv (bM .xor .u64 r0 (IntKind.u64.wrap (r0 * 2 ^ (min (Int.toNat (13 : Int)) 64)))) (2 ^ (min (Int.toNat (7 : Int)) 64)))) * 2 ^ (min (Int.toNat (17 : Int)) 64))))) [(cS .u64 (bM .xor .u64 (bM .xor .u64 r0 (IntKind.u64.wrap (r0 * 2 ^ (min (Int.toNat (13 : Int)) 64)))) (Int.fdiv (bM .xor .u64 r0 (IntKind.u64.wrap (r0 * 2 ^ (min (Int.toNat (13 : Int)) 64)))) (2 ^ (min (Int.toNat (7 : Int)) 64)))))] [(lo0p, 1, [(cS .u64 (bM .xor .u64 (bM .xor .u64 (bM .xor .u64 r0 (IntKind.u64.wrap (r0 * 2 ^ (min (Int.toNat (13 : Int)) 64)))) (Int.fdiv (bM .xor .u64 r0 (IntKind.u64.wrap (r0 * 2 ^ (min (Int.toNat (13 : Int)) 64)))) (2 ^ (min (Int.toNat (7 : Int)) 64)))) (IntKind.u64.wrap ((bM .xor .u64 (bM .xor .u64 r0 (IntKind.u64.wrap (r0 * 2 ^ (min (Int.toNat (13 : Int)) 64)))) (Int.fdiv (bM .xor .u64 r0 (IntKind.u64.wrap (r0 * 2 ^ (min (Int.toNat (13 : Int)) 64)))) (2 ^ (min (Int.toNat (7 : Int)) 64)))) * 2 ^ (min (Int.toNat (17 : Int)) 64)))))])] hO rfl (by kernel_rfl) ?_
  intro H hO
  refine mH (by kernel_rfl) ?_
  refine bP [] [] ?_
  refine aN ?_
  refine aU aC 4 ?_
  refine bS 2 ?_
  refine qN 0 lo0p 1 0 (cS .u64 (bM .xor .u64 (bM .xor .u64 (bM .xor .u64 r0 (IntKind.u64.wrap (r0 * 2 ^ (min (Int.toNat (13 : Int)) 64)))) (Int.fdiv (bM .xor .u64 r0 (IntKind.u64.wrap (r0 * 2 ^ (min (Int.toNat (13 : Int)) 64)))) (2 ^ (min (Int.toNat (7 : Int)) 64)))) (IntKind.u64.wrap ((bM .xor .u64 (bM .xor .u64 r0 (IntKind.u64.wrap (r0 * 2 ^ (min (Int.toNat (13 : Int)) 64)))) (Int.fdiv (bM .xor .u64 r0 (IntKind.u64.wrap (r0 * 2 ^ (min (Int.toNat (13 : Int)) 64)))) (2 ^ (min (Int.toNat (7 : Int)) 64)))) * 2 ^ (min (Int.toNat (17 : Int)) 64))))) (cS .u64 (bM .xor .u64 (bM .xor .u64 (bM .xor .u64 r0 (IntKind.u64.wrap (r0 * 2 ^ (min (Int.toNat (13 : Int)) 64)))) (Int.fdiv (bM .xor .u64 r0 (IntKind.u64.wrap (r0 * 2 ^ (min (Int.toNat (13 : Int)) 64)))) (2 ^ (min (Int.toNat (7 : Int)) 64)))) (IntKind.u64.wrap ((bM .xor .u64 (bM .xor .u64 r0 (IntKind.u64.wrap (r0 * 2 ^ (min (Int.toNat (13 : Int)) 64)))) (Int.fdiv (bM .xor .u64 r0 (IntKind.u64.wrap (r0 * 2 ^ (min (Int.toNat (13 : Int)) 64)))) (2 ^ (min (Int.toNat (7 : Int)) 64)))) * 2 ^ (min (Int.toNat (17 : Int)) 64))))) [(cS .u64 (bM .xor .u64 (bM .xor .u64 (bM .xor .u64 r0 (IntKind.u64.wrap (r0 * 2 ^ (min (Int.toNat (13 : Int)) 64)))) (Int.fdiv (bM .xor .u64 r0 (IntKind.u64.wrap (r0 * 2 ^ (min (Int.toNat (13 : Int)) 64)))) (2 ^ (min (Int.toNat (7 : Int)) 64)))) (IntKind.u64.wrap ((bM .xor .u64 (bM .xor .u64 r0 (IntKind.u64.wrap (r0 * 2 ^ (min (Int.toNat (13 : Int)) 64)))) (Int.fdiv (bM .xor .u64 r0 (IntKind.u64.wrap (r0 * 2 ^ (min (Int.toNat (13 : Int)) 64)))) (2 ^ (min (Int.toNat (7 : Int)) 64)))) * 2 ^ (min (Int.toNat (17 : Int)) 64)))))] hO rfl ?_
  refine bA ?_
  refine bB [(0, (.lp lo0p 0 0)), (2, (cS .u64 (bM .xor .u64 (bM .xor .u64 (bM .xor .u64 r0 (IntKind.u64.wrap (r0 * 2 ^ (min (Int.toNat (13 : Int)) 64)))) (Int.fdiv (bM .xor .u64 r0 (IntKind.u64.wrap (r0 * 2 ^ (min (Int.toNat (13 : Int)) 64)))) (2 ^ (min (Int.toNat (7 : Int)) 64)))) (IntKind.u64.wrap ((bM .xor .u64 (bM .xor .u64 r0 (IntKind.u64.wrap (r0 * 2 ^ (min (Int.toNat (13 : Int)) 64)))) (Int.fdiv (bM .xor .u64 r0 (IntKind.u64.wrap (r0 * 2 ^ (min (Int.toNat (13 : Int)) 64)))) (2 ^ (min (Int.toNat (7 : Int)) 64)))) * 2 ^ (min (Int.toNat (17 : Int)) 64))))))] ?_
  refine bD ?_
  obtain rfl := oI h0
  exact aG (BW hO ⟨rfl, rfl⟩)

theorem tT (lo0p : Nat) (aA : (List Int)) (a1 : Int) (b2 : Int) (r : List Int) (h0 : gG aA a1 b2 = some r) : mU Try.prog 81 lo0p 1 (List.map (eI) aA) (List.map (eI) r) [(.msl 1 lo0p 0 (List.length aA)), (eI a1), (eI b2)] (.tup []) := by
  intro H0 hl0
  refine cZ Try.func81 ?_
  have hO := aL.rC hl0
  clear hl0
  obtain ⟨N0, hN0⟩ : ∃ n, n = List.length aA := ⟨_, rfl⟩
  have hN : List.length aA = N0 := hN0.symm
  unfold gG at h0
  refine aR aC 4 [2] [(6, (eI (wR (b2 - a1))))] ?_
  refine aR aC 2 [] [(15, (aE (decide ((8 : Int) ≤ (wR (b2 - a1))))))] ?_
  refine bE h0 (fun h0 => ?_) (fun h0 => ?_)
  · refine aN ?_
    refine aU aC 4 ?_
    refine bS 2 ?_
    refine uR 1 (cS .u64 0) (by kernel_rfl) (by kernel_rfl) hO ?_
    intro lo2 H hO
    refine qP 1 lo2 1 0 (cS .u64 0) (cS .u64 (IntKind.u64.wrap (wR (b2 - a1)))) [(cS .u64 0)] [(lo0p, 1, List.map (eI) aA), (lo2, 1, [(cS .u64 (IntKind.u64.wrap (wR (b2 - a1))))])] hO rfl (by kernel_rfl) ?_
    intro H hO
    refine iF ?_
    refine bP [15] [(7, (.lp lo2 0 0))] ?_
    refine aN ?_
    refine aU aC 3 ?_
    refine bS 1 ?_
    obtain ⟨x3, hx4, h0⟩ := aV h0
    refine dI (yN (wR (b2 - a1)) _ hx4) hO ?_
    intro H hO
    refine bA ?_
    refine bP [] [(8, (cS .u64 x3))] ?_
    refine aN ?_
    refine aU aC 7 ?_
    obtain ⟨c6, h0⟩ := aS h0
    refine lV [(4 : Int) ≠ 0] ⟨c6, trivial⟩ ?_
    refine bB [(0, (.msl 1 lo0p 0 (List.length aA))), (1, (eI a1)), (6, (eI (wR (b2 - a1)))), (7, (.lp lo2 0 0)), (8, (cS .u64 x3)), (9, (eI (wR ((wR (a1 + (wR ((wR (Int.tdiv (wR (b2 - a1)) (4 : Int))) * (2 : Int))))) - (1 : Int)))))] ?_
    refine bX 0 ?_
    refine fG [(0, (.msl 1 lo0p 0 (List.length aA))), (1, (eI a1)), (6, (eI (wR (b2 - a1)))), (7, (.lp lo2 0 0)), (8, (cS .u64 x3)), (9, (eI (wR ((wR (a1 + (wR ((wR (Int.tdiv (wR (b2 - a1)) (4 : Int))) * (2 : Int))))) - (1 : Int)))))] ?_
    refine dS (fun T H => ∃ aA : List Int, ∃ jN : Int, ∃ kT : Int, ∃ iJ : Int, ∃ idx9 : Int, Has T [(0, (.msl 1 lo0p 0 (List.length aA))), (1, (eI a1)), (6, (eI jN)), (7, (.lp lo2 0 0)), (8, (cS .u64 iJ)), (9, (eI idx9))] ∧ aL ⟨H0, [lo0p], []⟩ H [(lo0p, 1, List.map (eI) aA), (lo2, 1, [(cS .u64 kT)])] ∧ List.length aA = N0 ∧ iU aA a1 jN kT iJ idx9 = some r) ?_ ⟨aA, wR (b2 - a1), IntKind.u64.wrap (wR (b2 - a1)), x3, wR ((wR (a1 + (wR ((wR (Int.tdiv (wR (b2 - a1)) (4 : Int))) * (2 : Int))))) - (1 : Int)), .eq (by kernel_rfl), hO, hN, h0⟩
    clear hO hN h0
    rintro T H ⟨aA, jN, kT, iJ, idx9, hT, hO, hN, h0⟩
    refine aZ hT ?_
    clear hT
    unfold iU at h0
    obtain ⟨rr0, hl0, h0⟩ := aV h0
    refine cQ (by kernel_rfl) (fun (s : List Int × Int × Int) T H => Has T [(0, (.msl 1 lo0p 0 (List.length s.1))), (1, (eI a1)), (6, (eI jN)), (7, (.lp lo2 0 0)), (8, (cS .u64 iJ)), (9, (eI s.2.2))] ∧ aL ⟨H0, [lo0p], []⟩ H [(lo0p, 1, List.map (eI) s.1), (lo2, 1, [(cS .u64 s.2.1)])] ∧ List.length s.1 = N0) hl0 ⟨.eq (by kernel_rfl), hO, hN⟩ ?_
    clear hO hN
    rintro k0 s out1 T H ⟨hT, hO, hN⟩ h1 ho0
    obtain ⟨aA, kT, idx9⟩ := s
    replace h1 : cU a1 jN iJ aA kT idx9 = some out1 := h1
    try dsimp only at hT
    refine aZ hT ?_
    clear hT
    unfold cU at h1
    refine aN ?_
    refine aN ?_
    refine aU aC 8 ?_
    obtain ⟨c7, h1⟩ := aS h1
    refine lV [(4 : Int) ≠ 0] ⟨c7, trivial⟩ ?_
    refine bP [] [(33, (aE (decide (idx9 ≤ (wR ((wR (a1 + (wR ((wR (Int.tdiv jN (4 : Int))) * (2 : Int))))) + (1 : Int)))))))] ?_
    refine bE h1 (fun h1 => ?_) (fun h1 => ?_)
    · refine bF ?_
      refine bB [(0, (.msl 1 lo0p 0 (List.length aA))), (1, (eI a1)), (6, (eI jN)), (7, (.lp lo2 0 0)), (8, (cS .u64 iJ)), (9, (eI idx9))] ?_
      refine aN ?_
      refine bX 1 ?_
      refine aN ?_
      refine aU aC 6 ?_
      obtain ⟨x9, hx10, h1⟩ := aV h1
      refine zF [(lo0p, 1, List.map (eI) aA)] [1, 0] (zG lo2 kT _ hx10) hO ?_
      intro r11 L12 H hP13 hO
      obtain ⟨rfl, rfl⟩ := hP13
      replace hO : aL ⟨H0, [lo0p], []⟩ H [(lo2, 1, [(cS .u64 x9.2)]), (lo0p, 1, List.map (eI) aA)] := hO
      refine bA ?_
      replace hO := hO.pick (L' := [(lo0p, 1, List.map (eI) aA), (lo2, 1, [(cS .u64 x9.2)])]) [1, 0] (by decide) (by kernel_rfl)
      refine bP [] [(10, (eI (wR (bM .and .u64 x9.1 (IntKind.u64.wrap (iJ - (1 : Int)))))))] ?_
      refine dZ (fun T H => ∃ aA : List Int, ∃ kT : Int, ∃ fK : Int, Has T [(0, (.msl 1 lo0p 0 (List.length aA))), (1, (eI a1)), (6, (eI jN)), (7, (.lp lo2 0 0)), (8, (cS .u64 iJ)), (9, (eI idx9)), (10, (eI fK))] ∧ aL ⟨H0, [lo0p], []⟩ H [(lo0p, 1, List.map (eI) aA), (lo2, 1, [(cS .u64 kT)])] ∧ List.length aA = N0 ∧ eS aA a1 jN kT iJ idx9 fK = some out1) ?_ ?_
      · clear hO hN h1
        rintro T H ⟨aA, kT, fK, hT, hO, hN, h1⟩
        refine aZ hT ?_
        clear hT
        unfold eS at h1
        refine eM (eK []) aC 20 ?_
        obtain ⟨c14, h1⟩ := aS h1
        refine bZ 11 [0 ≤ (wR (a1 + fK)) ∧ (wR (a1 + fK)) < (lN aA)] ⟨c14, trivial⟩ ?_
        refine fL 0 lo0p 1 (0 + Int.toNat (wR (a1 + fK))) (eI (gD aA (wR (a1 + fK)))) (eI (gD aA (wR (a1 + fK)))) (List.map (eI) aA) hO (bR c14) ?_
        obtain ⟨c15, h1⟩ := aS h1
        refine bZ 15 [0 ≤ idx9 ∧ idx9 < (lN aA)] ⟨c15, trivial⟩ ?_
        refine fL 0 lo0p 1 (0 + Int.toNat idx9) (eI (gD aA idx9)) (eI (gD aA idx9)) (List.map (eI) aA) hO (bR c15) ?_
        obtain ⟨c16, h1⟩ := aS h1
        refine bZ 17 [0 ≤ idx9 ∧ idx9 < (lN aA)] ⟨c16, trivial⟩ ?_
        refine kB 0 lo0p 1 (0 + Int.toNat idx9) (eI (gD aA idx9)) (eI (gD aA (wR (a1 + fK)))) (List.map (eI) aA) [(lo0p, 1, List.map (eI) (List.set aA (Int.toNat idx9) (gD aA (wR (a1 + fK))))), (lo2, 1, [(cS .u64 kT)])] hO (bR c16) (by simp only [List.set, gE]) ?_
        intro H hO
        replace hN : List.length (List.set aA (Int.toNat idx9) (gD aA (wR (a1 + fK)))) = N0 := by simpa using hN
        obtain ⟨c17, h1⟩ := aS h1
        refine bZ 19 [0 ≤ (wR (a1 + fK)) ∧ (wR (a1 + fK)) < (lN aA)] ⟨c17, trivial⟩ ?_
        refine kB 0 lo0p 1 (0 + Int.toNat (wR (a1 + fK))) (eI (gD (List.set aA (Int.toNat idx9) (gD aA (wR (a1 + fK)))) (wR (a1 + fK)))) (eI (gD aA idx9)) (List.map (eI) (List.set aA (Int.toNat idx9) (gD aA (wR (a1 + fK))))) [(lo0p, 1, List.map (eI) (List.set (List.set aA (Int.toNat idx9) (gD aA (wR (a1 + fK)))) (Int.toNat (wR (a1 + fK))) (gD aA idx9))), (lo2, 1, [(cS .u64 kT)])] hO (mK c17 (by simp [])) (by simp only [List.set, gE]) ?_
        intro H hO
        replace hN : List.length (List.set (List.set aA (Int.toNat idx9) (gD aA (wR (a1 + fK)))) (Int.toNat (wR (a1 + fK))) (gD aA idx9)) = N0 := by simpa using hN
        refine mH (by kernel_rfl) ?_
        refine dA (l := [(0, (.msl 1 lo0p 0 (List.length (List.set (List.set aA (Int.toNat idx9) (gD aA (wR (a1 + fK)))) (Int.toNat (wR (a1 + fK))) (gD aA idx9))))), (1, (eI a1)), (6, (eI jN)), (7, (.lp lo2 0 0)), (8, (cS .u64 iJ)), (9, (eI idx9))]) ⟨[(0, (.msl 1 lo0p 0 (List.length aA))), (1, (eI a1)), (6, (eI jN)), (7, (.lp lo2 0 0)), (8, (cS .u64 iJ)), (9, (eI idx9))], by kernel_rfl, rfl, ⟨aO.eq (by simp []), aO.refl _, aO.refl _, aO.refl _, aO.refl _, aO.refl _, trivial⟩⟩ ?_
        refine aG (aW (aF (?_)))
        refine aU aC 3 ?_
        refine bA ?_
        exact aG (aF (⟨rfl, _, (oI h1).symm, .eq (by kernel_rfl), hO, hN⟩))
      refine aR aC 3 [] [(43, (aE (decide (jN ≤ (wR (bM .and .u64 x9.1 (IntKind.u64.wrap (iJ - (1 : Int)))))))))] ?_
      refine bE h1 (fun h1 => ?_) (fun h1 => ?_)
      · refine aU aC 4 ?_
        refine bA ?_
        exact aG (aF (⟨rfl, _, _, _, .eq (by kernel_rfl), hO, hN, h1⟩))
      refine bF ?_
      exact aG (aF (⟨rfl, _, _, _, .eq (by kernel_rfl), hO, hN, h1⟩))
    refine fB 0 ?_
    replace hO := hO.pick (L' := [(lo0p, 1, List.map (eI) aA)]) [0] (by decide) (by kernel_rfl)
    obtain rfl := oI h1
    obtain rfl : _ = rr0 := ho0
    replace h0 : some aA = some r := h0
    obtain rfl := oI h0
    exact aG (aT (aT (bO (xL (x := (.tup [])) (by kernel_rfl) (aO.refl _) ⟨rfl, hO.ext, hO.at 0 (by kernel_rfl), by first | rfl | (simp only [List.length_map]; exact hN.trans hN0)⟩))))
  refine bF ?_
  obtain rfl := oI h0
  exact aG (xL (x := (.tup [])) (by kernel_rfl) (aO.refl _) ⟨rfl, hO.ext, hO.at 0 (by kernel_rfl), by first | rfl | (simp only [List.length_map]; exact hN.trans hN0)⟩)

theorem nF (lo0p : Nat) (aA : (List Int)) (a1 : Int) (b2 : Int) (lo3p : Nat) (rL : Int) (r : ((Int × Int) × Int)) (h0 : fS aA a1 b2 rL = some r) : xI Try.prog 113 [(.msl 1 lo0p 0 (List.length aA)), (eI a1), (eI b2), (.lp lo3p 0 0)] [(lo0p, 1, List.map (eI) aA), (lo3p, 1, [(eI rL)])] (fun x L => x = (.tup [(eI r.1.1), (eI r.1.2)]) ∧ L = [(lo0p, 1, List.map (eI) aA), (lo3p, 1, [(eI r.2)])]) := by
  intro F H0 hO
  obtain ⟨Fh, Fe, Fg⟩ := F
  refine cZ Try.func113 ?_
  unfold fS at h0
  refine aR aC 2 [] [] ?_
  refine aN ?_
  refine aN ?_
  refine eM (eK [18]) aC 9 ?_
  obtain ⟨c1, h0⟩ := aS h0
  refine bZ 3 [0 ≤ b2 ∧ b2 < (lN aA)] ⟨c1, trivial⟩ ?_
  refine fL 0 lo0p 1 (0 + Int.toNat b2) (eI (gD aA b2)) (eI (gD aA b2)) (List.map (eI) aA) hO (bR c1) ?_
  obtain ⟨c2, h0⟩ := aS h0
  refine bZ 7 [0 ≤ a1 ∧ a1 < (lN aA)] ⟨c2, trivial⟩ ?_
  refine fL 0 lo0p 1 (0 + Int.toNat a1) (eI (gD aA a1)) (eI (gD aA a1)) (List.map (eI) aA) hO (bR c2) ?_
  obtain ⟨x3, hx4, h0⟩ := aV h0
  refine BV (fE (gD aA b2) (gD aA a1) _ hx4) hO ?_
  intro H hO
  refine mH (by kernel_rfl) ?_
  refine bP [] [(18, (aE x3))] ?_
  refine bE h0 (fun h0 => ?_) (fun h0 => ?_)
  · refine aN ?_
    refine aU aC 6 ?_
    refine bS 2 ?_
    refine qN 1 lo3p 1 0 (eI rL) (eI rL) [(eI rL)] hO rfl ?_
    refine bS 5 ?_
    refine qP 1 lo3p 1 0 (eI rL) (eI (wR (rL + (1 : Int)))) [(eI rL)] [(lo0p, 1, List.map (eI) aA), (lo3p, 1, [(eI (wR (rL + (1 : Int))))])] hO rfl (by kernel_rfl) ?_
    intro H hO
    refine iF ?_
    refine bP [18] [] ?_
    refine aR aC 4 [1, 2] [(8, (eI b2)), (9, (eI a1))] ?_
    refine bD ?_
    obtain rfl := oI h0
    exact aG (aP (BW hO ⟨rfl, rfl⟩))
  refine bF ?_
  refine bB [(0, (.msl 1 lo0p 0 (List.length aA))), (1, (eI a1)), (2, (eI b2)), (3, (.lp lo3p 0 0))] ?_
  refine aR aC 4 [1, 2] [(8, (eI a1)), (9, (eI b2))] ?_
  refine bD ?_
  obtain rfl := oI h0
  exact aG (BW hO ⟨rfl, rfl⟩)

theorem rE (lo0p : Nat) (aA : (List Int)) (a1 : Int) (b2 : Int) (c3 : Int) (lo4p : Nat) (CX : Int) (r : (Int × Int)) (h0 : gY aA a1 b2 c3 CX = some r) : xI Try.prog 109 [(.msl 1 lo0p 0 (List.length aA)), (eI a1), (eI b2), (eI c3), (.lp lo4p 0 0)] [(lo0p, 1, List.map (eI) aA), (lo4p, 1, [(eI CX)])] (fun x L => x = (eI r.1) ∧ L = [(lo0p, 1, List.map (eI) aA), (lo4p, 1, [(eI r.2)])]) := by
  intro F H0 hO
  obtain ⟨Fh, Fe, Fg⟩ := F
  refine cZ Try.func109 ?_
  unfold gY at h0
  refine aR aC 1 [] [] ?_
  refine aN ?_
  refine aU aC 10 ?_
  refine bS 4 ?_
  obtain ⟨x1, hx2, h0⟩ := aV h0
  refine zF [] [0, 1] (nF lo0p aA a1 b2 lo4p CX _ hx2) hO ?_
  intro r3 L4 H hP5 hO
  obtain ⟨rfl, rfl⟩ := hP5
  replace hO : aL ⟨Fh, Fe, Fg⟩ H [(lo0p, 1, List.map (eI) aA), (lo4p, 1, [(eI x1.2)])] := hO
  refine bA ?_
  refine bP [1, 2] [(1, (eI x1.1.1)), (2, (eI x1.1.2))] ?_
  refine aN ?_
  refine aU aC 10 ?_
  refine bS 4 ?_
  obtain ⟨x6, hx7, h0⟩ := aV h0
  refine zF [] [0, 1] (nF lo0p aA x1.1.2 c3 lo4p x1.2 _ hx7) hO ?_
  intro r8 L9 H hP10 hO
  obtain ⟨rfl, rfl⟩ := hP10
  replace hO : aL ⟨Fh, Fe, Fg⟩ H [(lo0p, 1, List.map (eI) aA), (lo4p, 1, [(eI x6.2)])] := hO
  refine bA ?_
  refine bP [2, 3] [(2, (eI x6.1.1))] ?_
  refine aN ?_
  refine aU aC 10 ?_
  refine bS 4 ?_
  obtain ⟨x11, hx12, h0⟩ := aV h0
  refine zF [] [0, 1] (nF lo0p aA x1.1.1 x6.1.1 lo4p x6.2 _ hx12) hO ?_
  intro r13 L14 H hP15 hO
  obtain ⟨rfl, rfl⟩ := hP15
  replace hO : aL ⟨Fh, Fe, Fg⟩ H [(lo0p, 1, List.map (eI) aA), (lo4p, 1, [(eI x11.2)])] := hO
  refine bA ?_
  refine bP [1, 2] [(2, (eI x11.1.2))] ?_
  refine bQ aC 2 [(0, (.msl 1 lo0p 0 (List.length aA))), (4, (.lp lo4p 0 0)), (10, (eI x11.1.2))] ?_
  refine bD ?_
  obtain rfl := oI h0
  exact aG (BW hO ⟨rfl, rfl⟩)

theorem kQ (lo0p : Nat) (aA : (List Int)) (a1 : Int) (lo2p : Nat) (CR : Int) (r : (Int × Int)) (h0 : dQ aA a1 CR = some r) : xI Try.prog 108 [(.msl 1 lo0p 0 (List.length aA)), (eI a1), (.lp lo2p 0 0)] [(lo0p, 1, List.map (eI) aA), (lo2p, 1, [(eI CR)])] (fun x L => x = (eI r.1) ∧ L = [(lo0p, 1, List.map (eI) aA), (lo2p, 1, [(eI r.2)])]) := by
  intro F H0 hO
  obtain ⟨Fh, Fe, Fg⟩ := F
  refine cZ Try.func108 ?_
  unfold dQ at h0
  refine aR aC 1 [] [] ?_
  refine aN ?_
  refine aU aC 9 ?_
  refine bS 7 ?_
  obtain ⟨x1, hx2, h0⟩ := aV h0
  refine zF [] [0, 1] (rE lo0p aA (wR (a1 - (1 : Int))) a1 (wR (a1 + (1 : Int))) lo2p CR _ hx2) hO ?_
  intro r3 L4 H hP5 hO
  obtain ⟨rfl, rfl⟩ := hP5
  replace hO : aL ⟨Fh, Fe, Fg⟩ H [(lo0p, 1, List.map (eI) aA), (lo2p, 1, [(eI x1.2)])] := hO
  refine bA ?_
  refine bP [1] [(6, (eI x1.1))] ?_
  refine bD ?_
  obtain rfl := oI h0
  exact aG (BW hO ⟨rfl, rfl⟩)

theorem uV (lo0p : Nat) (aA : (List Int)) (a1 : Int) (b2 : Int) (r : (Int × Int)) (h0 : gT aA a1 b2 = some r) : xI Try.prog 82 [(.msl 1 lo0p 0 (List.length aA)), (eI a1), (eI b2)] [(lo0p, 1, List.map (eI) aA)] (fun x L => x = (.tup [(eI r.1), (eI r.2)]) ∧ L = [(lo0p, 1, List.map (eI) aA)]) := by
  intro F H0 hO
  obtain ⟨Fh, Fe, Fg⟩ := F
  refine cZ Try.func82 ?_
  unfold gT at h0
  refine aR aC 2 [] [] ?_
  refine aR aC 4 [2] [(8, (eI (wR (b2 - a1))))] ?_
  refine aN ?_
  refine aU aC 1 ?_
  refine uR 1 (eI 0) (by kernel_rfl) (by kernel_rfl) hO ?_
  intro lo1 H hO
  refine iF ?_
  refine bP [] [(9, (.lp lo1 0 0))] ?_
  refine aN ?_
  refine aU aC 6 ?_
  obtain ⟨c2, h0⟩ := aS h0
  refine lV [(4 : Int) ≠ 0] ⟨c2, trivial⟩ ?_
  refine bP [] [(10, (eI (wR (a1 + (wR ((wR (Int.tdiv (wR (b2 - a1)) (4 : Int))) * (1 : Int)))))))] ?_
  refine aN ?_
  refine aU aC 6 ?_
  obtain ⟨c3, h0⟩ := aS h0
  refine lV [(4 : Int) ≠ 0] ⟨c3, trivial⟩ ?_
  refine bB [(0, (.msl 1 lo0p 0 (List.length aA))), (1, (eI a1)), (8, (eI (wR (b2 - a1)))), (9, (.lp lo1 0 0)), (10, (eI (wR (a1 + (wR ((wR (Int.tdiv (wR (b2 - a1)) (4 : Int))) * (1 : Int))))))), (11, (eI (wR (a1 + (wR ((wR (Int.tdiv (wR (b2 - a1)) (4 : Int))) * (2 : Int)))))))] ?_
  refine aN ?_
  refine aU aC 6 ?_
  obtain ⟨c4, h0⟩ := aS h0
  refine lV [(4 : Int) ≠ 0] ⟨c4, trivial⟩ ?_
  refine bP [1] [(12, (eI (wR (a1 + (wR ((wR (Int.tdiv (wR (b2 - a1)) (4 : Int))) * (3 : Int)))))))] ?_
  refine dZ (fun T H => ∃ lY : Int, ∃ j11 : Int, Has T [(0, (.msl 1 lo0p 0 (List.length aA))), (9, (.lp lo1 0 0)), (11, (eI j11))] ∧ aL ⟨Fh, Fe, Fg⟩ H [(lo0p, 1, List.map (eI) aA), (lo1, 1, [(eI lY)])] ∧ fC aA lY j11 = some r) ?_ ?_
  · clear hO h0
    rintro T H ⟨lY, j11, hT, hO, h0⟩
    refine aZ hT ?_
    clear hT
    unfold fC at h0
    refine aN ?_
    refine aU aC 1 ?_
    refine qN 1 lo1 1 0 (eI lY) (eI lY) [(eI lY)] hO rfl ?_
    refine iF ?_
    replace hO := hO.pick (L' := [(lo0p, 1, List.map (eI) aA)]) [0] (by decide) (by kernel_rfl)
    refine bP [9] [(49, (eI lY))] ?_
    refine bX 0 ?_
    refine aR aC 2 [] [(51, (aE (decide (lY = (0 : Int)))))] ?_
    refine bE h0 (fun h0 => ?_) (fun h0 => ?_)
    · refine aR aC 3 [11, 49, 51] [(6, (eI j11)), (7, (eI (1 : Int)))] ?_
      refine bD ?_
      obtain rfl := oI h0
      exact aG (bI (BW hO ⟨rfl, rfl⟩))
    refine aR aC 2 [49, 51] [(54, (aE (decide (lY = (12 : Int)))))] ?_
    refine bE h0 (fun h0 => ?_) (fun h0 => ?_)
    · refine aR aC 3 [11, 54] [(6, (eI j11)), (7, (eI (2 : Int)))] ?_
      refine bD ?_
      obtain rfl := oI h0
      exact aG (bI (BW hO ⟨rfl, rfl⟩))
    refine aR aC 3 [11, 54] [(6, (eI j11)), (7, (eI (0 : Int)))] ?_
    refine bD ?_
    obtain rfl := oI h0
    exact aG (bI (BW hO ⟨rfl, rfl⟩))
  refine aR aC 2 [] [(32, (aE (decide ((8 : Int) ≤ (wR (b2 - a1))))))] ?_
  refine bE h0 (fun h0 => ?_) (fun h0 => ?_)
  · refine dZ (fun T H => ∃ lY : Int, ∃ i10 : Int, ∃ j11 : Int, ∃ k12 : Int, Has T [(0, (.msl 1 lo0p 0 (List.length aA))), (9, (.lp lo1 0 0)), (10, (eI i10)), (11, (eI j11)), (12, (eI k12))] ∧ aL ⟨Fh, Fe, Fg⟩ H [(lo0p, 1, List.map (eI) aA), (lo1, 1, [(eI lY)])] ∧ fA aA lY i10 j11 k12 = some r) ?_ ?_
    · clear hO h0
      rintro T H ⟨lY, i10, j11, k12, hT, hO, h0⟩
      refine aZ hT ?_
      clear hT
      unfold fA at h0
      refine aU aC 6 ?_
      refine bS 4 ?_
      obtain ⟨x8, hx9, h0⟩ := aV h0
      refine zF [] [0, 1] (rE lo0p aA i10 j11 k12 lo1 lY _ hx9) hO ?_
      intro r10 L11 H hP12 hO
      obtain ⟨rfl, rfl⟩ := hP12
      replace hO : aL ⟨Fh, Fe, Fg⟩ H [(lo0p, 1, List.map (eI) aA), (lo1, 1, [(eI x8.2)])] := hO
      refine bA ?_
      exact aG (aF (⟨rfl, _, _, .eq (by kernel_rfl), hO, h0⟩))
    refine aR aC 2 [8, 32] [(34, (aE (decide ((50 : Int) ≤ (wR (b2 - a1))))))] ?_
    refine bE h0 (fun h0 => ?_) (fun h0 => ?_)
    · refine aN ?_
      refine aU aC 4 ?_
      refine bS 2 ?_
      obtain ⟨x14, hx15, h0⟩ := aV h0
      refine zF [] [0, 1] (kQ lo0p aA (wR (a1 + (wR ((wR (Int.tdiv (wR (b2 - a1)) (4 : Int))) * (1 : Int))))) lo1 0 _ hx15) hO ?_
      intro r16 L17 H hP18 hO
      obtain ⟨rfl, rfl⟩ := hP18
      replace hO : aL ⟨Fh, Fe, Fg⟩ H [(lo0p, 1, List.map (eI) aA), (lo1, 1, [(eI x14.2)])] := hO
      refine bA ?_
      refine bP [10, 34] [(10, (eI x14.1))] ?_
      refine aN ?_
      refine aU aC 4 ?_
      refine bS 2 ?_
      obtain ⟨x19, hx20, h0⟩ := aV h0
      refine zF [] [0, 1] (kQ lo0p aA (wR (a1 + (wR ((wR (Int.tdiv (wR (b2 - a1)) (4 : Int))) * (2 : Int))))) lo1 x14.2 _ hx20) hO ?_
      intro r21 L22 H hP23 hO
      obtain ⟨rfl, rfl⟩ := hP23
      replace hO : aL ⟨Fh, Fe, Fg⟩ H [(lo0p, 1, List.map (eI) aA), (lo1, 1, [(eI x19.2)])] := hO
      refine bA ?_
      refine bB [(0, (.msl 1 lo0p 0 (List.length aA))), (9, (.lp lo1 0 0)), (10, (eI x14.1)), (11, (eI x19.1)), (12, (eI (wR (a1 + (wR ((wR (Int.tdiv (wR (b2 - a1)) (4 : Int))) * (3 : Int)))))))] ?_
      refine aU aC 4 ?_
      refine bS 2 ?_
      obtain ⟨x24, hx25, h0⟩ := aV h0
      refine zF [] [0, 1] (kQ lo0p aA (wR (a1 + (wR ((wR (Int.tdiv (wR (b2 - a1)) (4 : Int))) * (3 : Int))))) lo1 x19.2 _ hx25) hO ?_
      intro r26 L27 H hP28 hO
      obtain ⟨rfl, rfl⟩ := hP28
      replace hO : aL ⟨Fh, Fe, Fg⟩ H [(lo0p, 1, List.map (eI) aA), (lo1, 1, [(eI x24.2)])] := hO
      refine bA ?_
      exact aG (aF (⟨rfl, _, _, _, _, .eq (by kernel_rfl), hO, h0⟩))
    refine bF ?_
    exact aG (aF (⟨rfl, _, _, _, _, .eq (by kernel_rfl), hO, h0⟩))
  refine bF ?_
  exact aG (aF (⟨rfl, _, _, .eq (by kernel_rfl), hO, h0⟩))

theorem uP (lo0p : Nat) (aA : (List Int)) (a1 : Int) (b2 : Int) (r : List Int) (h0 : gP aA a1 b2 = some r) : mU Try.prog 83 lo0p 1 (List.map (eI) aA) (List.map (eI) r) [(.msl 1 lo0p 0 (List.length aA)), (eI a1), (eI b2)] (.tup []) := by
  intro H0 hl0
  refine cZ Try.func83 ?_
  have hO := aL.rC hl0
  clear hl0
  obtain ⟨N0, hN0⟩ : ∃ n, n = List.length aA := ⟨_, rfl⟩
  have hN : List.length aA = N0 := hN0.symm
  unfold gP at h0
  refine aR aC 2 [1] [(6, (eI a1))] ?_
  refine aR aC 3 [2] [(7, (eI (wR (b2 - (1 : Int)))))] ?_
  refine bX 0 ?_
  refine fG [(0, (.msl 1 lo0p 0 (List.length aA))), (6, (eI a1)), (7, (eI (wR (b2 - (1 : Int)))))] ?_
  refine dS (fun T H => ∃ aA : List Int, ∃ i6 : Int, ∃ j7 : Int, Has T [(0, (.msl 1 lo0p 0 (List.length aA))), (6, (eI i6)), (7, (eI j7))] ∧ aL ⟨H0, [lo0p], []⟩ H [(lo0p, 1, List.map (eI) aA)] ∧ List.length aA = N0 ∧ jC aA i6 j7 = some r) ?_ ⟨aA, a1, wR (b2 - (1 : Int)), .eq (by kernel_rfl), hO, hN, h0⟩
  clear hO hN h0
  rintro T H ⟨aA, i6, j7, hT, hO, hN, h0⟩
  refine aZ hT ?_
  clear hT
  unfold jC at h0
  obtain ⟨rr0, hl0, h0⟩ := aV h0
  refine cQ (by kernel_rfl) (fun (s : List Int × Int × Int) T H => Has T [(0, (.msl 1 lo0p 0 (List.length s.1))), (6, (eI s.2.1)), (7, (eI s.2.2))] ∧ aL ⟨H0, [lo0p], []⟩ H [(lo0p, 1, List.map (eI) s.1)] ∧ List.length s.1 = N0) hl0 ⟨.eq (by kernel_rfl), hO, hN⟩ ?_
  clear hO hN
  rintro k0 s out1 T H ⟨hT, hO, hN⟩ h1 ho0
  obtain ⟨aA, i6, j7⟩ := s
  replace h1 : dJ aA i6 j7 = some out1 := h1
  try dsimp only at hT
  refine aZ hT ?_
  clear hT
  unfold dJ at h1
  refine aN ?_
  refine aR aC 3 [] [(13, (aE (decide (i6 < j7))))] ?_
  refine bE h1 (fun h1 => ?_) (fun h1 => ?_)
  · refine bF ?_
    refine bB [(0, (.msl 1 lo0p 0 (List.length aA))), (6, (eI i6)), (7, (eI j7))] ?_
    refine bX 1 ?_
    refine aN ?_
    refine eM (eK []) aC 16 ?_
    obtain ⟨c2, h1⟩ := aS h1
    refine bZ 7 [0 ≤ j7 ∧ j7 < (lN aA)] ⟨c2, trivial⟩ ?_
    refine fL 0 lo0p 1 (0 + Int.toNat j7) (eI (gD aA j7)) (eI (gD aA j7)) (List.map (eI) aA) hO (bR c2) ?_
    obtain ⟨c3, h1⟩ := aS h1
    refine bZ 11 [0 ≤ i6 ∧ i6 < (lN aA)] ⟨c3, trivial⟩ ?_
    refine fL 0 lo0p 1 (0 + Int.toNat i6) (eI (gD aA i6)) (eI (gD aA i6)) (List.map (eI) aA) hO (bR c3) ?_
    obtain ⟨c4, h1⟩ := aS h1
    refine bZ 13 [0 ≤ i6 ∧ i6 < (lN aA)] ⟨c4, trivial⟩ ?_
    refine kB 0 lo0p 1 (0 + Int.toNat i6) (eI (gD aA i6)) (eI (gD aA j7)) (List.map (eI) aA) [(lo0p, 1, List.map (eI) (List.set aA (Int.toNat i6) (gD aA j7)))] hO (bR c4) (by simp only [List.set, gE]) ?_
    intro H hO
    replace hN : List.length (List.set aA (Int.toNat i6) (gD aA j7)) = N0 := by simpa using hN
    obtain ⟨c5, h1⟩ := aS h1
    refine bZ 15 [0 ≤ j7 ∧ j7 < (lN aA)] ⟨c5, trivial⟩ ?_
    refine kB 0 lo0p 1 (0 + Int.toNat j7) (eI (gD (List.set aA (Int.toNat i6) (gD aA j7)) j7)) (eI (gD aA i6)) (List.map (eI) (List.set aA (Int.toNat i6) (gD aA j7))) [(lo0p, 1, List.map (eI) (List.set (List.set aA (Int.toNat i6) (gD aA j7)) (Int.toNat j7) (gD aA i6)))] hO (mK c5 (by simp [])) (by simp only [List.set, gE]) ?_
    intro H hO
    replace hN : List.length (List.set (List.set aA (Int.toNat i6) (gD aA j7)) (Int.toNat j7) (gD aA i6)) = N0 := by simpa using hN
    refine mH (by kernel_rfl) ?_
    refine dA (l := [(0, (.msl 1 lo0p 0 (List.length (List.set (List.set aA (Int.toNat i6) (gD aA j7)) (Int.toNat j7) (gD aA i6))))), (6, (eI i6)), (7, (eI j7))]) ⟨[(0, (.msl 1 lo0p 0 (List.length aA))), (6, (eI i6)), (7, (eI j7))], by kernel_rfl, rfl, ⟨aO.eq (by simp []), aO.refl _, aO.refl _, trivial⟩⟩ ?_
    refine aG (aF (?_))
    refine aR aC 3 [6] [(6, (eI (wR (i6 + (1 : Int)))))] ?_
    refine aU aC 3 ?_
    refine bA ?_
    exact aG (aW (aF (⟨rfl, _, (oI h1).symm, .eq (by kernel_rfl), hO, hN⟩)))
  refine fB 0 ?_
  obtain rfl := oI h1
  obtain rfl : _ = rr0 := ho0
  replace h0 : some aA = some r := h0
  obtain rfl := oI h0
  exact aG (aT (aT (bO (xL (x := (.tup [])) (by kernel_rfl) (aO.refl _) ⟨rfl, hO.ext, hO.at 0 (by kernel_rfl), by first | rfl | (simp only [List.length_map]; exact hN.trans hN0)⟩))))

theorem qU (lo0p : Nat) (aA : (List Int)) (a1 : Int) (b2 : Int) (r : (Bool × List Int)) (h0 : eO aA a1 b2 = some r) : mU Try.prog 84 lo0p 1 (List.map (eI) aA) (List.map (eI) r.2) [(.msl 1 lo0p 0 (List.length aA)), (eI a1), (eI b2)] (aE r.1) := by
  intro H0 hl0
  refine cZ Try.func84 ?_
  have hO := aL.rC hl0
  clear hl0
  obtain ⟨N0, hN0⟩ : ∃ n, n = List.length aA := ⟨_, rfl⟩
  have hN : List.length aA = N0 := hN0.symm
  unfold eO at h0
  refine aR aC 1 [] [] ?_
  refine aR aC 3 [] [(7, (eI (wR (a1 + (1 : Int)))))] ?_
  refine dZ (fun T H => ∃ aA : List Int, Has T [(0, (.msl 1 lo0p 0 (List.length aA)))] ∧ aL ⟨H0, [lo0p], []⟩ H [(lo0p, 1, List.map (eI) aA)] ∧ List.length aA = N0 ∧ eC aA = some r) ?_ ?_
  · clear hO hN h0
    rintro T H ⟨aA, hT, hO, hN, h0⟩
    refine aZ hT ?_
    clear hT
    unfold eC at h0
    refine aR aC 1 [] [(6, (aE false))] ?_
    refine bD ?_
    obtain rfl := oI h0
    exact aG (lA (x := (aE false)) (by kernel_rfl) (aO.refl _) ⟨rfl, hO.ext, hO.at 0 (by kernel_rfl), by first | rfl | (simp only [List.length_map]; exact hN.trans hN0)⟩)
  refine aR aC 1 [] [(8, (eI (0 : Int)))] ?_
  refine bX 0 ?_
  refine fG [(0, (.msl 1 lo0p 0 (List.length aA))), (1, (eI a1)), (2, (eI b2)), (7, (eI (wR (a1 + (1 : Int))))), (8, (eI (0 : Int)))] ?_
  refine dS (fun T H => ∃ aA : List Int, ∃ i7 : Int, ∃ j8 : Int, Has T [(0, (.msl 1 lo0p 0 (List.length aA))), (1, (eI a1)), (2, (eI b2)), (7, (eI i7)), (8, (eI j8))] ∧ aL ⟨H0, [lo0p], []⟩ H [(lo0p, 1, List.map (eI) aA)] ∧ List.length aA = N0 ∧ fU aA a1 b2 i7 j8 = some r) ?_ ⟨aA, wR (a1 + (1 : Int)), (0 : Int), .eq (by kernel_rfl), hO, hN, h0⟩
  clear hO hN h0
  rintro T H ⟨aA, i7, j8, hT, hO, hN, h0⟩
  refine aZ hT ?_
  clear hT
  unfold fU at h0
  obtain ⟨rr0, hl0, h0⟩ := aV h0
  refine cQ (by kernel_rfl) (fun (s : List Int × Int × Int) T H => Has T [(0, (.msl 1 lo0p 0 (List.length s.1))), (1, (eI a1)), (2, (eI b2)), (7, (eI s.2.1)), (8, (eI s.2.2))] ∧ aL ⟨H0, [lo0p], []⟩ H [(lo0p, 1, List.map (eI) s.1)] ∧ List.length s.1 = N0) hl0 ⟨.eq (by kernel_rfl), hO, hN⟩ ?_
  clear hO hN
  rintro k0 s out1 T H ⟨hT, hO, hN⟩ h1 ho0
  obtain ⟨aA, i7, j8⟩ := s
  replace h1 : bV a1 b2 aA i7 j8 = some out1 := h1
  try dsimp only at hT
  refine aZ hT ?_
  clear hT
  unfold bV at h1
  refine aN ?_
  refine aR aC 2 [] [(14, (aE (decide (j8 < (5 : Int)))))] ?_
  refine bE h1 (fun h1 => ?_) (fun h1 => ?_)
  · refine bF ?_
    refine bB [(0, (.msl 1 lo0p 0 (List.length aA))), (1, (eI a1)), (2, (eI b2)), (7, (eI i7)), (8, (eI j8))] ?_
    refine dZ (fun T H => ∃ aA : List Int, ∃ i7 : Int, Has T [(0, (.msl 1 lo0p 0 (List.length aA))), (1, (eI a1)), (2, (eI b2)), (7, (eI i7)), (8, (eI j8))] ∧ aL ⟨H0, [lo0p], []⟩ H [(lo0p, 1, List.map (eI) aA)] ∧ List.length aA = N0 ∧ dK aA a1 b2 i7 j8 = some out1) ?_ ?_
    · clear hO hN h1
      rintro T H ⟨aA, i7, hT, hO, hN, h1⟩
      refine aZ hT ?_
      clear hT
      unfold dK at h1
      refine aU aC 3 ?_
      refine bA ?_
      exact aG (aF (⟨rfl, _, (oI h1).symm, .eq (by kernel_rfl), hO, hN⟩))
    refine bX 1 ?_
    refine dZ (fun T H => ∃ aA : List Int, ∃ i7 : Int, Has T [(0, (.msl 1 lo0p 0 (List.length aA))), (1, (eI a1)), (2, (eI b2)), (7, (eI i7)), (8, (eI j8))] ∧ aL ⟨H0, [lo0p], []⟩ H [(lo0p, 1, List.map (eI) aA)] ∧ List.length aA = N0 ∧ eD aA a1 b2 i7 j8 = some out1) ?_ ?_
    · clear hO hN h1
      rintro T H ⟨aA, i7, hT, hO, hN, h1⟩
      refine aZ hT ?_
      clear hT
      unfold eD at h1
      refine aN ?_
      refine aR aC 3 [] [(37, (aE (decide (i7 = b2))))] ?_
      refine bE h1 (fun h1 => ?_) (fun h1 => ?_)
      · refine aR aC 1 [1, 2, 7, 8, 37] [(6, (aE true))] ?_
        refine bD ?_
        obtain rfl := oI h1
        obtain rfl : _ = rr0 := ho0
        replace h0 : some (true, aA) = some r := h0
        obtain rfl := oI h0
        exact aG (aP (bI (aP (aP (bI (aP (lA (x := (aE true)) (by kernel_rfl) (aO.refl _) ⟨rfl, hO.ext, hO.at 0 (by kernel_rfl), by first | rfl | (simp only [List.length_map]; exact hN.trans hN0)⟩)))))))
      refine bF ?_
      refine bB [(0, (.msl 1 lo0p 0 (List.length aA))), (1, (eI a1)), (2, (eI b2)), (7, (eI i7)), (8, (eI j8))] ?_
      refine aN ?_
      refine aR aC 4 [] [(41, (aE (decide ((wR (b2 - a1)) < (50 : Int)))))] ?_
      refine bE h1 (fun h1 => ?_) (fun h1 => ?_)
      · refine aR aC 1 [1, 2, 7, 8, 41] [(6, (aE false))] ?_
        refine bD ?_
        obtain rfl := oI h1
        obtain rfl : _ = rr0 := ho0
        replace h0 : some (false, aA) = some r := h0
        obtain rfl := oI h0
        exact aG (aP (bI (aP (aP (bI (aP (lA (x := (aE false)) (by kernel_rfl) (aO.refl _) ⟨rfl, hO.ext, hO.at 0 (by kernel_rfl), by first | rfl | (simp only [List.length_map]; exact hN.trans hN0)⟩)))))))
      refine bF ?_
      refine bB [(0, (.msl 1 lo0p 0 (List.length aA))), (1, (eI a1)), (2, (eI b2)), (7, (eI i7)), (8, (eI j8))] ?_
      refine aN ?_
      refine eM (eK []) aC 18 ?_
      obtain ⟨c4, h1⟩ := aS h1
      refine bZ 9 [0 ≤ (wR (i7 - (1 : Int))) ∧ (wR (i7 - (1 : Int))) < (lN aA)] ⟨c4, trivial⟩ ?_
      refine fL 0 lo0p 1 (0 + Int.toNat (wR (i7 - (1 : Int)))) (eI (gD aA (wR (i7 - (1 : Int))))) (eI (gD aA (wR (i7 - (1 : Int))))) (List.map (eI) aA) hO (bR c4) ?_
      obtain ⟨c5, h1⟩ := aS h1
      refine bZ 13 [0 ≤ i7 ∧ i7 < (lN aA)] ⟨c5, trivial⟩ ?_
      refine fL 0 lo0p 1 (0 + Int.toNat i7) (eI (gD aA i7)) (eI (gD aA i7)) (List.map (eI) aA) hO (bR c5) ?_
      obtain ⟨c6, h1⟩ := aS h1
      refine bZ 15 [0 ≤ i7 ∧ i7 < (lN aA)] ⟨c6, trivial⟩ ?_
      refine kB 0 lo0p 1 (0 + Int.toNat i7) (eI (gD aA i7)) (eI (gD aA (wR (i7 - (1 : Int))))) (List.map (eI) aA) [(lo0p, 1, List.map (eI) (List.set aA (Int.toNat i7) (gD aA (wR (i7 - (1 : Int))))))] hO (bR c6) (by simp only [List.set, gE]) ?_
      intro H hO
      replace hN : List.length (List.set aA (Int.toNat i7) (gD aA (wR (i7 - (1 : Int))))) = N0 := by simpa using hN
      obtain ⟨c7, h1⟩ := aS h1
      refine bZ 17 [0 ≤ (wR (i7 - (1 : Int))) ∧ (wR (i7 - (1 : Int))) < (lN aA)] ⟨c7, trivial⟩ ?_
      refine kB 0 lo0p 1 (0 + Int.toNat (wR (i7 - (1 : Int)))) (eI (gD (List.set aA (Int.toNat i7) (gD aA (wR (i7 - (1 : Int))))) (wR (i7 - (1 : Int))))) (eI (gD aA i7)) (List.map (eI) (List.set aA (Int.toNat i7) (gD aA (wR (i7 - (1 : Int)))))) [(lo0p, 1, List.map (eI) (List.set (List.set aA (Int.toNat i7) (gD aA (wR (i7 - (1 : Int))))) (Int.toNat (wR (i7 - (1 : Int)))) (gD aA i7)))] hO (mK c7 (by simp [])) (by simp only [List.set, gE]) ?_
      intro H hO
      replace hN : List.length (List.set (List.set aA (Int.toNat i7) (gD aA (wR (i7 - (1 : Int))))) (Int.toNat (wR (i7 - (1 : Int)))) (gD aA i7)) = N0 := by simpa using hN
      refine mH (by kernel_rfl) ?_
      refine dA (l := [(0, (.msl 1 lo0p 0 (List.length (List.set (List.set aA (Int.toNat i7) (gD aA (wR (i7 - (1 : Int))))) (Int.toNat (wR (i7 - (1 : Int)))) (gD aA i7))))), (1, (eI a1)), (2, (eI b2)), (7, (eI i7)), (8, (eI j8))]) ⟨[(0, (.msl 1 lo0p 0 (List.length aA))), (1, (eI a1)), (2, (eI b2)), (7, (eI i7)), (8, (eI j8))], by kernel_rfl, rfl, ⟨aO.eq (by simp []), aO.refl _, aO.refl _, aO.refl _, aO.refl _, trivial⟩⟩ ?_
      refine aG (aF (?_))
      refine dZ (fun T H => ∃ aA : List Int, Has T [(0, (.msl 1 lo0p 0 (List.length aA))), (1, (eI a1)), (2, (eI b2)), (7, (eI i7)), (8, (eI j8))] ∧ aL ⟨H0, [lo0p], []⟩ H [(lo0p, 1, List.map (eI) aA)] ∧ List.length aA = N0 ∧ cD aA a1 b2 i7 j8 = some out1) ?_ ?_
      · clear hO hN h1
        rintro T H ⟨aA, hT, hO, hN, h1⟩
        refine aZ hT ?_
        clear hT
        unfold cD at h1
        refine aR aC 4 [] [(98, (aE (decide ((2 : Int) ≤ (wR (b2 - i7))))))] ?_
        refine bE h1 (fun h1 => ?_) (fun h1 => ?_)
        · refine aR aC 3 [98] [(10, (eI (wR (i7 + (1 : Int)))))] ?_
          refine bX 6 ?_
          refine fG [(0, (.msl 1 lo0p 0 (List.length aA))), (1, (eI a1)), (2, (eI b2)), (7, (eI i7)), (8, (eI j8)), (10, (eI (wR (i7 + (1 : Int)))))] ?_
          refine dS (fun T H => ∃ aA : List Int, ∃ j10 : Int, Has T [(0, (.msl 1 lo0p 0 (List.length aA))), (1, (eI a1)), (2, (eI b2)), (7, (eI i7)), (8, (eI j8)), (10, (eI j10))] ∧ aL ⟨H0, [lo0p], []⟩ H [(lo0p, 1, List.map (eI) aA)] ∧ List.length aA = N0 ∧ fV aA a1 b2 i7 j8 j10 = some out1) ?_ ⟨aA, wR (i7 + (1 : Int)), .eq (by kernel_rfl), hO, hN, h1⟩
          clear hO hN h1
          rintro T H ⟨aA, j10, hT, hO, hN, h1⟩
          refine aZ hT ?_
          clear hT
          unfold fV at h1
          obtain ⟨rr1, hl1, h1⟩ := aV h1
          refine cQ (by kernel_rfl) (fun (s : List Int × Int) T H => Has T [(0, (.msl 1 lo0p 0 (List.length s.1))), (1, (eI a1)), (2, (eI b2)), (7, (eI i7)), (8, (eI j8)), (10, (eI s.2))] ∧ aL ⟨H0, [lo0p], []⟩ H [(lo0p, 1, List.map (eI) s.1)] ∧ List.length s.1 = N0) hl1 ⟨.eq (by kernel_rfl), hO, hN⟩ ?_
          clear hO hN
          rintro k1 s out2 T H ⟨hT, hO, hN⟩ h2 ho1
          obtain ⟨aA, j10⟩ := s
          replace h2 : cL a1 b2 i7 j8 aA j10 = some out2 := h2
          try dsimp only at hT
          refine aZ hT ?_
          clear hT
          unfold cL at h2
          refine aN ?_
          refine aR aC 3 [] [(103, (aE (decide (j10 < b2))))] ?_
          refine bE h2 (fun h2 => ?_) (fun h2 => ?_)
          · refine bF ?_
            refine bB [(0, (.msl 1 lo0p 0 (List.length aA))), (1, (eI a1)), (2, (eI b2)), (7, (eI i7)), (8, (eI j8)), (10, (eI j10))] ?_
            refine aN ?_
            refine bX 7 ?_
            refine aN ?_
            refine aN ?_
            refine eM (eK [115]) aC 11 ?_
            obtain ⟨c10, h2⟩ := aS h2
            refine bZ 3 [0 ≤ j10 ∧ j10 < (lN aA)] ⟨c10, trivial⟩ ?_
            refine fL 0 lo0p 1 (0 + Int.toNat j10) (eI (gD aA j10)) (eI (gD aA j10)) (List.map (eI) aA) hO (bR c10) ?_
            obtain ⟨c11, h2⟩ := aS h2
            refine bZ 8 [0 ≤ (wR (j10 - (1 : Int))) ∧ (wR (j10 - (1 : Int))) < (lN aA)] ⟨c11, trivial⟩ ?_
            refine fL 0 lo0p 1 (0 + Int.toNat (wR (j10 - (1 : Int)))) (eI (gD aA (wR (j10 - (1 : Int))))) (eI (gD aA (wR (j10 - (1 : Int))))) (List.map (eI) aA) hO (bR c11) ?_
            obtain ⟨x12, hx13, h2⟩ := aV h2
            refine BV (fE (gD aA j10) (gD aA (wR (j10 - (1 : Int)))) _ hx13) hO ?_
            intro H hO
            refine iH ?_
            refine bP [] [(116, (aE (!x12)))] ?_
            refine bE h2 (fun h2 => ?_) (fun h2 => ?_)
            · refine fB 6 ?_
              obtain rfl := oI h2
              obtain rfl : _ = rr1 := ho1
              replace h1 : dK aA a1 b2 i7 j8 = some out1 := h1
              exact aG (aT (uA (by kernel_rfl) (aT (aT (bO (aW (aF (⟨rfl, _, _, .eq (by kernel_rfl), hO, hN, h1⟩))))))))
            refine bF ?_
            refine bB [(0, (.msl 1 lo0p 0 (List.length aA))), (1, (eI a1)), (2, (eI b2)), (7, (eI i7)), (8, (eI j8)), (10, (eI j10))] ?_
            refine eM (eK []) aC 18 ?_
            obtain ⟨c16, h2⟩ := aS h2
            refine bZ 9 [0 ≤ (wR (j10 - (1 : Int))) ∧ (wR (j10 - (1 : Int))) < (lN aA)] ⟨c16, trivial⟩ ?_
            refine fL 0 lo0p 1 (0 + Int.toNat (wR (j10 - (1 : Int)))) (eI (gD aA (wR (j10 - (1 : Int))))) (eI (gD aA (wR (j10 - (1 : Int))))) (List.map (eI) aA) hO (bR c16) ?_
            obtain ⟨c17, h2⟩ := aS h2
            refine bZ 13 [0 ≤ j10 ∧ j10 < (lN aA)] ⟨c17, trivial⟩ ?_
            refine fL 0 lo0p 1 (0 + Int.toNat j10) (eI (gD aA j10)) (eI (gD aA j10)) (List.map (eI) aA) hO (bR c17) ?_
            obtain ⟨c18, h2⟩ := aS h2
            refine bZ 15 [0 ≤ j10 ∧ j10 < (lN aA)] ⟨c18, trivial⟩ ?_
            refine kB 0 lo0p 1 (0 + Int.toNat j10) (eI (gD aA j10)) (eI (gD aA (wR (j10 - (1 : Int))))) (List.map (eI) aA) [(lo0p, 1, List.map (eI) (List.set aA (Int.toNat j10) (gD aA (wR (j10 - (1 : Int))))))] hO (bR c18) (by simp only [List.set, gE]) ?_
            intro H hO
            replace hN : List.length (List.set aA (Int.toNat j10) (gD aA (wR (j10 - (1 : Int))))) = N0 := by simpa using hN
            obtain ⟨c19, h2⟩ := aS h2
            refine bZ 17 [0 ≤ (wR (j10 - (1 : Int))) ∧ (wR (j10 - (1 : Int))) < (lN aA)] ⟨c19, trivial⟩ ?_
            refine kB 0 lo0p 1 (0 + Int.toNat (wR (j10 - (1 : Int)))) (eI (gD (List.set aA (Int.toNat j10) (gD aA (wR (j10 - (1 : Int))))) (wR (j10 - (1 : Int))))) (eI (gD aA j10)) (List.map (eI) (List.set aA (Int.toNat j10) (gD aA (wR (j10 - (1 : Int)))))) [(lo0p, 1, List.map (eI) (List.set (List.set aA (Int.toNat j10) (gD aA (wR (j10 - (1 : Int))))) (Int.toNat (wR (j10 - (1 : Int)))) (gD aA j10)))] hO (mK c19 (by simp [])) (by simp only [List.set, gE]) ?_
            intro H hO
            replace hN : List.length (List.set (List.set aA (Int.toNat j10) (gD aA (wR (j10 - (1 : Int))))) (Int.toNat (wR (j10 - (1 : Int)))) (gD aA j10)) = N0 := by simpa using hN
            refine mH (by kernel_rfl) ?_
            refine dA (l := [(0, (.msl 1 lo0p 0 (List.length (List.set (List.set aA (Int.toNat j10) (gD aA (wR (j10 - (1 : Int))))) (Int.toNat (wR (j10 - (1 : Int)))) (gD aA j10))))), (1, (eI a1)), (2, (eI b2)), (7, (eI i7)), (8, (eI j8)), (10, (eI j10))]) ⟨[(0, (.msl 1 lo0p 0 (List.length aA))), (1, (eI a1)), (2, (eI b2)), (7, (eI i7)), (8, (eI j8)), (10, (eI j10))], by kernel_rfl, rfl, ⟨aO.eq (by simp []), aO.refl _, aO.refl _, aO.refl _, aO.refl _, aO.refl _, trivial⟩⟩ ?_
            refine aG (aW (aF (?_)))
            refine aU aC 3 ?_
            refine bA ?_
            exact aG (aF (⟨rfl, _, (oI h2).symm, .eq (by kernel_rfl), hO, hN⟩))
          refine fB 6 ?_
          obtain rfl := oI h2
          obtain rfl : _ = rr1 := ho1
          replace h1 : dK aA a1 b2 i7 j8 = some out1 := h1
          exact aG (aT (aT (bO (aW (aF (⟨rfl, _, _, .eq (by kernel_rfl), hO, hN, h1⟩))))))
        refine bF ?_
        exact aG (aW (aF (⟨rfl, _, _, .eq (by kernel_rfl), hO, hN, h1⟩)))
      refine aR aC 4 [] [(61, (aE (decide ((2 : Int) ≤ (wR (i7 - a1))))))] ?_
      refine bE h1 (fun h1 => ?_) (fun h1 => ?_)
      · refine aR aC 3 [61] [(9, (eI (wR (i7 - (1 : Int)))))] ?_
        refine bX 4 ?_
        refine fG [(0, (.msl 1 lo0p 0 (List.length (List.set (List.set aA (Int.toNat i7) (gD aA (wR (i7 - (1 : Int))))) (Int.toNat (wR (i7 - (1 : Int)))) (gD aA i7))))), (1, (eI a1)), (2, (eI b2)), (7, (eI i7)), (8, (eI j8)), (9, (eI (wR (i7 - (1 : Int)))))] ?_
        refine dS (fun T H => ∃ aA : List Int, ∃ j9 : Int, Has T [(0, (.msl 1 lo0p 0 (List.length aA))), (1, (eI a1)), (2, (eI b2)), (7, (eI i7)), (8, (eI j8)), (9, (eI j9))] ∧ aL ⟨H0, [lo0p], []⟩ H [(lo0p, 1, List.map (eI) aA)] ∧ List.length aA = N0 ∧ fT aA a1 b2 i7 j8 j9 = some out1) ?_ ⟨List.set (List.set aA (Int.toNat i7) (gD aA (wR (i7 - (1 : Int))))) (Int.toNat (wR (i7 - (1 : Int)))) (gD aA i7), wR (i7 - (1 : Int)), .eq (by kernel_rfl), hO, hN, h1⟩
        clear hO hN h1
        rintro T H ⟨aA, j9, hT, hO, hN, h1⟩
        refine aZ hT ?_
        clear hT
        unfold fT at h1
        obtain ⟨rr1, hl1, h1⟩ := aV h1
        refine cQ (by kernel_rfl) (fun (s : List Int × Int) T H => Has T [(0, (.msl 1 lo0p 0 (List.length s.1))), (1, (eI a1)), (2, (eI b2)), (7, (eI i7)), (8, (eI j8)), (9, (eI s.2))] ∧ aL ⟨H0, [lo0p], []⟩ H [(lo0p, 1, List.map (eI) s.1)] ∧ List.length s.1 = N0) hl1 ⟨.eq (by kernel_rfl), hO, hN⟩ ?_
        clear hO hN
        rintro k1 s out2 T H ⟨hT, hO, hN⟩ h2 ho1
        obtain ⟨aA, j9⟩ := s
        replace h2 : cE a1 b2 i7 j8 aA j9 = some out2 := h2
        try dsimp only at hT
        refine aZ hT ?_
        clear hT
        unfold cE at h2
        refine aN ?_
        refine aR aC 2 [] [(65, (aE (decide ((1 : Int) ≤ j9))))] ?_
        refine bE h2 (fun h2 => ?_) (fun h2 => ?_)
        · refine bF ?_
          refine bB [(0, (.msl 1 lo0p 0 (List.length aA))), (1, (eI a1)), (2, (eI b2)), (7, (eI i7)), (8, (eI j8)), (9, (eI j9))] ?_
          refine aN ?_
          refine bX 5 ?_
          refine aN ?_
          refine aN ?_
          refine eM (eK [77]) aC 11 ?_
          obtain ⟨c22, h2⟩ := aS h2
          refine bZ 3 [0 ≤ j9 ∧ j9 < (lN aA)] ⟨c22, trivial⟩ ?_
          refine fL 0 lo0p 1 (0 + Int.toNat j9) (eI (gD aA j9)) (eI (gD aA j9)) (List.map (eI) aA) hO (bR c22) ?_
          obtain ⟨c23, h2⟩ := aS h2
          refine bZ 8 [0 ≤ (wR (j9 - (1 : Int))) ∧ (wR (j9 - (1 : Int))) < (lN aA)] ⟨c23, trivial⟩ ?_
          refine fL 0 lo0p 1 (0 + Int.toNat (wR (j9 - (1 : Int)))) (eI (gD aA (wR (j9 - (1 : Int))))) (eI (gD aA (wR (j9 - (1 : Int))))) (List.map (eI) aA) hO (bR c23) ?_
          obtain ⟨x24, hx25, h2⟩ := aV h2
          refine BV (fE (gD aA j9) (gD aA (wR (j9 - (1 : Int)))) _ hx25) hO ?_
          intro H hO
          refine iH ?_
          refine bP [] [(78, (aE (!x24)))] ?_
          refine bE h2 (fun h2 => ?_) (fun h2 => ?_)
          · refine fB 4 ?_
            obtain rfl := oI h2
            obtain rfl : _ = rr1 := ho1
            replace h1 : cD aA a1 b2 i7 j8 = some out1 := h1
            exact aG (aT (uA (by kernel_rfl) (aT (aT (bO (aF (⟨rfl, _, .eq (by kernel_rfl), hO, hN, h1⟩)))))))
          refine bF ?_
          refine bB [(0, (.msl 1 lo0p 0 (List.length aA))), (1, (eI a1)), (2, (eI b2)), (7, (eI i7)), (8, (eI j8)), (9, (eI j9))] ?_
          refine eM (eK []) aC 18 ?_
          obtain ⟨c28, h2⟩ := aS h2
          refine bZ 9 [0 ≤ (wR (j9 - (1 : Int))) ∧ (wR (j9 - (1 : Int))) < (lN aA)] ⟨c28, trivial⟩ ?_
          refine fL 0 lo0p 1 (0 + Int.toNat (wR (j9 - (1 : Int)))) (eI (gD aA (wR (j9 - (1 : Int))))) (eI (gD aA (wR (j9 - (1 : Int))))) (List.map (eI) aA) hO (bR c28) ?_
          obtain ⟨c29, h2⟩ := aS h2
          refine bZ 13 [0 ≤ j9 ∧ j9 < (lN aA)] ⟨c29, trivial⟩ ?_
          refine fL 0 lo0p 1 (0 + Int.toNat j9) (eI (gD aA j9)) (eI (gD aA j9)) (List.map (eI) aA) hO (bR c29) ?_
          obtain ⟨c30, h2⟩ := aS h2
          refine bZ 15 [0 ≤ j9 ∧ j9 < (lN aA)] ⟨c30, trivial⟩ ?_
          refine kB 0 lo0p 1 (0 + Int.toNat j9) (eI (gD aA j9)) (eI (gD aA (wR (j9 - (1 : Int))))) (List.map (eI) aA) [(lo0p, 1, List.map (eI) (List.set aA (Int.toNat j9) (gD aA (wR (j9 - (1 : Int))))))] hO (bR c30) (by simp only [List.set, gE]) ?_
          intro H hO
          replace hN : List.length (List.set aA (Int.toNat j9) (gD aA (wR (j9 - (1 : Int))))) = N0 := by simpa using hN
          obtain ⟨c31, h2⟩ := aS h2
          refine bZ 17 [0 ≤ (wR (j9 - (1 : Int))) ∧ (wR (j9 - (1 : Int))) < (lN aA)] ⟨c31, trivial⟩ ?_
          refine kB 0 lo0p 1 (0 + Int.toNat (wR (j9 - (1 : Int)))) (eI (gD (List.set aA (Int.toNat j9) (gD aA (wR (j9 - (1 : Int))))) (wR (j9 - (1 : Int))))) (eI (gD aA j9)) (List.map (eI) (List.set aA (Int.toNat j9) (gD aA (wR (j9 - (1 : Int)))))) [(lo0p, 1, List.map (eI) (List.set (List.set aA (Int.toNat j9) (gD aA (wR (j9 - (1 : Int))))) (Int.toNat (wR (j9 - (1 : Int)))) (gD aA j9)))] hO (mK c31 (by simp [])) (by simp only [List.set, gE]) ?_
          intro H hO
          replace hN : List.length (List.set (List.set aA (Int.toNat j9) (gD aA (wR (j9 - (1 : Int))))) (Int.toNat (wR (j9 - (1 : Int)))) (gD aA j9)) = N0 := by simpa using hN
          refine mH (by kernel_rfl) ?_
          refine dA (l := [(0, (.msl 1 lo0p 0 (List.length (List.set (List.set aA (Int.toNat j9) (gD aA (wR (j9 - (1 : Int))))) (Int.toNat (wR (j9 - (1 : Int)))) (gD aA j9))))), (1, (eI a1)), (2, (eI b2)), (7, (eI i7)), (8, (eI j8)), (9, (eI j9))]) ⟨[(0, (.msl 1 lo0p 0 (List.length aA))), (1, (eI a1)), (2, (eI b2)), (7, (eI i7)), (8, (eI j8)), (9, (eI j9))], by kernel_rfl, rfl, ⟨aO.eq (by simp []), aO.refl _, aO.refl _, aO.refl _, aO.refl _, aO.refl _, trivial⟩⟩ ?_
          refine aG (aW (aF (?_)))
          refine aU aC 3 ?_
          refine bA ?_
          exact aG (aF (⟨rfl, _, (oI h2).symm, .eq (by kernel_rfl), hO, hN⟩))
        refine fB 4 ?_
        obtain rfl := oI h2
        obtain rfl : _ = rr1 := ho1
        replace h1 : cD aA a1 b2 i7 j8 = some out1 := h1
        exact aG (aT (aT (bO (aF (⟨rfl, _, .eq (by kernel_rfl), hO, hN, h1⟩)))))
      refine bF ?_
      exact aG (aF (⟨rfl, _, .eq (by kernel_rfl), hO, hN, h1⟩))
    refine bX 2 ?_
    refine fG [(0, (.msl 1 lo0p 0 (List.length aA))), (1, (eI a1)), (2, (eI b2)), (7, (eI i7)), (8, (eI j8))] ?_
    refine dS (fun T H => ∃ aA : List Int, ∃ i7 : Int, Has T [(0, (.msl 1 lo0p 0 (List.length aA))), (1, (eI a1)), (2, (eI b2)), (7, (eI i7)), (8, (eI j8))] ∧ aL ⟨H0, [lo0p], []⟩ H [(lo0p, 1, List.map (eI) aA)] ∧ List.length aA = N0 ∧ cW aA a1 b2 i7 j8 = some out1) ?_ ⟨aA, i7, .eq (by kernel_rfl), hO, hN, h1⟩
    clear hO hN h1
    rintro T H ⟨aA, i7, hT, hO, hN, h1⟩
    refine aZ hT ?_
    clear hT
    unfold cW at h1
    obtain ⟨rr1, hl1, h1⟩ := aV h1
    refine cQ (by kernel_rfl) (fun (s : List Int × Int) T H => Has T [(0, (.msl 1 lo0p 0 (List.length s.1))), (1, (eI a1)), (2, (eI b2)), (7, (eI s.2)), (8, (eI j8))] ∧ aL ⟨H0, [lo0p], []⟩ H [(lo0p, 1, List.map (eI) s.1)] ∧ List.length s.1 = N0) hl1 ⟨.eq (by kernel_rfl), hO, hN⟩ ?_
    clear hO hN
    rintro k1 s out2 T H ⟨hT, hO, hN⟩ h2 ho1
    obtain ⟨aA, i7⟩ := s
    replace h2 : cK a1 b2 j8 aA i7 = some out2 := h2
    try dsimp only at hT
    refine aZ hT ?_
    clear hT
    unfold cK at h2
    refine aN ?_
    refine aN ?_
    obtain ⟨c32, h2⟩ := aS h2
    obtain ⟨c33, h2⟩ := aS h2
    obtain ⟨x34, hx35, h2⟩ := aV h2
    refine eM (eK []) aC 16 ?_
    refine mW (K := fun T H => Has (lift T) [(0, (.msl 1 lo0p 0 (List.length aA))), (1, (eI a1)), (2, (eI b2)), (7, (eI i7)), (8, (eI j8)), (32, (aE ((decide (i7 < b2)) && (!x34))))] ∧ aL ⟨H0, [lo0p], []⟩ H [(lo0p, 1, List.map (eI) aA)]) ?_ ?_
    · refine kP 4 ?_
      refine lG (t := 20) (e := decide (i7 < b2)) (by kernel_rfl) (fun hg36 => ?_) (fun hg36 => ?_)
      · refine bZ 7 [0 ≤ i7 ∧ i7 < (lN aA)] ⟨(c32 hg36), trivial⟩ ?_
        refine gZ 0 lo0p 1 (0 + Int.toNat i7) (eI (gD aA i7)) (eI (gD aA i7)) (List.map (eI) aA) (by kernel_rfl) (by kernel_rfl) (by kernel_rfl) hO (by kernel_rfl) (bR (c32 hg36)) ?_
        refine bZ 12 [0 ≤ (wR (i7 - (1 : Int))) ∧ (wR (i7 - (1 : Int))) < (lN aA)] ⟨(c33 hg36), trivial⟩ ?_
        refine gZ 0 lo0p 1 (0 + Int.toNat (wR (i7 - (1 : Int)))) (eI (gD aA (wR (i7 - (1 : Int))))) (eI (gD aA (wR (i7 - (1 : Int))))) (List.map (eI) aA) (by kernel_rfl) (by kernel_rfl) (by kernel_rfl) hO (by kernel_rfl) (bR (c33 hg36)) ?_
        refine mL 70 [(eI (gD aA i7)), (eI (gD aA (wR (i7 - (1 : Int)))))] (aE x34) (by kernel_rfl) (by kernel_rfl) (fE (gD aA i7) (gD aA (wR (i7 - (1 : Int)))) _ (jJ hx35 hg36)) hO ?_
        intro H hO
        refine iH ?_
        exact ⟨⟨[(0, (.msl 1 lo0p 0 (List.length aA))), (1, (eI a1)), (2, (eI b2)), (7, (eI i7)), (8, (eI j8)), (32, (aE (!x34)))], by kernel_rfl, rfl, ⟨aO.refl _, aO.refl _, aO.refl _, aO.refl _, aO.refl _, aO.eq (congrArg aE (jA hg36 rfl).symm), trivial⟩⟩, hO⟩
      refine iH ?_
      exact ⟨⟨[(0, (.msl 1 lo0p 0 (List.length aA))), (1, (eI a1)), (2, (eI b2)), (7, (eI i7)), (8, (eI j8)), (32, (aE false))], by kernel_rfl, rfl, ⟨aO.refl _, aO.refl _, aO.refl _, aO.refl _, aO.refl _, aO.eq (congrArg aE (jA hg36 rfl).symm), trivial⟩⟩, hO⟩
    · rintro T H ⟨hT, hO⟩
      refine dA hT ?_
      clear hT
      refine aG (aF ?_)
      refine bE h2 (fun h2 => ?_) (fun h2 => ?_)
      · refine bF ?_
        refine bB [(0, (.msl 1 lo0p 0 (List.length aA))), (1, (eI a1)), (2, (eI b2)), (7, (eI i7)), (8, (eI j8))] ?_
        refine bX 3 ?_
        refine aU aC 3 ?_
        refine bA ?_
        exact aG (aW (aF (⟨rfl, _, (oI h2).symm, .eq (by kernel_rfl), hO, hN⟩)))
      refine fB 2 ?_
      obtain rfl := oI h2
      obtain rfl : _ = rr1 := ho1
      replace h1 : eD aA a1 b2 i7 j8 = some out1 := h1
      exact aG (aT (aT (bO (aF (⟨rfl, _, _, .eq (by kernel_rfl), hO, hN, h1⟩)))))
  refine fB 0 ?_
  obtain rfl := oI h1
  obtain rfl : _ = rr0 := ho0
  replace h0 : eC aA = some r := h0
  exact aG (aT (aT (bO (aF (⟨rfl, _, .eq (by kernel_rfl), hO, hN, h0⟩)))))

theorem tM (lo0p : Nat) (aA : (List Int)) (a1 : Int) (b2 : Int) (cF : Int) (r : (Int × List Int)) (h0 : eP aA a1 b2 cF = some r) : mU Try.prog 85 lo0p 1 (List.map (eI) aA) (List.map (eI) r.2) [(.msl 1 lo0p 0 (List.length aA)), (eI a1), (eI b2), (eI cF)] (eI r.1) := by
  intro H0 hl0
  refine cZ Try.func85 ?_
  have hO := aL.rC hl0
  clear hl0
  obtain ⟨N0, hN0⟩ : ∃ n, n = List.length aA := ⟨_, rfl⟩
  have hN : List.length aA = N0 := hN0.symm
  unfold eP at h0
  refine aR aC 1 [] [] ?_
  refine aN ?_
  refine eM (eK []) aC 16 ?_
  obtain ⟨c1, h0⟩ := aS h0
  refine bZ 7 [0 ≤ cF ∧ cF < (lN aA)] ⟨c1, trivial⟩ ?_
  refine fL 0 lo0p 1 (0 + Int.toNat cF) (eI (gD aA cF)) (eI (gD aA cF)) (List.map (eI) aA) hO (bR c1) ?_
  obtain ⟨c2, h0⟩ := aS h0
  refine bZ 11 [0 ≤ a1 ∧ a1 < (lN aA)] ⟨c2, trivial⟩ ?_
  refine fL 0 lo0p 1 (0 + Int.toNat a1) (eI (gD aA a1)) (eI (gD aA a1)) (List.map (eI) aA) hO (bR c2) ?_
  obtain ⟨c3, h0⟩ := aS h0
  refine bZ 13 [0 ≤ a1 ∧ a1 < (lN aA)] ⟨c3, trivial⟩ ?_
  refine kB 0 lo0p 1 (0 + Int.toNat a1) (eI (gD aA a1)) (eI (gD aA cF)) (List.map (eI) aA) [(lo0p, 1, List.map (eI) (List.set aA (Int.toNat a1) (gD aA cF)))] hO (bR c3) (by simp only [List.set, gE]) ?_
  intro H hO
  replace hN : List.length (List.set aA (Int.toNat a1) (gD aA cF)) = N0 := by simpa using hN
  obtain ⟨c4, h0⟩ := aS h0
  refine bZ 15 [0 ≤ cF ∧ cF < (lN aA)] ⟨c4, trivial⟩ ?_
  refine kB 0 lo0p 1 (0 + Int.toNat cF) (eI (gD (List.set aA (Int.toNat a1) (gD aA cF)) cF)) (eI (gD aA a1)) (List.map (eI) (List.set aA (Int.toNat a1) (gD aA cF))) [(lo0p, 1, List.map (eI) (List.set (List.set aA (Int.toNat a1) (gD aA cF)) (Int.toNat cF) (gD aA a1)))] hO (mK c4 (by simp [])) (by simp only [List.set, gE]) ?_
  intro H hO
  replace hN : List.length (List.set (List.set aA (Int.toNat a1) (gD aA cF)) (Int.toNat cF) (gD aA a1)) = N0 := by simpa using hN
  refine mH (by kernel_rfl) ?_
  refine dA (l := [(0, (.msl 1 lo0p 0 (List.length (List.set (List.set aA (Int.toNat a1) (gD aA cF)) (Int.toNat cF) (gD aA a1))))), (1, (eI a1)), (2, (eI b2))]) ⟨[(0, (.msl 1 lo0p 0 (List.length aA))), (1, (eI a1)), (2, (eI b2))], by kernel_rfl, rfl, ⟨aO.eq (by simp []), aO.refl _, aO.refl _, trivial⟩⟩ ?_
  refine aG (aF (?_))
  refine aR aC 6 [2] [(9, (eI (wR (a1 + (1 : Int))))), (10, (eI (wR (b2 - (1 : Int)))))] ?_
  refine dZ (fun T H => ∃ aA : List Int, ∃ i9 : Int, Has T [(0, (.msl 1 lo0p 0 (List.length aA))), (9, (eI i9))] ∧ aL ⟨H0, [lo0p], []⟩ H [(lo0p, 1, List.map (eI) aA)] ∧ List.length aA = N0 ∧ iN aA i9 = some r) ?_ ?_
  · clear hO hN h0
    rintro T H ⟨aA, i9, hT, hO, hN, h0⟩
    refine aZ hT ?_
    clear hT
    unfold iN at h0
    refine aR aC 2 [9] [(8, (eI i9))] ?_
    refine bD ?_
    obtain rfl := oI h0
    exact aG (lA (x := (eI i9)) (by kernel_rfl) (aO.refl _) ⟨rfl, hO.ext, hO.at 0 (by kernel_rfl), by first | rfl | (simp only [List.length_map]; exact hN.trans hN0)⟩)
  refine bX 0 ?_
  refine fG [(0, (.msl 1 lo0p 0 (List.length (List.set (List.set aA (Int.toNat a1) (gD aA cF)) (Int.toNat cF) (gD aA a1))))), (1, (eI a1)), (9, (eI (wR (a1 + (1 : Int))))), (10, (eI (wR (b2 - (1 : Int)))))] ?_
  refine dS (fun T H => ∃ aA : List Int, ∃ i9 : Int, ∃ j10 : Int, Has T [(0, (.msl 1 lo0p 0 (List.length aA))), (1, (eI a1)), (9, (eI i9)), (10, (eI j10))] ∧ aL ⟨H0, [lo0p], []⟩ H [(lo0p, 1, List.map (eI) aA)] ∧ List.length aA = N0 ∧ iO aA a1 i9 j10 = some r) ?_ ⟨List.set (List.set aA (Int.toNat a1) (gD aA cF)) (Int.toNat cF) (gD aA a1), wR (a1 + (1 : Int)), wR (b2 - (1 : Int)), .eq (by kernel_rfl), hO, hN, h0⟩
  clear hO hN h0
  rintro T H ⟨aA, i9, j10, hT, hO, hN, h0⟩
  refine aZ hT ?_
  clear hT
  unfold iO at h0
  obtain ⟨rr0, hl0, h0⟩ := aV h0
  refine cQ (by kernel_rfl) (fun (s : List Int × Int × Int) T H => Has T [(0, (.msl 1 lo0p 0 (List.length s.1))), (1, (eI a1)), (9, (eI s.2.1)), (10, (eI s.2.2))] ∧ aL ⟨H0, [lo0p], []⟩ H [(lo0p, 1, List.map (eI) s.1)] ∧ List.length s.1 = N0) hl0 ⟨.eq (by kernel_rfl), hO, hN⟩ ?_
  clear hO hN
  rintro k0 s out1 T H ⟨hT, hO, hN⟩ h1 ho0
  obtain ⟨aA, i9, j10⟩ := s
  replace h1 : cR a1 aA i9 j10 = some out1 := h1
  try dsimp only at hT
  refine aZ hT ?_
  clear hT
  unfold cR at h1
  refine bX 1 ?_
  refine dZ (fun T H => ∃ aA : List Int, ∃ i9 : Int, Has T [(0, (.msl 1 lo0p 0 (List.length aA))), (1, (eI a1)), (9, (eI i9)), (10, (eI j10))] ∧ aL ⟨H0, [lo0p], []⟩ H [(lo0p, 1, List.map (eI) aA)] ∧ List.length aA = N0 ∧ fN aA a1 i9 j10 = some out1) ?_ ?_
  · clear hO hN h1
    rintro T H ⟨aA, i9, hT, hO, hN, h1⟩
    refine aZ hT ?_
    clear hT
    unfold fN at h1
    refine dZ (fun T H => ∃ aA : List Int, ∃ j10 : Int, Has T [(0, (.msl 1 lo0p 0 (List.length aA))), (1, (eI a1)), (9, (eI i9)), (10, (eI j10))] ∧ aL ⟨H0, [lo0p], []⟩ H [(lo0p, 1, List.map (eI) aA)] ∧ List.length aA = N0 ∧ dL aA a1 i9 j10 = some out1) ?_ ?_
    · clear hO hN h1
      rintro T H ⟨aA, j10, hT, hO, hN, h1⟩
      refine aZ hT ?_
      clear hT
      unfold dL at h1
      refine aN ?_
      refine aR aC 3 [] [(64, (aE (decide (j10 < i9))))] ?_
      refine bE h1 (fun h1 => ?_) (fun h1 => ?_)
      · refine fB 0 ?_
        obtain rfl := oI h1
        obtain rfl : _ = rr0 := ho0
        replace h0 : iN aA i9 = some r := h0
        exact aG (aT (uA (by kernel_rfl) (aT (bO (aF (⟨rfl, _, _, .eq (by kernel_rfl), hO, hN, h0⟩))))))
      refine bF ?_
      refine bB [(0, (.msl 1 lo0p 0 (List.length aA))), (1, (eI a1)), (9, (eI i9)), (10, (eI j10))] ?_
      refine aN ?_
      refine eM (eK []) aC 16 ?_
      obtain ⟨c6, h1⟩ := aS h1
      refine bZ 7 [0 ≤ j10 ∧ j10 < (lN aA)] ⟨c6, trivial⟩ ?_
      refine fL 0 lo0p 1 (0 + Int.toNat j10) (eI (gD aA j10)) (eI (gD aA j10)) (List.map (eI) aA) hO (bR c6) ?_
      obtain ⟨c7, h1⟩ := aS h1
      refine bZ 11 [0 ≤ i9 ∧ i9 < (lN aA)] ⟨c7, trivial⟩ ?_
      refine fL 0 lo0p 1 (0 + Int.toNat i9) (eI (gD aA i9)) (eI (gD aA i9)) (List.map (eI) aA) hO (bR c7) ?_
      obtain ⟨c8, h1⟩ := aS h1
      refine bZ 13 [0 ≤ i9 ∧ i9 < (lN aA)] ⟨c8, trivial⟩ ?_
      refine kB 0 lo0p 1 (0 + Int.toNat i9) (eI (gD aA i9)) (eI (gD aA j10)) (List.map (eI) aA) [(lo0p, 1, List.map (eI) (List.set aA (Int.toNat i9) (gD aA j10)))] hO (bR c8) (by simp only [List.set, gE]) ?_
      intro H hO
      replace hN : List.length (List.set aA (Int.toNat i9) (gD aA j10)) = N0 := by simpa using hN
      obtain ⟨c9, h1⟩ := aS h1
      refine bZ 15 [0 ≤ j10 ∧ j10 < (lN aA)] ⟨c9, trivial⟩ ?_
      refine kB 0 lo0p 1 (0 + Int.toNat j10) (eI (gD (List.set aA (Int.toNat i9) (gD aA j10)) j10)) (eI (gD aA i9)) (List.map (eI) (List.set aA (Int.toNat i9) (gD aA j10))) [(lo0p, 1, List.map (eI) (List.set (List.set aA (Int.toNat i9) (gD aA j10)) (Int.toNat j10) (gD aA i9)))] hO (mK c9 (by simp [])) (by simp only [List.set, gE]) ?_
      intro H hO
      replace hN : List.length (List.set (List.set aA (Int.toNat i9) (gD aA j10)) (Int.toNat j10) (gD aA i9)) = N0 := by simpa using hN
      refine mH (by kernel_rfl) ?_
      refine dA (l := [(0, (.msl 1 lo0p 0 (List.length (List.set (List.set aA (Int.toNat i9) (gD aA j10)) (Int.toNat j10) (gD aA i9))))), (1, (eI a1)), (9, (eI i9)), (10, (eI j10))]) ⟨[(0, (.msl 1 lo0p 0 (List.length aA))), (1, (eI a1)), (9, (eI i9)), (10, (eI j10))], by kernel_rfl, rfl, ⟨aO.eq (by simp []), aO.refl _, aO.refl _, aO.refl _, trivial⟩⟩ ?_
      refine aG (aF (?_))
      refine aR aC 3 [9] [(9, (eI (wR (i9 + (1 : Int)))))] ?_
      refine aU aC 3 ?_
      refine bA ?_
      exact aG (aW (aF (⟨rfl, _, (oI h1).symm, .eq (by kernel_rfl), hO, hN⟩)))
    refine bX 4 ?_
    refine fG [(0, (.msl 1 lo0p 0 (List.length aA))), (1, (eI a1)), (9, (eI i9)), (10, (eI j10))] ?_
    refine dS (fun T H => ∃ aA : List Int, ∃ j10 : Int, Has T [(0, (.msl 1 lo0p 0 (List.length aA))), (1, (eI a1)), (9, (eI i9)), (10, (eI j10))] ∧ aL ⟨H0, [lo0p], []⟩ H [(lo0p, 1, List.map (eI) aA)] ∧ List.length aA = N0 ∧ iM aA a1 i9 j10 = some out1) ?_ ⟨aA, j10, .eq (by kernel_rfl), hO, hN, h1⟩
    clear hO hN h1
    rintro T H ⟨aA, j10, hT, hO, hN, h1⟩
    refine aZ hT ?_
    clear hT
    unfold iM at h1
    obtain ⟨rr1, hl1, h1⟩ := aV h1
    refine cQ (by kernel_rfl) (fun (s : List Int × Int) T H => Has T [(0, (.msl 1 lo0p 0 (List.length s.1))), (1, (eI a1)), (9, (eI i9)), (10, (eI s.2))] ∧ aL ⟨H0, [lo0p], []⟩ H [(lo0p, 1, List.map (eI) s.1)] ∧ List.length s.1 = N0) hl1 ⟨.eq (by kernel_rfl), hO, hN⟩ ?_
    clear hO hN
    rintro k1 s out2 T H ⟨hT, hO, hN⟩ h2 ho1
    obtain ⟨aA, j10⟩ := s
    replace h2 : dN a1 i9 aA j10 = some out2 := h2
    try dsimp only at hT
    refine aZ hT ?_
    clear hT
    unfold dN at h2
    refine aN ?_
    refine aN ?_
    obtain ⟨c10, h2⟩ := aS h2
    obtain ⟨c11, h2⟩ := aS h2
    obtain ⟨x12, hx13, h2⟩ := aV h2
    refine eM (eK []) aC 14 ?_
    refine mW (K := fun T H => Has (lift T) [(0, (.msl 1 lo0p 0 (List.length aA))), (1, (eI a1)), (9, (eI i9)), (10, (eI j10)), (59, (aE ((decide (i9 ≤ j10)) && x12)))] ∧ aL ⟨H0, [lo0p], []⟩ H [(lo0p, 1, List.map (eI) aA)]) ?_ ?_
    · refine kP 4 ?_
      refine lG (t := 49) (e := decide (i9 ≤ j10)) (by kernel_rfl) (fun hg14 => ?_) (fun hg14 => ?_)
      · refine bZ 7 [0 ≤ a1 ∧ a1 < (lN aA)] ⟨(c10 hg14), trivial⟩ ?_
        refine gZ 0 lo0p 1 (0 + Int.toNat a1) (eI (gD aA a1)) (eI (gD aA a1)) (List.map (eI) aA) (by kernel_rfl) (by kernel_rfl) (by kernel_rfl) hO (by kernel_rfl) (bR (c10 hg14)) ?_
        refine bZ 11 [0 ≤ j10 ∧ j10 < (lN aA)] ⟨(c11 hg14), trivial⟩ ?_
        refine gZ 0 lo0p 1 (0 + Int.toNat j10) (eI (gD aA j10)) (eI (gD aA j10)) (List.map (eI) aA) (by kernel_rfl) (by kernel_rfl) (by kernel_rfl) hO (by kernel_rfl) (bR (c11 hg14)) ?_
        refine mL 70 [(eI (gD aA a1)), (eI (gD aA j10))] (aE x12) (by kernel_rfl) (by kernel_rfl) (fE (gD aA a1) (gD aA j10) _ (jJ hx13 hg14)) hO ?_
        intro H hO
        refine iH ?_
        exact ⟨⟨[(0, (.msl 1 lo0p 0 (List.length aA))), (1, (eI a1)), (9, (eI i9)), (10, (eI j10)), (59, (aE x12))], by kernel_rfl, rfl, ⟨aO.refl _, aO.refl _, aO.refl _, aO.refl _, aO.eq (congrArg aE (jA hg14 rfl).symm), trivial⟩⟩, hO⟩
      refine iH ?_
      exact ⟨⟨[(0, (.msl 1 lo0p 0 (List.length aA))), (1, (eI a1)), (9, (eI i9)), (10, (eI j10)), (59, (aE false))], by kernel_rfl, rfl, ⟨aO.refl _, aO.refl _, aO.refl _, aO.refl _, aO.eq (congrArg aE (jA hg14 rfl).symm), trivial⟩⟩, hO⟩
    · rintro T H ⟨hT, hO⟩
      refine dA hT ?_
      clear hT
      refine aG (aF ?_)
      refine bE h2 (fun h2 => ?_) (fun h2 => ?_)
      · refine bF ?_
        refine bB [(0, (.msl 1 lo0p 0 (List.length aA))), (1, (eI a1)), (9, (eI i9)), (10, (eI j10))] ?_
        refine bX 5 ?_
        refine aU aC 3 ?_
        refine bA ?_
        exact aG (aW (aF (⟨rfl, _, (oI h2).symm, .eq (by kernel_rfl), hO, hN⟩)))
      refine fB 4 ?_
      obtain rfl := oI h2
      obtain rfl : _ = rr1 := ho1
      replace h1 : dL aA a1 i9 j10 = some out1 := h1
      exact aG (aT (aT (bO (aF (⟨rfl, _, _, .eq (by kernel_rfl), hO, hN, h1⟩)))))
  refine bX 2 ?_
  refine fG [(0, (.msl 1 lo0p 0 (List.length aA))), (1, (eI a1)), (9, (eI i9)), (10, (eI j10))] ?_
  refine dS (fun T H => ∃ aA : List Int, ∃ i9 : Int, Has T [(0, (.msl 1 lo0p 0 (List.length aA))), (1, (eI a1)), (9, (eI i9)), (10, (eI j10))] ∧ aL ⟨H0, [lo0p], []⟩ H [(lo0p, 1, List.map (eI) aA)] ∧ List.length aA = N0 ∧ iK aA a1 i9 j10 = some out1) ?_ ⟨aA, i9, .eq (by kernel_rfl), hO, hN, h1⟩
  clear hO hN h1
  rintro T H ⟨aA, i9, hT, hO, hN, h1⟩
  refine aZ hT ?_
  clear hT
  unfold iK at h1
  obtain ⟨rr1, hl1, h1⟩ := aV h1
  refine cQ (by kernel_rfl) (fun (s : List Int × Int) T H => Has T [(0, (.msl 1 lo0p 0 (List.length s.1))), (1, (eI a1)), (9, (eI s.2)), (10, (eI j10))] ∧ aL ⟨H0, [lo0p], []⟩ H [(lo0p, 1, List.map (eI) s.1)] ∧ List.length s.1 = N0) hl1 ⟨.eq (by kernel_rfl), hO, hN⟩ ?_
  clear hO hN
  rintro k1 s out2 T H ⟨hT, hO, hN⟩ h2 ho1
  obtain ⟨aA, i9⟩ := s
  replace h2 : dM a1 j10 aA i9 = some out2 := h2
  try dsimp only at hT
  refine aZ hT ?_
  clear hT
  unfold dM at h2
  refine aN ?_
  refine aN ?_
  obtain ⟨c16, h2⟩ := aS h2
  obtain ⟨c17, h2⟩ := aS h2
  obtain ⟨x18, hx19, h2⟩ := aV h2
  refine eM (eK []) aC 15 ?_
  refine mW (K := fun T H => Has (lift T) [(0, (.msl 1 lo0p 0 (List.length aA))), (1, (eI a1)), (9, (eI i9)), (10, (eI j10)), (43, (aE ((decide (i9 ≤ j10)) && (!x18))))] ∧ aL ⟨H0, [lo0p], []⟩ H [(lo0p, 1, List.map (eI) aA)]) ?_ ?_
  · refine kP 4 ?_
    refine lG (t := 32) (e := decide (i9 ≤ j10)) (by kernel_rfl) (fun hg20 => ?_) (fun hg20 => ?_)
    · refine bZ 7 [0 ≤ a1 ∧ a1 < (lN aA)] ⟨(c16 hg20), trivial⟩ ?_
      refine gZ 0 lo0p 1 (0 + Int.toNat a1) (eI (gD aA a1)) (eI (gD aA a1)) (List.map (eI) aA) (by kernel_rfl) (by kernel_rfl) (by kernel_rfl) hO (by kernel_rfl) (bR (c16 hg20)) ?_
      refine bZ 11 [0 ≤ i9 ∧ i9 < (lN aA)] ⟨(c17 hg20), trivial⟩ ?_
      refine gZ 0 lo0p 1 (0 + Int.toNat i9) (eI (gD aA i9)) (eI (gD aA i9)) (List.map (eI) aA) (by kernel_rfl) (by kernel_rfl) (by kernel_rfl) hO (by kernel_rfl) (bR (c17 hg20)) ?_
      refine mL 70 [(eI (gD aA a1)), (eI (gD aA i9))] (aE x18) (by kernel_rfl) (by kernel_rfl) (fE (gD aA a1) (gD aA i9) _ (jJ hx19 hg20)) hO ?_
      intro H hO
      refine iH ?_
      exact ⟨⟨[(0, (.msl 1 lo0p 0 (List.length aA))), (1, (eI a1)), (9, (eI i9)), (10, (eI j10)), (43, (aE (!x18)))], by kernel_rfl, rfl, ⟨aO.refl _, aO.refl _, aO.refl _, aO.refl _, aO.eq (congrArg aE (jA hg20 rfl).symm), trivial⟩⟩, hO⟩
    refine iH ?_
    exact ⟨⟨[(0, (.msl 1 lo0p 0 (List.length aA))), (1, (eI a1)), (9, (eI i9)), (10, (eI j10)), (43, (aE false))], by kernel_rfl, rfl, ⟨aO.refl _, aO.refl _, aO.refl _, aO.refl _, aO.eq (congrArg aE (jA hg20 rfl).symm), trivial⟩⟩, hO⟩
  · rintro T H ⟨hT, hO⟩
    refine dA hT ?_
    clear hT
    refine aG (aF ?_)
    refine bE h2 (fun h2 => ?_) (fun h2 => ?_)
    · refine bF ?_
      refine bB [(0, (.msl 1 lo0p 0 (List.length aA))), (1, (eI a1)), (9, (eI i9)), (10, (eI j10))] ?_
      refine bX 3 ?_
      refine aU aC 3 ?_
      refine bA ?_
      exact aG (aW (aF (⟨rfl, _, (oI h2).symm, .eq (by kernel_rfl), hO, hN⟩)))
    refine fB 2 ?_
    obtain rfl := oI h2
    obtain rfl : _ = rr1 := ho1
    replace h1 : fN aA a1 i9 j10 = some out1 := h1
    exact aG (aT (aT (bO (aF (⟨rfl, _, _, .eq (by kernel_rfl), hO, hN, h1⟩)))))

end Go.Abs
namespace Go.Abs
open Go Go.RowKit Go.Proofs
end Go.Abs
