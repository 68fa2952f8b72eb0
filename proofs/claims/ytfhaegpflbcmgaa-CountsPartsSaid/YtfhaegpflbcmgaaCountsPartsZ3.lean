/- What the law CountsParts stands on: the framework, the given functions as plain functions, their walks, and the plain laws; part 3. -/
import Derived.Test.YtfhaegpflbcmgaaCountsPartsZ2
set_option linter.unusedSimpArgs false
set_option linter.unusedVariables false
namespace Go.Abs
open Go
noncomputable def fY (aA : List Int) (a1 : Int) (b2 : Int) (i7 : Int) (j8 : Int) (j10 : Int) : Option ((List Int × Int × Int) ⊕ ((List Int) ⊕ (Bool × (List Int)))) :=
  (lp (fun s => cS a1 b2 i7 j8 s.1 s.2) (aA, j10)).bind (fun rr => dN rr a1 b2 i7 j8)

noncomputable def cK (aA : List Int) (a1 : Int) (b2 : Int) (i7 : Int) (j8 : Int) : Option ((List Int × Int × Int) ⊕ ((List Int) ⊕ (Bool × (List Int)))) :=
  cond (decide ((2 : Int) ≤ (IntKind.i64.wrap (b2 - i7))))
  (fY aA a1 b2 i7 j8 (IntKind.i64.wrap (i7 + (1 : Int))))
  (dN aA a1 b2 i7 j8)

noncomputable def cL (a1 : Int) (b2 : Int) (i7 : Int) (j8 : Int) (aA : List Int) (j9 : Int) : Option ((List Int × Int) ⊕ ((List Int))) :=
  cond (decide ((1 : Int) ≤ j9))
  (bA (0 ≤ j9 ∧ j9 < ((List.length aA : Nat) : Int)) <|
  bA (0 ≤ (IntKind.i64.wrap (j9 - (1 : Int))) ∧ (IntKind.i64.wrap (j9 - (1 : Int))) < ((List.length aA : Nat) : Int)) <|
  (cW (List.getD aA (Int.toNat j9) default) (List.getD aA (Int.toNat (IntKind.i64.wrap (j9 - (1 : Int)))) default)).bind fun x24 =>
  cond (!x24)
  (some (.inr aA))
  (bA (0 ≤ (IntKind.i64.wrap (j9 - (1 : Int))) ∧ (IntKind.i64.wrap (j9 - (1 : Int))) < ((List.length aA : Nat) : Int)) <|
  bA (0 ≤ j9 ∧ j9 < ((List.length aA : Nat) : Int)) <|
  bA (0 ≤ j9 ∧ j9 < ((List.length aA : Nat) : Int)) <|
  bA (0 ≤ (IntKind.i64.wrap (j9 - (1 : Int))) ∧ (IntKind.i64.wrap (j9 - (1 : Int))) < ((List.length aA : Nat) : Int)) <|
  some (.inl (List.set (List.set aA (Int.toNat j9) (List.getD aA (Int.toNat (IntKind.i64.wrap (j9 - (1 : Int)))) default)) (Int.toNat (IntKind.i64.wrap (j9 - (1 : Int)))) (List.getD aA (Int.toNat j9) default), IntKind.i64.wrap (j9 - (1 : Int))))))
  (some (.inr aA))

noncomputable def fW (aA : List Int) (a1 : Int) (b2 : Int) (i7 : Int) (j8 : Int) (j9 : Int) : Option ((List Int × Int × Int) ⊕ ((List Int) ⊕ (Bool × (List Int)))) :=
  (lp (fun s => cL a1 b2 i7 j8 s.1 s.2) (aA, j9)).bind (fun rr => cK rr a1 b2 i7 j8)

noncomputable def eH (aA : List Int) (a1 : Int) (b2 : Int) (i7 : Int) (j8 : Int) : Option ((List Int × Int × Int) ⊕ ((List Int) ⊕ (Bool × (List Int)))) :=
  cond (decide (i7 = b2))
  (some (.inr (.inr (true, aA))))
  (cond (decide ((IntKind.i64.wrap (b2 - a1)) < (50 : Int)))
  (some (.inr (.inr (false, aA))))
  (bA (0 ≤ (IntKind.i64.wrap (i7 - (1 : Int))) ∧ (IntKind.i64.wrap (i7 - (1 : Int))) < ((List.length aA : Nat) : Int)) <|
  bA (0 ≤ i7 ∧ i7 < ((List.length aA : Nat) : Int)) <|
  bA (0 ≤ i7 ∧ i7 < ((List.length aA : Nat) : Int)) <|
  bA (0 ≤ (IntKind.i64.wrap (i7 - (1 : Int))) ∧ (IntKind.i64.wrap (i7 - (1 : Int))) < ((List.length aA : Nat) : Int)) <|
  cond (decide ((2 : Int) ≤ (IntKind.i64.wrap (i7 - a1))))
  (fW (List.set (List.set aA (Int.toNat i7) (List.getD aA (Int.toNat (IntKind.i64.wrap (i7 - (1 : Int)))) default)) (Int.toNat (IntKind.i64.wrap (i7 - (1 : Int)))) (List.getD aA (Int.toNat i7) default)) a1 b2 i7 j8 (IntKind.i64.wrap (i7 - (1 : Int))))
  (cK (List.set (List.set aA (Int.toNat i7) (List.getD aA (Int.toNat (IntKind.i64.wrap (i7 - (1 : Int)))) default)) (Int.toNat (IntKind.i64.wrap (i7 - (1 : Int)))) (List.getD aA (Int.toNat i7) default)) a1 b2 i7 j8)))

noncomputable def cR (a1 : Int) (b2 : Int) (j8 : Int) (aA : List Int) (i7 : Int) : Option ((List Int × Int) ⊕ ((List Int × Int))) :=
  bA ((((decide (i7 < b2))) = true → 0 ≤ i7 ∧ i7 < ((List.length aA : Nat) : Int))) <|
  bA ((((decide (i7 < b2))) = true → 0 ≤ (IntKind.i64.wrap (i7 - (1 : Int))) ∧ (IntKind.i64.wrap (i7 - (1 : Int))) < ((List.length aA : Nat) : Int))) <|
  (cV (decide (i7 < b2)) (cW (List.getD aA (Int.toNat i7) default) (List.getD aA (Int.toNat (IntKind.i64.wrap (i7 - (1 : Int)))) default))).bind fun x34 =>
  cond ((decide (i7 < b2)) && (!x34))
  (some (.inl (aA, IntKind.i64.wrap (i7 + (1 : Int)))))
  (some (.inr (aA, i7)))

noncomputable def dD (aA : List Int) (a1 : Int) (b2 : Int) (i7 : Int) (j8 : Int) : Option ((List Int × Int × Int) ⊕ ((List Int) ⊕ (Bool × (List Int)))) :=
  (lp (fun s => cR a1 b2 j8 s.1 s.2) (aA, i7)).bind (fun rr => eH rr.1 a1 b2 rr.2 j8)

noncomputable def cA (a1 : Int) (b2 : Int) (aA : List Int) (i7 : Int) (j8 : Int) : Option ((List Int × Int × Int) ⊕ ((List Int) ⊕ (Bool × (List Int)))) :=
  cond (decide (j8 < (5 : Int)))
  (dD aA a1 b2 i7 j8)
  (some (.inr (.inl aA)))

noncomputable def fX (aA : List Int) (a1 : Int) (b2 : Int) (i7 : Int) (j8 : Int) : Option (Bool × List Int) :=
  (lp (fun s => cA a1 b2 s.1 s.2.1 s.2.2) (aA, i7, j8)).bind (Sum.elim (fun rr => eJ rr) (fun rr => some (rr.1, rr.2)))

noncomputable def eO (aA : (List Int)) (a1 : Int) (b2 : Int) : Option (Bool × List Int) :=
  fX aA a1 b2 (IntKind.i64.wrap (a1 + (1 : Int))) (0 : Int)

noncomputable def iP (aA : List Int) (i9 : Int) : Option (Int × List Int) :=
  some (i9, aA)

noncomputable def dS (aA : List Int) (a1 : Int) (i9 : Int) (j10 : Int) : Option ((List Int × Int × Int) ⊕ ((List Int × Int))) :=
  cond (decide (j10 < i9))
  (some (.inr (aA, i9)))
  (bA (0 ≤ j10 ∧ j10 < ((List.length aA : Nat) : Int)) <|
  bA (0 ≤ i9 ∧ i9 < ((List.length aA : Nat) : Int)) <|
  bA (0 ≤ i9 ∧ i9 < ((List.length aA : Nat) : Int)) <|
  bA (0 ≤ j10 ∧ j10 < ((List.length aA : Nat) : Int)) <|
  some (.inl (List.set (List.set aA (Int.toNat i9) (List.getD aA (Int.toNat j10) default)) (Int.toNat j10) (List.getD aA (Int.toNat i9) default), IntKind.i64.wrap (i9 + (1 : Int)), IntKind.i64.wrap (j10 - (1 : Int)))))

noncomputable def dQ (a1 : Int) (i9 : Int) (aA : List Int) (j10 : Int) : Option ((List Int × Int) ⊕ ((List Int × Int))) :=
  bA ((((decide (i9 ≤ j10))) = true → 0 ≤ a1 ∧ a1 < ((List.length aA : Nat) : Int))) <|
  bA ((((decide (i9 ≤ j10))) = true → 0 ≤ j10 ∧ j10 < ((List.length aA : Nat) : Int))) <|
  (cV (decide (i9 ≤ j10)) (cW (List.getD aA (Int.toNat a1) default) (List.getD aA (Int.toNat j10) default))).bind fun x12 =>
  cond ((decide (i9 ≤ j10)) && x12)
  (some (.inl (aA, IntKind.i64.wrap (j10 - (1 : Int)))))
  (some (.inr (aA, j10)))

noncomputable def iQ (aA : List Int) (a1 : Int) (i9 : Int) (j10 : Int) : Option ((List Int × Int × Int) ⊕ ((List Int × Int))) :=
  (lp (fun s => dQ a1 i9 s.1 s.2) (aA, j10)).bind (fun rr => dS rr.1 a1 i9 rr.2)

noncomputable def fS (aA : List Int) (a1 : Int) (i9 : Int) (j10 : Int) : Option ((List Int × Int × Int) ⊕ ((List Int × Int))) :=
  iQ aA a1 i9 j10

noncomputable def dP (a1 : Int) (j10 : Int) (aA : List Int) (i9 : Int) : Option ((List Int × Int) ⊕ ((List Int × Int))) :=
  bA ((((decide (i9 ≤ j10))) = true → 0 ≤ a1 ∧ a1 < ((List.length aA : Nat) : Int))) <|
  bA ((((decide (i9 ≤ j10))) = true → 0 ≤ i9 ∧ i9 < ((List.length aA : Nat) : Int))) <|
  (cV (decide (i9 ≤ j10)) (cW (List.getD aA (Int.toNat a1) default) (List.getD aA (Int.toNat i9) default))).bind fun x18 =>
  cond ((decide (i9 ≤ j10)) && (!x18))
  (some (.inl (aA, IntKind.i64.wrap (i9 + (1 : Int)))))
  (some (.inr (aA, i9)))

noncomputable def iU (aA : List Int) (a1 : Int) (i9 : Int) (j10 : Int) : Option ((List Int × Int × Int) ⊕ ((List Int × Int))) :=
  (lp (fun s => dP a1 j10 s.1 s.2) (aA, i9)).bind (fun rr => fS rr.1 a1 rr.2 j10)

noncomputable def cU (a1 : Int) (aA : List Int) (i9 : Int) (j10 : Int) : Option ((List Int × Int × Int) ⊕ ((List Int × Int))) :=
  iU aA a1 i9 j10

noncomputable def iR (aA : List Int) (a1 : Int) (i9 : Int) (j10 : Int) : Option (Int × List Int) :=
  (lp (fun s => cU a1 s.1 s.2.1 s.2.2) (aA, i9, j10)).bind (fun rr => iP rr.1 rr.2)

noncomputable def eU (aA : (List Int)) (a1 : Int) (b2 : Int) (cM : Int) : Option (Int × List Int) :=
  bA (0 ≤ cM ∧ cM < ((List.length aA : Nat) : Int)) <|
  bA (0 ≤ a1 ∧ a1 < ((List.length aA : Nat) : Int)) <|
  bA (0 ≤ a1 ∧ a1 < ((List.length aA : Nat) : Int)) <|
  bA (0 ≤ cM ∧ cM < ((List.length aA : Nat) : Int)) <|
  iR (List.set (List.set aA (Int.toNat a1) (List.getD aA (Int.toNat cM) default)) (Int.toNat cM) (List.getD aA (Int.toNat a1) default)) a1 (IntKind.i64.wrap (a1 + (1 : Int))) (IntKind.i64.wrap (b2 - (1 : Int)))

noncomputable def iE (aA : List Int) (a1 : Int) (j11 : Int) : Option ((Int × Bool) × List Int) :=
  bA (0 ≤ a1 ∧ a1 < ((List.length aA : Nat) : Int)) <|
  bA (0 ≤ j11 ∧ j11 < ((List.length aA : Nat) : Int)) <|
  bA (0 ≤ j11 ∧ j11 < ((List.length aA : Nat) : Int)) <|
  bA (0 ≤ a1 ∧ a1 < ((List.length aA : Nat) : Int)) <|
  some ((j11, false), (List.set (List.set aA (Int.toNat j11) (List.getD aA (Int.toNat a1) default)) (Int.toNat a1) (List.getD aA (Int.toNat j11) default)))

noncomputable def eM (aA : List Int) (a1 : Int) (i10 : Int) (j11 : Int) : Option ((List Int × Int × Int) ⊕ ((List Int × Int))) :=
  cond (decide (j11 < i10))
  (some (.inr (aA, j11)))
  (bA (0 ≤ j11 ∧ j11 < ((List.length aA : Nat) : Int)) <|
  bA (0 ≤ i10 ∧ i10 < ((List.length aA : Nat) : Int)) <|
  bA (0 ≤ i10 ∧ i10 < ((List.length aA : Nat) : Int)) <|
  bA (0 ≤ j11 ∧ j11 < ((List.length aA : Nat) : Int)) <|
  some (.inl (List.set (List.set aA (Int.toNat i10) (List.getD aA (Int.toNat j11) default)) (Int.toNat j11) (List.getD aA (Int.toNat i10) default), IntKind.i64.wrap (i10 + (1 : Int)), IntKind.i64.wrap (j11 - (1 : Int)))))

noncomputable def eS (a1 : Int) (i10 : Int) (aA : List Int) (j11 : Int) : Option ((List Int × Int) ⊕ ((List Int × Int))) :=
  bA ((((decide (i10 ≤ j11))) = true → 0 ≤ j11 ∧ j11 < ((List.length aA : Nat) : Int))) <|
  bA ((((decide (i10 ≤ j11))) = true → 0 ≤ a1 ∧ a1 < ((List.length aA : Nat) : Int))) <|
  (cV (decide (i10 ≤ j11)) (cW (List.getD aA (Int.toNat j11) default) (List.getD aA (Int.toNat a1) default))).bind fun x25 =>
  cond ((decide (i10 ≤ j11)) && (!x25))
  (some (.inl (aA, IntKind.i64.wrap (j11 - (1 : Int)))))
  (some (.inr (aA, j11)))

noncomputable def jY (aA : List Int) (a1 : Int) (i10 : Int) (j11 : Int) : Option ((List Int × Int × Int) ⊕ ((List Int × Int))) :=
  (lp (fun s => eS a1 i10 s.1 s.2) (aA, j11)).bind (fun rr => eM rr.1 a1 i10 rr.2)

noncomputable def iJ (aA : List Int) (a1 : Int) (i10 : Int) (j11 : Int) : Option ((List Int × Int × Int) ⊕ ((List Int × Int))) :=
  jY aA a1 i10 j11

noncomputable def eN (a1 : Int) (j11 : Int) (aA : List Int) (i10 : Int) : Option ((List Int × Int) ⊕ ((List Int × Int))) :=
  bA ((((decide (i10 ≤ j11))) = true → 0 ≤ i10 ∧ i10 < ((List.length aA : Nat) : Int))) <|
  bA ((((decide (i10 ≤ j11))) = true → 0 ≤ a1 ∧ a1 < ((List.length aA : Nat) : Int))) <|
  (cV (decide (i10 ≤ j11)) (cW (List.getD aA (Int.toNat i10) default) (List.getD aA (Int.toNat a1) default))).bind fun x31 =>
  cond ((decide (i10 ≤ j11)) && x31)
  (some (.inl (aA, IntKind.i64.wrap (i10 + (1 : Int)))))
  (some (.inr (aA, i10)))

noncomputable def kB (aA : List Int) (a1 : Int) (i10 : Int) (j11 : Int) : Option ((List Int × Int × Int) ⊕ ((List Int × Int))) :=
  (lp (fun s => eN a1 j11 s.1 s.2) (aA, i10)).bind (fun rr => iJ rr.1 a1 rr.2 j11)

noncomputable def dK (a1 : Int) (aA : List Int) (i10 : Int) (j11 : Int) : Option ((List Int × Int × Int) ⊕ ((List Int × Int))) :=
  kB aA a1 i10 j11

noncomputable def kE (aA : List Int) (a1 : Int) (i10 : Int) (j11 : Int) : Option ((Int × Bool) × List Int) :=
  (lp (fun s => dK a1 s.1 s.2.1 s.2.2) (aA, i10, j11)).bind (fun rr => iE rr.1 a1 rr.2)

noncomputable def eT (aA : List Int) (a1 : Int) (i10 : Int) (j11 : Int) : Option ((Int × Bool) × List Int) :=
  cond (decide (j11 < i10))
  (bA (0 ≤ a1 ∧ a1 < ((List.length aA : Nat) : Int)) <|
  bA (0 ≤ j11 ∧ j11 < ((List.length aA : Nat) : Int)) <|
  bA (0 ≤ j11 ∧ j11 < ((List.length aA : Nat) : Int)) <|
  bA (0 ≤ a1 ∧ a1 < ((List.length aA : Nat) : Int)) <|
  some ((j11, true), (List.set (List.set aA (Int.toNat j11) (List.getD aA (Int.toNat a1) default)) (Int.toNat a1) (List.getD aA (Int.toNat j11) default))))
  (bA (0 ≤ j11 ∧ j11 < ((List.length aA : Nat) : Int)) <|
  bA (0 ≤ i10 ∧ i10 < ((List.length aA : Nat) : Int)) <|
  bA (0 ≤ i10 ∧ i10 < ((List.length aA : Nat) : Int)) <|
  bA (0 ≤ j11 ∧ j11 < ((List.length aA : Nat) : Int)) <|
  kE (List.set (List.set aA (Int.toNat i10) (List.getD aA (Int.toNat j11) default)) (Int.toNat j11) (List.getD aA (Int.toNat i10) default)) a1 (IntKind.i64.wrap (i10 + (1 : Int))) (IntKind.i64.wrap (j11 - (1 : Int))))

noncomputable def eK (a1 : Int) (i10 : Int) (aA : List Int) (j11 : Int) : Option ((List Int × Int) ⊕ ((List Int × Int))) :=
  bA ((((decide (i10 ≤ j11))) = true → 0 ≤ j11 ∧ j11 < ((List.length aA : Nat) : Int))) <|
  bA ((((decide (i10 ≤ j11))) = true → 0 ≤ a1 ∧ a1 < ((List.length aA : Nat) : Int))) <|
  (cV (decide (i10 ≤ j11)) (cW (List.getD aA (Int.toNat j11) default) (List.getD aA (Int.toNat a1) default))).bind fun x37 =>
  cond ((decide (i10 ≤ j11)) && (!x37))
  (some (.inl (aA, IntKind.i64.wrap (j11 - (1 : Int)))))
  (some (.inr (aA, j11)))

noncomputable def kC (aA : List Int) (a1 : Int) (i10 : Int) (j11 : Int) : Option ((Int × Bool) × List Int) :=
  (lp (fun s => eK a1 i10 s.1 s.2) (aA, j11)).bind (fun rr => eT rr.1 a1 i10 rr.2)

noncomputable def iF (aA : List Int) (a1 : Int) (i10 : Int) (j11 : Int) : Option ((Int × Bool) × List Int) :=
  kC aA a1 i10 j11

noncomputable def eG (a1 : Int) (j11 : Int) (aA : List Int) (i10 : Int) : Option ((List Int × Int) ⊕ ((List Int × Int))) :=
  bA ((((decide (i10 ≤ j11))) = true → 0 ≤ i10 ∧ i10 < ((List.length aA : Nat) : Int))) <|
  bA ((((decide (i10 ≤ j11))) = true → 0 ≤ a1 ∧ a1 < ((List.length aA : Nat) : Int))) <|
  (cV (decide (i10 ≤ j11)) (cW (List.getD aA (Int.toNat i10) default) (List.getD aA (Int.toNat a1) default))).bind fun x43 =>
  cond ((decide (i10 ≤ j11)) && x43)
  (some (.inl (aA, IntKind.i64.wrap (i10 + (1 : Int)))))
  (some (.inr (aA, i10)))

noncomputable def fN (aA : List Int) (a1 : Int) (i10 : Int) (j11 : Int) : Option ((Int × Bool) × List Int) :=
  (lp (fun s => eG a1 j11 s.1 s.2) (aA, i10)).bind (fun rr => iF rr.1 a1 rr.2 j11)

noncomputable def gF (aA : (List Int)) (a1 : Int) (b2 : Int) (cM : Int) : Option ((Int × Bool) × List Int) :=
  bA (0 ≤ cM ∧ cM < ((List.length aA : Nat) : Int)) <|
  bA (0 ≤ a1 ∧ a1 < ((List.length aA : Nat) : Int)) <|
  bA (0 ≤ a1 ∧ a1 < ((List.length aA : Nat) : Int)) <|
  bA (0 ≤ cM ∧ cM < ((List.length aA : Nat) : Int)) <|
  fN (List.set (List.set aA (Int.toNat a1) (List.getD aA (Int.toNat cM) default)) (Int.toNat cM) (List.getD aA (Int.toNat a1) default)) a1 (IntKind.i64.wrap (a1 + (1 : Int))) (IntKind.i64.wrap (b2 - (1 : Int)))

noncomputable def gQ (rec : (List Int) → Int → Int → Int → Option (List Int)) (aA : List Int) (a1 : Int) (b2 : Int) (cC : Int) (bX : Bool) (bO : Bool) (dW : Int) (fQ : Int) : Option ((List Int × Int × Int × Int × Bool × Bool) ⊕ ((List Int))) :=
  bA ((((decide ((0 : Int) < a1))) = true → 0 ≤ (IntKind.i64.wrap (a1 - (1 : Int))) ∧ (IntKind.i64.wrap (a1 - (1 : Int))) < ((List.length aA : Nat) : Int))) <|
  bA ((((decide ((0 : Int) < a1))) = true → 0 ≤ fQ ∧ fQ < ((List.length aA : Nat) : Int))) <|
  (cV (decide ((0 : Int) < a1)) (cW (List.getD aA (Int.toNat (IntKind.i64.wrap (a1 - (1 : Int)))) default) (List.getD aA (Int.toNat fQ) default))).bind fun x16 =>
  cond ((decide ((0 : Int) < a1)) && (!x16))
  ((eU aA a1 b2 fQ).bind fun x20 =>
  some (.inl (x20.2, x20.1, b2, cC, bX, bO)))
  ((gF aA a1 b2 fQ).bind fun x23 =>
  bA ((8 : Int) ≠ 0) <|
  cond (decide ((IntKind.i64.wrap (x23.1.1 - a1)) < (IntKind.i64.wrap (b2 - x23.1.1))))
  ((rec x23.2 a1 x23.1.1 cC).bind fun x28 =>
  some (.inl (x28, IntKind.i64.wrap (x23.1.1 + (1 : Int)), b2, cC, decide ((IntKind.i64.wrap (Int.tdiv dW (8 : Int))) ≤ (IntKind.i64.wrap (x23.1.1 - a1))), x23.1.2)))
  ((rec x23.2 (IntKind.i64.wrap (x23.1.1 + (1 : Int))) b2 cC).bind fun x31 =>
  some (.inl (x31, a1, x23.1.1, cC, decide ((IntKind.i64.wrap (Int.tdiv dW (8 : Int))) ≤ (IntKind.i64.wrap (b2 - x23.1.1))), x23.1.2))))

noncomputable def gP (rec : (List Int) → Int → Int → Int → Option (List Int)) (aA : List Int) (a1 : Int) (b2 : Int) (cC : Int) (bX : Bool) (bO : Bool) (dW : Int) (fQ : Int) (BC : Int) : Option ((List Int × Int × Int × Int × Bool × Bool) ⊕ ((List Int))) :=
  cond ((bX && bO) && (decide (BC = (1 : Int))))
  ((eO aA a1 b2).bind fun x35 =>
  cond x35.1
  (some (.inr x35.2))
  (gQ rec x35.2 a1 b2 cC bX bO dW fQ))
  (gQ rec aA a1 b2 cC bX bO dW fQ)

noncomputable def gR (rec : (List Int) → Int → Int → Int → Option (List Int)) (aA : List Int) (a1 : Int) (b2 : Int) (cC : Int) (bX : Bool) (bO : Bool) (dW : Int) : Option ((List Int × Int × Int × Int × Bool × Bool) ⊕ ((List Int))) :=
  (gX aA a1 b2).bind fun x9 =>
  cond (decide (x9.2 = (2 : Int)))
  ((gV aA a1 b2).bind fun x40 =>
  gP rec x40 a1 b2 cC bX bO dW (IntKind.i64.wrap ((IntKind.i64.wrap (b2 - (1 : Int))) - (IntKind.i64.wrap (x9.1 - a1)))) (1 : Int))
  (gP rec aA a1 b2 cC bX bO dW x9.1 x9.2)

noncomputable def eF (rec : (List Int) → Int → Int → Int → Option (List Int))  (aA : List Int) (a1 : Int) (b2 : Int) (cC : Int) (bX : Bool) (bO : Bool) : Option ((List Int × Int × Int × Int × Bool × Bool) ⊕ ((List Int))) :=
  cond (decide ((IntKind.i64.wrap (b2 - a1)) ≤ (12 : Int)))
  ((gL aA a1 b2).bind fun x2 =>
  some (.inr x2))
  (cond (decide (cC = (0 : Int)))
  ((jF aA a1 b2).bind fun x6 =>
  some (.inr x6))
  (cond (!bX)
  ((gJ aA a1 b2).bind fun x44 =>
  gR rec x44 a1 b2 (IntKind.i64.wrap (cC - (1 : Int))) bX bO (IntKind.i64.wrap (b2 - a1)))
  (gR rec aA a1 b2 cC bX bO (IntKind.i64.wrap (b2 - a1)))))

noncomputable def kQ (rec : (List Int) → Int → Int → Int → Option (List Int)) (aA : List Int) (a1 : Int) (b2 : Int) (cC : Int) (bX : Bool) (bO : Bool) : Option (List Int) :=
  (lp (fun s => eF rec s.1 s.2.1 s.2.2.1 s.2.2.2.1 s.2.2.2.2.1 s.2.2.2.2.2) (aA, a1, b2, cC, bX, bO)).bind (fun rr => some rr)

noncomputable def fP (rec : (List Int) → Int → Int → Int → Option (List Int)) (aA : (List Int)) (a1 : Int) (b2 : Int) (cC : Int) : Option (List Int) :=
  kQ rec aA a1 b2 cC true true

noncomputable def dI  : Nat → (List Int) → Int → Int → Int → Option (List Int)
  | 0 => fun _ _ _ _ => none
  | k + 1 => fP (dI k)

noncomputable def jI (aA : (List Int)) (a1 : Int) (b2 : Int) (cC : Int) : Option (List Int) := OC (fun k => dI k aA a1 b2 cC)

noncomputable def kH (x0 : (List Int)) : Option (List Int) :=
  (jX (IntKind.u64.wrap ((List.length x0 : Nat) : Int))).bind fun x1 =>
  (jI x0 (0 : Int) ((List.length x0 : Nat) : Int) x1).bind fun x4 =>
  some x4

noncomputable def kA (s0 : List Int) : Option (List Int) :=
  some s0

noncomputable def lX (s0 : List Int) (k3 : Int) : Option ((List Int × Int) ⊕ ((List Int) ⊕ (List Int))) :=
  some (.inl (s0, IntKind.i64.wrap (k3 + (1 : Int))))

noncomputable def kG (s0 : List Int) (k3 : Int) : Option ((List Int × Int) ⊕ ((List Int) ⊕ (List Int))) :=
  bA (0 ≤ k3 ∧ k3 ≤ ((List.length s0 : Nat) : Int)) <|
  bA (0 ≤ k3 ∧ k3 ≤ ((List.length (jM (0 + Int.toNat k3) s0) : Nat) : Int)) <|
  bA (Int.toNat k3 ≤ List.length (jM (0 + Int.toNat k3) s0)) <|
  some (.inr (.inr (List.take (Int.toNat k3) (jM (0 + Int.toNat k3) s0))))

noncomputable def iT (s0 : List Int) (k3 : Int) (k25 : Int) (s24o : Nat) (s24n : Nat) : Option ((List Int × Int × Int) ⊕ ((List Int × Int))) :=
  some (.inl (s0, k3, IntKind.i64.wrap (k25 + (1 : Int))))

noncomputable def fD (s24o : Nat) (s24n : Nat) (s0 : List Int) (k3 : Int) (k25 : Int) : Option ((List Int × Int × Int) ⊕ ((List Int × Int))) :=
  cond (decide (k25 < ((s24n : Nat) : Int)))
  (bA (0 ≤ k25 ∧ k25 < ((s24n : Nat) : Int)) <|
  bA ((s24o + Int.toNat k25) < List.length s0) <|
  bA (0 ≤ (IntKind.i64.wrap (k25 - (1 : Int))) ∧ (IntKind.i64.wrap (k25 - (1 : Int))) < ((s24n : Nat) : Int)) <|
  bA ((s24o + Int.toNat (IntKind.i64.wrap (k25 - (1 : Int)))) < List.length s0) <|
  cond (!decide ((List.getD s0 (s24o + Int.toNat k25) default) = (List.getD s0 (s24o + Int.toNat (IntKind.i64.wrap (k25 - (1 : Int)))) default)))
  (bA (0 ≤ k25 ∧ k25 < ((s24n : Nat) : Int)) <|
  bA ((s24o + Int.toNat k25) < List.length s0) <|
  bA (0 ≤ k3 ∧ k3 < ((List.length s0 : Nat) : Int)) <|
  iT (List.set s0 (Int.toNat k3) (List.getD s0 (s24o + Int.toNat k25) default)) (IntKind.i64.wrap (k3 + (1 : Int))) k25 s24o s24n)
  (iT s0 k3 k25 s24o s24n))
  (some (.inr (s0, k3)))

noncomputable def mA (s0 : List Int) (k3 : Int) (k25 : Int) (s24o : Nat) (s24n : Nat) : Option ((List Int × Int) ⊕ ((List Int) ⊕ (List Int))) :=
  (lp (fun s => fD s24o s24n s.1 s.2.1 s.2.2) (s0, k3, k25)).bind (fun rr => kG rr.1 rr.2)

noncomputable def gH  (s0 : List Int) (k3 : Int) : Option ((List Int × Int) ⊕ ((List Int) ⊕ (List Int))) :=
  cond (decide (k3 < ((List.length s0 : Nat) : Int)))
  (bA (0 ≤ k3 ∧ k3 < ((List.length s0 : Nat) : Int)) <|
  bA (0 ≤ (IntKind.i64.wrap (k3 - (1 : Int))) ∧ (IntKind.i64.wrap (k3 - (1 : Int))) < ((List.length s0 : Nat) : Int)) <|
  cond (decide ((List.getD s0 (Int.toNat k3) default) = (List.getD s0 (Int.toNat (IntKind.i64.wrap (k3 - (1 : Int)))) default)))
  (bA (0 ≤ k3 ∧ k3 ≤ ((List.length s0 : Nat) : Int)) <|
  mA s0 k3 (1 : Int) (0 + Int.toNat k3) (List.length s0 - Int.toNat k3))
  (lX s0 k3))
  (some (.inr (.inl s0)))

noncomputable def lY (s0 : List Int) (k3 : Int) : Option (List Int) :=
  (lp (fun s => gH s.1 s.2) (s0, k3)).bind (Sum.elim (fun rr => kA rr) (fun rr => some rr))

noncomputable def jD (s0 : (List Int)) : Option (List Int) :=
  cond (decide (((List.length s0 : Nat) : Int) < (2 : Int)))
  (some s0)
  (lY s0 (1 : Int))

noncomputable def oM (t7c0 : (List aI)) (out3 : List Int) (t8 : aI) : Option ((List Int) ⊕ (List Int)) :=
  bA ((List.length out3 + List.length ([t8.At])) * 8 ≤ 140737488355328 ∧ List.length out3 + List.length ([t8.At]) ≤ 9223372036854775807) <|
  some (.inl (out3 ++ ([t8.At])))

noncomputable def rA (out3 : List Int) (t7c0 : (List aI)) : Option (List Int) :=
  (lT (fun st t8 => rnd (fun (s : List Int) => oM t7c0 s t8) st) t7c0 (.inl out3)).bind (Sum.elim (fun (s : List Int) =>
  ((kH s).bind fun x10 =>
  (jD x10).bind fun x13 =>
  some x13))
  (fun (s : List Int) =>
  (none)))

noncomputable def mI (l0 : (List aI)) : Option (List Int) :=
  (nV l0).bind fun x3 =>
  rA ([] : List Int) x3

noncomputable def pN (l0 : (List aI)) : Option ((List Int) × Int) :=
  (oE l0 (1 : Int)).bind fun x1 =>
  cond (!decide (x1 = (0 : Int)))
  (some ([], x1))
  ((mI l0).bind fun x5 =>
  some (x5, (0 : Int)))

noncomputable def nD (x0 : Int) : Option Bool :=
  some (!decide (x0 = x0))

noncomputable def iG (x0 : (List Int)) (fI : Int) (n6 : Int) (i7 : Int) : Option (Int × Bool) :=
  bA ((((decide (i7 < n6))) = true → 0 ≤ i7 ∧ i7 < ((List.length x0 : Nat) : Int))) <|
  bA ((((!(decide ((List.getD x0 (Int.toNat i7) default) = fI))) && (decide (i7 < n6))) = true → 0 ≤ i7 ∧ i7 < ((List.length x0 : Nat) : Int))) <|
  (cV ((!(decide ((List.getD x0 (Int.toNat i7) default) = fI))) && (decide (i7 < n6))) (nD (List.getD x0 (Int.toNat i7) default))).bind fun x3 =>
  (cV (x3 && ((!(decide ((List.getD x0 (Int.toNat i7) default) = fI))) && (decide (i7 < n6)))) (nD fI)).bind fun x6 =>
  some (i7, (decide (i7 < n6)) && ((decide ((List.getD x0 (Int.toNat i7) default) = fI)) || (x3 && x6)))

noncomputable def eR (x0 : (List Int)) (fI : Int) (n6 : Int) (i7 : Int) (j8 : Int) : Option ((Int × Int) ⊕ (Int)) :=
  cond (decide (i7 < j8))
  (bA (0 ≤ (1 : Int)) <|
  bA (0 ≤ (IntKind.i64.wrap (Int.fdiv (IntKind.u64.wrap (IntKind.i64.wrap (i7 + j8))) (2 ^ (min (Int.toNat (1 : Int)) 64)))) ∧ (IntKind.i64.wrap (Int.fdiv (IntKind.u64.wrap (IntKind.i64.wrap (i7 + j8))) (2 ^ (min (Int.toNat (1 : Int)) 64)))) < ((List.length x0 : Nat) : Int)) <|
  (cW (List.getD x0 (Int.toNat (IntKind.i64.wrap (Int.fdiv (IntKind.u64.wrap (IntKind.i64.wrap (i7 + j8))) (2 ^ (min (Int.toNat (1 : Int)) 64))))) default) fI).bind fun x12 =>
  cond x12
  (some (.inl (IntKind.i64.wrap ((IntKind.i64.wrap (Int.fdiv (IntKind.u64.wrap (IntKind.i64.wrap (i7 + j8))) (2 ^ (min (Int.toNat (1 : Int)) 64)))) + (1 : Int)), j8)))
  (some (.inl (i7, IntKind.i64.wrap (Int.fdiv (IntKind.u64.wrap (IntKind.i64.wrap (i7 + j8))) (2 ^ (min (Int.toNat (1 : Int)) 64)))))))
  (some (.inr i7))

noncomputable def kF (x0 : (List Int)) (fI : Int) (n6 : Int) (i7 : Int) (j8 : Int) : Option (Int × Bool) :=
  (lp (fun s => eR x0 fI n6 s.1 s.2) (i7, j8)).bind (fun rr => iG x0 fI n6 rr)

noncomputable def fA (x0 : (List Int)) (fI : Int) : Option (Int × Bool) :=
  kF x0 fI ((List.length x0 : Nat) : Int) (0 : Int) ((List.length x0 : Nat) : Int)

noncomputable def rU (l0 : (List aI)) (n1 : Int) (t2 : Int) : Option (Int × Int) :=
  (oE l0 n1).bind fun x1 =>
  cond (!decide (x1 = (0 : Int)))
  (some ((0 : Int), x1))
  (cond ((decide (t2 < (0 : Int))) || (decide ((1125899906842624 : Int) < t2)))
  (some ((0 : Int), (13 : Int)))
  (cond (decide (t2 = (1125899906842624 : Int)))
  (some (t2, (0 : Int)))
  ((mI l0).bind fun x7 =>
  (fA x7 t2).bind fun x10 =>
  cond (decide ((if (IntKind.i64.wrap ((IntKind.i64.wrap (x10.1 - n1)) + (1 : Int))) > (0 : Int) then (IntKind.i64.wrap ((IntKind.i64.wrap (x10.1 - n1)) + (1 : Int))) else (0 : Int)) = x10.1))
  (some (t2, (0 : Int)))
  (bA (0 ≤ (if (IntKind.i64.wrap ((IntKind.i64.wrap (x10.1 - n1)) + (1 : Int))) > (0 : Int) then (IntKind.i64.wrap ((IntKind.i64.wrap (x10.1 - n1)) + (1 : Int))) else (0 : Int)) ∧ (if (IntKind.i64.wrap ((IntKind.i64.wrap (x10.1 - n1)) + (1 : Int))) > (0 : Int) then (IntKind.i64.wrap ((IntKind.i64.wrap (x10.1 - n1)) + (1 : Int))) else (0 : Int)) < ((List.length x7 : Nat) : Int)) <|
  some (List.getD x7 (Int.toNat (if (IntKind.i64.wrap ((IntKind.i64.wrap (x10.1 - n1)) + (1 : Int))) > (0 : Int) then (IntKind.i64.wrap ((IntKind.i64.wrap (x10.1 - n1)) + (1 : Int))) else (0 : Int))) default, (0 : Int))))))

noncomputable def gT (s0 : (List aB)) : Option (List aB) :=
  bA (List.length s0 * 32 ≤ 140737488355328 ∧ List.length s0 ≤ 9223372036854775807) <|
  some s0

noncomputable def mW (tQ : (List aI)) (t4 : aO) (p5 : aO) (t22 : aI) : Option ((aO × aO) ⊕ (aO × aO)) :=
  cond ((decide (t22.At < p5.Span.From)) || (decide (p5.Span.To ≤ t22.At)))
  (some (.inl (t4, p5)))
  (bA ((((decide ((0 : Int) ≤ (IntKind.i64.wrap (((List.length p5.Rows : Nat) : Int) - (1 : Int)))))) = true → 0 ≤ (IntKind.i64.wrap (((List.length p5.Rows : Nat) : Int) - (1 : Int))) ∧ (IntKind.i64.wrap (((List.length p5.Rows : Nat) : Int) - (1 : Int))) < ((List.length p5.Rows : Nat) : Int))) <|
  (cV (decide ((0 : Int) ≤ (IntKind.i64.wrap (((List.length p5.Rows : Nat) : Int) - (1 : Int))))) (fJ ((List.getD p5.Rows (Int.toNat (IntKind.i64.wrap (((List.length p5.Rows : Nat) : Int) - (1 : Int)))) default).Row) t22.Row)).bind fun x13 =>
  cond ((decide ((0 : Int) ≤ (IntKind.i64.wrap (((List.length p5.Rows : Nat) : Int) - (1 : Int))))) && x13)
  (bA (0 ≤ (IntKind.i64.wrap (((List.length p5.Rows : Nat) : Int) - (1 : Int))) ∧ (IntKind.i64.wrap (((List.length p5.Rows : Nat) : Int) - (1 : Int))) < ((List.length p5.Rows : Nat) : Int)) <|
  bA (0 ≤ (IntKind.i64.wrap (((List.length p5.Rows : Nat) : Int) - (1 : Int))) ∧ (IntKind.i64.wrap (((List.length p5.Rows : Nat) : Int) - (1 : Int))) < ((List.length p5.Rows : Nat) : Int)) <|
  some (.inl (t4, aO.mk p5.Span (List.set p5.Rows (Int.toNat (IntKind.i64.wrap (((List.length p5.Rows : Nat) : Int) - (1 : Int)))) (bH.mk (List.getD p5.Rows (Int.toNat (IntKind.i64.wrap (((List.length p5.Rows : Nat) : Int) - (1 : Int)))) default).Row (IntKind.i64.wrap (((List.getD p5.Rows (Int.toNat (IntKind.i64.wrap (((List.length p5.Rows : Nat) : Int) - (1 : Int)))) default).N) + t22.Net)))))))
  ((gT t22.Row).bind fun x19 =>
  bA ((List.length p5.Rows + List.length ([bH.mk x19 t22.Net])) * 32 ≤ 140737488355328 ∧ List.length p5.Rows + List.length ([bH.mk x19 t22.Net]) ≤ 9223372036854775807) <|
  some (.inl (t4, aO.mk p5.Span (p5.Rows ++ ([bH.mk x19 t22.Net]))))))

noncomputable def rB (t4 : aO) (p5 : aO) (tQ : (List aI)) : Option aO :=
  (lT (fun st t22 => rnd (fun (s : aO × aO) => mW tQ s.1 s.2 t22) st) tQ (.inl (t4, p5))).bind (Sum.elim (fun (s : aO × aO) =>
  (some s.2))
  (fun (s : aO × aO) =>
  (none)))

noncomputable def pL (l0 : (List aI)) (run1 : (List Int)) : Option aO :=
  bA (0 ≤ (0 : Int) ∧ (0 : Int) < ((List.length run1 : Nat) : Int)) <|
  bA (0 ≤ (IntKind.i64.wrap (((List.length run1 : Nat) : Int) - (1 : Int))) ∧ (IntKind.i64.wrap (((List.length run1 : Nat) : Int) - (1 : Int))) < ((List.length run1 : Nat) : Int)) <|
  (nV l0).bind fun x6 =>
  rB (aO.mk (cE.mk 0 0) ([])) (aO.mk (cE.mk (List.getD run1 (Int.toNat (0 : Int)) default) (IntKind.i64.wrap ((List.getD run1 (Int.toNat (IntKind.i64.wrap (((List.length run1 : Nat) : Int) - (1 : Int)))) default) + (1 : Int)))) ([])) x6

noncomputable def sU (jK : List aO) : Option ((List aO) × Int) :=
  some (jK, (0 : Int))

noncomputable def kU (l0 : (List aI)) (n1 : Int) (kO : (List Int)) (jK : List aO) : Option (((List Int) × List aO) ⊕ ((List aO))) :=
  cond (decide (n1 ≤ ((List.length kO : Nat) : Int)))
  (bA (0 ≤ n1 ∧ n1 ≤ n1 ∧ n1 ≤ ((List.length kO : Nat) : Int)) <|
  (pL l0 (List.take (Int.toNat n1) kO)).bind fun x20 =>
  bA ((List.length jK + List.length ([x20])) * 40 ≤ 140737488355328 ∧ List.length jK + List.length ([x20]) ≤ 9223372036854775807) <|
  bA (0 ≤ (1 : Int) ∧ (1 : Int) ≤ ((List.length kO : Nat) : Int)) <|
  some (.inl (List.drop (Int.toNat (1 : Int)) kO, jK ++ ([x20]))))
  (some (.inr jK))

noncomputable def sO (l0 : (List aI)) (n1 : Int) (kO : (List Int)) (jK : List aO) : Option ((List aO) × Int) :=
  (lp (fun s => kU l0 n1 s.1 s.2) (kO, jK)).bind (fun rr => sU rr)

noncomputable def nZ (l0 : (List aI)) (n1 : Int) (cD : Int) : Option ((List aO) × Int) :=
  (oE l0 n1).bind fun x1 =>
  cond (!decide (x1 = (0 : Int)))
  (some ([], x1))
  (cond ((decide (cD < (0 : Int))) || (decide ((1125899906842624 : Int) < cD)))
  (some ([], (13 : Int)))
  ((mI l0).bind fun x6 =>
  (fA x6 cD).bind fun x9 =>
  bA (0 ≤ x9.1 ∧ x9.1 ≤ ((List.length x6 : Nat) : Int) ∧ ((List.length x6 : Nat) : Int) ≤ ((List.length x6 : Nat) : Int) ∧ ((List.length x6 : Nat) : Int) ≤ ((List.length x6 : Nat) : Int)) <|
  cond (decide ((1024 : Int) < (IntKind.i64.wrap ((IntKind.i64.wrap (((List.length (List.drop (Int.toNat x9.1) (List.take (Int.toNat ((List.length x6 : Nat) : Int)) x6)) : Nat) : Int) - n1)) + (1 : Int)))))
  (some ([], (7 : Int)))
  (sO l0 n1 (List.drop (Int.toNat x9.1) (List.take (Int.toNat ((List.length x6 : Nat) : Int)) x6)) ([] : List aO))))

noncomputable def qM  : Option Bool :=
  (pN ([aI.mk ([aB.mk (1 : Int) (1 : Int) ByteArray.empty]) (2 : Int) (1 : Int), aI.mk ([aB.mk (1 : Int) (2 : Int) ByteArray.empty]) (5 : Int) (1 : Int), aI.mk ([aB.mk (1 : Int) (2 : Int) ByteArray.empty]) (7 : Int) (-1 : Int), aI.mk ([aB.mk (1 : Int) (2 : Int) ByteArray.empty]) (8 : Int) (1 : Int)])).bind fun x1 =>
  (rU ([aI.mk ([aB.mk (1 : Int) (1 : Int) ByteArray.empty]) (2 : Int) (1 : Int), aI.mk ([aB.mk (1 : Int) (2 : Int) ByteArray.empty]) (5 : Int) (1 : Int), aI.mk ([aB.mk (1 : Int) (2 : Int) ByteArray.empty]) (7 : Int) (-1 : Int), aI.mk ([aB.mk (1 : Int) (2 : Int) ByteArray.empty]) (8 : Int) (1 : Int)]) (2 : Int) (6 : Int)).bind fun x4 =>
  (nZ ([aI.mk ([aB.mk (1 : Int) (1 : Int) ByteArray.empty]) (2 : Int) (1 : Int), aI.mk ([aB.mk (1 : Int) (2 : Int) ByteArray.empty]) (5 : Int) (1 : Int), aI.mk ([aB.mk (1 : Int) (2 : Int) ByteArray.empty]) (7 : Int) (-1 : Int), aI.mk ([aB.mk (1 : Int) (2 : Int) ByteArray.empty]) (8 : Int) (1 : Int)]) (2 : Int) (0 : Int)).bind fun x7 =>
  bA (((((((((decide (x1.2 = (0 : Int))) && (decide (x4.2 = (0 : Int)))) && (decide (x7.2 = (0 : Int)))) && (decide (((List.length x1.1 : Nat) : Int) = (3 : Int)))) && (decide (x4.1 = (5 : Int)))) && (decide (((List.length x7.1 : Nat) : Int) = (2 : Int))))) = true → 0 ≤ (0 : Int) ∧ (0 : Int) < ((List.length x7.1 : Nat) : Int))) <|
  bA ((((((((((decide (x1.2 = (0 : Int))) && (decide (x4.2 = (0 : Int)))) && (decide (x7.2 = (0 : Int)))) && (decide (((List.length x1.1 : Nat) : Int) = (3 : Int)))) && (decide (x4.1 = (5 : Int)))) && (decide (((List.length x7.1 : Nat) : Int) = (2 : Int)))) && ((decide ((((List.getD x7.1 (Int.toNat (0 : Int)) default).Span).From) = ((cE.mk (2 : Int) (6 : Int)).From))) && ((decide ((((List.getD x7.1 (Int.toNat (0 : Int)) default).Span).To) = ((cE.mk (2 : Int) (6 : Int)).To))) && true)))) = true → 0 ≤ (0 : Int) ∧ (0 : Int) < ((List.length x7.1 : Nat) : Int))) <|
  bA (((((((((((decide (x1.2 = (0 : Int))) && (decide (x4.2 = (0 : Int)))) && (decide (x7.2 = (0 : Int)))) && (decide (((List.length x1.1 : Nat) : Int) = (3 : Int)))) && (decide (x4.1 = (5 : Int)))) && (decide (((List.length x7.1 : Nat) : Int) = (2 : Int)))) && ((decide ((((List.getD x7.1 (Int.toNat (0 : Int)) default).Span).From) = ((cE.mk (2 : Int) (6 : Int)).From))) && ((decide ((((List.getD x7.1 (Int.toNat (0 : Int)) default).Span).To) = ((cE.mk (2 : Int) (6 : Int)).To))) && true))) && (decide (((List.length ((List.getD x7.1 (Int.toNat (0 : Int)) default).Rows) : Nat) : Int) = (2 : Int))))) = true → 0 ≤ (1 : Int) ∧ (1 : Int) < ((List.length x7.1 : Nat) : Int))) <|
  bA ((((((((((((decide (x1.2 = (0 : Int))) && (decide (x4.2 = (0 : Int)))) && (decide (x7.2 = (0 : Int)))) && (decide (((List.length x1.1 : Nat) : Int) = (3 : Int)))) && (decide (x4.1 = (5 : Int)))) && (decide (((List.length x7.1 : Nat) : Int) = (2 : Int)))) && ((decide ((((List.getD x7.1 (Int.toNat (0 : Int)) default).Span).From) = ((cE.mk (2 : Int) (6 : Int)).From))) && ((decide ((((List.getD x7.1 (Int.toNat (0 : Int)) default).Span).To) = ((cE.mk (2 : Int) (6 : Int)).To))) && true))) && (decide (((List.length ((List.getD x7.1 (Int.toNat (0 : Int)) default).Rows) : Nat) : Int) = (2 : Int)))) && (decide (((List.length ((List.getD x7.1 (Int.toNat (1 : Int)) default).Rows) : Nat) : Int) = (1 : Int))))) = true → 0 ≤ (1 : Int) ∧ (1 : Int) < ((List.length x7.1 : Nat) : Int))) <|
  bA ((((((((((((decide (x1.2 = (0 : Int))) && (decide (x4.2 = (0 : Int)))) && (decide (x7.2 = (0 : Int)))) && (decide (((List.length x1.1 : Nat) : Int) = (3 : Int)))) && (decide (x4.1 = (5 : Int)))) && (decide (((List.length x7.1 : Nat) : Int) = (2 : Int)))) && ((decide ((((List.getD x7.1 (Int.toNat (0 : Int)) default).Span).From) = ((cE.mk (2 : Int) (6 : Int)).From))) && ((decide ((((List.getD x7.1 (Int.toNat (0 : Int)) default).Span).To) = ((cE.mk (2 : Int) (6 : Int)).To))) && true))) && (decide (((List.length ((List.getD x7.1 (Int.toNat (0 : Int)) default).Rows) : Nat) : Int) = (2 : Int)))) && (decide (((List.length ((List.getD x7.1 (Int.toNat (1 : Int)) default).Rows) : Nat) : Int) = (1 : Int))))) = true → 0 ≤ (0 : Int) ∧ (0 : Int) < ((List.length ((List.getD x7.1 (Int.toNat (1 : Int)) default).Rows) : Nat) : Int))) <|
  some ((((((((((decide (x1.2 = (0 : Int))) && (decide (x4.2 = (0 : Int)))) && (decide (x7.2 = (0 : Int)))) && (decide (((List.length x1.1 : Nat) : Int) = (3 : Int)))) && (decide (x4.1 = (5 : Int)))) && (decide (((List.length x7.1 : Nat) : Int) = (2 : Int)))) && ((decide ((((List.getD x7.1 (Int.toNat (0 : Int)) default).Span).From) = ((cE.mk (2 : Int) (6 : Int)).From))) && ((decide ((((List.getD x7.1 (Int.toNat (0 : Int)) default).Span).To) = ((cE.mk (2 : Int) (6 : Int)).To))) && true))) && (decide (((List.length ((List.getD x7.1 (Int.toNat (0 : Int)) default).Rows) : Nat) : Int) = (2 : Int)))) && (decide (((List.length ((List.getD x7.1 (Int.toNat (1 : Int)) default).Rows) : Nat) : Int) = (1 : Int)))) && (decide (((List.getD ((List.getD x7.1 (Int.toNat (1 : Int)) default).Rows) (Int.toNat (0 : Int)) default).N) = (2 : Int))))

noncomputable def pU (v0 : aB) : Option Bool :=
  cond (decide (v0.Kind = (1 : Int)))
  (some (nB v0.Text (⟨#[]⟩ : ByteArray)))
  (some (((decide (v0.Kind = (2 : Int))) && (decide (v0.Num = (0 : Int)))) && (decide (((ByteArray.size v0.Text : Nat) : Int) ≤ (64 : Int)))))

noncomputable def qP (r0 : (List aB)) : Option Bool :=
  some (decide (((List.length r0 : Nat) : Int) ≤ (8 : Int)))

noncomputable def oN (r0 : (List aB)) (i3 : Int) : Option ((Int) ⊕ (Unit ⊕ Bool)) :=
  cond ((decide (i3 < ((List.length r0 : Nat) : Int))) && (decide (i3 < (9 : Int))))
  (bA (0 ≤ i3 ∧ i3 < ((List.length r0 : Nat) : Int)) <|
  (pU (List.getD r0 (Int.toNat i3) default)).bind fun x3 =>
  cond (!x3)
  (some (.inr (.inr false)))
  (some (.inl (IntKind.i64.wrap (i3 + (1 : Int))))))
  (some (.inr (.inl ())))

noncomputable def wM (r0 : (List aB)) (i3 : Int) : Option Bool :=
  (lp (fun s => oN r0 s) i3).bind (Sum.elim (fun rr => qP r0) (fun rr => some rr))

noncomputable def pX (r0 : (List aB)) : Option Bool :=
  wM r0 (0 : Int)

noncomputable def tA  : Option Bool :=
  some true

noncomputable def lA (f0 : (List aM)) (i3 : Int) : Option ((Int) ⊕ (Unit ⊕ Bool)) :=
  cond (decide (i3 < ((List.length f0 : Nat) : Int)))
  (bA (0 ≤ i3 ∧ i3 < ((List.length f0 : Nat) : Int)) <|
  bA ((((!(decide (((List.getD f0 (Int.toNat i3) default).At) < (-1 : Int))))) = true → 0 ≤ i3 ∧ i3 < ((List.length f0 : Nat) : Int))) <|
  bA ((((!((decide (((List.getD f0 (Int.toNat i3) default).At) < (-1 : Int))) || (decide ((1125899906842624 : Int) ≤ ((List.getD f0 (Int.toNat i3) default).At)))))) = true → 0 ≤ i3 ∧ i3 < ((List.length f0 : Nat) : Int))) <|
  bA ((((!(((decide (((List.getD f0 (Int.toNat i3) default).At) < (-1 : Int))) || (decide ((1125899906842624 : Int) ≤ ((List.getD f0 (Int.toNat i3) default).At)))) || (decide (((List.getD f0 (Int.toNat i3) default).Net) = (0 : Int)))))) = true → 0 ≤ i3 ∧ i3 < ((List.length f0 : Nat) : Int))) <|
  bA ((((!((((decide (((List.getD f0 (Int.toNat i3) default).At) < (-1 : Int))) || (decide ((1125899906842624 : Int) ≤ ((List.getD f0 (Int.toNat i3) default).At)))) || (decide (((List.getD f0 (Int.toNat i3) default).Net) = (0 : Int)))) || (decide ((1048576 : Int) < ((List.getD f0 (Int.toNat i3) default).Net)))))) = true → 0 ≤ i3 ∧ i3 < ((List.length f0 : Nat) : Int))) <|
  cond (((((decide (((List.getD f0 (Int.toNat i3) default).At) < (-1 : Int))) || (decide ((1125899906842624 : Int) ≤ ((List.getD f0 (Int.toNat i3) default).At)))) || (decide (((List.getD f0 (Int.toNat i3) default).Net) = (0 : Int)))) || (decide ((1048576 : Int) < ((List.getD f0 (Int.toNat i3) default).Net)))) || (decide (((List.getD f0 (Int.toNat i3) default).Net) < (-1048576 : Int))))
  (some (.inr (.inr false)))
  (bA ((((decide ((0 : Int) < i3))) = true → 0 ≤ i3 ∧ i3 < ((List.length f0 : Nat) : Int))) <|
  bA ((((decide ((0 : Int) < i3))) = true → 0 ≤ (IntKind.i64.wrap (i3 - (1 : Int))) ∧ (IntKind.i64.wrap (i3 - (1 : Int))) < ((List.length f0 : Nat) : Int))) <|
  cond ((decide ((0 : Int) < i3)) && (decide (((List.getD f0 (Int.toNat i3) default).At) ≤ ((List.getD f0 (Int.toNat (IntKind.i64.wrap (i3 - (1 : Int)))) default).At))))
  (some (.inr (.inr false)))
  (some (.inl (IntKind.i64.wrap (i3 + (1 : Int)))))))
  (some (.inr (.inl ())))

noncomputable def vY (f0 : (List aM)) (i3 : Int) : Option Bool :=
  (lp (fun s => lA f0 s) i3).bind (Sum.elim (fun rr => tA ) (fun rr => some rr))

noncomputable def pS (f0 : (List aM)) : Option Bool :=
  cond (decide ((1024 : Int) < ((List.length f0 : Nat) : Int)))
  (some false)
  (vY f0 (0 : Int))

noncomputable def oO (a2 : aB) (b3 : aB) : Option Int :=
  cond (!decide (((ByteArray.size a2.Text : Nat) : Int) = ((ByteArray.size b3.Text : Nat) : Int)))
  (cond (decide (((ByteArray.size a2.Text : Nat) : Int) < ((ByteArray.size b3.Text : Nat) : Int)))
  (some (-1 : Int))
  (some (1 : Int)))
  (some (0 : Int))

noncomputable def iM (a2 : aB) (b3 : aB) (i5 : Int) : Option ((Int) ⊕ (Unit ⊕ Int)) :=
  cond ((decide (i5 < ((ByteArray.size a2.Text : Nat) : Int))) && (decide (i5 < ((ByteArray.size b3.Text : Nat) : Int))))
  (bA (0 ≤ i5 ∧ i5 < ((ByteArray.size a2.Text : Nat) : Int)) <|
  bA (0 ≤ i5 ∧ i5 < ((ByteArray.size b3.Text : Nat) : Int)) <|
  cond (!decide ((bt a2.Text i5) = (bt b3.Text i5)))
  (bA (0 ≤ i5 ∧ i5 < ((ByteArray.size a2.Text : Nat) : Int)) <|
  bA (0 ≤ i5 ∧ i5 < ((ByteArray.size b3.Text : Nat) : Int)) <|
  cond (decide ((bt a2.Text i5) < (bt b3.Text i5)))
  (some (.inr (.inr (-1 : Int))))
  (some (.inr (.inr (1 : Int)))))
  (some (.inl (IntKind.i64.wrap (i5 + (1 : Int))))))
  (some (.inr (.inl ())))

noncomputable def rI (a2 : aB) (b3 : aB) (i5 : Int) : Option Int :=
  (lp (fun s => iM a2 b3 s) i5).bind (Sum.elim (fun rr => oO a2 b3) (fun rr => some rr))

noncomputable def pO (a0 : aB) (b1 : aB) : Option Int :=
  (pU a0).bind fun x1 =>
  (cV (!(!x1)) (pU b1)).bind fun x4 =>
  cond ((!x1) || (!x4))
  (some (0 : Int))
  (cond (!decide (a0.Kind = b1.Kind))
  (cond (decide (a0.Kind = (1 : Int)))
  (some (-1 : Int))
  (some (1 : Int)))
  (cond (!decide (a0.Num = b1.Num))
  (cond (decide (a0.Num < b1.Num))
  (some (-1 : Int))
  (some (1 : Int)))
  (rI a0 b1 (0 : Int))))

noncomputable def oF (a0 : (List aB)) (b1 : (List aB)) : Option Int :=
  cond (decide (((List.length a0 : Nat) : Int) < ((List.length b1 : Nat) : Int)))
  (some (-1 : Int))
  (cond (decide (((List.length b1 : Nat) : Int) < ((List.length a0 : Nat) : Int)))
  (some (1 : Int))
  (some (0 : Int)))

noncomputable def iL (a0 : (List aB)) (b1 : (List aB)) (i5 : Int) : Option ((Int) ⊕ (Unit ⊕ Int)) :=
  cond ((decide (i5 < ((List.length a0 : Nat) : Int))) && (decide (i5 < ((List.length b1 : Nat) : Int))))
  (bA (0 ≤ i5 ∧ i5 < ((List.length a0 : Nat) : Int)) <|
  bA (0 ≤ i5 ∧ i5 < ((List.length b1 : Nat) : Int)) <|
  (pO (List.getD a0 (Int.toNat i5) default) (List.getD b1 (Int.toNat i5) default)).bind fun x13 =>
  cond (!decide (x13 = (0 : Int)))
  (some (.inr (.inr x13)))
  (some (.inl (IntKind.i64.wrap (i5 + (1 : Int))))))
  (some (.inr (.inl ())))

noncomputable def rG (a0 : (List aB)) (b1 : (List aB)) (i5 : Int) : Option Int :=
  (lp (fun s => iL a0 b1 s) i5).bind (Sum.elim (fun rr => oF a0 b1) (fun rr => some rr))

noncomputable def nI (a0 : (List aB)) (b1 : (List aB)) : Option Int :=
  (pX a0).bind fun x1 =>
  (cV (!(!x1)) (pX b1)).bind fun x4 =>
  cond ((!x1) || (!x4))
  (some (0 : Int))
  (rG a0 b1 (0 : Int))

noncomputable def rT  : Option Bool :=
  some true

noncomputable def oZ (a0 : (List aB)) (b1 : (List aB)) (i5 : Int) : Option ((Int) ⊕ (Unit ⊕ Bool)) :=
  cond (decide (i5 < ((List.length a0 : Nat) : Int)))
  (bA (0 ≤ i5 ∧ i5 < ((List.length a0 : Nat) : Int)) <|
  bA (0 ≤ i5 ∧ i5 < ((List.length b1 : Nat) : Int)) <|
  cond (!((decide (((List.getD a0 (Int.toNat i5) default).Kind) = ((List.getD b1 (Int.toNat i5) default).Kind))) && ((decide (((List.getD a0 (Int.toNat i5) default).Num) = ((List.getD b1 (Int.toNat i5) default).Num))) && ((nB ((List.getD a0 (Int.toNat i5) default).Text) ((List.getD b1 (Int.toNat i5) default).Text)) && true))))
  (some (.inr (.inr false)))
  (some (.inl (IntKind.i64.wrap (i5 + (1 : Int))))))
  (some (.inr (.inl ())))

noncomputable def uY (a0 : (List aB)) (b1 : (List aB)) (i5 : Int) : Option Bool :=
  (lp (fun s => oZ a0 b1 s) i5).bind (Sum.elim (fun rr => rT ) (fun rr => some rr))

noncomputable def oG (a0 : (List aB)) (b1 : (List aB)) : Option Bool :=
  cond (!decide (((List.length a0 : Nat) : Int) = ((List.length b1 : Nat) : Int)))
  (some false)
  (uY a0 b1 (0 : Int))

noncomputable def uV (bL : List (List aB)) : Option (List (List aB)) :=
  some bL

noncomputable def rO (l0 : (List aI)) (bL : List (List aB)) (i4 : Int) : Option ((List (List aB) × Int) ⊕ ((List (List aB)))) :=
  some (.inl (bL, IntKind.i64.wrap (i4 + (1 : Int))))

noncomputable def rY (l0 : (List aI)) (bL : List (List aB)) (i4 : Int) (at5 : Int) : Option ((List (List aB) × Int) ⊕ ((List (List aB)))) :=
  bA ((((decide (at5 < ((List.length bL : Nat) : Int)))) = true → 0 ≤ at5 ∧ at5 < ((List.length bL : Nat) : Int))) <|
  bA ((((decide (at5 < ((List.length bL : Nat) : Int)))) = true → 0 ≤ i4 ∧ i4 < ((List.length l0 : Nat) : Int))) <|
  (cV (decide (at5 < ((List.length bL : Nat) : Int))) (oG (List.getD bL (Int.toNat at5) default) ((List.getD l0 (Int.toNat i4) default).Row))).bind fun x10 =>
  cond ((decide (at5 < ((List.length bL : Nat) : Int))) && x10)
  (rO l0 bL i4)
  (bA (0 ≤ at5 ∧ at5 ≤ ((List.length bL : Nat) : Int)) <|
  bA (List.length (List.take (Int.toNat at5) bL) * 24 ≤ 140737488355328 ∧ List.length (List.take (Int.toNat at5) bL) ≤ 9223372036854775807) <|
  bA (0 ≤ i4 ∧ i4 < ((List.length l0 : Nat) : Int)) <|
  bA ((List.length (List.take (Int.toNat at5) bL) + List.length ([(List.getD l0 (Int.toNat i4) default).Row])) * 24 ≤ 140737488355328 ∧ List.length (List.take (Int.toNat at5) bL) + List.length ([(List.getD l0 (Int.toNat i4) default).Row]) ≤ 9223372036854775807) <|
  bA (0 ≤ at5 ∧ at5 ≤ ((List.length bL : Nat) : Int)) <|
  bA ((List.length ((List.take (Int.toNat at5) bL) ++ ([(List.getD l0 (Int.toNat i4) default).Row])) + List.length (List.drop (Int.toNat at5) bL)) * 24 ≤ 140737488355328 ∧ List.length ((List.take (Int.toNat at5) bL) ++ ([(List.getD l0 (Int.toNat i4) default).Row])) + List.length (List.drop (Int.toNat at5) bL) ≤ 9223372036854775807) <|
  rO l0 (((List.take (Int.toNat at5) bL) ++ ([(List.getD l0 (Int.toNat i4) default).Row])) ++ (List.drop (Int.toNat at5) bL)) i4)

noncomputable def lH (l0 : (List aI)) (i4 : Int) (bL : List (List aB)) (at5 : Int) : Option ((List (List aB) × Int) ⊕ ((List (List aB) × Int))) :=
  bA ((((decide (at5 < ((List.length bL : Nat) : Int)))) = true → 0 ≤ at5 ∧ at5 < ((List.length bL : Nat) : Int))) <|
  bA ((((decide (at5 < ((List.length bL : Nat) : Int)))) = true → 0 ≤ i4 ∧ i4 < ((List.length l0 : Nat) : Int))) <|
  (cV (decide (at5 < ((List.length bL : Nat) : Int))) (nI (List.getD bL (Int.toNat at5) default) ((List.getD l0 (Int.toNat i4) default).Row))).bind fun x27 =>
  cond ((decide (at5 < ((List.length bL : Nat) : Int))) && (decide (x27 < (0 : Int))))
  (some (.inl (bL, IntKind.i64.wrap (at5 + (1 : Int)))))
  (some (.inr (bL, at5)))

noncomputable def uS (l0 : (List aI)) (bL : List (List aB)) (i4 : Int) (at5 : Int) : Option ((List (List aB) × Int) ⊕ ((List (List aB)))) :=
  (lp (fun s => lH l0 i4 s.1 s.2) (bL, at5)).bind (fun rr => rY l0 rr.1 i4 rr.2)

noncomputable def mQ (l0 : (List aI)) (bL : List (List aB)) (i4 : Int) : Option ((List (List aB) × Int) ⊕ ((List (List aB)))) :=
  cond (decide (i4 < ((List.length l0 : Nat) : Int)))
  (uS l0 bL i4 (0 : Int))
  (some (.inr bL))

noncomputable def uX (l0 : (List aI)) (bL : List (List aB)) (i4 : Int) : Option (List (List aB)) :=
  (lp (fun s => mQ l0 s.1 s.2) (bL, i4)).bind (fun rr => uV rr)

noncomputable def oD (l0 : (List aI)) : Option (List (List aB)) :=
  uX l0 ([] : List (List aB)) (0 : Int)

noncomputable def tX (f5 : List aM) : Option (List aM) :=
  some f5

noncomputable def qL (l0 : (List aI)) (r1 : (List aB)) (f5 : List aM) (i6 : Int) : Option ((List aM × Int) ⊕ ((List aM))) :=
  some (.inl (f5, IntKind.i64.wrap (i6 + (1 : Int))))

noncomputable def lM (l0 : (List aI)) (r1 : (List aB)) (f5 : List aM) (i6 : Int) : Option ((List aM × Int) ⊕ ((List aM))) :=
  cond (decide (i6 < ((List.length l0 : Nat) : Int)))
  (bA (0 ≤ i6 ∧ i6 < ((List.length l0 : Nat) : Int)) <|
  (oG ((List.getD l0 (Int.toNat i6) default).Row) r1).bind fun x8 =>
  cond x8
  (bA (0 ≤ i6 ∧ i6 < ((List.length l0 : Nat) : Int)) <|
  bA (0 ≤ i6 ∧ i6 < ((List.length l0 : Nat) : Int)) <|
  bA ((List.length f5 + List.length ([aM.mk ((List.getD l0 (Int.toNat i6) default).At) ((List.getD l0 (Int.toNat i6) default).Net)])) * 16 ≤ 140737488355328 ∧ List.length f5 + List.length ([aM.mk ((List.getD l0 (Int.toNat i6) default).At) ((List.getD l0 (Int.toNat i6) default).Net)]) ≤ 9223372036854775807) <|
  qL l0 r1 (f5 ++ ([aM.mk ((List.getD l0 (Int.toNat i6) default).At) ((List.getD l0 (Int.toNat i6) default).Net)])) i6)
  (qL l0 r1 f5 i6))
  (some (.inr f5))

noncomputable def tU (l0 : (List aI)) (r1 : (List aB)) (f5 : List aM) (i6 : Int) : Option (List aM) :=
  (lp (fun s => lM l0 r1 s.1 s.2) (f5, i6)).bind (fun rr => tX rr)

noncomputable def nL (l0 : (List aI)) (r1 : (List aB)) : Option (List aM) :=
  tU l0 r1 ([] : List aM) (0 : Int)

noncomputable def vU  : Option Bool :=
  some true

noncomputable def oH (l0 : (List aI)) (qB : (List (List aB))) (i6 : Int) : Option ((Int) ⊕ (Unit ⊕ Bool)) :=
  cond (decide (i6 < ((List.length qB : Nat) : Int)))
  (bA (0 ≤ i6 ∧ i6 < ((List.length qB : Nat) : Int)) <|
  (nL l0 (List.getD qB (Int.toNat i6) default)).bind fun x7 =>
  cond (decide ((1024 : Int) < ((List.length x7 : Nat) : Int)))
  (some (.inr (.inr false)))
  (some (.inl (IntKind.i64.wrap (i6 + (1 : Int))))))
  (some (.inr (.inl ())))

noncomputable def wE (l0 : (List aI)) (qB : (List (List aB))) (i6 : Int) : Option Bool :=
  (lp (fun s => oH l0 qB s) i6).bind (Sum.elim (fun rr => vU ) (fun rr => some rr))

noncomputable def sZ (l0 : (List aI)) : Option Bool :=
  (oD l0).bind fun x2 =>
  wE l0 x2 (0 : Int)

noncomputable def qQ (l0 : (List aI)) (i3 : Int) : Option ((Int) ⊕ (Unit ⊕ Bool)) :=
  some (.inl (IntKind.i64.wrap (i3 + (1 : Int))))

noncomputable def nF (l0 : (List aI)) (i3 : Int) : Option ((Int) ⊕ (Unit ⊕ Bool)) :=
  cond (decide (i3 < ((List.length l0 : Nat) : Int)))
  (bA (0 ≤ i3 ∧ i3 < ((List.length l0 : Nat) : Int)) <|
  (pX ((List.getD l0 (Int.toNat i3) default).Row)).bind fun x13 =>
  bA ((((!(!x13))) = true → 0 ≤ i3 ∧ i3 < ((List.length l0 : Nat) : Int))) <|
  bA ((((!(!x13))) = true → 0 ≤ i3 ∧ i3 < ((List.length l0 : Nat) : Int))) <|
  (cV (!(!x13)) (pS ([aM.mk ((List.getD l0 (Int.toNat i3) default).At) ((List.getD l0 (Int.toNat i3) default).Net)]))).bind fun x17 =>
  cond ((!x13) || (!x17))
  (some (.inr (.inr false)))
  (cond (decide (i3 = (0 : Int)))
  (qQ l0 i3)
  (bA (0 ≤ (IntKind.i64.wrap (i3 - (1 : Int))) ∧ (IntKind.i64.wrap (i3 - (1 : Int))) < ((List.length l0 : Nat) : Int)) <|
  bA (0 ≤ i3 ∧ i3 < ((List.length l0 : Nat) : Int)) <|
  (nI ((List.getD l0 (Int.toNat (IntKind.i64.wrap (i3 - (1 : Int)))) default).Row) ((List.getD l0 (Int.toNat i3) default).Row)).bind fun x24 =>
  bA ((((decide (x24 = (0 : Int))) && (!(decide ((0 : Int) < x24)))) = true → 0 ≤ (IntKind.i64.wrap (i3 - (1 : Int))) ∧ (IntKind.i64.wrap (i3 - (1 : Int))) < ((List.length l0 : Nat) : Int))) <|
  bA ((((decide (x24 = (0 : Int))) && (!(decide ((0 : Int) < x24)))) = true → 0 ≤ i3 ∧ i3 < ((List.length l0 : Nat) : Int))) <|
  cond ((decide ((0 : Int) < x24)) || ((decide (x24 = (0 : Int))) && (decide (((List.getD l0 (Int.toNat i3) default).At) ≤ ((List.getD l0 (Int.toNat (IntKind.i64.wrap (i3 - (1 : Int)))) default).At)))))
  (some (.inr (.inr false)))
  (qQ l0 i3))))
  (some (.inr (.inl ())))

noncomputable def vS (l0 : (List aI)) (i3 : Int) : Option Bool :=
  (lp (fun s => nF l0 s) i3).bind (Sum.elim (fun rr => sZ l0) (fun rr => some rr))

noncomputable def sD (l0 : (List aI)) : Option Bool :=
  cond (decide ((4096 : Int) < ((List.length l0 : Nat) : Int)))
  (some false)
  (vS l0 (0 : Int))

noncomputable def qE (v5 : Int) : Option Int :=
  some v5

noncomputable def nW (f0 : (List aM)) (t1 : Int) (v5 : Int) (i6 : Int) : Option ((Int × Int) ⊕ (Int)) :=
  some (.inl (v5, IntKind.i64.wrap (i6 + (1 : Int))))

noncomputable def jP (f0 : (List aM)) (t1 : Int) (v5 : Int) (i6 : Int) : Option ((Int × Int) ⊕ (Int)) :=
  cond (decide (i6 < ((List.length f0 : Nat) : Int)))
  (bA (0 ≤ i6 ∧ i6 < ((List.length f0 : Nat) : Int)) <|
  cond (decide (((List.getD f0 (Int.toNat i6) default).At) ≤ t1))
  (bA (0 ≤ i6 ∧ i6 < ((List.length f0 : Nat) : Int)) <|
  nW f0 t1 (IntKind.i64.wrap (v5 + ((List.getD f0 (Int.toNat i6) default).Net))) i6)
  (nW f0 t1 v5 i6))
  (some (.inr v5))

noncomputable def tM (f0 : (List aM)) (t1 : Int) (v5 : Int) (i6 : Int) : Option Int :=
  (lp (fun s => jP f0 t1 s.1 s.2) (v5, i6)).bind (fun rr => qE rr)

noncomputable def mP (f0 : (List aM)) (t1 : Int) : Option Int :=
  tM f0 t1 (0 : Int) (0 : Int)

noncomputable def qN (m3 : Int) : Option Int :=
  some m3

noncomputable def qT (f0 : (List aM)) (m3 : Int) (i4 : Int) : Option ((Int × Int) ⊕ (Int)) :=
  some (.inl (m3, IntKind.i64.wrap (i4 + (1 : Int))))

noncomputable def lO (f0 : (List aM)) (m3 : Int) (i4 : Int) : Option ((Int × Int) ⊕ (Int)) :=
  cond (decide (i4 < ((List.length f0 : Nat) : Int)))
  (bA (0 ≤ i4 ∧ i4 < ((List.length f0 : Nat) : Int)) <|
  (mP f0 ((List.getD f0 (Int.toNat i4) default).At)).bind fun x10 =>
  cond (decide (x10 < m3))
  (bA (0 ≤ i4 ∧ i4 < ((List.length f0 : Nat) : Int)) <|
  (mP f0 ((List.getD f0 (Int.toNat i4) default).At)).bind fun x15 =>
  qT f0 x15 i4)
  (qT f0 m3 i4))
  (some (.inr m3))

noncomputable def uA (f0 : (List aM)) (m3 : Int) (i4 : Int) : Option Int :=
  (lp (fun s => lO f0 s.1 s.2) (m3, i4)).bind (fun rr => qN rr)

noncomputable def sB (f0 : (List aM)) : Option Int :=
  (pS f0).bind fun x1 =>
  cond (!x1)
  (some (0 : Int))
  ((mP f0 (-1 : Int)).bind fun x5 =>
  uA f0 x5 (0 : Int))

noncomputable def tR  : Option Bool :=
  some true

noncomputable def mY (l0 : (List aI)) (bL : (List (List aB))) (i4 : Int) : Option ((Int) ⊕ (Unit ⊕ Bool)) :=
  cond (decide (i4 < ((List.length bL : Nat) : Int)))
  (bA (0 ≤ i4 ∧ i4 < ((List.length bL : Nat) : Int)) <|
  (nL l0 (List.getD bL (Int.toNat i4) default)).bind fun x10 =>
  (sB x10).bind fun x13 =>
  cond (decide (x13 < (0 : Int)))
  (some (.inr (.inr false)))
  (some (.inl (IntKind.i64.wrap (i4 + (1 : Int))))))
  (some (.inr (.inl ())))

noncomputable def tO (l0 : (List aI)) (bL : (List (List aB))) (i4 : Int) : Option Bool :=
  (lp (fun s => mY l0 bL s) i4).bind (Sum.elim (fun rr => tR ) (fun rr => some rr))

noncomputable def rV (l0 : (List aI)) : Option Bool :=
  (sD l0).bind fun x1 =>
  cond (!x1)
  (some false)
  ((oD l0).bind fun x5 =>
  tO l0 x5 (0 : Int))

noncomputable def pF (l0 : (List aI)) (n1 : Int) : Option Int :=
  (sD l0).bind fun x1 =>
  cond (((!x1) || (decide (n1 < (1 : Int)))) || (decide ((64 : Int) < n1)))
  (some (2 : Int))
  ((rV l0).bind fun x5 =>
  cond (!x5)
  (some (20 : Int))
  (some (0 : Int)))

noncomputable def pE (out5 : List Int) : Option (List Int) :=
  some out5

noncomputable def pG (t1 : Int) (out5 : List Int) (put6 : Bool) : Option (List Int) :=
  cond (!put6)
  (bA ((List.length out5 + List.length ([t1])) * 8 ≤ 140737488355328 ∧ List.length out5 + List.length ([t1]) ≤ 9223372036854775807) <|
  pE (out5 ++ ([t1])))
  (pE out5)

noncomputable def rJ (l0 : (List Int)) (t1 : Int) (out5 : List Int) (put6 : Bool) (i7 : Int) : Option ((List Int × Bool × Int) ⊕ ((List Int × Bool) ⊕ (List Int))) :=
  bA (0 ≤ i7 ∧ i7 < ((List.length l0 : Nat) : Int)) <|
  bA ((List.length out5 + List.length ([List.getD l0 (Int.toNat i7) default])) * 8 ≤ 140737488355328 ∧ List.length out5 + List.length ([List.getD l0 (Int.toNat i7) default]) ≤ 9223372036854775807) <|
  some (.inl (out5 ++ ([List.getD l0 (Int.toNat i7) default]), put6, IntKind.i64.wrap (i7 + (1 : Int))))

noncomputable def jC (l0 : (List Int)) (t1 : Int) (out5 : List Int) (put6 : Bool) (i7 : Int) : Option ((List Int × Bool × Int) ⊕ ((List Int × Bool) ⊕ (List Int))) :=
  cond (decide (i7 < ((List.length l0 : Nat) : Int)))
  (bA (0 ≤ i7 ∧ i7 < ((List.length l0 : Nat) : Int)) <|
  cond (decide ((List.getD l0 (Int.toNat i7) default) = t1))
  (some (.inr (.inr l0)))
  (bA (0 ≤ i7 ∧ i7 < ((List.length l0 : Nat) : Int)) <|
  cond ((decide (t1 < (List.getD l0 (Int.toNat i7) default))) && (!put6))
  (bA ((List.length out5 + List.length ([t1])) * 8 ≤ 140737488355328 ∧ List.length out5 + List.length ([t1]) ≤ 9223372036854775807) <|
  rJ l0 t1 (out5 ++ ([t1])) true i7)
  (rJ l0 t1 out5 put6 i7)))
  (some (.inr (.inl (out5, put6))))

noncomputable def uZ (l0 : (List Int)) (t1 : Int) (out5 : List Int) (put6 : Bool) (i7 : Int) : Option (List Int) :=
  (lp (fun s => jC l0 t1 s.1 s.2.1 s.2.2) (out5, put6, i7)).bind (Sum.elim (fun rr => pG t1 rr.1 rr.2) (fun rr => some rr))

noncomputable def tJ (l0 : (List Int)) (t1 : Int) : Option (List Int) :=
  uZ l0 t1 ([] : List Int) false (0 : Int)

noncomputable def sP (out5 : (List Int)) : Option ((List Int) × Int) :=
  some (out5, (0 : Int))

noncomputable def nJ (l0 : (List aI)) (out5 : (List Int)) (i6 : Int) : Option (((List Int) × Int) ⊕ ((List Int))) :=
  some (.inl (out5, IntKind.i64.wrap (i6 + (1 : Int))))

noncomputable def kV (l0 : (List aI)) (out5 : (List Int)) (i6 : Int) : Option (((List Int) × Int) ⊕ ((List Int))) :=
  cond (decide (i6 < ((List.length l0 : Nat) : Int)))
  (bA (0 ≤ i6 ∧ i6 < ((List.length l0 : Nat) : Int)) <|
  bA ((((decide ((0 : Int) < ((List.getD l0 (Int.toNat i6) default).Net)))) = true → 0 ≤ i6 ∧ i6 < ((List.length l0 : Nat) : Int))) <|
  cond ((decide ((0 : Int) < ((List.getD l0 (Int.toNat i6) default).Net))) && (decide ((0 : Int) ≤ ((List.getD l0 (Int.toNat i6) default).At))))
  (bA (0 ≤ i6 ∧ i6 < ((List.length l0 : Nat) : Int)) <|
  (tJ out5 ((List.getD l0 (Int.toNat i6) default).At)).bind fun x11 =>
  nJ l0 x11 i6)
  (nJ l0 out5 i6))
  (some (.inr out5))

noncomputable def sR (l0 : (List aI)) (out5 : (List Int)) (i6 : Int) : Option ((List Int) × Int) :=
  (lp (fun s => kV l0 s.1 s.2) (out5, i6)).bind (fun rr => sP rr)

noncomputable def qR (l0 : (List aI)) : Option ((List Int) × Int) :=
  (pF l0 (1 : Int)).bind fun x1 =>
  cond (!decide (x1 = (0 : Int)))
  (some ([], x1))
  (sR l0 ([]) (0 : Int))

noncomputable def wL (t0 : Int) : Option Bool :=
  some ((decide ((0 : Int) ≤ t0)) && (decide (t0 ≤ (1125899906842624 : Int))))

noncomputable def qH (bQ : List aO) : Option ((List aO) × Int) :=
  cond (decide ((1024 : Int) < ((List.length bQ : Nat) : Int)))
  (some ([], (7 : Int)))
  (some (bQ, (0 : Int)))

noncomputable def nY (l0 : (List aI)) (n1 : Int) (cD : Int) (all9 : (List Int)) (cI : (List (List aB))) (bQ : List aO) (i13 : Int) : Option ((List aO × Int) ⊕ ((List aO))) :=
  some (.inl (bQ, IntKind.i64.wrap (i13 + (1 : Int))))

noncomputable def qU (l0 : (List aI)) (n1 : Int) (cD : Int) (all9 : (List Int)) (cI : (List (List aB))) (bQ : List aO) (i13 : Int) (p14 : aO) : Option ((List aO × Int) ⊕ ((List aO))) :=
  bA ((List.length bQ + List.length ([p14])) * 40 ≤ 140737488355328 ∧ List.length bQ + List.length ([p14]) ≤ 9223372036854775807) <|
  nY l0 n1 cD all9 cI (bQ ++ ([p14])) i13

noncomputable def qO (l0 : (List aI)) (n1 : Int) (cD : Int) (all9 : (List Int)) (cI : (List (List aB))) (bQ : List aO) (i13 : Int) (p14 : aO) (k15 : Int) : Option ((List aO × aO × Int) ⊕ ((List aO × aO))) :=
  some (.inl (bQ, p14, IntKind.i64.wrap (k15 + (1 : Int))))

noncomputable def qK (l0 : (List aI)) (n1 : Int) (cD : Int) (all9 : (List Int)) (cI : (List (List aB))) (bQ : List aO) (i13 : Int) (p14 : aO) (k15 : Int) (c17 : bH) : Option ((List aO × aO × Int) ⊕ ((List aO × aO))) :=
  cond (decide ((0 : Int) < c17.N))
  (bA ((List.length p14.Rows + List.length ([c17])) * 32 ≤ 140737488355328 ∧ List.length p14.Rows + List.length ([c17]) ≤ 9223372036854775807) <|
  qO l0 n1 cD all9 cI bQ i13 (aO.mk p14.Span (p14.Rows ++ ([c17]))) k15)
  (qO l0 n1 cD all9 cI bQ i13 p14 k15)

noncomputable def qI (l0 : (List aI)) (n1 : Int) (cD : Int) (all9 : (List Int)) (cI : (List (List aB))) (bQ : List aO) (i13 : Int) (p14 : aO) (k15 : Int) (f16 : (List aM)) (c17 : bH) (j18 : Int) : Option ((List aO × aO × bH × Int) ⊕ ((List aO × aO × bH))) :=
  some (.inl (bQ, p14, c17, IntKind.i64.wrap (j18 + (1 : Int))))

noncomputable def lQ (l0 : (List aI)) (n1 : Int) (cD : Int) (all9 : (List Int)) (cI : (List (List aB))) (i13 : Int) (k15 : Int) (f16 : (List aM)) (bQ : List aO) (p14 : aO) (c17 : bH) (j18 : Int) : Option ((List aO × aO × bH × Int) ⊕ ((List aO × aO × bH))) :=
  cond (decide (j18 < ((List.length f16 : Nat) : Int)))
  (bA (0 ≤ j18 ∧ j18 < ((List.length f16 : Nat) : Int)) <|
  bA ((((decide ((0 : Int) < ((List.getD f16 (Int.toNat j18) default).Net)))) = true → 0 ≤ j18 ∧ j18 < ((List.length f16 : Nat) : Int))) <|
  bA ((((decide ((0 : Int) < ((List.getD f16 (Int.toNat j18) default).Net)))) = true → 0 ≤ i13 ∧ i13 < ((List.length all9 : Nat) : Int))) <|
  bA (((((decide ((0 : Int) < ((List.getD f16 (Int.toNat j18) default).Net))) && (decide ((List.getD all9 (Int.toNat i13) default) ≤ ((List.getD f16 (Int.toNat j18) default).At))))) = true → 0 ≤ j18 ∧ j18 < ((List.length f16 : Nat) : Int))) <|
  bA (((((decide ((0 : Int) < ((List.getD f16 (Int.toNat j18) default).Net))) && (decide ((List.getD all9 (Int.toNat i13) default) ≤ ((List.getD f16 (Int.toNat j18) default).At))))) = true → 0 ≤ (IntKind.i64.wrap ((IntKind.i64.wrap (i13 + n1)) - (1 : Int))) ∧ (IntKind.i64.wrap ((IntKind.i64.wrap (i13 + n1)) - (1 : Int))) < ((List.length all9 : Nat) : Int))) <|
  cond (((decide ((0 : Int) < ((List.getD f16 (Int.toNat j18) default).Net))) && (decide ((List.getD all9 (Int.toNat i13) default) ≤ ((List.getD f16 (Int.toNat j18) default).At)))) && (decide (((List.getD f16 (Int.toNat j18) default).At) ≤ (List.getD all9 (Int.toNat (IntKind.i64.wrap ((IntKind.i64.wrap (i13 + n1)) - (1 : Int)))) default))))
  (bA (0 ≤ j18 ∧ j18 < ((List.length f16 : Nat) : Int)) <|
  qI l0 n1 cD all9 cI bQ i13 p14 k15 f16 (bH.mk c17.Row (IntKind.i64.wrap (c17.N + ((List.getD f16 (Int.toNat j18) default).Net)))) j18)
  (qI l0 n1 cD all9 cI bQ i13 p14 k15 f16 c17 j18))
  (some (.inr (bQ, p14, c17)))

noncomputable def tP (l0 : (List aI)) (n1 : Int) (cD : Int) (all9 : (List Int)) (cI : (List (List aB))) (bQ : List aO) (i13 : Int) (p14 : aO) (k15 : Int) (f16 : (List aM)) (c17 : bH) (j18 : Int) : Option ((List aO × aO × Int) ⊕ ((List aO × aO))) :=
  (lp (fun s => lQ l0 n1 cD all9 cI i13 k15 f16 s.1 s.2.1 s.2.2.1 s.2.2.2) (bQ, p14, c17, j18)).bind (fun rr => qK l0 n1 cD all9 cI rr.1 i13 rr.2.1 k15 rr.2.2)

noncomputable def lU (l0 : (List aI)) (n1 : Int) (cD : Int) (all9 : (List Int)) (cI : (List (List aB))) (i13 : Int) (bQ : List aO) (p14 : aO) (k15 : Int) : Option ((List aO × aO × Int) ⊕ ((List aO × aO))) :=
  cond (decide (k15 < ((List.length cI : Nat) : Int)))
  (bA (0 ≤ k15 ∧ k15 < ((List.length cI : Nat) : Int)) <|
  (nL l0 (List.getD cI (Int.toNat k15) default)).bind fun x40 =>
  bA (0 ≤ k15 ∧ k15 < ((List.length cI : Nat) : Int)) <|
  tP l0 n1 cD all9 cI bQ i13 p14 k15 x40 (bH.mk (List.getD cI (Int.toNat k15) default) 0) (0 : Int))
  (some (.inr (bQ, p14)))

noncomputable def tY (l0 : (List aI)) (n1 : Int) (cD : Int) (all9 : (List Int)) (cI : (List (List aB))) (bQ : List aO) (i13 : Int) (p14 : aO) (k15 : Int) : Option ((List aO × Int) ⊕ ((List aO))) :=
  (lp (fun s => lU l0 n1 cD all9 cI i13 s.1 s.2.1 s.2.2) (bQ, p14, k15)).bind (fun rr => qU l0 n1 cD all9 cI rr.1 i13 rr.2)

noncomputable def jT (l0 : (List aI)) (n1 : Int) (cD : Int) (all9 : (List Int)) (cI : (List (List aB))) (bQ : List aO) (i13 : Int) : Option ((List aO × Int) ⊕ ((List aO))) :=
  cond (decide ((IntKind.i64.wrap (i13 + n1)) ≤ ((List.length all9 : Nat) : Int)))
  (bA (0 ≤ i13 ∧ i13 < ((List.length all9 : Nat) : Int)) <|
  cond (decide ((List.getD all9 (Int.toNat i13) default) < cD))
  (nY l0 n1 cD all9 cI bQ i13)
  (bA (0 ≤ i13 ∧ i13 < ((List.length all9 : Nat) : Int)) <|
  bA (0 ≤ (IntKind.i64.wrap ((IntKind.i64.wrap (i13 + n1)) - (1 : Int))) ∧ (IntKind.i64.wrap ((IntKind.i64.wrap (i13 + n1)) - (1 : Int))) < ((List.length all9 : Nat) : Int)) <|
  tY l0 n1 cD all9 cI bQ i13 (aO.mk (cE.mk (List.getD all9 (Int.toNat i13) default) (IntKind.i64.wrap ((List.getD all9 (Int.toNat (IntKind.i64.wrap ((IntKind.i64.wrap (i13 + n1)) - (1 : Int)))) default) + (1 : Int)))) ([])) (0 : Int)))
  (some (.inr bQ))

noncomputable def tW (l0 : (List aI)) (n1 : Int) (cD : Int) (all9 : (List Int)) (cI : (List (List aB))) (bQ : List aO) (i13 : Int) : Option ((List aO) × Int) :=
  (lp (fun s => jT l0 n1 cD all9 cI s.1 s.2) (bQ, i13)).bind (fun rr => qH rr)

noncomputable def rN (l0 : (List aI)) (n1 : Int) (cD : Int) : Option ((List aO) × Int) :=
  (pF l0 n1).bind fun x1 =>
  cond (!decide (x1 = (0 : Int)))
  (some ([], x1))
  ((wL cD).bind fun x5 =>
  cond (!x5)
  (some ([], (13 : Int)))
  ((qR l0).bind fun x9 =>
  (oD l0).bind fun x12 =>
  tW l0 n1 cD x9.1 x12 ([] : List aO) (0 : Int)))

noncomputable def mS  : Option Bool :=
  some true

noncomputable def kX (a0 : (List bH)) (b1 : (List bH)) (i5 : Int) : Option ((Int) ⊕ (Unit ⊕ Bool)) :=
  cond (decide (i5 < ((List.length a0 : Nat) : Int)))
  (bA (0 ≤ i5 ∧ i5 < ((List.length a0 : Nat) : Int)) <|
  bA (0 ≤ i5 ∧ i5 < ((List.length b1 : Nat) : Int)) <|
  bA ((((!(!decide (((List.getD a0 (Int.toNat i5) default).N) = ((List.getD b1 (Int.toNat i5) default).N))))) = true → 0 ≤ i5 ∧ i5 < ((List.length a0 : Nat) : Int))) <|
  bA ((((!(!decide (((List.getD a0 (Int.toNat i5) default).N) = ((List.getD b1 (Int.toNat i5) default).N))))) = true → 0 ≤ i5 ∧ i5 < ((List.length b1 : Nat) : Int))) <|
  (cV (!(!decide (((List.getD a0 (Int.toNat i5) default).N) = ((List.getD b1 (Int.toNat i5) default).N)))) (oG ((List.getD a0 (Int.toNat i5) default).Row) ((List.getD b1 (Int.toNat i5) default).Row))).bind fun x7 =>
  cond ((!decide (((List.getD a0 (Int.toNat i5) default).N) = ((List.getD b1 (Int.toNat i5) default).N))) || (!x7))
  (some (.inr (.inr false)))
  (some (.inl (IntKind.i64.wrap (i5 + (1 : Int))))))
  (some (.inr (.inl ())))

noncomputable def oR (a0 : (List bH)) (b1 : (List bH)) (i5 : Int) : Option Bool :=
  (lp (fun s => kX a0 b1 s) i5).bind (Sum.elim (fun rr => mS ) (fun rr => some rr))

noncomputable def nE (a0 : (List bH)) (b1 : (List bH)) : Option Bool :=
  cond (!decide (((List.length a0 : Nat) : Int) = ((List.length b1 : Nat) : Int)))
  (some false)
  (oR a0 b1 (0 : Int))

noncomputable def rX  : Option Bool :=
  some true

noncomputable def oY (a0 : (List aO)) (b1 : (List aO)) (i5 : Int) : Option ((Int) ⊕ (Unit ⊕ Bool)) :=
  cond (decide (i5 < ((List.length a0 : Nat) : Int)))
  (bA (0 ≤ i5 ∧ i5 < ((List.length a0 : Nat) : Int)) <|
  bA (0 ≤ i5 ∧ i5 < ((List.length b1 : Nat) : Int)) <|
  bA ((((!(!((decide ((((List.getD a0 (Int.toNat i5) default).Span).From) = (((List.getD b1 (Int.toNat i5) default).Span).From))) && ((decide ((((List.getD a0 (Int.toNat i5) default).Span).To) = (((List.getD b1 (Int.toNat i5) default).Span).To))) && true))))) = true → 0 ≤ i5 ∧ i5 < ((List.length a0 : Nat) : Int))) <|
  bA ((((!(!((decide ((((List.getD a0 (Int.toNat i5) default).Span).From) = (((List.getD b1 (Int.toNat i5) default).Span).From))) && ((decide ((((List.getD a0 (Int.toNat i5) default).Span).To) = (((List.getD b1 (Int.toNat i5) default).Span).To))) && true))))) = true → 0 ≤ i5 ∧ i5 < ((List.length b1 : Nat) : Int))) <|
  (cV (!(!((decide ((((List.getD a0 (Int.toNat i5) default).Span).From) = (((List.getD b1 (Int.toNat i5) default).Span).From))) && ((decide ((((List.getD a0 (Int.toNat i5) default).Span).To) = (((List.getD b1 (Int.toNat i5) default).Span).To))) && true)))) (nE ((List.getD a0 (Int.toNat i5) default).Rows) ((List.getD b1 (Int.toNat i5) default).Rows))).bind fun x7 =>
  cond ((!((decide ((((List.getD a0 (Int.toNat i5) default).Span).From) = (((List.getD b1 (Int.toNat i5) default).Span).From))) && ((decide ((((List.getD a0 (Int.toNat i5) default).Span).To) = (((List.getD b1 (Int.toNat i5) default).Span).To))) && true))) || (!x7))
  (some (.inr (.inr false)))
  (some (.inl (IntKind.i64.wrap (i5 + (1 : Int))))))
  (some (.inr (.inl ())))

noncomputable def uT (a0 : (List aO)) (b1 : (List aO)) (i5 : Int) : Option Bool :=
  (lp (fun s => oY a0 b1 s) i5).bind (Sum.elim (fun rr => rX ) (fun rr => some rr))

noncomputable def tF (a0 : (List aO)) (b1 : (List aO)) : Option Bool :=
  cond (!decide (((List.length a0 : Nat) : Int) = ((List.length b1 : Nat) : Int)))
  (some false)
  (uT a0 b1 (0 : Int))

noncomputable def oS (l0 : (List aI)) (n1 : Int) (cD : Int) : Option Bool :=
  (xF l0).bind fun x1 =>
  cond (!x1)
  ((qM ).bind fun x5 =>
  some x5)
  ((nZ l0 n1 cD).bind fun x8 =>
  (rN l0 n1 cD).bind fun x11 =>
  (qM ).bind fun x14 =>
  (cV (x14 && (decide (x8.2 = x11.2))) (tF x8.1 x11.1)).bind fun x17 =>
  some ((x14 && (decide (x8.2 = x11.2))) && x17))

end Go.Abs
namespace Go.Abs
open Go Go.RowKit
def zI (x : aB) : Prop := wV x.Kind ∧ wV x.Num ∧ (fun s => s.size ≤ maxLen) x.Text ∧ True

def uL (x : aI) : Prop := (fun l => (∀ a ∈ l, zI a) ∧ l.length * 32 ≤ 140737488351232) x.Row ∧ wV x.At ∧ wV x.Net ∧ True

end Go.Abs
namespace Go.Abs
open Go Go.RowKit Go.Proofs
noncomputable def tt : TT := ⟨TA Try.prog, MS Try.prog⟩

theorem aD : gO Try.prog tt := gO.of Try.prog

theorem PZ (l0 : (List aI)) (r : Bool) (h0 : xF l0 = some r) : dH Try.prog 19 [(eL aH l0)] (aE r) := by
  intro H0
  refine dF Try.func19 ?_
  have hO := aL.start H0
  unfold xF at h0
  refine aT aD 1 [] [] ?_
  refine bT aD 4 [(2, (aE (decide ((lN l0) ≤ (60 : Int)))))] ?_
  refine bI ?_
  obtain rfl := oI h0
  exact aG (Q_r hO)

theorem QO (l0 : (List aI)) (r : (List aI)) (h0 : xI l0 = some r) : dH Try.prog 67 [(eL aH l0)] (.fn (.func 91) [] [(.rp (eL aH r))]) := by
  intro H0
  refine dF Try.func67 ?_
  have hO := aL.start H0
  unfold xI at h0
  refine aP ?_
  refine aW aD 2 ?_
  refine qF 1 (eL aH l0) (by kernel_rfl) (by kernel_rfl) ?_
  refine bD ?_
  refine bE [(1, (.rp (eL aH l0)))] ?_
  refine bT aD 2 [(2, (.fn (.func 91) [] [(.rp (eL aH l0))]))] ?_
  refine bI ?_
  obtain rfl := oI h0
  exact aG (lE (x := (.fn (.func 91) [] [(.rp (eL aH l0))])) (by kernel_rfl) (aN.refl _) ⟨rfl, hO.out⟩)

theorem oJ (s10 : (List aB)) (s21 : (List aB)) (r : Bool) (h0 : fJ s10 s21 = some r) : dH Try.prog 72 [(eL aC s10), (eL aC s21)] (aE r) := by
  intro H0
  refine dF Try.func72 ?_
  have hO := aL.start H0
  unfold fJ at h0
  refine aT aD 1 [] [] ?_
  refine aP ?_
  refine aT aD 5 [] [(10, (aE (!decide ((lN s10) = (lN s21)))))] ?_
  refine bF h0 (fun h0 => ?_) (fun h0 => ?_)
  · refine bT aD 1 [(4, (aE false))] ?_
    refine bI ?_
    obtain rfl := oI h0
    exact aG (aQ (Q_r hO))
  refine bG ?_
  refine bE [(0, (eL aC s10)), (1, (eL aC s21))] ?_
  refine dU (fun T H => Has T [] ∧ aL ⟨H0, [], []⟩ H [] ∧ gI  = some r) ?_ ?_
  · clear hO h0
    rintro T H ⟨hT, hO, h0⟩
    refine bC hT ?_
    clear hT
    unfold gI at h0
    refine bT aD 1 [(4, (aE true))] ?_
    refine bI ?_
    obtain rfl := oI h0
    exact aG (Q_r hO)
  refine aT aD 3 [] [(12, (eI (lN s10))), (13, (eI (0 : Int)))] ?_
  refine bZ 0 ?_
  refine eZ [(0, (eL aC s10)), (1, (eL aC s21)), (12, (eI (lN s10))), (13, (eI (0 : Int)))] ?_
  refine dO (fun T H => ∃ t12 : Int, ∃ t13 : Int, Has T [(0, (eL aC s10)), (1, (eL aC s21)), (12, (eI t12)), (13, (eI t13))] ∧ aL ⟨H0, [], []⟩ H [] ∧ jG s10 s21 t12 t13 = some r) ?_ ⟨(lN s10), (0 : Int), .eq (by kernel_rfl), hO, h0⟩
  clear hO h0
  rintro T H ⟨t12, t13, hT, hO, h0⟩
  refine bC hT ?_
  clear hT
  unfold jG at h0
  obtain ⟨rr0, hl0, h0⟩ := aZ h0
  refine cP (by kernel_rfl) (fun (s : Int) T H => Has T [(0, (eL aC s10)), (1, (eL aC s21)), (12, (eI t12)), (13, (eI s))] ∧ aL ⟨H0, [], []⟩ H []) hl0 ⟨.eq (by kernel_rfl), hO⟩ ?_
  clear hO
  rintro k0 s out1 T H ⟨hT, hO⟩ h1 ho0
  obtain ⟨t13, rfl⟩ : ∃ x, x = s := ⟨_, rfl⟩
  replace h1 : fC s10 s21 t12 t13 = some out1 := h1
  refine bC hT ?_
  clear hT
  unfold fC at h1
  refine aT aD 1 [] [(14, (aE (decide (t13 < t12))))] ?_
  refine aP ?_
  refine bF h1 (fun h1 => ?_) (fun h1 => ?_)
  · refine bG ?_
    refine bE [(0, (eL aC s10)), (1, (eL aC s21)), (12, (eI t12)), (13, (eI t13))] ?_
    refine aP ?_
    refine bZ 1 ?_
    refine aT aD 2 [] [(5, (eI t13))] ?_
    refine aP ?_
    refine eC (eE [19, 23]) aD 9 ?_
    obtain ⟨c3, h1⟩ := aR h1
    obtain ⟨c4, h1⟩ := aR h1
    refine yI (Ds := [0 ≤ t13 ∧ t13 < (lN s10), 0 ≤ t13 ∧ t13 < (lN s21)]) (by kernel_rfl) ⟨c3, c4, trivial⟩ ?_
    refine bU [5] [(24, (aE (!((decide (((gD s10 t13).Kind) = ((gD s21 t13).Kind))) && ((decide (((gD s10 t13).Num) = ((gD s21 t13).Num))) && ((nB ((gD s10 t13).Text) ((gD s21 t13).Text)) && true))))))] ?_
    refine bF h1 (fun h1 => ?_) (fun h1 => ?_)
    · refine bT aD 1 [(4, (aE false))] ?_
      refine bI ?_
      obtain rfl := oI h1
      obtain rfl : _ = rr0 := ho0
      replace h0 : some false = some r := h0
      obtain rfl := oI h0
      exact aG (bK (aQ (aQ (bK (aQ (Q_r hO))))))
    refine bG ?_
    refine fZ [(0, (eL aC s10)), (1, (eL aC s21)), (12, (eI t12)), (13, (eI t13))] ?_
    refine aG (aY (aF (?_)))
    refine aW aD 2 ?_
    refine bD ?_
    exact aG (aF (⟨rfl, _, (oI h1).symm, .eq (by kernel_rfl), hO⟩))
  refine eP 0 ?_
  obtain rfl := oI h1
  obtain rfl : _ = rr0 := ho0
  replace h0 : gI  = some r := h0
  exact aG (aS (aS (bP (aF (⟨rfl, .eq (by kernel_rfl), hO, h0⟩)))))

theorem SW (a0 : (List aB)) (b1 : (List aB)) (r : Bool) (h0 : tT a0 b1 = some r) : dH Try.prog 92 [(eL aC a0), (eL aC b1)] (aE r) := by
  intro H0
  refine dF Try.func92 ?_
  have hO := aL.start H0
  unfold tT at h0
  refine aT aD 1 [] [] ?_
  refine aP ?_
  refine aW aD 4 ?_
  refine bV 2 ?_
  obtain ⟨x1, hx2, h0⟩ := aZ h0
  refine dL (oJ a0 b1 _ hx2) hO ?_
  intro H hO
  refine bD ?_
  refine bE [(4, (aE x1))] ?_
  refine bI ?_
  obtain rfl := oI h0
  exact aG (Q_r hO)

theorem SB (r0 : (List aB)) (r : (List aB)) (h0 : wJ r0 = some r) : dH Try.prog 93 [(eL aC r0)] (eL aC r) := by
  intro H0
  refine dF Try.func93 ?_
  have hO := aL.start H0
  unfold wJ at h0
  refine aT aD 1 [] [] ?_
  refine aP ?_
  refine aW aD 6 ?_
  refine bV 2 ?_
  obtain ⟨c1, h0⟩ := aR h0
  refine aAl 3 32 (lN r0) (by kernel_rfl) (by kernel_rfl) c1 hO ?_
  intro lo2 H hO
  refine bV 4 ?_
  obtain ⟨c4, h0⟩ := aR h0
  refine sH (e := aC) ([] : List aB) r0 0 lo2 3 32 (eL aC r0) (fun lo3 => [(lo3, 3, List.map aC (([] : List aB) ++ r0))]) (by kernel_rfl) (by kernel_rfl) hO (by kernel_rfl) (RM (fun _ => by kernel_rfl)) c4 (fun _ => by kernel_rfl) ?_
  intro lo3 H hO
  refine bD ?_
  refine bE [(2, (.msl 3 lo3 0 (List.length (([] : List aB) ++ r0))))] ?_
  refine bI ?_
  refine fZ [(2, (.msl 3 lo3 0 (List.length (([] : List aB) ++ r0))))] ?_
  refine tK (en := aC) (([] : List aB) ++ r0) 0 0 2 3 lo3 (List.length (([] : List aB) ++ r0)) hO (by kernel_rfl) (by kernel_rfl) (by kernel_rfl) (L' := []) (by kernel_rfl) ?_
  intro H5 hO
  obtain rfl := oI h0
  exact aG (Q_r hO)

theorem IL {σ : Type} (I : σ → Gs → Prop) (yield0_b : Nat) (gU : σ → (List aB) → (List aM) → Option (σ × Bool)) (yield0_h : ∀ st a0 a1 st2 r, gU st a0 a1 = some (st2, r) → FA Try.prog (yv yield0_b) I st [(eL aC a0), (eL aX a1)] st2 (aE r)) (t1 : (List aI)) (sg0 : σ) (r : σ) (h0 : pJ gU t1 sg0 = some r) : yJ Try.prog 91 I sg0 [(yv yield0_b), (.rp (eL aH t1))] r (.tup []) := by
  intro H0 G0 hI hg
  refine dF Try.func91 ?_
  obtain ⟨G, hO, hI⟩ : ∃ G, aL ⟨H0, List.map (fun p : Nat × dV => p.1) G0, G⟩ H0 [] ∧ I sg0 G := ⟨G0, aL.IT hg, hI⟩
  clear hg
  unfold pJ at h0
  refine aT aD 1 [] [(3, (eI (0 : Int)))] ?_
  refine bZ 0 ?_
  refine eZ [(0, (yv yield0_b)), (1, (.rp (eL aH t1))), (3, (eI (0 : Int)))] ?_
  refine dO (fun T H => ∃ sg : σ, ∃ i3 : Int, ∃ G : Gs, Has T [(0, (yv yield0_b)), (1, (.rp (eL aH t1))), (3, (eI i3))] ∧ aL ⟨H0, List.map (fun p : Nat × dV => p.1) G0, G⟩ H [] ∧ I sg G ∧ qZ gU sg t1 i3 = some r) ?_ ⟨sg0, (0 : Int), G, .eq (by kernel_rfl), hO, hI, h0⟩
  clear hO hI h0
  rintro T H ⟨sg, i3, G, hT, hO, hI, h0⟩
  refine bC hT ?_
  clear hT
  unfold qZ at h0
  obtain ⟨rr0, hl0, h0⟩ := aZ h0
  refine cP (by kernel_rfl) (fun (s : σ × Int) T H => ∃ G : Gs, Has T [(0, (yv yield0_b)), (1, (.rp (eL aH t1))), (3, (eI s.2))] ∧ aL ⟨H0, List.map (fun p : Nat × dV => p.1) G0, G⟩ H [] ∧ I s.1 G) hl0 ⟨G, .eq (by kernel_rfl), hO, hI⟩ ?_
  clear hO hI
  rintro k0 s out1 T H ⟨G, hT, hO, hI⟩ h1 ho0
  obtain ⟨sg, i3⟩ := s
  replace h1 : iK gU t1 sg i3 = some out1 := h1
  try dsimp only at hT
  refine bC hT ?_
  clear hT
  unfold iK at h1
  refine aP ?_
  refine aT aD 4 [] [(9, (aE (decide (i3 < (lN t1)))))] ?_
  refine bF h1 (fun h1 => ?_) (fun h1 => ?_)
  · refine bG ?_
    refine bE [(0, (yv yield0_b)), (1, (.rp (eL aH t1))), (3, (eI i3))] ?_
    refine bZ 1 ?_
    refine aP ?_
    refine aW aD 6 ?_
    obtain ⟨c2, h1⟩ := aR h1
    refine mH [0 ≤ i3 ∧ i3 < (lN t1)] ⟨c2, trivial⟩ ?_
    refine bU [] [(4, (eL aC ((gD t1 i3).Row)))] ?_
    refine aP ?_
    refine aW aD 2 ?_
    refine nA (xs := []) (k := 2) (by kernel_rfl) (by kernel_rfl) ?_
    refine bD ?_
    refine bU [] [(5, (.sl true 0 (fun _ => .bad)))] ?_
    refine dU (fun T H => ∃ sg : σ, ∃ i3 : Int, ∃ r4 : (List aB), ∃ f5 : List aM, ∃ lo3 : Nat, ∃ G : Gs, Has T [(0, (yv yield0_b)), (1, (.rp (eL aH t1))), (3, (eI i3)), (4, (eL aC r4)), (5, (.msl 2 lo3 0 (List.length f5)))] ∧ aL ⟨H0, List.map (fun p : Nat × dV => p.1) G0, G⟩ H [(lo3, 2, List.map aX f5)] ∧ I sg G ∧ oL gU sg t1 i3 r4 f5 = some out1) ?_ ?_
    · clear hO hI h1
      rintro T H ⟨sg, i3, r4, f5, lo3, G, hT, hO, hI, h1⟩
      refine bC hT ?_
      clear hT
      unfold oL at h1
      refine aP ?_
      refine aW aD 6 ?_
      refine VM (e := aX) f5 0 5 2 lo3 (List.length f5) [] (by kernel_rfl) hO (by kernel_rfl) (by kernel_rfl) (by kernel_rfl) (by kernel_rfl) ?_
      intro H hO
      refine bV 2 ?_
      obtain ⟨x7, hx8, h1⟩ := aZ h1
      refine dL (SB r4 _ hx8) hO ?_
      intro H hO
      refine bV 4 ?_
      obtain ⟨x10, hx11, h1⟩ := aZ h1
      refine RE (I := I) (yv yield0_b) [(eL aC x7), (eL aX f5)] (aE x10.2) (by kernel_rfl) (by kernel_rfl) (yield0_h _ x7 f5 x10.1 x10.2 hx11) hO hI ?_
      intro G H hO hI
      refine bD ?_
      refine bU [4, 5] [(50, (aE (!x10.2)))] ?_
      refine bF h1 (fun h1 => ?_) (fun h1 => ?_)
      · refine bI ?_
        obtain rfl := oI h1
        obtain rfl : _ = rr0 := ho0
        replace h0 : some x10.1 = some r := h0
        obtain rfl := oI h0
        exact aG (bK (aQ (bK (lE (x := (.tup [])) (by kernel_rfl) (aN.refl _) ⟨rfl, G, hI, hO.GL⟩))))
      refine bG ?_
      exact aG (aY (aF (⟨rfl, _, (oI h1).symm, _, .eq (by kernel_rfl), hO, hI⟩)))
    refine bZ 2 ?_
    refine eZ [(0, (yv yield0_b)), (1, (.rp (eL aH t1))), (3, (eI i3)), (4, (eL aC ((gD t1 i3).Row))), (5, (.sl true 0 (fun _ => .bad)))] ?_
    refine BK (el := (fun _ => .bad)) 4 5 2 hO (by kernel_rfl) ?_
    intro lo24 H25 hO
    refine dO (fun T H => ∃ sg : σ, ∃ i3 : Int, ∃ r4 : (List aB), ∃ f5 : List aM, ∃ lo14 : Nat, ∃ G : Gs, Has T [(0, (yv yield0_b)), (1, (.rp (eL aH t1))), (3, (eI i3)), (4, (eL aC r4)), (5, (.msl 2 lo14 0 (List.length f5)))] ∧ aL ⟨H0, List.map (fun p : Nat × dV => p.1) G0, G⟩ H [(lo14, 2, List.map aX f5)] ∧ I sg G ∧ rH gU sg t1 i3 r4 f5 = some out1) ?_ ⟨sg, i3, (gD t1 i3).Row, ([] : List aM), lo24, G, .eq (by kernel_rfl), hO, hI, h1⟩
    clear hO hI h1
    rintro T H ⟨sg, i3, r4, f5, lo14, G, hT, hO, hI, h1⟩
    refine bC hT ?_
    clear hT
    unfold rH at h1
    obtain ⟨rr1, hl1, h1⟩ := aZ h1
    refine cP (by kernel_rfl) (fun (s : σ × Int × List aM) T H => ∃ lo14 : Nat, ∃ G : Gs, Has T [(0, (yv yield0_b)), (1, (.rp (eL aH t1))), (3, (eI s.2.1)), (4, (eL aC r4)), (5, (.msl 2 lo14 0 (List.length s.2.2)))] ∧ aL ⟨H0, List.map (fun p : Nat × dV => p.1) G0, G⟩ H [(lo14, 2, List.map aX s.2.2)] ∧ I s.1 G) hl1 ⟨lo14, G, .eq (by kernel_rfl), hO, hI⟩ ?_
    clear hO hI
    rintro k1 s out2 T H ⟨lo14, G, hT, hO, hI⟩ h2 ho1
    obtain ⟨sg, i3, f5⟩ := s
    replace h2 : jL gU t1 r4 sg i3 f5 = some out2 := h2
    try dsimp only at hT
    refine bC hT ?_
    clear hT
    unfold jL at h2
    refine aP ?_
    refine aP ?_
    refine aW aD 13 ?_
    obtain ⟨c15, h2⟩ := aR h2
    refine nR 11 [(((decide (i3 < (lN t1)))) = true → 0 ≤ i3 ∧ i3 < (lN t1))] ⟨c15, trivial⟩ ?_
    obtain ⟨x16, hx17, h2⟩ := aZ h2
    refine nK [(20, true)] 92 [(eL aC ((gD t1 i3).Row)), (eL aC r4)] (aE x16) (decide (i3 < (lN t1))) (by kernel_rfl) (by kernel_rfl) (by kernel_rfl) (fun hb18 => (SW ((gD t1 i3).Row) r4 _ (iV hx17 hb18))) hO ?_
    intro H hO
    refine bD ?_
    refine bU [] [(28, (aE ((decide (i3 < (lN t1))) && x16)))] ?_
    refine bF h2 (fun h2 => ?_) (fun h2 => ?_)
    · refine bG ?_
      refine bE [(0, (yv yield0_b)), (1, (.rp (eL aH t1))), (3, (eI i3)), (4, (eL aC r4)), (5, (.msl 2 lo14 0 (List.length f5)))] ?_
      refine aP ?_
      refine bZ 3 ?_
      refine eC (eE [32, 36, 37, 41, 43]) aD 15 ?_
      obtain ⟨c20, h2⟩ := aR h2
      obtain ⟨c21, h2⟩ := aR h2
      refine cB 12 [0 ≤ i3 ∧ i3 < (lN t1), 0 ≤ i3 ∧ i3 < (lN t1)] ⟨c20, c21, trivial⟩ ?_
      refine TU (xs := [(aX (aM.mk ((gD t1 i3).At) ((gD t1 i3).Net)))]) (k := 2) (by kernel_rfl) (by kernel_rfl) ?_
      obtain ⟨c23, h2⟩ := aR h2
      refine JF (e := aX) f5 ([aM.mk ((gD t1 i3).At) ((gD t1 i3).Net)]) 0 lo14 2 16 (iO [(aX (aM.mk ((gD t1 i3).At) ((gD t1 i3).Net)))]) (fun lo22 => [(lo22, 2, List.map aX (f5 ++ ([aM.mk ((gD t1 i3).At) ((gD t1 i3).Net)])))]) (by kernel_rfl) (by kernel_rfl) hO (by kernel_rfl) (by kernel_rfl) c23 (fun _ => by kernel_rfl) ?_
      intro lo22 H hO
      refine gG ?_
      refine fZ [(0, (yv yield0_b)), (1, (.rp (eL aH t1))), (3, (eI i3)), (4, (eL aC r4)), (5, (.msl 2 lo22 0 (List.length (f5 ++ ([aM.mk ((gD t1 i3).At) ((gD t1 i3).Net)])))))] ?_
      refine aG (aY (aF (?_)))
      refine aW aD 3 ?_
      refine bD ?_
      exact aG (aF (⟨rfl, _, (oI h2).symm, _, _, .eq (by kernel_rfl), hO, hI⟩))
    refine eP 2 ?_
    obtain rfl := oI h2
    obtain rfl : _ = rr1 := ho1
    replace h1 : oL gU sg t1 i3 r4 f5 = some out1 := h1
    exact aG (aS (aS (bP (aF (⟨rfl, _, _, _, _, _, _, .eq (by kernel_rfl), hO, hI, h1⟩)))))
  refine eP 0 ?_
  obtain rfl := oI h1
  obtain rfl : _ = rr0 := ho0
  replace h0 : some sg = some r := h0
  obtain rfl := oI h0
  exact aG (aS (aS (bP (yL (x := (.tup [])) (by kernel_rfl) (aN.refl _) ⟨rfl, G, hI, hO.GL⟩))))

theorem tL (s0 : (List aB)) (f1_f : Nat) (f1_a f1_c : List V) (f1 : aB → Option Bool) (f1_h : ∀ a0 r, f1 a0 = some r → dH Try.prog f1_f (f1_a ++ [(aC a0)] ++ f1_c) (aE r)) (r : Int) (h0 : iI s0 f1 = some r) : dH Try.prog 100 [(eL aC s0), (.fn (.func f1_f) f1_a f1_c)] (eI r) := by
  intro H0
  refine dF Try.func100 ?_
  have hO := aL.start H0
  unfold iI at h0
  refine aT aD 1 [] [] ?_
  refine dU (fun T H => Has T [] ∧ aL ⟨H0, [], []⟩ H [] ∧ fK f1  = some r) ?_ ?_
  · clear hO h0
    rintro T H ⟨hT, hO, h0⟩
    refine bC hT ?_
    clear hT
    unfold fK at h0
    refine bT aD 1 [(4, (eI (-1 : Int)))] ?_
    refine bI ?_
    obtain rfl := oI h0
    exact aG (Q_r hO)
  refine aT aD 3 [] [(7, (eI (lN s0))), (8, (eI (0 : Int)))] ?_
  refine bZ 0 ?_
  refine eZ [(0, (eL aC s0)), (1, (.fn (.func f1_f) f1_a f1_c)), (7, (eI (lN s0))), (8, (eI (0 : Int)))] ?_
  refine dO (fun T H => ∃ t7 : Int, ∃ t8 : Int, Has T [(0, (eL aC s0)), (1, (.fn (.func f1_f) f1_a f1_c)), (7, (eI t7)), (8, (eI t8))] ∧ aL ⟨H0, [], []⟩ H [] ∧ gZ f1 s0 t7 t8 = some r) ?_ ⟨(lN s0), (0 : Int), .eq (by kernel_rfl), hO, h0⟩
  clear hO h0
  rintro T H ⟨t7, t8, hT, hO, h0⟩
  refine bC hT ?_
  clear hT
  unfold gZ at h0
  obtain ⟨rr0, hl0, h0⟩ := aZ h0
  refine cP (by kernel_rfl) (fun (s : Int) T H => Has T [(0, (eL aC s0)), (1, (.fn (.func f1_f) f1_a f1_c)), (7, (eI t7)), (8, (eI s))] ∧ aL ⟨H0, [], []⟩ H []) hl0 ⟨.eq (by kernel_rfl), hO⟩ ?_
  clear hO
  rintro k0 s out1 T H ⟨hT, hO⟩ h1 ho0
  obtain ⟨t8, rfl⟩ : ∃ x, x = s := ⟨_, rfl⟩
  replace h1 : hM f1 s0 t7 t8 = some out1 := h1
  refine bC hT ?_
  clear hT
  unfold hM at h1
  refine aT aD 1 [] [(9, (aE (decide (t8 < t7))))] ?_
  refine aP ?_
  refine bF h1 (fun h1 => ?_) (fun h1 => ?_)
  · refine bG ?_
    refine bE [(0, (eL aC s0)), (1, (.fn (.func f1_f) f1_a f1_c)), (7, (eI t7)), (8, (eI t8))] ?_
    refine aP ?_
    refine bZ 1 ?_
    refine aT aD 2 [] [(5, (eI t8))] ?_
    refine aP ?_
    refine aW aD 6 ?_
    obtain ⟨c2, h1⟩ := aR h1
    refine nR 5 [0 ≤ t8 ∧ t8 < (lN s0)] ⟨c2, trivial⟩ ?_
    obtain ⟨x3, hx4, h1⟩ := aZ h1
    refine dL (f1_h (gD s0 t8) _ hx4) hO ?_
    intro H hO
    refine hY ?_
    refine bU [] [(16, (aE x3))] ?_
    refine bF h1 (fun h1 => ?_) (fun h1 => ?_)
    · refine bT aD 2 [(4, (eI t8))] ?_
      refine bI ?_
      obtain rfl := oI h1
      obtain rfl : _ = rr0 := ho0
      replace h0 : some t8 = some r := h0
      obtain rfl := oI h0
      exact aG (bK (aQ (aQ (bK (aQ (Q_r hO))))))
    refine bG ?_
    refine fZ [(0, (eL aC s0)), (1, (.fn (.func f1_f) f1_a f1_c)), (7, (eI t7)), (8, (eI t8))] ?_
    refine aG (aY (aF (?_)))
    refine aW aD 2 ?_
    refine bD ?_
    exact aG (aF (⟨rfl, _, (oI h1).symm, .eq (by kernel_rfl), hO⟩))
  refine eP 0 ?_
  obtain rfl := oI h1
  obtain rfl : _ = rr0 := ho0
  replace h0 : fK f1  = some r := h0
  exact aG (aS (aS (bP (aF (⟨rfl, .eq (by kernel_rfl), hO, h0⟩)))))

theorem rS (s0 : (List aB)) (f1_f : Nat) (f1_a f1_c : List V) (f1 : aB → Option Bool) (f1_h : ∀ a0 r, f1 a0 = some r → dH Try.prog f1_f (f1_a ++ [(aC a0)] ++ f1_c) (aE r)) (r : Bool) (h0 : eY s0 f1 = some r) : dH Try.prog 97 [(eL aC s0), (.fn (.func f1_f) f1_a f1_c)] (aE r) := by
  intro H0
  refine dF Try.func97 ?_
  have hO := aL.start H0
  unfold eY at h0
  refine aT aD 1 [] [] ?_
  refine aP ?_
  refine aW aD 5 ?_
  refine bV 2 ?_
  obtain ⟨x1, hx2, h0⟩ := aZ h0
  refine dL (tL s0 f1_f f1_a f1_c f1 f1_h _ hx2) hO ?_
  intro H hO
  refine bD ?_
  refine bE [(4, (aE (decide ((0 : Int) ≤ x1))))] ?_
  refine bI ?_
  obtain rfl := oI h0
  exact aG (Q_r hO)

theorem wB (v0 : aB) (r : (bN × Bool)) (h0 : lG v0 = some r) : dH Try.prog 110 [(aC v0)] (.tup [(bJ r.1), (aE r.2)]) := by
  intro H0
  refine dF Try.func110 ?_
  have hO := aL.start H0
  unfold lG at h0
  refine aP ?_
  refine aW aD 3 ?_
  refine qF 3 (aC v0) (by kernel_rfl) (by kernel_rfl) ?_
  refine bD ?_
  refine bE [(1, (.rp (aC v0)))] ?_
  refine aP ?_
  refine bZ 0 ?_
  refine aT aD 9 [] [(4, (aE ((decide (v0.Kind = (1 : Int))) && (nB v0.Text (⟨#[]⟩ : ByteArray)))))] ?_
  refine bF h0 (fun h0 => ?_) (fun h0 => ?_)
  · refine bT aD 5 [(2, (bJ (bN.k_number v0.Num))), (3, (aE true))] ?_
    refine bI ?_
    obtain rfl := oI h0
    exact aG (bK (aQ (Q_r hO)))
  refine aT aD 15 [4] [(16, (aE (((decide (v0.Kind = (2 : Int))) && (decide (v0.Num = (0 : Int)))) && (decide (((ByteArray.size v0.Text : Nat) : Int) ≤ (64 : Int))))))] ?_
  refine bF h0 (fun h0 => ?_) (fun h0 => ?_)
  · refine bT aD 5 [(2, (bJ (bN.k_words v0.Text))), (3, (aE true))] ?_
    refine bI ?_
    obtain rfl := oI h0
    exact aG (bK (aQ (Q_r hO)))
  refine bG ?_
  refine fZ [] ?_
  refine aG (aY (aF (?_)))
  refine bT aD 2 [(2, (bJ bN.none_)), (3, (aE false))] ?_
  refine bI ?_
  obtain rfl := oI h0
  exact aG (Q_r hO)

theorem PX (v0 : aB) (r : Bool) (h0 : uI v0 = some r) : dH Try.prog 99 [(aC v0)] (aE r) := by
  intro H0
  refine dF Try.func99 ?_
  have hO := aL.start H0
  unfold uI at h0
  refine aP ?_
  refine aW aD 2 ?_
  refine qF 3 (aC v0) (by kernel_rfl) (by kernel_rfl) ?_
  refine bD ?_
  refine bE [(1, (.rp (aC v0)))] ?_
  refine aP ?_
  refine aW aD 7 ?_
  refine bV 1 ?_
  obtain ⟨⟨x1_0, x1_1⟩, hx2, h0⟩ := aZ h0
  refine dL (wB v0 _ hx2) hO ?_
  intro H hO
  rcases x1_0 with _ | y4 | y5
  · replace h0 : (some x1_1) = some r := h0
    refine bD ?_
    refine bE [(4, (aE x1_1))] ?_
    refine bT aD 2 [(2, (aE x1_1))] ?_
    refine bI ?_
    obtain rfl := oI h0
    exact aG (Q_r hO)
  · replace h0 : (some x1_1) = some r := h0
    refine bD ?_
    refine bE [(4, (aE x1_1))] ?_
    refine bT aD 2 [(2, (aE x1_1))] ?_
    refine bI ?_
    obtain rfl := oI h0
    exact aG (Q_r hO)
  · replace h0 : (some x1_1) = some r := h0
    refine bD ?_
    refine bE [(4, (aE x1_1))] ?_
    refine bT aD 2 [(2, (aE x1_1))] ?_
    refine bI ?_
    obtain rfl := oI h0
    exact aG (Q_r hO)

theorem QC (v0 : aB) (r : Bool) (h0 : uM v0 = some r) : dH Try.prog 98 [(aC v0)] (aE r) := by
  intro H0
  refine dF Try.func98 ?_
  have hO := aL.start H0
  unfold uM at h0
  refine aP ?_
  refine aW aD 2 ?_
  refine qF 3 (aC v0) (by kernel_rfl) (by kernel_rfl) ?_
  refine bD ?_
  refine bE [(1, (.rp (aC v0)))] ?_
  refine aP ?_
  refine aW aD 4 ?_
  refine bV 1 ?_
  obtain ⟨x1, hx2, h0⟩ := aZ h0
  refine dL (PX v0 _ hx2) hO ?_
  intro H hO
  refine bD ?_
  refine bE [(2, (aE (!x1)))] ?_
  refine bI ?_
  obtain rfl := oI h0
  exact aG (Q_r hO)

theorem DO (r0 : (List aB)) (r : Bool) (h0 : sX r0 = some r) : dH Try.prog 76 [(eL aC r0)] (aE r) := by
  intro H0
  refine dF Try.func76 ?_
  have hO := aL.start H0
  unfold sX at h0
  refine aT aD 1 [] [] ?_
  refine aP ?_
  refine aT aD 3 [] [(5, (aE (decide ((8 : Int) < (lN r0)))))] ?_
  refine bF h0 (fun h0 => ?_) (fun h0 => ?_)
  · refine bT aD 1 [(2, (aE false))] ?_
    refine bI ?_
    obtain rfl := oI h0
    exact aG (aQ (Q_r hO))
  refine bG ?_
  refine bE [(0, (eL aC r0))] ?_
  refine aP ?_
  refine aW aD 4 ?_
  refine bV 1 ?_
  obtain ⟨x2, hx3, h0⟩ := aZ h0
  refine dL (rS r0 98 [] [] (fun y0 => uM y0) (fun y0 r h => QC y0 r h) _ hx3) hO ?_
  intro H hO
  refine bD ?_
  refine bE [(2, (aE (!x2)))] ?_
  refine bI ?_
  obtain rfl := oI h0
  exact aG (Q_r hO)

theorem HI (t0 : (List aB)) (r : (Int × (List aB))) (h0 : sL t0 = some r) : xH Try.prog 101 [(.rp (eL aC t0))] (fun lo => (.fn (.func 102) [] [(.lp lo 0 0), (.rp (eL aC r.2))])) 1 [(eI r.1)] := by
  intro H0
  refine dF Try.func101 ?_
  have hO := aL.start H0
  unfold sL at h0
  refine aT aD 1 [] [] ?_
  refine aP ?_
  refine aW aD 2 ?_
  refine vM 1 (eI 0) (by kernel_rfl) (by kernel_rfl) hO ?_
  intro lo1 H hO
  refine pT 0 lo1 1 0 (eI 0) (eI (-1 : Int)) [(eI 0)] [(lo1, 1, [(eI (-1 : Int))])] hO rfl (by kernel_rfl) ?_
  intro H hO
  refine hY ?_
  refine bU [] [(2, (.lp lo1 0 0))] ?_
  refine aT aD 2 [0] [(1, (.fn (.func 102) [] [(.lp lo1 0 0), (.rp (eL aC t0))]))] ?_
  refine bI ?_
  obtain rfl := oI h0
  exact aG (lE (x := (.fn (.func 102) [] [(.lp lo1 0 0), (.rp (eL aC t0))])) (by kernel_rfl) (aN.refl _) ⟨lo1, rfl, hO⟩)

theorem sK {σ : Type} (I : σ → Gs → Prop) (s0 : (List aB)) (f1_v : V) (f1 : σ → aB → Option (σ × Bool)) (f1_h : ∀ st a0 st2 r, f1 st a0 = some (st2, r) → FA Try.prog f1_v I st [(aC a0)] st2 (aE r)) (sg0 : σ) (r : (σ × Int)) (h0 : gW s0 f1 sg0 = some r) : yJ Try.prog 100 I sg0 [(eL aC s0), f1_v] r.1 (eI r.2) := by
  intro H0 G0 hI hg
  refine dF Try.func100 ?_
  obtain ⟨G, hO, hI⟩ : ∃ G, aL ⟨H0, List.map (fun p : Nat × dV => p.1) G0, G⟩ H0 [] ∧ I sg0 G := ⟨G0, aL.IT hg, hI⟩
  clear hg
  unfold gW at h0
  refine aT aD 1 [] [] ?_
  refine dU (fun T H => ∃ sg : σ, ∃ G : Gs, Has T [] ∧ aL ⟨H0, List.map (fun p : Nat × dV => p.1) G0, G⟩ H [] ∧ I sg G ∧ eX f1 sg = some r) ?_ ?_
  · clear hO hI h0
    rintro T H ⟨sg, G, hT, hO, hI, h0⟩
    refine bC hT ?_
    clear hT
    unfold eX at h0
    refine bT aD 1 [(4, (eI (-1 : Int)))] ?_
    refine bI ?_
    obtain rfl := oI h0
    exact aG (lE (x := (eI (-1 : Int))) (by kernel_rfl) (aN.refl _) ⟨rfl, G, hI, hO.GL⟩)
  refine aT aD 3 [] [(7, (eI (lN s0))), (8, (eI (0 : Int)))] ?_
  refine bZ 0 ?_
  refine eZ [(0, (eL aC s0)), (1, f1_v), (7, (eI (lN s0))), (8, (eI (0 : Int)))] ?_
  refine dO (fun T H => ∃ sg : σ, ∃ t7 : Int, ∃ t8 : Int, ∃ G : Gs, Has T [(0, (eL aC s0)), (1, f1_v), (7, (eI t7)), (8, (eI t8))] ∧ aL ⟨H0, List.map (fun p : Nat × dV => p.1) G0, G⟩ H [] ∧ I sg G ∧ gS f1 sg s0 t7 t8 = some r) ?_ ⟨sg0, (lN s0), (0 : Int), G, .eq (by kernel_rfl), hO, hI, h0⟩
  clear hO hI h0
  rintro T H ⟨sg, t7, t8, G, hT, hO, hI, h0⟩
  refine bC hT ?_
  clear hT
  unfold gS at h0
  obtain ⟨rr0, hl0, h0⟩ := aZ h0
  refine cP (by kernel_rfl) (fun (s : σ × Int) T H => ∃ G : Gs, Has T [(0, (eL aC s0)), (1, f1_v), (7, (eI t7)), (8, (eI s.2))] ∧ aL ⟨H0, List.map (fun p : Nat × dV => p.1) G0, G⟩ H [] ∧ I s.1 G) hl0 ⟨G, .eq (by kernel_rfl), hO, hI⟩ ?_
  clear hO hI
  rintro k0 s out1 T H ⟨G, hT, hO, hI⟩ h1 ho0
  obtain ⟨sg, t8⟩ := s
  replace h1 : cJ f1 s0 t7 sg t8 = some out1 := h1
  try dsimp only at hT
  refine bC hT ?_
  clear hT
  unfold cJ at h1
  refine aT aD 1 [] [(9, (aE (decide (t8 < t7))))] ?_
  refine aP ?_
  refine bF h1 (fun h1 => ?_) (fun h1 => ?_)
  · refine bG ?_
    refine bE [(0, (eL aC s0)), (1, f1_v), (7, (eI t7)), (8, (eI t8))] ?_
    refine aP ?_
    refine bZ 1 ?_
    refine aT aD 2 [] [(5, (eI t8))] ?_
    refine aP ?_
    refine aW aD 6 ?_
    obtain ⟨c2, h1⟩ := aR h1
    refine nR 5 [0 ≤ t8 ∧ t8 < (lN s0)] ⟨c2, trivial⟩ ?_
    obtain ⟨x3, hx4, h1⟩ := aZ h1
    refine RE (I := I) f1_v [(aC (gD s0 t8))] (aE x3.2) (by kernel_rfl) (by kernel_rfl) (f1_h _ (gD s0 t8) x3.1 x3.2 hx4) hO hI ?_
    intro G H hO hI
    refine hY ?_
    refine bU [] [(16, (aE x3.2))] ?_
    refine bF h1 (fun h1 => ?_) (fun h1 => ?_)
    · refine bT aD 2 [(4, (eI t8))] ?_
      refine bI ?_
      obtain rfl := oI h1
      obtain rfl : _ = rr0 := ho0
      replace h0 : some (x3.1, t8) = some r := h0
      obtain rfl := oI h0
      exact aG (bK (aQ (aQ (bK (aQ (lE (x := (eI t8)) (by kernel_rfl) (aN.refl _) ⟨rfl, G, hI, hO.GL⟩))))))
    refine bG ?_
    refine fZ [(0, (eL aC s0)), (1, f1_v), (7, (eI t7)), (8, (eI t8))] ?_
    refine aG (aY (aF (?_)))
    refine aW aD 2 ?_
    refine bD ?_
    exact aG (aF (⟨rfl, _, (oI h1).symm, _, .eq (by kernel_rfl), hO, hI⟩))
  refine eP 0 ?_
  obtain rfl := oI h1
  obtain rfl : _ = rr0 := ho0
  replace h0 : eX f1 sg = some r := h0
  exact aG (aS (aS (bP (aF (⟨rfl, _, _, .eq (by kernel_rfl), hO, hI, h0⟩)))))

theorem FC (v0 : aB) (lo1p : Nat) (t1 : Int) (t2 : (List aB)) (r : (Bool × Int)) (h0 : jU v0 t1 t2 = some r) : nC Try.prog 102 lo1p 1 [(eI t1)] [(eI r.2)] [(aC v0), (.lp lo1p 0 0), (.rp (eL aC t2))] (aE r.1) := by
  intro H0 hl0
  refine dF Try.func102 ?_
  have hO := aL.rR hl0
  clear hl0
  unfold jU at h0
  refine aP ?_
  refine aW aD 2 ?_
  refine qF 3 (aC v0) (by kernel_rfl) (by kernel_rfl) ?_
  refine bD ?_
  refine bU [0] [(3, (.rp (aC v0)))] ?_
  refine aP ?_
  refine aW aD 3 ?_
  refine pQ 0 lo1p 1 0 (eI t1) (eI t1) [(eI t1)] hO rfl ?_
  refine bV 2 ?_
  refine pT 0 lo1p 1 0 (eI t1) (eI (wR (t1 + (1 : Int)))) [(eI t1)] [(lo1p, 1, [(eI (wR (t1 + (1 : Int))))])] hO rfl (by kernel_rfl) ?_
  intro H hO
  refine hY ?_
  refine bU [] [] ?_
  refine aP ?_
  refine eC (eE [7, 8, 11]) aD 7 ?_
  refine kR 2 ?_
  refine fL 0 lo1p 1 0 (eI (wR (t1 + (1 : Int)))) (eI (wR (t1 + (1 : Int)))) [(eI (wR (t1 + (1 : Int))))] hO rfl ?_
  obtain ⟨c1, h0⟩ := aR h0
  refine yI (Ds := [0 ≤ (wR (t1 + (1 : Int))) ∧ (wR (t1 + (1 : Int))) < (lN t2)]) (by kernel_rfl) ⟨c1, trivial⟩ ?_
  refine bE [(1, (.lp lo1p 0 0)), (4, (aE (!((decide (v0.Kind = ((gD t2 (wR (t1 + (1 : Int)))).Kind))) && ((decide (v0.Num = ((gD t2 (wR (t1 + (1 : Int)))).Num))) && ((nB v0.Text ((gD t2 (wR (t1 + (1 : Int)))).Text)) && true))))))] ?_
  refine bI ?_
  obtain rfl := oI h0
  exact aG (lE (x := (aE (!((decide (v0.Kind = ((gD t2 (wR (t1 + (1 : Int)))).Kind))) && ((decide (v0.Num = ((gD t2 (wR (t1 + (1 : Int)))).Num))) && ((nB v0.Text ((gD t2 (wR (t1 + (1 : Int)))).Text)) && true)))))) (by kernel_rfl) (aN.refl _) ⟨rfl, hO.ext, hO.at 0 (by kernel_rfl), rfl⟩)

theorem sQ (x0 : Int) (r : Bool) (h0 : kD x0 = some r) : dH Try.prog 95 [(eI x0)] (aE r) := by
  intro H0
  refine dF Try.func95 ?_
  have hO := aL.start H0
  unfold kD at h0
  refine aT aD 1 [] [] ?_
  refine bT aD 4 [(2, (aE (!decide (x0 = x0))))] ?_
  refine bI ?_
  obtain rfl := oI h0
  exact aG (Q_r hO)

theorem FD (x0 : Int) (y1 : Int) (r : Int) (h0 : nO x0 y1 = some r) : dH Try.prog 103 [(eI x0), (eI y1)] (eI r) := by
  intro H0
  refine dF Try.func103 ?_
  have hO := aL.start H0
  unfold nO at h0
  refine aT aD 1 [] [] ?_
  refine aP ?_
  refine aW aD 3 ?_
  refine bV 1 ?_
  obtain ⟨x1, hx2, h0⟩ := aZ h0
  refine dL (sQ x0 _ hx2) hO ?_
  intro H hO
  refine bD ?_
  refine bU [] [(5, (aE x1))] ?_
  refine aP ?_
  refine aW aD 3 ?_
  refine bV 1 ?_
  obtain ⟨x4, hx5, h0⟩ := aZ h0
  refine dL (sQ y1 _ hx5) hO ?_
  intro H hO
  refine bD ?_
  refine bU [] [(6, (aE x4))] ?_
  refine aP ?_
  refine aT aD 1 [5] [(11, (aE x1))] ?_
  refine bF h0 (fun h0 => ?_) (fun h0 => ?_)
  · refine aP ?_
    refine bT aD 1 [(12, (aE x4))] ?_
    refine bF h0 (fun h0 => ?_) (fun h0 => ?_)
    · refine bT aD 1 [(4, (eI (0 : Int)))] ?_
      refine bI ?_
      obtain rfl := oI h0
      exact aG (aQ (aQ (Q_r hO)))
    refine bG ?_
    refine bE [] ?_
    refine bT aD 1 [(4, (eI (-1 : Int)))] ?_
    refine bI ?_
    obtain rfl := oI h0
    exact aG (aQ (Q_r hO))
  refine bG ?_
  refine bE [(0, (eI x0)), (1, (eI y1)), (6, (aE x4))] ?_
  refine aP ?_
  refine aT aD 1 [6] [(13, (aE x4))] ?_
  refine bF h0 (fun h0 => ?_) (fun h0 => ?_)
  · refine bT aD 1 [(4, (eI (1 : Int)))] ?_
    refine bI ?_
    obtain rfl := oI h0
    exact aG (aQ (Q_r hO))
  refine bG ?_
  refine bE [(0, (eI x0)), (1, (eI y1))] ?_
  refine aP ?_
  refine aT aD 3 [] [(16, (aE (decide (x0 < y1))))] ?_
  refine bF h0 (fun h0 => ?_) (fun h0 => ?_)
  · refine bT aD 1 [(4, (eI (-1 : Int)))] ?_
    refine bI ?_
    obtain rfl := oI h0
    exact aG (aQ (Q_r hO))
  refine bG ?_
  refine bE [(0, (eI x0)), (1, (eI y1))] ?_
  refine aP ?_
  refine bT aD 3 [(19, (aE (decide (y1 < x0))))] ?_
  refine bF h0 (fun h0 => ?_) (fun h0 => ?_)
  · refine bT aD 1 [(4, (eI (1 : Int)))] ?_
    refine bI ?_
    obtain rfl := oI h0
    exact aG (aQ (Q_r hO))
  refine bG ?_
  refine bE [] ?_
  refine bT aD 1 [(4, (eI (0 : Int)))] ?_
  refine bI ?_
  obtain rfl := oI h0
  exact aG (Q_r hO)

theorem tD (x0 : Int) (r : Bool) (h0 : kP x0 = some r) : dH Try.prog 114 [(eI x0)] (aE r) := by
  intro H0
  refine dF Try.func114 ?_
  have hO := aL.start H0
  unfold kP at h0
  refine aT aD 1 [] [] ?_
  refine bT aD 4 [(2, (aE (!decide (x0 = x0))))] ?_
  refine bI ?_
  obtain rfl := oI h0
  exact aG (Q_r hO)

theorem xW (x0 : Int) (y1 : Int) (r : Int) (h0 : fU x0 y1 = some r) : dH Try.prog 111 [(eI x0), (eI y1)] (eI r) := by
  intro H0
  refine dF Try.func111 ?_
  have hO := aL.start H0
  unfold fU at h0
  refine aT aD 1 [] [] ?_
  refine aP ?_
  refine aW aD 3 ?_
  refine bV 1 ?_
  obtain ⟨x1, hx2, h0⟩ := aZ h0
  refine dL (tD x0 _ hx2) hO ?_
  intro H hO
  refine bD ?_
  refine bU [] [(5, (aE x1))] ?_
  refine aP ?_
  refine aW aD 3 ?_
  refine bV 1 ?_
  obtain ⟨x4, hx5, h0⟩ := aZ h0
  refine dL (tD y1 _ hx5) hO ?_
  intro H hO
  refine bD ?_
  refine bU [] [(6, (aE x4))] ?_
  refine aP ?_
  refine aT aD 1 [5] [(11, (aE x1))] ?_
  refine bF h0 (fun h0 => ?_) (fun h0 => ?_)
  · refine aP ?_
    refine bT aD 1 [(12, (aE x4))] ?_
    refine bF h0 (fun h0 => ?_) (fun h0 => ?_)
    · refine bT aD 1 [(4, (eI (0 : Int)))] ?_
      refine bI ?_
      obtain rfl := oI h0
      exact aG (aQ (aQ (Q_r hO)))
    refine bG ?_
    refine bE [] ?_
    refine bT aD 1 [(4, (eI (-1 : Int)))] ?_
    refine bI ?_
    obtain rfl := oI h0
    exact aG (aQ (Q_r hO))
  refine bG ?_
  refine bE [(0, (eI x0)), (1, (eI y1)), (6, (aE x4))] ?_
  refine aP ?_
  refine aT aD 1 [6] [(13, (aE x4))] ?_
  refine bF h0 (fun h0 => ?_) (fun h0 => ?_)
  · refine bT aD 1 [(4, (eI (1 : Int)))] ?_
    refine bI ?_
    obtain rfl := oI h0
    exact aG (aQ (Q_r hO))
  refine bG ?_
  refine bE [(0, (eI x0)), (1, (eI y1))] ?_
  refine aP ?_
  refine aT aD 3 [] [(16, (aE (decide (x0 < y1))))] ?_
  refine bF h0 (fun h0 => ?_) (fun h0 => ?_)
  · refine bT aD 1 [(4, (eI (-1 : Int)))] ?_
    refine bI ?_
    obtain rfl := oI h0
    exact aG (aQ (Q_r hO))
  refine bG ?_
  refine bE [(0, (eI x0)), (1, (eI y1))] ?_
  refine aP ?_
  refine bT aD 3 [(19, (aE (decide (y1 < x0))))] ?_
  refine bF h0 (fun h0 => ?_) (fun h0 => ?_)
  · refine bT aD 1 [(4, (eI (1 : Int)))] ?_
    refine bI ?_
    obtain rfl := oI h0
    exact aG (aQ (Q_r hO))
  refine bG ?_
  refine bE [] ?_
  refine bT aD 1 [(4, (eI (0 : Int)))] ?_
  refine bI ?_
  obtain rfl := oI h0
  exact aG (Q_r hO)

theorem vE (a0 : ByteArray) (b1 : ByteArray) (r : Int) (h0 : jJ a0 b1 = some r) : dH Try.prog 115 [(xA a0), (xA b1)] (eI r) := by
  intro H0
  refine dF Try.func115 ?_
  have hO := aL.start H0
  unfold jJ at h0
  refine aT aD 1 [] [] ?_
  refine aP ?_
  refine aW aD 4 ?_
  refine bV 2 ?_
  refine ZQ 116 [(xA a0), (xA b1)] (eI (JN a0 b1)) (by kernel_rfl) (by kernel_rfl) (WZ Try.func116 (by kernel_rfl) (by kernel_rfl) (by kernel_rfl) (by kernel_rfl) a0 b1) hO ?_
  intro H hO
  refine bD ?_
  refine bE [(4, (eI (JN a0 b1)))] ?_
  refine bI ?_
  obtain rfl := oI h0
  exact aG (Q_r hO)

theorem FF (a0 : ByteArray) (b1 : ByteArray) (r : Int) (h0 : mL a0 b1 = some r) : dH Try.prog 112 [(xA a0), (xA b1)] (eI r) := by
  intro H0
  refine dF Try.func112 ?_
  have hO := aL.start H0
  unfold mL at h0
  refine aT aD 1 [] [] ?_
  refine aP ?_
  refine aW aD 4 ?_
  refine bV 2 ?_
  obtain ⟨x1, hx2, h0⟩ := aZ h0
  refine dL (vE a0 b1 _ hx2) hO ?_
  intro H hO
  refine bD ?_
  refine bE [(4, (eI x1))] ?_
  refine bI ?_
  obtain rfl := oI h0
  exact aG (Q_r hO)

theorem HM (a0 : aB) (b1 : aB) (r : Int) (h0 : pP a0 b1 = some r) : dH Try.prog 104 [(aC a0), (aC b1)] (eI r) := by
  intro H0
  refine dF Try.func104 ?_
  have hO := aL.start H0
  unfold pP at h0
  refine aP ?_
  refine aW aD 3 ?_
  refine qF 3 (aC a0) (by kernel_rfl) (by kernel_rfl) ?_
  refine qF 3 (aC b1) (by kernel_rfl) (by kernel_rfl) ?_
  refine bD ?_
  refine bE [(2, (.rp (aC a0))), (3, (.rp (aC b1)))] ?_
  refine aP ?_
  refine aW aD 7 ?_
  refine bV 1 ?_
  obtain ⟨⟨x1_0, x1_1⟩, hx2, h0⟩ := aZ h0
  refine dL (wB a0 _ hx2) hO ?_
  intro H hO
  rcases x1_0 with _ | y4 | y5
  · replace h0 : ((lG b1).bind fun (x6_0, x6_1) => match x6_0 with | .none_ => (cond ((!x1_1) || (!x6_1)) (some (0 : Int)) (none)) | .k_number y9 => (cond ((!x1_1) || (!x6_1)) (some (0 : Int)) (some (1 : Int))) | .k_words y10 => (cond ((!x1_1) || (!x6_1)) (some (0 : Int)) (none))) = some r := h0
    refine bD ?_
    refine bU [2] [(5, (bJ bN.none_)), (6, (aE x1_1))] ?_
    refine aP ?_
    refine aW aD 7 ?_
    refine bV 1 ?_
    obtain ⟨⟨x6_0, x6_1⟩, hx7, h0⟩ := aZ h0
    refine dL (wB b1 _ hx7) hO ?_
    intro H hO
    rcases x6_0 with _ | y9 | y10
    · replace h0 : (cond ((!x1_1) || (!x6_1)) (some (0 : Int)) (none)) = some r := h0
      refine bD ?_
      refine bU [3] [(7, (bJ bN.none_)), (8, (aE x6_1))] ?_
      refine aP ?_
      refine aT aD 6 [6, 8] [(28, (aE ((!x1_1) || (!x6_1))))] ?_
      refine bF h0 (fun h0 => ?_) (fun h0 => ?_)
      · refine bT aD 1 [(4, (eI (0 : Int)))] ?_
        refine bI ?_
        obtain rfl := oI h0
        exact aG (aQ (Q_r hO))
      refine bG ?_
      refine bE [(5, (bJ bN.none_)), (7, (bJ bN.none_))] ?_
      refine aT aD 7 [] [(9, (eI 0)), (10, (aE false))] ?_
      refine aT aD 7 [] [(11, (eI 0)), (12, (aE false))] ?_
      refine aP ?_
      refine bZ 0 ?_
      refine aT aD 5 [] [(39, (aE false))] ?_
      refine nN (false) (fun hc12 => ?_) (fun hc12 => ?_)
      · cases hc12
      · refine aT aD 2 [9, 10, 11, 39] [(47, (aE false))] ?_
        refine nN (false) (fun hc13 => ?_) (fun hc13 => ?_)
        · cases hc13
        · refine bT aD 2 [(5, (bJ bN.none_)), (7, (bJ bN.none_)), (49, (aE false))] ?_
          refine nN (false) (fun hc14 => ?_) (fun hc14 => ?_)
          · cases hc14
          · refine bG ?_
            refine fZ [(5, (bJ bN.none_)), (7, (bJ bN.none_))] ?_
            refine aG (aY (aF (?_)))
            refine aP ?_
            refine eC (eE []) aD 6 ?_
            cases h0
    · replace h0 : (cond ((!x1_1) || (!x6_1)) (some (0 : Int)) (some (1 : Int))) = some r := h0
      refine bD ?_
      refine bU [3] [(7, (bJ (bN.k_number y9))), (8, (aE x6_1))] ?_
      refine aP ?_
      refine aT aD 6 [6, 8] [(28, (aE ((!x1_1) || (!x6_1))))] ?_
      refine bF h0 (fun h0 => ?_) (fun h0 => ?_)
      · refine bT aD 1 [(4, (eI (0 : Int)))] ?_
        refine bI ?_
        obtain rfl := oI h0
        exact aG (aQ (Q_r hO))
      refine bG ?_
      refine bE [(5, (bJ bN.none_)), (7, (bJ (bN.k_number y9)))] ?_
      refine aT aD 7 [] [(9, (eI 0)), (10, (aE false))] ?_
      refine aT aD 7 [] [(11, (eI y9)), (12, (aE true))] ?_
      refine aP ?_
      refine bZ 0 ?_
      refine aT aD 5 [] [(39, (aE false))] ?_
      refine nN (false) (fun hc16 => ?_) (fun hc16 => ?_)
      · cases hc16
      · refine aT aD 2 [9, 10, 11, 39] [(47, (aE false))] ?_
        refine nN (false) (fun hc17 => ?_) (fun hc17 => ?_)
        · cases hc17
        · refine bT aD 2 [(5, (bJ bN.none_)), (7, (bJ (bN.k_number y9))), (49, (aE true))] ?_
          refine nN (true) (fun hc18 => ?_) (fun hc18 => ?_)
          · refine bT aD 1 [(4, (eI (1 : Int)))] ?_
            refine bI ?_
            obtain rfl := oI h0
            exact aG (bK (aQ (Q_r hO)))
          · cases hc18
    · replace h0 : (cond ((!x1_1) || (!x6_1)) (some (0 : Int)) (none)) = some r := h0
      refine bD ?_
      refine bU [3] [(7, (bJ (bN.k_words y10))), (8, (aE x6_1))] ?_
      refine aP ?_
      refine aT aD 6 [6, 8] [(28, (aE ((!x1_1) || (!x6_1))))] ?_
      refine bF h0 (fun h0 => ?_) (fun h0 => ?_)
      · refine bT aD 1 [(4, (eI (0 : Int)))] ?_
        refine bI ?_
        obtain rfl := oI h0
        exact aG (aQ (Q_r hO))
      refine bG ?_
      refine bE [(5, (bJ bN.none_)), (7, (bJ (bN.k_words y10)))] ?_
      refine aT aD 7 [] [(9, (eI 0)), (10, (aE false))] ?_
      refine aT aD 7 [] [(11, (eI 0)), (12, (aE false))] ?_
      refine aP ?_
      refine bZ 0 ?_
      refine aT aD 5 [] [(39, (aE false))] ?_
      refine nN (false) (fun hc20 => ?_) (fun hc20 => ?_)
      · cases hc20
      · refine aT aD 2 [9, 10, 11, 39] [(47, (aE false))] ?_
        refine nN (false) (fun hc21 => ?_) (fun hc21 => ?_)
        · cases hc21
        · refine bT aD 2 [(5, (bJ bN.none_)), (7, (bJ (bN.k_words y10))), (49, (aE false))] ?_
          refine nN (false) (fun hc22 => ?_) (fun hc22 => ?_)
          · cases hc22
          · refine bG ?_
            refine fZ [(5, (bJ bN.none_)), (7, (bJ (bN.k_words y10)))] ?_
            refine aG (aY (aF (?_)))
            refine aP ?_
            refine eC (eE []) aD 6 ?_
            cases h0
  · replace h0 : ((lG b1).bind fun (x23_0, x23_1) => match x23_0 with | .none_ => (cond ((!x1_1) || (!x23_1)) (some (0 : Int)) (some (-1 : Int))) | .k_number y26 => (cond ((!x1_1) || (!x23_1)) (some (0 : Int)) ((fU y4 y26).bind fun x33 => some x33)) | .k_words y27 => (cond ((!x1_1) || (!x23_1)) (some (0 : Int)) (some (-1 : Int)))) = some r := h0
    refine bD ?_
    refine bU [2] [(5, (bJ (bN.k_number y4))), (6, (aE x1_1))] ?_
    refine aP ?_
    refine aW aD 7 ?_
    refine bV 1 ?_
    obtain ⟨⟨x23_0, x23_1⟩, hx24, h0⟩ := aZ h0
    refine dL (wB b1 _ hx24) hO ?_
    intro H hO
    rcases x23_0 with _ | y26 | y27
    · replace h0 : (cond ((!x1_1) || (!x23_1)) (some (0 : Int)) (some (-1 : Int))) = some r := h0
      refine bD ?_
      refine bU [3] [(7, (bJ bN.none_)), (8, (aE x23_1))] ?_
      refine aP ?_
      refine aT aD 6 [6, 8] [(28, (aE ((!x1_1) || (!x23_1))))] ?_
      refine bF h0 (fun h0 => ?_) (fun h0 => ?_)
      · refine bT aD 1 [(4, (eI (0 : Int)))] ?_
        refine bI ?_
        obtain rfl := oI h0
        exact aG (aQ (Q_r hO))
      refine bG ?_
      refine bE [(5, (bJ (bN.k_number y4))), (7, (bJ bN.none_))] ?_
      refine aT aD 7 [] [(9, (eI y4)), (10, (aE true))] ?_
      refine aT aD 7 [] [(11, (eI 0)), (12, (aE false))] ?_
      refine aP ?_
      refine bZ 0 ?_
      refine aT aD 5 [] [(39, (aE false))] ?_
      refine nN (false) (fun hc29 => ?_) (fun hc29 => ?_)
      · cases hc29
      · refine aT aD 2 [9, 10, 11, 39] [(47, (aE true))] ?_
        refine nN (true) (fun hc30 => ?_) (fun hc30 => ?_)
        · refine bT aD 1 [(4, (eI (-1 : Int)))] ?_
          refine bI ?_
          obtain rfl := oI h0
          exact aG (bK (aQ (Q_r hO)))
        · cases hc30
    · replace h0 : (cond ((!x1_1) || (!x23_1)) (some (0 : Int)) ((fU y4 y26).bind fun x33 => some x33)) = some r := h0
      refine bD ?_
      refine bU [3] [(7, (bJ (bN.k_number y26))), (8, (aE x23_1))] ?_
      refine aP ?_
      refine aT aD 6 [6, 8] [(28, (aE ((!x1_1) || (!x23_1))))] ?_
      refine bF h0 (fun h0 => ?_) (fun h0 => ?_)
      · refine bT aD 1 [(4, (eI (0 : Int)))] ?_
        refine bI ?_
        obtain rfl := oI h0
        exact aG (aQ (Q_r hO))
      refine bG ?_
      refine bE [(5, (bJ (bN.k_number y4))), (7, (bJ (bN.k_number y26)))] ?_
      refine aT aD 7 [] [(9, (eI y4)), (10, (aE true))] ?_
      refine aT aD 7 [] [(11, (eI y26)), (12, (aE true))] ?_
      refine aP ?_
      refine bZ 0 ?_
      refine aT aD 5 [] [(39, (aE true))] ?_
      refine nN (true) (fun hc32 => ?_) (fun hc32 => ?_)
      · refine aP ?_
        refine aW aD 4 ?_
        refine bV 2 ?_
        obtain ⟨x33, hx34, h0⟩ := aZ h0
        refine dL (xW y4 y26 _ hx34) hO ?_
        intro H hO
        refine bD ?_
        refine bE [(4, (eI x33))] ?_
        refine bI ?_
        obtain rfl := oI h0
        exact aG (bK (aQ (Q_r hO)))
      · cases hc32
    · replace h0 : (cond ((!x1_1) || (!x23_1)) (some (0 : Int)) (some (-1 : Int))) = some r := h0
      refine bD ?_
      refine bU [3] [(7, (bJ (bN.k_words y27))), (8, (aE x23_1))] ?_
      refine aP ?_
      refine aT aD 6 [6, 8] [(28, (aE ((!x1_1) || (!x23_1))))] ?_
      refine bF h0 (fun h0 => ?_) (fun h0 => ?_)
      · refine bT aD 1 [(4, (eI (0 : Int)))] ?_
        refine bI ?_
        obtain rfl := oI h0
        exact aG (aQ (Q_r hO))
      refine bG ?_
      refine bE [(5, (bJ (bN.k_number y4))), (7, (bJ (bN.k_words y27)))] ?_
      refine aT aD 7 [] [(9, (eI y4)), (10, (aE true))] ?_
      refine aT aD 7 [] [(11, (eI 0)), (12, (aE false))] ?_
      refine aP ?_
      refine bZ 0 ?_
      refine aT aD 5 [] [(39, (aE false))] ?_
      refine nN (false) (fun hc37 => ?_) (fun hc37 => ?_)
      · cases hc37
      · refine aT aD 2 [9, 10, 11, 39] [(47, (aE true))] ?_
        refine nN (true) (fun hc38 => ?_) (fun hc38 => ?_)
        · refine bT aD 1 [(4, (eI (-1 : Int)))] ?_
          refine bI ?_
          obtain rfl := oI h0
          exact aG (bK (aQ (Q_r hO)))
        · cases hc38
  · replace h0 : ((lG b1).bind fun (x39_0, x39_1) => match x39_0 with | .none_ => (cond ((!x1_1) || (!x39_1)) (some (0 : Int)) (none)) | .k_number y42 => (cond ((!x1_1) || (!x39_1)) (some (0 : Int)) (some (1 : Int))) | .k_words y43 => (cond ((!x1_1) || (!x39_1)) (some (0 : Int)) ((mL y5 y43).bind fun x56 => some x56))) = some r := h0
    refine bD ?_
    refine bU [2] [(5, (bJ (bN.k_words y5))), (6, (aE x1_1))] ?_
    refine aP ?_
    refine aW aD 7 ?_
    refine bV 1 ?_
    obtain ⟨⟨x39_0, x39_1⟩, hx40, h0⟩ := aZ h0
    refine dL (wB b1 _ hx40) hO ?_
    intro H hO
    rcases x39_0 with _ | y42 | y43
    · replace h0 : (cond ((!x1_1) || (!x39_1)) (some (0 : Int)) (none)) = some r := h0
      refine bD ?_
      refine bU [3] [(7, (bJ bN.none_)), (8, (aE x39_1))] ?_
      refine aP ?_
      refine aT aD 6 [6, 8] [(28, (aE ((!x1_1) || (!x39_1))))] ?_
      refine bF h0 (fun h0 => ?_) (fun h0 => ?_)
      · refine bT aD 1 [(4, (eI (0 : Int)))] ?_
        refine bI ?_
        obtain rfl := oI h0
        exact aG (aQ (Q_r hO))
      refine bG ?_
      refine bE [(5, (bJ (bN.k_words y5))), (7, (bJ bN.none_))] ?_
      refine aT aD 7 [] [(9, (eI 0)), (10, (aE false))] ?_
      refine aT aD 7 [] [(11, (eI 0)), (12, (aE false))] ?_
      refine aP ?_
      refine bZ 0 ?_
      refine aT aD 5 [] [(39, (aE false))] ?_
      refine nN (false) (fun hc45 => ?_) (fun hc45 => ?_)
      · cases hc45
      · refine aT aD 2 [9, 10, 11, 39] [(47, (aE false))] ?_
        refine nN (false) (fun hc46 => ?_) (fun hc46 => ?_)
        · cases hc46
        · refine bT aD 2 [(5, (bJ (bN.k_words y5))), (7, (bJ bN.none_)), (49, (aE false))] ?_
          refine nN (false) (fun hc47 => ?_) (fun hc47 => ?_)
          · cases hc47
          · refine bG ?_
            refine fZ [(5, (bJ (bN.k_words y5))), (7, (bJ bN.none_))] ?_
            refine aG (aY (aF (?_)))
            refine aP ?_
            refine eC (eE []) aD 6 ?_
            cases h0
    · replace h0 : (cond ((!x1_1) || (!x39_1)) (some (0 : Int)) (some (1 : Int))) = some r := h0
      refine bD ?_
      refine bU [3] [(7, (bJ (bN.k_number y42))), (8, (aE x39_1))] ?_
      refine aP ?_
      refine aT aD 6 [6, 8] [(28, (aE ((!x1_1) || (!x39_1))))] ?_
      refine bF h0 (fun h0 => ?_) (fun h0 => ?_)
      · refine bT aD 1 [(4, (eI (0 : Int)))] ?_
        refine bI ?_
        obtain rfl := oI h0
        exact aG (aQ (Q_r hO))
      refine bG ?_
      refine bE [(5, (bJ (bN.k_words y5))), (7, (bJ (bN.k_number y42)))] ?_
      refine aT aD 7 [] [(9, (eI 0)), (10, (aE false))] ?_
      refine aT aD 7 [] [(11, (eI y42)), (12, (aE true))] ?_
      refine aP ?_
      refine bZ 0 ?_
      refine aT aD 5 [] [(39, (aE false))] ?_
      refine nN (false) (fun hc49 => ?_) (fun hc49 => ?_)
      · cases hc49
      · refine aT aD 2 [9, 10, 11, 39] [(47, (aE false))] ?_
        refine nN (false) (fun hc50 => ?_) (fun hc50 => ?_)
        · cases hc50
        · refine bT aD 2 [(5, (bJ (bN.k_words y5))), (7, (bJ (bN.k_number y42))), (49, (aE true))] ?_
          refine nN (true) (fun hc51 => ?_) (fun hc51 => ?_)
          · refine bT aD 1 [(4, (eI (1 : Int)))] ?_
            refine bI ?_
            obtain rfl := oI h0
            exact aG (bK (aQ (Q_r hO)))
          · cases hc51
    · replace h0 : (cond ((!x1_1) || (!x39_1)) (some (0 : Int)) ((mL y5 y43).bind fun x56 => some x56)) = some r := h0
      refine bD ?_
      refine bU [3] [(7, (bJ (bN.k_words y43))), (8, (aE x39_1))] ?_
      refine aP ?_
      refine aT aD 6 [6, 8] [(28, (aE ((!x1_1) || (!x39_1))))] ?_
      refine bF h0 (fun h0 => ?_) (fun h0 => ?_)
      · refine bT aD 1 [(4, (eI (0 : Int)))] ?_
        refine bI ?_
        obtain rfl := oI h0
        exact aG (aQ (Q_r hO))
      refine bG ?_
      refine bE [(5, (bJ (bN.k_words y5))), (7, (bJ (bN.k_words y43)))] ?_
      refine aT aD 7 [] [(9, (eI 0)), (10, (aE false))] ?_
      refine aT aD 7 [] [(11, (eI 0)), (12, (aE false))] ?_
      refine aP ?_
      refine bZ 0 ?_
      refine aT aD 5 [] [(39, (aE false))] ?_
      refine nN (false) (fun hc53 => ?_) (fun hc53 => ?_)
      · cases hc53
      · refine aT aD 2 [9, 10, 11, 39] [(47, (aE false))] ?_
        refine nN (false) (fun hc54 => ?_) (fun hc54 => ?_)
        · cases hc54
        · refine bT aD 2 [(5, (bJ (bN.k_words y5))), (7, (bJ (bN.k_words y43))), (49, (aE false))] ?_
          refine nN (false) (fun hc55 => ?_) (fun hc55 => ?_)
          · cases hc55
          · refine bG ?_
            refine fZ [(5, (bJ (bN.k_words y5))), (7, (bJ (bN.k_words y43)))] ?_
            refine aG (aY (aF (?_)))
            refine aP ?_
            refine eC (eE []) aD 6 ?_
            refine kR 4 ?_
            obtain ⟨x56, hx57, h0⟩ := aZ h0
            refine DM (FF y5 y43 _ hx57) hO ?_
            intro H hO
            refine gG ?_
            refine bE [(4, (eI x56))] ?_
            refine bI ?_
            obtain rfl := oI h0
            exact aG (Q_r hO)

theorem LZ (a0 : (List aB)) (b1 : (List aB)) (r : Int) (h0 : rZ a0 b1 = some r) : dH Try.prog 77 [(eL aC a0), (eL aC b1)] (eI r) := by
  intro H0
  refine dF Try.func77 ?_
  have hO := aL.start H0
  unfold rZ at h0
  refine aP ?_
  refine aW aD 2 ?_
  refine qF 1 (eL aC b1) (by kernel_rfl) (by kernel_rfl) ?_
  refine bD ?_
  refine bU [1] [(3, (.rp (eL aC b1)))] ?_
  refine aP ?_
  refine aP ?_
  refine aW aD 8 ?_
  refine bV 1 ?_
  obtain ⟨x1, hx2, h0⟩ := aZ h0
  refine dL (DO a0 _ hx2) hO ?_
  intro H hO
  refine bV 5 ?_
  obtain ⟨x4, hx5, h0⟩ := aZ h0
  refine nK [(10, false)] 76 [(eL aC b1)] (aE x4) (!(!x1)) (by kernel_rfl) (by kernel_rfl) (by kernel_rfl) (fun hb6 => (DO b1 _ (iV hx5 hb6))) hO ?_
  intro H hO
  refine bD ?_
  refine bU [] [(14, (aE ((!x1) || (!x4))))] ?_
  refine bF h0 (fun h0 => ?_) (fun h0 => ?_)
  · refine bT aD 1 [(4, (eI (0 : Int)))] ?_
    refine bI ?_
    obtain rfl := oI h0
    exact aG (aQ (Q_r hO))
  refine bG ?_
  refine bE [(0, (eL aC a0)), (3, (.rp (eL aC b1)))] ?_
  refine aT aD 6 [] [(5, (eI (if (lN b1) < (lN a0) then (lN b1) else (lN a0))))] ?_
  refine aP ?_
  refine eC (eE []) aD 7 ?_
  obtain ⟨c8, h0⟩ := aR h0
  refine cB 4 [0 ≤ (if (lN b1) < (lN a0) then (lN b1) else (lN a0)) ∧ (if (lN b1) < (lN a0) then (lN b1) else (lN a0)) ≤ (lN a0)] ⟨c8, trivial⟩ ?_
  obtain ⟨x9, hx10, h0⟩ := aZ h0
  refine ZU (L' := fun lo11 => [(lo11, 1, [(eI x9.1)])]) 1 [(eI x9.1)] 101 [(.rp (eL aC b1))] (fun lo11 => (.fn (.func 102) [] [(.lp lo11 0 0), (.rp (eL aC x9.2))])) (by kernel_rfl) (by kernel_rfl) (HI b1 _ hx10) hO (fun _ => by kernel_rfl) ?_
  intro lo11 H hO
  obtain ⟨x12, hx13, h0⟩ := aZ h0
  refine aAj (fun st G' => G' = up [(lo11, 1, [(eI st)])] ++ []) [(lo11, 1, [(eI x12.1)])] x9.1 x12.1 100 [(.sl false (Int.toNat (if (lN b1) < (lN a0) then (lN b1) else (lN a0))) (fun i => aC (List.getD a0 i default))), (.fn (.func 102) [] [(.lp lo11 0 0), (.rp (eL aC x9.2))])] (eI x12.2) (by kernel_rfl) (by kernel_rfl) (yJ.sub (as0' := [(eL aC (List.take (Int.toNat (if (lN b1) < (lN a0) then (lN b1) else (lN a0))) a0)), (.fn (.func 102) [] [(.lp lo11 0 0), (.rp (eL aC x9.2))])]) (sK _ (List.take (Int.toNat (if (lN b1) < (lN a0) then (lN b1) else (lN a0))) a0) (.fn (.func 102) [] [(.lp lo11 0 0), (.rp (eL aC x9.2))]) (fun st y0 => (jU y0 st x9.2).bind fun o => some (o.2, o.1)) (fun st y0 st2 rr hr => (FC y0 lo11 st x9.2 _ (aA7 hr)).toV (ys := []) (zs := [(aC y0)]) (cs := [(.lp lo11 0 0), (.rp (eL aC x9.2))]) (fun Gx hG => ⟨up [], up [] ++ [], hG, rfl⟩)) _ _ hx13) ⟨RP (Int.toNat_le.2 (And.right c8)), aN.refl _, trivial⟩) hO rfl (fun _ h => h) ?_
  intro H hO
  refine gG ?_
  replace hO := hO.pick (L' := []) [] (by decide) (by kernel_rfl)
  refine bU [5] [(6, (eI x12.2))] ?_
  refine aP ?_
  refine aT aD 2 [] [(27, (aE (decide (x12.2 < (0 : Int)))))] ?_
  refine bF h0 (fun h0 => ?_) (fun h0 => ?_)
  · refine aP ?_
    refine aW aD 6 ?_
    refine bV 4 ?_
    obtain ⟨x15, hx16, h0⟩ := aZ h0
    refine dL (FD (lN a0) (lN b1) _ hx16) hO ?_
    intro H hO
    refine bD ?_
    refine bE [(4, (eI x15))] ?_
    refine bI ?_
    obtain rfl := oI h0
    exact aG (aQ (Q_r hO))
  refine bG ?_
  refine bE [(0, (eL aC a0)), (3, (.rp (eL aC b1))), (6, (eI x12.2))] ?_
  refine aP ?_
  refine eC (eE [36, 37, 40, 41]) aD 10 ?_
  obtain ⟨c18, h0⟩ := aR h0
  obtain ⟨c19, h0⟩ := aR h0
  refine cB 8 [0 ≤ x12.2 ∧ x12.2 < (lN a0), 0 ≤ x12.2 ∧ x12.2 < (lN b1)] ⟨c18, c19, trivial⟩ ?_
  obtain ⟨x20, hx21, h0⟩ := aZ h0
  refine DM (HM (gD a0 x12.2) (gD b1 x12.2) _ hx21) hO ?_
  intro H hO
  refine gG ?_
  refine bE [(4, (eI x20))] ?_
  refine bI ?_
  obtain rfl := oI h0
  exact aG (Q_r hO)

theorem FX (l0 : (List aI)) (holds1_f : Nat) (holds1_a holds1_c : List V) (tB : (List aM) → Option Bool) (holds1_h : ∀ a0 r, tB a0 = some r → dH Try.prog holds1_f (holds1_a ++ [(eL aX a0)] ++ holds1_c) (aE r)) (r : Bool) (h0 : sJ l0 tB = some r) : dH Try.prog 56 [(eL aH l0), (.fn (.func holds1_f) holds1_a holds1_c)] (aE r) := by
  intro H0
  refine KA aD Try.func56 (by kernel_rfl) (by kernel_rfl) (by kernel_rfl) ?_
  have hO := aL.start H0
  unfold sJ at h0
  refine aP ?_
  refine aW aD 2 ?_
  refine qF 1 (.fn (.func holds1_f) holds1_a holds1_c) (by kernel_rfl) (by kernel_rfl) ?_
  refine vM 1 (aE false) (by kernel_rfl) (by kernel_rfl) hO ?_
  intro lo1 H hO
  refine hY ?_
  refine bU [1] [(3, (.rp (.fn (.func holds1_f) holds1_a holds1_c))), (4, (.lp lo1 0 0))] ?_
  refine aP ?_
  refine aT aD 3 [] [(11, (aE (decide ((4096 : Int) < (lN l0)))))] ?_
  refine bF h0 (fun h0 => ?_) (fun h0 => ?_)
  · refine aP ?_
    refine aW aD 1 ?_
    refine pT 0 lo1 1 0 (aE false) (aE false) [(aE false)] [(lo1, 1, [(aE false)])] hO rfl (by kernel_rfl) ?_
    intro H hO
    refine hY ?_
    refine bE [(4, (.lp lo1 0 0))] ?_
    refine bI ?_
    obtain rfl := oI h0
    exact aG (aQ (QM0 (.inr rfl) (rs := [.cell 4 4]) (xs := [(aE false)]) (x := (aE false)) (by kernel_rfl) (EY (lo := lo1) (k := 1) (y := (aE false)) (x := (aE false)) 0 hO (by kernel_rfl) (by kernel_rfl) (by kernel_rfl) (by kernel_rfl) DR) (by kernel_rfl) ⟨rfl, hO.out⟩))
  refine bG ?_
  refine bE [(0, (eL aH l0)), (3, (.rp (.fn (.func holds1_f) holds1_a holds1_c))), (4, (.lp lo1 0 0))] ?_
  refine aP ?_
  refine aW aD 1 ?_
  refine vI 1 (.sl true 0 (fun _ => .bad)) (eL aC ([])) (by kernel_rfl) (by kernel_rfl) (by kernel_rfl) (kY) (by kernel_rfl) (by kernel_rfl) hO ?_
  intro lo3 H hO
  refine hY ?_
  refine bU [] [(5, (.lp lo3 0 0))] ?_
  refine aP ?_
  refine aW aD 2 ?_
  refine vM 1 (aE false) (by kernel_rfl) (by kernel_rfl) hO ?_
  intro lo4 H hO
  refine pT 2 lo4 1 0 (aE false) (aE false) [(aE false)] [(lo1, 1, [(aE false)]), (lo3, 1, [(eL aC ([]))]), (lo4, 1, [(aE false)])] hO rfl (by kernel_rfl) ?_
  intro H hO
  refine hY ?_
  refine bU [] [(6, (.lp lo4 0 0))] ?_
  refine aP ?_
  refine aP ?_
  refine aW aD 2 ?_
  refine bV 1 ?_
  obtain ⟨x5, hx6, h0⟩ := aZ h0
  refine dL (QO l0 _ hx6) hO ?_
  intro H hO
  refine hY ?_
  refine bU [0] [(13, (.fn (.func 91) [] [(.rp (eL aH x5))]))] ?_
  refine bZ 0 ?_
  refine eZ [(3, (.rp (.fn (.func holds1_f) holds1_a holds1_c))), (4, (.lp lo1 0 0)), (5, (.lp lo3 0 0)), (6, (.lp lo4 0 0)), (13, (.fn (.func 91) [] [(.rp (eL aH x5))]))] ?_
  refine dO (fun T H => ∃ t4 : Bool, ∃ nQ : (List aB), ∃ jZ : Bool, ∃ tV : (List aI), Has T [(3, (.rp (.fn (.func holds1_f) holds1_a holds1_c))), (4, (.lp lo1 0 0)), (5, (.lp lo3 0 0)), (6, (.lp lo4 0 0)), (13, (.fn (.func 91) [] [(.rp (eL aH tV))]))] ∧ aL ⟨H0, [], []⟩ H [(lo1, 1, [(aE t4)]), (lo3, 1, [(eL aC nQ)]), (lo4, 1, [(aE jZ)])] ∧ wF tB t4 nQ jZ tV = some r) ?_ ⟨false, [], false, x5, .eq (by kernel_rfl), hO, h0⟩
  clear hO h0
  rintro T H ⟨t4, nQ, jZ, tV, hT, hO, h0⟩
  refine bC (l := [(3, (.rp (.fn (.func holds1_f) holds1_a holds1_c))), (4, (.lp lo1 0 0)), (5, (.lp lo3 0 0)), (6, (.lp lo4 0 0)), (13, (.fn (.func 91) [] [(.rp (eL aH tV))]))]) hT ?_
  clear hT
  unfold wF at h0
  obtain ⟨o0, hl0, h0⟩ := aZ h0
  refine FZ (fid := 91) (ys := []) (cs := [(.rp (eL aH tV))]) #[14, 15] (fun (A : AG) (b lL : Nat) (st : (Bool × (List aB) × Bool) ⊕ (Bool × (List aB) × Bool)) (G' : Gs) => Sum.elim (fun (s : Bool × (List aB) × Bool) => G' = (lL, .raw (mD b A .ready none)) :: (up [(lo1, 1, [(aE s.1)]), (lo3, 1, [(eL aC s.2.1)]), (lo4, 1, [(aE s.2.2)])] ++ [])) (fun (s : Bool × (List aB) × Bool) => G' = (lL, .raw (mD b A .done (some .ret))) :: (up [(lo1, 1, [(aE s.1)]), (lo3, 1, [(eL aC s.2.1)]), (lo4, 1, [(aE s.2.2)])] ++ [])) st) (.inl (t4, nQ, jZ)) o0 (.tup []) (by kernel_rfl) (by kernel_rfl) (by kernel_rfl) hO (fun _ _ => rfl) ?_ ?_
  · intro b lL
    clear hO h0
    refine IL _ b (fun st t14 t15 => rnd (fun (s : Bool × (List aB) × Bool) => oA tB tV s.1 s.2.1 s.2.2 t14 t15) st) ?_ tV _ _ hl0
    intro st t14 t15 out1 rr hr
    obtain ⟨s, rfl, h1, rfl⟩ := WX hr
    clear hr
    intro Hr Gr hi hg
    obtain ⟨t4, nQ, jZ⟩ := s
    dsimp only [Sum.elim_inl] at hi
    obtain rfl := hi
    replace h1 : oA tB tV t4 nQ jZ t14 t15 = some out1 := h1
    unfold oA at h1
    obtain ⟨E1, hE, hO⟩ := AH hg
    refine AK (GX (hO.gm 0 _ rfl).2 (by kernel_rfl) (by kernel_rfl) ?_)
    refine eZ [(3, (.rp (.fn (.func holds1_f) holds1_a holds1_c))), (4, (.lp lo1 0 0)), (5, (.lp lo3 0 0)), (6, (.lp lo4 0 0)), (13, (.fn (.func 91) [] [(.rp (eL aH tV))])), (14, (eL aC t14)), (15, (eL aX t15))] ?_
    refine aT aD 1 [13, 14] [(7, (eL aC t14))] ?_
    refine aW aD 1 ?_
    refine bD ?_
    refine fZ [(3, (.rp (.fn (.func holds1_f) holds1_a holds1_c))), (4, (.lp lo1 0 0)), (5, (.lp lo3 0 0)), (6, (.lp lo4 0 0)), (7, (eL aC t14)), (8, (eL aX t15))] ?_
    refine aG (⟨rfl, rfl, (hO.gm 0 _ rfl).2, ?_⟩)
    intro o1 ho1
    replace hO := hO.BT o1
    refine bZ 1 ?_
    refine aP ?_
    refine aP ?_
    refine aW aD 18 ?_
    refine bV 1 ?_
    obtain ⟨x7, hx8, h1⟩ := aZ h1
    refine dL (DO t14 _ hx8) hO ?_
    intro H hO
    refine bV 4 ?_
    refine sG [(19, false)] 2 lo4 1 0 (aE jZ) (aE jZ) [(aE jZ)] (by kernel_rfl) (by kernel_rfl) hO (by kernel_rfl) (!(!x7)) (by kernel_rfl) (fun hb10 => rfl) ?_
    refine bV 6 ?_
    refine sG [(21, true), (19, false)] 1 lo3 1 0 (eL aC nQ) (eL aC nQ) [(eL aC nQ)] (by kernel_rfl) (by kernel_rfl) hO (by kernel_rfl) (jZ && (!(!x7))) (by kernel_rfl) (fun hb11 => rfl) ?_
    refine bV 8 ?_
    obtain ⟨x12, hx13, h1⟩ := aZ h1
    refine nK [(21, true), (19, false)] 77 [(eL aC nQ), (eL aC t14)] (eI x12) (jZ && (!(!x7))) (by kernel_rfl) (by kernel_rfl) (by kernel_rfl) (fun hb14 => (LZ nQ t14 _ (iV hx13 hb14))) hO ?_
    intro H hO
    refine bV 15 ?_
    obtain ⟨x15, hx16, h1⟩ := aZ h1
    refine nK [(28, false)] holds1_f (holds1_a ++ [(eL aX t15)] ++ holds1_c) (aE x15) (!((!x7) || (jZ && (decide ((0 : Int) ≤ x12))))) (by kernel_rfl) (by kernel_rfl) (by kernel_rfl) (fun hb17 => (holds1_h t15 _ (iV hx16 hb17))) hO ?_
    intro H hO
    refine bD ?_
    refine bU [3, 8] [(33, (aE (((!x7) || (jZ && (decide ((0 : Int) ≤ x12)))) || (!x15))))] ?_
    refine bF h1 (fun h1 => ?_) (fun h1 => ?_)
    · refine aP ?_
      refine aW aD 1 ?_
      refine pT 0 lo1 1 0 (aE t4) (aE false) [(aE t4)] [(lo1, 1, [(aE false)]), (lo3, 1, [(eL aC nQ)]), (lo4, 1, [(aE jZ)])] hO rfl (by kernel_rfl) ?_
      intro H hO
      refine hY ?_
      refine bU [7, 33] [] ?_
      refine bI ?_
      refine fZ [(4, (.lp lo1 0 0)), (5, (.lp lo3 0 0)), (6, (.lp lo4 0 0))] ?_
      obtain rfl := oI h1
      exact aG (aQ (bK (⟨(mO hO hE ho1 .dead).1, rfl, _, rfl, (mO hO hE ho1 _).2⟩)))
    refine bG ?_
    refine bE [(4, (.lp lo1 0 0)), (5, (.lp lo3 0 0)), (6, (.lp lo4 0 0)), (7, (eL aC t14))] ?_
    refine aW aD 3 ?_
    refine bV 1 ?_
    refine pT 1 lo3 1 0 (eL aC nQ) (eL aC t14) [(eL aC nQ)] [(lo1, 1, [(aE t4)]), (lo3, 1, [(eL aC t14)]), (lo4, 1, [(aE jZ)])] hO rfl (by kernel_rfl) ?_
    intro H hO
    refine pT 2 lo4 1 0 (aE jZ) (aE true) [(aE jZ)] [(lo1, 1, [(aE t4)]), (lo3, 1, [(eL aC t14)]), (lo4, 1, [(aE true)])] hO rfl (by kernel_rfl) ?_
    intro H hO
    refine hY ?_
    refine fZ [(4, (.lp lo1 0 0)), (5, (.lp lo3 0 0)), (6, (.lp lo4 0 0))] ?_
    obtain rfl := oI h1
    exact aG (aY (⟨(mO hO hE ho1 .dead).1, rfl, _, rfl, (mO hO hE ho1 _).2⟩))
  · intro b lD19 lL H' G' hi hO
    rcases o0 with s | s
    · dsimp only [Sum.elim_inl] at hi
      obtain rfl := hi
      replace h0 : (some true) = some r := h0
      obtain ⟨hlL, hO⟩ := yO hO
      refine ⟨_, _, hlL, (by intro e; cases e), ?_⟩
      refine fZ [(4, (.lp lo1 0 0))] ?_
      replace hO := hO.pick (L' := [(lo1, 1, [(aE s.1)])]) [0] (by decide) (by kernel_rfl)
      refine aG (aY (aF (?_)))
      refine aP ?_
      refine aW aD 1 ?_
      refine pT 0 lo1 1 0 (aE s.1) (aE true) [(aE s.1)] [(lo1, 1, [(aE true)])] hO rfl (by kernel_rfl) ?_
      intro H hO
      refine hY ?_
      refine bE [(4, (.lp lo1 0 0))] ?_
      refine bI ?_
      obtain rfl := oI h0
      have hD := (hO.gm 0 _ rfl).2
      replace hO := (hO.BT .dead).BZ
      exact aG (QM1 (.inr rfl) hD (rs := [.cell 4 4]) (xs := [(aE true)]) (x := (aE true)) (by kernel_rfl) (EY (lo := lo1) (k := 1) (y := (aE true)) (x := (aE true)) 0 hO (by kernel_rfl) (by kernel_rfl) (by kernel_rfl) (by kernel_rfl) DR) (by kernel_rfl) ⟨rfl, hO.out⟩)
    · dsimp only [Sum.elim_inr] at hi
      obtain rfl := hi
      replace h0 : (some s.1) = some r := h0
      obtain ⟨hlL, hO⟩ := yO hO
      refine ⟨_, _, hlL, (by intro e; cases e), ?_⟩
      refine bI ?_
      replace hO := hO.pick (L' := [(lo1, 1, [(aE s.1)])]) [0] (by decide) (by kernel_rfl)
      obtain rfl := oI h0
      have hD := (hO.gm 0 _ rfl).2
      replace hO := (hO.BT .dead).BZ
      exact aG (bK (aQ (QM1 (.inr rfl) hD (rs := [.cell 4 4]) (xs := [(aE s.1)]) (x := (aE s.1)) (by kernel_rfl) (EY (lo := lo1) (k := 1) (y := (aE s.1)) (x := (aE s.1)) 0 hO (by kernel_rfl) (by kernel_rfl) (by kernel_rfl) (by kernel_rfl) DR) (by kernel_rfl) ⟨rfl, hO.out⟩)))

theorem PW (n0 : Int) (r : Bool) (h0 : xB n0 = some r) : dH Try.prog 78 [(eI n0)] (aE r) := by
  intro H0
  refine dF Try.func78 ?_
  have hO := aL.start H0
  unfold xB at h0
  refine aT aD 1 [] [] ?_
  refine bT aD 7 [(2, (aE ((decide (n0 ≤ (1048576 : Int))) && (decide ((-1048576 : Int) ≤ n0)))))] ?_
  refine bI ?_
  obtain rfl := oI h0
  exact aG (Q_r hO)

theorem CN (f0 : (List aM)) (r : Bool) (h0 : pH f0 = some r) : dH Try.prog 57 [(eL aX f0)] (aE r) := by
  intro H0
  refine dF Try.func57 ?_
  have hO := aL.start H0
  unfold pH at h0
  refine aT aD 1 [] [] ?_
  refine aP ?_
  refine aT aD 3 [] [(8, (aE (decide ((1024 : Int) < (lN f0)))))] ?_
  refine bF h0 (fun h0 => ?_) (fun h0 => ?_)
  · refine bT aD 1 [(2, (aE false))] ?_
    refine bI ?_
    obtain rfl := oI h0
    exact aG (aQ (Q_r hO))
  refine bG ?_
  refine bE [(0, (eL aX f0))] ?_
  refine aT aD 1 [] [(3, (eI (-2 : Int)))] ?_
  refine dU (fun T H => Has T [] ∧ aL ⟨H0, [], []⟩ H [] ∧ uJ  = some r) ?_ ?_
  · clear hO h0
    rintro T H ⟨hT, hO, h0⟩
    refine bC hT ?_
    clear hT
    unfold uJ at h0
    refine bT aD 1 [(2, (aE true))] ?_
    refine bI ?_
    obtain rfl := oI h0
    exact aG (Q_r hO)
  refine aT aD 3 [0] [(9, (eL aX f0)), (10, (eI (lN f0))), (11, (eI (0 : Int)))] ?_
  refine bZ 0 ?_
  refine eZ [(3, (eI (-2 : Int))), (9, (eL aX f0)), (10, (eI (lN f0))), (11, (eI (0 : Int)))] ?_
  refine dO (fun T H => ∃ pZ : Int, ∃ t9 : (List aM), ∃ t10 : Int, ∃ t11 : Int, Has T [(3, (eI pZ)), (9, (eL aX t9)), (10, (eI t10)), (11, (eI t11))] ∧ aL ⟨H0, [], []⟩ H [] ∧ xJ pZ t9 t10 t11 = some r) ?_ ⟨(-2 : Int), f0, (lN f0), (0 : Int), .eq (by kernel_rfl), hO, h0⟩
  clear hO h0
  rintro T H ⟨pZ, t9, t10, t11, hT, hO, h0⟩
  refine bC hT ?_
  clear hT
  unfold xJ at h0
  obtain ⟨rr0, hl0, h0⟩ := aZ h0
  refine cP (by kernel_rfl) (fun (s : Int × Int) T H => Has T [(3, (eI s.1)), (9, (eL aX t9)), (10, (eI t10)), (11, (eI s.2))] ∧ aL ⟨H0, [], []⟩ H []) hl0 ⟨.eq (by kernel_rfl), hO⟩ ?_
  clear hO
  rintro k0 s out1 T H ⟨hT, hO⟩ h1 ho0
  obtain ⟨pZ, t11⟩ := s
  replace h1 : mC t9 t10 pZ t11 = some out1 := h1
  try dsimp only at hT
  refine bC hT ?_
  clear hT
  unfold mC at h1
  refine aT aD 1 [] [(12, (aE (decide (t11 < t10))))] ?_
  refine aP ?_
  refine bF h1 (fun h1 => ?_) (fun h1 => ?_)
  · refine bG ?_
    refine bE [(3, (eI pZ)), (9, (eL aX t9)), (10, (eI t10)), (11, (eI t11))] ?_
    refine aP ?_
    refine bZ 1 ?_
    refine aP ?_
    refine aW aD 4 ?_
    obtain ⟨c3, h1⟩ := aR h1
    refine nR 2 [0 ≤ t11 ∧ t11 < (lN t9)] ⟨c3, trivial⟩ ?_
    refine vM 2 (aX (aM.mk 0 0)) (by kernel_rfl) (by kernel_rfl) hO ?_
    intro lo4 H hO
    refine pT 0 lo4 2 0 (aX (aM.mk 0 0)) (aX (gD t9 t11)) [(aX (aM.mk 0 0))] [(lo4, 2, [(aX (gD t9 t11))])] hO rfl (by kernel_rfl) ?_
    intro H hO
    refine hY ?_
    refine bU [] [(5, (.lp lo4 0 0))] ?_
    refine aP ?_
    refine aP ?_
    refine aW aD 20 ?_
    refine bV 1 ?_
    refine pQ 0 lo4 2 0 (aX (gD t9 t11)) (eI ((gD t9 t11).At)) [(aX (gD t9 t11))] hO rfl ?_
    refine bV 6 ?_
    refine sG [(19, false)] 0 lo4 2 0 (aX (gD t9 t11)) (eI ((gD t9 t11).At)) [(aX (gD t9 t11))] (by kernel_rfl) (by kernel_rfl) hO (by kernel_rfl) (!(decide (((gD t9 t11).At) ≤ pZ))) (by kernel_rfl) (fun hb5 => rfl) ?_
    refine bV 11 ?_
    refine sG [(24, false)] 0 lo4 2 0 (aX (gD t9 t11)) (eI ((gD t9 t11).Net)) [(aX (gD t9 t11))] (by kernel_rfl) (by kernel_rfl) hO (by kernel_rfl) (!((decide (((gD t9 t11).At) ≤ pZ)) || (decide ((1125899906842624 : Int) ≤ ((gD t9 t11).At))))) (by kernel_rfl) (fun hb6 => rfl) ?_
    refine bV 16 ?_
    refine sG [(29, false)] 0 lo4 2 0 (aX (gD t9 t11)) (eI ((gD t9 t11).Net)) [(aX (gD t9 t11))] (by kernel_rfl) (by kernel_rfl) hO (by kernel_rfl) (!(((decide (((gD t9 t11).At) ≤ pZ)) || (decide ((1125899906842624 : Int) ≤ ((gD t9 t11).At)))) || (decide (((gD t9 t11).Net) = (0 : Int))))) (by kernel_rfl) (fun hb7 => rfl) ?_
    obtain ⟨x8, hx9, h1⟩ := aZ h1
    refine nK [(29, false)] 78 [(eI ((gD t9 t11).Net))] (aE x8) (!(((decide (((gD t9 t11).At) ≤ pZ)) || (decide ((1125899906842624 : Int) ≤ ((gD t9 t11).At)))) || (decide (((gD t9 t11).Net) = (0 : Int))))) (by kernel_rfl) (by kernel_rfl) (by kernel_rfl) (fun hb10 => (PW ((gD t9 t11).Net) _ (iV hx9 hb10))) hO ?_
    intro H hO
    refine bD ?_
    refine bU [3] [(34, (aE ((((decide (((gD t9 t11).At) ≤ pZ)) || (decide ((1125899906842624 : Int) ≤ ((gD t9 t11).At)))) || (decide (((gD t9 t11).Net) = (0 : Int)))) || (!x8))))] ?_
    refine bF h1 (fun h1 => ?_) (fun h1 => ?_)
    · refine aP ?_
      refine aW aD 1 ?_
      refine bD ?_
      refine fZ [(2, (aE false))] ?_
      replace hO := hO.pick (L' := []) [] (by decide) (by kernel_rfl)
      refine aG (aF (?_))
      refine bI ?_
      obtain rfl := oI h1
      obtain rfl : _ = rr0 := ho0
      replace h0 : some false = some r := h0
      obtain rfl := oI h0
      exact aG (aQ (bK (aQ (aQ (bK (aQ (Q_r hO)))))))
    refine bG ?_
    refine bE [(5, (.lp lo4 0 0)), (9, (eL aX t9)), (10, (eI t10)), (11, (eI t11))] ?_
    refine aW aD 3 ?_
    refine bV 1 ?_
    refine pQ 0 lo4 2 0 (aX (gD t9 t11)) (eI ((gD t9 t11).At)) [(aX (gD t9 t11))] hO rfl ?_
    refine bD ?_
    refine fZ [(3, (eI ((gD t9 t11).At))), (9, (eL aX t9)), (10, (eI t10)), (11, (eI t11))] ?_
    replace hO := hO.pick (L' := []) [] (by decide) (by kernel_rfl)
    refine aG (aY (aF (?_)))
    refine aW aD 2 ?_
    refine bD ?_
    exact aG (aF (⟨rfl, _, (oI h1).symm, .eq (by kernel_rfl), hO⟩))
  refine eP 0 ?_
  obtain rfl := oI h1
  obtain rfl : _ = rr0 := ho0
  replace h0 : uJ  = some r := h0
  exact aG (aS (aS (bP (aF (⟨rfl, .eq (by kernel_rfl), hO, h0⟩)))))

theorem SI (l0 : (List aI)) (r : Bool) (h0 : vV l0 = some r) : dH Try.prog 31 [(eL aH l0)] (aE r) := by
  intro H0
  refine dF Try.func31 ?_
  have hO := aL.start H0
  unfold vV at h0
  refine aT aD 1 [] [] ?_
  refine aP ?_
  refine aW aD 3 ?_
  refine bV 1 ?_
  obtain ⟨x1, hx2, h0⟩ := aZ h0
  refine dL (FX l0 57 [] [] (fun y0 => pH y0) (fun y0 r h => CN y0 r h) _ hx2) hO ?_
  intro H hO
  refine bD ?_
  refine bE [(2, (aE x1))] ?_
  refine bI ?_
  obtain rfl := oI h0
  exact aG (Q_r hO)

theorem OK (f0 : (List aM)) (r : Int) (h0 : tE f0 = some r) : dH Try.prog 59 [(eL aX f0)] (eI r) := by
  intro H0
  refine dF Try.func59 ?_
  have hO := aL.start H0
  unfold tE at h0
  refine aT aD 1 [] [] ?_
  refine aP ?_
  refine aP ?_
  refine aW aD 8 ?_
  refine bV 1 ?_
  obtain ⟨x1, hx2, h0⟩ := aZ h0
  refine dL (CN f0 _ hx2) hO ?_
  intro H hO
  refine bD ?_
  refine bU [] [(14, (aE ((!x1) || (decide ((lN f0) = (0 : Int))))))] ?_
  refine bF h0 (fun h0 => ?_) (fun h0 => ?_)
  · refine bT aD 1 [(2, (eI (0 : Int)))] ?_
    refine bI ?_
    obtain rfl := oI h0
    exact aG (aQ (Q_r hO))
  refine bG ?_
  refine bE [(0, (eL aX f0))] ?_
  refine aT aD 2 [] [(3, (eI (0 : Int))), (4, (eI (0 : Int)))] ?_
  refine dU (fun T H => ∃ v3 : Int, ∃ gY : Int, Has T [(0, (eL aX f0)), (3, (eI v3)), (4, (eI gY))] ∧ aL ⟨H0, [], []⟩ H [] ∧ oX f0 v3 gY = some r) ?_ ?_
  · clear hO h0
    rintro T H ⟨v3, gY, hT, hO, h0⟩
    refine bC hT ?_
    clear hT
    unfold oX at h0
    refine dU (fun T H => ∃ gY : Int, Has T [(4, (eI gY))] ∧ aL ⟨H0, [], []⟩ H [] ∧ sA gY = some r) ?_ ?_
    · clear hO h0
      rintro T H ⟨gY, hT, hO, h0⟩
      refine bC hT ?_
      clear hT
      unfold sA at h0
      refine bT aD 2 [(2, (eI gY))] ?_
      refine bI ?_
      obtain rfl := oI h0
      exact aG (Q_r hO)
    refine aT aD 3 [0] [(24, (eL aX f0)), (25, (eI (lN f0))), (26, (eI (0 : Int)))] ?_
    refine bZ 0 ?_
    refine eZ [(3, (eI v3)), (4, (eI gY)), (24, (eL aX f0)), (25, (eI (lN f0))), (26, (eI (0 : Int)))] ?_
    refine dO (fun T H => ∃ v3 : Int, ∃ gY : Int, ∃ t24 : (List aM), ∃ t25 : Int, ∃ t26 : Int, Has T [(3, (eI v3)), (4, (eI gY)), (24, (eL aX t24)), (25, (eI t25)), (26, (eI t26))] ∧ aL ⟨H0, [], []⟩ H [] ∧ rW v3 gY t24 t25 t26 = some r) ?_ ⟨v3, gY, f0, (lN f0), (0 : Int), .eq (by kernel_rfl), hO, h0⟩
    clear hO h0
    rintro T H ⟨v3, gY, t24, t25, t26, hT, hO, h0⟩
    refine bC hT ?_
    clear hT
    unfold rW at h0
    obtain ⟨rr0, hl0, h0⟩ := aZ h0
    refine cP (by kernel_rfl) (fun (s : Int × Int × Int) T H => Has T [(3, (eI s.1)), (4, (eI s.2.1)), (24, (eL aX t24)), (25, (eI t25)), (26, (eI s.2.2))] ∧ aL ⟨H0, [], []⟩ H []) hl0 ⟨.eq (by kernel_rfl), hO⟩ ?_
    clear hO
    rintro k0 s out1 T H ⟨hT, hO⟩ h1 ho0
    obtain ⟨v3, gY, t26⟩ := s
    replace h1 : mM t24 t25 v3 gY t26 = some out1 := h1
    try dsimp only at hT
    refine bC hT ?_
    clear hT
    unfold mM at h1
    refine aT aD 1 [] [(27, (aE (decide (t26 < t25))))] ?_
    refine aP ?_
    refine bF h1 (fun h1 => ?_) (fun h1 => ?_)
    · refine bG ?_
      refine bE [(3, (eI v3)), (4, (eI gY)), (24, (eL aX t24)), (25, (eI t25)), (26, (eI t26))] ?_
      refine aP ?_
      refine bZ 1 ?_
      refine aP ?_
      refine aW aD 4 ?_
      obtain ⟨c6, h1⟩ := aR h1
      refine nR 2 [0 ≤ t26 ∧ t26 < (lN t24)] ⟨c6, trivial⟩ ?_
      refine vM 2 (aX (aM.mk 0 0)) (by kernel_rfl) (by kernel_rfl) hO ?_
      intro lo7 H hO
      refine pT 0 lo7 2 0 (aX (aM.mk 0 0)) (aX (gD t24 t26)) [(aX (aM.mk 0 0))] [(lo7, 2, [(aX (gD t24 t26))])] hO rfl (by kernel_rfl) ?_
      intro H hO
      refine hY ?_
      refine bU [] [(6, (.lp lo7 0 0))] ?_
      refine aP ?_
      refine aW aD 5 ?_
      refine bV 2 ?_
      refine pQ 0 lo7 2 0 (aX (gD t24 t26)) (eI ((gD t24 t26).Net)) [(aX (gD t24 t26))] hO rfl ?_
      refine bD ?_
      replace hO := hO.pick (L' := []) [] (by decide) (by kernel_rfl)
      refine bU [3, 6] [(3, (eI (wR (v3 + ((gD t24 t26).Net)))))] ?_
      refine aW aD 4 ?_
      refine bD ?_
      refine fZ [(3, (eI (wR (v3 + ((gD t24 t26).Net))))), (4, (eI (if (wR (v3 + ((gD t24 t26).Net))) < gY then (wR (v3 + ((gD t24 t26).Net))) else gY))), (24, (eL aX t24)), (25, (eI t25)), (26, (eI t26))] ?_
      refine aG (aY (aF (?_)))
      refine aW aD 2 ?_
      refine bD ?_
      exact aG (aF (⟨rfl, _, (oI h1).symm, .eq (by kernel_rfl), hO⟩))
    refine eP 0 ?_
    obtain rfl := oI h1
    obtain rfl : _ = rr0 := ho0
    replace h0 : sA gY = some r := h0
    exact aG (aS (aS (bP (aF (⟨rfl, _, .eq (by kernel_rfl), hO, h0⟩)))))
  refine aP ?_
  refine aW aD 5 ?_
  obtain ⟨c8, h0⟩ := aR h0
  refine mH [0 ≤ (0 : Int) ∧ (0 : Int) < (lN f0)] ⟨c8, trivial⟩ ?_
  refine bU [] [(19, (aE (decide (((gD f0 (0 : Int)).At) = (-1 : Int)))))] ?_
  refine bF h0 (fun h0 => ?_) (fun h0 => ?_)
  · refine aW aD 5 ?_
    obtain ⟨c10, h0⟩ := aR h0
    refine mH [0 ≤ (0 : Int) ∧ (0 : Int) < (lN f0)] ⟨c10, trivial⟩ ?_
    exact aG (aF (⟨rfl, _, _, .eq (by kernel_rfl), hO, h0⟩))
  refine bG ?_
  exact aG (aF (⟨rfl, _, _, .eq (by kernel_rfl), hO, h0⟩))

theorem JG (f0 : (List aM)) (r : Bool) (h0 : qV f0 = some r) : dH Try.prog 58 [(eL aX f0)] (aE r) := by
  intro H0
  refine dF Try.func58 ?_
  have hO := aL.start H0
  unfold qV at h0
  refine aT aD 1 [] [] ?_
  refine aP ?_
  refine aW aD 8 ?_
  refine bV 1 ?_
  obtain ⟨x1, hx2, h0⟩ := aZ h0
  refine dL (CN f0 _ hx2) hO ?_
  intro H hO
  refine bV 4 ?_
  obtain ⟨x4, hx5, h0⟩ := aZ h0
  refine nK [(5, true)] 59 [(eL aX f0)] (eI x4) x1 (by kernel_rfl) (by kernel_rfl) (by kernel_rfl) (fun hb6 => (OK f0 _ (iV hx5 hb6))) hO ?_
  intro H hO
  refine bD ?_
  refine bE [(2, (aE (x1 && (decide ((0 : Int) ≤ x4)))))] ?_
  refine bI ?_
  obtain rfl := oI h0
  exact aG (Q_r hO)

theorem NH (l0 : (List aI)) (r : Bool) (h0 : tC l0 = some r) : dH Try.prog 32 [(eL aH l0)] (aE r) := by
  intro H0
  refine dF Try.func32 ?_
  have hO := aL.start H0
  unfold tC at h0
  refine aT aD 1 [] [] ?_
  refine aP ?_
  refine aW aD 3 ?_
  refine bV 1 ?_
  obtain ⟨x1, hx2, h0⟩ := aZ h0
  refine dL (FX l0 58 [] [] (fun y0 => qV y0) (fun y0 r h => JG y0 r h) _ hx2) hO ?_
  intro H hO
  refine bD ?_
  refine bE [(2, (aE x1))] ?_
  refine bI ?_
  obtain rfl := oI h0
  exact aG (Q_r hO)

theorem zJ (l0 : (List aI)) (n1 : Int) (r : Int) (h0 : oE l0 n1 = some r) : dH Try.prog 46 [(eL aH l0), (eI n1)] (eI r) := by
  intro H0
  refine dF Try.func46 ?_
  have hO := aL.start H0
  unfold oE at h0
  refine aT aD 1 [] [] ?_
  refine aP ?_
  refine bZ 0 ?_
  refine aP ?_
  refine aW aD 12 ?_
  refine bV 1 ?_
  obtain ⟨x1, hx2, h0⟩ := aZ h0
  refine dL (SI l0 _ hx2) hO ?_
  intro H hO
  refine bD ?_
  refine bU [1] [(5, (aE (((!x1) || (decide (n1 < (1 : Int)))) || (decide ((64 : Int) < n1)))))] ?_
  refine bF h0 (fun h0 => ?_) (fun h0 => ?_)
  · refine bT aD 1 [(4, (eI (2 : Int)))] ?_
    refine bI ?_
    obtain rfl := oI h0
    exact aG (bK (aQ (Q_r hO)))
  refine aP ?_
  refine aW aD 4 ?_
  refine bV 1 ?_
  obtain ⟨x5, hx6, h0⟩ := aZ h0
  refine dL (NH l0 _ hx6) hO ?_
  intro H hO
  refine bD ?_
  refine bE [(17, (aE (!x5)))] ?_
  refine bF h0 (fun h0 => ?_) (fun h0 => ?_)
  · refine bT aD 1 [(4, (eI (20 : Int)))] ?_
    refine bI ?_
    obtain rfl := oI h0
    exact aG (bK (aQ (Q_r hO)))
  refine bG ?_
  refine fZ [] ?_
  refine aG (aY (aF (?_)))
  refine bT aD 1 [(4, (eI (0 : Int)))] ?_
  refine bI ?_
  obtain rfl := oI h0
  exact aG (Q_r hO)

theorem BH (l0 : (List aI)) (r : (List aI)) (h0 : nV l0 = some r) : dH Try.prog 68 [(eL aH l0)] (.fn (.func 94) [] [(.rp (eL aH r))]) := by
  intro H0
  refine dF Try.func68 ?_
  have hO := aL.start H0
  unfold nV at h0
  refine aP ?_
  refine aW aD 2 ?_
  refine qF 1 (eL aH l0) (by kernel_rfl) (by kernel_rfl) ?_
  refine bD ?_
  refine bE [(1, (.rp (eL aH l0)))] ?_
  refine bT aD 2 [(2, (.fn (.func 94) [] [(.rp (eL aH l0))]))] ?_
  refine bI ?_
  obtain rfl := oI h0
  exact aG (lE (x := (.fn (.func 94) [] [(.rp (eL aH l0))])) (by kernel_rfl) (aN.refl _) ⟨rfl, hO.out⟩)

theorem xM {σ : Type} (I : σ → Gs → Prop) (yield0_b : Nat) (gU : σ → aI → Option (σ × Bool)) (yield0_h : ∀ st a0 st2 r, gU st a0 = some (st2, r) → FA Try.prog (yv yield0_b) I st [(aH a0)] st2 (aE r)) (t1 : (List aI)) (sg0 : σ) (r : σ) (h0 : lT gU t1 sg0 = some r) : yJ Try.prog 94 I sg0 [(yv yield0_b), (.rp (eL aH t1))] r (.tup []) := by
  intro H0 G0 hI hg
  refine dF Try.func94 ?_
  obtain ⟨G, hO, hI⟩ : ∃ G, aL ⟨H0, List.map (fun p : Nat × dV => p.1) G0, G⟩ H0 [] ∧ I sg0 G := ⟨G0, aL.IT hg, hI⟩
  clear hg
  unfold lT at h0
  refine aT aD 3 [1] [(5, (eL aH t1)), (6, (eI (lN t1))), (7, (eI (0 : Int)))] ?_
  refine bZ 0 ?_
  refine eZ [(0, (yv yield0_b)), (5, (eL aH t1)), (6, (eI (lN t1))), (7, (eI (0 : Int)))] ?_
  refine dO (fun T H => ∃ sg : σ, ∃ t5 : (List aI), ∃ t6 : Int, ∃ t7 : Int, ∃ G : Gs, Has T [(0, (yv yield0_b)), (5, (eL aH t5)), (6, (eI t6)), (7, (eI t7))] ∧ aL ⟨H0, List.map (fun p : Nat × dV => p.1) G0, G⟩ H [] ∧ I sg G ∧ oT gU sg t5 t6 t7 = some r) ?_ ⟨sg0, t1, (lN t1), (0 : Int), G, .eq (by kernel_rfl), hO, hI, h0⟩
  clear hO hI h0
  rintro T H ⟨sg, t5, t6, t7, G, hT, hO, hI, h0⟩
  refine bC hT ?_
  clear hT
  unfold oT at h0
  obtain ⟨rr0, hl0, h0⟩ := aZ h0
  refine cP (by kernel_rfl) (fun (s : σ × Int) T H => ∃ G : Gs, Has T [(0, (yv yield0_b)), (5, (eL aH t5)), (6, (eI t6)), (7, (eI s.2))] ∧ aL ⟨H0, List.map (fun p : Nat × dV => p.1) G0, G⟩ H [] ∧ I s.1 G) hl0 ⟨G, .eq (by kernel_rfl), hO, hI⟩ ?_
  clear hO hI
  rintro k0 s out1 T H ⟨G, hT, hO, hI⟩ h1 ho0
  obtain ⟨sg, t7⟩ := s
  replace h1 : jW gU t5 t6 sg t7 = some out1 := h1
  try dsimp only at hT
  refine bC hT ?_
  clear hT
  unfold jW at h1
  refine aT aD 1 [] [(8, (aE (decide (t7 < t6))))] ?_
  refine aP ?_
  refine bF h1 (fun h1 => ?_) (fun h1 => ?_)
  · refine bG ?_
    refine bE [(0, (yv yield0_b)), (5, (eL aH t5)), (6, (eI t6)), (7, (eI t7))] ?_
    refine aP ?_
    refine bZ 1 ?_
    refine aP ?_
    refine aW aD 4 ?_
    obtain ⟨c2, h1⟩ := aR h1
    refine nR 2 [0 ≤ t7 ∧ t7 < (lN t5)] ⟨c2, trivial⟩ ?_
    refine vI 3 (.agg [(.sl true 0 (fun _ => .bad)), (eI 0), (eI 0)]) (aH (aI.mk ([]) 0 0)) (by kernel_rfl) (by kernel_rfl) (by kernel_rfl) (yZ (xs := [(.sl true 0 (fun _ => .bad)), (eI 0), (eI 0)]) (ys := [(eL aC ([])), (eI 0), (eI 0)]) ⟨kY, aN.refl _, aN.refl _, trivial⟩) (by kernel_rfl) (by kernel_rfl) hO ?_
    intro lo3 H hO
    refine pT 0 lo3 3 0 (aH (aI.mk ([]) 0 0)) (aH (gD t5 t7)) [(aH (aI.mk ([]) 0 0))] [(lo3, 3, [(aH (gD t5 t7))])] hO rfl (by kernel_rfl) ?_
    intro H hO
    refine hY ?_
    refine bU [] [(4, (.lp lo3 0 0))] ?_
    refine aP ?_
    refine aW aD 14 ?_
    refine bV 1 ?_
    refine pQ 0 lo3 3 0 (aH (gD t5 t7)) (eI ((gD t5 t7).Net)) [(aH (gD t5 t7))] hO rfl ?_
    refine bV 5 ?_
    refine sG [(14, true)] 0 lo3 3 0 (aH (gD t5 t7)) (eI ((gD t5 t7).At)) [(aH (gD t5 t7))] (by kernel_rfl) (by kernel_rfl) hO (by kernel_rfl) (decide ((0 : Int) < ((gD t5 t7).Net))) (by kernel_rfl) (fun hb4 => rfl) ?_
    refine bV 10 ?_
    refine sG [(19, true)] 0 lo3 3 0 (aH (gD t5 t7)) (aH (gD t5 t7)) [(aH (gD t5 t7))] (by kernel_rfl) (by kernel_rfl) hO (by kernel_rfl) ((decide ((0 : Int) < ((gD t5 t7).Net))) && (decide ((-1 : Int) < ((gD t5 t7).At)))) (by kernel_rfl) (fun hb5 => rfl) ?_
    obtain ⟨⟨x8, x9⟩, hx7, h1⟩ := aZ h1
    replace hx7 := ZC hx7
    refine YH (I := I) [(19, true)] ((decide ((0 : Int) < ((gD t5 t7).Net))) && (decide ((-1 : Int) < ((gD t5 t7).At)))) (yv yield0_b) [(aH (gD t5 t7))] (aE x9) ⟨fun hb => yield0_h _ (gD t5 t7) x8 x9 (hx7.1 hb), hx7.2⟩ hO hI ?_
    intro G H hO hI
    refine bD ?_
    replace hO := hO.pick (L' := []) [] (by decide) (by kernel_rfl)
    refine bU [4] [(24, (aE (((decide ((0 : Int) < ((gD t5 t7).Net))) && (decide ((-1 : Int) < ((gD t5 t7).At)))) && (!x9))))] ?_
    refine bF h1 (fun h1 => ?_) (fun h1 => ?_)
    · refine bI ?_
      obtain rfl := oI h1
      obtain rfl : _ = rr0 := ho0
      replace h0 : some x8 = some r := h0
      obtain rfl := oI h0
      exact aG (bK (aQ (aQ (bK (lE (x := (.tup [])) (by kernel_rfl) (aN.refl _) ⟨rfl, G, hI, hO.GL⟩)))))
    refine bG ?_
    refine fZ [(0, (yv yield0_b)), (5, (eL aH t5)), (6, (eI t6)), (7, (eI t7))] ?_
    refine aG (aY (aF (?_)))
    refine aW aD 2 ?_
    refine bD ?_
    exact aG (aF (⟨rfl, _, (oI h1).symm, _, .eq (by kernel_rfl), hO, hI⟩))
  refine eP 0 ?_
  obtain rfl := oI h1
  obtain rfl : _ = rr0 := ho0
  replace h0 : some sg = some r := h0
  obtain rfl := oI h0
  exact aG (aS (aS (bP (yL (x := (.tup [])) (by kernel_rfl) (aN.refl _) ⟨rfl, G, hI, hO.GL⟩))))

theorem FB (x0 : Int) (r : Int) (h0 : nP x0 = some r) : dH Try.prog 88 [(cX .u64 x0)] (eI r) := by
  intro H0
  refine dF Try.func88 ?_
  have hO := aL.start H0
  unfold nP at h0
  refine aT aD 1 [] [(2, (eI (0 : Int)))] ?_
  refine dU (fun T H => ∃ x0 : Int, ∃ n2 : Int, Has T [(0, (cX .u64 x0)), (2, (eI n2))] ∧ aL ⟨H0, [], []⟩ H [] ∧ kL x0 n2 = some r) ?_ ?_
  · clear hO h0
    rintro T H ⟨x0, n2, hT, hO, h0⟩
    refine bC hT ?_
    clear hT
    unfold kL at h0
    refine dU (fun T H => ∃ x0 : Int, ∃ n2 : Int, Has T [(0, (cX .u64 x0)), (2, (eI n2))] ∧ aL ⟨H0, [], []⟩ H [] ∧ kN x0 n2 = some r) ?_ ?_
    · clear hO h0
      rintro T H ⟨x0, n2, hT, hO, h0⟩
      refine bC hT ?_
      clear hT
      unfold kN at h0
      refine dU (fun T H => ∃ x0 : Int, ∃ n2 : Int, Has T [(0, (cX .u64 x0)), (2, (eI n2))] ∧ aL ⟨H0, [], []⟩ H [] ∧ lW x0 n2 = some r) ?_ ?_
      · clear hO h0
        rintro T H ⟨x0, n2, hT, hO, h0⟩
        refine bC hT ?_
        clear hT
        unfold lW at h0
        refine aP ?_
        refine aW aD 7 ?_
        obtain ⟨c1, h0⟩ := aR h0
        refine mH [0 ≤ (IntKind.u8.wrap x0) ∧ (IntKind.u8.wrap x0) < ((ByteArray.size (⟨#[0, 1, 2, 2, 3, 3, 3, 3, 4, 4, 4, 4, 4, 4, 4, 4, 5, 5, 5, 5, 5, 5, 5, 5, 5, 5, 5, 5, 5, 5, 5, 5, 6, 6, 6, 6, 6, 6, 6, 6, 6, 6, 6, 6, 6, 6, 6, 6, 6, 6, 6, 6, 6, 6, 6, 6, 6, 6, 6, 6, 6, 6, 6, 6, 7, 7, 7, 7, 7, 7, 7, 7, 7, 7, 7, 7, 7, 7, 7, 7, 7, 7, 7, 7, 7, 7, 7, 7, 7, 7, 7, 7, 7, 7, 7, 7, 7, 7, 7, 7, 7, 7, 7, 7, 7, 7, 7, 7, 7, 7, 7, 7, 7, 7, 7, 7, 7, 7, 7, 7, 7, 7, 7, 7, 7, 7, 7, 7, 8, 8, 8, 8, 8, 8, 8, 8, 8, 8, 8, 8, 8, 8, 8, 8, 8, 8, 8, 8, 8, 8, 8, 8, 8, 8, 8, 8, 8, 8, 8, 8, 8, 8, 8, 8, 8, 8, 8, 8, 8, 8, 8, 8, 8, 8, 8, 8, 8, 8, 8, 8, 8, 8, 8, 8, 8, 8, 8, 8, 8, 8, 8, 8, 8, 8, 8, 8, 8, 8, 8, 8, 8, 8, 8, 8, 8, 8, 8, 8, 8, 8, 8, 8, 8, 8, 8, 8, 8, 8, 8, 8, 8, 8, 8, 8, 8, 8, 8, 8, 8, 8, 8, 8, 8, 8, 8, 8, 8, 8, 8, 8, 8, 8, 8, 8, 8, 8, 8, 8, 8, 8, 8, 8, 8, 8, 8, 8]⟩ : ByteArray) : Nat) : Int)] ⟨c1, trivial⟩ ?_
        refine bE [(2, (eI (wR (n2 + (wR (bt (⟨#[0, 1, 2, 2, 3, 3, 3, 3, 4, 4, 4, 4, 4, 4, 4, 4, 5, 5, 5, 5, 5, 5, 5, 5, 5, 5, 5, 5, 5, 5, 5, 5, 6, 6, 6, 6, 6, 6, 6, 6, 6, 6, 6, 6, 6, 6, 6, 6, 6, 6, 6, 6, 6, 6, 6, 6, 6, 6, 6, 6, 6, 6, 6, 6, 7, 7, 7, 7, 7, 7, 7, 7, 7, 7, 7, 7, 7, 7, 7, 7, 7, 7, 7, 7, 7, 7, 7, 7, 7, 7, 7, 7, 7, 7, 7, 7, 7, 7, 7, 7, 7, 7, 7, 7, 7, 7, 7, 7, 7, 7, 7, 7, 7, 7, 7, 7, 7, 7, 7, 7, 7, 7, 7, 7, 7, 7, 7, 7, 8, 8, 8, 8, 8, 8, 8, 8, 8, 8, 8, 8, 8, 8, 8, 8, 8, 8, 8, 8, 8, 8, 8, 8, 8, 8, 8, 8, 8, 8, 8, 8, 8, 8, 8, 8, 8, 8, 8, 8, 8, 8, 8, 8, 8, 8, 8, 8, 8, 8, 8, 8, 8, 8, 8, 8, 8, 8, 8, 8, 8, 8, 8, 8, 8, 8, 8, 8, 8, 8, 8, 8, 8, 8, 8, 8, 8, 8, 8, 8, 8, 8, 8, 8, 8, 8, 8, 8, 8, 8, 8, 8, 8, 8, 8, 8, 8, 8, 8, 8, 8, 8, 8, 8, 8, 8, 8, 8, 8, 8, 8, 8, 8, 8, 8, 8, 8, 8, 8, 8, 8, 8, 8, 8, 8, 8, 8, 8]⟩ : ByteArray) (IntKind.u8.wrap x0)))))))] ?_
        refine bI ?_
        obtain rfl := oI h0
        exact aG (Q_r hO)
      refine aT aD 2 [] [(14, (aE (decide ((256 : Int) ≤ x0))))] ?_
      refine bF h0 (fun h0 => ?_) (fun h0 => ?_)
      · refine aP ?_
        refine aW aD 3 ?_
        obtain ⟨c3, h0⟩ := aR h0
        refine mH [0 ≤ (8 : Int)] ⟨c3, trivial⟩ ?_
        refine bE [(0, (cX .u64 (Int.fdiv x0 (2 ^ (min (Int.toNat (8 : Int)) 64))))), (2, (eI n2))] ?_
        refine aW aD 3 ?_
        refine bD ?_
        exact aG (aF (⟨rfl, _, _, .eq (by kernel_rfl), hO, h0⟩))
      refine bG ?_
      exact aG (aF (⟨rfl, _, _, .eq (by kernel_rfl), hO, h0⟩))
    refine aT aD 2 [] [(8, (aE (decide ((65536 : Int) ≤ x0))))] ?_
    refine bF h0 (fun h0 => ?_) (fun h0 => ?_)
    · refine aP ?_
      refine aW aD 3 ?_
      obtain ⟨c5, h0⟩ := aR h0
      refine mH [0 ≤ (16 : Int)] ⟨c5, trivial⟩ ?_
      refine bE [(0, (cX .u64 (Int.fdiv x0 (2 ^ (min (Int.toNat (16 : Int)) 64))))), (2, (eI n2))] ?_
      refine aW aD 3 ?_
      refine bD ?_
      exact aG (aF (⟨rfl, _, _, .eq (by kernel_rfl), hO, h0⟩))
    refine bG ?_
    exact aG (aF (⟨rfl, _, _, .eq (by kernel_rfl), hO, h0⟩))
  refine aT aD 2 [] [(4, (aE (decide ((4294967296 : Int) ≤ x0))))] ?_
  refine bF h0 (fun h0 => ?_) (fun h0 => ?_)
  · refine aP ?_
    refine aW aD 3 ?_
    obtain ⟨c7, h0⟩ := aR h0
    refine mH [0 ≤ (32 : Int)] ⟨c7, trivial⟩ ?_
    refine bE [(0, (cX .u64 (Int.fdiv x0 (2 ^ (min (Int.toNat (32 : Int)) 64)))))] ?_
    refine aW aD 1 ?_
    refine bD ?_
    exact aG (aF (⟨rfl, _, _, .eq (by kernel_rfl), hO, h0⟩))
  refine bG ?_
  exact aG (aF (⟨rfl, _, _, .eq (by kernel_rfl), hO, h0⟩))

theorem zW (x0 : Int) (r : Int) (h0 : jX x0 = some r) : dH Try.prog 61 [(cX .u64 x0)] (eI r) := by
  intro H0
  refine dF Try.func61 ?_
  have hO := aL.start H0
  unfold jX at h0
  refine aT aD 1 [] [] ?_
  refine aP ?_
  refine nN (false) (fun hc1 => ?_) (fun hc1 => ?_)
  · cases hc1
  · refine bG ?_
    refine aG (aF ?_)
    refine aP ?_
    refine aW aD 3 ?_
    refine bV 1 ?_
    obtain ⟨x2, hx3, h0⟩ := aZ h0
    refine dL (FB x0 _ hx3) hO ?_
    intro H hO
    refine bD ?_
    refine bE [(2, (eI x2))] ?_
    refine bI ?_
    obtain rfl := oI h0
    exact aG (Q_r hO)

theorem fF (x0 : Int) (y1 : Int) (r : Bool) (h0 : cW x0 y1 = some r) : dH Try.prog 70 [(eI x0), (eI y1)] (aE r) := by
  intro H0
  refine dF Try.func70 ?_
  have hO := aL.start H0
  unfold cW at h0
  refine aT aD 1 [] [] ?_
  refine aP ?_
  refine aW aD 13 ?_
  refine bV 1 ?_
  obtain ⟨x1, hx2, h0⟩ := aZ h0
  refine dL (sQ x0 _ hx2) hO ?_
  intro H hO
  refine bV 4 ?_
  obtain ⟨x4, hx5, h0⟩ := aZ h0
  refine nK [(7, true)] 95 [(eI y1)] (aE x4) x1 (by kernel_rfl) (by kernel_rfl) (by kernel_rfl) (fun hb6 => (sQ y1 _ (iV hx5 hb6))) hO ?_
  intro H hO
  refine bD ?_
  refine bE [(4, (aE ((x1 && (!x4)) || (decide (x0 < y1)))))] ?_
  refine bI ?_
  obtain rfl := oI h0
  exact aG (Q_r hO)

theorem uO (lo0p : Nat) (aA : (List Int)) (a1 : Int) (b2 : Int) (r : List Int) (h0 : gL aA a1 b2 = some r) : nC Try.prog 79 lo0p 1 (List.map (eI) aA) (List.map (eI) r) [(.msl 1 lo0p 0 (List.length aA)), (eI a1), (eI b2)] (.tup []) := by
  intro H0 hl0
  refine dF Try.func79 ?_
  have hO := aL.rR hl0
  clear hl0
  obtain ⟨N0, hN0⟩ : ∃ n, n = List.length aA := ⟨_, rfl⟩
  have hN : List.length aA = N0 := hN0.symm
  unfold gL at h0
  refine aT aD 3 [] [(6, (eI (wR (a1 + (1 : Int)))))] ?_
  refine bZ 0 ?_
  refine eZ [(0, (.msl 1 lo0p 0 (List.length aA))), (1, (eI a1)), (2, (eI b2)), (6, (eI (wR (a1 + (1 : Int)))))] ?_
  refine dO (fun T H => ∃ aA : List Int, ∃ i6 : Int, Has T [(0, (.msl 1 lo0p 0 (List.length aA))), (1, (eI a1)), (2, (eI b2)), (6, (eI i6))] ∧ aL ⟨H0, [lo0p], []⟩ H [(lo0p, 1, List.map (eI) aA)] ∧ List.length aA = N0 ∧ iY aA a1 b2 i6 = some r) ?_ ⟨aA, wR (a1 + (1 : Int)), .eq (by kernel_rfl), hO, hN, h0⟩
  clear hO hN h0
  rintro T H ⟨aA, i6, hT, hO, hN, h0⟩
  refine bC hT ?_
  clear hT
  unfold iY at h0
  obtain ⟨rr0, hl0, h0⟩ := aZ h0
  refine cP (by kernel_rfl) (fun (s : List Int × Int) T H => Has T [(0, (.msl 1 lo0p 0 (List.length s.1))), (1, (eI a1)), (2, (eI b2)), (6, (eI s.2))] ∧ aL ⟨H0, [lo0p], []⟩ H [(lo0p, 1, List.map (eI) s.1)] ∧ List.length s.1 = N0) hl0 ⟨.eq (by kernel_rfl), hO, hN⟩ ?_
  clear hO hN
  rintro k0 s out1 T H ⟨hT, hO, hN⟩ h1 ho0
  obtain ⟨aA, i6⟩ := s
  replace h1 : dJ a1 b2 aA i6 = some out1 := h1
  try dsimp only at hT
  refine bC hT ?_
  clear hT
  unfold dJ at h1
  refine aP ?_
  refine aT aD 3 [] [(12, (aE (decide (i6 < b2))))] ?_
  refine bF h1 (fun h1 => ?_) (fun h1 => ?_)
  · refine bG ?_
    refine bE [(0, (.msl 1 lo0p 0 (List.length aA))), (1, (eI a1)), (2, (eI b2)), (6, (eI i6))] ?_
    refine dU (fun T H => ∃ aA : List Int, Has T [(0, (.msl 1 lo0p 0 (List.length aA))), (1, (eI a1)), (2, (eI b2)), (6, (eI i6))] ∧ aL ⟨H0, [lo0p], []⟩ H [(lo0p, 1, List.map (eI) aA)] ∧ List.length aA = N0 ∧ gC aA a1 b2 i6 = some out1) ?_ ?_
    · clear hO hN h1
      rintro T H ⟨aA, hT, hO, hN, h1⟩
      refine bC hT ?_
      clear hT
      unfold gC at h1
      refine aW aD 3 ?_
      refine bD ?_
      exact aG (aF (⟨rfl, _, (oI h1).symm, .eq (by kernel_rfl), hO, hN⟩))
    refine bZ 1 ?_
    refine aT aD 2 [] [(7, (eI i6))] ?_
    refine bZ 2 ?_
    refine eZ [(0, (.msl 1 lo0p 0 (List.length aA))), (1, (eI a1)), (2, (eI b2)), (6, (eI i6)), (7, (eI i6))] ?_
    refine dO (fun T H => ∃ aA : List Int, ∃ j7 : Int, Has T [(0, (.msl 1 lo0p 0 (List.length aA))), (1, (eI a1)), (2, (eI b2)), (6, (eI i6)), (7, (eI j7))] ∧ aL ⟨H0, [lo0p], []⟩ H [(lo0p, 1, List.map (eI) aA)] ∧ List.length aA = N0 ∧ iZ aA a1 b2 i6 j7 = some out1) ?_ ⟨aA, i6, .eq (by kernel_rfl), hO, hN, h1⟩
    clear hO hN h1
    rintro T H ⟨aA, j7, hT, hO, hN, h1⟩
    refine bC hT ?_
    clear hT
    unfold iZ at h1
    obtain ⟨rr1, hl1, h1⟩ := aZ h1
    refine cP (by kernel_rfl) (fun (s : List Int × Int) T H => Has T [(0, (.msl 1 lo0p 0 (List.length s.1))), (1, (eI a1)), (2, (eI b2)), (6, (eI i6)), (7, (eI s.2))] ∧ aL ⟨H0, [lo0p], []⟩ H [(lo0p, 1, List.map (eI) s.1)] ∧ List.length s.1 = N0) hl1 ⟨.eq (by kernel_rfl), hO, hN⟩ ?_
    clear hO hN
    rintro k1 s out2 T H ⟨hT, hO, hN⟩ h2 ho1
    obtain ⟨aA, j7⟩ := s
    replace h2 : eW a1 b2 i6 aA j7 = some out2 := h2
    try dsimp only at hT
    refine bC hT ?_
    clear hT
    unfold eW at h2
    refine aP ?_
    refine aP ?_
    obtain ⟨c2, h2⟩ := aR h2
    obtain ⟨c3, h2⟩ := aR h2
    obtain ⟨x4, hx5, h2⟩ := aZ h2
    refine eC (eE []) aD 15 ?_
    refine lR (K := fun T H => Has (lift T) [(0, (.msl 1 lo0p 0 (List.length aA))), (1, (eI a1)), (2, (eI b2)), (6, (eI i6)), (7, (eI j7)), (30, (aE ((decide (a1 < j7)) && x4)))] ∧ aL ⟨H0, [lo0p], []⟩ H [(lo0p, 1, List.map (eI) aA)]) ?_ ?_
    · refine kR 4 ?_
      refine jR (t := 19) (e := decide (a1 < j7)) (by kernel_rfl) (fun hg6 => ?_) (fun hg6 => ?_)
      · refine cB 7 [0 ≤ j7 ∧ j7 < (lN aA)] ⟨(c2 hg6), trivial⟩ ?_
        refine iB 0 lo0p 1 (0 + Int.toNat j7) (eI (gD aA j7)) (eI (gD aA j7)) (List.map (eI) aA) (by kernel_rfl) (by kernel_rfl) (by kernel_rfl) hO (by kernel_rfl) (bY (c2 hg6)) ?_
        refine cB 12 [0 ≤ (wR (j7 - (1 : Int))) ∧ (wR (j7 - (1 : Int))) < (lN aA)] ⟨(c3 hg6), trivial⟩ ?_
        refine iB 0 lo0p 1 (0 + Int.toNat (wR (j7 - (1 : Int)))) (eI (gD aA (wR (j7 - (1 : Int))))) (eI (gD aA (wR (j7 - (1 : Int))))) (List.map (eI) aA) (by kernel_rfl) (by kernel_rfl) (by kernel_rfl) hO (by kernel_rfl) (bY (c3 hg6)) ?_
        refine lS 70 [(eI (gD aA j7)), (eI (gD aA (wR (j7 - (1 : Int)))))] (aE x4) (by kernel_rfl) (by kernel_rfl) (fF (gD aA j7) (gD aA (wR (j7 - (1 : Int)))) _ (iV hx5 hg6)) hO ?_
        intro H hO
        refine gG ?_
        exact ⟨⟨[(0, (.msl 1 lo0p 0 (List.length aA))), (1, (eI a1)), (2, (eI b2)), (6, (eI i6)), (7, (eI j7)), (30, (aE x4))], by kernel_rfl, rfl, ⟨aN.refl _, aN.refl _, aN.refl _, aN.refl _, aN.refl _, aN.eq (congrArg aE (fV hg6 rfl).symm), trivial⟩⟩, hO⟩
      refine gG ?_
      exact ⟨⟨[(0, (.msl 1 lo0p 0 (List.length aA))), (1, (eI a1)), (2, (eI b2)), (6, (eI i6)), (7, (eI j7)), (30, (aE false))], by kernel_rfl, rfl, ⟨aN.refl _, aN.refl _, aN.refl _, aN.refl _, aN.refl _, aN.eq (congrArg aE (fV hg6 rfl).symm), trivial⟩⟩, hO⟩
    · rintro T H ⟨hT, hO⟩
      refine dA hT ?_
      clear hT
      refine aG (aF ?_)
      refine bF h2 (fun h2 => ?_) (fun h2 => ?_)
      · refine bG ?_
        refine bE [(0, (.msl 1 lo0p 0 (List.length aA))), (1, (eI a1)), (2, (eI b2)), (6, (eI i6)), (7, (eI j7))] ?_
        refine aP ?_
        refine bZ 3 ?_
        refine eC (eE []) aD 18 ?_
        obtain ⟨c8, h2⟩ := aR h2
        refine cB 9 [0 ≤ (wR (j7 - (1 : Int))) ∧ (wR (j7 - (1 : Int))) < (lN aA)] ⟨c8, trivial⟩ ?_
        refine fL 0 lo0p 1 (0 + Int.toNat (wR (j7 - (1 : Int)))) (eI (gD aA (wR (j7 - (1 : Int))))) (eI (gD aA (wR (j7 - (1 : Int))))) (List.map (eI) aA) hO (bY c8) ?_
        obtain ⟨c9, h2⟩ := aR h2
        refine cB 13 [0 ≤ j7 ∧ j7 < (lN aA)] ⟨c9, trivial⟩ ?_
        refine fL 0 lo0p 1 (0 + Int.toNat j7) (eI (gD aA j7)) (eI (gD aA j7)) (List.map (eI) aA) hO (bY c9) ?_
        obtain ⟨c10, h2⟩ := aR h2
        refine cB 15 [0 ≤ j7 ∧ j7 < (lN aA)] ⟨c10, trivial⟩ ?_
        refine jN 0 lo0p 1 (0 + Int.toNat j7) (eI (gD aA j7)) (eI (gD aA (wR (j7 - (1 : Int))))) (List.map (eI) aA) [(lo0p, 1, List.map (eI) (List.set aA (Int.toNat j7) (gD aA (wR (j7 - (1 : Int))))))] hO (bY c10) (by simp only [List.set, gK]) ?_
        intro H hO
        replace hN : List.length (List.set aA (Int.toNat j7) (gD aA (wR (j7 - (1 : Int))))) = N0 := by simpa using hN
        obtain ⟨c11, h2⟩ := aR h2
        refine cB 17 [0 ≤ (wR (j7 - (1 : Int))) ∧ (wR (j7 - (1 : Int))) < (lN aA)] ⟨c11, trivial⟩ ?_
        refine jN 0 lo0p 1 (0 + Int.toNat (wR (j7 - (1 : Int)))) (eI (gD (List.set aA (Int.toNat j7) (gD aA (wR (j7 - (1 : Int))))) (wR (j7 - (1 : Int))))) (eI (gD aA j7)) (List.map (eI) (List.set aA (Int.toNat j7) (gD aA (wR (j7 - (1 : Int)))))) [(lo0p, 1, List.map (eI) (List.set (List.set aA (Int.toNat j7) (gD aA (wR (j7 - (1 : Int))))) (Int.toNat (wR (j7 - (1 : Int)))) (gD aA j7)))] hO (mV c11 (by simp [])) (by simp only [List.set, gK]) ?_
        intro H hO
        replace hN : List.length (List.set (List.set aA (Int.toNat j7) (gD aA (wR (j7 - (1 : Int))))) (Int.toNat (wR (j7 - (1 : Int)))) (gD aA j7)) = N0 := by simpa using hN
        refine lZ (by kernel_rfl) ?_
        refine dA (l := [(0, (.msl 1 lo0p 0 (List.length (List.set (List.set aA (Int.toNat j7) (gD aA (wR (j7 - (1 : Int))))) (Int.toNat (wR (j7 - (1 : Int)))) (gD aA j7))))), (1, (eI a1)), (2, (eI b2)), (6, (eI i6)), (7, (eI j7))]) ⟨[(0, (.msl 1 lo0p 0 (List.length aA))), (1, (eI a1)), (2, (eI b2)), (6, (eI i6)), (7, (eI j7))], by kernel_rfl, rfl, ⟨aN.eq (by simp []), aN.refl _, aN.refl _, aN.refl _, aN.refl _, trivial⟩⟩ ?_
        refine aG (aY (aF (?_)))
        refine aW aD 3 ?_
        refine bD ?_
        exact aG (aF (⟨rfl, _, (oI h2).symm, .eq (by kernel_rfl), hO, hN⟩))
      refine eP 2 ?_
      obtain rfl := oI h2
      obtain rfl : _ = rr1 := ho1
      replace h1 : gC aA a1 b2 i6 = some out1 := h1
      exact aG (aS (aS (bP (aY (aF (⟨rfl, _, .eq (by kernel_rfl), hO, hN, h1⟩))))))
  refine eP 0 ?_
  obtain rfl := oI h1
  obtain rfl : _ = rr0 := ho0
  replace h0 : some aA = some r := h0
  obtain rfl := oI h0
  exact aG (aS (aS (bP (yL (x := (.tup [])) (by kernel_rfl) (aN.refl _) ⟨rfl, hO.ext, hO.at 0 (by kernel_rfl), by first | rfl | (simp only [List.length_map]; exact hN.trans hN0)⟩))))

theorem qW (lo0p : Nat) (aA : (List Int)) (lo1 : Int) (hi2 : Int) (bM : Int) (r : List Int) (h0 : fG aA lo1 hi2 bM = some r) : nC Try.prog 105 lo0p 1 (List.map (eI) aA) (List.map (eI) r) [(.msl 1 lo0p 0 (List.length aA)), (eI lo1), (eI hi2), (eI bM)] (.tup []) := by
  intro H0 hl0
  refine dF Try.func105 ?_
  have hO := aL.rR hl0
  clear hl0
  obtain ⟨N0, hN0⟩ : ∃ n, n = List.length aA := ⟨_, rfl⟩
  have hN : List.length aA = N0 := hN0.symm
  unfold fG at h0
  refine aT aD 2 [1] [(8, (eI lo1))] ?_
  refine bZ 0 ?_
  refine eZ [(0, (.msl 1 lo0p 0 (List.length aA))), (2, (eI hi2)), (3, (eI bM)), (8, (eI lo1))] ?_
  refine dO (fun T H => ∃ aA : List Int, ∃ cF : Int, Has T [(0, (.msl 1 lo0p 0 (List.length aA))), (2, (eI hi2)), (3, (eI bM)), (8, (eI cF))] ∧ aL ⟨H0, [lo0p], []⟩ H [(lo0p, 1, List.map (eI) aA)] ∧ List.length aA = N0 ∧ kJ aA hi2 bM cF = some r) ?_ ⟨aA, lo1, .eq (by kernel_rfl), hO, hN, h0⟩
  clear hO hN h0
  rintro T H ⟨aA, cF, hT, hO, hN, h0⟩
  refine bC hT ?_
  clear hT
  unfold kJ at h0
  obtain ⟨rr0, hl0, h0⟩ := aZ h0
  refine cP (by kernel_rfl) (fun (s : List Int × Int) T H => Has T [(0, (.msl 1 lo0p 0 (List.length s.1))), (2, (eI hi2)), (3, (eI bM)), (8, (eI s.2))] ∧ aL ⟨H0, [lo0p], []⟩ H [(lo0p, 1, List.map (eI) s.1)] ∧ List.length s.1 = N0) hl0 ⟨.eq (by kernel_rfl), hO, hN⟩ ?_
  clear hO hN
  rintro k0 s out1 T H ⟨hT, hO, hN⟩ h1 ho0
  obtain ⟨aA, cF⟩ := s
  replace h1 : dG hi2 bM aA cF = some out1 := h1
  try dsimp only at hT
  refine bC hT ?_
  clear hT
  unfold dG at h1
  refine bZ 1 ?_
  refine aT aD 4 [] [(9, (eI (wR ((wR ((2 : Int) * cF)) + (1 : Int)))))] ?_
  refine aP ?_
  refine aT aD 3 [] [(16, (aE (decide (hi2 ≤ (wR ((wR ((2 : Int) * cF)) + (1 : Int)))))))] ?_
  refine bF h1 (fun h1 => ?_) (fun h1 => ?_)
  · refine eP 0 ?_
    obtain rfl := oI h1
    obtain rfl : _ = rr0 := ho0
    replace h0 : some aA = some r := h0
    obtain rfl := oI h0
    exact aG (aS (uP (by kernel_rfl) (aS (bP (yL (x := (.tup [])) (by kernel_rfl) (aN.refl _) ⟨rfl, hO.ext, hO.at 0 (by kernel_rfl), by first | rfl | (simp only [List.length_map]; exact hN.trans hN0)⟩)))))
  refine bG ?_
  refine bE [(0, (.msl 1 lo0p 0 (List.length aA))), (2, (eI hi2)), (3, (eI bM)), (8, (eI cF)), (9, (eI (wR ((wR ((2 : Int) * cF)) + (1 : Int)))))] ?_
  refine dU (fun T H => ∃ aA : List Int, ∃ dZ : Int, Has T [(0, (.msl 1 lo0p 0 (List.length aA))), (2, (eI hi2)), (3, (eI bM)), (8, (eI cF)), (9, (eI dZ))] ∧ aL ⟨H0, [lo0p], []⟩ H [(lo0p, 1, List.map (eI) aA)] ∧ List.length aA = N0 ∧ gE aA hi2 bM cF dZ = some out1) ?_ ?_
  · clear hO hN h1
    rintro T H ⟨aA, dZ, hT, hO, hN, h1⟩
    refine bC hT ?_
    clear hT
    unfold gE at h1
    refine aP ?_
    refine aP ?_
    refine eC (eE [51]) aD 14 ?_
    obtain ⟨c2, h1⟩ := aR h1
    refine cB 5 [0 ≤ (wR (bM + cF)) ∧ (wR (bM + cF)) < (lN aA)] ⟨c2, trivial⟩ ?_
    refine fL 0 lo0p 1 (0 + Int.toNat (wR (bM + cF))) (eI (gD aA (wR (bM + cF)))) (eI (gD aA (wR (bM + cF)))) (List.map (eI) aA) hO (bY c2) ?_
    obtain ⟨c3, h1⟩ := aR h1
    refine cB 11 [0 ≤ (wR (bM + dZ)) ∧ (wR (bM + dZ)) < (lN aA)] ⟨c3, trivial⟩ ?_
    refine fL 0 lo0p 1 (0 + Int.toNat (wR (bM + dZ))) (eI (gD aA (wR (bM + dZ)))) (eI (gD aA (wR (bM + dZ)))) (List.map (eI) aA) hO (bY c3) ?_
    obtain ⟨x4, hx5, h1⟩ := aZ h1
    refine DM (fF (gD aA (wR (bM + cF))) (gD aA (wR (bM + dZ))) _ hx5) hO ?_
    intro H hO
    refine gG ?_
    refine bU [] [(52, (aE (!x4)))] ?_
    refine bF h1 (fun h1 => ?_) (fun h1 => ?_)
    · refine bI ?_
      obtain rfl := oI h1
      obtain rfl : _ = rr0 := ho0
      replace h0 : some aA = some r := h0
      obtain rfl := oI h0
      exact aG (aQ (bK (aQ (bK (lE (x := (.tup [])) (by kernel_rfl) (aN.refl _) ⟨rfl, hO.ext, hO.at 0 (by kernel_rfl), by first | rfl | (simp only [List.length_map]; exact hN.trans hN0)⟩)))))
    refine bG ?_
    refine bE [(0, (.msl 1 lo0p 0 (List.length aA))), (2, (eI hi2)), (3, (eI bM)), (8, (eI cF)), (9, (eI dZ))] ?_
    refine aP ?_
    refine eC (eE []) aD 24 ?_
    obtain ⟨c8, h1⟩ := aR h1
    refine cB 13 [0 ≤ (wR (bM + dZ)) ∧ (wR (bM + dZ)) < (lN aA)] ⟨c8, trivial⟩ ?_
    refine fL 0 lo0p 1 (0 + Int.toNat (wR (bM + dZ))) (eI (gD aA (wR (bM + dZ)))) (eI (gD aA (wR (bM + dZ)))) (List.map (eI) aA) hO (bY c8) ?_
    obtain ⟨c9, h1⟩ := aR h1
    refine cB 19 [0 ≤ (wR (bM + cF)) ∧ (wR (bM + cF)) < (lN aA)] ⟨c9, trivial⟩ ?_
    refine fL 0 lo0p 1 (0 + Int.toNat (wR (bM + cF))) (eI (gD aA (wR (bM + cF)))) (eI (gD aA (wR (bM + cF)))) (List.map (eI) aA) hO (bY c9) ?_
    obtain ⟨c10, h1⟩ := aR h1
    refine cB 21 [0 ≤ (wR (bM + cF)) ∧ (wR (bM + cF)) < (lN aA)] ⟨c10, trivial⟩ ?_
    refine jN 0 lo0p 1 (0 + Int.toNat (wR (bM + cF))) (eI (gD aA (wR (bM + cF)))) (eI (gD aA (wR (bM + dZ)))) (List.map (eI) aA) [(lo0p, 1, List.map (eI) (List.set aA (Int.toNat (wR (bM + cF))) (gD aA (wR (bM + dZ)))))] hO (bY c10) (by simp only [List.set, gK]) ?_
    intro H hO
    replace hN : List.length (List.set aA (Int.toNat (wR (bM + cF))) (gD aA (wR (bM + dZ)))) = N0 := by simpa using hN
    obtain ⟨c11, h1⟩ := aR h1
    refine cB 23 [0 ≤ (wR (bM + dZ)) ∧ (wR (bM + dZ)) < (lN aA)] ⟨c11, trivial⟩ ?_
    refine jN 0 lo0p 1 (0 + Int.toNat (wR (bM + dZ))) (eI (gD (List.set aA (Int.toNat (wR (bM + cF))) (gD aA (wR (bM + dZ)))) (wR (bM + dZ)))) (eI (gD aA (wR (bM + cF)))) (List.map (eI) (List.set aA (Int.toNat (wR (bM + cF))) (gD aA (wR (bM + dZ))))) [(lo0p, 1, List.map (eI) (List.set (List.set aA (Int.toNat (wR (bM + cF))) (gD aA (wR (bM + dZ)))) (Int.toNat (wR (bM + dZ))) (gD aA (wR (bM + cF)))))] hO (mV c11 (by simp [])) (by simp only [List.set, gK]) ?_
    intro H hO
    replace hN : List.length (List.set (List.set aA (Int.toNat (wR (bM + cF))) (gD aA (wR (bM + dZ)))) (Int.toNat (wR (bM + dZ))) (gD aA (wR (bM + cF)))) = N0 := by simpa using hN
    refine lZ (by kernel_rfl) ?_
    refine dA (l := [(0, (.msl 1 lo0p 0 (List.length (List.set (List.set aA (Int.toNat (wR (bM + cF))) (gD aA (wR (bM + dZ)))) (Int.toNat (wR (bM + dZ))) (gD aA (wR (bM + cF))))))), (2, (eI hi2)), (3, (eI bM)), (9, (eI dZ))]) ⟨[(0, (.msl 1 lo0p 0 (List.length aA))), (2, (eI hi2)), (3, (eI bM)), (9, (eI dZ))], by kernel_rfl, rfl, ⟨aN.eq (by simp []), aN.refl _, aN.refl _, aN.refl _, trivial⟩⟩ ?_
    refine aG (aF (?_))
    refine aW aD 2 ?_
    refine bD ?_
    exact aG (aY (aF (⟨rfl, _, (oI h1).symm, .eq (by kernel_rfl), hO, hN⟩)))
  refine aP ?_
  obtain ⟨c12, h1⟩ := aR h1
  obtain ⟨c13, h1⟩ := aR h1
  obtain ⟨x14, hx15, h1⟩ := aZ h1
  refine eC (eE []) aD 20 ?_
  refine lR (K := fun T H => Has (lift T) [(0, (.msl 1 lo0p 0 (List.length aA))), (2, (eI hi2)), (3, (eI bM)), (8, (eI cF)), (9, (eI (wR ((wR ((2 : Int) * cF)) + (1 : Int))))), (36, (aE ((decide ((wR ((wR ((wR ((2 : Int) * cF)) + (1 : Int))) + (1 : Int))) < hi2)) && x14)))] ∧ aL ⟨H0, [lo0p], []⟩ H [(lo0p, 1, List.map (eI) aA)]) ?_ ?_
  · refine kR 5 ?_
    refine jR (t := 21) (e := decide ((wR ((wR ((wR ((2 : Int) * cF)) + (1 : Int))) + (1 : Int))) < hi2)) (by kernel_rfl) (fun hg16 => ?_) (fun hg16 => ?_)
    · refine cB 10 [0 ≤ (wR (bM + (wR ((wR ((2 : Int) * cF)) + (1 : Int))))) ∧ (wR (bM + (wR ((wR ((2 : Int) * cF)) + (1 : Int))))) < (lN aA)] ⟨(c12 hg16), trivial⟩ ?_
      refine iB 0 lo0p 1 (0 + Int.toNat (wR (bM + (wR ((wR ((2 : Int) * cF)) + (1 : Int)))))) (eI (gD aA (wR (bM + (wR ((wR ((2 : Int) * cF)) + (1 : Int))))))) (eI (gD aA (wR (bM + (wR ((wR ((2 : Int) * cF)) + (1 : Int))))))) (List.map (eI) aA) (by kernel_rfl) (by kernel_rfl) (by kernel_rfl) hO (by kernel_rfl) (bY (c12 hg16)) ?_
      refine cB 17 [0 ≤ (wR ((wR (bM + (wR ((wR ((2 : Int) * cF)) + (1 : Int))))) + (1 : Int))) ∧ (wR ((wR (bM + (wR ((wR ((2 : Int) * cF)) + (1 : Int))))) + (1 : Int))) < (lN aA)] ⟨(c13 hg16), trivial⟩ ?_
      refine iB 0 lo0p 1 (0 + Int.toNat (wR ((wR (bM + (wR ((wR ((2 : Int) * cF)) + (1 : Int))))) + (1 : Int)))) (eI (gD aA (wR ((wR (bM + (wR ((wR ((2 : Int) * cF)) + (1 : Int))))) + (1 : Int))))) (eI (gD aA (wR ((wR (bM + (wR ((wR ((2 : Int) * cF)) + (1 : Int))))) + (1 : Int))))) (List.map (eI) aA) (by kernel_rfl) (by kernel_rfl) (by kernel_rfl) hO (by kernel_rfl) (bY (c13 hg16)) ?_
      refine lS 70 [(eI (gD aA (wR (bM + (wR ((wR ((2 : Int) * cF)) + (1 : Int))))))), (eI (gD aA (wR ((wR (bM + (wR ((wR ((2 : Int) * cF)) + (1 : Int))))) + (1 : Int)))))] (aE x14) (by kernel_rfl) (by kernel_rfl) (fF (gD aA (wR (bM + (wR ((wR ((2 : Int) * cF)) + (1 : Int)))))) (gD aA (wR ((wR (bM + (wR ((wR ((2 : Int) * cF)) + (1 : Int))))) + (1 : Int)))) _ (iV hx15 hg16)) hO ?_
      intro H hO
      refine gG ?_
      exact ⟨⟨[(0, (.msl 1 lo0p 0 (List.length aA))), (2, (eI hi2)), (3, (eI bM)), (8, (eI cF)), (9, (eI (wR ((wR ((2 : Int) * cF)) + (1 : Int))))), (36, (aE x14))], by kernel_rfl, rfl, ⟨aN.refl _, aN.refl _, aN.refl _, aN.refl _, aN.refl _, aN.eq (congrArg aE (fV hg16 rfl).symm), trivial⟩⟩, hO⟩
    refine gG ?_
    exact ⟨⟨[(0, (.msl 1 lo0p 0 (List.length aA))), (2, (eI hi2)), (3, (eI bM)), (8, (eI cF)), (9, (eI (wR ((wR ((2 : Int) * cF)) + (1 : Int))))), (36, (aE false))], by kernel_rfl, rfl, ⟨aN.refl _, aN.refl _, aN.refl _, aN.refl _, aN.refl _, aN.eq (congrArg aE (fV hg16 rfl).symm), trivial⟩⟩, hO⟩
  · rintro T H ⟨hT, hO⟩
    refine dA hT ?_
    clear hT
    refine aG (aF ?_)
    refine bF h1 (fun h1 => ?_) (fun h1 => ?_)
    · refine aW aD 3 ?_
      refine bD ?_
      exact aG (aF (⟨rfl, _, _, .eq (by kernel_rfl), hO, hN, h1⟩))
    refine bG ?_
    exact aG (aF (⟨rfl, _, _, .eq (by kernel_rfl), hO, hN, h1⟩))

theorem wQ (lo0p : Nat) (aA : (List Int)) (a1 : Int) (b2 : Int) (r : List Int) (h0 : jF aA a1 b2 = some r) : nC Try.prog 80 lo0p 1 (List.map (eI) aA) (List.map (eI) r) [(.msl 1 lo0p 0 (List.length aA)), (eI a1), (eI b2)] (.tup []) := by
  intro H0 hl0
  refine dF Try.func80 ?_
  have hO := aL.rR hl0
  clear hl0
  obtain ⟨N0, hN0⟩ : ∃ n, n = List.length aA := ⟨_, rfl⟩
  have hN : List.length aA = N0 := hN0.symm
  unfold jF at h0
  refine aT aD 2 [] [(6, (eI a1))] ?_
  refine aT aD 1 [] [(7, (eI (0 : Int)))] ?_
  refine aT aD 4 [1, 2] [(8, (eI (wR (b2 - a1))))] ?_
  refine dU (fun T H => ∃ aA : List Int, ∃ bS : Int, ∃ lo7 : Int, ∃ hi8 : Int, Has T [(0, (.msl 1 lo0p 0 (List.length aA))), (6, (eI bS)), (7, (eI lo7)), (8, (eI hi8))] ∧ aL ⟨H0, [lo0p], []⟩ H [(lo0p, 1, List.map (eI) aA)] ∧ List.length aA = N0 ∧ iW aA bS lo7 hi8 = some r) ?_ ?_
  · clear hO hN h0
    rintro T H ⟨aA, bS, lo7, hi8, hT, hO, hN, h0⟩
    refine bC hT ?_
    clear hT
    unfold iW at h0
    refine aT aD 3 [8] [(10, (eI (wR (hi8 - (1 : Int)))))] ?_
    refine bZ 2 ?_
    refine eZ [(0, (.msl 1 lo0p 0 (List.length aA))), (6, (eI bS)), (7, (eI lo7)), (10, (eI (wR (hi8 - (1 : Int)))))] ?_
    refine dO (fun T H => ∃ aA : List Int, ∃ i10 : Int, Has T [(0, (.msl 1 lo0p 0 (List.length aA))), (6, (eI bS)), (7, (eI lo7)), (10, (eI i10))] ∧ aL ⟨H0, [lo0p], []⟩ H [(lo0p, 1, List.map (eI) aA)] ∧ List.length aA = N0 ∧ kI aA bS lo7 i10 = some r) ?_ ⟨aA, wR (hi8 - (1 : Int)), .eq (by kernel_rfl), hO, hN, h0⟩
    clear hO hN h0
    rintro T H ⟨aA, i10, hT, hO, hN, h0⟩
    refine bC hT ?_
    clear hT
    unfold kI at h0
    obtain ⟨rr0, hl0, h0⟩ := aZ h0
    refine cP (by kernel_rfl) (fun (s : List Int × Int) T H => Has T [(0, (.msl 1 lo0p 0 (List.length s.1))), (6, (eI bS)), (7, (eI lo7)), (10, (eI s.2))] ∧ aL ⟨H0, [lo0p], []⟩ H [(lo0p, 1, List.map (eI) s.1)] ∧ List.length s.1 = N0) hl0 ⟨.eq (by kernel_rfl), hO, hN⟩ ?_
    clear hO hN
    rintro k0 s out1 T H ⟨hT, hO, hN⟩ h1 ho0
    obtain ⟨aA, i10⟩ := s
    replace h1 : eB bS lo7 aA i10 = some out1 := h1
    try dsimp only at hT
    refine bC hT ?_
    clear hT
    unfold eB at h1
    refine aP ?_
    refine aT aD 2 [] [(30, (aE (decide ((0 : Int) ≤ i10))))] ?_
    refine bF h1 (fun h1 => ?_) (fun h1 => ?_)
    · refine bG ?_
      refine bE [(0, (.msl 1 lo0p 0 (List.length aA))), (6, (eI bS)), (7, (eI lo7)), (10, (eI i10))] ?_
      refine aP ?_
      refine bZ 3 ?_
      refine aP ?_
      refine eC (eE []) aD 20 ?_
      obtain ⟨c2, h1⟩ := aR h1
      refine cB 11 [0 ≤ (wR (bS + i10)) ∧ (wR (bS + i10)) < (lN aA)] ⟨c2, trivial⟩ ?_
      refine fL 0 lo0p 1 (0 + Int.toNat (wR (bS + i10))) (eI (gD aA (wR (bS + i10)))) (eI (gD aA (wR (bS + i10)))) (List.map (eI) aA) hO (bY c2) ?_
      obtain ⟨c3, h1⟩ := aR h1
      refine cB 15 [0 ≤ bS ∧ bS < (lN aA)] ⟨c3, trivial⟩ ?_
      refine fL 0 lo0p 1 (0 + Int.toNat bS) (eI (gD aA bS)) (eI (gD aA bS)) (List.map (eI) aA) hO (bY c3) ?_
      obtain ⟨c4, h1⟩ := aR h1
      refine cB 17 [0 ≤ bS ∧ bS < (lN aA)] ⟨c4, trivial⟩ ?_
      refine jN 0 lo0p 1 (0 + Int.toNat bS) (eI (gD aA bS)) (eI (gD aA (wR (bS + i10)))) (List.map (eI) aA) [(lo0p, 1, List.map (eI) (List.set aA (Int.toNat bS) (gD aA (wR (bS + i10)))))] hO (bY c4) (by simp only [List.set, gK]) ?_
      intro H hO
      replace hN : List.length (List.set aA (Int.toNat bS) (gD aA (wR (bS + i10)))) = N0 := by simpa using hN
      obtain ⟨c5, h1⟩ := aR h1
      refine cB 19 [0 ≤ (wR (bS + i10)) ∧ (wR (bS + i10)) < (lN aA)] ⟨c5, trivial⟩ ?_
      refine jN 0 lo0p 1 (0 + Int.toNat (wR (bS + i10))) (eI (gD (List.set aA (Int.toNat bS) (gD aA (wR (bS + i10)))) (wR (bS + i10)))) (eI (gD aA bS)) (List.map (eI) (List.set aA (Int.toNat bS) (gD aA (wR (bS + i10))))) [(lo0p, 1, List.map (eI) (List.set (List.set aA (Int.toNat bS) (gD aA (wR (bS + i10)))) (Int.toNat (wR (bS + i10))) (gD aA bS)))] hO (mV c5 (by simp [])) (by simp only [List.set, gK]) ?_
      intro H hO
      replace hN : List.length (List.set (List.set aA (Int.toNat bS) (gD aA (wR (bS + i10)))) (Int.toNat (wR (bS + i10))) (gD aA bS)) = N0 := by simpa using hN
      refine lZ (by kernel_rfl) ?_
      refine dA (l := [(0, (.msl 1 lo0p 0 (List.length (List.set (List.set aA (Int.toNat bS) (gD aA (wR (bS + i10)))) (Int.toNat (wR (bS + i10))) (gD aA bS))))), (6, (eI bS)), (7, (eI lo7)), (10, (eI i10))]) ⟨[(0, (.msl 1 lo0p 0 (List.length aA))), (6, (eI bS)), (7, (eI lo7)), (10, (eI i10))], by kernel_rfl, rfl, ⟨aN.eq (by simp []), aN.refl _, aN.refl _, aN.refl _, trivial⟩⟩ ?_
      refine aG (aF (?_))
      refine aW aD 5 ?_
      refine bV 4 ?_
      obtain ⟨x6, hx7, h1⟩ := aZ h1
      refine wX [(lo0p, 1, List.map (eI) x6)] 0 (qW lo0p (List.set (List.set aA (Int.toNat bS) (gD aA (wR (bS + i10)))) (Int.toNat (wR (bS + i10))) (gD aA bS)) lo7 i10 bS _ hx7) hO ?_
      intro H hO hl8
      simp only [List.length_map] at hl8
      replace hN := hl8.trans hN
      refine hY ?_
      refine dA (l := [(0, (.msl 1 lo0p 0 (List.length x6))), (6, (eI bS)), (7, (eI lo7)), (10, (eI i10))]) ⟨[(0, (.msl 1 lo0p 0 (List.length (List.set (List.set aA (Int.toNat bS) (gD aA (wR (bS + i10)))) (Int.toNat (wR (bS + i10))) (gD aA bS))))), (6, (eI bS)), (7, (eI lo7)), (10, (eI i10))], by kernel_rfl, rfl, ⟨aN.eq (by simp [hl8]), aN.refl _, aN.refl _, aN.refl _, trivial⟩⟩ ?_
      refine aG (aY (aF (?_)))
      refine aW aD 3 ?_
      refine bD ?_
      exact aG (aF (⟨rfl, _, (oI h1).symm, .eq (by kernel_rfl), hO, hN⟩))
    refine eP 2 ?_
    obtain rfl := oI h1
    obtain rfl : _ = rr0 := ho0
    replace h0 : some aA = some r := h0
    obtain rfl := oI h0
    exact aG (aS (aS (bP (yL (x := (.tup [])) (by kernel_rfl) (aN.refl _) ⟨rfl, hO.ext, hO.at 0 (by kernel_rfl), by first | rfl | (simp only [List.length_map]; exact hN.trans hN0)⟩))))
  refine aP ?_
  refine aW aD 4 ?_
  obtain ⟨c9, h0⟩ := aR h0
  refine mH [(2 : Int) ≠ 0] ⟨c9, trivial⟩ ?_
  refine bU [] [(9, (eI (wR (Int.tdiv (wR ((wR (b2 - a1)) - (1 : Int))) (2 : Int)))))] ?_
  refine bZ 0 ?_
  refine eZ [(0, (.msl 1 lo0p 0 (List.length aA))), (6, (eI a1)), (7, (eI (0 : Int))), (8, (eI (wR (b2 - a1)))), (9, (eI (wR (Int.tdiv (wR ((wR (b2 - a1)) - (1 : Int))) (2 : Int)))))] ?_
  refine dO (fun T H => ∃ aA : List Int, ∃ bS : Int, ∃ lo7 : Int, ∃ hi8 : Int, ∃ i9 : Int, Has T [(0, (.msl 1 lo0p 0 (List.length aA))), (6, (eI bS)), (7, (eI lo7)), (8, (eI hi8)), (9, (eI i9))] ∧ aL ⟨H0, [lo0p], []⟩ H [(lo0p, 1, List.map (eI) aA)] ∧ List.length aA = N0 ∧ kK aA bS lo7 hi8 i9 = some r) ?_ ⟨aA, a1, (0 : Int), wR (b2 - a1), wR (Int.tdiv (wR ((wR (b2 - a1)) - (1 : Int))) (2 : Int)), .eq (by kernel_rfl), hO, hN, h0⟩
  clear hO hN h0
  rintro T H ⟨aA, bS, lo7, hi8, i9, hT, hO, hN, h0⟩
  refine bC hT ?_
  clear hT
  unfold kK at h0
  obtain ⟨rr0, hl0, h0⟩ := aZ h0
  refine cP (by kernel_rfl) (fun (s : List Int × Int) T H => Has T [(0, (.msl 1 lo0p 0 (List.length s.1))), (6, (eI bS)), (7, (eI lo7)), (8, (eI hi8)), (9, (eI s.2))] ∧ aL ⟨H0, [lo0p], []⟩ H [(lo0p, 1, List.map (eI) s.1)] ∧ List.length s.1 = N0) hl0 ⟨.eq (by kernel_rfl), hO, hN⟩ ?_
  clear hO hN
  rintro k0 s out1 T H ⟨hT, hO, hN⟩ h1 ho0
  obtain ⟨aA, i9⟩ := s
  replace h1 : eA bS lo7 hi8 aA i9 = some out1 := h1
  try dsimp only at hT
  refine bC hT ?_
  clear hT
  unfold eA at h1
  refine aP ?_
  refine aT aD 2 [] [(19, (aE (decide ((0 : Int) ≤ i9))))] ?_
  refine bF h1 (fun h1 => ?_) (fun h1 => ?_)
  · refine bG ?_
    refine bE [(0, (.msl 1 lo0p 0 (List.length aA))), (6, (eI bS)), (7, (eI lo7)), (8, (eI hi8)), (9, (eI i9))] ?_
    refine aP ?_
    refine bZ 1 ?_
    refine aW aD 5 ?_
    refine bV 4 ?_
    obtain ⟨x11, hx12, h1⟩ := aZ h1
    refine wX [(lo0p, 1, List.map (eI) x11)] 0 (qW lo0p aA i9 hi8 bS _ hx12) hO ?_
    intro H hO hl13
    simp only [List.length_map] at hl13
    replace hN := hl13.trans hN
    refine hY ?_
    refine dA (l := [(0, (.msl 1 lo0p 0 (List.length x11))), (6, (eI bS)), (7, (eI lo7)), (8, (eI hi8)), (9, (eI i9))]) ⟨[(0, (.msl 1 lo0p 0 (List.length aA))), (6, (eI bS)), (7, (eI lo7)), (8, (eI hi8)), (9, (eI i9))], by kernel_rfl, rfl, ⟨aN.eq (by simp [hl13]), aN.refl _, aN.refl _, aN.refl _, aN.refl _, trivial⟩⟩ ?_
    refine aG (aY (aF (?_)))
    refine aW aD 3 ?_
    refine bD ?_
    exact aG (aF (⟨rfl, _, (oI h1).symm, .eq (by kernel_rfl), hO, hN⟩))
  refine eP 0 ?_
  obtain rfl := oI h1
  obtain rfl : _ = rr0 := ho0
  replace h0 : iW aA bS lo7 hi8 = some r := h0
  exact aG (aS (aS (bP (aF (⟨rfl, _, _, _, _, .eq (by kernel_rfl), hO, hN, h0⟩)))))

theorem zP (BF : Int) (r : Int) (h0 : kS BF = some r) : dH Try.prog 106 [(eI BF)] (cX .u64 r) := by
  intro H0
  refine dF Try.func106 ?_
  have hO := aL.start H0
  unfold kS at h0
  refine aT aD 1 [] [] ?_
  refine aP ?_
  refine aW aD 5 ?_
  refine bV 2 ?_
  obtain ⟨x1, hx2, h0⟩ := aZ h0
  refine dL (zW (IntKind.u64.wrap BF) _ hx2) hO ?_
  intro H hO
  obtain ⟨c4, h0⟩ := aR h0
  refine mH [0 ≤ x1] ⟨c4, trivial⟩ ?_
  refine bE [(2, (cX .u64 (IntKind.u64.wrap ((1 : Int) * 2 ^ (min (Int.toNat x1) 64)))))] ?_
  refine bI ?_
  obtain rfl := oI h0
  exact aG (Q_r hO)

theorem AM (lo0p : Nat) (r0 : Int) (r : (Int × Int)) (h0 : kZ r0 = some r) : yD Try.prog 107 [(.lp lo0p 0 0)] [(lo0p, 1, [(cX .u64 r0)])] (fun x L => x = (cX .u64 r.1) ∧ L = [(lo0p, 1, [(cX .u64 r.2)])]) := by
  intro F H0 hO
  obtain ⟨Fh, Fe, Fg⟩ := F
  refine dF Try.func107 ?_
  unfold kZ at h0
  refine aT aD 1 [] [] ?_
  refine aP ?_
  refine eC (eE []) aD 10 ?_
  refine kR 2 ?_
  refine fL 0 lo0p 1 0 (cX .u64 r0) (cX .u64 r0) [(cX .u64 r0)] hO rfl ?_
  refine kR 5 ?_
  refine fL 0 lo0p 1 0 (cX .u64 r0) (cX .u64 r0) [(cX .u64 r0)] hO rfl ?_
  obtain ⟨c1, h0⟩ := aR h0
  refine cB 9 [0 ≤ (13 : Int)] ⟨c1, trivial⟩ ?_
  refine jN 0 lo0p 1 0 (cX .u64 r0) (cX .u64 (bR .xor .u64 r0 (IntKind.u64.wrap (r0 * 2 ^ (min (Int.toNat (13 : Int)) 64))))) [(cX .u64 r0)] [(lo0p, 1, [(cX .u64 (bR .xor .u64 r0 (IntKind.u64.wrap (r0 * 2 ^ (min (Int.toNat (13 : Int)) 64)))))])] hO rfl (by kernel_rfl) ?_
  intro H hO
  refine lZ (by kernel_rfl) ?_
  refine bU [] [] ?_
  refine aP ?_
  refine eC (eE []) aD 10 ?_
  refine kR 2 ?_
  refine fL 0 lo0p 1 0 (cX .u64 (bR .xor .u64 r0 (IntKind.u64.wrap (r0 * 2 ^ (min (Int.toNat (13 : Int)) 64))))) (cX .u64 (bR .xor .u64 r0 (IntKind.u64.wrap (r0 * 2 ^ (min (Int.toNat (13 : Int)) 64))))) [(cX .u64 (bR .xor .u64 r0 (IntKind.u64.wrap (r0 * 2 ^ (min (Int.toNat (13 : Int)) 64)))))] hO rfl ?_
  refine kR 5 ?_
  refine fL 0 lo0p 1 0 (cX .u64 (bR .xor .u64 r0 (IntKind.u64.wrap (r0 * 2 ^ (min (Int.toNat (13 : Int)) 64))))) (cX .u64 (bR .xor .u64 r0 (IntKind.u64.wrap (r0 * 2 ^ (min (Int.toNat (13 : Int)) 64))))) [(cX .u64 (bR .xor .u64 r0 (IntKind.u64.wrap (r0 * 2 ^ (min (Int.toNat (13 : Int)) 64)))))] hO rfl ?_
  obtain ⟨c2, h0⟩ := aR h0
  refine cB 9 [0 ≤ (7 : Int)] ⟨c2, trivial⟩ ?_
  refine jN 0 lo0p 1 0 (cX .u64 (bR .xor .u64 r0 (IntKind.u64.wrap (r0 * 2 ^ (min (Int.toNat (13 : Int)) 64))))) (cX .u64 (bR .xor .u64 (bR .xor .u64 r0 (IntKind.u64.wrap (r0 * 2 ^ (min (Int.toNat (13 : Int)) 64)))) (Int.fdiv (bR .xor .u64 r0 (IntKind.u64.wrap (r0 * 2 ^ (min (Int.toNat (13 : Int)) 64)))) (2 ^ (min (Int.toNat (7 : Int)) 64))))) [(cX .u64 (bR .xor .u64 r0 (IntKind.u64.wrap (r0 * 2 ^ (min (Int.toNat (13 : Int)) 64)))))] [(lo0p, 1, [(cX .u64 (bR .xor .u64 (bR .xor .u64 r0 (IntKind.u64.wrap (r0 * 2 ^ (min (Int.toNat (13 : Int)) 64)))) (Int.fdiv (bR .xor .u64 r0 (IntKind.u64.wrap (r0 * 2 ^ (min (Int.toNat (13 : Int)) 64)))) (2 ^ (min (Int.toNat (7 : Int)) 64)))))])] hO rfl (by kernel_rfl) ?_
  intro H hO
  refine lZ (by kernel_rfl) ?_
  refine bU [] [] ?_
  refine aP ?_
  refine eC (eE []) aD 10 ?_
  refine kR 2 ?_
  refine fL 0 lo0p 1 0 (cX .u64 (bR .xor .u64 (bR .xor .u64 r0 (IntKind.u64.wrap (r0 * 2 ^ (min (Int.toNat (13 : Int)) 64)))) (Int.fdiv (bR .xor .u64 r0 (IntKind.u64.wrap (r0 * 2 ^ (min (Int.toNat (13 : Int)) 64)))) (2 ^ (min (Int.toNat (7 : Int)) 64))))) (cX .u64 (bR .xor .u64 (bR .xor .u64 r0 (IntKind.u64.wrap (r0 * 2 ^ (min (Int.toNat (13 : Int)) 64)))) (Int.fdiv (bR .xor .u64 r0 (IntKind.u64.wrap (r0 * 2 ^ (min (Int.toNat (13 : Int)) 64)))) (2 ^ (min (Int.toNat (7 : Int)) 64))))) [(cX .u64 (bR .xor .u64 (bR .xor .u64 r0 (IntKind.u64.wrap (r0 * 2 ^ (min (Int.toNat (13 : Int)) 64)))) (Int.fdiv (bR .xor .u64 r0 (IntKind.u64.wrap (r0 * 2 ^ (min (Int.toNat (13 : Int)) 64)))) (2 ^ (min (Int.toNat (7 : Int)) 64)))))] hO rfl ?_
  refine kR 5 ?_
  refine fL 0 lo0p 1 0 (cX .u64 (bR .xor .u64 (bR .xor .u64 r0 (IntKind.u64.wrap (r0 * 2 ^ (min (Int.toNat (13 : Int)) 64)))) (Int.fdiv (bR .xor .u64 r0 (IntKind.u64.wrap (r0 * 2 ^ (min (Int.toNat (13 : Int)) 64)))) (2 ^ (min (Int.toNat (7 : Int)) 64))))) (cX .u64 (bR .xor .u64 (bR .xor .u64 r0 (IntKind.u64.wrap (r0 * 2 ^ (min (Int.toNat (13 : Int)) 64)))) (Int.fdiv (bR .xor .u64 r0 (IntKind.u64.wrap (r0 * 2 ^ (min (Int.toNat (13 : Int)) 64)))) (2 ^ (min (Int.toNat (7 : Int)) 64))))) [(cX .u64 (bR .xor .u64 (bR .xor .u64 r0 (IntKind.u64.wrap (r0 * 2 ^ (min (Int.toNat (13 : Int)) 64)))) (Int.fdiv (bR .xor .u64 r0 (IntKind.u64.wrap (r0 * 2 ^ (min (Int.toNat (13 : Int)) 64)))) (2 ^ (min (Int.toNat (7 : Int)) 64)))))] hO rfl ?_
  obtain ⟨c3, h0⟩ := aR h0
  refine cB 9 [0 ≤ (17 : Int)] ⟨c3, trivial⟩ ?_
  refine jN 0 lo0p 1 0 (cX .u64 (bR .xor .u64 (bR .xor .u64 r0 (IntKind.u64.wrap (r0 * 2 ^ (min (Int.toNat (13 : Int)) 64)))) (Int.fdiv (bR .xor .u64 r0 (IntKind.u64.wrap (r0 * 2 ^ (min (Int.toNat (13 : Int)) 64)))) (2 ^ (min (Int.toNat (7 : Int)) 64))))) (cX .u64 (bR .xor .u64 (bR .xor .u64 (bR .xor .u64 r0 (IntKind.u64.wrap (r0 * 2 ^ (min (Int.toNat (13 : Int)) 64)))) (Int.fdiv (bR .xor .u64 r0 (IntKind.u64.wrap (r0 * 2 ^ (min (Int.toNat (13 : Int)) 64)))) (2 ^ (min (Int.toNat (7 : Int)) 64)))) (IntKind.u64.wrap ((bR .xor .u64 (bR .xor .u64 r0 (IntKind.u64.wrap (r0 * 2 ^ (min (Int.toNat (13 : Int)) 64)))) (Int.fdiv (bR .xor .u64 r0 (IntKind.u64.wrap (r0 * 2 ^ (min (Int.toNat (13 : Int)) 64)))) (2 ^ (min (Int.toNat (7 : Int)) 64)))) * 2 ^ (min (Int.toNat (17 : Int)) 64))))) [(cX .u64 (bR .xor .u64 (bR .xor .u64 r0 (IntKind.u64.wrap (r0 * 2 ^ (min (Int.toNat (13 : Int)) 64)))) (Int.fdiv (bR .xor .u64 r0 (IntKind.u64.wrap (r0 * 2 ^ (min (Int.toNat (13 : Int)) 64)))) (2 ^ (min (Int.toNat (7 : Int)) 64)))))] [(lo0p, 1, [(cX .u64 (bR .xor .u64 (bR .xor .u64 (bR .xor .u64 r0 (IntKind.u64.wrap (r0 * 2 ^ (min (Int.toNat (13 : Int)) 64)))) (Int.fdiv (bR .xor .u64 r0 (IntKind.u64.wrap (r0 * 2 ^ (min (Int.toNat (13 : Int)) 64)))) (2 ^ (min (Int.toNat (7 : Int)) 64)))) (IntKind.u64.wrap ((bR .xor .u64 (bR .xor .u64 r0 (IntKind.u64.wrap (r0 * 2 ^ (min (Int.toNat (13 : Int)) 64)))) (Int.fdiv (bR .xor .u64 r0 (IntKind.u64.wrap (r0 * 2 ^ (min (Int.toNat (13 : Int)) 64)))) (2 ^ (min (Int.toNat (7 : Int)) 64)))) * 2 ^ (min (Int.toNat (17 : Int)) 64)))))])] hO rfl (by kernel_rfl) ?_
  intro H hO
  refine lZ (by kernel_rfl) ?_
  refine bU [] [] ?_
  refine aP ?_
  refine aW aD 4 ?_
  refine bV 2 ?_
  refine pQ 0 lo0p 1 0 (cX .u64 (bR .xor .u64 (bR .xor .u64 (bR .xor .u64 r0 (IntKind.u64.wrap (r0 * 2 ^ (min (Int.toNat (13 : Int)) 64)))) (Int.fdiv (bR .xor .u64 r0 (IntKind.u64.wrap (r0 * 2 ^ (min (Int.toNat (13 : Int)) 64)))) (2 ^ (min (Int.toNat (7 : Int)) 64)))) (IntKind.u64.wrap ((bR .xor .u64 (bR .xor .u64 r0 (IntKind.u64.wrap (r0 * 2 ^ (min (Int.toNat (13 : Int)) 64)))) (Int.fdiv (bR .xor .u64 r0 (IntKind.u64.wrap (r0 * 2 ^ (min (Int.toNat (13 : Int)) 64)))) (2 ^ (min (Int.toNat (7 : Int)) 64)))) * 2 ^ (min (Int.toNat (17 : Int)) 64))))) (cX .u64 (bR .xor .u64 (bR .xor .u64 (bR .xor .u64 r0 (IntKind.u64.wrap (r0 * 2 ^ (min (Int.toNat (13 : Int)) 64)))) (Int.fdiv (bR .xor .u64 r0 (IntKind.u64.wrap (r0 * 2 ^ (min (Int.toNat (13 : Int)) 64)))) (2 ^ (min (Int.toNat (7 : Int)) 64)))) (IntKind.u64.wrap ((bR .xor .u64 (bR .xor .u64 r0 (IntKind.u64.wrap (r0 * 2 ^ (min (Int.toNat (13 : Int)) 64)))) (Int.fdiv (bR .xor .u64 r0 (IntKind.u64.wrap (r0 * 2 ^ (min (Int.toNat (13 : Int)) 64)))) (2 ^ (min (Int.toNat (7 : Int)) 64)))) * 2 ^ (min (Int.toNat (17 : Int)) 64))))) [(cX .u64 (bR .xor .u64 (bR .xor .u64 (bR .xor .u64 r0 (IntKind.u64.wrap (r0 * 2 ^ (min (Int.toNat (13 : Int)) 64)))) (Int.fdiv (bR .xor .u64 r0 (IntKind.u64.wrap (r0 * 2 ^ (min (Int.toNat (13 : Int)) 64)))) (2 ^ (min (Int.toNat (7 : Int)) 64)))) (IntKind.u64.wrap ((bR .xor .u64 (bR .xor .u64 r0 (IntKind.u64.wrap (r0 * 2 ^ (min (Int.toNat (13 : Int)) 64)))) (Int.fdiv (bR .xor .u64 r0 (IntKind.u64.wrap (r0 * 2 ^ (min (Int.toNat (13 : Int)) 64)))) (2 ^ (min (Int.toNat (7 : Int)) 64)))) * 2 ^ (min (Int.toNat (17 : Int)) 64)))))] hO rfl ?_
  refine bD ?_
  refine bE [(0, (.lp lo0p 0 0)), (2, (cX .u64 (bR .xor .u64 (bR .xor .u64 (bR .xor .u64 r0 (IntKind.u64.wrap (r0 * 2 ^ (min (Int.toNat (13 : Int)) 64)))) (Int.fdiv (bR .xor .u64 r0 (IntKind.u64.wrap (r0 * 2 ^ (min (Int.toNat (13 : Int)) 64)))) (2 ^ (min (Int.toNat (7 : Int)) 64)))) (IntKind.u64.wrap ((bR .xor .u64 (bR .xor .u64 r0 (IntKind.u64.wrap (r0 * 2 ^ (min (Int.toNat (13 : Int)) 64)))) (Int.fdiv (bR .xor .u64 r0 (IntKind.u64.wrap (r0 * 2 ^ (min (Int.toNat (13 : Int)) 64)))) (2 ^ (min (Int.toNat (7 : Int)) 64)))) * 2 ^ (min (Int.toNat (17 : Int)) 64))))))] ?_
  refine bI ?_
  obtain rfl := oI h0
  exact aG (EI hO ⟨rfl, rfl⟩)

theorem uQ (lo0p : Nat) (aA : (List Int)) (a1 : Int) (b2 : Int) (r : List Int) (h0 : gJ aA a1 b2 = some r) : nC Try.prog 81 lo0p 1 (List.map (eI) aA) (List.map (eI) r) [(.msl 1 lo0p 0 (List.length aA)), (eI a1), (eI b2)] (.tup []) := by
  intro H0 hl0
  refine dF Try.func81 ?_
  have hO := aL.rR hl0
  clear hl0
  obtain ⟨N0, hN0⟩ : ∃ n, n = List.length aA := ⟨_, rfl⟩
  have hN : List.length aA = N0 := hN0.symm
  unfold gJ at h0
  refine aT aD 4 [2] [(6, (eI (wR (b2 - a1))))] ?_
  refine aT aD 2 [] [(15, (aE (decide ((8 : Int) ≤ (wR (b2 - a1))))))] ?_
  refine bF h0 (fun h0 => ?_) (fun h0 => ?_)
  · refine aP ?_
    refine aW aD 4 ?_
    refine bV 2 ?_
    refine vM 1 (cX .u64 0) (by kernel_rfl) (by kernel_rfl) hO ?_
    intro lo2 H hO
    refine pT 1 lo2 1 0 (cX .u64 0) (cX .u64 (IntKind.u64.wrap (wR (b2 - a1)))) [(cX .u64 0)] [(lo0p, 1, List.map (eI) aA), (lo2, 1, [(cX .u64 (IntKind.u64.wrap (wR (b2 - a1))))])] hO rfl (by kernel_rfl) ?_
    intro H hO
    refine hY ?_
    refine bU [15] [(7, (.lp lo2 0 0))] ?_
    refine aP ?_
    refine aW aD 3 ?_
    refine bV 1 ?_
    obtain ⟨x3, hx4, h0⟩ := aZ h0
    refine dL (zP (wR (b2 - a1)) _ hx4) hO ?_
    intro H hO
    refine bD ?_
    refine bU [] [(8, (cX .u64 x3))] ?_
    refine aP ?_
    refine aW aD 7 ?_
    obtain ⟨c6, h0⟩ := aR h0
    refine mH [(4 : Int) ≠ 0] ⟨c6, trivial⟩ ?_
    refine bE [(0, (.msl 1 lo0p 0 (List.length aA))), (1, (eI a1)), (6, (eI (wR (b2 - a1)))), (7, (.lp lo2 0 0)), (8, (cX .u64 x3)), (9, (eI (wR ((wR (a1 + (wR ((wR (Int.tdiv (wR (b2 - a1)) (4 : Int))) * (2 : Int))))) - (1 : Int)))))] ?_
    refine bZ 0 ?_
    refine eZ [(0, (.msl 1 lo0p 0 (List.length aA))), (1, (eI a1)), (6, (eI (wR (b2 - a1)))), (7, (.lp lo2 0 0)), (8, (cX .u64 x3)), (9, (eI (wR ((wR (a1 + (wR ((wR (Int.tdiv (wR (b2 - a1)) (4 : Int))) * (2 : Int))))) - (1 : Int)))))] ?_
    refine dO (fun T H => ∃ aA : List Int, ∃ jQ : Int, ∃ kW : Int, ∃ iN : Int, ∃ idx9 : Int, Has T [(0, (.msl 1 lo0p 0 (List.length aA))), (1, (eI a1)), (6, (eI jQ)), (7, (.lp lo2 0 0)), (8, (cX .u64 iN)), (9, (eI idx9))] ∧ aL ⟨H0, [lo0p], []⟩ H [(lo0p, 1, List.map (eI) aA), (lo2, 1, [(cX .u64 kW)])] ∧ List.length aA = N0 ∧ jB aA a1 jQ kW iN idx9 = some r) ?_ ⟨aA, wR (b2 - a1), IntKind.u64.wrap (wR (b2 - a1)), x3, wR ((wR (a1 + (wR ((wR (Int.tdiv (wR (b2 - a1)) (4 : Int))) * (2 : Int))))) - (1 : Int)), .eq (by kernel_rfl), hO, hN, h0⟩
    clear hO hN h0
    rintro T H ⟨aA, jQ, kW, iN, idx9, hT, hO, hN, h0⟩
    refine bC hT ?_
    clear hT
    unfold jB at h0
    obtain ⟨rr0, hl0, h0⟩ := aZ h0
    refine cP (by kernel_rfl) (fun (s : List Int × Int × Int) T H => Has T [(0, (.msl 1 lo0p 0 (List.length s.1))), (1, (eI a1)), (6, (eI jQ)), (7, (.lp lo2 0 0)), (8, (cX .u64 iN)), (9, (eI s.2.2))] ∧ aL ⟨H0, [lo0p], []⟩ H [(lo0p, 1, List.map (eI) s.1), (lo2, 1, [(cX .u64 s.2.1)])] ∧ List.length s.1 = N0) hl0 ⟨.eq (by kernel_rfl), hO, hN⟩ ?_
    clear hO hN
    rintro k0 s out1 T H ⟨hT, hO, hN⟩ h1 ho0
    obtain ⟨aA, kW, idx9⟩ := s
    replace h1 : cZ a1 jQ iN aA kW idx9 = some out1 := h1
    try dsimp only at hT
    refine bC hT ?_
    clear hT
    unfold cZ at h1
    refine aP ?_
    refine aP ?_
    refine aW aD 8 ?_
    obtain ⟨c7, h1⟩ := aR h1
    refine mH [(4 : Int) ≠ 0] ⟨c7, trivial⟩ ?_
    refine bU [] [(33, (aE (decide (idx9 ≤ (wR ((wR (a1 + (wR ((wR (Int.tdiv jQ (4 : Int))) * (2 : Int))))) + (1 : Int)))))))] ?_
    refine bF h1 (fun h1 => ?_) (fun h1 => ?_)
    · refine bG ?_
      refine bE [(0, (.msl 1 lo0p 0 (List.length aA))), (1, (eI a1)), (6, (eI jQ)), (7, (.lp lo2 0 0)), (8, (cX .u64 iN)), (9, (eI idx9))] ?_
      refine aP ?_
      refine bZ 1 ?_
      refine aP ?_
      refine aW aD 6 ?_
      obtain ⟨x9, hx10, h1⟩ := aZ h1
      refine AP [(lo0p, 1, List.map (eI) aA)] [1, 0] (AM lo2 kW _ hx10) hO ?_
      intro r11 L12 H hP13 hO
      obtain ⟨rfl, rfl⟩ := hP13
      replace hO : aL ⟨H0, [lo0p], []⟩ H [(lo2, 1, [(cX .u64 x9.2)]), (lo0p, 1, List.map (eI) aA)] := hO
      refine bD ?_
      replace hO := hO.pick (L' := [(lo0p, 1, List.map (eI) aA), (lo2, 1, [(cX .u64 x9.2)])]) [1, 0] (by decide) (by kernel_rfl)
      refine bU [] [(10, (eI (wR (bR .and .u64 x9.1 (IntKind.u64.wrap (iN - (1 : Int)))))))] ?_
      refine dU (fun T H => ∃ aA : List Int, ∃ kW : Int, ∃ fM : Int, Has T [(0, (.msl 1 lo0p 0 (List.length aA))), (1, (eI a1)), (6, (eI jQ)), (7, (.lp lo2 0 0)), (8, (cX .u64 iN)), (9, (eI idx9)), (10, (eI fM))] ∧ aL ⟨H0, [lo0p], []⟩ H [(lo0p, 1, List.map (eI) aA), (lo2, 1, [(cX .u64 kW)])] ∧ List.length aA = N0 ∧ eV aA a1 jQ kW iN idx9 fM = some out1) ?_ ?_
      · clear hO hN h1
        rintro T H ⟨aA, kW, fM, hT, hO, hN, h1⟩
        refine bC hT ?_
        clear hT
        unfold eV at h1
        refine eC (eE []) aD 20 ?_
        obtain ⟨c14, h1⟩ := aR h1
        refine cB 11 [0 ≤ (wR (a1 + fM)) ∧ (wR (a1 + fM)) < (lN aA)] ⟨c14, trivial⟩ ?_
        refine fL 0 lo0p 1 (0 + Int.toNat (wR (a1 + fM))) (eI (gD aA (wR (a1 + fM)))) (eI (gD aA (wR (a1 + fM)))) (List.map (eI) aA) hO (bY c14) ?_
        obtain ⟨c15, h1⟩ := aR h1
        refine cB 15 [0 ≤ idx9 ∧ idx9 < (lN aA)] ⟨c15, trivial⟩ ?_
        refine fL 0 lo0p 1 (0 + Int.toNat idx9) (eI (gD aA idx9)) (eI (gD aA idx9)) (List.map (eI) aA) hO (bY c15) ?_
        obtain ⟨c16, h1⟩ := aR h1
        refine cB 17 [0 ≤ idx9 ∧ idx9 < (lN aA)] ⟨c16, trivial⟩ ?_
        refine jN 0 lo0p 1 (0 + Int.toNat idx9) (eI (gD aA idx9)) (eI (gD aA (wR (a1 + fM)))) (List.map (eI) aA) [(lo0p, 1, List.map (eI) (List.set aA (Int.toNat idx9) (gD aA (wR (a1 + fM))))), (lo2, 1, [(cX .u64 kW)])] hO (bY c16) (by simp only [List.set, gK]) ?_
        intro H hO
        replace hN : List.length (List.set aA (Int.toNat idx9) (gD aA (wR (a1 + fM)))) = N0 := by simpa using hN
        obtain ⟨c17, h1⟩ := aR h1
        refine cB 19 [0 ≤ (wR (a1 + fM)) ∧ (wR (a1 + fM)) < (lN aA)] ⟨c17, trivial⟩ ?_
        refine jN 0 lo0p 1 (0 + Int.toNat (wR (a1 + fM))) (eI (gD (List.set aA (Int.toNat idx9) (gD aA (wR (a1 + fM)))) (wR (a1 + fM)))) (eI (gD aA idx9)) (List.map (eI) (List.set aA (Int.toNat idx9) (gD aA (wR (a1 + fM))))) [(lo0p, 1, List.map (eI) (List.set (List.set aA (Int.toNat idx9) (gD aA (wR (a1 + fM)))) (Int.toNat (wR (a1 + fM))) (gD aA idx9))), (lo2, 1, [(cX .u64 kW)])] hO (mV c17 (by simp [])) (by simp only [List.set, gK]) ?_
        intro H hO
        replace hN : List.length (List.set (List.set aA (Int.toNat idx9) (gD aA (wR (a1 + fM)))) (Int.toNat (wR (a1 + fM))) (gD aA idx9)) = N0 := by simpa using hN
        refine lZ (by kernel_rfl) ?_
        refine dA (l := [(0, (.msl 1 lo0p 0 (List.length (List.set (List.set aA (Int.toNat idx9) (gD aA (wR (a1 + fM)))) (Int.toNat (wR (a1 + fM))) (gD aA idx9))))), (1, (eI a1)), (6, (eI jQ)), (7, (.lp lo2 0 0)), (8, (cX .u64 iN)), (9, (eI idx9))]) ⟨[(0, (.msl 1 lo0p 0 (List.length aA))), (1, (eI a1)), (6, (eI jQ)), (7, (.lp lo2 0 0)), (8, (cX .u64 iN)), (9, (eI idx9))], by kernel_rfl, rfl, ⟨aN.eq (by simp []), aN.refl _, aN.refl _, aN.refl _, aN.refl _, aN.refl _, trivial⟩⟩ ?_
        refine aG (aY (aF (?_)))
        refine aW aD 3 ?_
        refine bD ?_
        exact aG (aF (⟨rfl, _, (oI h1).symm, .eq (by kernel_rfl), hO, hN⟩))
      refine aT aD 3 [] [(43, (aE (decide (jQ ≤ (wR (bR .and .u64 x9.1 (IntKind.u64.wrap (iN - (1 : Int)))))))))] ?_
      refine bF h1 (fun h1 => ?_) (fun h1 => ?_)
      · refine aW aD 4 ?_
        refine bD ?_
        exact aG (aF (⟨rfl, _, _, _, .eq (by kernel_rfl), hO, hN, h1⟩))
      refine bG ?_
      exact aG (aF (⟨rfl, _, _, _, .eq (by kernel_rfl), hO, hN, h1⟩))
    refine eP 0 ?_
    replace hO := hO.pick (L' := [(lo0p, 1, List.map (eI) aA)]) [0] (by decide) (by kernel_rfl)
    obtain rfl := oI h1
    obtain rfl : _ = rr0 := ho0
    replace h0 : some aA = some r := h0
    obtain rfl := oI h0
    exact aG (aS (aS (bP (yL (x := (.tup [])) (by kernel_rfl) (aN.refl _) ⟨rfl, hO.ext, hO.at 0 (by kernel_rfl), by first | rfl | (simp only [List.length_map]; exact hN.trans hN0)⟩))))
  refine bG ?_
  obtain rfl := oI h0
  exact aG (yL (x := (.tup [])) (by kernel_rfl) (aN.refl _) ⟨rfl, hO.ext, hO.at 0 (by kernel_rfl), by first | rfl | (simp only [List.length_map]; exact hN.trans hN0)⟩)

theorem nM (lo0p : Nat) (aA : (List Int)) (a1 : Int) (b2 : Int) (lo3p : Nat) (rP : Int) (r : ((Int × Int) × Int)) (h0 : fT aA a1 b2 rP = some r) : yD Try.prog 113 [(.msl 1 lo0p 0 (List.length aA)), (eI a1), (eI b2), (.lp lo3p 0 0)] [(lo0p, 1, List.map (eI) aA), (lo3p, 1, [(eI rP)])] (fun x L => x = (.tup [(eI r.1.1), (eI r.1.2)]) ∧ L = [(lo0p, 1, List.map (eI) aA), (lo3p, 1, [(eI r.2)])]) := by
  intro F H0 hO
  obtain ⟨Fh, Fe, Fg⟩ := F
  refine dF Try.func113 ?_
  unfold fT at h0
  refine aT aD 2 [] [] ?_
  refine aP ?_
  refine aP ?_
  refine eC (eE [18]) aD 9 ?_
  obtain ⟨c1, h0⟩ := aR h0
  refine cB 3 [0 ≤ b2 ∧ b2 < (lN aA)] ⟨c1, trivial⟩ ?_
  refine fL 0 lo0p 1 (0 + Int.toNat b2) (eI (gD aA b2)) (eI (gD aA b2)) (List.map (eI) aA) hO (bY c1) ?_
  obtain ⟨c2, h0⟩ := aR h0
  refine cB 7 [0 ≤ a1 ∧ a1 < (lN aA)] ⟨c2, trivial⟩ ?_
  refine fL 0 lo0p 1 (0 + Int.toNat a1) (eI (gD aA a1)) (eI (gD aA a1)) (List.map (eI) aA) hO (bY c2) ?_
  obtain ⟨x3, hx4, h0⟩ := aZ h0
  refine DM (fF (gD aA b2) (gD aA a1) _ hx4) hO ?_
  intro H hO
  refine lZ (by kernel_rfl) ?_
  refine bU [] [(18, (aE x3))] ?_
  refine bF h0 (fun h0 => ?_) (fun h0 => ?_)
  · refine aP ?_
    refine aW aD 6 ?_
    refine bV 2 ?_
    refine pQ 1 lo3p 1 0 (eI rP) (eI rP) [(eI rP)] hO rfl ?_
    refine bV 5 ?_
    refine pT 1 lo3p 1 0 (eI rP) (eI (wR (rP + (1 : Int)))) [(eI rP)] [(lo0p, 1, List.map (eI) aA), (lo3p, 1, [(eI (wR (rP + (1 : Int))))])] hO rfl (by kernel_rfl) ?_
    intro H hO
    refine hY ?_
    refine bU [18] [] ?_
    refine aT aD 4 [1, 2] [(8, (eI b2)), (9, (eI a1))] ?_
    refine bI ?_
    obtain rfl := oI h0
    exact aG (aQ (EI hO ⟨rfl, rfl⟩))
  refine bG ?_
  refine bE [(0, (.msl 1 lo0p 0 (List.length aA))), (1, (eI a1)), (2, (eI b2)), (3, (.lp lo3p 0 0))] ?_
  refine aT aD 4 [1, 2] [(8, (eI a1)), (9, (eI b2))] ?_
  refine bI ?_
  obtain rfl := oI h0
  exact aG (EI hO ⟨rfl, rfl⟩)

theorem rK (lo0p : Nat) (aA : (List Int)) (a1 : Int) (b2 : Int) (c3 : Int) (lo4p : Nat) (DV : Int) (r : (Int × Int)) (h0 : iD aA a1 b2 c3 DV = some r) : yD Try.prog 109 [(.msl 1 lo0p 0 (List.length aA)), (eI a1), (eI b2), (eI c3), (.lp lo4p 0 0)] [(lo0p, 1, List.map (eI) aA), (lo4p, 1, [(eI DV)])] (fun x L => x = (eI r.1) ∧ L = [(lo0p, 1, List.map (eI) aA), (lo4p, 1, [(eI r.2)])]) := by
  intro F H0 hO
  obtain ⟨Fh, Fe, Fg⟩ := F
  refine dF Try.func109 ?_
  unfold iD at h0
  refine aT aD 1 [] [] ?_
  refine aP ?_
  refine aW aD 10 ?_
  refine bV 4 ?_
  obtain ⟨x1, hx2, h0⟩ := aZ h0
  refine AP [] [0, 1] (nM lo0p aA a1 b2 lo4p DV _ hx2) hO ?_
  intro r3 L4 H hP5 hO
  obtain ⟨rfl, rfl⟩ := hP5
  replace hO : aL ⟨Fh, Fe, Fg⟩ H [(lo0p, 1, List.map (eI) aA), (lo4p, 1, [(eI x1.2)])] := hO
  refine bD ?_
  refine bU [1, 2] [(1, (eI x1.1.1)), (2, (eI x1.1.2))] ?_
  refine aP ?_
  refine aW aD 10 ?_
  refine bV 4 ?_
  obtain ⟨x6, hx7, h0⟩ := aZ h0
  refine AP [] [0, 1] (nM lo0p aA x1.1.2 c3 lo4p x1.2 _ hx7) hO ?_
  intro r8 L9 H hP10 hO
  obtain ⟨rfl, rfl⟩ := hP10
  replace hO : aL ⟨Fh, Fe, Fg⟩ H [(lo0p, 1, List.map (eI) aA), (lo4p, 1, [(eI x6.2)])] := hO
  refine bD ?_
  refine bU [2, 3] [(2, (eI x6.1.1))] ?_
  refine aP ?_
  refine aW aD 10 ?_
  refine bV 4 ?_
  obtain ⟨x11, hx12, h0⟩ := aZ h0
  refine AP [] [0, 1] (nM lo0p aA x1.1.1 x6.1.1 lo4p x6.2 _ hx12) hO ?_
  intro r13 L14 H hP15 hO
  obtain ⟨rfl, rfl⟩ := hP15
  replace hO : aL ⟨Fh, Fe, Fg⟩ H [(lo0p, 1, List.map (eI) aA), (lo4p, 1, [(eI x11.2)])] := hO
  refine bD ?_
  refine bU [1, 2] [(2, (eI x11.1.2))] ?_
  refine bT aD 2 [(0, (.msl 1 lo0p 0 (List.length aA))), (4, (.lp lo4p 0 0)), (10, (eI x11.1.2))] ?_
  refine bI ?_
  obtain rfl := oI h0
  exact aG (EI hO ⟨rfl, rfl⟩)

theorem kT (lo0p : Nat) (aA : (List Int)) (a1 : Int) (lo2p : Nat) (EL : Int) (r : (Int × Int)) (h0 : dX aA a1 EL = some r) : yD Try.prog 108 [(.msl 1 lo0p 0 (List.length aA)), (eI a1), (.lp lo2p 0 0)] [(lo0p, 1, List.map (eI) aA), (lo2p, 1, [(eI EL)])] (fun x L => x = (eI r.1) ∧ L = [(lo0p, 1, List.map (eI) aA), (lo2p, 1, [(eI r.2)])]) := by
  intro F H0 hO
  obtain ⟨Fh, Fe, Fg⟩ := F
  refine dF Try.func108 ?_
  unfold dX at h0
  refine aT aD 1 [] [] ?_
  refine aP ?_
  refine aW aD 9 ?_
  refine bV 7 ?_
  obtain ⟨x1, hx2, h0⟩ := aZ h0
  refine AP [] [0, 1] (rK lo0p aA (wR (a1 - (1 : Int))) a1 (wR (a1 + (1 : Int))) lo2p EL _ hx2) hO ?_
  intro r3 L4 H hP5 hO
  obtain ⟨rfl, rfl⟩ := hP5
  replace hO : aL ⟨Fh, Fe, Fg⟩ H [(lo0p, 1, List.map (eI) aA), (lo2p, 1, [(eI x1.2)])] := hO
  refine bD ?_
  refine bU [1] [(6, (eI x1.1))] ?_
  refine bI ?_
  obtain rfl := oI h0
  exact aG (EI hO ⟨rfl, rfl⟩)

theorem vP (lo0p : Nat) (aA : (List Int)) (a1 : Int) (b2 : Int) (r : (Int × Int)) (h0 : gX aA a1 b2 = some r) : yD Try.prog 82 [(.msl 1 lo0p 0 (List.length aA)), (eI a1), (eI b2)] [(lo0p, 1, List.map (eI) aA)] (fun x L => x = (.tup [(eI r.1), (eI r.2)]) ∧ L = [(lo0p, 1, List.map (eI) aA)]) := by
  intro F H0 hO
  obtain ⟨Fh, Fe, Fg⟩ := F
  refine dF Try.func82 ?_
  unfold gX at h0
  refine aT aD 2 [] [] ?_
  refine aT aD 4 [2] [(8, (eI (wR (b2 - a1))))] ?_
  refine aP ?_
  refine aW aD 1 ?_
  refine vM 1 (eI 0) (by kernel_rfl) (by kernel_rfl) hO ?_
  intro lo1 H hO
  refine hY ?_
  refine bU [] [(9, (.lp lo1 0 0))] ?_
  refine aP ?_
  refine aW aD 6 ?_
  obtain ⟨c2, h0⟩ := aR h0
  refine mH [(4 : Int) ≠ 0] ⟨c2, trivial⟩ ?_
  refine bU [] [(10, (eI (wR (a1 + (wR ((wR (Int.tdiv (wR (b2 - a1)) (4 : Int))) * (1 : Int)))))))] ?_
  refine aP ?_
  refine aW aD 6 ?_
  obtain ⟨c3, h0⟩ := aR h0
  refine mH [(4 : Int) ≠ 0] ⟨c3, trivial⟩ ?_
  refine bE [(0, (.msl 1 lo0p 0 (List.length aA))), (1, (eI a1)), (8, (eI (wR (b2 - a1)))), (9, (.lp lo1 0 0)), (10, (eI (wR (a1 + (wR ((wR (Int.tdiv (wR (b2 - a1)) (4 : Int))) * (1 : Int))))))), (11, (eI (wR (a1 + (wR ((wR (Int.tdiv (wR (b2 - a1)) (4 : Int))) * (2 : Int)))))))] ?_
  refine aP ?_
  refine aW aD 6 ?_
  obtain ⟨c4, h0⟩ := aR h0
  refine mH [(4 : Int) ≠ 0] ⟨c4, trivial⟩ ?_
  refine bU [1] [(12, (eI (wR (a1 + (wR ((wR (Int.tdiv (wR (b2 - a1)) (4 : Int))) * (3 : Int)))))))] ?_
  refine dU (fun T H => ∃ mE : Int, ∃ j11 : Int, Has T [(0, (.msl 1 lo0p 0 (List.length aA))), (9, (.lp lo1 0 0)), (11, (eI j11))] ∧ aL ⟨Fh, Fe, Fg⟩ H [(lo0p, 1, List.map (eI) aA), (lo1, 1, [(eI mE)])] ∧ fE aA mE j11 = some r) ?_ ?_
  · clear hO h0
    rintro T H ⟨mE, j11, hT, hO, h0⟩
    refine bC hT ?_
    clear hT
    unfold fE at h0
    refine aP ?_
    refine aW aD 1 ?_
    refine pQ 1 lo1 1 0 (eI mE) (eI mE) [(eI mE)] hO rfl ?_
    refine hY ?_
    replace hO := hO.pick (L' := [(lo0p, 1, List.map (eI) aA)]) [0] (by decide) (by kernel_rfl)
    refine bU [9] [(49, (eI mE))] ?_
    refine bZ 0 ?_
    refine aT aD 2 [] [(51, (aE (decide (mE = (0 : Int)))))] ?_
    refine bF h0 (fun h0 => ?_) (fun h0 => ?_)
    · refine aT aD 3 [11, 49, 51] [(6, (eI j11)), (7, (eI (1 : Int)))] ?_
      refine bI ?_
      obtain rfl := oI h0
      exact aG (bK (EI hO ⟨rfl, rfl⟩))
    refine aT aD 2 [49, 51] [(54, (aE (decide (mE = (12 : Int)))))] ?_
    refine bF h0 (fun h0 => ?_) (fun h0 => ?_)
    · refine aT aD 3 [11, 54] [(6, (eI j11)), (7, (eI (2 : Int)))] ?_
      refine bI ?_
      obtain rfl := oI h0
      exact aG (bK (EI hO ⟨rfl, rfl⟩))
    refine aT aD 3 [11, 54] [(6, (eI j11)), (7, (eI (0 : Int)))] ?_
    refine bI ?_
    obtain rfl := oI h0
    exact aG (bK (EI hO ⟨rfl, rfl⟩))
  refine aT aD 2 [] [(32, (aE (decide ((8 : Int) ≤ (wR (b2 - a1))))))] ?_
  refine bF h0 (fun h0 => ?_) (fun h0 => ?_)
  · refine dU (fun T H => ∃ mE : Int, ∃ i10 : Int, ∃ j11 : Int, ∃ k12 : Int, Has T [(0, (.msl 1 lo0p 0 (List.length aA))), (9, (.lp lo1 0 0)), (10, (eI i10)), (11, (eI j11)), (12, (eI k12))] ∧ aL ⟨Fh, Fe, Fg⟩ H [(lo0p, 1, List.map (eI) aA), (lo1, 1, [(eI mE)])] ∧ fH aA mE i10 j11 k12 = some r) ?_ ?_
    · clear hO h0
      rintro T H ⟨mE, i10, j11, k12, hT, hO, h0⟩
      refine bC hT ?_
      clear hT
      unfold fH at h0
      refine aW aD 6 ?_
      refine bV 4 ?_
      obtain ⟨x8, hx9, h0⟩ := aZ h0
      refine AP [] [0, 1] (rK lo0p aA i10 j11 k12 lo1 mE _ hx9) hO ?_
      intro r10 L11 H hP12 hO
      obtain ⟨rfl, rfl⟩ := hP12
      replace hO : aL ⟨Fh, Fe, Fg⟩ H [(lo0p, 1, List.map (eI) aA), (lo1, 1, [(eI x8.2)])] := hO
      refine bD ?_
      exact aG (aF (⟨rfl, _, _, .eq (by kernel_rfl), hO, h0⟩))
    refine aT aD 2 [8, 32] [(34, (aE (decide ((50 : Int) ≤ (wR (b2 - a1))))))] ?_
    refine bF h0 (fun h0 => ?_) (fun h0 => ?_)
    · refine aP ?_
      refine aW aD 4 ?_
      refine bV 2 ?_
      obtain ⟨x14, hx15, h0⟩ := aZ h0
      refine AP [] [0, 1] (kT lo0p aA (wR (a1 + (wR ((wR (Int.tdiv (wR (b2 - a1)) (4 : Int))) * (1 : Int))))) lo1 0 _ hx15) hO ?_
      intro r16 L17 H hP18 hO
      obtain ⟨rfl, rfl⟩ := hP18
      replace hO : aL ⟨Fh, Fe, Fg⟩ H [(lo0p, 1, List.map (eI) aA), (lo1, 1, [(eI x14.2)])] := hO
      refine bD ?_
      refine bU [10, 34] [(10, (eI x14.1))] ?_
      refine aP ?_
      refine aW aD 4 ?_
      refine bV 2 ?_
      obtain ⟨x19, hx20, h0⟩ := aZ h0
      refine AP [] [0, 1] (kT lo0p aA (wR (a1 + (wR ((wR (Int.tdiv (wR (b2 - a1)) (4 : Int))) * (2 : Int))))) lo1 x14.2 _ hx20) hO ?_
      intro r21 L22 H hP23 hO
      obtain ⟨rfl, rfl⟩ := hP23
      replace hO : aL ⟨Fh, Fe, Fg⟩ H [(lo0p, 1, List.map (eI) aA), (lo1, 1, [(eI x19.2)])] := hO
      refine bD ?_
      refine bE [(0, (.msl 1 lo0p 0 (List.length aA))), (9, (.lp lo1 0 0)), (10, (eI x14.1)), (11, (eI x19.1)), (12, (eI (wR (a1 + (wR ((wR (Int.tdiv (wR (b2 - a1)) (4 : Int))) * (3 : Int)))))))] ?_
      refine aW aD 4 ?_
      refine bV 2 ?_
      obtain ⟨x24, hx25, h0⟩ := aZ h0
      refine AP [] [0, 1] (kT lo0p aA (wR (a1 + (wR ((wR (Int.tdiv (wR (b2 - a1)) (4 : Int))) * (3 : Int))))) lo1 x19.2 _ hx25) hO ?_
      intro r26 L27 H hP28 hO
      obtain ⟨rfl, rfl⟩ := hP28
      replace hO : aL ⟨Fh, Fe, Fg⟩ H [(lo0p, 1, List.map (eI) aA), (lo1, 1, [(eI x24.2)])] := hO
      refine bD ?_
      exact aG (aF (⟨rfl, _, _, _, _, .eq (by kernel_rfl), hO, h0⟩))
    refine bG ?_
    exact aG (aF (⟨rfl, _, _, _, _, .eq (by kernel_rfl), hO, h0⟩))
  refine bG ?_
  exact aG (aF (⟨rfl, _, _, .eq (by kernel_rfl), hO, h0⟩))

theorem vJ (lo0p : Nat) (aA : (List Int)) (a1 : Int) (b2 : Int) (r : List Int) (h0 : gV aA a1 b2 = some r) : nC Try.prog 83 lo0p 1 (List.map (eI) aA) (List.map (eI) r) [(.msl 1 lo0p 0 (List.length aA)), (eI a1), (eI b2)] (.tup []) := by
  intro H0 hl0
  refine dF Try.func83 ?_
  have hO := aL.rR hl0
  clear hl0
  obtain ⟨N0, hN0⟩ : ∃ n, n = List.length aA := ⟨_, rfl⟩
  have hN : List.length aA = N0 := hN0.symm
  unfold gV at h0
  refine aT aD 2 [1] [(6, (eI a1))] ?_
  refine aT aD 3 [2] [(7, (eI (wR (b2 - (1 : Int)))))] ?_
  refine bZ 0 ?_
  refine eZ [(0, (.msl 1 lo0p 0 (List.length aA))), (6, (eI a1)), (7, (eI (wR (b2 - (1 : Int)))))] ?_
  refine dO (fun T H => ∃ aA : List Int, ∃ i6 : Int, ∃ j7 : Int, Has T [(0, (.msl 1 lo0p 0 (List.length aA))), (6, (eI i6)), (7, (eI j7))] ∧ aL ⟨H0, [lo0p], []⟩ H [(lo0p, 1, List.map (eI) aA)] ∧ List.length aA = N0 ∧ jH aA i6 j7 = some r) ?_ ⟨aA, a1, wR (b2 - (1 : Int)), .eq (by kernel_rfl), hO, hN, h0⟩
  clear hO hN h0
  rintro T H ⟨aA, i6, j7, hT, hO, hN, h0⟩
  refine bC hT ?_
  clear hT
  unfold jH at h0
  obtain ⟨rr0, hl0, h0⟩ := aZ h0
  refine cP (by kernel_rfl) (fun (s : List Int × Int × Int) T H => Has T [(0, (.msl 1 lo0p 0 (List.length s.1))), (6, (eI s.2.1)), (7, (eI s.2.2))] ∧ aL ⟨H0, [lo0p], []⟩ H [(lo0p, 1, List.map (eI) s.1)] ∧ List.length s.1 = N0) hl0 ⟨.eq (by kernel_rfl), hO, hN⟩ ?_
  clear hO hN
  rintro k0 s out1 T H ⟨hT, hO, hN⟩ h1 ho0
  obtain ⟨aA, i6, j7⟩ := s
  replace h1 : dM aA i6 j7 = some out1 := h1
  try dsimp only at hT
  refine bC hT ?_
  clear hT
  unfold dM at h1
  refine aP ?_
  refine aT aD 3 [] [(13, (aE (decide (i6 < j7))))] ?_
  refine bF h1 (fun h1 => ?_) (fun h1 => ?_)
  · refine bG ?_
    refine bE [(0, (.msl 1 lo0p 0 (List.length aA))), (6, (eI i6)), (7, (eI j7))] ?_
    refine bZ 1 ?_
    refine aP ?_
    refine eC (eE []) aD 16 ?_
    obtain ⟨c2, h1⟩ := aR h1
    refine cB 7 [0 ≤ j7 ∧ j7 < (lN aA)] ⟨c2, trivial⟩ ?_
    refine fL 0 lo0p 1 (0 + Int.toNat j7) (eI (gD aA j7)) (eI (gD aA j7)) (List.map (eI) aA) hO (bY c2) ?_
    obtain ⟨c3, h1⟩ := aR h1
    refine cB 11 [0 ≤ i6 ∧ i6 < (lN aA)] ⟨c3, trivial⟩ ?_
    refine fL 0 lo0p 1 (0 + Int.toNat i6) (eI (gD aA i6)) (eI (gD aA i6)) (List.map (eI) aA) hO (bY c3) ?_
    obtain ⟨c4, h1⟩ := aR h1
    refine cB 13 [0 ≤ i6 ∧ i6 < (lN aA)] ⟨c4, trivial⟩ ?_
    refine jN 0 lo0p 1 (0 + Int.toNat i6) (eI (gD aA i6)) (eI (gD aA j7)) (List.map (eI) aA) [(lo0p, 1, List.map (eI) (List.set aA (Int.toNat i6) (gD aA j7)))] hO (bY c4) (by simp only [List.set, gK]) ?_
    intro H hO
    replace hN : List.length (List.set aA (Int.toNat i6) (gD aA j7)) = N0 := by simpa using hN
    obtain ⟨c5, h1⟩ := aR h1
    refine cB 15 [0 ≤ j7 ∧ j7 < (lN aA)] ⟨c5, trivial⟩ ?_
    refine jN 0 lo0p 1 (0 + Int.toNat j7) (eI (gD (List.set aA (Int.toNat i6) (gD aA j7)) j7)) (eI (gD aA i6)) (List.map (eI) (List.set aA (Int.toNat i6) (gD aA j7))) [(lo0p, 1, List.map (eI) (List.set (List.set aA (Int.toNat i6) (gD aA j7)) (Int.toNat j7) (gD aA i6)))] hO (mV c5 (by simp [])) (by simp only [List.set, gK]) ?_
    intro H hO
    replace hN : List.length (List.set (List.set aA (Int.toNat i6) (gD aA j7)) (Int.toNat j7) (gD aA i6)) = N0 := by simpa using hN
    refine lZ (by kernel_rfl) ?_
    refine dA (l := [(0, (.msl 1 lo0p 0 (List.length (List.set (List.set aA (Int.toNat i6) (gD aA j7)) (Int.toNat j7) (gD aA i6))))), (6, (eI i6)), (7, (eI j7))]) ⟨[(0, (.msl 1 lo0p 0 (List.length aA))), (6, (eI i6)), (7, (eI j7))], by kernel_rfl, rfl, ⟨aN.eq (by simp []), aN.refl _, aN.refl _, trivial⟩⟩ ?_
    refine aG (aF (?_))
    refine aT aD 3 [6] [(6, (eI (wR (i6 + (1 : Int)))))] ?_
    refine aW aD 3 ?_
    refine bD ?_
    exact aG (aY (aF (⟨rfl, _, (oI h1).symm, .eq (by kernel_rfl), hO, hN⟩)))
  refine eP 0 ?_
  obtain rfl := oI h1
  obtain rfl : _ = rr0 := ho0
  replace h0 : some aA = some r := h0
  obtain rfl := oI h0
  exact aG (aS (aS (bP (yL (x := (.tup [])) (by kernel_rfl) (aN.refl _) ⟨rfl, hO.ext, hO.at 0 (by kernel_rfl), by first | rfl | (simp only [List.length_map]; exact hN.trans hN0)⟩))))

theorem rC (lo0p : Nat) (aA : (List Int)) (a1 : Int) (b2 : Int) (r : (Bool × List Int)) (h0 : eO aA a1 b2 = some r) : nC Try.prog 84 lo0p 1 (List.map (eI) aA) (List.map (eI) r.2) [(.msl 1 lo0p 0 (List.length aA)), (eI a1), (eI b2)] (aE r.1) := by
  intro H0 hl0
  refine dF Try.func84 ?_
  have hO := aL.rR hl0
  clear hl0
  obtain ⟨N0, hN0⟩ : ∃ n, n = List.length aA := ⟨_, rfl⟩
  have hN : List.length aA = N0 := hN0.symm
  unfold eO at h0
  refine aT aD 1 [] [] ?_
  refine aT aD 3 [] [(7, (eI (wR (a1 + (1 : Int)))))] ?_
  refine dU (fun T H => ∃ aA : List Int, Has T [(0, (.msl 1 lo0p 0 (List.length aA)))] ∧ aL ⟨H0, [lo0p], []⟩ H [(lo0p, 1, List.map (eI) aA)] ∧ List.length aA = N0 ∧ eJ aA = some r) ?_ ?_
  · clear hO hN h0
    rintro T H ⟨aA, hT, hO, hN, h0⟩
    refine bC hT ?_
    clear hT
    unfold eJ at h0
    refine aT aD 1 [] [(6, (aE false))] ?_
    refine bI ?_
    obtain rfl := oI h0
    exact aG (lE (x := (aE false)) (by kernel_rfl) (aN.refl _) ⟨rfl, hO.ext, hO.at 0 (by kernel_rfl), by first | rfl | (simp only [List.length_map]; exact hN.trans hN0)⟩)
  refine aT aD 1 [] [(8, (eI (0 : Int)))] ?_
  refine bZ 0 ?_
  refine eZ [(0, (.msl 1 lo0p 0 (List.length aA))), (1, (eI a1)), (2, (eI b2)), (7, (eI (wR (a1 + (1 : Int))))), (8, (eI (0 : Int)))] ?_
  refine dO (fun T H => ∃ aA : List Int, ∃ i7 : Int, ∃ j8 : Int, Has T [(0, (.msl 1 lo0p 0 (List.length aA))), (1, (eI a1)), (2, (eI b2)), (7, (eI i7)), (8, (eI j8))] ∧ aL ⟨H0, [lo0p], []⟩ H [(lo0p, 1, List.map (eI) aA)] ∧ List.length aA = N0 ∧ fX aA a1 b2 i7 j8 = some r) ?_ ⟨aA, wR (a1 + (1 : Int)), (0 : Int), .eq (by kernel_rfl), hO, hN, h0⟩
  clear hO hN h0
  rintro T H ⟨aA, i7, j8, hT, hO, hN, h0⟩
  refine bC hT ?_
  clear hT
  unfold fX at h0
  obtain ⟨rr0, hl0, h0⟩ := aZ h0
  refine cP (by kernel_rfl) (fun (s : List Int × Int × Int) T H => Has T [(0, (.msl 1 lo0p 0 (List.length s.1))), (1, (eI a1)), (2, (eI b2)), (7, (eI s.2.1)), (8, (eI s.2.2))] ∧ aL ⟨H0, [lo0p], []⟩ H [(lo0p, 1, List.map (eI) s.1)] ∧ List.length s.1 = N0) hl0 ⟨.eq (by kernel_rfl), hO, hN⟩ ?_
  clear hO hN
  rintro k0 s out1 T H ⟨hT, hO, hN⟩ h1 ho0
  obtain ⟨aA, i7, j8⟩ := s
  replace h1 : cA a1 b2 aA i7 j8 = some out1 := h1
  try dsimp only at hT
  refine bC hT ?_
  clear hT
  unfold cA at h1
  refine aP ?_
  refine aT aD 2 [] [(14, (aE (decide (j8 < (5 : Int)))))] ?_
  refine bF h1 (fun h1 => ?_) (fun h1 => ?_)
  · refine bG ?_
    refine bE [(0, (.msl 1 lo0p 0 (List.length aA))), (1, (eI a1)), (2, (eI b2)), (7, (eI i7)), (8, (eI j8))] ?_
    refine dU (fun T H => ∃ aA : List Int, ∃ i7 : Int, Has T [(0, (.msl 1 lo0p 0 (List.length aA))), (1, (eI a1)), (2, (eI b2)), (7, (eI i7)), (8, (eI j8))] ∧ aL ⟨H0, [lo0p], []⟩ H [(lo0p, 1, List.map (eI) aA)] ∧ List.length aA = N0 ∧ dN aA a1 b2 i7 j8 = some out1) ?_ ?_
    · clear hO hN h1
      rintro T H ⟨aA, i7, hT, hO, hN, h1⟩
      refine bC hT ?_
      clear hT
      unfold dN at h1
      refine aW aD 3 ?_
      refine bD ?_
      exact aG (aF (⟨rfl, _, (oI h1).symm, .eq (by kernel_rfl), hO, hN⟩))
    refine bZ 1 ?_
    refine dU (fun T H => ∃ aA : List Int, ∃ i7 : Int, Has T [(0, (.msl 1 lo0p 0 (List.length aA))), (1, (eI a1)), (2, (eI b2)), (7, (eI i7)), (8, (eI j8))] ∧ aL ⟨H0, [lo0p], []⟩ H [(lo0p, 1, List.map (eI) aA)] ∧ List.length aA = N0 ∧ eH aA a1 b2 i7 j8 = some out1) ?_ ?_
    · clear hO hN h1
      rintro T H ⟨aA, i7, hT, hO, hN, h1⟩
      refine bC hT ?_
      clear hT
      unfold eH at h1
      refine aP ?_
      refine aT aD 3 [] [(37, (aE (decide (i7 = b2))))] ?_
      refine bF h1 (fun h1 => ?_) (fun h1 => ?_)
      · refine aT aD 1 [1, 2, 7, 8, 37] [(6, (aE true))] ?_
        refine bI ?_
        obtain rfl := oI h1
        obtain rfl : _ = rr0 := ho0
        replace h0 : some (true, aA) = some r := h0
        obtain rfl := oI h0
        exact aG (aQ (bK (aQ (aQ (bK (aQ (lE (x := (aE true)) (by kernel_rfl) (aN.refl _) ⟨rfl, hO.ext, hO.at 0 (by kernel_rfl), by first | rfl | (simp only [List.length_map]; exact hN.trans hN0)⟩)))))))
      refine bG ?_
      refine bE [(0, (.msl 1 lo0p 0 (List.length aA))), (1, (eI a1)), (2, (eI b2)), (7, (eI i7)), (8, (eI j8))] ?_
      refine aP ?_
      refine aT aD 4 [] [(41, (aE (decide ((wR (b2 - a1)) < (50 : Int)))))] ?_
      refine bF h1 (fun h1 => ?_) (fun h1 => ?_)
      · refine aT aD 1 [1, 2, 7, 8, 41] [(6, (aE false))] ?_
        refine bI ?_
        obtain rfl := oI h1
        obtain rfl : _ = rr0 := ho0
        replace h0 : some (false, aA) = some r := h0
        obtain rfl := oI h0
        exact aG (aQ (bK (aQ (aQ (bK (aQ (lE (x := (aE false)) (by kernel_rfl) (aN.refl _) ⟨rfl, hO.ext, hO.at 0 (by kernel_rfl), by first | rfl | (simp only [List.length_map]; exact hN.trans hN0)⟩)))))))
      refine bG ?_
      refine bE [(0, (.msl 1 lo0p 0 (List.length aA))), (1, (eI a1)), (2, (eI b2)), (7, (eI i7)), (8, (eI j8))] ?_
      refine aP ?_
      refine eC (eE []) aD 18 ?_
      obtain ⟨c4, h1⟩ := aR h1
      refine cB 9 [0 ≤ (wR (i7 - (1 : Int))) ∧ (wR (i7 - (1 : Int))) < (lN aA)] ⟨c4, trivial⟩ ?_
      refine fL 0 lo0p 1 (0 + Int.toNat (wR (i7 - (1 : Int)))) (eI (gD aA (wR (i7 - (1 : Int))))) (eI (gD aA (wR (i7 - (1 : Int))))) (List.map (eI) aA) hO (bY c4) ?_
      obtain ⟨c5, h1⟩ := aR h1
      refine cB 13 [0 ≤ i7 ∧ i7 < (lN aA)] ⟨c5, trivial⟩ ?_
      refine fL 0 lo0p 1 (0 + Int.toNat i7) (eI (gD aA i7)) (eI (gD aA i7)) (List.map (eI) aA) hO (bY c5) ?_
      obtain ⟨c6, h1⟩ := aR h1
      refine cB 15 [0 ≤ i7 ∧ i7 < (lN aA)] ⟨c6, trivial⟩ ?_
      refine jN 0 lo0p 1 (0 + Int.toNat i7) (eI (gD aA i7)) (eI (gD aA (wR (i7 - (1 : Int))))) (List.map (eI) aA) [(lo0p, 1, List.map (eI) (List.set aA (Int.toNat i7) (gD aA (wR (i7 - (1 : Int))))))] hO (bY c6) (by simp only [List.set, gK]) ?_
      intro H hO
      replace hN : List.length (List.set aA (Int.toNat i7) (gD aA (wR (i7 - (1 : Int))))) = N0 := by simpa using hN
      obtain ⟨c7, h1⟩ := aR h1
      refine cB 17 [0 ≤ (wR (i7 - (1 : Int))) ∧ (wR (i7 - (1 : Int))) < (lN aA)] ⟨c7, trivial⟩ ?_
      refine jN 0 lo0p 1 (0 + Int.toNat (wR (i7 - (1 : Int)))) (eI (gD (List.set aA (Int.toNat i7) (gD aA (wR (i7 - (1 : Int))))) (wR (i7 - (1 : Int))))) (eI (gD aA i7)) (List.map (eI) (List.set aA (Int.toNat i7) (gD aA (wR (i7 - (1 : Int)))))) [(lo0p, 1, List.map (eI) (List.set (List.set aA (Int.toNat i7) (gD aA (wR (i7 - (1 : Int))))) (Int.toNat (wR (i7 - (1 : Int)))) (gD aA i7)))] hO (mV c7 (by simp [])) (by simp only [List.set, gK]) ?_
      intro H hO
      replace hN : List.length (List.set (List.set aA (Int.toNat i7) (gD aA (wR (i7 - (1 : Int))))) (Int.toNat (wR (i7 - (1 : Int)))) (gD aA i7)) = N0 := by simpa using hN
      refine lZ (by kernel_rfl) ?_
      refine dA (l := [(0, (.msl 1 lo0p 0 (List.length (List.set (List.set aA (Int.toNat i7) (gD aA (wR (i7 - (1 : Int))))) (Int.toNat (wR (i7 - (1 : Int)))) (gD aA i7))))), (1, (eI a1)), (2, (eI b2)), (7, (eI i7)), (8, (eI j8))]) ⟨[(0, (.msl 1 lo0p 0 (List.length aA))), (1, (eI a1)), (2, (eI b2)), (7, (eI i7)), (8, (eI j8))], by kernel_rfl, rfl, ⟨aN.eq (by simp []), aN.refl _, aN.refl _, aN.refl _, aN.refl _, trivial⟩⟩ ?_
      refine aG (aF (?_))
      refine dU (fun T H => ∃ aA : List Int, Has T [(0, (.msl 1 lo0p 0 (List.length aA))), (1, (eI a1)), (2, (eI b2)), (7, (eI i7)), (8, (eI j8))] ∧ aL ⟨H0, [lo0p], []⟩ H [(lo0p, 1, List.map (eI) aA)] ∧ List.length aA = N0 ∧ cK aA a1 b2 i7 j8 = some out1) ?_ ?_
      · clear hO hN h1
        rintro T H ⟨aA, hT, hO, hN, h1⟩
        refine bC hT ?_
        clear hT
        unfold cK at h1
        refine aT aD 4 [] [(98, (aE (decide ((2 : Int) ≤ (wR (b2 - i7))))))] ?_
        refine bF h1 (fun h1 => ?_) (fun h1 => ?_)
        · refine aT aD 3 [98] [(10, (eI (wR (i7 + (1 : Int)))))] ?_
          refine bZ 6 ?_
          refine eZ [(0, (.msl 1 lo0p 0 (List.length aA))), (1, (eI a1)), (2, (eI b2)), (7, (eI i7)), (8, (eI j8)), (10, (eI (wR (i7 + (1 : Int)))))] ?_
          refine dO (fun T H => ∃ aA : List Int, ∃ j10 : Int, Has T [(0, (.msl 1 lo0p 0 (List.length aA))), (1, (eI a1)), (2, (eI b2)), (7, (eI i7)), (8, (eI j8)), (10, (eI j10))] ∧ aL ⟨H0, [lo0p], []⟩ H [(lo0p, 1, List.map (eI) aA)] ∧ List.length aA = N0 ∧ fY aA a1 b2 i7 j8 j10 = some out1) ?_ ⟨aA, wR (i7 + (1 : Int)), .eq (by kernel_rfl), hO, hN, h1⟩
          clear hO hN h1
          rintro T H ⟨aA, j10, hT, hO, hN, h1⟩
          refine bC hT ?_
          clear hT
          unfold fY at h1
          obtain ⟨rr1, hl1, h1⟩ := aZ h1
          refine cP (by kernel_rfl) (fun (s : List Int × Int) T H => Has T [(0, (.msl 1 lo0p 0 (List.length s.1))), (1, (eI a1)), (2, (eI b2)), (7, (eI i7)), (8, (eI j8)), (10, (eI s.2))] ∧ aL ⟨H0, [lo0p], []⟩ H [(lo0p, 1, List.map (eI) s.1)] ∧ List.length s.1 = N0) hl1 ⟨.eq (by kernel_rfl), hO, hN⟩ ?_
          clear hO hN
          rintro k1 s out2 T H ⟨hT, hO, hN⟩ h2 ho1
          obtain ⟨aA, j10⟩ := s
          replace h2 : cS a1 b2 i7 j8 aA j10 = some out2 := h2
          try dsimp only at hT
          refine bC hT ?_
          clear hT
          unfold cS at h2
          refine aP ?_
          refine aT aD 3 [] [(103, (aE (decide (j10 < b2))))] ?_
          refine bF h2 (fun h2 => ?_) (fun h2 => ?_)
          · refine bG ?_
            refine bE [(0, (.msl 1 lo0p 0 (List.length aA))), (1, (eI a1)), (2, (eI b2)), (7, (eI i7)), (8, (eI j8)), (10, (eI j10))] ?_
            refine aP ?_
            refine bZ 7 ?_
            refine aP ?_
            refine aP ?_
            refine eC (eE [115]) aD 11 ?_
            obtain ⟨c10, h2⟩ := aR h2
            refine cB 3 [0 ≤ j10 ∧ j10 < (lN aA)] ⟨c10, trivial⟩ ?_
            refine fL 0 lo0p 1 (0 + Int.toNat j10) (eI (gD aA j10)) (eI (gD aA j10)) (List.map (eI) aA) hO (bY c10) ?_
            obtain ⟨c11, h2⟩ := aR h2
            refine cB 8 [0 ≤ (wR (j10 - (1 : Int))) ∧ (wR (j10 - (1 : Int))) < (lN aA)] ⟨c11, trivial⟩ ?_
            refine fL 0 lo0p 1 (0 + Int.toNat (wR (j10 - (1 : Int)))) (eI (gD aA (wR (j10 - (1 : Int))))) (eI (gD aA (wR (j10 - (1 : Int))))) (List.map (eI) aA) hO (bY c11) ?_
            obtain ⟨x12, hx13, h2⟩ := aZ h2
            refine DM (fF (gD aA j10) (gD aA (wR (j10 - (1 : Int)))) _ hx13) hO ?_
            intro H hO
            refine gG ?_
            refine bU [] [(116, (aE (!x12)))] ?_
            refine bF h2 (fun h2 => ?_) (fun h2 => ?_)
            · refine eP 6 ?_
              obtain rfl := oI h2
              obtain rfl : _ = rr1 := ho1
              replace h1 : dN aA a1 b2 i7 j8 = some out1 := h1
              exact aG (aS (uP (by kernel_rfl) (aS (aS (bP (aY (aF (⟨rfl, _, _, .eq (by kernel_rfl), hO, hN, h1⟩))))))))
            refine bG ?_
            refine bE [(0, (.msl 1 lo0p 0 (List.length aA))), (1, (eI a1)), (2, (eI b2)), (7, (eI i7)), (8, (eI j8)), (10, (eI j10))] ?_
            refine eC (eE []) aD 18 ?_
            obtain ⟨c16, h2⟩ := aR h2
            refine cB 9 [0 ≤ (wR (j10 - (1 : Int))) ∧ (wR (j10 - (1 : Int))) < (lN aA)] ⟨c16, trivial⟩ ?_
            refine fL 0 lo0p 1 (0 + Int.toNat (wR (j10 - (1 : Int)))) (eI (gD aA (wR (j10 - (1 : Int))))) (eI (gD aA (wR (j10 - (1 : Int))))) (List.map (eI) aA) hO (bY c16) ?_
            obtain ⟨c17, h2⟩ := aR h2
            refine cB 13 [0 ≤ j10 ∧ j10 < (lN aA)] ⟨c17, trivial⟩ ?_
            refine fL 0 lo0p 1 (0 + Int.toNat j10) (eI (gD aA j10)) (eI (gD aA j10)) (List.map (eI) aA) hO (bY c17) ?_
            obtain ⟨c18, h2⟩ := aR h2
            refine cB 15 [0 ≤ j10 ∧ j10 < (lN aA)] ⟨c18, trivial⟩ ?_
            refine jN 0 lo0p 1 (0 + Int.toNat j10) (eI (gD aA j10)) (eI (gD aA (wR (j10 - (1 : Int))))) (List.map (eI) aA) [(lo0p, 1, List.map (eI) (List.set aA (Int.toNat j10) (gD aA (wR (j10 - (1 : Int))))))] hO (bY c18) (by simp only [List.set, gK]) ?_
            intro H hO
            replace hN : List.length (List.set aA (Int.toNat j10) (gD aA (wR (j10 - (1 : Int))))) = N0 := by simpa using hN
            obtain ⟨c19, h2⟩ := aR h2
            refine cB 17 [0 ≤ (wR (j10 - (1 : Int))) ∧ (wR (j10 - (1 : Int))) < (lN aA)] ⟨c19, trivial⟩ ?_
            refine jN 0 lo0p 1 (0 + Int.toNat (wR (j10 - (1 : Int)))) (eI (gD (List.set aA (Int.toNat j10) (gD aA (wR (j10 - (1 : Int))))) (wR (j10 - (1 : Int))))) (eI (gD aA j10)) (List.map (eI) (List.set aA (Int.toNat j10) (gD aA (wR (j10 - (1 : Int)))))) [(lo0p, 1, List.map (eI) (List.set (List.set aA (Int.toNat j10) (gD aA (wR (j10 - (1 : Int))))) (Int.toNat (wR (j10 - (1 : Int)))) (gD aA j10)))] hO (mV c19 (by simp [])) (by simp only [List.set, gK]) ?_
            intro H hO
            replace hN : List.length (List.set (List.set aA (Int.toNat j10) (gD aA (wR (j10 - (1 : Int))))) (Int.toNat (wR (j10 - (1 : Int)))) (gD aA j10)) = N0 := by simpa using hN
            refine lZ (by kernel_rfl) ?_
            refine dA (l := [(0, (.msl 1 lo0p 0 (List.length (List.set (List.set aA (Int.toNat j10) (gD aA (wR (j10 - (1 : Int))))) (Int.toNat (wR (j10 - (1 : Int)))) (gD aA j10))))), (1, (eI a1)), (2, (eI b2)), (7, (eI i7)), (8, (eI j8)), (10, (eI j10))]) ⟨[(0, (.msl 1 lo0p 0 (List.length aA))), (1, (eI a1)), (2, (eI b2)), (7, (eI i7)), (8, (eI j8)), (10, (eI j10))], by kernel_rfl, rfl, ⟨aN.eq (by simp []), aN.refl _, aN.refl _, aN.refl _, aN.refl _, aN.refl _, trivial⟩⟩ ?_
            refine aG (aY (aF (?_)))
            refine aW aD 3 ?_
            refine bD ?_
            exact aG (aF (⟨rfl, _, (oI h2).symm, .eq (by kernel_rfl), hO, hN⟩))
          refine eP 6 ?_
          obtain rfl := oI h2
          obtain rfl : _ = rr1 := ho1
          replace h1 : dN aA a1 b2 i7 j8 = some out1 := h1
          exact aG (aS (aS (bP (aY (aF (⟨rfl, _, _, .eq (by kernel_rfl), hO, hN, h1⟩))))))
        refine bG ?_
        exact aG (aY (aF (⟨rfl, _, _, .eq (by kernel_rfl), hO, hN, h1⟩)))
      refine aT aD 4 [] [(61, (aE (decide ((2 : Int) ≤ (wR (i7 - a1))))))] ?_
      refine bF h1 (fun h1 => ?_) (fun h1 => ?_)
      · refine aT aD 3 [61] [(9, (eI (wR (i7 - (1 : Int)))))] ?_
        refine bZ 4 ?_
        refine eZ [(0, (.msl 1 lo0p 0 (List.length (List.set (List.set aA (Int.toNat i7) (gD aA (wR (i7 - (1 : Int))))) (Int.toNat (wR (i7 - (1 : Int)))) (gD aA i7))))), (1, (eI a1)), (2, (eI b2)), (7, (eI i7)), (8, (eI j8)), (9, (eI (wR (i7 - (1 : Int)))))] ?_
        refine dO (fun T H => ∃ aA : List Int, ∃ j9 : Int, Has T [(0, (.msl 1 lo0p 0 (List.length aA))), (1, (eI a1)), (2, (eI b2)), (7, (eI i7)), (8, (eI j8)), (9, (eI j9))] ∧ aL ⟨H0, [lo0p], []⟩ H [(lo0p, 1, List.map (eI) aA)] ∧ List.length aA = N0 ∧ fW aA a1 b2 i7 j8 j9 = some out1) ?_ ⟨List.set (List.set aA (Int.toNat i7) (gD aA (wR (i7 - (1 : Int))))) (Int.toNat (wR (i7 - (1 : Int)))) (gD aA i7), wR (i7 - (1 : Int)), .eq (by kernel_rfl), hO, hN, h1⟩
        clear hO hN h1
        rintro T H ⟨aA, j9, hT, hO, hN, h1⟩
        refine bC hT ?_
        clear hT
        unfold fW at h1
        obtain ⟨rr1, hl1, h1⟩ := aZ h1
        refine cP (by kernel_rfl) (fun (s : List Int × Int) T H => Has T [(0, (.msl 1 lo0p 0 (List.length s.1))), (1, (eI a1)), (2, (eI b2)), (7, (eI i7)), (8, (eI j8)), (9, (eI s.2))] ∧ aL ⟨H0, [lo0p], []⟩ H [(lo0p, 1, List.map (eI) s.1)] ∧ List.length s.1 = N0) hl1 ⟨.eq (by kernel_rfl), hO, hN⟩ ?_
        clear hO hN
        rintro k1 s out2 T H ⟨hT, hO, hN⟩ h2 ho1
        obtain ⟨aA, j9⟩ := s
        replace h2 : cL a1 b2 i7 j8 aA j9 = some out2 := h2
        try dsimp only at hT
        refine bC hT ?_
        clear hT
        unfold cL at h2
        refine aP ?_
        refine aT aD 2 [] [(65, (aE (decide ((1 : Int) ≤ j9))))] ?_
        refine bF h2 (fun h2 => ?_) (fun h2 => ?_)
        · refine bG ?_
          refine bE [(0, (.msl 1 lo0p 0 (List.length aA))), (1, (eI a1)), (2, (eI b2)), (7, (eI i7)), (8, (eI j8)), (9, (eI j9))] ?_
          refine aP ?_
          refine bZ 5 ?_
          refine aP ?_
          refine aP ?_
          refine eC (eE [77]) aD 11 ?_
          obtain ⟨c22, h2⟩ := aR h2
          refine cB 3 [0 ≤ j9 ∧ j9 < (lN aA)] ⟨c22, trivial⟩ ?_
          refine fL 0 lo0p 1 (0 + Int.toNat j9) (eI (gD aA j9)) (eI (gD aA j9)) (List.map (eI) aA) hO (bY c22) ?_
          obtain ⟨c23, h2⟩ := aR h2
          refine cB 8 [0 ≤ (wR (j9 - (1 : Int))) ∧ (wR (j9 - (1 : Int))) < (lN aA)] ⟨c23, trivial⟩ ?_
          refine fL 0 lo0p 1 (0 + Int.toNat (wR (j9 - (1 : Int)))) (eI (gD aA (wR (j9 - (1 : Int))))) (eI (gD aA (wR (j9 - (1 : Int))))) (List.map (eI) aA) hO (bY c23) ?_
          obtain ⟨x24, hx25, h2⟩ := aZ h2
          refine DM (fF (gD aA j9) (gD aA (wR (j9 - (1 : Int)))) _ hx25) hO ?_
          intro H hO
          refine gG ?_
          refine bU [] [(78, (aE (!x24)))] ?_
          refine bF h2 (fun h2 => ?_) (fun h2 => ?_)
          · refine eP 4 ?_
            obtain rfl := oI h2
            obtain rfl : _ = rr1 := ho1
            replace h1 : cK aA a1 b2 i7 j8 = some out1 := h1
            exact aG (aS (uP (by kernel_rfl) (aS (aS (bP (aF (⟨rfl, _, .eq (by kernel_rfl), hO, hN, h1⟩)))))))
          refine bG ?_
          refine bE [(0, (.msl 1 lo0p 0 (List.length aA))), (1, (eI a1)), (2, (eI b2)), (7, (eI i7)), (8, (eI j8)), (9, (eI j9))] ?_
          refine eC (eE []) aD 18 ?_
          obtain ⟨c28, h2⟩ := aR h2
          refine cB 9 [0 ≤ (wR (j9 - (1 : Int))) ∧ (wR (j9 - (1 : Int))) < (lN aA)] ⟨c28, trivial⟩ ?_
          refine fL 0 lo0p 1 (0 + Int.toNat (wR (j9 - (1 : Int)))) (eI (gD aA (wR (j9 - (1 : Int))))) (eI (gD aA (wR (j9 - (1 : Int))))) (List.map (eI) aA) hO (bY c28) ?_
          obtain ⟨c29, h2⟩ := aR h2
          refine cB 13 [0 ≤ j9 ∧ j9 < (lN aA)] ⟨c29, trivial⟩ ?_
          refine fL 0 lo0p 1 (0 + Int.toNat j9) (eI (gD aA j9)) (eI (gD aA j9)) (List.map (eI) aA) hO (bY c29) ?_
          obtain ⟨c30, h2⟩ := aR h2
          refine cB 15 [0 ≤ j9 ∧ j9 < (lN aA)] ⟨c30, trivial⟩ ?_
          refine jN 0 lo0p 1 (0 + Int.toNat j9) (eI (gD aA j9)) (eI (gD aA (wR (j9 - (1 : Int))))) (List.map (eI) aA) [(lo0p, 1, List.map (eI) (List.set aA (Int.toNat j9) (gD aA (wR (j9 - (1 : Int))))))] hO (bY c30) (by simp only [List.set, gK]) ?_
          intro H hO
          replace hN : List.length (List.set aA (Int.toNat j9) (gD aA (wR (j9 - (1 : Int))))) = N0 := by simpa using hN
          obtain ⟨c31, h2⟩ := aR h2
          refine cB 17 [0 ≤ (wR (j9 - (1 : Int))) ∧ (wR (j9 - (1 : Int))) < (lN aA)] ⟨c31, trivial⟩ ?_
          refine jN 0 lo0p 1 (0 + Int.toNat (wR (j9 - (1 : Int)))) (eI (gD (List.set aA (Int.toNat j9) (gD aA (wR (j9 - (1 : Int))))) (wR (j9 - (1 : Int))))) (eI (gD aA j9)) (List.map (eI) (List.set aA (Int.toNat j9) (gD aA (wR (j9 - (1 : Int)))))) [(lo0p, 1, List.map (eI) (List.set (List.set aA (Int.toNat j9) (gD aA (wR (j9 - (1 : Int))))) (Int.toNat (wR (j9 - (1 : Int)))) (gD aA j9)))] hO (mV c31 (by simp [])) (by simp only [List.set, gK]) ?_
          intro H hO
          replace hN : List.length (List.set (List.set aA (Int.toNat j9) (gD aA (wR (j9 - (1 : Int))))) (Int.toNat (wR (j9 - (1 : Int)))) (gD aA j9)) = N0 := by simpa using hN
          refine lZ (by kernel_rfl) ?_
          refine dA (l := [(0, (.msl 1 lo0p 0 (List.length (List.set (List.set aA (Int.toNat j9) (gD aA (wR (j9 - (1 : Int))))) (Int.toNat (wR (j9 - (1 : Int)))) (gD aA j9))))), (1, (eI a1)), (2, (eI b2)), (7, (eI i7)), (8, (eI j8)), (9, (eI j9))]) ⟨[(0, (.msl 1 lo0p 0 (List.length aA))), (1, (eI a1)), (2, (eI b2)), (7, (eI i7)), (8, (eI j8)), (9, (eI j9))], by kernel_rfl, rfl, ⟨aN.eq (by simp []), aN.refl _, aN.refl _, aN.refl _, aN.refl _, aN.refl _, trivial⟩⟩ ?_
          refine aG (aY (aF (?_)))
          refine aW aD 3 ?_
          refine bD ?_
          exact aG (aF (⟨rfl, _, (oI h2).symm, .eq (by kernel_rfl), hO, hN⟩))
        refine eP 4 ?_
        obtain rfl := oI h2
        obtain rfl : _ = rr1 := ho1
        replace h1 : cK aA a1 b2 i7 j8 = some out1 := h1
        exact aG (aS (aS (bP (aF (⟨rfl, _, .eq (by kernel_rfl), hO, hN, h1⟩)))))
      refine bG ?_
      exact aG (aF (⟨rfl, _, .eq (by kernel_rfl), hO, hN, h1⟩))
    refine bZ 2 ?_
    refine eZ [(0, (.msl 1 lo0p 0 (List.length aA))), (1, (eI a1)), (2, (eI b2)), (7, (eI i7)), (8, (eI j8))] ?_
    refine dO (fun T H => ∃ aA : List Int, ∃ i7 : Int, Has T [(0, (.msl 1 lo0p 0 (List.length aA))), (1, (eI a1)), (2, (eI b2)), (7, (eI i7)), (8, (eI j8))] ∧ aL ⟨H0, [lo0p], []⟩ H [(lo0p, 1, List.map (eI) aA)] ∧ List.length aA = N0 ∧ dD aA a1 b2 i7 j8 = some out1) ?_ ⟨aA, i7, .eq (by kernel_rfl), hO, hN, h1⟩
    clear hO hN h1
    rintro T H ⟨aA, i7, hT, hO, hN, h1⟩
    refine bC hT ?_
    clear hT
    unfold dD at h1
    obtain ⟨rr1, hl1, h1⟩ := aZ h1
    refine cP (by kernel_rfl) (fun (s : List Int × Int) T H => Has T [(0, (.msl 1 lo0p 0 (List.length s.1))), (1, (eI a1)), (2, (eI b2)), (7, (eI s.2)), (8, (eI j8))] ∧ aL ⟨H0, [lo0p], []⟩ H [(lo0p, 1, List.map (eI) s.1)] ∧ List.length s.1 = N0) hl1 ⟨.eq (by kernel_rfl), hO, hN⟩ ?_
    clear hO hN
    rintro k1 s out2 T H ⟨hT, hO, hN⟩ h2 ho1
    obtain ⟨aA, i7⟩ := s
    replace h2 : cR a1 b2 j8 aA i7 = some out2 := h2
    try dsimp only at hT
    refine bC hT ?_
    clear hT
    unfold cR at h2
    refine aP ?_
    refine aP ?_
    obtain ⟨c32, h2⟩ := aR h2
    obtain ⟨c33, h2⟩ := aR h2
    obtain ⟨x34, hx35, h2⟩ := aZ h2
    refine eC (eE []) aD 16 ?_
    refine lR (K := fun T H => Has (lift T) [(0, (.msl 1 lo0p 0 (List.length aA))), (1, (eI a1)), (2, (eI b2)), (7, (eI i7)), (8, (eI j8)), (32, (aE ((decide (i7 < b2)) && (!x34))))] ∧ aL ⟨H0, [lo0p], []⟩ H [(lo0p, 1, List.map (eI) aA)]) ?_ ?_
    · refine kR 4 ?_
      refine jR (t := 20) (e := decide (i7 < b2)) (by kernel_rfl) (fun hg36 => ?_) (fun hg36 => ?_)
      · refine cB 7 [0 ≤ i7 ∧ i7 < (lN aA)] ⟨(c32 hg36), trivial⟩ ?_
        refine iB 0 lo0p 1 (0 + Int.toNat i7) (eI (gD aA i7)) (eI (gD aA i7)) (List.map (eI) aA) (by kernel_rfl) (by kernel_rfl) (by kernel_rfl) hO (by kernel_rfl) (bY (c32 hg36)) ?_
        refine cB 12 [0 ≤ (wR (i7 - (1 : Int))) ∧ (wR (i7 - (1 : Int))) < (lN aA)] ⟨(c33 hg36), trivial⟩ ?_
        refine iB 0 lo0p 1 (0 + Int.toNat (wR (i7 - (1 : Int)))) (eI (gD aA (wR (i7 - (1 : Int))))) (eI (gD aA (wR (i7 - (1 : Int))))) (List.map (eI) aA) (by kernel_rfl) (by kernel_rfl) (by kernel_rfl) hO (by kernel_rfl) (bY (c33 hg36)) ?_
        refine lS 70 [(eI (gD aA i7)), (eI (gD aA (wR (i7 - (1 : Int)))))] (aE x34) (by kernel_rfl) (by kernel_rfl) (fF (gD aA i7) (gD aA (wR (i7 - (1 : Int)))) _ (iV hx35 hg36)) hO ?_
        intro H hO
        refine gG ?_
        exact ⟨⟨[(0, (.msl 1 lo0p 0 (List.length aA))), (1, (eI a1)), (2, (eI b2)), (7, (eI i7)), (8, (eI j8)), (32, (aE (!x34)))], by kernel_rfl, rfl, ⟨aN.refl _, aN.refl _, aN.refl _, aN.refl _, aN.refl _, aN.eq (congrArg aE (fV hg36 rfl).symm), trivial⟩⟩, hO⟩
      refine gG ?_
      exact ⟨⟨[(0, (.msl 1 lo0p 0 (List.length aA))), (1, (eI a1)), (2, (eI b2)), (7, (eI i7)), (8, (eI j8)), (32, (aE false))], by kernel_rfl, rfl, ⟨aN.refl _, aN.refl _, aN.refl _, aN.refl _, aN.refl _, aN.eq (congrArg aE (fV hg36 rfl).symm), trivial⟩⟩, hO⟩
    · rintro T H ⟨hT, hO⟩
      refine dA hT ?_
      clear hT
      refine aG (aF ?_)
      refine bF h2 (fun h2 => ?_) (fun h2 => ?_)
      · refine bG ?_
        refine bE [(0, (.msl 1 lo0p 0 (List.length aA))), (1, (eI a1)), (2, (eI b2)), (7, (eI i7)), (8, (eI j8))] ?_
        refine bZ 3 ?_
        refine aW aD 3 ?_
        refine bD ?_
        exact aG (aY (aF (⟨rfl, _, (oI h2).symm, .eq (by kernel_rfl), hO, hN⟩)))
      refine eP 2 ?_
      obtain rfl := oI h2
      obtain rfl : _ = rr1 := ho1
      replace h1 : eH aA a1 b2 i7 j8 = some out1 := h1
      exact aG (aS (aS (bP (aF (⟨rfl, _, _, .eq (by kernel_rfl), hO, hN, h1⟩)))))
  refine eP 0 ?_
  obtain rfl := oI h1
  obtain rfl : _ = rr0 := ho0
  replace h0 : eJ aA = some r := h0
  exact aG (aS (aS (bP (aF (⟨rfl, _, .eq (by kernel_rfl), hO, hN, h0⟩)))))

end Go.Abs
