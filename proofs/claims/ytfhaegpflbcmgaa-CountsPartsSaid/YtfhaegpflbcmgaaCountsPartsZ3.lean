/- What the law CountsParts stands on: the framework, the given functions as plain functions, their walks, and the plain laws; part 3. -/
import Derived.Test.YtfhaegpflbcmgaaCountsPartsZ2
set_option linter.unusedSimpArgs false
set_option linter.unusedVariables false
namespace Go.Abs
open Go
noncomputable def fV (aA : List Int) (a1 : Int) (b2 : Int) (i7 : Int) (j8 : Int) (j10 : Int) : Option ((List Int × Int × Int) ⊕ ((List Int) ⊕ (Bool × (List Int)))) :=
  (lp (fun s => cR a1 b2 i7 j8 s.1 s.2) (aA, j10)).bind (fun rr => dN rr a1 b2 i7 j8)

noncomputable def cK (aA : List Int) (a1 : Int) (b2 : Int) (i7 : Int) (j8 : Int) : Option ((List Int × Int × Int) ⊕ ((List Int) ⊕ (Bool × (List Int)))) :=
  cond (decide ((2 : Int) ≤ (IntKind.i64.wrap (b2 - i7))))
  (fV aA a1 b2 i7 j8 (IntKind.i64.wrap (i7 + (1 : Int))))
  (dN aA a1 b2 i7 j8)

noncomputable def cL (a1 : Int) (b2 : Int) (i7 : Int) (j8 : Int) (aA : List Int) (j9 : Int) : Option ((List Int × Int) ⊕ ((List Int))) :=
  cond (decide ((1 : Int) ≤ j9))
  (bA (0 ≤ j9 ∧ j9 < ((List.length aA : Nat) : Int)) <|
  bA (0 ≤ (IntKind.i64.wrap (j9 - (1 : Int))) ∧ (IntKind.i64.wrap (j9 - (1 : Int))) < ((List.length aA : Nat) : Int)) <|
  (cW (List.getD aA (Int.toNat j9) default) (List.getD aA (Int.toNat (IntKind.i64.wrap (j9 - (1 : Int)))) default)).bind fun x24 =>
  cond (!x24)
  (some (.inr aA))
  (bA (0 ≤ (IntKind.i64.wrap (j9 - (1 : Int))) ∧ (IntKind.i64.wrap (j9 - (1 : Int))) < ((List.length aA : Nat) : Int)) <|
  bA (0 ≤ j9 ∧ j9 < ((List.length aA : Nat) : Int)) <|
  bA (0 ≤ j9 ∧ j9 < ((List.length aA : Nat) : Int)) <|
  bA (0 ≤ (IntKind.i64.wrap (j9 - (1 : Int))) ∧ (IntKind.i64.wrap (j9 - (1 : Int))) < ((List.length aA : Nat) : Int)) <|
  some (.inl (List.set (List.set aA (Int.toNat j9) (List.getD aA (Int.toNat (IntKind.i64.wrap (j9 - (1 : Int)))) default)) (Int.toNat (IntKind.i64.wrap (j9 - (1 : Int)))) (List.getD aA (Int.toNat j9) default), IntKind.i64.wrap (j9 - (1 : Int))))))
  (some (.inr aA))

noncomputable def fY (aA : List Int) (a1 : Int) (b2 : Int) (i7 : Int) (j8 : Int) (j9 : Int) : Option ((List Int × Int × Int) ⊕ ((List Int) ⊕ (Bool × (List Int)))) :=
  (lp (fun s => cL a1 b2 i7 j8 s.1 s.2) (aA, j9)).bind (fun rr => cK rr a1 b2 i7 j8)

noncomputable def eH (aA : List Int) (a1 : Int) (b2 : Int) (i7 : Int) (j8 : Int) : Option ((List Int × Int × Int) ⊕ ((List Int) ⊕ (Bool × (List Int)))) :=
  cond (decide (i7 = b2))
  (some (.inr (.inr (true, aA))))
  (cond (decide ((IntKind.i64.wrap (b2 - a1)) < (50 : Int)))
  (some (.inr (.inr (false, aA))))
  (bA (0 ≤ (IntKind.i64.wrap (i7 - (1 : Int))) ∧ (IntKind.i64.wrap (i7 - (1 : Int))) < ((List.length aA : Nat) : Int)) <|
  bA (0 ≤ i7 ∧ i7 < ((List.length aA : Nat) : Int)) <|
  bA (0 ≤ i7 ∧ i7 < ((List.length aA : Nat) : Int)) <|
  bA (0 ≤ (IntKind.i64.wrap (i7 - (1 : Int))) ∧ (IntKind.i64.wrap (i7 - (1 : Int))) < ((List.length aA : Nat) : Int)) <|
  cond (decide ((2 : Int) ≤ (IntKind.i64.wrap (i7 - a1))))
  (fY (List.set (List.set aA (Int.toNat i7) (List.getD aA (Int.toNat (IntKind.i64.wrap (i7 - (1 : Int)))) default)) (Int.toNat (IntKind.i64.wrap (i7 - (1 : Int)))) (List.getD aA (Int.toNat i7) default)) a1 b2 i7 j8 (IntKind.i64.wrap (i7 - (1 : Int))))
  (cK (List.set (List.set aA (Int.toNat i7) (List.getD aA (Int.toNat (IntKind.i64.wrap (i7 - (1 : Int)))) default)) (Int.toNat (IntKind.i64.wrap (i7 - (1 : Int)))) (List.getD aA (Int.toNat i7) default)) a1 b2 i7 j8)))

noncomputable def cS (a1 : Int) (b2 : Int) (j8 : Int) (aA : List Int) (i7 : Int) : Option ((List Int × Int) ⊕ ((List Int × Int))) :=
  bA ((((decide (i7 < b2))) = true → 0 ≤ i7 ∧ i7 < ((List.length aA : Nat) : Int))) <|
  bA ((((decide (i7 < b2))) = true → 0 ≤ (IntKind.i64.wrap (i7 - (1 : Int))) ∧ (IntKind.i64.wrap (i7 - (1 : Int))) < ((List.length aA : Nat) : Int))) <|
  (cV (decide (i7 < b2)) (cW (List.getD aA (Int.toNat i7) default) (List.getD aA (Int.toNat (IntKind.i64.wrap (i7 - (1 : Int)))) default))).bind fun x34 =>
  cond ((decide (i7 < b2)) && (!x34))
  (some (.inl (aA, IntKind.i64.wrap (i7 + (1 : Int)))))
  (some (.inr (aA, i7)))

noncomputable def dD (aA : List Int) (a1 : Int) (b2 : Int) (i7 : Int) (j8 : Int) : Option ((List Int × Int × Int) ⊕ ((List Int) ⊕ (Bool × (List Int)))) :=
  (lp (fun s => cS a1 b2 j8 s.1 s.2) (aA, i7)).bind (fun rr => eH rr.1 a1 b2 rr.2 j8)

noncomputable def cA (a1 : Int) (b2 : Int) (aA : List Int) (i7 : Int) (j8 : Int) : Option ((List Int × Int × Int) ⊕ ((List Int) ⊕ (Bool × (List Int)))) :=
  cond (decide (j8 < (5 : Int)))
  (dD aA a1 b2 i7 j8)
  (some (.inr (.inl aA)))

noncomputable def fX (aA : List Int) (a1 : Int) (b2 : Int) (i7 : Int) (j8 : Int) : Option (Bool × List Int) :=
  (lp (fun s => cA a1 b2 s.1 s.2.1 s.2.2) (aA, i7, j8)).bind (Sum.elim (fun rr => eJ rr) (fun rr => some (rr.1, rr.2)))

noncomputable def eS (aA : (List Int)) (a1 : Int) (b2 : Int) : Option (Bool × List Int) :=
  fX aA a1 b2 (IntKind.i64.wrap (a1 + (1 : Int))) (0 : Int)

noncomputable def iP (aA : List Int) (i9 : Int) : Option (Int × List Int) :=
  some (i9, aA)

noncomputable def dS (aA : List Int) (a1 : Int) (i9 : Int) (j10 : Int) : Option ((List Int × Int × Int) ⊕ ((List Int × Int))) :=
  cond (decide (j10 < i9))
  (some (.inr (aA, i9)))
  (bA (0 ≤ j10 ∧ j10 < ((List.length aA : Nat) : Int)) <|
  bA (0 ≤ i9 ∧ i9 < ((List.length aA : Nat) : Int)) <|
  bA (0 ≤ i9 ∧ i9 < ((List.length aA : Nat) : Int)) <|
  bA (0 ≤ j10 ∧ j10 < ((List.length aA : Nat) : Int)) <|
  some (.inl (List.set (List.set aA (Int.toNat i9) (List.getD aA (Int.toNat j10) default)) (Int.toNat j10) (List.getD aA (Int.toNat i9) default), IntKind.i64.wrap (i9 + (1 : Int)), IntKind.i64.wrap (j10 - (1 : Int)))))

noncomputable def dQ (a1 : Int) (i9 : Int) (aA : List Int) (j10 : Int) : Option ((List Int × Int) ⊕ ((List Int × Int))) :=
  bA ((((decide (i9 ≤ j10))) = true → 0 ≤ a1 ∧ a1 < ((List.length aA : Nat) : Int))) <|
  bA ((((decide (i9 ≤ j10))) = true → 0 ≤ j10 ∧ j10 < ((List.length aA : Nat) : Int))) <|
  (cV (decide (i9 ≤ j10)) (cW (List.getD aA (Int.toNat a1) default) (List.getD aA (Int.toNat j10) default))).bind fun x12 =>
  cond ((decide (i9 ≤ j10)) && x12)
  (some (.inl (aA, IntKind.i64.wrap (j10 - (1 : Int)))))
  (some (.inr (aA, j10)))

noncomputable def iS (aA : List Int) (a1 : Int) (i9 : Int) (j10 : Int) : Option ((List Int × Int × Int) ⊕ ((List Int × Int))) :=
  (lp (fun s => dQ a1 i9 s.1 s.2) (aA, j10)).bind (fun rr => dS rr.1 a1 i9 rr.2)

noncomputable def fS (aA : List Int) (a1 : Int) (i9 : Int) (j10 : Int) : Option ((List Int × Int × Int) ⊕ ((List Int × Int))) :=
  iS aA a1 i9 j10

noncomputable def dO (a1 : Int) (j10 : Int) (aA : List Int) (i9 : Int) : Option ((List Int × Int) ⊕ ((List Int × Int))) :=
  bA ((((decide (i9 ≤ j10))) = true → 0 ≤ a1 ∧ a1 < ((List.length aA : Nat) : Int))) <|
  bA ((((decide (i9 ≤ j10))) = true → 0 ≤ i9 ∧ i9 < ((List.length aA : Nat) : Int))) <|
  (cV (decide (i9 ≤ j10)) (cW (List.getD aA (Int.toNat a1) default) (List.getD aA (Int.toNat i9) default))).bind fun x18 =>
  cond ((decide (i9 ≤ j10)) && (!x18))
  (some (.inl (aA, IntKind.i64.wrap (i9 + (1 : Int)))))
  (some (.inr (aA, i9)))

noncomputable def iU (aA : List Int) (a1 : Int) (i9 : Int) (j10 : Int) : Option ((List Int × Int × Int) ⊕ ((List Int × Int))) :=
  (lp (fun s => dO a1 j10 s.1 s.2) (aA, i9)).bind (fun rr => fS rr.1 a1 rr.2 j10)

noncomputable def cU (a1 : Int) (aA : List Int) (i9 : Int) (j10 : Int) : Option ((List Int × Int × Int) ⊕ ((List Int × Int))) :=
  iU aA a1 i9 j10

noncomputable def iR (aA : List Int) (a1 : Int) (i9 : Int) (j10 : Int) : Option (Int × List Int) :=
  (lp (fun s => cU a1 s.1 s.2.1 s.2.2) (aA, i9, j10)).bind (fun rr => iP rr.1 rr.2)

noncomputable def eV (aA : (List Int)) (a1 : Int) (b2 : Int) (cM : Int) : Option (Int × List Int) :=
  bA (0 ≤ cM ∧ cM < ((List.length aA : Nat) : Int)) <|
  bA (0 ≤ a1 ∧ a1 < ((List.length aA : Nat) : Int)) <|
  bA (0 ≤ a1 ∧ a1 < ((List.length aA : Nat) : Int)) <|
  bA (0 ≤ cM ∧ cM < ((List.length aA : Nat) : Int)) <|
  iR (List.set (List.set aA (Int.toNat a1) (List.getD aA (Int.toNat cM) default)) (Int.toNat cM) (List.getD aA (Int.toNat a1) default)) a1 (IntKind.i64.wrap (a1 + (1 : Int))) (IntKind.i64.wrap (b2 - (1 : Int)))

noncomputable def iI (aA : List Int) (a1 : Int) (j11 : Int) : Option ((Int × Bool) × List Int) :=
  bA (0 ≤ a1 ∧ a1 < ((List.length aA : Nat) : Int)) <|
  bA (0 ≤ j11 ∧ j11 < ((List.length aA : Nat) : Int)) <|
  bA (0 ≤ j11 ∧ j11 < ((List.length aA : Nat) : Int)) <|
  bA (0 ≤ a1 ∧ a1 < ((List.length aA : Nat) : Int)) <|
  some ((j11, false), (List.set (List.set aA (Int.toNat j11) (List.getD aA (Int.toNat a1) default)) (Int.toNat a1) (List.getD aA (Int.toNat j11) default)))

noncomputable def eM (aA : List Int) (a1 : Int) (i10 : Int) (j11 : Int) : Option ((List Int × Int × Int) ⊕ ((List Int × Int))) :=
  cond (decide (j11 < i10))
  (some (.inr (aA, j11)))
  (bA (0 ≤ j11 ∧ j11 < ((List.length aA : Nat) : Int)) <|
  bA (0 ≤ i10 ∧ i10 < ((List.length aA : Nat) : Int)) <|
  bA (0 ≤ i10 ∧ i10 < ((List.length aA : Nat) : Int)) <|
  bA (0 ≤ j11 ∧ j11 < ((List.length aA : Nat) : Int)) <|
  some (.inl (List.set (List.set aA (Int.toNat i10) (List.getD aA (Int.toNat j11) default)) (Int.toNat j11) (List.getD aA (Int.toNat i10) default), IntKind.i64.wrap (i10 + (1 : Int)), IntKind.i64.wrap (j11 - (1 : Int)))))

noncomputable def eP (a1 : Int) (i10 : Int) (aA : List Int) (j11 : Int) : Option ((List Int × Int) ⊕ ((List Int × Int))) :=
  bA ((((decide (i10 ≤ j11))) = true → 0 ≤ j11 ∧ j11 < ((List.length aA : Nat) : Int))) <|
  bA ((((decide (i10 ≤ j11))) = true → 0 ≤ a1 ∧ a1 < ((List.length aA : Nat) : Int))) <|
  (cV (decide (i10 ≤ j11)) (cW (List.getD aA (Int.toNat j11) default) (List.getD aA (Int.toNat a1) default))).bind fun x25 =>
  cond ((decide (i10 ≤ j11)) && (!x25))
  (some (.inl (aA, IntKind.i64.wrap (j11 - (1 : Int)))))
  (some (.inr (aA, j11)))

noncomputable def kD (aA : List Int) (a1 : Int) (i10 : Int) (j11 : Int) : Option ((List Int × Int × Int) ⊕ ((List Int × Int))) :=
  (lp (fun s => eP a1 i10 s.1 s.2) (aA, j11)).bind (fun rr => eM rr.1 a1 i10 rr.2)

noncomputable def iH (aA : List Int) (a1 : Int) (i10 : Int) (j11 : Int) : Option ((List Int × Int × Int) ⊕ ((List Int × Int))) :=
  kD aA a1 i10 j11

noncomputable def eN (a1 : Int) (j11 : Int) (aA : List Int) (i10 : Int) : Option ((List Int × Int) ⊕ ((List Int × Int))) :=
  bA ((((decide (i10 ≤ j11))) = true → 0 ≤ i10 ∧ i10 < ((List.length aA : Nat) : Int))) <|
  bA ((((decide (i10 ≤ j11))) = true → 0 ≤ a1 ∧ a1 < ((List.length aA : Nat) : Int))) <|
  (cV (decide (i10 ≤ j11)) (cW (List.getD aA (Int.toNat i10) default) (List.getD aA (Int.toNat a1) default))).bind fun x31 =>
  cond ((decide (i10 ≤ j11)) && x31)
  (some (.inl (aA, IntKind.i64.wrap (i10 + (1 : Int)))))
  (some (.inr (aA, i10)))

noncomputable def kF (aA : List Int) (a1 : Int) (i10 : Int) (j11 : Int) : Option ((List Int × Int × Int) ⊕ ((List Int × Int))) :=
  (lp (fun s => eN a1 j11 s.1 s.2) (aA, i10)).bind (fun rr => iH rr.1 a1 rr.2 j11)

noncomputable def dK (a1 : Int) (aA : List Int) (i10 : Int) (j11 : Int) : Option ((List Int × Int × Int) ⊕ ((List Int × Int))) :=
  kF aA a1 i10 j11

noncomputable def jZ (aA : List Int) (a1 : Int) (i10 : Int) (j11 : Int) : Option ((Int × Bool) × List Int) :=
  (lp (fun s => dK a1 s.1 s.2.1 s.2.2) (aA, i10, j11)).bind (fun rr => iI rr.1 a1 rr.2)

noncomputable def eR (aA : List Int) (a1 : Int) (i10 : Int) (j11 : Int) : Option ((Int × Bool) × List Int) :=
  cond (decide (j11 < i10))
  (bA (0 ≤ a1 ∧ a1 < ((List.length aA : Nat) : Int)) <|
  bA (0 ≤ j11 ∧ j11 < ((List.length aA : Nat) : Int)) <|
  bA (0 ≤ j11 ∧ j11 < ((List.length aA : Nat) : Int)) <|
  bA (0 ≤ a1 ∧ a1 < ((List.length aA : Nat) : Int)) <|
  some ((j11, true), (List.set (List.set aA (Int.toNat j11) (List.getD aA (Int.toNat a1) default)) (Int.toNat a1) (List.getD aA (Int.toNat j11) default))))
  (bA (0 ≤ j11 ∧ j11 < ((List.length aA : Nat) : Int)) <|
  bA (0 ≤ i10 ∧ i10 < ((List.length aA : Nat) : Int)) <|
  bA (0 ≤ i10 ∧ i10 < ((List.length aA : Nat) : Int)) <|
  bA (0 ≤ j11 ∧ j11 < ((List.length aA : Nat) : Int)) <|
  jZ (List.set (List.set aA (Int.toNat i10) (List.getD aA (Int.toNat j11) default)) (Int.toNat j11) (List.getD aA (Int.toNat i10) default)) a1 (IntKind.i64.wrap (i10 + (1 : Int))) (IntKind.i64.wrap (j11 - (1 : Int))))

noncomputable def eO (a1 : Int) (i10 : Int) (aA : List Int) (j11 : Int) : Option ((List Int × Int) ⊕ ((List Int × Int))) :=
  bA ((((decide (i10 ≤ j11))) = true → 0 ≤ j11 ∧ j11 < ((List.length aA : Nat) : Int))) <|
  bA ((((decide (i10 ≤ j11))) = true → 0 ≤ a1 ∧ a1 < ((List.length aA : Nat) : Int))) <|
  (cV (decide (i10 ≤ j11)) (cW (List.getD aA (Int.toNat j11) default) (List.getD aA (Int.toNat a1) default))).bind fun x37 =>
  cond ((decide (i10 ≤ j11)) && (!x37))
  (some (.inl (aA, IntKind.i64.wrap (j11 - (1 : Int)))))
  (some (.inr (aA, j11)))

noncomputable def kG (aA : List Int) (a1 : Int) (i10 : Int) (j11 : Int) : Option ((Int × Bool) × List Int) :=
  (lp (fun s => eO a1 i10 s.1 s.2) (aA, j11)).bind (fun rr => eR rr.1 a1 i10 rr.2)

noncomputable def iG (aA : List Int) (a1 : Int) (i10 : Int) (j11 : Int) : Option ((Int × Bool) × List Int) :=
  kG aA a1 i10 j11

noncomputable def eG (a1 : Int) (j11 : Int) (aA : List Int) (i10 : Int) : Option ((List Int × Int) ⊕ ((List Int × Int))) :=
  bA ((((decide (i10 ≤ j11))) = true → 0 ≤ i10 ∧ i10 < ((List.length aA : Nat) : Int))) <|
  bA ((((decide (i10 ≤ j11))) = true → 0 ≤ a1 ∧ a1 < ((List.length aA : Nat) : Int))) <|
  (cV (decide (i10 ≤ j11)) (cW (List.getD aA (Int.toNat i10) default) (List.getD aA (Int.toNat a1) default))).bind fun x43 =>
  cond ((decide (i10 ≤ j11)) && x43)
  (some (.inl (aA, IntKind.i64.wrap (i10 + (1 : Int)))))
  (some (.inr (aA, i10)))

noncomputable def fN (aA : List Int) (a1 : Int) (i10 : Int) (j11 : Int) : Option ((Int × Bool) × List Int) :=
  (lp (fun s => eG a1 j11 s.1 s.2) (aA, i10)).bind (fun rr => iG rr.1 a1 rr.2 j11)

noncomputable def gF (aA : (List Int)) (a1 : Int) (b2 : Int) (cM : Int) : Option ((Int × Bool) × List Int) :=
  bA (0 ≤ cM ∧ cM < ((List.length aA : Nat) : Int)) <|
  bA (0 ≤ a1 ∧ a1 < ((List.length aA : Nat) : Int)) <|
  bA (0 ≤ a1 ∧ a1 < ((List.length aA : Nat) : Int)) <|
  bA (0 ≤ cM ∧ cM < ((List.length aA : Nat) : Int)) <|
  fN (List.set (List.set aA (Int.toNat a1) (List.getD aA (Int.toNat cM) default)) (Int.toNat cM) (List.getD aA (Int.toNat a1) default)) a1 (IntKind.i64.wrap (a1 + (1 : Int))) (IntKind.i64.wrap (b2 - (1 : Int)))

noncomputable def gP (rec : (List Int) → Int → Int → Int → Option (List Int)) (aA : List Int) (a1 : Int) (b2 : Int) (cC : Int) (bX : Bool) (bP : Bool) (dX : Int) (fP : Int) : Option ((List Int × Int × Int × Int × Bool × Bool) ⊕ ((List Int))) :=
  bA ((((decide ((0 : Int) < a1))) = true → 0 ≤ (IntKind.i64.wrap (a1 - (1 : Int))) ∧ (IntKind.i64.wrap (a1 - (1 : Int))) < ((List.length aA : Nat) : Int))) <|
  bA ((((decide ((0 : Int) < a1))) = true → 0 ≤ fP ∧ fP < ((List.length aA : Nat) : Int))) <|
  (cV (decide ((0 : Int) < a1)) (cW (List.getD aA (Int.toNat (IntKind.i64.wrap (a1 - (1 : Int)))) default) (List.getD aA (Int.toNat fP) default))).bind fun x16 =>
  cond ((decide ((0 : Int) < a1)) && (!x16))
  ((eV aA a1 b2 fP).bind fun x20 =>
  some (.inl (x20.2, x20.1, b2, cC, bX, bP)))
  ((gF aA a1 b2 fP).bind fun x23 =>
  bA ((8 : Int) ≠ 0) <|
  cond (decide ((IntKind.i64.wrap (x23.1.1 - a1)) < (IntKind.i64.wrap (b2 - x23.1.1))))
  ((rec x23.2 a1 x23.1.1 cC).bind fun x28 =>
  some (.inl (x28, IntKind.i64.wrap (x23.1.1 + (1 : Int)), b2, cC, decide ((IntKind.i64.wrap (Int.tdiv dX (8 : Int))) ≤ (IntKind.i64.wrap (x23.1.1 - a1))), x23.1.2)))
  ((rec x23.2 (IntKind.i64.wrap (x23.1.1 + (1 : Int))) b2 cC).bind fun x31 =>
  some (.inl (x31, a1, x23.1.1, cC, decide ((IntKind.i64.wrap (Int.tdiv dX (8 : Int))) ≤ (IntKind.i64.wrap (b2 - x23.1.1))), x23.1.2))))

noncomputable def gM (rec : (List Int) → Int → Int → Int → Option (List Int)) (aA : List Int) (a1 : Int) (b2 : Int) (cC : Int) (bX : Bool) (bP : Bool) (dX : Int) (fP : Int) (BK : Int) : Option ((List Int × Int × Int × Int × Bool × Bool) ⊕ ((List Int))) :=
  cond ((bX && bP) && (decide (BK = (1 : Int))))
  ((eS aA a1 b2).bind fun x35 =>
  cond x35.1
  (some (.inr x35.2))
  (gP rec x35.2 a1 b2 cC bX bP dX fP))
  (gP rec aA a1 b2 cC bX bP dX fP)

noncomputable def gO (rec : (List Int) → Int → Int → Int → Option (List Int)) (aA : List Int) (a1 : Int) (b2 : Int) (cC : Int) (bX : Bool) (bP : Bool) (dX : Int) : Option ((List Int × Int × Int × Int × Bool × Bool) ⊕ ((List Int))) :=
  (gX aA a1 b2).bind fun x9 =>
  cond (decide (x9.2 = (2 : Int)))
  ((gV aA a1 b2).bind fun x40 =>
  gM rec x40 a1 b2 cC bX bP dX (IntKind.i64.wrap ((IntKind.i64.wrap (b2 - (1 : Int))) - (IntKind.i64.wrap (x9.1 - a1)))) (1 : Int))
  (gM rec aA a1 b2 cC bX bP dX x9.1 x9.2)

noncomputable def eF (rec : (List Int) → Int → Int → Int → Option (List Int))  (aA : List Int) (a1 : Int) (b2 : Int) (cC : Int) (bX : Bool) (bP : Bool) : Option ((List Int × Int × Int × Int × Bool × Bool) ⊕ ((List Int))) :=
  cond (decide ((IntKind.i64.wrap (b2 - a1)) ≤ (12 : Int)))
  ((gK aA a1 b2).bind fun x2 =>
  some (.inr x2))
  (cond (decide (cC = (0 : Int)))
  ((jF aA a1 b2).bind fun x6 =>
  some (.inr x6))
  (cond (!bX)
  ((gL aA a1 b2).bind fun x44 =>
  gO rec x44 a1 b2 (IntKind.i64.wrap (cC - (1 : Int))) bX bP (IntKind.i64.wrap (b2 - a1)))
  (gO rec aA a1 b2 cC bX bP (IntKind.i64.wrap (b2 - a1)))))

noncomputable def kR (rec : (List Int) → Int → Int → Int → Option (List Int)) (aA : List Int) (a1 : Int) (b2 : Int) (cC : Int) (bX : Bool) (bP : Bool) : Option (List Int) :=
  (lp (fun s => eF rec s.1 s.2.1 s.2.2.1 s.2.2.2.1 s.2.2.2.2.1 s.2.2.2.2.2) (aA, a1, b2, cC, bX, bP)).bind (fun rr => some rr)

noncomputable def fQ (rec : (List Int) → Int → Int → Int → Option (List Int)) (aA : (List Int)) (a1 : Int) (b2 : Int) (cC : Int) : Option (List Int) :=
  kR rec aA a1 b2 cC true true

noncomputable def dI  : Nat → (List Int) → Int → Int → Int → Option (List Int)
  | 0 => fun _ _ _ _ => none
  | k + 1 => fQ (dI k)

noncomputable def jI (aA : (List Int)) (a1 : Int) (b2 : Int) (cC : Int) : Option (List Int) := OB (fun k => dI k aA a1 b2 cC)

noncomputable def kH (x0 : (List Int)) : Option (List Int) :=
  (kC (IntKind.u64.wrap ((List.length x0 : Nat) : Int))).bind fun x1 =>
  (jI x0 (0 : Int) ((List.length x0 : Nat) : Int) x1).bind fun x4 =>
  some x4

noncomputable def jY (s0 : List Int) : Option (List Int) :=
  some s0

noncomputable def mA (s0 : List Int) (k3 : Int) : Option ((List Int × Int) ⊕ ((List Int) ⊕ (List Int))) :=
  some (.inl (s0, IntKind.i64.wrap (k3 + (1 : Int))))

noncomputable def kB (s0 : List Int) (k3 : Int) : Option ((List Int × Int) ⊕ ((List Int) ⊕ (List Int))) :=
  bA (0 ≤ k3 ∧ k3 ≤ ((List.length s0 : Nat) : Int)) <|
  bA (0 ≤ k3 ∧ k3 ≤ ((List.length (jM (0 + Int.toNat k3) s0) : Nat) : Int)) <|
  bA (Int.toNat k3 ≤ List.length (jM (0 + Int.toNat k3) s0)) <|
  some (.inr (.inr (List.take (Int.toNat k3) (jM (0 + Int.toNat k3) s0))))

noncomputable def iQ (s0 : List Int) (k3 : Int) (k25 : Int) (s24o : Nat) (s24n : Nat) : Option ((List Int × Int × Int) ⊕ ((List Int × Int))) :=
  some (.inl (s0, k3, IntKind.i64.wrap (k25 + (1 : Int))))

noncomputable def fD (s24o : Nat) (s24n : Nat) (s0 : List Int) (k3 : Int) (k25 : Int) : Option ((List Int × Int × Int) ⊕ ((List Int × Int))) :=
  cond (decide (k25 < ((s24n : Nat) : Int)))
  (bA (0 ≤ k25 ∧ k25 < ((s24n : Nat) : Int)) <|
  bA ((s24o + Int.toNat k25) < List.length s0) <|
  bA (0 ≤ (IntKind.i64.wrap (k25 - (1 : Int))) ∧ (IntKind.i64.wrap (k25 - (1 : Int))) < ((s24n : Nat) : Int)) <|
  bA ((s24o + Int.toNat (IntKind.i64.wrap (k25 - (1 : Int)))) < List.length s0) <|
  cond (!decide ((List.getD s0 (s24o + Int.toNat k25) default) = (List.getD s0 (s24o + Int.toNat (IntKind.i64.wrap (k25 - (1 : Int)))) default)))
  (bA (0 ≤ k25 ∧ k25 < ((s24n : Nat) : Int)) <|
  bA ((s24o + Int.toNat k25) < List.length s0) <|
  bA (0 ≤ k3 ∧ k3 < ((List.length s0 : Nat) : Int)) <|
  iQ (List.set s0 (Int.toNat k3) (List.getD s0 (s24o + Int.toNat k25) default)) (IntKind.i64.wrap (k3 + (1 : Int))) k25 s24o s24n)
  (iQ s0 k3 k25 s24o s24n))
  (some (.inr (s0, k3)))

noncomputable def lY (s0 : List Int) (k3 : Int) (k25 : Int) (s24o : Nat) (s24n : Nat) : Option ((List Int × Int) ⊕ ((List Int) ⊕ (List Int))) :=
  (lp (fun s => fD s24o s24n s.1 s.2.1 s.2.2) (s0, k3, k25)).bind (fun rr => kB rr.1 rr.2)

noncomputable def gG  (s0 : List Int) (k3 : Int) : Option ((List Int × Int) ⊕ ((List Int) ⊕ (List Int))) :=
  cond (decide (k3 < ((List.length s0 : Nat) : Int)))
  (bA (0 ≤ k3 ∧ k3 < ((List.length s0 : Nat) : Int)) <|
  bA (0 ≤ (IntKind.i64.wrap (k3 - (1 : Int))) ∧ (IntKind.i64.wrap (k3 - (1 : Int))) < ((List.length s0 : Nat) : Int)) <|
  cond (decide ((List.getD s0 (Int.toNat k3) default) = (List.getD s0 (Int.toNat (IntKind.i64.wrap (k3 - (1 : Int)))) default)))
  (bA (0 ≤ k3 ∧ k3 ≤ ((List.length s0 : Nat) : Int)) <|
  lY s0 k3 (1 : Int) (0 + Int.toNat k3) (List.length s0 - Int.toNat k3))
  (mA s0 k3))
  (some (.inr (.inl s0)))

noncomputable def lX (s0 : List Int) (k3 : Int) : Option (List Int) :=
  (lp (fun s => gG s.1 s.2) (s0, k3)).bind (Sum.elim (fun rr => jY rr) (fun rr => some rr))

noncomputable def jD (s0 : (List Int)) : Option (List Int) :=
  cond (decide (((List.length s0 : Nat) : Int) < (2 : Int)))
  (some s0)
  (lX s0 (1 : Int))

noncomputable def oE (t7c0 : (List aI)) (out3 : List Int) (t8 : aI) : Option ((List Int) ⊕ (List Int)) :=
  bA ((List.length out3 + List.length ([t8.At])) * 8 ≤ 140737488355328 ∧ List.length out3 + List.length ([t8.At]) ≤ 9223372036854775807) <|
  some (.inl (out3 ++ ([t8.At])))

noncomputable def rA (out3 : List Int) (t7c0 : (List aI)) : Option (List Int) :=
  (lR (fun st t8 => rnd (fun (s : List Int) => oE t7c0 s t8) st) t7c0 (.inl out3)).bind (Sum.elim (fun (s : List Int) =>
  ((kH s).bind fun x10 =>
  (jD x10).bind fun x13 =>
  some x13))
  (fun (s : List Int) =>
  (none)))

noncomputable def mD (l0 : (List aI)) : Option (List Int) :=
  (nZ l0).bind fun x3 =>
  rA ([] : List Int) x3

noncomputable def pL (l0 : (List aI)) : Option ((List Int) × Int) :=
  (oD l0 (1 : Int)).bind fun x1 =>
  cond (!decide (x1 = (0 : Int)))
  (some ([], x1))
  ((mD l0).bind fun x5 =>
  some (x5, (0 : Int)))

noncomputable def nF (x0 : Int) : Option Bool :=
  some (!decide (x0 = x0))

noncomputable def iF (x0 : (List Int)) (fI : Int) (n6 : Int) (i7 : Int) : Option (Int × Bool) :=
  bA ((((decide (i7 < n6))) = true → 0 ≤ i7 ∧ i7 < ((List.length x0 : Nat) : Int))) <|
  bA ((((!(decide ((List.getD x0 (Int.toNat i7) default) = fI))) && (decide (i7 < n6))) = true → 0 ≤ i7 ∧ i7 < ((List.length x0 : Nat) : Int))) <|
  (cV ((!(decide ((List.getD x0 (Int.toNat i7) default) = fI))) && (decide (i7 < n6))) (nF (List.getD x0 (Int.toNat i7) default))).bind fun x3 =>
  (cV (x3 && ((!(decide ((List.getD x0 (Int.toNat i7) default) = fI))) && (decide (i7 < n6)))) (nF fI)).bind fun x6 =>
  some (i7, (decide (i7 < n6)) && ((decide ((List.getD x0 (Int.toNat i7) default) = fI)) || (x3 && x6)))

noncomputable def eT (x0 : (List Int)) (fI : Int) (n6 : Int) (i7 : Int) (j8 : Int) : Option ((Int × Int) ⊕ (Int)) :=
  cond (decide (i7 < j8))
  (bA (0 ≤ (1 : Int)) <|
  bA (0 ≤ (IntKind.i64.wrap (Int.fdiv (IntKind.u64.wrap (IntKind.i64.wrap (i7 + j8))) (2 ^ (min (Int.toNat (1 : Int)) 64)))) ∧ (IntKind.i64.wrap (Int.fdiv (IntKind.u64.wrap (IntKind.i64.wrap (i7 + j8))) (2 ^ (min (Int.toNat (1 : Int)) 64)))) < ((List.length x0 : Nat) : Int)) <|
  (cW (List.getD x0 (Int.toNat (IntKind.i64.wrap (Int.fdiv (IntKind.u64.wrap (IntKind.i64.wrap (i7 + j8))) (2 ^ (min (Int.toNat (1 : Int)) 64))))) default) fI).bind fun x12 =>
  cond x12
  (some (.inl (IntKind.i64.wrap ((IntKind.i64.wrap (Int.fdiv (IntKind.u64.wrap (IntKind.i64.wrap (i7 + j8))) (2 ^ (min (Int.toNat (1 : Int)) 64)))) + (1 : Int)), j8)))
  (some (.inl (i7, IntKind.i64.wrap (Int.fdiv (IntKind.u64.wrap (IntKind.i64.wrap (i7 + j8))) (2 ^ (min (Int.toNat (1 : Int)) 64)))))))
  (some (.inr i7))

noncomputable def jX (x0 : (List Int)) (fI : Int) (n6 : Int) (i7 : Int) (j8 : Int) : Option (Int × Bool) :=
  (lp (fun s => eT x0 fI n6 s.1 s.2) (i7, j8)).bind (fun rr => iF x0 fI n6 rr)

noncomputable def eZ (x0 : (List Int)) (fI : Int) : Option (Int × Bool) :=
  jX x0 fI ((List.length x0 : Nat) : Int) (0 : Int) ((List.length x0 : Nat) : Int)

noncomputable def rN (l0 : (List aI)) (n1 : Int) (t2 : Int) : Option (Int × Int) :=
  (oD l0 n1).bind fun x1 =>
  cond (!decide (x1 = (0 : Int)))
  (some ((0 : Int), x1))
  (cond ((decide (t2 < (0 : Int))) || (decide ((1125899906842624 : Int) < t2)))
  (some ((0 : Int), (13 : Int)))
  (cond (decide (t2 = (1125899906842624 : Int)))
  (some (t2, (0 : Int)))
  ((mD l0).bind fun x7 =>
  (eZ x7 t2).bind fun x10 =>
  cond (decide ((if (IntKind.i64.wrap ((IntKind.i64.wrap (x10.1 - n1)) + (1 : Int))) > (0 : Int) then (IntKind.i64.wrap ((IntKind.i64.wrap (x10.1 - n1)) + (1 : Int))) else (0 : Int)) = x10.1))
  (some (t2, (0 : Int)))
  (bA (0 ≤ (if (IntKind.i64.wrap ((IntKind.i64.wrap (x10.1 - n1)) + (1 : Int))) > (0 : Int) then (IntKind.i64.wrap ((IntKind.i64.wrap (x10.1 - n1)) + (1 : Int))) else (0 : Int)) ∧ (if (IntKind.i64.wrap ((IntKind.i64.wrap (x10.1 - n1)) + (1 : Int))) > (0 : Int) then (IntKind.i64.wrap ((IntKind.i64.wrap (x10.1 - n1)) + (1 : Int))) else (0 : Int)) < ((List.length x7 : Nat) : Int)) <|
  some (List.getD x7 (Int.toNat (if (IntKind.i64.wrap ((IntKind.i64.wrap (x10.1 - n1)) + (1 : Int))) > (0 : Int) then (IntKind.i64.wrap ((IntKind.i64.wrap (x10.1 - n1)) + (1 : Int))) else (0 : Int))) default, (0 : Int))))))

noncomputable def gU (s0 : (List aB)) : Option (List aB) :=
  bA (List.length s0 * 32 ≤ 140737488355328 ∧ List.length s0 ≤ 9223372036854775807) <|
  some s0

noncomputable def mV (tW : (List aI)) (t4 : aO) (p5 : aO) (t22 : aI) : Option ((aO × aO) ⊕ (aO × aO)) :=
  cond ((decide (t22.At < p5.Span.From)) || (decide (p5.Span.To ≤ t22.At)))
  (some (.inl (t4, p5)))
  (bA ((((decide ((0 : Int) ≤ (IntKind.i64.wrap (((List.length p5.Rows : Nat) : Int) - (1 : Int)))))) = true → 0 ≤ (IntKind.i64.wrap (((List.length p5.Rows : Nat) : Int) - (1 : Int))) ∧ (IntKind.i64.wrap (((List.length p5.Rows : Nat) : Int) - (1 : Int))) < ((List.length p5.Rows : Nat) : Int))) <|
  (cV (decide ((0 : Int) ≤ (IntKind.i64.wrap (((List.length p5.Rows : Nat) : Int) - (1 : Int))))) (fH ((List.getD p5.Rows (Int.toNat (IntKind.i64.wrap (((List.length p5.Rows : Nat) : Int) - (1 : Int)))) default).Row) t22.Row)).bind fun x13 =>
  cond ((decide ((0 : Int) ≤ (IntKind.i64.wrap (((List.length p5.Rows : Nat) : Int) - (1 : Int))))) && x13)
  (bA (0 ≤ (IntKind.i64.wrap (((List.length p5.Rows : Nat) : Int) - (1 : Int))) ∧ (IntKind.i64.wrap (((List.length p5.Rows : Nat) : Int) - (1 : Int))) < ((List.length p5.Rows : Nat) : Int)) <|
  bA (0 ≤ (IntKind.i64.wrap (((List.length p5.Rows : Nat) : Int) - (1 : Int))) ∧ (IntKind.i64.wrap (((List.length p5.Rows : Nat) : Int) - (1 : Int))) < ((List.length p5.Rows : Nat) : Int)) <|
  some (.inl (t4, aO.mk p5.Span (List.set p5.Rows (Int.toNat (IntKind.i64.wrap (((List.length p5.Rows : Nat) : Int) - (1 : Int)))) (bH.mk (List.getD p5.Rows (Int.toNat (IntKind.i64.wrap (((List.length p5.Rows : Nat) : Int) - (1 : Int)))) default).Row (IntKind.i64.wrap (((List.getD p5.Rows (Int.toNat (IntKind.i64.wrap (((List.length p5.Rows : Nat) : Int) - (1 : Int)))) default).N) + t22.Net)))))))
  ((gU t22.Row).bind fun x19 =>
  bA ((List.length p5.Rows + List.length ([bH.mk x19 t22.Net])) * 32 ≤ 140737488355328 ∧ List.length p5.Rows + List.length ([bH.mk x19 t22.Net]) ≤ 9223372036854775807) <|
  some (.inl (t4, aO.mk p5.Span (p5.Rows ++ ([bH.mk x19 t22.Net]))))))

noncomputable def rI (t4 : aO) (p5 : aO) (tW : (List aI)) : Option aO :=
  (lR (fun st t22 => rnd (fun (s : aO × aO) => mV tW s.1 s.2 t22) st) tW (.inl (t4, p5))).bind (Sum.elim (fun (s : aO × aO) =>
  (some s.2))
  (fun (s : aO × aO) =>
  (none)))

noncomputable def pI (l0 : (List aI)) (run1 : (List Int)) : Option aO :=
  bA (0 ≤ (0 : Int) ∧ (0 : Int) < ((List.length run1 : Nat) : Int)) <|
  bA (0 ≤ (IntKind.i64.wrap (((List.length run1 : Nat) : Int) - (1 : Int))) ∧ (IntKind.i64.wrap (((List.length run1 : Nat) : Int) - (1 : Int))) < ((List.length run1 : Nat) : Int)) <|
  (nZ l0).bind fun x6 =>
  rI (aO.mk (cE.mk 0 0) ([])) (aO.mk (cE.mk (List.getD run1 (Int.toNat (0 : Int)) default) (IntKind.i64.wrap ((List.getD run1 (Int.toNat (IntKind.i64.wrap (((List.length run1 : Nat) : Int) - (1 : Int)))) default) + (1 : Int)))) ([])) x6

noncomputable def sP (jL : List aO) : Option ((List aO) × Int) :=
  some (jL, (0 : Int))

noncomputable def kU (l0 : (List aI)) (n1 : Int) (kO : (List Int)) (jL : List aO) : Option (((List Int) × List aO) ⊕ ((List aO))) :=
  cond (decide (n1 ≤ ((List.length kO : Nat) : Int)))
  (bA (0 ≤ n1 ∧ n1 ≤ n1 ∧ n1 ≤ ((List.length kO : Nat) : Int)) <|
  (pI l0 (List.take (Int.toNat n1) kO)).bind fun x20 =>
  bA ((List.length jL + List.length ([x20])) * 40 ≤ 140737488355328 ∧ List.length jL + List.length ([x20]) ≤ 9223372036854775807) <|
  bA (0 ≤ (1 : Int) ∧ (1 : Int) ≤ ((List.length kO : Nat) : Int)) <|
  some (.inl (List.drop (Int.toNat (1 : Int)) kO, jL ++ ([x20]))))
  (some (.inr jL))

noncomputable def sU (l0 : (List aI)) (n1 : Int) (kO : (List Int)) (jL : List aO) : Option ((List aO) × Int) :=
  (lp (fun s => kU l0 n1 s.1 s.2) (kO, jL)).bind (fun rr => sP rr)

noncomputable def nW (l0 : (List aI)) (n1 : Int) (cD : Int) : Option ((List aO) × Int) :=
  (oD l0 n1).bind fun x1 =>
  cond (!decide (x1 = (0 : Int)))
  (some ([], x1))
  (cond ((decide (cD < (0 : Int))) || (decide ((1125899906842624 : Int) < cD)))
  (some ([], (13 : Int)))
  ((mD l0).bind fun x6 =>
  (eZ x6 cD).bind fun x9 =>
  bA (0 ≤ x9.1 ∧ x9.1 ≤ ((List.length x6 : Nat) : Int) ∧ ((List.length x6 : Nat) : Int) ≤ ((List.length x6 : Nat) : Int) ∧ ((List.length x6 : Nat) : Int) ≤ ((List.length x6 : Nat) : Int)) <|
  cond (decide ((1024 : Int) < (IntKind.i64.wrap ((IntKind.i64.wrap (((List.length (List.drop (Int.toNat x9.1) (List.take (Int.toNat ((List.length x6 : Nat) : Int)) x6)) : Nat) : Int) - n1)) + (1 : Int)))))
  (some ([], (7 : Int)))
  (sU l0 n1 (List.drop (Int.toNat x9.1) (List.take (Int.toNat ((List.length x6 : Nat) : Int)) x6)) ([] : List aO))))

noncomputable def qM  : Option Bool :=
  (pL ([aI.mk ([aB.mk (1 : Int) (1 : Int) ByteArray.empty]) (2 : Int) (1 : Int), aI.mk ([aB.mk (1 : Int) (2 : Int) ByteArray.empty]) (5 : Int) (1 : Int), aI.mk ([aB.mk (1 : Int) (2 : Int) ByteArray.empty]) (7 : Int) (-1 : Int), aI.mk ([aB.mk (1 : Int) (2 : Int) ByteArray.empty]) (8 : Int) (1 : Int)])).bind fun x1 =>
  (rN ([aI.mk ([aB.mk (1 : Int) (1 : Int) ByteArray.empty]) (2 : Int) (1 : Int), aI.mk ([aB.mk (1 : Int) (2 : Int) ByteArray.empty]) (5 : Int) (1 : Int), aI.mk ([aB.mk (1 : Int) (2 : Int) ByteArray.empty]) (7 : Int) (-1 : Int), aI.mk ([aB.mk (1 : Int) (2 : Int) ByteArray.empty]) (8 : Int) (1 : Int)]) (2 : Int) (6 : Int)).bind fun x4 =>
  (nW ([aI.mk ([aB.mk (1 : Int) (1 : Int) ByteArray.empty]) (2 : Int) (1 : Int), aI.mk ([aB.mk (1 : Int) (2 : Int) ByteArray.empty]) (5 : Int) (1 : Int), aI.mk ([aB.mk (1 : Int) (2 : Int) ByteArray.empty]) (7 : Int) (-1 : Int), aI.mk ([aB.mk (1 : Int) (2 : Int) ByteArray.empty]) (8 : Int) (1 : Int)]) (2 : Int) (0 : Int)).bind fun x7 =>
  bA (((((((((decide (x1.2 = (0 : Int))) && (decide (x4.2 = (0 : Int)))) && (decide (x7.2 = (0 : Int)))) && (decide (((List.length x1.1 : Nat) : Int) = (3 : Int)))) && (decide (x4.1 = (5 : Int)))) && (decide (((List.length x7.1 : Nat) : Int) = (2 : Int))))) = true → 0 ≤ (0 : Int) ∧ (0 : Int) < ((List.length x7.1 : Nat) : Int))) <|
  bA ((((((((((decide (x1.2 = (0 : Int))) && (decide (x4.2 = (0 : Int)))) && (decide (x7.2 = (0 : Int)))) && (decide (((List.length x1.1 : Nat) : Int) = (3 : Int)))) && (decide (x4.1 = (5 : Int)))) && (decide (((List.length x7.1 : Nat) : Int) = (2 : Int)))) && ((decide ((((List.getD x7.1 (Int.toNat (0 : Int)) default).Span).From) = ((cE.mk (2 : Int) (6 : Int)).From))) && ((decide ((((List.getD x7.1 (Int.toNat (0 : Int)) default).Span).To) = ((cE.mk (2 : Int) (6 : Int)).To))) && true)))) = true → 0 ≤ (0 : Int) ∧ (0 : Int) < ((List.length x7.1 : Nat) : Int))) <|
  bA (((((((((((decide (x1.2 = (0 : Int))) && (decide (x4.2 = (0 : Int)))) && (decide (x7.2 = (0 : Int)))) && (decide (((List.length x1.1 : Nat) : Int) = (3 : Int)))) && (decide (x4.1 = (5 : Int)))) && (decide (((List.length x7.1 : Nat) : Int) = (2 : Int)))) && ((decide ((((List.getD x7.1 (Int.toNat (0 : Int)) default).Span).From) = ((cE.mk (2 : Int) (6 : Int)).From))) && ((decide ((((List.getD x7.1 (Int.toNat (0 : Int)) default).Span).To) = ((cE.mk (2 : Int) (6 : Int)).To))) && true))) && (decide (((List.length ((List.getD x7.1 (Int.toNat (0 : Int)) default).Rows) : Nat) : Int) = (2 : Int))))) = true → 0 ≤ (1 : Int) ∧ (1 : Int) < ((List.length x7.1 : Nat) : Int))) <|
  bA ((((((((((((decide (x1.2 = (0 : Int))) && (decide (x4.2 = (0 : Int)))) && (decide (x7.2 = (0 : Int)))) && (decide (((List.length x1.1 : Nat) : Int) = (3 : Int)))) && (decide (x4.1 = (5 : Int)))) && (decide (((List.length x7.1 : Nat) : Int) = (2 : Int)))) && ((decide ((((List.getD x7.1 (Int.toNat (0 : Int)) default).Span).From) = ((cE.mk (2 : Int) (6 : Int)).From))) && ((decide ((((List.getD x7.1 (Int.toNat (0 : Int)) default).Span).To) = ((cE.mk (2 : Int) (6 : Int)).To))) && true))) && (decide (((List.length ((List.getD x7.1 (Int.toNat (0 : Int)) default).Rows) : Nat) : Int) = (2 : Int)))) && (decide (((List.length ((List.getD x7.1 (Int.toNat (1 : Int)) default).Rows) : Nat) : Int) = (1 : Int))))) = true → 0 ≤ (1 : Int) ∧ (1 : Int) < ((List.length x7.1 : Nat) : Int))) <|
  bA ((((((((((((decide (x1.2 = (0 : Int))) && (decide (x4.2 = (0 : Int)))) && (decide (x7.2 = (0 : Int)))) && (decide (((List.length x1.1 : Nat) : Int) = (3 : Int)))) && (decide (x4.1 = (5 : Int)))) && (decide (((List.length x7.1 : Nat) : Int) = (2 : Int)))) && ((decide ((((List.getD x7.1 (Int.toNat (0 : Int)) default).Span).From) = ((cE.mk (2 : Int) (6 : Int)).From))) && ((decide ((((List.getD x7.1 (Int.toNat (0 : Int)) default).Span).To) = ((cE.mk (2 : Int) (6 : Int)).To))) && true))) && (decide (((List.length ((List.getD x7.1 (Int.toNat (0 : Int)) default).Rows) : Nat) : Int) = (2 : Int)))) && (decide (((List.length ((List.getD x7.1 (Int.toNat (1 : Int)) default).Rows) : Nat) : Int) = (1 : Int))))) = true → 0 ≤ (0 : Int) ∧ (0 : Int) < ((List.length ((List.getD x7.1 (Int.toNat (1 : Int)) default).Rows) : Nat) : Int))) <|
  some ((((((((((decide (x1.2 = (0 : Int))) && (decide (x4.2 = (0 : Int)))) && (decide (x7.2 = (0 : Int)))) && (decide (((List.length x1.1 : Nat) : Int) = (3 : Int)))) && (decide (x4.1 = (5 : Int)))) && (decide (((List.length x7.1 : Nat) : Int) = (2 : Int)))) && ((decide ((((List.getD x7.1 (Int.toNat (0 : Int)) default).Span).From) = ((cE.mk (2 : Int) (6 : Int)).From))) && ((decide ((((List.getD x7.1 (Int.toNat (0 : Int)) default).Span).To) = ((cE.mk (2 : Int) (6 : Int)).To))) && true))) && (decide (((List.length ((List.getD x7.1 (Int.toNat (0 : Int)) default).Rows) : Nat) : Int) = (2 : Int)))) && (decide (((List.length ((List.getD x7.1 (Int.toNat (1 : Int)) default).Rows) : Nat) : Int) = (1 : Int)))) && (decide (((List.getD ((List.getD x7.1 (Int.toNat (1 : Int)) default).Rows) (Int.toNat (0 : Int)) default).N) = (2 : Int))))

noncomputable def pS (v0 : aB) : Option Bool :=
  cond (decide (v0.Kind = (1 : Int)))
  (some (nC v0.Text (⟨#[]⟩ : ByteArray)))
  (some (((decide (v0.Kind = (2 : Int))) && (decide (v0.Num = (0 : Int)))) && (decide (((ByteArray.size v0.Text : Nat) : Int) ≤ (64 : Int)))))

noncomputable def qL (r0 : (List aB)) : Option Bool :=
  some (decide (((List.length r0 : Nat) : Int) ≤ (8 : Int)))

noncomputable def oJ (r0 : (List aB)) (i3 : Int) : Option ((Int) ⊕ (Unit ⊕ Bool)) :=
  cond ((decide (i3 < ((List.length r0 : Nat) : Int))) && (decide (i3 < (9 : Int))))
  (bA (0 ≤ i3 ∧ i3 < ((List.length r0 : Nat) : Int)) <|
  (pS (List.getD r0 (Int.toNat i3) default)).bind fun x3 =>
  cond (!x3)
  (some (.inr (.inr false)))
  (some (.inl (IntKind.i64.wrap (i3 + (1 : Int))))))
  (some (.inr (.inl ())))

noncomputable def vS (r0 : (List aB)) (i3 : Int) : Option Bool :=
  (lp (fun s => oJ r0 s) i3).bind (Sum.elim (fun rr => qL r0) (fun rr => some rr))

noncomputable def pW (r0 : (List aB)) : Option Bool :=
  vS r0 (0 : Int)

noncomputable def tF  : Option Bool :=
  some true

noncomputable def kZ (f0 : (List aM)) (i3 : Int) : Option ((Int) ⊕ (Unit ⊕ Bool)) :=
  cond (decide (i3 < ((List.length f0 : Nat) : Int)))
  (bA (0 ≤ i3 ∧ i3 < ((List.length f0 : Nat) : Int)) <|
  bA ((((!(decide (((List.getD f0 (Int.toNat i3) default).At) < (-1 : Int))))) = true → 0 ≤ i3 ∧ i3 < ((List.length f0 : Nat) : Int))) <|
  bA ((((!((decide (((List.getD f0 (Int.toNat i3) default).At) < (-1 : Int))) || (decide ((1125899906842624 : Int) ≤ ((List.getD f0 (Int.toNat i3) default).At)))))) = true → 0 ≤ i3 ∧ i3 < ((List.length f0 : Nat) : Int))) <|
  bA ((((!(((decide (((List.getD f0 (Int.toNat i3) default).At) < (-1 : Int))) || (decide ((1125899906842624 : Int) ≤ ((List.getD f0 (Int.toNat i3) default).At)))) || (decide (((List.getD f0 (Int.toNat i3) default).Net) = (0 : Int)))))) = true → 0 ≤ i3 ∧ i3 < ((List.length f0 : Nat) : Int))) <|
  bA ((((!((((decide (((List.getD f0 (Int.toNat i3) default).At) < (-1 : Int))) || (decide ((1125899906842624 : Int) ≤ ((List.getD f0 (Int.toNat i3) default).At)))) || (decide (((List.getD f0 (Int.toNat i3) default).Net) = (0 : Int)))) || (decide ((1048576 : Int) < ((List.getD f0 (Int.toNat i3) default).Net)))))) = true → 0 ≤ i3 ∧ i3 < ((List.length f0 : Nat) : Int))) <|
  cond (((((decide (((List.getD f0 (Int.toNat i3) default).At) < (-1 : Int))) || (decide ((1125899906842624 : Int) ≤ ((List.getD f0 (Int.toNat i3) default).At)))) || (decide (((List.getD f0 (Int.toNat i3) default).Net) = (0 : Int)))) || (decide ((1048576 : Int) < ((List.getD f0 (Int.toNat i3) default).Net)))) || (decide (((List.getD f0 (Int.toNat i3) default).Net) < (-1048576 : Int))))
  (some (.inr (.inr false)))
  (bA ((((decide ((0 : Int) < i3))) = true → 0 ≤ i3 ∧ i3 < ((List.length f0 : Nat) : Int))) <|
  bA ((((decide ((0 : Int) < i3))) = true → 0 ≤ (IntKind.i64.wrap (i3 - (1 : Int))) ∧ (IntKind.i64.wrap (i3 - (1 : Int))) < ((List.length f0 : Nat) : Int))) <|
  cond ((decide ((0 : Int) < i3)) && (decide (((List.getD f0 (Int.toNat i3) default).At) ≤ ((List.getD f0 (Int.toNat (IntKind.i64.wrap (i3 - (1 : Int)))) default).At))))
  (some (.inr (.inr false)))
  (some (.inl (IntKind.i64.wrap (i3 + (1 : Int)))))))
  (some (.inr (.inl ())))

noncomputable def wJ (f0 : (List aM)) (i3 : Int) : Option Bool :=
  (lp (fun s => kZ f0 s) i3).bind (Sum.elim (fun rr => tF ) (fun rr => some rr))

noncomputable def pV (f0 : (List aM)) : Option Bool :=
  cond (decide ((1024 : Int) < ((List.length f0 : Nat) : Int)))
  (some false)
  (wJ f0 (0 : Int))

noncomputable def oG (a2 : aB) (b3 : aB) : Option Int :=
  cond (!decide (((ByteArray.size a2.Text : Nat) : Int) = ((ByteArray.size b3.Text : Nat) : Int)))
  (cond (decide (((ByteArray.size a2.Text : Nat) : Int) < ((ByteArray.size b3.Text : Nat) : Int)))
  (some (-1 : Int))
  (some (1 : Int)))
  (some (0 : Int))

noncomputable def iK (a2 : aB) (b3 : aB) (i5 : Int) : Option ((Int) ⊕ (Unit ⊕ Int)) :=
  cond ((decide (i5 < ((ByteArray.size a2.Text : Nat) : Int))) && (decide (i5 < ((ByteArray.size b3.Text : Nat) : Int))))
  (bA (0 ≤ i5 ∧ i5 < ((ByteArray.size a2.Text : Nat) : Int)) <|
  bA (0 ≤ i5 ∧ i5 < ((ByteArray.size b3.Text : Nat) : Int)) <|
  cond (!decide ((bt a2.Text i5) = (bt b3.Text i5)))
  (bA (0 ≤ i5 ∧ i5 < ((ByteArray.size a2.Text : Nat) : Int)) <|
  bA (0 ≤ i5 ∧ i5 < ((ByteArray.size b3.Text : Nat) : Int)) <|
  cond (decide ((bt a2.Text i5) < (bt b3.Text i5)))
  (some (.inr (.inr (-1 : Int))))
  (some (.inr (.inr (1 : Int)))))
  (some (.inl (IntKind.i64.wrap (i5 + (1 : Int))))))
  (some (.inr (.inl ())))

noncomputable def rC (a2 : aB) (b3 : aB) (i5 : Int) : Option Int :=
  (lp (fun s => iK a2 b3 s) i5).bind (Sum.elim (fun rr => oG a2 b3) (fun rr => some rr))

noncomputable def pH (a0 : aB) (b1 : aB) : Option Int :=
  (pS a0).bind fun x1 =>
  (cV (!(!x1)) (pS b1)).bind fun x4 =>
  cond ((!x1) || (!x4))
  (some (0 : Int))
  (cond (!decide (a0.Kind = b1.Kind))
  (cond (decide (a0.Kind = (1 : Int)))
  (some (-1 : Int))
  (some (1 : Int)))
  (cond (!decide (a0.Num = b1.Num))
  (cond (decide (a0.Num < b1.Num))
  (some (-1 : Int))
  (some (1 : Int)))
  (rC a0 b1 (0 : Int))))

noncomputable def oF (a0 : (List aB)) (b1 : (List aB)) : Option Int :=
  cond (decide (((List.length a0 : Nat) : Int) < ((List.length b1 : Nat) : Int)))
  (some (-1 : Int))
  (cond (decide (((List.length b1 : Nat) : Int) < ((List.length a0 : Nat) : Int)))
  (some (1 : Int))
  (some (0 : Int)))

noncomputable def iN (a0 : (List aB)) (b1 : (List aB)) (i5 : Int) : Option ((Int) ⊕ (Unit ⊕ Int)) :=
  cond ((decide (i5 < ((List.length a0 : Nat) : Int))) && (decide (i5 < ((List.length b1 : Nat) : Int))))
  (bA (0 ≤ i5 ∧ i5 < ((List.length a0 : Nat) : Int)) <|
  bA (0 ≤ i5 ∧ i5 < ((List.length b1 : Nat) : Int)) <|
  (pH (List.getD a0 (Int.toNat i5) default) (List.getD b1 (Int.toNat i5) default)).bind fun x13 =>
  cond (!decide (x13 = (0 : Int)))
  (some (.inr (.inr x13)))
  (some (.inl (IntKind.i64.wrap (i5 + (1 : Int))))))
  (some (.inr (.inl ())))

noncomputable def rE (a0 : (List aB)) (b1 : (List aB)) (i5 : Int) : Option Int :=
  (lp (fun s => iN a0 b1 s) i5).bind (Sum.elim (fun rr => oF a0 b1) (fun rr => some rr))

noncomputable def nJ (a0 : (List aB)) (b1 : (List aB)) : Option Int :=
  (pW a0).bind fun x1 =>
  (cV (!(!x1)) (pW b1)).bind fun x4 =>
  cond ((!x1) || (!x4))
  (some (0 : Int))
  (rE a0 b1 (0 : Int))

noncomputable def rT  : Option Bool :=
  some true

noncomputable def oX (a0 : (List aB)) (b1 : (List aB)) (i5 : Int) : Option ((Int) ⊕ (Unit ⊕ Bool)) :=
  cond (decide (i5 < ((List.length a0 : Nat) : Int)))
  (bA (0 ≤ i5 ∧ i5 < ((List.length a0 : Nat) : Int)) <|
  bA (0 ≤ i5 ∧ i5 < ((List.length b1 : Nat) : Int)) <|
  cond (!((decide (((List.getD a0 (Int.toNat i5) default).Kind) = ((List.getD b1 (Int.toNat i5) default).Kind))) && ((decide (((List.getD a0 (Int.toNat i5) default).Num) = ((List.getD b1 (Int.toNat i5) default).Num))) && ((nC ((List.getD a0 (Int.toNat i5) default).Text) ((List.getD b1 (Int.toNat i5) default).Text)) && true))))
  (some (.inr (.inr false)))
  (some (.inl (IntKind.i64.wrap (i5 + (1 : Int))))))
  (some (.inr (.inl ())))

noncomputable def uW (a0 : (List aB)) (b1 : (List aB)) (i5 : Int) : Option Bool :=
  (lp (fun s => oX a0 b1 s) i5).bind (Sum.elim (fun rr => rT ) (fun rr => some rr))

noncomputable def oA (a0 : (List aB)) (b1 : (List aB)) : Option Bool :=
  cond (!decide (((List.length a0 : Nat) : Int) = ((List.length b1 : Nat) : Int)))
  (some false)
  (uW a0 b1 (0 : Int))

noncomputable def vA (bL : List (List aB)) : Option (List (List aB)) :=
  some bL

noncomputable def rK (l0 : (List aI)) (bL : List (List aB)) (i4 : Int) : Option ((List (List aB) × Int) ⊕ ((List (List aB)))) :=
  some (.inl (bL, IntKind.i64.wrap (i4 + (1 : Int))))

noncomputable def sB (l0 : (List aI)) (bL : List (List aB)) (i4 : Int) (at5 : Int) : Option ((List (List aB) × Int) ⊕ ((List (List aB)))) :=
  bA ((((decide (at5 < ((List.length bL : Nat) : Int)))) = true → 0 ≤ at5 ∧ at5 < ((List.length bL : Nat) : Int))) <|
  bA ((((decide (at5 < ((List.length bL : Nat) : Int)))) = true → 0 ≤ i4 ∧ i4 < ((List.length l0 : Nat) : Int))) <|
  (cV (decide (at5 < ((List.length bL : Nat) : Int))) (oA (List.getD bL (Int.toNat at5) default) ((List.getD l0 (Int.toNat i4) default).Row))).bind fun x10 =>
  cond ((decide (at5 < ((List.length bL : Nat) : Int))) && x10)
  (rK l0 bL i4)
  (bA (0 ≤ at5 ∧ at5 ≤ ((List.length bL : Nat) : Int)) <|
  bA (List.length (List.take (Int.toNat at5) bL) * 24 ≤ 140737488355328 ∧ List.length (List.take (Int.toNat at5) bL) ≤ 9223372036854775807) <|
  bA (0 ≤ i4 ∧ i4 < ((List.length l0 : Nat) : Int)) <|
  bA ((List.length (List.take (Int.toNat at5) bL) + List.length ([(List.getD l0 (Int.toNat i4) default).Row])) * 24 ≤ 140737488355328 ∧ List.length (List.take (Int.toNat at5) bL) + List.length ([(List.getD l0 (Int.toNat i4) default).Row]) ≤ 9223372036854775807) <|
  bA (0 ≤ at5 ∧ at5 ≤ ((List.length bL : Nat) : Int)) <|
  bA ((List.length ((List.take (Int.toNat at5) bL) ++ ([(List.getD l0 (Int.toNat i4) default).Row])) + List.length (List.drop (Int.toNat at5) bL)) * 24 ≤ 140737488355328 ∧ List.length ((List.take (Int.toNat at5) bL) ++ ([(List.getD l0 (Int.toNat i4) default).Row])) + List.length (List.drop (Int.toNat at5) bL) ≤ 9223372036854775807) <|
  rK l0 (((List.take (Int.toNat at5) bL) ++ ([(List.getD l0 (Int.toNat i4) default).Row])) ++ (List.drop (Int.toNat at5) bL)) i4)

noncomputable def lH (l0 : (List aI)) (i4 : Int) (bL : List (List aB)) (at5 : Int) : Option ((List (List aB) × Int) ⊕ ((List (List aB) × Int))) :=
  bA ((((decide (at5 < ((List.length bL : Nat) : Int)))) = true → 0 ≤ at5 ∧ at5 < ((List.length bL : Nat) : Int))) <|
  bA ((((decide (at5 < ((List.length bL : Nat) : Int)))) = true → 0 ≤ i4 ∧ i4 < ((List.length l0 : Nat) : Int))) <|
  (cV (decide (at5 < ((List.length bL : Nat) : Int))) (nJ (List.getD bL (Int.toNat at5) default) ((List.getD l0 (Int.toNat i4) default).Row))).bind fun x27 =>
  cond ((decide (at5 < ((List.length bL : Nat) : Int))) && (decide (x27 < (0 : Int))))
  (some (.inl (bL, IntKind.i64.wrap (at5 + (1 : Int)))))
  (some (.inr (bL, at5)))

noncomputable def uV (l0 : (List aI)) (bL : List (List aB)) (i4 : Int) (at5 : Int) : Option ((List (List aB) × Int) ⊕ ((List (List aB)))) :=
  (lp (fun s => lH l0 i4 s.1 s.2) (bL, at5)).bind (fun rr => sB l0 rr.1 i4 rr.2)

noncomputable def mO (l0 : (List aI)) (bL : List (List aB)) (i4 : Int) : Option ((List (List aB) × Int) ⊕ ((List (List aB)))) :=
  cond (decide (i4 < ((List.length l0 : Nat) : Int)))
  (uV l0 bL i4 (0 : Int))
  (some (.inr bL))

noncomputable def uT (l0 : (List aI)) (bL : List (List aB)) (i4 : Int) : Option (List (List aB)) :=
  (lp (fun s => mO l0 s.1 s.2) (bL, i4)).bind (fun rr => vA rr)

noncomputable def oO (l0 : (List aI)) : Option (List (List aB)) :=
  uT l0 ([] : List (List aB)) (0 : Int)

noncomputable def uA (f5 : List aM) : Option (List aM) :=
  some f5

noncomputable def qI (l0 : (List aI)) (r1 : (List aB)) (f5 : List aM) (i6 : Int) : Option ((List aM × Int) ⊕ ((List aM))) :=
  some (.inl (f5, IntKind.i64.wrap (i6 + (1 : Int))))

noncomputable def lV (l0 : (List aI)) (r1 : (List aB)) (f5 : List aM) (i6 : Int) : Option ((List aM × Int) ⊕ ((List aM))) :=
  cond (decide (i6 < ((List.length l0 : Nat) : Int)))
  (bA (0 ≤ i6 ∧ i6 < ((List.length l0 : Nat) : Int)) <|
  (oA ((List.getD l0 (Int.toNat i6) default).Row) r1).bind fun x8 =>
  cond x8
  (bA (0 ≤ i6 ∧ i6 < ((List.length l0 : Nat) : Int)) <|
  bA (0 ≤ i6 ∧ i6 < ((List.length l0 : Nat) : Int)) <|
  bA ((List.length f5 + List.length ([aM.mk ((List.getD l0 (Int.toNat i6) default).At) ((List.getD l0 (Int.toNat i6) default).Net)])) * 16 ≤ 140737488355328 ∧ List.length f5 + List.length ([aM.mk ((List.getD l0 (Int.toNat i6) default).At) ((List.getD l0 (Int.toNat i6) default).Net)]) ≤ 9223372036854775807) <|
  qI l0 r1 (f5 ++ ([aM.mk ((List.getD l0 (Int.toNat i6) default).At) ((List.getD l0 (Int.toNat i6) default).Net)])) i6)
  (qI l0 r1 f5 i6))
  (some (.inr f5))

noncomputable def tN (l0 : (List aI)) (r1 : (List aB)) (f5 : List aM) (i6 : Int) : Option (List aM) :=
  (lp (fun s => lV l0 r1 s.1 s.2) (f5, i6)).bind (fun rr => uA rr)

noncomputable def nN (l0 : (List aI)) (r1 : (List aB)) : Option (List aM) :=
  tN l0 r1 ([] : List aM) (0 : Int)

noncomputable def wC  : Option Bool :=
  some true

noncomputable def oB (l0 : (List aI)) (qB : (List (List aB))) (i6 : Int) : Option ((Int) ⊕ (Unit ⊕ Bool)) :=
  cond (decide (i6 < ((List.length qB : Nat) : Int)))
  (bA (0 ≤ i6 ∧ i6 < ((List.length qB : Nat) : Int)) <|
  (nN l0 (List.getD qB (Int.toNat i6) default)).bind fun x7 =>
  cond (decide ((1024 : Int) < ((List.length x7 : Nat) : Int)))
  (some (.inr (.inr false)))
  (some (.inl (IntKind.i64.wrap (i6 + (1 : Int))))))
  (some (.inr (.inl ())))

noncomputable def wN (l0 : (List aI)) (qB : (List (List aB))) (i6 : Int) : Option Bool :=
  (lp (fun s => oB l0 qB s) i6).bind (Sum.elim (fun rr => wC ) (fun rr => some rr))

noncomputable def sZ (l0 : (List aI)) : Option Bool :=
  (oO l0).bind fun x2 =>
  wN l0 x2 (0 : Int)

noncomputable def qT (l0 : (List aI)) (i3 : Int) : Option ((Int) ⊕ (Unit ⊕ Bool)) :=
  some (.inl (IntKind.i64.wrap (i3 + (1 : Int))))

noncomputable def nE (l0 : (List aI)) (i3 : Int) : Option ((Int) ⊕ (Unit ⊕ Bool)) :=
  cond (decide (i3 < ((List.length l0 : Nat) : Int)))
  (bA (0 ≤ i3 ∧ i3 < ((List.length l0 : Nat) : Int)) <|
  (pW ((List.getD l0 (Int.toNat i3) default).Row)).bind fun x13 =>
  bA ((((!(!x13))) = true → 0 ≤ i3 ∧ i3 < ((List.length l0 : Nat) : Int))) <|
  bA ((((!(!x13))) = true → 0 ≤ i3 ∧ i3 < ((List.length l0 : Nat) : Int))) <|
  (cV (!(!x13)) (pV ([aM.mk ((List.getD l0 (Int.toNat i3) default).At) ((List.getD l0 (Int.toNat i3) default).Net)]))).bind fun x17 =>
  cond ((!x13) || (!x17))
  (some (.inr (.inr false)))
  (cond (decide (i3 = (0 : Int)))
  (qT l0 i3)
  (bA (0 ≤ (IntKind.i64.wrap (i3 - (1 : Int))) ∧ (IntKind.i64.wrap (i3 - (1 : Int))) < ((List.length l0 : Nat) : Int)) <|
  bA (0 ≤ i3 ∧ i3 < ((List.length l0 : Nat) : Int)) <|
  (nJ ((List.getD l0 (Int.toNat (IntKind.i64.wrap (i3 - (1 : Int)))) default).Row) ((List.getD l0 (Int.toNat i3) default).Row)).bind fun x24 =>
  bA ((((decide (x24 = (0 : Int))) && (!(decide ((0 : Int) < x24)))) = true → 0 ≤ (IntKind.i64.wrap (i3 - (1 : Int))) ∧ (IntKind.i64.wrap (i3 - (1 : Int))) < ((List.length l0 : Nat) : Int))) <|
  bA ((((decide (x24 = (0 : Int))) && (!(decide ((0 : Int) < x24)))) = true → 0 ≤ i3 ∧ i3 < ((List.length l0 : Nat) : Int))) <|
  cond ((decide ((0 : Int) < x24)) || ((decide (x24 = (0 : Int))) && (decide (((List.getD l0 (Int.toNat i3) default).At) ≤ ((List.getD l0 (Int.toNat (IntKind.i64.wrap (i3 - (1 : Int)))) default).At)))))
  (some (.inr (.inr false)))
  (qT l0 i3))))
  (some (.inr (.inl ())))

noncomputable def vY (l0 : (List aI)) (i3 : Int) : Option Bool :=
  (lp (fun s => nE l0 s) i3).bind (Sum.elim (fun rr => sZ l0) (fun rr => some rr))

noncomputable def sH (l0 : (List aI)) : Option Bool :=
  cond (decide ((4096 : Int) < ((List.length l0 : Nat) : Int)))
  (some false)
  (vY l0 (0 : Int))

noncomputable def qU (v5 : Int) : Option Int :=
  some v5

noncomputable def nV (f0 : (List aM)) (t1 : Int) (v5 : Int) (i6 : Int) : Option ((Int × Int) ⊕ (Int)) :=
  some (.inl (v5, IntKind.i64.wrap (i6 + (1 : Int))))

noncomputable def jS (f0 : (List aM)) (t1 : Int) (v5 : Int) (i6 : Int) : Option ((Int × Int) ⊕ (Int)) :=
  cond (decide (i6 < ((List.length f0 : Nat) : Int)))
  (bA (0 ≤ i6 ∧ i6 < ((List.length f0 : Nat) : Int)) <|
  cond (decide (((List.getD f0 (Int.toNat i6) default).At) ≤ t1))
  (bA (0 ≤ i6 ∧ i6 < ((List.length f0 : Nat) : Int)) <|
  nV f0 t1 (IntKind.i64.wrap (v5 + ((List.getD f0 (Int.toNat i6) default).Net))) i6)
  (nV f0 t1 v5 i6))
  (some (.inr v5))

noncomputable def tY (f0 : (List aM)) (t1 : Int) (v5 : Int) (i6 : Int) : Option Int :=
  (lp (fun s => jS f0 t1 s.1 s.2) (v5, i6)).bind (fun rr => qU rr)

noncomputable def mP (f0 : (List aM)) (t1 : Int) : Option Int :=
  tY f0 t1 (0 : Int) (0 : Int)

noncomputable def qK (m3 : Int) : Option Int :=
  some m3

noncomputable def qN (f0 : (List aM)) (m3 : Int) (i4 : Int) : Option ((Int × Int) ⊕ (Int)) :=
  some (.inl (m3, IntKind.i64.wrap (i4 + (1 : Int))))

noncomputable def lQ (f0 : (List aM)) (m3 : Int) (i4 : Int) : Option ((Int × Int) ⊕ (Int)) :=
  cond (decide (i4 < ((List.length f0 : Nat) : Int)))
  (bA (0 ≤ i4 ∧ i4 < ((List.length f0 : Nat) : Int)) <|
  (mP f0 ((List.getD f0 (Int.toNat i4) default).At)).bind fun x10 =>
  cond (decide (x10 < m3))
  (bA (0 ≤ i4 ∧ i4 < ((List.length f0 : Nat) : Int)) <|
  (mP f0 ((List.getD f0 (Int.toNat i4) default).At)).bind fun x15 =>
  qN f0 x15 i4)
  (qN f0 m3 i4))
  (some (.inr m3))

noncomputable def tS (f0 : (List aM)) (m3 : Int) (i4 : Int) : Option Int :=
  (lp (fun s => lQ f0 s.1 s.2) (m3, i4)).bind (fun rr => qK rr)

noncomputable def rP (f0 : (List aM)) : Option Int :=
  (pV f0).bind fun x1 =>
  cond (!x1)
  (some (0 : Int))
  ((mP f0 (-1 : Int)).bind fun x5 =>
  tS f0 x5 (0 : Int))

noncomputable def tM  : Option Bool :=
  some true

noncomputable def mU (l0 : (List aI)) (bL : (List (List aB))) (i4 : Int) : Option ((Int) ⊕ (Unit ⊕ Bool)) :=
  cond (decide (i4 < ((List.length bL : Nat) : Int)))
  (bA (0 ≤ i4 ∧ i4 < ((List.length bL : Nat) : Int)) <|
  (nN l0 (List.getD bL (Int.toNat i4) default)).bind fun x10 =>
  (rP x10).bind fun x13 =>
  cond (decide (x13 < (0 : Int)))
  (some (.inr (.inr false)))
  (some (.inl (IntKind.i64.wrap (i4 + (1 : Int))))))
  (some (.inr (.inl ())))

noncomputable def tP (l0 : (List aI)) (bL : (List (List aB))) (i4 : Int) : Option Bool :=
  (lp (fun s => mU l0 bL s) i4).bind (Sum.elim (fun rr => tM ) (fun rr => some rr))

noncomputable def rX (l0 : (List aI)) : Option Bool :=
  (sH l0).bind fun x1 =>
  cond (!x1)
  (some false)
  ((oO l0).bind fun x5 =>
  tP l0 x5 (0 : Int))

noncomputable def pE (l0 : (List aI)) (n1 : Int) : Option Int :=
  (sH l0).bind fun x1 =>
  cond (((!x1) || (decide (n1 < (1 : Int)))) || (decide ((64 : Int) < n1)))
  (some (2 : Int))
  ((rX l0).bind fun x5 =>
  cond (!x5)
  (some (20 : Int))
  (some (0 : Int)))

noncomputable def pG (out5 : List Int) : Option (List Int) :=
  some out5

noncomputable def pF (t1 : Int) (out5 : List Int) (put6 : Bool) : Option (List Int) :=
  cond (!put6)
  (bA ((List.length out5 + List.length ([t1])) * 8 ≤ 140737488355328 ∧ List.length out5 + List.length ([t1]) ≤ 9223372036854775807) <|
  pG (out5 ++ ([t1])))
  (pG out5)

noncomputable def rW (l0 : (List Int)) (t1 : Int) (out5 : List Int) (put6 : Bool) (i7 : Int) : Option ((List Int × Bool × Int) ⊕ ((List Int × Bool) ⊕ (List Int))) :=
  bA (0 ≤ i7 ∧ i7 < ((List.length l0 : Nat) : Int)) <|
  bA ((List.length out5 + List.length ([List.getD l0 (Int.toNat i7) default])) * 8 ≤ 140737488355328 ∧ List.length out5 + List.length ([List.getD l0 (Int.toNat i7) default]) ≤ 9223372036854775807) <|
  some (.inl (out5 ++ ([List.getD l0 (Int.toNat i7) default]), put6, IntKind.i64.wrap (i7 + (1 : Int))))

noncomputable def jC (l0 : (List Int)) (t1 : Int) (out5 : List Int) (put6 : Bool) (i7 : Int) : Option ((List Int × Bool × Int) ⊕ ((List Int × Bool) ⊕ (List Int))) :=
  cond (decide (i7 < ((List.length l0 : Nat) : Int)))
  (bA (0 ≤ i7 ∧ i7 < ((List.length l0 : Nat) : Int)) <|
  cond (decide ((List.getD l0 (Int.toNat i7) default) = t1))
  (some (.inr (.inr l0)))
  (bA (0 ≤ i7 ∧ i7 < ((List.length l0 : Nat) : Int)) <|
  cond ((decide (t1 < (List.getD l0 (Int.toNat i7) default))) && (!put6))
  (bA ((List.length out5 + List.length ([t1])) * 8 ≤ 140737488355328 ∧ List.length out5 + List.length ([t1]) ≤ 9223372036854775807) <|
  rW l0 t1 (out5 ++ ([t1])) true i7)
  (rW l0 t1 out5 put6 i7)))
  (some (.inr (.inl (out5, put6))))

noncomputable def uZ (l0 : (List Int)) (t1 : Int) (out5 : List Int) (put6 : Bool) (i7 : Int) : Option (List Int) :=
  (lp (fun s => jC l0 t1 s.1 s.2.1 s.2.2) (out5, put6, i7)).bind (Sum.elim (fun rr => pF t1 rr.1 rr.2) (fun rr => some rr))

noncomputable def tC (l0 : (List Int)) (t1 : Int) : Option (List Int) :=
  uZ l0 t1 ([] : List Int) false (0 : Int)

noncomputable def sM (out5 : (List Int)) : Option ((List Int) × Int) :=
  some (out5, (0 : Int))

noncomputable def nK (l0 : (List aI)) (out5 : (List Int)) (i6 : Int) : Option (((List Int) × Int) ⊕ ((List Int))) :=
  some (.inl (out5, IntKind.i64.wrap (i6 + (1 : Int))))

noncomputable def kV (l0 : (List aI)) (out5 : (List Int)) (i6 : Int) : Option (((List Int) × Int) ⊕ ((List Int))) :=
  cond (decide (i6 < ((List.length l0 : Nat) : Int)))
  (bA (0 ≤ i6 ∧ i6 < ((List.length l0 : Nat) : Int)) <|
  bA ((((decide ((0 : Int) < ((List.getD l0 (Int.toNat i6) default).Net)))) = true → 0 ≤ i6 ∧ i6 < ((List.length l0 : Nat) : Int))) <|
  cond ((decide ((0 : Int) < ((List.getD l0 (Int.toNat i6) default).Net))) && (decide ((0 : Int) ≤ ((List.getD l0 (Int.toNat i6) default).At))))
  (bA (0 ≤ i6 ∧ i6 < ((List.length l0 : Nat) : Int)) <|
  (tC out5 ((List.getD l0 (Int.toNat i6) default).At)).bind fun x11 =>
  nK l0 x11 i6)
  (nK l0 out5 i6))
  (some (.inr out5))

noncomputable def sO (l0 : (List aI)) (out5 : (List Int)) (i6 : Int) : Option ((List Int) × Int) :=
  (lp (fun s => kV l0 s.1 s.2) (out5, i6)).bind (fun rr => sM rr)

noncomputable def qR (l0 : (List aI)) : Option ((List Int) × Int) :=
  (pE l0 (1 : Int)).bind fun x1 =>
  cond (!decide (x1 = (0 : Int)))
  (some ([], x1))
  (sO l0 ([]) (0 : Int))

noncomputable def vV (t0 : Int) : Option Bool :=
  some ((decide ((0 : Int) ≤ t0)) && (decide (t0 ≤ (1125899906842624 : Int))))

noncomputable def qJ (bQ : List aO) : Option ((List aO) × Int) :=
  cond (decide ((1024 : Int) < ((List.length bQ : Nat) : Int)))
  (some ([], (7 : Int)))
  (some (bQ, (0 : Int)))

noncomputable def nY (l0 : (List aI)) (n1 : Int) (cD : Int) (all9 : (List Int)) (cI : (List (List aB))) (bQ : List aO) (i13 : Int) : Option ((List aO × Int) ⊕ ((List aO))) :=
  some (.inl (bQ, IntKind.i64.wrap (i13 + (1 : Int))))

noncomputable def qF (l0 : (List aI)) (n1 : Int) (cD : Int) (all9 : (List Int)) (cI : (List (List aB))) (bQ : List aO) (i13 : Int) (p14 : aO) : Option ((List aO × Int) ⊕ ((List aO))) :=
  bA ((List.length bQ + List.length ([p14])) * 40 ≤ 140737488355328 ∧ List.length bQ + List.length ([p14]) ≤ 9223372036854775807) <|
  nY l0 n1 cD all9 cI (bQ ++ ([p14])) i13

noncomputable def qG (l0 : (List aI)) (n1 : Int) (cD : Int) (all9 : (List Int)) (cI : (List (List aB))) (bQ : List aO) (i13 : Int) (p14 : aO) (k15 : Int) : Option ((List aO × aO × Int) ⊕ ((List aO × aO))) :=
  some (.inl (bQ, p14, IntKind.i64.wrap (k15 + (1 : Int))))

noncomputable def qD (l0 : (List aI)) (n1 : Int) (cD : Int) (all9 : (List Int)) (cI : (List (List aB))) (bQ : List aO) (i13 : Int) (p14 : aO) (k15 : Int) (c17 : bH) : Option ((List aO × aO × Int) ⊕ ((List aO × aO))) :=
  cond (decide ((0 : Int) < c17.N))
  (bA ((List.length p14.Rows + List.length ([c17])) * 32 ≤ 140737488355328 ∧ List.length p14.Rows + List.length ([c17]) ≤ 9223372036854775807) <|
  qG l0 n1 cD all9 cI bQ i13 (aO.mk p14.Span (p14.Rows ++ ([c17]))) k15)
  (qG l0 n1 cD all9 cI bQ i13 p14 k15)

noncomputable def qC (l0 : (List aI)) (n1 : Int) (cD : Int) (all9 : (List Int)) (cI : (List (List aB))) (bQ : List aO) (i13 : Int) (p14 : aO) (k15 : Int) (f16 : (List aM)) (c17 : bH) (j18 : Int) : Option ((List aO × aO × bH × Int) ⊕ ((List aO × aO × bH))) :=
  some (.inl (bQ, p14, c17, IntKind.i64.wrap (j18 + (1 : Int))))

noncomputable def lU (l0 : (List aI)) (n1 : Int) (cD : Int) (all9 : (List Int)) (cI : (List (List aB))) (i13 : Int) (k15 : Int) (f16 : (List aM)) (bQ : List aO) (p14 : aO) (c17 : bH) (j18 : Int) : Option ((List aO × aO × bH × Int) ⊕ ((List aO × aO × bH))) :=
  cond (decide (j18 < ((List.length f16 : Nat) : Int)))
  (bA (0 ≤ j18 ∧ j18 < ((List.length f16 : Nat) : Int)) <|
  bA ((((decide ((0 : Int) < ((List.getD f16 (Int.toNat j18) default).Net)))) = true → 0 ≤ j18 ∧ j18 < ((List.length f16 : Nat) : Int))) <|
  bA ((((decide ((0 : Int) < ((List.getD f16 (Int.toNat j18) default).Net)))) = true → 0 ≤ i13 ∧ i13 < ((List.length all9 : Nat) : Int))) <|
  bA (((((decide ((0 : Int) < ((List.getD f16 (Int.toNat j18) default).Net))) && (decide ((List.getD all9 (Int.toNat i13) default) ≤ ((List.getD f16 (Int.toNat j18) default).At))))) = true → 0 ≤ j18 ∧ j18 < ((List.length f16 : Nat) : Int))) <|
  bA (((((decide ((0 : Int) < ((List.getD f16 (Int.toNat j18) default).Net))) && (decide ((List.getD all9 (Int.toNat i13) default) ≤ ((List.getD f16 (Int.toNat j18) default).At))))) = true → 0 ≤ (IntKind.i64.wrap ((IntKind.i64.wrap (i13 + n1)) - (1 : Int))) ∧ (IntKind.i64.wrap ((IntKind.i64.wrap (i13 + n1)) - (1 : Int))) < ((List.length all9 : Nat) : Int))) <|
  cond (((decide ((0 : Int) < ((List.getD f16 (Int.toNat j18) default).Net))) && (decide ((List.getD all9 (Int.toNat i13) default) ≤ ((List.getD f16 (Int.toNat j18) default).At)))) && (decide (((List.getD f16 (Int.toNat j18) default).At) ≤ (List.getD all9 (Int.toNat (IntKind.i64.wrap ((IntKind.i64.wrap (i13 + n1)) - (1 : Int)))) default))))
  (bA (0 ≤ j18 ∧ j18 < ((List.length f16 : Nat) : Int)) <|
  qC l0 n1 cD all9 cI bQ i13 p14 k15 f16 (bH.mk c17.Row (IntKind.i64.wrap (c17.N + ((List.getD f16 (Int.toNat j18) default).Net)))) j18)
  (qC l0 n1 cD all9 cI bQ i13 p14 k15 f16 c17 j18))
  (some (.inr (bQ, p14, c17)))

noncomputable def tT (l0 : (List aI)) (n1 : Int) (cD : Int) (all9 : (List Int)) (cI : (List (List aB))) (bQ : List aO) (i13 : Int) (p14 : aO) (k15 : Int) (f16 : (List aM)) (c17 : bH) (j18 : Int) : Option ((List aO × aO × Int) ⊕ ((List aO × aO))) :=
  (lp (fun s => lU l0 n1 cD all9 cI i13 k15 f16 s.1 s.2.1 s.2.2.1 s.2.2.2) (bQ, p14, c17, j18)).bind (fun rr => qD l0 n1 cD all9 cI rr.1 i13 rr.2.1 k15 rr.2.2)

noncomputable def lW (l0 : (List aI)) (n1 : Int) (cD : Int) (all9 : (List Int)) (cI : (List (List aB))) (i13 : Int) (bQ : List aO) (p14 : aO) (k15 : Int) : Option ((List aO × aO × Int) ⊕ ((List aO × aO))) :=
  cond (decide (k15 < ((List.length cI : Nat) : Int)))
  (bA (0 ≤ k15 ∧ k15 < ((List.length cI : Nat) : Int)) <|
  (nN l0 (List.getD cI (Int.toNat k15) default)).bind fun x40 =>
  bA (0 ≤ k15 ∧ k15 < ((List.length cI : Nat) : Int)) <|
  tT l0 n1 cD all9 cI bQ i13 p14 k15 x40 (bH.mk (List.getD cI (Int.toNat k15) default) 0) (0 : Int))
  (some (.inr (bQ, p14)))

noncomputable def tO (l0 : (List aI)) (n1 : Int) (cD : Int) (all9 : (List Int)) (cI : (List (List aB))) (bQ : List aO) (i13 : Int) (p14 : aO) (k15 : Int) : Option ((List aO × Int) ⊕ ((List aO))) :=
  (lp (fun s => lW l0 n1 cD all9 cI i13 s.1 s.2.1 s.2.2) (bQ, p14, k15)).bind (fun rr => qF l0 n1 cD all9 cI rr.1 i13 rr.2)

noncomputable def jQ (l0 : (List aI)) (n1 : Int) (cD : Int) (all9 : (List Int)) (cI : (List (List aB))) (bQ : List aO) (i13 : Int) : Option ((List aO × Int) ⊕ ((List aO))) :=
  cond (decide ((IntKind.i64.wrap (i13 + n1)) ≤ ((List.length all9 : Nat) : Int)))
  (bA (0 ≤ i13 ∧ i13 < ((List.length all9 : Nat) : Int)) <|
  cond (decide ((List.getD all9 (Int.toNat i13) default) < cD))
  (nY l0 n1 cD all9 cI bQ i13)
  (bA (0 ≤ i13 ∧ i13 < ((List.length all9 : Nat) : Int)) <|
  bA (0 ≤ (IntKind.i64.wrap ((IntKind.i64.wrap (i13 + n1)) - (1 : Int))) ∧ (IntKind.i64.wrap ((IntKind.i64.wrap (i13 + n1)) - (1 : Int))) < ((List.length all9 : Nat) : Int)) <|
  tO l0 n1 cD all9 cI bQ i13 (aO.mk (cE.mk (List.getD all9 (Int.toNat i13) default) (IntKind.i64.wrap ((List.getD all9 (Int.toNat (IntKind.i64.wrap ((IntKind.i64.wrap (i13 + n1)) - (1 : Int)))) default) + (1 : Int)))) ([])) (0 : Int)))
  (some (.inr bQ))

noncomputable def tV (l0 : (List aI)) (n1 : Int) (cD : Int) (all9 : (List Int)) (cI : (List (List aB))) (bQ : List aO) (i13 : Int) : Option ((List aO) × Int) :=
  (lp (fun s => jQ l0 n1 cD all9 cI s.1 s.2) (bQ, i13)).bind (fun rr => qJ rr)

noncomputable def rL (l0 : (List aI)) (n1 : Int) (cD : Int) : Option ((List aO) × Int) :=
  (pE l0 n1).bind fun x1 =>
  cond (!decide (x1 = (0 : Int)))
  (some ([], x1))
  ((vV cD).bind fun x5 =>
  cond (!x5)
  (some ([], (13 : Int)))
  ((qR l0).bind fun x9 =>
  (oO l0).bind fun x12 =>
  tV l0 n1 cD x9.1 x12 ([] : List aO) (0 : Int)))

noncomputable def mR  : Option Bool :=
  some true

noncomputable def kY (a0 : (List bH)) (b1 : (List bH)) (i5 : Int) : Option ((Int) ⊕ (Unit ⊕ Bool)) :=
  cond (decide (i5 < ((List.length a0 : Nat) : Int)))
  (bA (0 ≤ i5 ∧ i5 < ((List.length a0 : Nat) : Int)) <|
  bA (0 ≤ i5 ∧ i5 < ((List.length b1 : Nat) : Int)) <|
  bA ((((!(!decide (((List.getD a0 (Int.toNat i5) default).N) = ((List.getD b1 (Int.toNat i5) default).N))))) = true → 0 ≤ i5 ∧ i5 < ((List.length a0 : Nat) : Int))) <|
  bA ((((!(!decide (((List.getD a0 (Int.toNat i5) default).N) = ((List.getD b1 (Int.toNat i5) default).N))))) = true → 0 ≤ i5 ∧ i5 < ((List.length b1 : Nat) : Int))) <|
  (cV (!(!decide (((List.getD a0 (Int.toNat i5) default).N) = ((List.getD b1 (Int.toNat i5) default).N)))) (oA ((List.getD a0 (Int.toNat i5) default).Row) ((List.getD b1 (Int.toNat i5) default).Row))).bind fun x7 =>
  cond ((!decide (((List.getD a0 (Int.toNat i5) default).N) = ((List.getD b1 (Int.toNat i5) default).N))) || (!x7))
  (some (.inr (.inr false)))
  (some (.inl (IntKind.i64.wrap (i5 + (1 : Int))))))
  (some (.inr (.inl ())))

noncomputable def oQ (a0 : (List bH)) (b1 : (List bH)) (i5 : Int) : Option Bool :=
  (lp (fun s => kY a0 b1 s) i5).bind (Sum.elim (fun rr => mR ) (fun rr => some rr))

noncomputable def nG (a0 : (List bH)) (b1 : (List bH)) : Option Bool :=
  cond (!decide (((List.length a0 : Nat) : Int) = ((List.length b1 : Nat) : Int)))
  (some false)
  (oQ a0 b1 (0 : Int))

noncomputable def rU  : Option Bool :=
  some true

noncomputable def oY (a0 : (List aO)) (b1 : (List aO)) (i5 : Int) : Option ((Int) ⊕ (Unit ⊕ Bool)) :=
  cond (decide (i5 < ((List.length a0 : Nat) : Int)))
  (bA (0 ≤ i5 ∧ i5 < ((List.length a0 : Nat) : Int)) <|
  bA (0 ≤ i5 ∧ i5 < ((List.length b1 : Nat) : Int)) <|
  bA ((((!(!((decide ((((List.getD a0 (Int.toNat i5) default).Span).From) = (((List.getD b1 (Int.toNat i5) default).Span).From))) && ((decide ((((List.getD a0 (Int.toNat i5) default).Span).To) = (((List.getD b1 (Int.toNat i5) default).Span).To))) && true))))) = true → 0 ≤ i5 ∧ i5 < ((List.length a0 : Nat) : Int))) <|
  bA ((((!(!((decide ((((List.getD a0 (Int.toNat i5) default).Span).From) = (((List.getD b1 (Int.toNat i5) default).Span).From))) && ((decide ((((List.getD a0 (Int.toNat i5) default).Span).To) = (((List.getD b1 (Int.toNat i5) default).Span).To))) && true))))) = true → 0 ≤ i5 ∧ i5 < ((List.length b1 : Nat) : Int))) <|
  (cV (!(!((decide ((((List.getD a0 (Int.toNat i5) default).Span).From) = (((List.getD b1 (Int.toNat i5) default).Span).From))) && ((decide ((((List.getD a0 (Int.toNat i5) default).Span).To) = (((List.getD b1 (Int.toNat i5) default).Span).To))) && true)))) (nG ((List.getD a0 (Int.toNat i5) default).Rows) ((List.getD b1 (Int.toNat i5) default).Rows))).bind fun x7 =>
  cond ((!((decide ((((List.getD a0 (Int.toNat i5) default).Span).From) = (((List.getD b1 (Int.toNat i5) default).Span).From))) && ((decide ((((List.getD a0 (Int.toNat i5) default).Span).To) = (((List.getD b1 (Int.toNat i5) default).Span).To))) && true))) || (!x7))
  (some (.inr (.inr false)))
  (some (.inl (IntKind.i64.wrap (i5 + (1 : Int))))))
  (some (.inr (.inl ())))

noncomputable def uX (a0 : (List aO)) (b1 : (List aO)) (i5 : Int) : Option Bool :=
  (lp (fun s => oY a0 b1 s) i5).bind (Sum.elim (fun rr => rU ) (fun rr => some rr))

noncomputable def tH (a0 : (List aO)) (b1 : (List aO)) : Option Bool :=
  cond (!decide (((List.length a0 : Nat) : Int) = ((List.length b1 : Nat) : Int)))
  (some false)
  (uX a0 b1 (0 : Int))

noncomputable def oR (l0 : (List aI)) (n1 : Int) (cD : Int) : Option Bool :=
  (xE l0).bind fun x1 =>
  cond (!x1)
  ((qM ).bind fun x5 =>
  some x5)
  ((nW l0 n1 cD).bind fun x8 =>
  (rL l0 n1 cD).bind fun x11 =>
  (qM ).bind fun x14 =>
  (cV (x14 && (decide (x8.2 = x11.2))) (tH x8.1 x11.1)).bind fun x17 =>
  some ((x14 && (decide (x8.2 = x11.2))) && x17))

end Go.Abs
namespace Go.Abs
open Go Go.RowKit
def yV (x : aB) : Prop := wU x.Kind ∧ wU x.Num ∧ (fun s => s.size ≤ maxLen) x.Text ∧ True

def uM (x : aI) : Prop := (fun l => (∀ a ∈ l, yV a) ∧ l.length * 32 ≤ 140737488351232) x.Row ∧ wU x.At ∧ wU x.Net ∧ True

end Go.Abs
namespace Go.Abs
open Go Go.RowKit Go.Proofs
noncomputable def tt : TT := ⟨TB Try.prog, NM Try.prog⟩

theorem aD : gQ Try.prog tt := gQ.of Try.prog

theorem QD (l0 : (List aI)) (r : Bool) (h0 : xE l0 = some r) : dH Try.prog 19 [(eL aH l0)] (aE r) := by
  intro H0
  refine dF Try.func19 ?_
  have hO := aL.start H0
  unfold xE at h0
  refine aT aD 1 [] [] ?_
  refine bT aD 4 [(2, (aE (decide ((lN l0) ≤ (60 : Int)))))] ?_
  refine bI ?_
  obtain rfl := oI h0
  exact aG (Q_r hO)

theorem QH (l0 : (List aI)) (r : (List aI)) (h0 : xJ l0 = some r) : dH Try.prog 67 [(eL aH l0)] (.fn (.func 91) [] [(.rp (eL aH r))]) := by
  intro H0
  refine dF Try.func67 ?_
  have hO := aL.start H0
  unfold xJ at h0
  refine aP ?_
  refine aW aD 2 ?_
  refine qV 1 (eL aH l0) (by kernel_rfl) (by kernel_rfl) ?_
  refine bD ?_
  refine bE [(1, (.rp (eL aH l0)))] ?_
  refine bT aD 2 [(2, (.fn (.func 91) [] [(.rp (eL aH l0))]))] ?_
  refine bI ?_
  obtain rfl := oI h0
  exact aG (lC (x := (.fn (.func 91) [] [(.rp (eL aH l0))])) (by kernel_rfl) (aN.refl _) ⟨rfl, hO.out⟩)

theorem oC (s10 : (List aB)) (s21 : (List aB)) (r : Bool) (h0 : fH s10 s21 = some r) : dH Try.prog 72 [(eL aC s10), (eL aC s21)] (aE r) := by
  intro H0
  refine dF Try.func72 ?_
  have hO := aL.start H0
  unfold fH at h0
  refine aT aD 1 [] [] ?_
  refine aP ?_
  refine aT aD 5 [] [(10, (aE (!decide ((lN s10) = (lN s21)))))] ?_
  refine bF h0 (fun h0 => ?_) (fun h0 => ?_)
  · refine bT aD 1 [(4, (aE false))] ?_
    refine bI ?_
    obtain rfl := oI h0
    exact aG (aQ (Q_r hO))
  refine bG ?_
  refine bE [(0, (eL aC s10)), (1, (eL aC s21))] ?_
  refine dU (fun T H => Has T [] ∧ aL ⟨H0, [], []⟩ H [] ∧ gJ  = some r) ?_ ?_
  · clear hO h0
    rintro T H ⟨hT, hO, h0⟩
    refine bC hT ?_
    clear hT
    unfold gJ at h0
    refine bT aD 1 [(4, (aE true))] ?_
    refine bI ?_
    obtain rfl := oI h0
    exact aG (Q_r hO)
  refine aT aD 3 [] [(12, (eI (lN s10))), (13, (eI (0 : Int)))] ?_
  refine bZ 0 ?_
  refine fA [(0, (eL aC s10)), (1, (eL aC s21)), (12, (eI (lN s10))), (13, (eI (0 : Int)))] ?_
  refine dP (fun T H => ∃ t12 : Int, ∃ t13 : Int, Has T [(0, (eL aC s10)), (1, (eL aC s21)), (12, (eI t12)), (13, (eI t13))] ∧ aL ⟨H0, [], []⟩ H [] ∧ jG s10 s21 t12 t13 = some r) ?_ ⟨(lN s10), (0 : Int), .eq (by kernel_rfl), hO, h0⟩
  clear hO h0
  rintro T H ⟨t12, t13, hT, hO, h0⟩
  refine bC hT ?_
  clear hT
  unfold jG at h0
  obtain ⟨rr0, hl0, h0⟩ := aZ h0
  refine cP (by kernel_rfl) (fun (s : Int) T H => Has T [(0, (eL aC s10)), (1, (eL aC s21)), (12, (eI t12)), (13, (eI s))] ∧ aL ⟨H0, [], []⟩ H []) hl0 ⟨.eq (by kernel_rfl), hO⟩ ?_
  clear hO
  rintro k0 s out1 T H ⟨hT, hO⟩ h1 ho0
  obtain ⟨t13, rfl⟩ : ∃ x, x = s := ⟨_, rfl⟩
  replace h1 : fC s10 s21 t12 t13 = some out1 := h1
  refine bC hT ?_
  clear hT
  unfold fC at h1
  refine aT aD 1 [] [(14, (aE (decide (t13 < t12))))] ?_
  refine aP ?_
  refine bF h1 (fun h1 => ?_) (fun h1 => ?_)
  · refine bG ?_
    refine bE [(0, (eL aC s10)), (1, (eL aC s21)), (12, (eI t12)), (13, (eI t13))] ?_
    refine aP ?_
    refine bZ 1 ?_
    refine aT aD 2 [] [(5, (eI t13))] ?_
    refine aP ?_
    refine eD (eC [19, 23]) aD 9 ?_
    obtain ⟨c3, h1⟩ := aR h1
    obtain ⟨c4, h1⟩ := aR h1
    refine yK (Ds := [0 ≤ t13 ∧ t13 < (lN s10), 0 ≤ t13 ∧ t13 < (lN s21)]) (by kernel_rfl) ⟨c3, c4, trivial⟩ ?_
    refine bU [5] [(24, (aE (!((decide (((gD s10 t13).Kind) = ((gD s21 t13).Kind))) && ((decide (((gD s10 t13).Num) = ((gD s21 t13).Num))) && ((nC ((gD s10 t13).Text) ((gD s21 t13).Text)) && true))))))] ?_
    refine bF h1 (fun h1 => ?_) (fun h1 => ?_)
    · refine bT aD 1 [(4, (aE false))] ?_
      refine bI ?_
      obtain rfl := oI h1
      obtain rfl : _ = rr0 := ho0
      replace h0 : some false = some r := h0
      obtain rfl := oI h0
      exact aG (bK (aQ (aQ (bK (aQ (Q_r hO))))))
    refine bG ?_
    refine gC [(0, (eL aC s10)), (1, (eL aC s21)), (12, (eI t12)), (13, (eI t13))] ?_
    refine aG (aY (aF (?_)))
    refine aW aD 2 ?_
    refine bD ?_
    exact aG (aF (⟨rfl, _, (oI h1).symm, .eq (by kernel_rfl), hO⟩))
  refine eK 0 ?_
  obtain rfl := oI h1
  obtain rfl : _ = rr0 := ho0
  replace h0 : gJ  = some r := h0
  exact aG (aS (aS (bO (aF (⟨rfl, .eq (by kernel_rfl), hO, h0⟩)))))

theorem SJ (a0 : (List aB)) (b1 : (List aB)) (r : Bool) (h0 : tU a0 b1 = some r) : dH Try.prog 92 [(eL aC a0), (eL aC b1)] (aE r) := by
  intro H0
  refine dF Try.func92 ?_
  have hO := aL.start H0
  unfold tU at h0
  refine aT aD 1 [] [] ?_
  refine aP ?_
  refine aW aD 4 ?_
  refine bV 2 ?_
  obtain ⟨x1, hx2, h0⟩ := aZ h0
  refine dL (oC a0 b1 _ hx2) hO ?_
  intro H hO
  refine bD ?_
  refine bE [(4, (aE x1))] ?_
  refine bI ?_
  obtain rfl := oI h0
  exact aG (Q_r hO)

theorem TW (r0 : (List aB)) (r : (List aB)) (h0 : vZ r0 = some r) : dH Try.prog 93 [(eL aC r0)] (eL aC r) := by
  intro H0
  refine dF Try.func93 ?_
  have hO := aL.start H0
  unfold vZ at h0
  refine aT aD 1 [] [] ?_
  refine aP ?_
  refine aW aD 6 ?_
  refine bV 2 ?_
  obtain ⟨c1, h0⟩ := aR h0
  refine ZF 3 32 (lN r0) (by kernel_rfl) (by kernel_rfl) c1 hO ?_
  intro lo2 H hO
  refine bV 4 ?_
  obtain ⟨c4, h0⟩ := aR h0
  refine sF (e := aC) ([] : List aB) r0 0 lo2 3 32 (eL aC r0) (fun lo3 => [(lo3, 3, List.map aC (([] : List aB) ++ r0))]) (by kernel_rfl) (by kernel_rfl) hO (by kernel_rfl) (RF (fun _ => by kernel_rfl)) c4 (fun _ => by kernel_rfl) ?_
  intro lo3 H hO
  refine bD ?_
  refine bE [(2, (.msl 3 lo3 0 (List.length (([] : List aB) ++ r0))))] ?_
  refine bI ?_
  refine gC [(2, (.msl 3 lo3 0 (List.length (([] : List aB) ++ r0))))] ?_
  refine sV (en := aC) (([] : List aB) ++ r0) 0 0 2 3 lo3 (List.length (([] : List aB) ++ r0)) hO (by kernel_rfl) (by kernel_rfl) (by kernel_rfl) (L' := []) (by kernel_rfl) ?_
  intro H5 hO
  obtain rfl := oI h0
  exact aG (Q_r hO)

theorem IC {σ : Type} (I : σ → Gs → Prop) (yield0_b : Nat) (gT : σ → (List aB) → (List aM) → Option (σ × Bool)) (yield0_h : ∀ st a0 a1 st2 r, gT st a0 a1 = some (st2, r) → ET Try.prog (yv yield0_b) I st [(eL aC a0), (eL aX a1)] st2 (aE r)) (t1 : (List aI)) (sg0 : σ) (r : σ) (h0 : pM gT t1 sg0 = some r) : yO Try.prog 91 I sg0 [(yv yield0_b), (.rp (eL aH t1))] r (.tup []) := by
  intro H0 G0 hI hg
  refine dF Try.func91 ?_
  obtain ⟨G, hO, hI⟩ : ∃ G, aL ⟨H0, List.map (fun p : Nat × dW => p.1) G0, G⟩ H0 [] ∧ I sg0 G := ⟨G0, aL.HU hg, hI⟩
  clear hg
  unfold pM at h0
  refine aT aD 1 [] [(3, (eI (0 : Int)))] ?_
  refine bZ 0 ?_
  refine fA [(0, (yv yield0_b)), (1, (.rp (eL aH t1))), (3, (eI (0 : Int)))] ?_
  refine dP (fun T H => ∃ sg : σ, ∃ i3 : Int, ∃ G : Gs, Has T [(0, (yv yield0_b)), (1, (.rp (eL aH t1))), (3, (eI i3))] ∧ aL ⟨H0, List.map (fun p : Nat × dW => p.1) G0, G⟩ H [] ∧ I sg G ∧ rD gT sg t1 i3 = some r) ?_ ⟨sg0, (0 : Int), G, .eq (by kernel_rfl), hO, hI, h0⟩
  clear hO hI h0
  rintro T H ⟨sg, i3, G, hT, hO, hI, h0⟩
  refine bC hT ?_
  clear hT
  unfold rD at h0
  obtain ⟨rr0, hl0, h0⟩ := aZ h0
  refine cP (by kernel_rfl) (fun (s : σ × Int) T H => ∃ G : Gs, Has T [(0, (yv yield0_b)), (1, (.rp (eL aH t1))), (3, (eI s.2))] ∧ aL ⟨H0, List.map (fun p : Nat × dW => p.1) G0, G⟩ H [] ∧ I s.1 G) hl0 ⟨G, .eq (by kernel_rfl), hO, hI⟩ ?_
  clear hO hI
  rintro k0 s out1 T H ⟨G, hT, hO, hI⟩ h1 ho0
  obtain ⟨sg, i3⟩ := s
  replace h1 : iM gT t1 sg i3 = some out1 := h1
  try dsimp only at hT
  refine bC hT ?_
  clear hT
  unfold iM at h1
  refine aP ?_
  refine aT aD 4 [] [(9, (aE (decide (i3 < (lN t1)))))] ?_
  refine bF h1 (fun h1 => ?_) (fun h1 => ?_)
  · refine bG ?_
    refine bE [(0, (yv yield0_b)), (1, (.rp (eL aH t1))), (3, (eI i3))] ?_
    refine bZ 1 ?_
    refine aP ?_
    refine aW aD 6 ?_
    obtain ⟨c2, h1⟩ := aR h1
    refine mG [0 ≤ i3 ∧ i3 < (lN t1)] ⟨c2, trivial⟩ ?_
    refine bU [] [(4, (eL aC ((gD t1 i3).Row)))] ?_
    refine aP ?_
    refine aW aD 2 ?_
    refine nA (xs := []) (k := 2) (by kernel_rfl) (by kernel_rfl) ?_
    refine bD ?_
    refine bU [] [(5, (.sl true 0 (fun _ => .bad)))] ?_
    refine dU (fun T H => ∃ sg : σ, ∃ i3 : Int, ∃ r4 : (List aB), ∃ f5 : List aM, ∃ lo3 : Nat, ∃ G : Gs, Has T [(0, (yv yield0_b)), (1, (.rp (eL aH t1))), (3, (eI i3)), (4, (eL aC r4)), (5, (.msl 2 lo3 0 (List.length f5)))] ∧ aL ⟨H0, List.map (fun p : Nat × dW => p.1) G0, G⟩ H [(lo3, 2, List.map aX f5)] ∧ I sg G ∧ oN gT sg t1 i3 r4 f5 = some out1) ?_ ?_
    · clear hO hI h1
      rintro T H ⟨sg, i3, r4, f5, lo3, G, hT, hO, hI, h1⟩
      refine bC hT ?_
      clear hT
      unfold oN at h1
      refine aP ?_
      refine aW aD 6 ?_
      refine WJ (e := aX) f5 0 5 2 lo3 (List.length f5) [] (by kernel_rfl) hO (by kernel_rfl) (by kernel_rfl) (by kernel_rfl) (by kernel_rfl) ?_
      intro H hO
      refine bV 2 ?_
      obtain ⟨x7, hx8, h1⟩ := aZ h1
      refine dL (TW r4 _ hx8) hO ?_
      intro H hO
      refine bV 4 ?_
      obtain ⟨x10, hx11, h1⟩ := aZ h1
      refine RS (I := I) (yv yield0_b) [(eL aC x7), (eL aX f5)] (aE x10.2) (by kernel_rfl) (by kernel_rfl) (yield0_h _ x7 f5 x10.1 x10.2 hx11) hO hI ?_
      intro G H hO hI
      refine bD ?_
      refine bU [4, 5] [(50, (aE (!x10.2)))] ?_
      refine bF h1 (fun h1 => ?_) (fun h1 => ?_)
      · refine bI ?_
        obtain rfl := oI h1
        obtain rfl : _ = rr0 := ho0
        replace h0 : some x10.1 = some r := h0
        obtain rfl := oI h0
        exact aG (bK (aQ (bK (lC (x := (.tup [])) (by kernel_rfl) (aN.refl _) ⟨rfl, G, hI, hO.FZ⟩))))
      refine bG ?_
      exact aG (aY (aF (⟨rfl, _, (oI h1).symm, _, .eq (by kernel_rfl), hO, hI⟩)))
    refine bZ 2 ?_
    refine fA [(0, (yv yield0_b)), (1, (.rp (eL aH t1))), (3, (eI i3)), (4, (eL aC ((gD t1 i3).Row))), (5, (.sl true 0 (fun _ => .bad)))] ?_
    refine BD (el := (fun _ => .bad)) 4 5 2 hO (by kernel_rfl) ?_
    intro lo24 H25 hO
    refine dP (fun T H => ∃ sg : σ, ∃ i3 : Int, ∃ r4 : (List aB), ∃ f5 : List aM, ∃ lo14 : Nat, ∃ G : Gs, Has T [(0, (yv yield0_b)), (1, (.rp (eL aH t1))), (3, (eI i3)), (4, (eL aC r4)), (5, (.msl 2 lo14 0 (List.length f5)))] ∧ aL ⟨H0, List.map (fun p : Nat × dW => p.1) G0, G⟩ H [(lo14, 2, List.map aX f5)] ∧ I sg G ∧ qZ gT sg t1 i3 r4 f5 = some out1) ?_ ⟨sg, i3, (gD t1 i3).Row, ([] : List aM), lo24, G, .eq (by kernel_rfl), hO, hI, h1⟩
    clear hO hI h1
    rintro T H ⟨sg, i3, r4, f5, lo14, G, hT, hO, hI, h1⟩
    refine bC hT ?_
    clear hT
    unfold qZ at h1
    obtain ⟨rr1, hl1, h1⟩ := aZ h1
    refine cP (by kernel_rfl) (fun (s : σ × Int × List aM) T H => ∃ lo14 : Nat, ∃ G : Gs, Has T [(0, (yv yield0_b)), (1, (.rp (eL aH t1))), (3, (eI s.2.1)), (4, (eL aC r4)), (5, (.msl 2 lo14 0 (List.length s.2.2)))] ∧ aL ⟨H0, List.map (fun p : Nat × dW => p.1) G0, G⟩ H [(lo14, 2, List.map aX s.2.2)] ∧ I s.1 G) hl1 ⟨lo14, G, .eq (by kernel_rfl), hO, hI⟩ ?_
    clear hO hI
    rintro k1 s out2 T H ⟨lo14, G, hT, hO, hI⟩ h2 ho1
    obtain ⟨sg, i3, f5⟩ := s
    replace h2 : jK gT t1 r4 sg i3 f5 = some out2 := h2
    try dsimp only at hT
    refine bC hT ?_
    clear hT
    unfold jK at h2
    refine aP ?_
    refine aP ?_
    refine aW aD 13 ?_
    obtain ⟨c15, h2⟩ := aR h2
    refine nS 11 [(((decide (i3 < (lN t1)))) = true → 0 ≤ i3 ∧ i3 < (lN t1))] ⟨c15, trivial⟩ ?_
    obtain ⟨x16, hx17, h2⟩ := aZ h2
    refine nH [(20, true)] 92 [(eL aC ((gD t1 i3).Row)), (eL aC r4)] (aE x16) (decide (i3 < (lN t1))) (by kernel_rfl) (by kernel_rfl) (by kernel_rfl) (fun hb18 => (SJ ((gD t1 i3).Row) r4 _ (iV hx17 hb18))) hO ?_
    intro H hO
    refine bD ?_
    refine bU [] [(28, (aE ((decide (i3 < (lN t1))) && x16)))] ?_
    refine bF h2 (fun h2 => ?_) (fun h2 => ?_)
    · refine bG ?_
      refine bE [(0, (yv yield0_b)), (1, (.rp (eL aH t1))), (3, (eI i3)), (4, (eL aC r4)), (5, (.msl 2 lo14 0 (List.length f5)))] ?_
      refine aP ?_
      refine bZ 3 ?_
      refine eD (eC [32, 36, 37, 41, 43]) aD 15 ?_
      obtain ⟨c20, h2⟩ := aR h2
      obtain ⟨c21, h2⟩ := aR h2
      refine cB 12 [0 ≤ i3 ∧ i3 < (lN t1), 0 ≤ i3 ∧ i3 < (lN t1)] ⟨c20, c21, trivial⟩ ?_
      refine SE (xs := [(aX (aM.mk ((gD t1 i3).At) ((gD t1 i3).Net)))]) (k := 2) (by kernel_rfl) (by kernel_rfl) ?_
      obtain ⟨c23, h2⟩ := aR h2
      refine JI (e := aX) f5 ([aM.mk ((gD t1 i3).At) ((gD t1 i3).Net)]) 0 lo14 2 16 (iL [(aX (aM.mk ((gD t1 i3).At) ((gD t1 i3).Net)))]) (fun lo22 => [(lo22, 2, List.map aX (f5 ++ ([aM.mk ((gD t1 i3).At) ((gD t1 i3).Net)])))]) (by kernel_rfl) (by kernel_rfl) hO (by kernel_rfl) (by kernel_rfl) c23 (fun _ => by kernel_rfl) ?_
      intro lo22 H hO
      refine gH ?_
      refine gC [(0, (yv yield0_b)), (1, (.rp (eL aH t1))), (3, (eI i3)), (4, (eL aC r4)), (5, (.msl 2 lo22 0 (List.length (f5 ++ ([aM.mk ((gD t1 i3).At) ((gD t1 i3).Net)])))))] ?_
      refine aG (aY (aF (?_)))
      refine aW aD 3 ?_
      refine bD ?_
      exact aG (aF (⟨rfl, _, (oI h2).symm, _, _, .eq (by kernel_rfl), hO, hI⟩))
    refine eK 2 ?_
    obtain rfl := oI h2
    obtain rfl : _ = rr1 := ho1
    replace h1 : oN gT sg t1 i3 r4 f5 = some out1 := h1
    exact aG (aS (aS (bO (aF (⟨rfl, _, _, _, _, _, _, .eq (by kernel_rfl), hO, hI, h1⟩)))))
  refine eK 0 ?_
  obtain rfl := oI h1
  obtain rfl : _ = rr0 := ho0
  replace h0 : some sg = some r := h0
  obtain rfl := oI h0
  exact aG (aS (aS (bO (yF (x := (.tup [])) (by kernel_rfl) (aN.refl _) ⟨rfl, G, hI, hO.FZ⟩))))

theorem tL (s0 : (List aB)) (f1_f : Nat) (f1_a f1_c : List V) (f1 : aB → Option Bool) (f1_h : ∀ a0 r, f1 a0 = some r → dH Try.prog f1_f (f1_a ++ [(aC a0)] ++ f1_c) (aE r)) (r : Int) (h0 : iE s0 f1 = some r) : dH Try.prog 100 [(eL aC s0), (.fn (.func f1_f) f1_a f1_c)] (eI r) := by
  intro H0
  refine dF Try.func100 ?_
  have hO := aL.start H0
  unfold iE at h0
  refine aT aD 1 [] [] ?_
  refine dU (fun T H => Has T [] ∧ aL ⟨H0, [], []⟩ H [] ∧ fK f1  = some r) ?_ ?_
  · clear hO h0
    rintro T H ⟨hT, hO, h0⟩
    refine bC hT ?_
    clear hT
    unfold fK at h0
    refine bT aD 1 [(4, (eI (-1 : Int)))] ?_
    refine bI ?_
    obtain rfl := oI h0
    exact aG (Q_r hO)
  refine aT aD 3 [] [(7, (eI (lN s0))), (8, (eI (0 : Int)))] ?_
  refine bZ 0 ?_
  refine fA [(0, (eL aC s0)), (1, (.fn (.func f1_f) f1_a f1_c)), (7, (eI (lN s0))), (8, (eI (0 : Int)))] ?_
  refine dP (fun T H => ∃ t7 : Int, ∃ t8 : Int, Has T [(0, (eL aC s0)), (1, (.fn (.func f1_f) f1_a f1_c)), (7, (eI t7)), (8, (eI t8))] ∧ aL ⟨H0, [], []⟩ H [] ∧ gZ f1 s0 t7 t8 = some r) ?_ ⟨(lN s0), (0 : Int), .eq (by kernel_rfl), hO, h0⟩
  clear hO h0
  rintro T H ⟨t7, t8, hT, hO, h0⟩
  refine bC hT ?_
  clear hT
  unfold gZ at h0
  obtain ⟨rr0, hl0, h0⟩ := aZ h0
  refine cP (by kernel_rfl) (fun (s : Int) T H => Has T [(0, (eL aC s0)), (1, (.fn (.func f1_f) f1_a f1_c)), (7, (eI t7)), (8, (eI s))] ∧ aL ⟨H0, [], []⟩ H []) hl0 ⟨.eq (by kernel_rfl), hO⟩ ?_
  clear hO
  rintro k0 s out1 T H ⟨hT, hO⟩ h1 ho0
  obtain ⟨t8, rfl⟩ : ∃ x, x = s := ⟨_, rfl⟩
  replace h1 : hM f1 s0 t7 t8 = some out1 := h1
  refine bC hT ?_
  clear hT
  unfold hM at h1
  refine aT aD 1 [] [(9, (aE (decide (t8 < t7))))] ?_
  refine aP ?_
  refine bF h1 (fun h1 => ?_) (fun h1 => ?_)
  · refine bG ?_
    refine bE [(0, (eL aC s0)), (1, (.fn (.func f1_f) f1_a f1_c)), (7, (eI t7)), (8, (eI t8))] ?_
    refine aP ?_
    refine bZ 1 ?_
    refine aT aD 2 [] [(5, (eI t8))] ?_
    refine aP ?_
    refine aW aD 6 ?_
    obtain ⟨c2, h1⟩ := aR h1
    refine nS 5 [0 ≤ t8 ∧ t8 < (lN s0)] ⟨c2, trivial⟩ ?_
    obtain ⟨x3, hx4, h1⟩ := aZ h1
    refine dL (f1_h (gD s0 t8) _ hx4) hO ?_
    intro H hO
    refine hU ?_
    refine bU [] [(16, (aE x3))] ?_
    refine bF h1 (fun h1 => ?_) (fun h1 => ?_)
    · refine bT aD 2 [(4, (eI t8))] ?_
      refine bI ?_
      obtain rfl := oI h1
      obtain rfl : _ = rr0 := ho0
      replace h0 : some t8 = some r := h0
      obtain rfl := oI h0
      exact aG (bK (aQ (aQ (bK (aQ (Q_r hO))))))
    refine bG ?_
    refine gC [(0, (eL aC s0)), (1, (.fn (.func f1_f) f1_a f1_c)), (7, (eI t7)), (8, (eI t8))] ?_
    refine aG (aY (aF (?_)))
    refine aW aD 2 ?_
    refine bD ?_
    exact aG (aF (⟨rfl, _, (oI h1).symm, .eq (by kernel_rfl), hO⟩))
  refine eK 0 ?_
  obtain rfl := oI h1
  obtain rfl : _ = rr0 := ho0
  replace h0 : fK f1  = some r := h0
  exact aG (aS (aS (bO (aF (⟨rfl, .eq (by kernel_rfl), hO, h0⟩)))))

theorem rM (s0 : (List aB)) (f1_f : Nat) (f1_a f1_c : List V) (f1 : aB → Option Bool) (f1_h : ∀ a0 r, f1 a0 = some r → dH Try.prog f1_f (f1_a ++ [(aC a0)] ++ f1_c) (aE r)) (r : Bool) (h0 : eY s0 f1 = some r) : dH Try.prog 97 [(eL aC s0), (.fn (.func f1_f) f1_a f1_c)] (aE r) := by
  intro H0
  refine dF Try.func97 ?_
  have hO := aL.start H0
  unfold eY at h0
  refine aT aD 1 [] [] ?_
  refine aP ?_
  refine aW aD 5 ?_
  refine bV 2 ?_
  obtain ⟨x1, hx2, h0⟩ := aZ h0
  refine dL (tL s0 f1_f f1_a f1_c f1 f1_h _ hx2) hO ?_
  intro H hO
  refine bD ?_
  refine bE [(4, (aE (decide ((0 : Int) ≤ x1))))] ?_
  refine bI ?_
  obtain rfl := oI h0
  exact aG (Q_r hO)

theorem vU (v0 : aB) (r : (bN × Bool)) (h0 : lG v0 = some r) : dH Try.prog 110 [(aC v0)] (.tup [(bJ r.1), (aE r.2)]) := by
  intro H0
  refine dF Try.func110 ?_
  have hO := aL.start H0
  unfold lG at h0
  refine aP ?_
  refine aW aD 3 ?_
  refine qV 3 (aC v0) (by kernel_rfl) (by kernel_rfl) ?_
  refine bD ?_
  refine bE [(1, (.rp (aC v0)))] ?_
  refine aP ?_
  refine bZ 0 ?_
  refine aT aD 9 [] [(4, (aE ((decide (v0.Kind = (1 : Int))) && (nC v0.Text (⟨#[]⟩ : ByteArray)))))] ?_
  refine bF h0 (fun h0 => ?_) (fun h0 => ?_)
  · refine bT aD 5 [(2, (bJ (bN.k_number v0.Num))), (3, (aE true))] ?_
    refine bI ?_
    obtain rfl := oI h0
    exact aG (bK (aQ (Q_r hO)))
  refine aT aD 15 [4] [(16, (aE (((decide (v0.Kind = (2 : Int))) && (decide (v0.Num = (0 : Int)))) && (decide (((ByteArray.size v0.Text : Nat) : Int) ≤ (64 : Int))))))] ?_
  refine bF h0 (fun h0 => ?_) (fun h0 => ?_)
  · refine bT aD 5 [(2, (bJ (bN.k_words v0.Text))), (3, (aE true))] ?_
    refine bI ?_
    obtain rfl := oI h0
    exact aG (bK (aQ (Q_r hO)))
  refine bG ?_
  refine gC [] ?_
  refine aG (aY (aF (?_)))
  refine bT aD 2 [(2, (bJ bN.none_)), (3, (aE false))] ?_
  refine bI ?_
  obtain rfl := oI h0
  exact aG (Q_r hO)

theorem QT (v0 : aB) (r : Bool) (h0 : uR v0 = some r) : dH Try.prog 99 [(aC v0)] (aE r) := by
  intro H0
  refine dF Try.func99 ?_
  have hO := aL.start H0
  unfold uR at h0
  refine aP ?_
  refine aW aD 2 ?_
  refine qV 3 (aC v0) (by kernel_rfl) (by kernel_rfl) ?_
  refine bD ?_
  refine bE [(1, (.rp (aC v0)))] ?_
  refine aP ?_
  refine aW aD 7 ?_
  refine bV 1 ?_
  obtain ⟨⟨x1_0, x1_1⟩, hx2, h0⟩ := aZ h0
  refine dL (vU v0 _ hx2) hO ?_
  intro H hO
  rcases x1_0 with _ | y4 | y5
  · replace h0 : (some x1_1) = some r := h0
    refine bD ?_
    refine bE [(4, (aE x1_1))] ?_
    refine bT aD 2 [(2, (aE x1_1))] ?_
    refine bI ?_
    obtain rfl := oI h0
    exact aG (Q_r hO)
  · replace h0 : (some x1_1) = some r := h0
    refine bD ?_
    refine bE [(4, (aE x1_1))] ?_
    refine bT aD 2 [(2, (aE x1_1))] ?_
    refine bI ?_
    obtain rfl := oI h0
    exact aG (Q_r hO)
  · replace h0 : (some x1_1) = some r := h0
    refine bD ?_
    refine bE [(4, (aE x1_1))] ?_
    refine bT aD 2 [(2, (aE x1_1))] ?_
    refine bI ?_
    obtain rfl := oI h0
    exact aG (Q_r hO)

theorem PX (v0 : aB) (r : Bool) (h0 : uQ v0 = some r) : dH Try.prog 98 [(aC v0)] (aE r) := by
  intro H0
  refine dF Try.func98 ?_
  have hO := aL.start H0
  unfold uQ at h0
  refine aP ?_
  refine aW aD 2 ?_
  refine qV 3 (aC v0) (by kernel_rfl) (by kernel_rfl) ?_
  refine bD ?_
  refine bE [(1, (.rp (aC v0)))] ?_
  refine aP ?_
  refine aW aD 4 ?_
  refine bV 1 ?_
  obtain ⟨x1, hx2, h0⟩ := aZ h0
  refine dL (QT v0 _ hx2) hO ?_
  intro H hO
  refine bD ?_
  refine bE [(2, (aE (!x1)))] ?_
  refine bI ?_
  obtain rfl := oI h0
  exact aG (Q_r hO)

theorem EG (r0 : (List aB)) (r : Bool) (h0 : tD r0 = some r) : dH Try.prog 76 [(eL aC r0)] (aE r) := by
  intro H0
  refine dF Try.func76 ?_
  have hO := aL.start H0
  unfold tD at h0
  refine aT aD 1 [] [] ?_
  refine aP ?_
  refine aT aD 3 [] [(5, (aE (decide ((8 : Int) < (lN r0)))))] ?_
  refine bF h0 (fun h0 => ?_) (fun h0 => ?_)
  · refine bT aD 1 [(2, (aE false))] ?_
    refine bI ?_
    obtain rfl := oI h0
    exact aG (aQ (Q_r hO))
  refine bG ?_
  refine bE [(0, (eL aC r0))] ?_
  refine aP ?_
  refine aW aD 4 ?_
  refine bV 1 ?_
  obtain ⟨x2, hx3, h0⟩ := aZ h0
  refine dL (rM r0 98 [] [] (fun y0 => uQ y0) (fun y0 r h => PX y0 r h) _ hx3) hO ?_
  intro H hO
  refine bD ?_
  refine bE [(2, (aE (!x2)))] ?_
  refine bI ?_
  obtain rfl := oI h0
  exact aG (Q_r hO)

theorem HE (t0 : (List aB)) (r : (Int × (List aB))) (h0 : sS t0 = some r) : xL Try.prog 101 [(.rp (eL aC t0))] (fun lo => (.fn (.func 102) [] [(.lp lo 0 0), (.rp (eL aC r.2))])) 1 [(eI r.1)] := by
  intro H0
  refine dF Try.func101 ?_
  have hO := aL.start H0
  unfold sS at h0
  refine aT aD 1 [] [] ?_
  refine aP ?_
  refine aW aD 2 ?_
  refine vH 1 (eI 0) (by kernel_rfl) (by kernel_rfl) hO ?_
  intro lo1 H hO
  refine pU 0 lo1 1 0 (eI 0) (eI (-1 : Int)) [(eI 0)] [(lo1, 1, [(eI (-1 : Int))])] hO rfl (by kernel_rfl) ?_
  intro H hO
  refine hU ?_
  refine bU [] [(2, (.lp lo1 0 0))] ?_
  refine aT aD 2 [0] [(1, (.fn (.func 102) [] [(.lp lo1 0 0), (.rp (eL aC t0))]))] ?_
  refine bI ?_
  obtain rfl := oI h0
  exact aG (lC (x := (.fn (.func 102) [] [(.lp lo1 0 0), (.rp (eL aC t0))])) (by kernel_rfl) (aN.refl _) ⟨lo1, rfl, hO⟩)

theorem sK {σ : Type} (I : σ → Gs → Prop) (s0 : (List aB)) (f1_v : V) (f1 : σ → aB → Option (σ × Bool)) (f1_h : ∀ st a0 st2 r, f1 st a0 = some (st2, r) → ET Try.prog f1_v I st [(aC a0)] st2 (aE r)) (sg0 : σ) (r : (σ × Int)) (h0 : gW s0 f1 sg0 = some r) : yO Try.prog 100 I sg0 [(eL aC s0), f1_v] r.1 (eI r.2) := by
  intro H0 G0 hI hg
  refine dF Try.func100 ?_
  obtain ⟨G, hO, hI⟩ : ∃ G, aL ⟨H0, List.map (fun p : Nat × dW => p.1) G0, G⟩ H0 [] ∧ I sg0 G := ⟨G0, aL.HU hg, hI⟩
  clear hg
  unfold gW at h0
  refine aT aD 1 [] [] ?_
  refine dU (fun T H => ∃ sg : σ, ∃ G : Gs, Has T [] ∧ aL ⟨H0, List.map (fun p : Nat × dW => p.1) G0, G⟩ H [] ∧ I sg G ∧ eX f1 sg = some r) ?_ ?_
  · clear hO hI h0
    rintro T H ⟨sg, G, hT, hO, hI, h0⟩
    refine bC hT ?_
    clear hT
    unfold eX at h0
    refine bT aD 1 [(4, (eI (-1 : Int)))] ?_
    refine bI ?_
    obtain rfl := oI h0
    exact aG (lC (x := (eI (-1 : Int))) (by kernel_rfl) (aN.refl _) ⟨rfl, G, hI, hO.FZ⟩)
  refine aT aD 3 [] [(7, (eI (lN s0))), (8, (eI (0 : Int)))] ?_
  refine bZ 0 ?_
  refine fA [(0, (eL aC s0)), (1, f1_v), (7, (eI (lN s0))), (8, (eI (0 : Int)))] ?_
  refine dP (fun T H => ∃ sg : σ, ∃ t7 : Int, ∃ t8 : Int, ∃ G : Gs, Has T [(0, (eL aC s0)), (1, f1_v), (7, (eI t7)), (8, (eI t8))] ∧ aL ⟨H0, List.map (fun p : Nat × dW => p.1) G0, G⟩ H [] ∧ I sg G ∧ gS f1 sg s0 t7 t8 = some r) ?_ ⟨sg0, (lN s0), (0 : Int), G, .eq (by kernel_rfl), hO, hI, h0⟩
  clear hO hI h0
  rintro T H ⟨sg, t7, t8, G, hT, hO, hI, h0⟩
  refine bC hT ?_
  clear hT
  unfold gS at h0
  obtain ⟨rr0, hl0, h0⟩ := aZ h0
  refine cP (by kernel_rfl) (fun (s : σ × Int) T H => ∃ G : Gs, Has T [(0, (eL aC s0)), (1, f1_v), (7, (eI t7)), (8, (eI s.2))] ∧ aL ⟨H0, List.map (fun p : Nat × dW => p.1) G0, G⟩ H [] ∧ I s.1 G) hl0 ⟨G, .eq (by kernel_rfl), hO, hI⟩ ?_
  clear hO hI
  rintro k0 s out1 T H ⟨G, hT, hO, hI⟩ h1 ho0
  obtain ⟨sg, t8⟩ := s
  replace h1 : cJ f1 s0 t7 sg t8 = some out1 := h1
  try dsimp only at hT
  refine bC hT ?_
  clear hT
  unfold cJ at h1
  refine aT aD 1 [] [(9, (aE (decide (t8 < t7))))] ?_
  refine aP ?_
  refine bF h1 (fun h1 => ?_) (fun h1 => ?_)
  · refine bG ?_
    refine bE [(0, (eL aC s0)), (1, f1_v), (7, (eI t7)), (8, (eI t8))] ?_
    refine aP ?_
    refine bZ 1 ?_
    refine aT aD 2 [] [(5, (eI t8))] ?_
    refine aP ?_
    refine aW aD 6 ?_
    obtain ⟨c2, h1⟩ := aR h1
    refine nS 5 [0 ≤ t8 ∧ t8 < (lN s0)] ⟨c2, trivial⟩ ?_
    obtain ⟨x3, hx4, h1⟩ := aZ h1
    refine RS (I := I) f1_v [(aC (gD s0 t8))] (aE x3.2) (by kernel_rfl) (by kernel_rfl) (f1_h _ (gD s0 t8) x3.1 x3.2 hx4) hO hI ?_
    intro G H hO hI
    refine hU ?_
    refine bU [] [(16, (aE x3.2))] ?_
    refine bF h1 (fun h1 => ?_) (fun h1 => ?_)
    · refine bT aD 2 [(4, (eI t8))] ?_
      refine bI ?_
      obtain rfl := oI h1
      obtain rfl : _ = rr0 := ho0
      replace h0 : some (x3.1, t8) = some r := h0
      obtain rfl := oI h0
      exact aG (bK (aQ (aQ (bK (aQ (lC (x := (eI t8)) (by kernel_rfl) (aN.refl _) ⟨rfl, G, hI, hO.FZ⟩))))))
    refine bG ?_
    refine gC [(0, (eL aC s0)), (1, f1_v), (7, (eI t7)), (8, (eI t8))] ?_
    refine aG (aY (aF (?_)))
    refine aW aD 2 ?_
    refine bD ?_
    exact aG (aF (⟨rfl, _, (oI h1).symm, _, .eq (by kernel_rfl), hO, hI⟩))
  refine eK 0 ?_
  obtain rfl := oI h1
  obtain rfl : _ = rr0 := ho0
  replace h0 : eX f1 sg = some r := h0
  exact aG (aS (aS (bO (aF (⟨rfl, _, _, .eq (by kernel_rfl), hO, hI, h0⟩)))))

theorem FF (v0 : aB) (lo1p : Nat) (t1 : Int) (t2 : (List aB)) (r : (Bool × Int)) (h0 : jU v0 t1 t2 = some r) : nB Try.prog 102 lo1p 1 [(eI t1)] [(eI r.2)] [(aC v0), (.lp lo1p 0 0), (.rp (eL aC t2))] (aE r.1) := by
  intro H0 hl0
  refine dF Try.func102 ?_
  have hO := aL.sA hl0
  clear hl0
  unfold jU at h0
  refine aP ?_
  refine aW aD 2 ?_
  refine qV 3 (aC v0) (by kernel_rfl) (by kernel_rfl) ?_
  refine bD ?_
  refine bU [0] [(3, (.rp (aC v0)))] ?_
  refine aP ?_
  refine aW aD 3 ?_
  refine pR 0 lo1p 1 0 (eI t1) (eI t1) [(eI t1)] hO rfl ?_
  refine bV 2 ?_
  refine pU 0 lo1p 1 0 (eI t1) (eI (wR (t1 + (1 : Int)))) [(eI t1)] [(lo1p, 1, [(eI (wR (t1 + (1 : Int))))])] hO rfl (by kernel_rfl) ?_
  intro H hO
  refine hU ?_
  refine bU [] [] ?_
  refine aP ?_
  refine eD (eC [7, 8, 11]) aD 7 ?_
  refine kQ 2 ?_
  refine fL 0 lo1p 1 0 (eI (wR (t1 + (1 : Int)))) (eI (wR (t1 + (1 : Int)))) [(eI (wR (t1 + (1 : Int))))] hO rfl ?_
  obtain ⟨c1, h0⟩ := aR h0
  refine yK (Ds := [0 ≤ (wR (t1 + (1 : Int))) ∧ (wR (t1 + (1 : Int))) < (lN t2)]) (by kernel_rfl) ⟨c1, trivial⟩ ?_
  refine bE [(1, (.lp lo1p 0 0)), (4, (aE (!((decide (v0.Kind = ((gD t2 (wR (t1 + (1 : Int)))).Kind))) && ((decide (v0.Num = ((gD t2 (wR (t1 + (1 : Int)))).Num))) && ((nC v0.Text ((gD t2 (wR (t1 + (1 : Int)))).Text)) && true))))))] ?_
  refine bI ?_
  obtain rfl := oI h0
  exact aG (lC (x := (aE (!((decide (v0.Kind = ((gD t2 (wR (t1 + (1 : Int)))).Kind))) && ((decide (v0.Num = ((gD t2 (wR (t1 + (1 : Int)))).Num))) && ((nC v0.Text ((gD t2 (wR (t1 + (1 : Int)))).Text)) && true)))))) (by kernel_rfl) (aN.refl _) ⟨rfl, hO.ext, hO.at 0 (by kernel_rfl), rfl⟩)

theorem sQ (x0 : Int) (r : Bool) (h0 : kA x0 = some r) : dH Try.prog 95 [(eI x0)] (aE r) := by
  intro H0
  refine dF Try.func95 ?_
  have hO := aL.start H0
  unfold kA at h0
  refine aT aD 1 [] [] ?_
  refine bT aD 4 [(2, (aE (!decide (x0 = x0))))] ?_
  refine bI ?_
  obtain rfl := oI h0
  exact aG (Q_r hO)

theorem FD (x0 : Int) (y1 : Int) (r : Int) (h0 : nO x0 y1 = some r) : dH Try.prog 103 [(eI x0), (eI y1)] (eI r) := by
  intro H0
  refine dF Try.func103 ?_
  have hO := aL.start H0
  unfold nO at h0
  refine aT aD 1 [] [] ?_
  refine aP ?_
  refine aW aD 3 ?_
  refine bV 1 ?_
  obtain ⟨x1, hx2, h0⟩ := aZ h0
  refine dL (sQ x0 _ hx2) hO ?_
  intro H hO
  refine bD ?_
  refine bU [] [(5, (aE x1))] ?_
  refine aP ?_
  refine aW aD 3 ?_
  refine bV 1 ?_
  obtain ⟨x4, hx5, h0⟩ := aZ h0
  refine dL (sQ y1 _ hx5) hO ?_
  intro H hO
  refine bD ?_
  refine bU [] [(6, (aE x4))] ?_
  refine aP ?_
  refine aT aD 1 [5] [(11, (aE x1))] ?_
  refine bF h0 (fun h0 => ?_) (fun h0 => ?_)
  · refine aP ?_
    refine bT aD 1 [(12, (aE x4))] ?_
    refine bF h0 (fun h0 => ?_) (fun h0 => ?_)
    · refine bT aD 1 [(4, (eI (0 : Int)))] ?_
      refine bI ?_
      obtain rfl := oI h0
      exact aG (aQ (aQ (Q_r hO)))
    refine bG ?_
    refine bE [] ?_
    refine bT aD 1 [(4, (eI (-1 : Int)))] ?_
    refine bI ?_
    obtain rfl := oI h0
    exact aG (aQ (Q_r hO))
  refine bG ?_
  refine bE [(0, (eI x0)), (1, (eI y1)), (6, (aE x4))] ?_
  refine aP ?_
  refine aT aD 1 [6] [(13, (aE x4))] ?_
  refine bF h0 (fun h0 => ?_) (fun h0 => ?_)
  · refine bT aD 1 [(4, (eI (1 : Int)))] ?_
    refine bI ?_
    obtain rfl := oI h0
    exact aG (aQ (Q_r hO))
  refine bG ?_
  refine bE [(0, (eI x0)), (1, (eI y1))] ?_
  refine aP ?_
  refine aT aD 3 [] [(16, (aE (decide (x0 < y1))))] ?_
  refine bF h0 (fun h0 => ?_) (fun h0 => ?_)
  · refine bT aD 1 [(4, (eI (-1 : Int)))] ?_
    refine bI ?_
    obtain rfl := oI h0
    exact aG (aQ (Q_r hO))
  refine bG ?_
  refine bE [(0, (eI x0)), (1, (eI y1))] ?_
  refine aP ?_
  refine bT aD 3 [(19, (aE (decide (y1 < x0))))] ?_
  refine bF h0 (fun h0 => ?_) (fun h0 => ?_)
  · refine bT aD 1 [(4, (eI (1 : Int)))] ?_
    refine bI ?_
    obtain rfl := oI h0
    exact aG (aQ (Q_r hO))
  refine bG ?_
  refine bE [] ?_
  refine bT aD 1 [(4, (eI (0 : Int)))] ?_
  refine bI ?_
  obtain rfl := oI h0
  exact aG (Q_r hO)

theorem sW (x0 : Int) (r : Bool) (h0 : kM x0 = some r) : dH Try.prog 114 [(eI x0)] (aE r) := by
  intro H0
  refine dF Try.func114 ?_
  have hO := aL.start H0
  unfold kM at h0
  refine aT aD 1 [] [] ?_
  refine bT aD 4 [(2, (aE (!decide (x0 = x0))))] ?_
  refine bI ?_
  obtain rfl := oI h0
  exact aG (Q_r hO)

theorem xZ (x0 : Int) (y1 : Int) (r : Int) (h0 : fU x0 y1 = some r) : dH Try.prog 111 [(eI x0), (eI y1)] (eI r) := by
  intro H0
  refine dF Try.func111 ?_
  have hO := aL.start H0
  unfold fU at h0
  refine aT aD 1 [] [] ?_
  refine aP ?_
  refine aW aD 3 ?_
  refine bV 1 ?_
  obtain ⟨x1, hx2, h0⟩ := aZ h0
  refine dL (sW x0 _ hx2) hO ?_
  intro H hO
  refine bD ?_
  refine bU [] [(5, (aE x1))] ?_
  refine aP ?_
  refine aW aD 3 ?_
  refine bV 1 ?_
  obtain ⟨x4, hx5, h0⟩ := aZ h0
  refine dL (sW y1 _ hx5) hO ?_
  intro H hO
  refine bD ?_
  refine bU [] [(6, (aE x4))] ?_
  refine aP ?_
  refine aT aD 1 [5] [(11, (aE x1))] ?_
  refine bF h0 (fun h0 => ?_) (fun h0 => ?_)
  · refine aP ?_
    refine bT aD 1 [(12, (aE x4))] ?_
    refine bF h0 (fun h0 => ?_) (fun h0 => ?_)
    · refine bT aD 1 [(4, (eI (0 : Int)))] ?_
      refine bI ?_
      obtain rfl := oI h0
      exact aG (aQ (aQ (Q_r hO)))
    refine bG ?_
    refine bE [] ?_
    refine bT aD 1 [(4, (eI (-1 : Int)))] ?_
    refine bI ?_
    obtain rfl := oI h0
    exact aG (aQ (Q_r hO))
  refine bG ?_
  refine bE [(0, (eI x0)), (1, (eI y1)), (6, (aE x4))] ?_
  refine aP ?_
  refine aT aD 1 [6] [(13, (aE x4))] ?_
  refine bF h0 (fun h0 => ?_) (fun h0 => ?_)
  · refine bT aD 1 [(4, (eI (1 : Int)))] ?_
    refine bI ?_
    obtain rfl := oI h0
    exact aG (aQ (Q_r hO))
  refine bG ?_
  refine bE [(0, (eI x0)), (1, (eI y1))] ?_
  refine aP ?_
  refine aT aD 3 [] [(16, (aE (decide (x0 < y1))))] ?_
  refine bF h0 (fun h0 => ?_) (fun h0 => ?_)
  · refine bT aD 1 [(4, (eI (-1 : Int)))] ?_
    refine bI ?_
    obtain rfl := oI h0
    exact aG (aQ (Q_r hO))
  refine bG ?_
  refine bE [(0, (eI x0)), (1, (eI y1))] ?_
  refine aP ?_
  refine bT aD 3 [(19, (aE (decide (y1 < x0))))] ?_
  refine bF h0 (fun h0 => ?_) (fun h0 => ?_)
  · refine bT aD 1 [(4, (eI (1 : Int)))] ?_
    refine bI ?_
    obtain rfl := oI h0
    exact aG (aQ (Q_r hO))
  refine bG ?_
  refine bE [] ?_
  refine bT aD 1 [(4, (eI (0 : Int)))] ?_
  refine bI ?_
  obtain rfl := oI h0
  exact aG (Q_r hO)

theorem vD (a0 : ByteArray) (b1 : ByteArray) (r : Int) (h0 : jJ a0 b1 = some r) : dH Try.prog 115 [(wT a0), (wT b1)] (eI r) := by
  intro H0
  refine dF Try.func115 ?_
  have hO := aL.start H0
  unfold jJ at h0
  refine aT aD 1 [] [] ?_
  refine aP ?_
  refine aW aD 4 ?_
  refine bV 2 ?_
  refine aAi 116 [(wT a0), (wT b1)] (eI (JG a0 b1)) (by kernel_rfl) (by kernel_rfl) (XD Try.func116 (by kernel_rfl) (by kernel_rfl) (by kernel_rfl) (by kernel_rfl) a0 b1) hO ?_
  intro H hO
  refine bD ?_
  refine bE [(4, (eI (JG a0 b1)))] ?_
  refine bI ?_
  obtain rfl := oI h0
  exact aG (Q_r hO)

theorem FE (a0 : ByteArray) (b1 : ByteArray) (r : Int) (h0 : mK a0 b1 = some r) : dH Try.prog 112 [(wT a0), (wT b1)] (eI r) := by
  intro H0
  refine dF Try.func112 ?_
  have hO := aL.start H0
  unfold mK at h0
  refine aT aD 1 [] [] ?_
  refine aP ?_
  refine aW aD 4 ?_
  refine bV 2 ?_
  obtain ⟨x1, hx2, h0⟩ := aZ h0
  refine dL (vD a0 b1 _ hx2) hO ?_
  intro H hO
  refine bD ?_
  refine bE [(4, (eI x1))] ?_
  refine bI ?_
  obtain rfl := oI h0
  exact aG (Q_r hO)

theorem IA (a0 : aB) (b1 : aB) (r : Int) (h0 : pK a0 b1 = some r) : dH Try.prog 104 [(aC a0), (aC b1)] (eI r) := by
  intro H0
  refine dF Try.func104 ?_
  have hO := aL.start H0
  unfold pK at h0
  refine aP ?_
  refine aW aD 3 ?_
  refine qV 3 (aC a0) (by kernel_rfl) (by kernel_rfl) ?_
  refine qV 3 (aC b1) (by kernel_rfl) (by kernel_rfl) ?_
  refine bD ?_
  refine bE [(2, (.rp (aC a0))), (3, (.rp (aC b1)))] ?_
  refine aP ?_
  refine aW aD 7 ?_
  refine bV 1 ?_
  obtain ⟨⟨x1_0, x1_1⟩, hx2, h0⟩ := aZ h0
  refine dL (vU a0 _ hx2) hO ?_
  intro H hO
  rcases x1_0 with _ | y4 | y5
  · replace h0 : ((lG b1).bind fun (x6_0, x6_1) => match x6_0 with | .none_ => (cond ((!x1_1) || (!x6_1)) (some (0 : Int)) (none)) | .k_number y9 => (cond ((!x1_1) || (!x6_1)) (some (0 : Int)) (some (1 : Int))) | .k_words y10 => (cond ((!x1_1) || (!x6_1)) (some (0 : Int)) (none))) = some r := h0
    refine bD ?_
    refine bU [2] [(5, (bJ bN.none_)), (6, (aE x1_1))] ?_
    refine aP ?_
    refine aW aD 7 ?_
    refine bV 1 ?_
    obtain ⟨⟨x6_0, x6_1⟩, hx7, h0⟩ := aZ h0
    refine dL (vU b1 _ hx7) hO ?_
    intro H hO
    rcases x6_0 with _ | y9 | y10
    · replace h0 : (cond ((!x1_1) || (!x6_1)) (some (0 : Int)) (none)) = some r := h0
      refine bD ?_
      refine bU [3] [(7, (bJ bN.none_)), (8, (aE x6_1))] ?_
      refine aP ?_
      refine aT aD 6 [6, 8] [(28, (aE ((!x1_1) || (!x6_1))))] ?_
      refine bF h0 (fun h0 => ?_) (fun h0 => ?_)
      · refine bT aD 1 [(4, (eI (0 : Int)))] ?_
        refine bI ?_
        obtain rfl := oI h0
        exact aG (aQ (Q_r hO))
      refine bG ?_
      refine bE [(5, (bJ bN.none_)), (7, (bJ bN.none_))] ?_
      refine aT aD 7 [] [(9, (eI 0)), (10, (aE false))] ?_
      refine aT aD 7 [] [(11, (eI 0)), (12, (aE false))] ?_
      refine aP ?_
      refine bZ 0 ?_
      refine aT aD 5 [] [(39, (aE false))] ?_
      refine nM (false) (fun hc12 => ?_) (fun hc12 => ?_)
      · cases hc12
      · refine aT aD 2 [9, 10, 11, 39] [(47, (aE false))] ?_
        refine nM (false) (fun hc13 => ?_) (fun hc13 => ?_)
        · cases hc13
        · refine bT aD 2 [(5, (bJ bN.none_)), (7, (bJ bN.none_)), (49, (aE false))] ?_
          refine nM (false) (fun hc14 => ?_) (fun hc14 => ?_)
          · cases hc14
          · refine bG ?_
            refine gC [(5, (bJ bN.none_)), (7, (bJ bN.none_))] ?_
            refine aG (aY (aF (?_)))
            refine aP ?_
            refine eD (eC []) aD 6 ?_
            cases h0
    · replace h0 : (cond ((!x1_1) || (!x6_1)) (some (0 : Int)) (some (1 : Int))) = some r := h0
      refine bD ?_
      refine bU [3] [(7, (bJ (bN.k_number y9))), (8, (aE x6_1))] ?_
      refine aP ?_
      refine aT aD 6 [6, 8] [(28, (aE ((!x1_1) || (!x6_1))))] ?_
      refine bF h0 (fun h0 => ?_) (fun h0 => ?_)
      · refine bT aD 1 [(4, (eI (0 : Int)))] ?_
        refine bI ?_
        obtain rfl := oI h0
        exact aG (aQ (Q_r hO))
      refine bG ?_
      refine bE [(5, (bJ bN.none_)), (7, (bJ (bN.k_number y9)))] ?_
      refine aT aD 7 [] [(9, (eI 0)), (10, (aE false))] ?_
      refine aT aD 7 [] [(11, (eI y9)), (12, (aE true))] ?_
      refine aP ?_
      refine bZ 0 ?_
      refine aT aD 5 [] [(39, (aE false))] ?_
      refine nM (false) (fun hc16 => ?_) (fun hc16 => ?_)
      · cases hc16
      · refine aT aD 2 [9, 10, 11, 39] [(47, (aE false))] ?_
        refine nM (false) (fun hc17 => ?_) (fun hc17 => ?_)
        · cases hc17
        · refine bT aD 2 [(5, (bJ bN.none_)), (7, (bJ (bN.k_number y9))), (49, (aE true))] ?_
          refine nM (true) (fun hc18 => ?_) (fun hc18 => ?_)
          · refine bT aD 1 [(4, (eI (1 : Int)))] ?_
            refine bI ?_
            obtain rfl := oI h0
            exact aG (bK (aQ (Q_r hO)))
          · cases hc18
    · replace h0 : (cond ((!x1_1) || (!x6_1)) (some (0 : Int)) (none)) = some r := h0
      refine bD ?_
      refine bU [3] [(7, (bJ (bN.k_words y10))), (8, (aE x6_1))] ?_
      refine aP ?_
      refine aT aD 6 [6, 8] [(28, (aE ((!x1_1) || (!x6_1))))] ?_
      refine bF h0 (fun h0 => ?_) (fun h0 => ?_)
      · refine bT aD 1 [(4, (eI (0 : Int)))] ?_
        refine bI ?_
        obtain rfl := oI h0
        exact aG (aQ (Q_r hO))
      refine bG ?_
      refine bE [(5, (bJ bN.none_)), (7, (bJ (bN.k_words y10)))] ?_
      refine aT aD 7 [] [(9, (eI 0)), (10, (aE false))] ?_
      refine aT aD 7 [] [(11, (eI 0)), (12, (aE false))] ?_
      refine aP ?_
      refine bZ 0 ?_
      refine aT aD 5 [] [(39, (aE false))] ?_
      refine nM (false) (fun hc20 => ?_) (fun hc20 => ?_)
      · cases hc20
      · refine aT aD 2 [9, 10, 11, 39] [(47, (aE false))] ?_
        refine nM (false) (fun hc21 => ?_) (fun hc21 => ?_)
        · cases hc21
        · refine bT aD 2 [(5, (bJ bN.none_)), (7, (bJ (bN.k_words y10))), (49, (aE false))] ?_
          refine nM (false) (fun hc22 => ?_) (fun hc22 => ?_)
          · cases hc22
          · refine bG ?_
            refine gC [(5, (bJ bN.none_)), (7, (bJ (bN.k_words y10)))] ?_
            refine aG (aY (aF (?_)))
            refine aP ?_
            refine eD (eC []) aD 6 ?_
            cases h0
  · replace h0 : ((lG b1).bind fun (x23_0, x23_1) => match x23_0 with | .none_ => (cond ((!x1_1) || (!x23_1)) (some (0 : Int)) (some (-1 : Int))) | .k_number y26 => (cond ((!x1_1) || (!x23_1)) (some (0 : Int)) ((fU y4 y26).bind fun x33 => some x33)) | .k_words y27 => (cond ((!x1_1) || (!x23_1)) (some (0 : Int)) (some (-1 : Int)))) = some r := h0
    refine bD ?_
    refine bU [2] [(5, (bJ (bN.k_number y4))), (6, (aE x1_1))] ?_
    refine aP ?_
    refine aW aD 7 ?_
    refine bV 1 ?_
    obtain ⟨⟨x23_0, x23_1⟩, hx24, h0⟩ := aZ h0
    refine dL (vU b1 _ hx24) hO ?_
    intro H hO
    rcases x23_0 with _ | y26 | y27
    · replace h0 : (cond ((!x1_1) || (!x23_1)) (some (0 : Int)) (some (-1 : Int))) = some r := h0
      refine bD ?_
      refine bU [3] [(7, (bJ bN.none_)), (8, (aE x23_1))] ?_
      refine aP ?_
      refine aT aD 6 [6, 8] [(28, (aE ((!x1_1) || (!x23_1))))] ?_
      refine bF h0 (fun h0 => ?_) (fun h0 => ?_)
      · refine bT aD 1 [(4, (eI (0 : Int)))] ?_
        refine bI ?_
        obtain rfl := oI h0
        exact aG (aQ (Q_r hO))
      refine bG ?_
      refine bE [(5, (bJ (bN.k_number y4))), (7, (bJ bN.none_))] ?_
      refine aT aD 7 [] [(9, (eI y4)), (10, (aE true))] ?_
      refine aT aD 7 [] [(11, (eI 0)), (12, (aE false))] ?_
      refine aP ?_
      refine bZ 0 ?_
      refine aT aD 5 [] [(39, (aE false))] ?_
      refine nM (false) (fun hc29 => ?_) (fun hc29 => ?_)
      · cases hc29
      · refine aT aD 2 [9, 10, 11, 39] [(47, (aE true))] ?_
        refine nM (true) (fun hc30 => ?_) (fun hc30 => ?_)
        · refine bT aD 1 [(4, (eI (-1 : Int)))] ?_
          refine bI ?_
          obtain rfl := oI h0
          exact aG (bK (aQ (Q_r hO)))
        · cases hc30
    · replace h0 : (cond ((!x1_1) || (!x23_1)) (some (0 : Int)) ((fU y4 y26).bind fun x33 => some x33)) = some r := h0
      refine bD ?_
      refine bU [3] [(7, (bJ (bN.k_number y26))), (8, (aE x23_1))] ?_
      refine aP ?_
      refine aT aD 6 [6, 8] [(28, (aE ((!x1_1) || (!x23_1))))] ?_
      refine bF h0 (fun h0 => ?_) (fun h0 => ?_)
      · refine bT aD 1 [(4, (eI (0 : Int)))] ?_
        refine bI ?_
        obtain rfl := oI h0
        exact aG (aQ (Q_r hO))
      refine bG ?_
      refine bE [(5, (bJ (bN.k_number y4))), (7, (bJ (bN.k_number y26)))] ?_
      refine aT aD 7 [] [(9, (eI y4)), (10, (aE true))] ?_
      refine aT aD 7 [] [(11, (eI y26)), (12, (aE true))] ?_
      refine aP ?_
      refine bZ 0 ?_
      refine aT aD 5 [] [(39, (aE true))] ?_
      refine nM (true) (fun hc32 => ?_) (fun hc32 => ?_)
      · refine aP ?_
        refine aW aD 4 ?_
        refine bV 2 ?_
        obtain ⟨x33, hx34, h0⟩ := aZ h0
        refine dL (xZ y4 y26 _ hx34) hO ?_
        intro H hO
        refine bD ?_
        refine bE [(4, (eI x33))] ?_
        refine bI ?_
        obtain rfl := oI h0
        exact aG (bK (aQ (Q_r hO)))
      · cases hc32
    · replace h0 : (cond ((!x1_1) || (!x23_1)) (some (0 : Int)) (some (-1 : Int))) = some r := h0
      refine bD ?_
      refine bU [3] [(7, (bJ (bN.k_words y27))), (8, (aE x23_1))] ?_
      refine aP ?_
      refine aT aD 6 [6, 8] [(28, (aE ((!x1_1) || (!x23_1))))] ?_
      refine bF h0 (fun h0 => ?_) (fun h0 => ?_)
      · refine bT aD 1 [(4, (eI (0 : Int)))] ?_
        refine bI ?_
        obtain rfl := oI h0
        exact aG (aQ (Q_r hO))
      refine bG ?_
      refine bE [(5, (bJ (bN.k_number y4))), (7, (bJ (bN.k_words y27)))] ?_
      refine aT aD 7 [] [(9, (eI y4)), (10, (aE true))] ?_
      refine aT aD 7 [] [(11, (eI 0)), (12, (aE false))] ?_
      refine aP ?_
      refine bZ 0 ?_
      refine aT aD 5 [] [(39, (aE false))] ?_
      refine nM (false) (fun hc37 => ?_) (fun hc37 => ?_)
      · cases hc37
      · refine aT aD 2 [9, 10, 11, 39] [(47, (aE true))] ?_
        refine nM (true) (fun hc38 => ?_) (fun hc38 => ?_)
        · refine bT aD 1 [(4, (eI (-1 : Int)))] ?_
          refine bI ?_
          obtain rfl := oI h0
          exact aG (bK (aQ (Q_r hO)))
        · cases hc38
  · replace h0 : ((lG b1).bind fun (x39_0, x39_1) => match x39_0 with | .none_ => (cond ((!x1_1) || (!x39_1)) (some (0 : Int)) (none)) | .k_number y42 => (cond ((!x1_1) || (!x39_1)) (some (0 : Int)) (some (1 : Int))) | .k_words y43 => (cond ((!x1_1) || (!x39_1)) (some (0 : Int)) ((mK y5 y43).bind fun x56 => some x56))) = some r := h0
    refine bD ?_
    refine bU [2] [(5, (bJ (bN.k_words y5))), (6, (aE x1_1))] ?_
    refine aP ?_
    refine aW aD 7 ?_
    refine bV 1 ?_
    obtain ⟨⟨x39_0, x39_1⟩, hx40, h0⟩ := aZ h0
    refine dL (vU b1 _ hx40) hO ?_
    intro H hO
    rcases x39_0 with _ | y42 | y43
    · replace h0 : (cond ((!x1_1) || (!x39_1)) (some (0 : Int)) (none)) = some r := h0
      refine bD ?_
      refine bU [3] [(7, (bJ bN.none_)), (8, (aE x39_1))] ?_
      refine aP ?_
      refine aT aD 6 [6, 8] [(28, (aE ((!x1_1) || (!x39_1))))] ?_
      refine bF h0 (fun h0 => ?_) (fun h0 => ?_)
      · refine bT aD 1 [(4, (eI (0 : Int)))] ?_
        refine bI ?_
        obtain rfl := oI h0
        exact aG (aQ (Q_r hO))
      refine bG ?_
      refine bE [(5, (bJ (bN.k_words y5))), (7, (bJ bN.none_))] ?_
      refine aT aD 7 [] [(9, (eI 0)), (10, (aE false))] ?_
      refine aT aD 7 [] [(11, (eI 0)), (12, (aE false))] ?_
      refine aP ?_
      refine bZ 0 ?_
      refine aT aD 5 [] [(39, (aE false))] ?_
      refine nM (false) (fun hc45 => ?_) (fun hc45 => ?_)
      · cases hc45
      · refine aT aD 2 [9, 10, 11, 39] [(47, (aE false))] ?_
        refine nM (false) (fun hc46 => ?_) (fun hc46 => ?_)
        · cases hc46
        · refine bT aD 2 [(5, (bJ (bN.k_words y5))), (7, (bJ bN.none_)), (49, (aE false))] ?_
          refine nM (false) (fun hc47 => ?_) (fun hc47 => ?_)
          · cases hc47
          · refine bG ?_
            refine gC [(5, (bJ (bN.k_words y5))), (7, (bJ bN.none_))] ?_
            refine aG (aY (aF (?_)))
            refine aP ?_
            refine eD (eC []) aD 6 ?_
            cases h0
    · replace h0 : (cond ((!x1_1) || (!x39_1)) (some (0 : Int)) (some (1 : Int))) = some r := h0
      refine bD ?_
      refine bU [3] [(7, (bJ (bN.k_number y42))), (8, (aE x39_1))] ?_
      refine aP ?_
      refine aT aD 6 [6, 8] [(28, (aE ((!x1_1) || (!x39_1))))] ?_
      refine bF h0 (fun h0 => ?_) (fun h0 => ?_)
      · refine bT aD 1 [(4, (eI (0 : Int)))] ?_
        refine bI ?_
        obtain rfl := oI h0
        exact aG (aQ (Q_r hO))
      refine bG ?_
      refine bE [(5, (bJ (bN.k_words y5))), (7, (bJ (bN.k_number y42)))] ?_
      refine aT aD 7 [] [(9, (eI 0)), (10, (aE false))] ?_
      refine aT aD 7 [] [(11, (eI y42)), (12, (aE true))] ?_
      refine aP ?_
      refine bZ 0 ?_
      refine aT aD 5 [] [(39, (aE false))] ?_
      refine nM (false) (fun hc49 => ?_) (fun hc49 => ?_)
      · cases hc49
      · refine aT aD 2 [9, 10, 11, 39] [(47, (aE false))] ?_
        refine nM (false) (fun hc50 => ?_) (fun hc50 => ?_)
        · cases hc50
        · refine bT aD 2 [(5, (bJ (bN.k_words y5))), (7, (bJ (bN.k_number y42))), (49, (aE true))] ?_
          refine nM (true) (fun hc51 => ?_) (fun hc51 => ?_)
          · refine bT aD 1 [(4, (eI (1 : Int)))] ?_
            refine bI ?_
            obtain rfl := oI h0
            exact aG (bK (aQ (Q_r hO)))
          · cases hc51
    · replace h0 : (cond ((!x1_1) || (!x39_1)) (some (0 : Int)) ((mK y5 y43).bind fun x56 => some x56)) = some r := h0
      refine bD ?_
      refine bU [3] [(7, (bJ (bN.k_words y43))), (8, (aE x39_1))] ?_
      refine aP ?_
      refine aT aD 6 [6, 8] [(28, (aE ((!x1_1) || (!x39_1))))] ?_
      refine bF h0 (fun h0 => ?_) (fun h0 => ?_)
      · refine bT aD 1 [(4, (eI (0 : Int)))] ?_
        refine bI ?_
        obtain rfl := oI h0
        exact aG (aQ (Q_r hO))
      refine bG ?_
      refine bE [(5, (bJ (bN.k_words y5))), (7, (bJ (bN.k_words y43)))] ?_
      refine aT aD 7 [] [(9, (eI 0)), (10, (aE false))] ?_
      refine aT aD 7 [] [(11, (eI 0)), (12, (aE false))] ?_
      refine aP ?_
      refine bZ 0 ?_
      refine aT aD 5 [] [(39, (aE false))] ?_
      refine nM (false) (fun hc53 => ?_) (fun hc53 => ?_)
      · cases hc53
      · refine aT aD 2 [9, 10, 11, 39] [(47, (aE false))] ?_
        refine nM (false) (fun hc54 => ?_) (fun hc54 => ?_)
        · cases hc54
        · refine bT aD 2 [(5, (bJ (bN.k_words y5))), (7, (bJ (bN.k_words y43))), (49, (aE false))] ?_
          refine nM (false) (fun hc55 => ?_) (fun hc55 => ?_)
          · cases hc55
          · refine bG ?_
            refine gC [(5, (bJ (bN.k_words y5))), (7, (bJ (bN.k_words y43)))] ?_
            refine aG (aY (aF (?_)))
            refine aP ?_
            refine eD (eC []) aD 6 ?_
            refine kQ 4 ?_
            obtain ⟨x56, hx57, h0⟩ := aZ h0
            refine DB (FE y5 y43 _ hx57) hO ?_
            intro H hO
            refine gH ?_
            refine bE [(4, (eI x56))] ?_
            refine bI ?_
            obtain rfl := oI h0
            exact aG (Q_r hO)

theorem LX (a0 : (List aB)) (b1 : (List aB)) (r : Int) (h0 : rJ a0 b1 = some r) : dH Try.prog 77 [(eL aC a0), (eL aC b1)] (eI r) := by
  intro H0
  refine dF Try.func77 ?_
  have hO := aL.start H0
  unfold rJ at h0
  refine aP ?_
  refine aW aD 2 ?_
  refine qV 1 (eL aC b1) (by kernel_rfl) (by kernel_rfl) ?_
  refine bD ?_
  refine bU [1] [(3, (.rp (eL aC b1)))] ?_
  refine aP ?_
  refine aP ?_
  refine aW aD 8 ?_
  refine bV 1 ?_
  obtain ⟨x1, hx2, h0⟩ := aZ h0
  refine dL (EG a0 _ hx2) hO ?_
  intro H hO
  refine bV 5 ?_
  obtain ⟨x4, hx5, h0⟩ := aZ h0
  refine nH [(10, false)] 76 [(eL aC b1)] (aE x4) (!(!x1)) (by kernel_rfl) (by kernel_rfl) (by kernel_rfl) (fun hb6 => (EG b1 _ (iV hx5 hb6))) hO ?_
  intro H hO
  refine bD ?_
  refine bU [] [(14, (aE ((!x1) || (!x4))))] ?_
  refine bF h0 (fun h0 => ?_) (fun h0 => ?_)
  · refine bT aD 1 [(4, (eI (0 : Int)))] ?_
    refine bI ?_
    obtain rfl := oI h0
    exact aG (aQ (Q_r hO))
  refine bG ?_
  refine bE [(0, (eL aC a0)), (3, (.rp (eL aC b1)))] ?_
  refine aT aD 6 [] [(5, (eI (if (lN b1) < (lN a0) then (lN b1) else (lN a0))))] ?_
  refine aP ?_
  refine eD (eC []) aD 7 ?_
  obtain ⟨c8, h0⟩ := aR h0
  refine cB 4 [0 ≤ (if (lN b1) < (lN a0) then (lN b1) else (lN a0)) ∧ (if (lN b1) < (lN a0) then (lN b1) else (lN a0)) ≤ (lN a0)] ⟨c8, trivial⟩ ?_
  obtain ⟨x9, hx10, h0⟩ := aZ h0
  refine aAl (L' := fun lo11 => [(lo11, 1, [(eI x9.1)])]) 1 [(eI x9.1)] 101 [(.rp (eL aC b1))] (fun lo11 => (.fn (.func 102) [] [(.lp lo11 0 0), (.rp (eL aC x9.2))])) (by kernel_rfl) (by kernel_rfl) (HE b1 _ hx10) hO (fun _ => by kernel_rfl) ?_
  intro lo11 H hO
  obtain ⟨x12, hx13, h0⟩ := aZ h0
  refine ZQ (fun st G' => G' = up [(lo11, 1, [(eI st)])] ++ []) [(lo11, 1, [(eI x12.1)])] x9.1 x12.1 100 [(.sl false (Int.toNat (if (lN b1) < (lN a0) then (lN b1) else (lN a0))) (fun i => aC (List.getD a0 i default))), (.fn (.func 102) [] [(.lp lo11 0 0), (.rp (eL aC x9.2))])] (eI x12.2) (by kernel_rfl) (by kernel_rfl) (yO.sub (as0' := [(eL aC (List.take (Int.toNat (if (lN b1) < (lN a0) then (lN b1) else (lN a0))) a0)), (.fn (.func 102) [] [(.lp lo11 0 0), (.rp (eL aC x9.2))])]) (sK _ (List.take (Int.toNat (if (lN b1) < (lN a0) then (lN b1) else (lN a0))) a0) (.fn (.func 102) [] [(.lp lo11 0 0), (.rp (eL aC x9.2))]) (fun st y0 => (jU y0 st x9.2).bind fun o => some (o.2, o.1)) (fun st y0 st2 rr hr => (FF y0 lo11 st x9.2 _ (aBd hr)).toV (ys := []) (zs := [(aC y0)]) (cs := [(.lp lo11 0 0), (.rp (eL aC x9.2))]) (fun Gx hG => ⟨up [], up [] ++ [], hG, rfl⟩)) _ _ hx13) ⟨QY (Int.toNat_le.2 (And.right c8)), aN.refl _, trivial⟩) hO rfl (fun _ h => h) ?_
  intro H hO
  refine gH ?_
  replace hO := hO.pick (L' := []) [] (by decide) (by kernel_rfl)
  refine bU [5] [(6, (eI x12.2))] ?_
  refine aP ?_
  refine aT aD 2 [] [(27, (aE (decide (x12.2 < (0 : Int)))))] ?_
  refine bF h0 (fun h0 => ?_) (fun h0 => ?_)
  · refine aP ?_
    refine aW aD 6 ?_
    refine bV 4 ?_
    obtain ⟨x15, hx16, h0⟩ := aZ h0
    refine dL (FD (lN a0) (lN b1) _ hx16) hO ?_
    intro H hO
    refine bD ?_
    refine bE [(4, (eI x15))] ?_
    refine bI ?_
    obtain rfl := oI h0
    exact aG (aQ (Q_r hO))
  refine bG ?_
  refine bE [(0, (eL aC a0)), (3, (.rp (eL aC b1))), (6, (eI x12.2))] ?_
  refine aP ?_
  refine eD (eC [36, 37, 40, 41]) aD 10 ?_
  obtain ⟨c18, h0⟩ := aR h0
  obtain ⟨c19, h0⟩ := aR h0
  refine cB 8 [0 ≤ x12.2 ∧ x12.2 < (lN a0), 0 ≤ x12.2 ∧ x12.2 < (lN b1)] ⟨c18, c19, trivial⟩ ?_
  obtain ⟨x20, hx21, h0⟩ := aZ h0
  refine DB (IA (gD a0 x12.2) (gD b1 x12.2) _ hx21) hO ?_
  intro H hO
  refine gH ?_
  refine bE [(4, (eI x20))] ?_
  refine bI ?_
  obtain rfl := oI h0
  exact aG (Q_r hO)

theorem FM (l0 : (List aI)) (holds1_f : Nat) (holds1_a holds1_c : List V) (tE : (List aM) → Option Bool) (holds1_h : ∀ a0 r, tE a0 = some r → dH Try.prog holds1_f (holds1_a ++ [(eL aX a0)] ++ holds1_c) (aE r)) (r : Bool) (h0 : sG l0 tE = some r) : dH Try.prog 56 [(eL aH l0), (.fn (.func holds1_f) holds1_a holds1_c)] (aE r) := by
  intro H0
  refine JJ aD Try.func56 (by kernel_rfl) (by kernel_rfl) (by kernel_rfl) ?_
  have hO := aL.start H0
  unfold sG at h0
  refine aP ?_
  refine aW aD 2 ?_
  refine qV 1 (.fn (.func holds1_f) holds1_a holds1_c) (by kernel_rfl) (by kernel_rfl) ?_
  refine vH 1 (aE false) (by kernel_rfl) (by kernel_rfl) hO ?_
  intro lo1 H hO
  refine hU ?_
  refine bU [1] [(3, (.rp (.fn (.func holds1_f) holds1_a holds1_c))), (4, (.lp lo1 0 0))] ?_
  refine aP ?_
  refine aT aD 3 [] [(11, (aE (decide ((4096 : Int) < (lN l0)))))] ?_
  refine bF h0 (fun h0 => ?_) (fun h0 => ?_)
  · refine aP ?_
    refine aW aD 1 ?_
    refine pU 0 lo1 1 0 (aE false) (aE false) [(aE false)] [(lo1, 1, [(aE false)])] hO rfl (by kernel_rfl) ?_
    intro H hO
    refine hU ?_
    refine bE [(4, (.lp lo1 0 0))] ?_
    refine bI ?_
    obtain rfl := oI h0
    exact aG (aQ (QM0 (.inr rfl) (rs := [.cell 4 4]) (xs := [(aE false)]) (x := (aE false)) (by kernel_rfl) (EU (lo := lo1) (k := 1) (y := (aE false)) (x := (aE false)) 0 hO (by kernel_rfl) (by kernel_rfl) (by kernel_rfl) (by kernel_rfl) CW) (by kernel_rfl) ⟨rfl, hO.out⟩))
  refine bG ?_
  refine bE [(0, (eL aH l0)), (3, (.rp (.fn (.func holds1_f) holds1_a holds1_c))), (4, (.lp lo1 0 0))] ?_
  refine aP ?_
  refine aW aD 1 ?_
  refine vF 1 (.sl true 0 (fun _ => .bad)) (eL aC ([])) (by kernel_rfl) (by kernel_rfl) (by kernel_rfl) (kX) (by kernel_rfl) (by kernel_rfl) hO ?_
  intro lo3 H hO
  refine hU ?_
  refine bU [] [(5, (.lp lo3 0 0))] ?_
  refine aP ?_
  refine aW aD 2 ?_
  refine vH 1 (aE false) (by kernel_rfl) (by kernel_rfl) hO ?_
  intro lo4 H hO
  refine pU 2 lo4 1 0 (aE false) (aE false) [(aE false)] [(lo1, 1, [(aE false)]), (lo3, 1, [(eL aC ([]))]), (lo4, 1, [(aE false)])] hO rfl (by kernel_rfl) ?_
  intro H hO
  refine hU ?_
  refine bU [] [(6, (.lp lo4 0 0))] ?_
  refine aP ?_
  refine aP ?_
  refine aW aD 2 ?_
  refine bV 1 ?_
  obtain ⟨x5, hx6, h0⟩ := aZ h0
  refine dL (QH l0 _ hx6) hO ?_
  intro H hO
  refine hU ?_
  refine bU [0] [(13, (.fn (.func 91) [] [(.rp (eL aH x5))]))] ?_
  refine bZ 0 ?_
  refine fA [(3, (.rp (.fn (.func holds1_f) holds1_a holds1_c))), (4, (.lp lo1 0 0)), (5, (.lp lo3 0 0)), (6, (.lp lo4 0 0)), (13, (.fn (.func 91) [] [(.rp (eL aH x5))]))] ?_
  refine dP (fun T H => ∃ t4 : Bool, ∃ nQ : (List aB), ∃ kE : Bool, ∃ tZ : (List aI), Has T [(3, (.rp (.fn (.func holds1_f) holds1_a holds1_c))), (4, (.lp lo1 0 0)), (5, (.lp lo3 0 0)), (6, (.lp lo4 0 0)), (13, (.fn (.func 91) [] [(.rp (eL aH tZ))]))] ∧ aL ⟨H0, [], []⟩ H [(lo1, 1, [(aE t4)]), (lo3, 1, [(eL aC nQ)]), (lo4, 1, [(aE kE)])] ∧ wF tE t4 nQ kE tZ = some r) ?_ ⟨false, [], false, x5, .eq (by kernel_rfl), hO, h0⟩
  clear hO h0
  rintro T H ⟨t4, nQ, kE, tZ, hT, hO, h0⟩
  refine bC (l := [(3, (.rp (.fn (.func holds1_f) holds1_a holds1_c))), (4, (.lp lo1 0 0)), (5, (.lp lo3 0 0)), (6, (.lp lo4 0 0)), (13, (.fn (.func 91) [] [(.rp (eL aH tZ))]))]) hT ?_
  clear hT
  unfold wF at h0
  obtain ⟨o0, hl0, h0⟩ := aZ h0
  refine GP (fid := 91) (ys := []) (cs := [(.rp (eL aH tZ))]) #[14, 15] (fun (A : AF) (b lL : Nat) (st : (Bool × (List aB) × Bool) ⊕ (Bool × (List aB) × Bool)) (G' : Gs) => Sum.elim (fun (s : Bool × (List aB) × Bool) => G' = (lL, .raw (mF b A .ready none)) :: (up [(lo1, 1, [(aE s.1)]), (lo3, 1, [(eL aC s.2.1)]), (lo4, 1, [(aE s.2.2)])] ++ [])) (fun (s : Bool × (List aB) × Bool) => G' = (lL, .raw (mF b A .done (some .ret))) :: (up [(lo1, 1, [(aE s.1)]), (lo3, 1, [(eL aC s.2.1)]), (lo4, 1, [(aE s.2.2)])] ++ [])) st) (.inl (t4, nQ, kE)) o0 (.tup []) (by kernel_rfl) (by kernel_rfl) (by kernel_rfl) hO (fun _ _ => rfl) ?_ ?_
  · intro b lL
    clear hO h0
    refine IC _ b (fun st t14 t15 => rnd (fun (s : Bool × (List aB) × Bool) => oH tE tZ s.1 s.2.1 s.2.2 t14 t15) st) ?_ tZ _ _ hl0
    intro st t14 t15 out1 rr hr
    obtain ⟨s, rfl, h1, rfl⟩ := WX hr
    clear hr
    intro Hr Gr hi hg
    obtain ⟨t4, nQ, kE⟩ := s
    dsimp only [Sum.elim_inl] at hi
    obtain rfl := hi
    replace h1 : oH tE tZ t4 nQ kE t14 t15 = some out1 := h1
    unfold oH at h1
    obtain ⟨E1, hE, hO⟩ := AO hg
    refine AK (GC (hO.gm 0 _ rfl).2 (by kernel_rfl) (by kernel_rfl) ?_)
    refine fA [(3, (.rp (.fn (.func holds1_f) holds1_a holds1_c))), (4, (.lp lo1 0 0)), (5, (.lp lo3 0 0)), (6, (.lp lo4 0 0)), (13, (.fn (.func 91) [] [(.rp (eL aH tZ))])), (14, (eL aC t14)), (15, (eL aX t15))] ?_
    refine aT aD 1 [13, 14] [(7, (eL aC t14))] ?_
    refine aW aD 1 ?_
    refine bD ?_
    refine gC [(3, (.rp (.fn (.func holds1_f) holds1_a holds1_c))), (4, (.lp lo1 0 0)), (5, (.lp lo3 0 0)), (6, (.lp lo4 0 0)), (7, (eL aC t14)), (8, (eL aX t15))] ?_
    refine aG (⟨rfl, rfl, (hO.gm 0 _ rfl).2, ?_⟩)
    intro o1 ho1
    replace hO := hO.BX o1
    refine bZ 1 ?_
    refine aP ?_
    refine aP ?_
    refine aW aD 18 ?_
    refine bV 1 ?_
    obtain ⟨x7, hx8, h1⟩ := aZ h1
    refine dL (EG t14 _ hx8) hO ?_
    intro H hO
    refine bV 4 ?_
    refine sD [(19, false)] 2 lo4 1 0 (aE kE) (aE kE) [(aE kE)] (by kernel_rfl) (by kernel_rfl) hO (by kernel_rfl) (!(!x7)) (by kernel_rfl) (fun hb10 => rfl) ?_
    refine bV 6 ?_
    refine sD [(21, true), (19, false)] 1 lo3 1 0 (eL aC nQ) (eL aC nQ) [(eL aC nQ)] (by kernel_rfl) (by kernel_rfl) hO (by kernel_rfl) (kE && (!(!x7))) (by kernel_rfl) (fun hb11 => rfl) ?_
    refine bV 8 ?_
    obtain ⟨x12, hx13, h1⟩ := aZ h1
    refine nH [(21, true), (19, false)] 77 [(eL aC nQ), (eL aC t14)] (eI x12) (kE && (!(!x7))) (by kernel_rfl) (by kernel_rfl) (by kernel_rfl) (fun hb14 => (LX nQ t14 _ (iV hx13 hb14))) hO ?_
    intro H hO
    refine bV 15 ?_
    obtain ⟨x15, hx16, h1⟩ := aZ h1
    refine nH [(28, false)] holds1_f (holds1_a ++ [(eL aX t15)] ++ holds1_c) (aE x15) (!((!x7) || (kE && (decide ((0 : Int) ≤ x12))))) (by kernel_rfl) (by kernel_rfl) (by kernel_rfl) (fun hb17 => (holds1_h t15 _ (iV hx16 hb17))) hO ?_
    intro H hO
    refine bD ?_
    refine bU [3, 8] [(33, (aE (((!x7) || (kE && (decide ((0 : Int) ≤ x12)))) || (!x15))))] ?_
    refine bF h1 (fun h1 => ?_) (fun h1 => ?_)
    · refine aP ?_
      refine aW aD 1 ?_
      refine pU 0 lo1 1 0 (aE t4) (aE false) [(aE t4)] [(lo1, 1, [(aE false)]), (lo3, 1, [(eL aC nQ)]), (lo4, 1, [(aE kE)])] hO rfl (by kernel_rfl) ?_
      intro H hO
      refine hU ?_
      refine bU [7, 33] [] ?_
      refine bI ?_
      refine gC [(4, (.lp lo1 0 0)), (5, (.lp lo3 0 0)), (6, (.lp lo4 0 0))] ?_
      obtain rfl := oI h1
      exact aG (aQ (bK (⟨(mQ hO hE ho1 .dead).1, rfl, _, rfl, (mQ hO hE ho1 _).2⟩)))
    refine bG ?_
    refine bE [(4, (.lp lo1 0 0)), (5, (.lp lo3 0 0)), (6, (.lp lo4 0 0)), (7, (eL aC t14))] ?_
    refine aW aD 3 ?_
    refine bV 1 ?_
    refine pU 1 lo3 1 0 (eL aC nQ) (eL aC t14) [(eL aC nQ)] [(lo1, 1, [(aE t4)]), (lo3, 1, [(eL aC t14)]), (lo4, 1, [(aE kE)])] hO rfl (by kernel_rfl) ?_
    intro H hO
    refine pU 2 lo4 1 0 (aE kE) (aE true) [(aE kE)] [(lo1, 1, [(aE t4)]), (lo3, 1, [(eL aC t14)]), (lo4, 1, [(aE true)])] hO rfl (by kernel_rfl) ?_
    intro H hO
    refine hU ?_
    refine gC [(4, (.lp lo1 0 0)), (5, (.lp lo3 0 0)), (6, (.lp lo4 0 0))] ?_
    obtain rfl := oI h1
    exact aG (aY (⟨(mQ hO hE ho1 .dead).1, rfl, _, rfl, (mQ hO hE ho1 _).2⟩))
  · intro b lD19 lL H' G' hi hO
    rcases o0 with s | s
    · dsimp only [Sum.elim_inl] at hi
      obtain rfl := hi
      replace h0 : (some true) = some r := h0
      obtain ⟨hlL, hO⟩ := yL hO
      refine ⟨_, _, hlL, (by intro e; cases e), ?_⟩
      refine gC [(4, (.lp lo1 0 0))] ?_
      replace hO := hO.pick (L' := [(lo1, 1, [(aE s.1)])]) [0] (by decide) (by kernel_rfl)
      refine aG (aY (aF (?_)))
      refine aP ?_
      refine aW aD 1 ?_
      refine pU 0 lo1 1 0 (aE s.1) (aE true) [(aE s.1)] [(lo1, 1, [(aE true)])] hO rfl (by kernel_rfl) ?_
      intro H hO
      refine hU ?_
      refine bE [(4, (.lp lo1 0 0))] ?_
      refine bI ?_
      obtain rfl := oI h0
      have hD := (hO.gm 0 _ rfl).2
      replace hO := (hO.BX .dead).CE
      exact aG (QM1 (.inr rfl) hD (rs := [.cell 4 4]) (xs := [(aE true)]) (x := (aE true)) (by kernel_rfl) (EU (lo := lo1) (k := 1) (y := (aE true)) (x := (aE true)) 0 hO (by kernel_rfl) (by kernel_rfl) (by kernel_rfl) (by kernel_rfl) CW) (by kernel_rfl) ⟨rfl, hO.out⟩)
    · dsimp only [Sum.elim_inr] at hi
      obtain rfl := hi
      replace h0 : (some s.1) = some r := h0
      obtain ⟨hlL, hO⟩ := yL hO
      refine ⟨_, _, hlL, (by intro e; cases e), ?_⟩
      refine bI ?_
      replace hO := hO.pick (L' := [(lo1, 1, [(aE s.1)])]) [0] (by decide) (by kernel_rfl)
      obtain rfl := oI h0
      have hD := (hO.gm 0 _ rfl).2
      replace hO := (hO.BX .dead).CE
      exact aG (bK (aQ (QM1 (.inr rfl) hD (rs := [.cell 4 4]) (xs := [(aE s.1)]) (x := (aE s.1)) (by kernel_rfl) (EU (lo := lo1) (k := 1) (y := (aE s.1)) (x := (aE s.1)) 0 hO (by kernel_rfl) (by kernel_rfl) (by kernel_rfl) (by kernel_rfl) CW) (by kernel_rfl) ⟨rfl, hO.out⟩)))

theorem PM (n0 : Int) (r : Bool) (h0 : xD n0 = some r) : dH Try.prog 78 [(eI n0)] (aE r) := by
  intro H0
  refine dF Try.func78 ?_
  have hO := aL.start H0
  unfold xD at h0
  refine aT aD 1 [] [] ?_
  refine bT aD 7 [(2, (aE ((decide (n0 ≤ (1048576 : Int))) && (decide ((-1048576 : Int) ≤ n0)))))] ?_
  refine bI ?_
  obtain rfl := oI h0
  exact aG (Q_r hO)

theorem CL (f0 : (List aM)) (r : Bool) (h0 : pN f0 = some r) : dH Try.prog 57 [(eL aX f0)] (aE r) := by
  intro H0
  refine dF Try.func57 ?_
  have hO := aL.start H0
  unfold pN at h0
  refine aT aD 1 [] [] ?_
  refine aP ?_
  refine aT aD 3 [] [(8, (aE (decide ((1024 : Int) < (lN f0)))))] ?_
  refine bF h0 (fun h0 => ?_) (fun h0 => ?_)
  · refine bT aD 1 [(2, (aE false))] ?_
    refine bI ?_
    obtain rfl := oI h0
    exact aG (aQ (Q_r hO))
  refine bG ?_
  refine bE [(0, (eL aX f0))] ?_
  refine aT aD 1 [] [(3, (eI (-2 : Int)))] ?_
  refine dU (fun T H => Has T [] ∧ aL ⟨H0, [], []⟩ H [] ∧ uF  = some r) ?_ ?_
  · clear hO h0
    rintro T H ⟨hT, hO, h0⟩
    refine bC hT ?_
    clear hT
    unfold uF at h0
    refine bT aD 1 [(2, (aE true))] ?_
    refine bI ?_
    obtain rfl := oI h0
    exact aG (Q_r hO)
  refine aT aD 3 [0] [(9, (eL aX f0)), (10, (eI (lN f0))), (11, (eI (0 : Int)))] ?_
  refine bZ 0 ?_
  refine fA [(3, (eI (-2 : Int))), (9, (eL aX f0)), (10, (eI (lN f0))), (11, (eI (0 : Int)))] ?_
  refine dP (fun T H => ∃ qA : Int, ∃ t9 : (List aM), ∃ t10 : Int, ∃ t11 : Int, Has T [(3, (eI qA)), (9, (eL aX t9)), (10, (eI t10)), (11, (eI t11))] ∧ aL ⟨H0, [], []⟩ H [] ∧ xC qA t9 t10 t11 = some r) ?_ ⟨(-2 : Int), f0, (lN f0), (0 : Int), .eq (by kernel_rfl), hO, h0⟩
  clear hO h0
  rintro T H ⟨qA, t9, t10, t11, hT, hO, h0⟩
  refine bC hT ?_
  clear hT
  unfold xC at h0
  obtain ⟨rr0, hl0, h0⟩ := aZ h0
  refine cP (by kernel_rfl) (fun (s : Int × Int) T H => Has T [(3, (eI s.1)), (9, (eL aX t9)), (10, (eI t10)), (11, (eI s.2))] ∧ aL ⟨H0, [], []⟩ H []) hl0 ⟨.eq (by kernel_rfl), hO⟩ ?_
  clear hO
  rintro k0 s out1 T H ⟨hT, hO⟩ h1 ho0
  obtain ⟨qA, t11⟩ := s
  replace h1 : mC t9 t10 qA t11 = some out1 := h1
  try dsimp only at hT
  refine bC hT ?_
  clear hT
  unfold mC at h1
  refine aT aD 1 [] [(12, (aE (decide (t11 < t10))))] ?_
  refine aP ?_
  refine bF h1 (fun h1 => ?_) (fun h1 => ?_)
  · refine bG ?_
    refine bE [(3, (eI qA)), (9, (eL aX t9)), (10, (eI t10)), (11, (eI t11))] ?_
    refine aP ?_
    refine bZ 1 ?_
    refine aP ?_
    refine aW aD 4 ?_
    obtain ⟨c3, h1⟩ := aR h1
    refine nS 2 [0 ≤ t11 ∧ t11 < (lN t9)] ⟨c3, trivial⟩ ?_
    refine vH 2 (aX (aM.mk 0 0)) (by kernel_rfl) (by kernel_rfl) hO ?_
    intro lo4 H hO
    refine pU 0 lo4 2 0 (aX (aM.mk 0 0)) (aX (gD t9 t11)) [(aX (aM.mk 0 0))] [(lo4, 2, [(aX (gD t9 t11))])] hO rfl (by kernel_rfl) ?_
    intro H hO
    refine hU ?_
    refine bU [] [(5, (.lp lo4 0 0))] ?_
    refine aP ?_
    refine aP ?_
    refine aW aD 20 ?_
    refine bV 1 ?_
    refine pR 0 lo4 2 0 (aX (gD t9 t11)) (eI ((gD t9 t11).At)) [(aX (gD t9 t11))] hO rfl ?_
    refine bV 6 ?_
    refine sD [(19, false)] 0 lo4 2 0 (aX (gD t9 t11)) (eI ((gD t9 t11).At)) [(aX (gD t9 t11))] (by kernel_rfl) (by kernel_rfl) hO (by kernel_rfl) (!(decide (((gD t9 t11).At) ≤ qA))) (by kernel_rfl) (fun hb5 => rfl) ?_
    refine bV 11 ?_
    refine sD [(24, false)] 0 lo4 2 0 (aX (gD t9 t11)) (eI ((gD t9 t11).Net)) [(aX (gD t9 t11))] (by kernel_rfl) (by kernel_rfl) hO (by kernel_rfl) (!((decide (((gD t9 t11).At) ≤ qA)) || (decide ((1125899906842624 : Int) ≤ ((gD t9 t11).At))))) (by kernel_rfl) (fun hb6 => rfl) ?_
    refine bV 16 ?_
    refine sD [(29, false)] 0 lo4 2 0 (aX (gD t9 t11)) (eI ((gD t9 t11).Net)) [(aX (gD t9 t11))] (by kernel_rfl) (by kernel_rfl) hO (by kernel_rfl) (!(((decide (((gD t9 t11).At) ≤ qA)) || (decide ((1125899906842624 : Int) ≤ ((gD t9 t11).At)))) || (decide (((gD t9 t11).Net) = (0 : Int))))) (by kernel_rfl) (fun hb7 => rfl) ?_
    obtain ⟨x8, hx9, h1⟩ := aZ h1
    refine nH [(29, false)] 78 [(eI ((gD t9 t11).Net))] (aE x8) (!(((decide (((gD t9 t11).At) ≤ qA)) || (decide ((1125899906842624 : Int) ≤ ((gD t9 t11).At)))) || (decide (((gD t9 t11).Net) = (0 : Int))))) (by kernel_rfl) (by kernel_rfl) (by kernel_rfl) (fun hb10 => (PM ((gD t9 t11).Net) _ (iV hx9 hb10))) hO ?_
    intro H hO
    refine bD ?_
    refine bU [3] [(34, (aE ((((decide (((gD t9 t11).At) ≤ qA)) || (decide ((1125899906842624 : Int) ≤ ((gD t9 t11).At)))) || (decide (((gD t9 t11).Net) = (0 : Int)))) || (!x8))))] ?_
    refine bF h1 (fun h1 => ?_) (fun h1 => ?_)
    · refine aP ?_
      refine aW aD 1 ?_
      refine bD ?_
      refine gC [(2, (aE false))] ?_
      replace hO := hO.pick (L' := []) [] (by decide) (by kernel_rfl)
      refine aG (aF (?_))
      refine bI ?_
      obtain rfl := oI h1
      obtain rfl : _ = rr0 := ho0
      replace h0 : some false = some r := h0
      obtain rfl := oI h0
      exact aG (aQ (bK (aQ (aQ (bK (aQ (Q_r hO)))))))
    refine bG ?_
    refine bE [(5, (.lp lo4 0 0)), (9, (eL aX t9)), (10, (eI t10)), (11, (eI t11))] ?_
    refine aW aD 3 ?_
    refine bV 1 ?_
    refine pR 0 lo4 2 0 (aX (gD t9 t11)) (eI ((gD t9 t11).At)) [(aX (gD t9 t11))] hO rfl ?_
    refine bD ?_
    refine gC [(3, (eI ((gD t9 t11).At))), (9, (eL aX t9)), (10, (eI t10)), (11, (eI t11))] ?_
    replace hO := hO.pick (L' := []) [] (by decide) (by kernel_rfl)
    refine aG (aY (aF (?_)))
    refine aW aD 2 ?_
    refine bD ?_
    exact aG (aF (⟨rfl, _, (oI h1).symm, .eq (by kernel_rfl), hO⟩))
  refine eK 0 ?_
  obtain rfl := oI h1
  obtain rfl : _ = rr0 := ho0
  replace h0 : uF  = some r := h0
  exact aG (aS (aS (bO (aF (⟨rfl, .eq (by kernel_rfl), hO, h0⟩)))))

theorem SY (l0 : (List aI)) (r : Bool) (h0 : wM l0 = some r) : dH Try.prog 31 [(eL aH l0)] (aE r) := by
  intro H0
  refine dF Try.func31 ?_
  have hO := aL.start H0
  unfold wM at h0
  refine aT aD 1 [] [] ?_
  refine aP ?_
  refine aW aD 3 ?_
  refine bV 1 ?_
  obtain ⟨x1, hx2, h0⟩ := aZ h0
  refine dL (FM l0 57 [] [] (fun y0 => pN y0) (fun y0 r h => CL y0 r h) _ hx2) hO ?_
  intro H hO
  refine bD ?_
  refine bE [(2, (aE x1))] ?_
  refine bI ?_
  obtain rfl := oI h0
  exact aG (Q_r hO)

theorem NH (f0 : (List aM)) (r : Int) (h0 : sX f0 = some r) : dH Try.prog 59 [(eL aX f0)] (eI r) := by
  intro H0
  refine dF Try.func59 ?_
  have hO := aL.start H0
  unfold sX at h0
  refine aT aD 1 [] [] ?_
  refine aP ?_
  refine aP ?_
  refine aW aD 8 ?_
  refine bV 1 ?_
  obtain ⟨x1, hx2, h0⟩ := aZ h0
  refine dL (CL f0 _ hx2) hO ?_
  intro H hO
  refine bD ?_
  refine bU [] [(14, (aE ((!x1) || (decide ((lN f0) = (0 : Int))))))] ?_
  refine bF h0 (fun h0 => ?_) (fun h0 => ?_)
  · refine bT aD 1 [(2, (eI (0 : Int)))] ?_
    refine bI ?_
    obtain rfl := oI h0
    exact aG (aQ (Q_r hO))
  refine bG ?_
  refine bE [(0, (eL aX f0))] ?_
  refine aT aD 2 [] [(3, (eI (0 : Int))), (4, (eI (0 : Int)))] ?_
  refine dU (fun T H => ∃ v3 : Int, ∃ gY : Int, Has T [(0, (eL aX f0)), (3, (eI v3)), (4, (eI gY))] ∧ aL ⟨H0, [], []⟩ H [] ∧ oZ f0 v3 gY = some r) ?_ ?_
  · clear hO h0
    rintro T H ⟨v3, gY, hT, hO, h0⟩
    refine bC hT ?_
    clear hT
    unfold oZ at h0
    refine dU (fun T H => ∃ gY : Int, Has T [(4, (eI gY))] ∧ aL ⟨H0, [], []⟩ H [] ∧ rY gY = some r) ?_ ?_
    · clear hO h0
      rintro T H ⟨gY, hT, hO, h0⟩
      refine bC hT ?_
      clear hT
      unfold rY at h0
      refine bT aD 2 [(2, (eI gY))] ?_
      refine bI ?_
      obtain rfl := oI h0
      exact aG (Q_r hO)
    refine aT aD 3 [0] [(24, (eL aX f0)), (25, (eI (lN f0))), (26, (eI (0 : Int)))] ?_
    refine bZ 0 ?_
    refine fA [(3, (eI v3)), (4, (eI gY)), (24, (eL aX f0)), (25, (eI (lN f0))), (26, (eI (0 : Int)))] ?_
    refine dP (fun T H => ∃ v3 : Int, ∃ gY : Int, ∃ t24 : (List aM), ∃ t25 : Int, ∃ t26 : Int, Has T [(3, (eI v3)), (4, (eI gY)), (24, (eL aX t24)), (25, (eI t25)), (26, (eI t26))] ∧ aL ⟨H0, [], []⟩ H [] ∧ rV v3 gY t24 t25 t26 = some r) ?_ ⟨v3, gY, f0, (lN f0), (0 : Int), .eq (by kernel_rfl), hO, h0⟩
    clear hO h0
    rintro T H ⟨v3, gY, t24, t25, t26, hT, hO, h0⟩
    refine bC hT ?_
    clear hT
    unfold rV at h0
    obtain ⟨rr0, hl0, h0⟩ := aZ h0
    refine cP (by kernel_rfl) (fun (s : Int × Int × Int) T H => Has T [(3, (eI s.1)), (4, (eI s.2.1)), (24, (eL aX t24)), (25, (eI t25)), (26, (eI s.2.2))] ∧ aL ⟨H0, [], []⟩ H []) hl0 ⟨.eq (by kernel_rfl), hO⟩ ?_
    clear hO
    rintro k0 s out1 T H ⟨hT, hO⟩ h1 ho0
    obtain ⟨v3, gY, t26⟩ := s
    replace h1 : mN t24 t25 v3 gY t26 = some out1 := h1
    try dsimp only at hT
    refine bC hT ?_
    clear hT
    unfold mN at h1
    refine aT aD 1 [] [(27, (aE (decide (t26 < t25))))] ?_
    refine aP ?_
    refine bF h1 (fun h1 => ?_) (fun h1 => ?_)
    · refine bG ?_
      refine bE [(3, (eI v3)), (4, (eI gY)), (24, (eL aX t24)), (25, (eI t25)), (26, (eI t26))] ?_
      refine aP ?_
      refine bZ 1 ?_
      refine aP ?_
      refine aW aD 4 ?_
      obtain ⟨c6, h1⟩ := aR h1
      refine nS 2 [0 ≤ t26 ∧ t26 < (lN t24)] ⟨c6, trivial⟩ ?_
      refine vH 2 (aX (aM.mk 0 0)) (by kernel_rfl) (by kernel_rfl) hO ?_
      intro lo7 H hO
      refine pU 0 lo7 2 0 (aX (aM.mk 0 0)) (aX (gD t24 t26)) [(aX (aM.mk 0 0))] [(lo7, 2, [(aX (gD t24 t26))])] hO rfl (by kernel_rfl) ?_
      intro H hO
      refine hU ?_
      refine bU [] [(6, (.lp lo7 0 0))] ?_
      refine aP ?_
      refine aW aD 5 ?_
      refine bV 2 ?_
      refine pR 0 lo7 2 0 (aX (gD t24 t26)) (eI ((gD t24 t26).Net)) [(aX (gD t24 t26))] hO rfl ?_
      refine bD ?_
      replace hO := hO.pick (L' := []) [] (by decide) (by kernel_rfl)
      refine bU [3, 6] [(3, (eI (wR (v3 + ((gD t24 t26).Net)))))] ?_
      refine aW aD 4 ?_
      refine bD ?_
      refine gC [(3, (eI (wR (v3 + ((gD t24 t26).Net))))), (4, (eI (if (wR (v3 + ((gD t24 t26).Net))) < gY then (wR (v3 + ((gD t24 t26).Net))) else gY))), (24, (eL aX t24)), (25, (eI t25)), (26, (eI t26))] ?_
      refine aG (aY (aF (?_)))
      refine aW aD 2 ?_
      refine bD ?_
      exact aG (aF (⟨rfl, _, (oI h1).symm, .eq (by kernel_rfl), hO⟩))
    refine eK 0 ?_
    obtain rfl := oI h1
    obtain rfl : _ = rr0 := ho0
    replace h0 : rY gY = some r := h0
    exact aG (aS (aS (bO (aF (⟨rfl, _, .eq (by kernel_rfl), hO, h0⟩)))))
  refine aP ?_
  refine aW aD 5 ?_
  obtain ⟨c8, h0⟩ := aR h0
  refine mG [0 ≤ (0 : Int) ∧ (0 : Int) < (lN f0)] ⟨c8, trivial⟩ ?_
  refine bU [] [(19, (aE (decide (((gD f0 (0 : Int)).At) = (-1 : Int)))))] ?_
  refine bF h0 (fun h0 => ?_) (fun h0 => ?_)
  · refine aW aD 5 ?_
    obtain ⟨c10, h0⟩ := aR h0
    refine mG [0 ≤ (0 : Int) ∧ (0 : Int) < (lN f0)] ⟨c10, trivial⟩ ?_
    exact aG (aF (⟨rfl, _, _, .eq (by kernel_rfl), hO, h0⟩))
  refine bG ?_
  exact aG (aF (⟨rfl, _, _, .eq (by kernel_rfl), hO, h0⟩))

theorem JL (f0 : (List aM)) (r : Bool) (h0 : qS f0 = some r) : dH Try.prog 58 [(eL aX f0)] (aE r) := by
  intro H0
  refine dF Try.func58 ?_
  have hO := aL.start H0
  unfold qS at h0
  refine aT aD 1 [] [] ?_
  refine aP ?_
  refine aW aD 8 ?_
  refine bV 1 ?_
  obtain ⟨x1, hx2, h0⟩ := aZ h0
  refine dL (CL f0 _ hx2) hO ?_
  intro H hO
  refine bV 4 ?_
  obtain ⟨x4, hx5, h0⟩ := aZ h0
  refine nH [(5, true)] 59 [(eL aX f0)] (eI x4) x1 (by kernel_rfl) (by kernel_rfl) (by kernel_rfl) (fun hb6 => (NH f0 _ (iV hx5 hb6))) hO ?_
  intro H hO
  refine bD ?_
  refine bE [(2, (aE (x1 && (decide ((0 : Int) ≤ x4)))))] ?_
  refine bI ?_
  obtain rfl := oI h0
  exact aG (Q_r hO)

theorem OS (l0 : (List aI)) (r : Bool) (h0 : tG l0 = some r) : dH Try.prog 32 [(eL aH l0)] (aE r) := by
  intro H0
  refine dF Try.func32 ?_
  have hO := aL.start H0
  unfold tG at h0
  refine aT aD 1 [] [] ?_
  refine aP ?_
  refine aW aD 3 ?_
  refine bV 1 ?_
  obtain ⟨x1, hx2, h0⟩ := aZ h0
  refine dL (FM l0 58 [] [] (fun y0 => qS y0) (fun y0 r h => JL y0 r h) _ hx2) hO ?_
  intro H hO
  refine bD ?_
  refine bE [(2, (aE x1))] ?_
  refine bI ?_
  obtain rfl := oI h0
  exact aG (Q_r hO)

theorem zO (l0 : (List aI)) (n1 : Int) (r : Int) (h0 : oD l0 n1 = some r) : dH Try.prog 46 [(eL aH l0), (eI n1)] (eI r) := by
  intro H0
  refine dF Try.func46 ?_
  have hO := aL.start H0
  unfold oD at h0
  refine aT aD 1 [] [] ?_
  refine aP ?_
  refine bZ 0 ?_
  refine aP ?_
  refine aW aD 12 ?_
  refine bV 1 ?_
  obtain ⟨x1, hx2, h0⟩ := aZ h0
  refine dL (SY l0 _ hx2) hO ?_
  intro H hO
  refine bD ?_
  refine bU [1] [(5, (aE (((!x1) || (decide (n1 < (1 : Int)))) || (decide ((64 : Int) < n1)))))] ?_
  refine bF h0 (fun h0 => ?_) (fun h0 => ?_)
  · refine bT aD 1 [(4, (eI (2 : Int)))] ?_
    refine bI ?_
    obtain rfl := oI h0
    exact aG (bK (aQ (Q_r hO)))
  refine aP ?_
  refine aW aD 4 ?_
  refine bV 1 ?_
  obtain ⟨x5, hx6, h0⟩ := aZ h0
  refine dL (OS l0 _ hx6) hO ?_
  intro H hO
  refine bD ?_
  refine bE [(17, (aE (!x5)))] ?_
  refine bF h0 (fun h0 => ?_) (fun h0 => ?_)
  · refine bT aD 1 [(4, (eI (20 : Int)))] ?_
    refine bI ?_
    obtain rfl := oI h0
    exact aG (bK (aQ (Q_r hO)))
  refine bG ?_
  refine gC [] ?_
  refine aG (aY (aF (?_)))
  refine bT aD 1 [(4, (eI (0 : Int)))] ?_
  refine bI ?_
  obtain rfl := oI h0
  exact aG (Q_r hO)

theorem AW (l0 : (List aI)) (r : (List aI)) (h0 : nZ l0 = some r) : dH Try.prog 68 [(eL aH l0)] (.fn (.func 94) [] [(.rp (eL aH r))]) := by
  intro H0
  refine dF Try.func68 ?_
  have hO := aL.start H0
  unfold nZ at h0
  refine aP ?_
  refine aW aD 2 ?_
  refine qV 1 (eL aH l0) (by kernel_rfl) (by kernel_rfl) ?_
  refine bD ?_
  refine bE [(1, (.rp (eL aH l0)))] ?_
  refine bT aD 2 [(2, (.fn (.func 94) [] [(.rp (eL aH l0))]))] ?_
  refine bI ?_
  obtain rfl := oI h0
  exact aG (lC (x := (.fn (.func 94) [] [(.rp (eL aH l0))])) (by kernel_rfl) (aN.refl _) ⟨rfl, hO.out⟩)

theorem xO {σ : Type} (I : σ → Gs → Prop) (yield0_b : Nat) (gT : σ → aI → Option (σ × Bool)) (yield0_h : ∀ st a0 st2 r, gT st a0 = some (st2, r) → ET Try.prog (yv yield0_b) I st [(aH a0)] st2 (aE r)) (t1 : (List aI)) (sg0 : σ) (r : σ) (h0 : lR gT t1 sg0 = some r) : yO Try.prog 94 I sg0 [(yv yield0_b), (.rp (eL aH t1))] r (.tup []) := by
  intro H0 G0 hI hg
  refine dF Try.func94 ?_
  obtain ⟨G, hO, hI⟩ : ∃ G, aL ⟨H0, List.map (fun p : Nat × dW => p.1) G0, G⟩ H0 [] ∧ I sg0 G := ⟨G0, aL.HU hg, hI⟩
  clear hg
  unfold lR at h0
  refine aT aD 3 [1] [(5, (eL aH t1)), (6, (eI (lN t1))), (7, (eI (0 : Int)))] ?_
  refine bZ 0 ?_
  refine fA [(0, (yv yield0_b)), (5, (eL aH t1)), (6, (eI (lN t1))), (7, (eI (0 : Int)))] ?_
  refine dP (fun T H => ∃ sg : σ, ∃ t5 : (List aI), ∃ t6 : Int, ∃ t7 : Int, ∃ G : Gs, Has T [(0, (yv yield0_b)), (5, (eL aH t5)), (6, (eI t6)), (7, (eI t7))] ∧ aL ⟨H0, List.map (fun p : Nat × dW => p.1) G0, G⟩ H [] ∧ I sg G ∧ oT gT sg t5 t6 t7 = some r) ?_ ⟨sg0, t1, (lN t1), (0 : Int), G, .eq (by kernel_rfl), hO, hI, h0⟩
  clear hO hI h0
  rintro T H ⟨sg, t5, t6, t7, G, hT, hO, hI, h0⟩
  refine bC hT ?_
  clear hT
  unfold oT at h0
  obtain ⟨rr0, hl0, h0⟩ := aZ h0
  refine cP (by kernel_rfl) (fun (s : σ × Int) T H => ∃ G : Gs, Has T [(0, (yv yield0_b)), (5, (eL aH t5)), (6, (eI t6)), (7, (eI s.2))] ∧ aL ⟨H0, List.map (fun p : Nat × dW => p.1) G0, G⟩ H [] ∧ I s.1 G) hl0 ⟨G, .eq (by kernel_rfl), hO, hI⟩ ?_
  clear hO hI
  rintro k0 s out1 T H ⟨G, hT, hO, hI⟩ h1 ho0
  obtain ⟨sg, t7⟩ := s
  replace h1 : jV gT t5 t6 sg t7 = some out1 := h1
  try dsimp only at hT
  refine bC hT ?_
  clear hT
  unfold jV at h1
  refine aT aD 1 [] [(8, (aE (decide (t7 < t6))))] ?_
  refine aP ?_
  refine bF h1 (fun h1 => ?_) (fun h1 => ?_)
  · refine bG ?_
    refine bE [(0, (yv yield0_b)), (5, (eL aH t5)), (6, (eI t6)), (7, (eI t7))] ?_
    refine aP ?_
    refine bZ 1 ?_
    refine aP ?_
    refine aW aD 4 ?_
    obtain ⟨c2, h1⟩ := aR h1
    refine nS 2 [0 ≤ t7 ∧ t7 < (lN t5)] ⟨c2, trivial⟩ ?_
    refine vF 3 (.agg [(.sl true 0 (fun _ => .bad)), (eI 0), (eI 0)]) (aH (aI.mk ([]) 0 0)) (by kernel_rfl) (by kernel_rfl) (by kernel_rfl) (yW (xs := [(.sl true 0 (fun _ => .bad)), (eI 0), (eI 0)]) (ys := [(eL aC ([])), (eI 0), (eI 0)]) ⟨kX, aN.refl _, aN.refl _, trivial⟩) (by kernel_rfl) (by kernel_rfl) hO ?_
    intro lo3 H hO
    refine pU 0 lo3 3 0 (aH (aI.mk ([]) 0 0)) (aH (gD t5 t7)) [(aH (aI.mk ([]) 0 0))] [(lo3, 3, [(aH (gD t5 t7))])] hO rfl (by kernel_rfl) ?_
    intro H hO
    refine hU ?_
    refine bU [] [(4, (.lp lo3 0 0))] ?_
    refine aP ?_
    refine aW aD 14 ?_
    refine bV 1 ?_
    refine pR 0 lo3 3 0 (aH (gD t5 t7)) (eI ((gD t5 t7).Net)) [(aH (gD t5 t7))] hO rfl ?_
    refine bV 5 ?_
    refine sD [(14, true)] 0 lo3 3 0 (aH (gD t5 t7)) (eI ((gD t5 t7).At)) [(aH (gD t5 t7))] (by kernel_rfl) (by kernel_rfl) hO (by kernel_rfl) (decide ((0 : Int) < ((gD t5 t7).Net))) (by kernel_rfl) (fun hb4 => rfl) ?_
    refine bV 10 ?_
    refine sD [(19, true)] 0 lo3 3 0 (aH (gD t5 t7)) (aH (gD t5 t7)) [(aH (gD t5 t7))] (by kernel_rfl) (by kernel_rfl) hO (by kernel_rfl) ((decide ((0 : Int) < ((gD t5 t7).Net))) && (decide ((-1 : Int) < ((gD t5 t7).At)))) (by kernel_rfl) (fun hb5 => rfl) ?_
    obtain ⟨⟨x8, x9⟩, hx7, h1⟩ := aZ h1
    replace hx7 := ZO hx7
    refine XH (I := I) [(19, true)] ((decide ((0 : Int) < ((gD t5 t7).Net))) && (decide ((-1 : Int) < ((gD t5 t7).At)))) (yv yield0_b) [(aH (gD t5 t7))] (aE x9) ⟨fun hb => yield0_h _ (gD t5 t7) x8 x9 (hx7.1 hb), hx7.2⟩ hO hI ?_
    intro G H hO hI
    refine bD ?_
    replace hO := hO.pick (L' := []) [] (by decide) (by kernel_rfl)
    refine bU [4] [(24, (aE (((decide ((0 : Int) < ((gD t5 t7).Net))) && (decide ((-1 : Int) < ((gD t5 t7).At)))) && (!x9))))] ?_
    refine bF h1 (fun h1 => ?_) (fun h1 => ?_)
    · refine bI ?_
      obtain rfl := oI h1
      obtain rfl : _ = rr0 := ho0
      replace h0 : some x8 = some r := h0
      obtain rfl := oI h0
      exact aG (bK (aQ (aQ (bK (lC (x := (.tup [])) (by kernel_rfl) (aN.refl _) ⟨rfl, G, hI, hO.FZ⟩)))))
    refine bG ?_
    refine gC [(0, (yv yield0_b)), (5, (eL aH t5)), (6, (eI t6)), (7, (eI t7))] ?_
    refine aG (aY (aF (?_)))
    refine aW aD 2 ?_
    refine bD ?_
    exact aG (aF (⟨rfl, _, (oI h1).symm, _, .eq (by kernel_rfl), hO, hI⟩))
  refine eK 0 ?_
  obtain rfl := oI h1
  obtain rfl : _ = rr0 := ho0
  replace h0 : some sg = some r := h0
  obtain rfl := oI h0
  exact aG (aS (aS (bO (yF (x := (.tup [])) (by kernel_rfl) (aN.refl _) ⟨rfl, G, hI, hO.FZ⟩))))

theorem FC (x0 : Int) (r : Int) (h0 : nP x0 = some r) : dH Try.prog 88 [(cX .u64 x0)] (eI r) := by
  intro H0
  refine dF Try.func88 ?_
  have hO := aL.start H0
  unfold nP at h0
  refine aT aD 1 [] [(2, (eI (0 : Int)))] ?_
  refine dU (fun T H => ∃ x0 : Int, ∃ n2 : Int, Has T [(0, (cX .u64 x0)), (2, (eI n2))] ∧ aL ⟨H0, [], []⟩ H [] ∧ kL x0 n2 = some r) ?_ ?_
  · clear hO h0
    rintro T H ⟨x0, n2, hT, hO, h0⟩
    refine bC hT ?_
    clear hT
    unfold kL at h0
    refine dU (fun T H => ∃ x0 : Int, ∃ n2 : Int, Has T [(0, (cX .u64 x0)), (2, (eI n2))] ∧ aL ⟨H0, [], []⟩ H [] ∧ kN x0 n2 = some r) ?_ ?_
    · clear hO h0
      rintro T H ⟨x0, n2, hT, hO, h0⟩
      refine bC hT ?_
      clear hT
      unfold kN at h0
      refine dU (fun T H => ∃ x0 : Int, ∃ n2 : Int, Has T [(0, (cX .u64 x0)), (2, (eI n2))] ∧ aL ⟨H0, [], []⟩ H [] ∧ lO x0 n2 = some r) ?_ ?_
      · clear hO h0
        rintro T H ⟨x0, n2, hT, hO, h0⟩
        refine bC hT ?_
        clear hT
        unfold lO at h0
        refine aP ?_
        refine aW aD 7 ?_
        obtain ⟨c1, h0⟩ := aR h0
        refine mG [0 ≤ (IntKind.u8.wrap x0) ∧ (IntKind.u8.wrap x0) < ((ByteArray.size (⟨#[0, 1, 2, 2, 3, 3, 3, 3, 4, 4, 4, 4, 4, 4, 4, 4, 5, 5, 5, 5, 5, 5, 5, 5, 5, 5, 5, 5, 5, 5, 5, 5, 6, 6, 6, 6, 6, 6, 6, 6, 6, 6, 6, 6, 6, 6, 6, 6, 6, 6, 6, 6, 6, 6, 6, 6, 6, 6, 6, 6, 6, 6, 6, 6, 7, 7, 7, 7, 7, 7, 7, 7, 7, 7, 7, 7, 7, 7, 7, 7, 7, 7, 7, 7, 7, 7, 7, 7, 7, 7, 7, 7, 7, 7, 7, 7, 7, 7, 7, 7, 7, 7, 7, 7, 7, 7, 7, 7, 7, 7, 7, 7, 7, 7, 7, 7, 7, 7, 7, 7, 7, 7, 7, 7, 7, 7, 7, 7, 8, 8, 8, 8, 8, 8, 8, 8, 8, 8, 8, 8, 8, 8, 8, 8, 8, 8, 8, 8, 8, 8, 8, 8, 8, 8, 8, 8, 8, 8, 8, 8, 8, 8, 8, 8, 8, 8, 8, 8, 8, 8, 8, 8, 8, 8, 8, 8, 8, 8, 8, 8, 8, 8, 8, 8, 8, 8, 8, 8, 8, 8, 8, 8, 8, 8, 8, 8, 8, 8, 8, 8, 8, 8, 8, 8, 8, 8, 8, 8, 8, 8, 8, 8, 8, 8, 8, 8, 8, 8, 8, 8, 8, 8, 8, 8, 8, 8, 8, 8, 8, 8, 8, 8, 8, 8, 8, 8, 8, 8, 8, 8, 8, 8, 8, 8, 8, 8, 8, 8, 8, 8, 8, 8, 8, 8, 8, 8]⟩ : ByteArray) : Nat) : Int)] ⟨c1, trivial⟩ ?_
        refine bE [(2, (eI (wR (n2 + (wR (bt (⟨#[0, 1, 2, 2, 3, 3, 3, 3, 4, 4, 4, 4, 4, 4, 4, 4, 5, 5, 5, 5, 5, 5, 5, 5, 5, 5, 5, 5, 5, 5, 5, 5, 6, 6, 6, 6, 6, 6, 6, 6, 6, 6, 6, 6, 6, 6, 6, 6, 6, 6, 6, 6, 6, 6, 6, 6, 6, 6, 6, 6, 6, 6, 6, 6, 7, 7, 7, 7, 7, 7, 7, 7, 7, 7, 7, 7, 7, 7, 7, 7, 7, 7, 7, 7, 7, 7, 7, 7, 7, 7, 7, 7, 7, 7, 7, 7, 7, 7, 7, 7, 7, 7, 7, 7, 7, 7, 7, 7, 7, 7, 7, 7, 7, 7, 7, 7, 7, 7, 7, 7, 7, 7, 7, 7, 7, 7, 7, 7, 8, 8, 8, 8, 8, 8, 8, 8, 8, 8, 8, 8, 8, 8, 8, 8, 8, 8, 8, 8, 8, 8, 8, 8, 8, 8, 8, 8, 8, 8, 8, 8, 8, 8, 8, 8, 8, 8, 8, 8, 8, 8, 8, 8, 8, 8, 8, 8, 8, 8, 8, 8, 8, 8, 8, 8, 8, 8, 8, 8, 8, 8, 8, 8, 8, 8, 8, 8, 8, 8, 8, 8, 8, 8, 8, 8, 8, 8, 8, 8, 8, 8, 8, 8, 8, 8, 8, 8, 8, 8, 8, 8, 8, 8, 8, 8, 8, 8, 8, 8, 8, 8, 8, 8, 8, 8, 8, 8, 8, 8, 8, 8, 8, 8, 8, 8, 8, 8, 8, 8, 8, 8, 8, 8, 8, 8, 8, 8]⟩ : ByteArray) (IntKind.u8.wrap x0)))))))] ?_
        refine bI ?_
        obtain rfl := oI h0
        exact aG (Q_r hO)
      refine aT aD 2 [] [(14, (aE (decide ((256 : Int) ≤ x0))))] ?_
      refine bF h0 (fun h0 => ?_) (fun h0 => ?_)
      · refine aP ?_
        refine aW aD 3 ?_
        obtain ⟨c3, h0⟩ := aR h0
        refine mG [0 ≤ (8 : Int)] ⟨c3, trivial⟩ ?_
        refine bE [(0, (cX .u64 (Int.fdiv x0 (2 ^ (min (Int.toNat (8 : Int)) 64))))), (2, (eI n2))] ?_
        refine aW aD 3 ?_
        refine bD ?_
        exact aG (aF (⟨rfl, _, _, .eq (by kernel_rfl), hO, h0⟩))
      refine bG ?_
      exact aG (aF (⟨rfl, _, _, .eq (by kernel_rfl), hO, h0⟩))
    refine aT aD 2 [] [(8, (aE (decide ((65536 : Int) ≤ x0))))] ?_
    refine bF h0 (fun h0 => ?_) (fun h0 => ?_)
    · refine aP ?_
      refine aW aD 3 ?_
      obtain ⟨c5, h0⟩ := aR h0
      refine mG [0 ≤ (16 : Int)] ⟨c5, trivial⟩ ?_
      refine bE [(0, (cX .u64 (Int.fdiv x0 (2 ^ (min (Int.toNat (16 : Int)) 64))))), (2, (eI n2))] ?_
      refine aW aD 3 ?_
      refine bD ?_
      exact aG (aF (⟨rfl, _, _, .eq (by kernel_rfl), hO, h0⟩))
    refine bG ?_
    exact aG (aF (⟨rfl, _, _, .eq (by kernel_rfl), hO, h0⟩))
  refine aT aD 2 [] [(4, (aE (decide ((4294967296 : Int) ≤ x0))))] ?_
  refine bF h0 (fun h0 => ?_) (fun h0 => ?_)
  · refine aP ?_
    refine aW aD 3 ?_
    obtain ⟨c7, h0⟩ := aR h0
    refine mG [0 ≤ (32 : Int)] ⟨c7, trivial⟩ ?_
    refine bE [(0, (cX .u64 (Int.fdiv x0 (2 ^ (min (Int.toNat (32 : Int)) 64)))))] ?_
    refine aW aD 1 ?_
    refine bD ?_
    exact aG (aF (⟨rfl, _, _, .eq (by kernel_rfl), hO, h0⟩))
  refine bG ?_
  exact aG (aF (⟨rfl, _, _, .eq (by kernel_rfl), hO, h0⟩))

theorem AB (x0 : Int) (r : Int) (h0 : kC x0 = some r) : dH Try.prog 61 [(cX .u64 x0)] (eI r) := by
  intro H0
  refine dF Try.func61 ?_
  have hO := aL.start H0
  unfold kC at h0
  refine aT aD 1 [] [] ?_
  refine aP ?_
  refine nM (false) (fun hc1 => ?_) (fun hc1 => ?_)
  · cases hc1
  · refine bG ?_
    refine aG (aF ?_)
    refine aP ?_
    refine aW aD 3 ?_
    refine bV 1 ?_
    obtain ⟨x2, hx3, h0⟩ := aZ h0
    refine dL (FC x0 _ hx3) hO ?_
    intro H hO
    refine bD ?_
    refine bE [(2, (eI x2))] ?_
    refine bI ?_
    obtain rfl := oI h0
    exact aG (Q_r hO)

theorem fF (x0 : Int) (y1 : Int) (r : Bool) (h0 : cW x0 y1 = some r) : dH Try.prog 70 [(eI x0), (eI y1)] (aE r) := by
  intro H0
  refine dF Try.func70 ?_
  have hO := aL.start H0
  unfold cW at h0
  refine aT aD 1 [] [] ?_
  refine aP ?_
  refine aW aD 13 ?_
  refine bV 1 ?_
  obtain ⟨x1, hx2, h0⟩ := aZ h0
  refine dL (sQ x0 _ hx2) hO ?_
  intro H hO
  refine bV 4 ?_
  obtain ⟨x4, hx5, h0⟩ := aZ h0
  refine nH [(7, true)] 95 [(eI y1)] (aE x4) x1 (by kernel_rfl) (by kernel_rfl) (by kernel_rfl) (fun hb6 => (sQ y1 _ (iV hx5 hb6))) hO ?_
  intro H hO
  refine bD ?_
  refine bE [(4, (aE ((x1 && (!x4)) || (decide (x0 < y1)))))] ?_
  refine bI ?_
  obtain rfl := oI h0
  exact aG (Q_r hO)

theorem uG (lo0p : Nat) (aA : (List Int)) (a1 : Int) (b2 : Int) (r : List Int) (h0 : gK aA a1 b2 = some r) : nB Try.prog 79 lo0p 1 (List.map (eI) aA) (List.map (eI) r) [(.msl 1 lo0p 0 (List.length aA)), (eI a1), (eI b2)] (.tup []) := by
  intro H0 hl0
  refine dF Try.func79 ?_
  have hO := aL.sA hl0
  clear hl0
  obtain ⟨N0, hN0⟩ : ∃ n, n = List.length aA := ⟨_, rfl⟩
  have hN : List.length aA = N0 := hN0.symm
  unfold gK at h0
  refine aT aD 3 [] [(6, (eI (wR (a1 + (1 : Int)))))] ?_
  refine bZ 0 ?_
  refine fA [(0, (.msl 1 lo0p 0 (List.length aA))), (1, (eI a1)), (2, (eI b2)), (6, (eI (wR (a1 + (1 : Int)))))] ?_
  refine dP (fun T H => ∃ aA : List Int, ∃ i6 : Int, Has T [(0, (.msl 1 lo0p 0 (List.length aA))), (1, (eI a1)), (2, (eI b2)), (6, (eI i6))] ∧ aL ⟨H0, [lo0p], []⟩ H [(lo0p, 1, List.map (eI) aA)] ∧ List.length aA = N0 ∧ jB aA a1 b2 i6 = some r) ?_ ⟨aA, wR (a1 + (1 : Int)), .eq (by kernel_rfl), hO, hN, h0⟩
  clear hO hN h0
  rintro T H ⟨aA, i6, hT, hO, hN, h0⟩
  refine bC hT ?_
  clear hT
  unfold jB at h0
  obtain ⟨rr0, hl0, h0⟩ := aZ h0
  refine cP (by kernel_rfl) (fun (s : List Int × Int) T H => Has T [(0, (.msl 1 lo0p 0 (List.length s.1))), (1, (eI a1)), (2, (eI b2)), (6, (eI s.2))] ∧ aL ⟨H0, [lo0p], []⟩ H [(lo0p, 1, List.map (eI) s.1)] ∧ List.length s.1 = N0) hl0 ⟨.eq (by kernel_rfl), hO, hN⟩ ?_
  clear hO hN
  rintro k0 s out1 T H ⟨hT, hO, hN⟩ h1 ho0
  obtain ⟨aA, i6⟩ := s
  replace h1 : dJ a1 b2 aA i6 = some out1 := h1
  try dsimp only at hT
  refine bC hT ?_
  clear hT
  unfold dJ at h1
  refine aP ?_
  refine aT aD 3 [] [(12, (aE (decide (i6 < b2))))] ?_
  refine bF h1 (fun h1 => ?_) (fun h1 => ?_)
  · refine bG ?_
    refine bE [(0, (.msl 1 lo0p 0 (List.length aA))), (1, (eI a1)), (2, (eI b2)), (6, (eI i6))] ?_
    refine dU (fun T H => ∃ aA : List Int, Has T [(0, (.msl 1 lo0p 0 (List.length aA))), (1, (eI a1)), (2, (eI b2)), (6, (eI i6))] ∧ aL ⟨H0, [lo0p], []⟩ H [(lo0p, 1, List.map (eI) aA)] ∧ List.length aA = N0 ∧ fZ aA a1 b2 i6 = some out1) ?_ ?_
    · clear hO hN h1
      rintro T H ⟨aA, hT, hO, hN, h1⟩
      refine bC hT ?_
      clear hT
      unfold fZ at h1
      refine aW aD 3 ?_
      refine bD ?_
      exact aG (aF (⟨rfl, _, (oI h1).symm, .eq (by kernel_rfl), hO, hN⟩))
    refine bZ 1 ?_
    refine aT aD 2 [] [(7, (eI i6))] ?_
    refine bZ 2 ?_
    refine fA [(0, (.msl 1 lo0p 0 (List.length aA))), (1, (eI a1)), (2, (eI b2)), (6, (eI i6)), (7, (eI i6))] ?_
    refine dP (fun T H => ∃ aA : List Int, ∃ j7 : Int, Has T [(0, (.msl 1 lo0p 0 (List.length aA))), (1, (eI a1)), (2, (eI b2)), (6, (eI i6)), (7, (eI j7))] ∧ aL ⟨H0, [lo0p], []⟩ H [(lo0p, 1, List.map (eI) aA)] ∧ List.length aA = N0 ∧ iZ aA a1 b2 i6 j7 = some out1) ?_ ⟨aA, i6, .eq (by kernel_rfl), hO, hN, h1⟩
    clear hO hN h1
    rintro T H ⟨aA, j7, hT, hO, hN, h1⟩
    refine bC hT ?_
    clear hT
    unfold iZ at h1
    obtain ⟨rr1, hl1, h1⟩ := aZ h1
    refine cP (by kernel_rfl) (fun (s : List Int × Int) T H => Has T [(0, (.msl 1 lo0p 0 (List.length s.1))), (1, (eI a1)), (2, (eI b2)), (6, (eI i6)), (7, (eI s.2))] ∧ aL ⟨H0, [lo0p], []⟩ H [(lo0p, 1, List.map (eI) s.1)] ∧ List.length s.1 = N0) hl1 ⟨.eq (by kernel_rfl), hO, hN⟩ ?_
    clear hO hN
    rintro k1 s out2 T H ⟨hT, hO, hN⟩ h2 ho1
    obtain ⟨aA, j7⟩ := s
    replace h2 : eU a1 b2 i6 aA j7 = some out2 := h2
    try dsimp only at hT
    refine bC hT ?_
    clear hT
    unfold eU at h2
    refine aP ?_
    refine aP ?_
    obtain ⟨c2, h2⟩ := aR h2
    obtain ⟨c3, h2⟩ := aR h2
    obtain ⟨x4, hx5, h2⟩ := aZ h2
    refine eD (eC []) aD 15 ?_
    refine lT (K := fun T H => Has (lift T) [(0, (.msl 1 lo0p 0 (List.length aA))), (1, (eI a1)), (2, (eI b2)), (6, (eI i6)), (7, (eI j7)), (30, (aE ((decide (a1 < j7)) && x4)))] ∧ aL ⟨H0, [lo0p], []⟩ H [(lo0p, 1, List.map (eI) aA)]) ?_ ?_
    · refine kQ 4 ?_
      refine jR (t := 19) (e := decide (a1 < j7)) (by kernel_rfl) (fun hg6 => ?_) (fun hg6 => ?_)
      · refine cB 7 [0 ≤ j7 ∧ j7 < (lN aA)] ⟨(c2 hg6), trivial⟩ ?_
        refine iA 0 lo0p 1 (0 + Int.toNat j7) (eI (gD aA j7)) (eI (gD aA j7)) (List.map (eI) aA) (by kernel_rfl) (by kernel_rfl) (by kernel_rfl) hO (by kernel_rfl) (bY (c2 hg6)) ?_
        refine cB 12 [0 ≤ (wR (j7 - (1 : Int))) ∧ (wR (j7 - (1 : Int))) < (lN aA)] ⟨(c3 hg6), trivial⟩ ?_
        refine iA 0 lo0p 1 (0 + Int.toNat (wR (j7 - (1 : Int)))) (eI (gD aA (wR (j7 - (1 : Int))))) (eI (gD aA (wR (j7 - (1 : Int))))) (List.map (eI) aA) (by kernel_rfl) (by kernel_rfl) (by kernel_rfl) hO (by kernel_rfl) (bY (c3 hg6)) ?_
        refine lM 70 [(eI (gD aA j7)), (eI (gD aA (wR (j7 - (1 : Int)))))] (aE x4) (by kernel_rfl) (by kernel_rfl) (fF (gD aA j7) (gD aA (wR (j7 - (1 : Int)))) _ (iV hx5 hg6)) hO ?_
        intro H hO
        refine gH ?_
        exact ⟨⟨[(0, (.msl 1 lo0p 0 (List.length aA))), (1, (eI a1)), (2, (eI b2)), (6, (eI i6)), (7, (eI j7)), (30, (aE x4))], by kernel_rfl, rfl, ⟨aN.refl _, aN.refl _, aN.refl _, aN.refl _, aN.refl _, aN.eq (congrArg aE (fW hg6 rfl).symm), trivial⟩⟩, hO⟩
      refine gH ?_
      exact ⟨⟨[(0, (.msl 1 lo0p 0 (List.length aA))), (1, (eI a1)), (2, (eI b2)), (6, (eI i6)), (7, (eI j7)), (30, (aE false))], by kernel_rfl, rfl, ⟨aN.refl _, aN.refl _, aN.refl _, aN.refl _, aN.refl _, aN.eq (congrArg aE (fW hg6 rfl).symm), trivial⟩⟩, hO⟩
    · rintro T H ⟨hT, hO⟩
      refine dA hT ?_
      clear hT
      refine aG (aF ?_)
      refine bF h2 (fun h2 => ?_) (fun h2 => ?_)
      · refine bG ?_
        refine bE [(0, (.msl 1 lo0p 0 (List.length aA))), (1, (eI a1)), (2, (eI b2)), (6, (eI i6)), (7, (eI j7))] ?_
        refine aP ?_
        refine bZ 3 ?_
        refine eD (eC []) aD 18 ?_
        obtain ⟨c8, h2⟩ := aR h2
        refine cB 9 [0 ≤ (wR (j7 - (1 : Int))) ∧ (wR (j7 - (1 : Int))) < (lN aA)] ⟨c8, trivial⟩ ?_
        refine fL 0 lo0p 1 (0 + Int.toNat (wR (j7 - (1 : Int)))) (eI (gD aA (wR (j7 - (1 : Int))))) (eI (gD aA (wR (j7 - (1 : Int))))) (List.map (eI) aA) hO (bY c8) ?_
        obtain ⟨c9, h2⟩ := aR h2
        refine cB 13 [0 ≤ j7 ∧ j7 < (lN aA)] ⟨c9, trivial⟩ ?_
        refine fL 0 lo0p 1 (0 + Int.toNat j7) (eI (gD aA j7)) (eI (gD aA j7)) (List.map (eI) aA) hO (bY c9) ?_
        obtain ⟨c10, h2⟩ := aR h2
        refine cB 15 [0 ≤ j7 ∧ j7 < (lN aA)] ⟨c10, trivial⟩ ?_
        refine jN 0 lo0p 1 (0 + Int.toNat j7) (eI (gD aA j7)) (eI (gD aA (wR (j7 - (1 : Int))))) (List.map (eI) aA) [(lo0p, 1, List.map (eI) (List.set aA (Int.toNat j7) (gD aA (wR (j7 - (1 : Int))))))] hO (bY c10) (by simp only [List.set, gI]) ?_
        intro H hO
        replace hN : List.length (List.set aA (Int.toNat j7) (gD aA (wR (j7 - (1 : Int))))) = N0 := by simpa using hN
        obtain ⟨c11, h2⟩ := aR h2
        refine cB 17 [0 ≤ (wR (j7 - (1 : Int))) ∧ (wR (j7 - (1 : Int))) < (lN aA)] ⟨c11, trivial⟩ ?_
        refine jN 0 lo0p 1 (0 + Int.toNat (wR (j7 - (1 : Int)))) (eI (gD (List.set aA (Int.toNat j7) (gD aA (wR (j7 - (1 : Int))))) (wR (j7 - (1 : Int))))) (eI (gD aA j7)) (List.map (eI) (List.set aA (Int.toNat j7) (gD aA (wR (j7 - (1 : Int)))))) [(lo0p, 1, List.map (eI) (List.set (List.set aA (Int.toNat j7) (gD aA (wR (j7 - (1 : Int))))) (Int.toNat (wR (j7 - (1 : Int)))) (gD aA j7)))] hO (mW c11 (by simp [])) (by simp only [List.set, gI]) ?_
        intro H hO
        replace hN : List.length (List.set (List.set aA (Int.toNat j7) (gD aA (wR (j7 - (1 : Int))))) (Int.toNat (wR (j7 - (1 : Int)))) (gD aA j7)) = N0 := by simpa using hN
        refine lZ (by kernel_rfl) ?_
        refine dA (l := [(0, (.msl 1 lo0p 0 (List.length (List.set (List.set aA (Int.toNat j7) (gD aA (wR (j7 - (1 : Int))))) (Int.toNat (wR (j7 - (1 : Int)))) (gD aA j7))))), (1, (eI a1)), (2, (eI b2)), (6, (eI i6)), (7, (eI j7))]) ⟨[(0, (.msl 1 lo0p 0 (List.length aA))), (1, (eI a1)), (2, (eI b2)), (6, (eI i6)), (7, (eI j7))], by kernel_rfl, rfl, ⟨aN.eq (by simp []), aN.refl _, aN.refl _, aN.refl _, aN.refl _, trivial⟩⟩ ?_
        refine aG (aY (aF (?_)))
        refine aW aD 3 ?_
        refine bD ?_
        exact aG (aF (⟨rfl, _, (oI h2).symm, .eq (by kernel_rfl), hO, hN⟩))
      refine eK 2 ?_
      obtain rfl := oI h2
      obtain rfl : _ = rr1 := ho1
      replace h1 : fZ aA a1 b2 i6 = some out1 := h1
      exact aG (aS (aS (bO (aY (aF (⟨rfl, _, .eq (by kernel_rfl), hO, hN, h1⟩))))))
  refine eK 0 ?_
  obtain rfl := oI h1
  obtain rfl : _ = rr0 := ho0
  replace h0 : some aA = some r := h0
  obtain rfl := oI h0
  exact aG (aS (aS (bO (yF (x := (.tup [])) (by kernel_rfl) (aN.refl _) ⟨rfl, hO.ext, hO.at 0 (by kernel_rfl), by first | rfl | (simp only [List.length_map]; exact hN.trans hN0)⟩))))

theorem qW (lo0p : Nat) (aA : (List Int)) (lo1 : Int) (hi2 : Int) (bM : Int) (r : List Int) (h0 : fG aA lo1 hi2 bM = some r) : nB Try.prog 105 lo0p 1 (List.map (eI) aA) (List.map (eI) r) [(.msl 1 lo0p 0 (List.length aA)), (eI lo1), (eI hi2), (eI bM)] (.tup []) := by
  intro H0 hl0
  refine dF Try.func105 ?_
  have hO := aL.sA hl0
  clear hl0
  obtain ⟨N0, hN0⟩ : ∃ n, n = List.length aA := ⟨_, rfl⟩
  have hN : List.length aA = N0 := hN0.symm
  unfold fG at h0
  refine aT aD 2 [1] [(8, (eI lo1))] ?_
  refine bZ 0 ?_
  refine fA [(0, (.msl 1 lo0p 0 (List.length aA))), (2, (eI hi2)), (3, (eI bM)), (8, (eI lo1))] ?_
  refine dP (fun T H => ∃ aA : List Int, ∃ cF : Int, Has T [(0, (.msl 1 lo0p 0 (List.length aA))), (2, (eI hi2)), (3, (eI bM)), (8, (eI cF))] ∧ aL ⟨H0, [lo0p], []⟩ H [(lo0p, 1, List.map (eI) aA)] ∧ List.length aA = N0 ∧ kI aA hi2 bM cF = some r) ?_ ⟨aA, lo1, .eq (by kernel_rfl), hO, hN, h0⟩
  clear hO hN h0
  rintro T H ⟨aA, cF, hT, hO, hN, h0⟩
  refine bC hT ?_
  clear hT
  unfold kI at h0
  obtain ⟨rr0, hl0, h0⟩ := aZ h0
  refine cP (by kernel_rfl) (fun (s : List Int × Int) T H => Has T [(0, (.msl 1 lo0p 0 (List.length s.1))), (2, (eI hi2)), (3, (eI bM)), (8, (eI s.2))] ∧ aL ⟨H0, [lo0p], []⟩ H [(lo0p, 1, List.map (eI) s.1)] ∧ List.length s.1 = N0) hl0 ⟨.eq (by kernel_rfl), hO, hN⟩ ?_
  clear hO hN
  rintro k0 s out1 T H ⟨hT, hO, hN⟩ h1 ho0
  obtain ⟨aA, cF⟩ := s
  replace h1 : dG hi2 bM aA cF = some out1 := h1
  try dsimp only at hT
  refine bC hT ?_
  clear hT
  unfold dG at h1
  refine bZ 1 ?_
  refine aT aD 4 [] [(9, (eI (wR ((wR ((2 : Int) * cF)) + (1 : Int)))))] ?_
  refine aP ?_
  refine aT aD 3 [] [(16, (aE (decide (hi2 ≤ (wR ((wR ((2 : Int) * cF)) + (1 : Int)))))))] ?_
  refine bF h1 (fun h1 => ?_) (fun h1 => ?_)
  · refine eK 0 ?_
    obtain rfl := oI h1
    obtain rfl : _ = rr0 := ho0
    replace h0 : some aA = some r := h0
    obtain rfl := oI h0
    exact aG (aS (uJ (by kernel_rfl) (aS (bO (yF (x := (.tup [])) (by kernel_rfl) (aN.refl _) ⟨rfl, hO.ext, hO.at 0 (by kernel_rfl), by first | rfl | (simp only [List.length_map]; exact hN.trans hN0)⟩)))))
  refine bG ?_
  refine bE [(0, (.msl 1 lo0p 0 (List.length aA))), (2, (eI hi2)), (3, (eI bM)), (8, (eI cF)), (9, (eI (wR ((wR ((2 : Int) * cF)) + (1 : Int)))))] ?_
  refine dU (fun T H => ∃ aA : List Int, ∃ dY : Int, Has T [(0, (.msl 1 lo0p 0 (List.length aA))), (2, (eI hi2)), (3, (eI bM)), (8, (eI cF)), (9, (eI dY))] ∧ aL ⟨H0, [lo0p], []⟩ H [(lo0p, 1, List.map (eI) aA)] ∧ List.length aA = N0 ∧ gE aA hi2 bM cF dY = some out1) ?_ ?_
  · clear hO hN h1
    rintro T H ⟨aA, dY, hT, hO, hN, h1⟩
    refine bC hT ?_
    clear hT
    unfold gE at h1
    refine aP ?_
    refine aP ?_
    refine eD (eC [51]) aD 14 ?_
    obtain ⟨c2, h1⟩ := aR h1
    refine cB 5 [0 ≤ (wR (bM + cF)) ∧ (wR (bM + cF)) < (lN aA)] ⟨c2, trivial⟩ ?_
    refine fL 0 lo0p 1 (0 + Int.toNat (wR (bM + cF))) (eI (gD aA (wR (bM + cF)))) (eI (gD aA (wR (bM + cF)))) (List.map (eI) aA) hO (bY c2) ?_
    obtain ⟨c3, h1⟩ := aR h1
    refine cB 11 [0 ≤ (wR (bM + dY)) ∧ (wR (bM + dY)) < (lN aA)] ⟨c3, trivial⟩ ?_
    refine fL 0 lo0p 1 (0 + Int.toNat (wR (bM + dY))) (eI (gD aA (wR (bM + dY)))) (eI (gD aA (wR (bM + dY)))) (List.map (eI) aA) hO (bY c3) ?_
    obtain ⟨x4, hx5, h1⟩ := aZ h1
    refine DB (fF (gD aA (wR (bM + cF))) (gD aA (wR (bM + dY))) _ hx5) hO ?_
    intro H hO
    refine gH ?_
    refine bU [] [(52, (aE (!x4)))] ?_
    refine bF h1 (fun h1 => ?_) (fun h1 => ?_)
    · refine bI ?_
      obtain rfl := oI h1
      obtain rfl : _ = rr0 := ho0
      replace h0 : some aA = some r := h0
      obtain rfl := oI h0
      exact aG (aQ (bK (aQ (bK (lC (x := (.tup [])) (by kernel_rfl) (aN.refl _) ⟨rfl, hO.ext, hO.at 0 (by kernel_rfl), by first | rfl | (simp only [List.length_map]; exact hN.trans hN0)⟩)))))
    refine bG ?_
    refine bE [(0, (.msl 1 lo0p 0 (List.length aA))), (2, (eI hi2)), (3, (eI bM)), (8, (eI cF)), (9, (eI dY))] ?_
    refine aP ?_
    refine eD (eC []) aD 24 ?_
    obtain ⟨c8, h1⟩ := aR h1
    refine cB 13 [0 ≤ (wR (bM + dY)) ∧ (wR (bM + dY)) < (lN aA)] ⟨c8, trivial⟩ ?_
    refine fL 0 lo0p 1 (0 + Int.toNat (wR (bM + dY))) (eI (gD aA (wR (bM + dY)))) (eI (gD aA (wR (bM + dY)))) (List.map (eI) aA) hO (bY c8) ?_
    obtain ⟨c9, h1⟩ := aR h1
    refine cB 19 [0 ≤ (wR (bM + cF)) ∧ (wR (bM + cF)) < (lN aA)] ⟨c9, trivial⟩ ?_
    refine fL 0 lo0p 1 (0 + Int.toNat (wR (bM + cF))) (eI (gD aA (wR (bM + cF)))) (eI (gD aA (wR (bM + cF)))) (List.map (eI) aA) hO (bY c9) ?_
    obtain ⟨c10, h1⟩ := aR h1
    refine cB 21 [0 ≤ (wR (bM + cF)) ∧ (wR (bM + cF)) < (lN aA)] ⟨c10, trivial⟩ ?_
    refine jN 0 lo0p 1 (0 + Int.toNat (wR (bM + cF))) (eI (gD aA (wR (bM + cF)))) (eI (gD aA (wR (bM + dY)))) (List.map (eI) aA) [(lo0p, 1, List.map (eI) (List.set aA (Int.toNat (wR (bM + cF))) (gD aA (wR (bM + dY)))))] hO (bY c10) (by simp only [List.set, gI]) ?_
    intro H hO
    replace hN : List.length (List.set aA (Int.toNat (wR (bM + cF))) (gD aA (wR (bM + dY)))) = N0 := by simpa using hN
    obtain ⟨c11, h1⟩ := aR h1
    refine cB 23 [0 ≤ (wR (bM + dY)) ∧ (wR (bM + dY)) < (lN aA)] ⟨c11, trivial⟩ ?_
    refine jN 0 lo0p 1 (0 + Int.toNat (wR (bM + dY))) (eI (gD (List.set aA (Int.toNat (wR (bM + cF))) (gD aA (wR (bM + dY)))) (wR (bM + dY)))) (eI (gD aA (wR (bM + cF)))) (List.map (eI) (List.set aA (Int.toNat (wR (bM + cF))) (gD aA (wR (bM + dY))))) [(lo0p, 1, List.map (eI) (List.set (List.set aA (Int.toNat (wR (bM + cF))) (gD aA (wR (bM + dY)))) (Int.toNat (wR (bM + dY))) (gD aA (wR (bM + cF)))))] hO (mW c11 (by simp [])) (by simp only [List.set, gI]) ?_
    intro H hO
    replace hN : List.length (List.set (List.set aA (Int.toNat (wR (bM + cF))) (gD aA (wR (bM + dY)))) (Int.toNat (wR (bM + dY))) (gD aA (wR (bM + cF)))) = N0 := by simpa using hN
    refine lZ (by kernel_rfl) ?_
    refine dA (l := [(0, (.msl 1 lo0p 0 (List.length (List.set (List.set aA (Int.toNat (wR (bM + cF))) (gD aA (wR (bM + dY)))) (Int.toNat (wR (bM + dY))) (gD aA (wR (bM + cF))))))), (2, (eI hi2)), (3, (eI bM)), (9, (eI dY))]) ⟨[(0, (.msl 1 lo0p 0 (List.length aA))), (2, (eI hi2)), (3, (eI bM)), (9, (eI dY))], by kernel_rfl, rfl, ⟨aN.eq (by simp []), aN.refl _, aN.refl _, aN.refl _, trivial⟩⟩ ?_
    refine aG (aF (?_))
    refine aW aD 2 ?_
    refine bD ?_
    exact aG (aY (aF (⟨rfl, _, (oI h1).symm, .eq (by kernel_rfl), hO, hN⟩)))
  refine aP ?_
  obtain ⟨c12, h1⟩ := aR h1
  obtain ⟨c13, h1⟩ := aR h1
  obtain ⟨x14, hx15, h1⟩ := aZ h1
  refine eD (eC []) aD 20 ?_
  refine lT (K := fun T H => Has (lift T) [(0, (.msl 1 lo0p 0 (List.length aA))), (2, (eI hi2)), (3, (eI bM)), (8, (eI cF)), (9, (eI (wR ((wR ((2 : Int) * cF)) + (1 : Int))))), (36, (aE ((decide ((wR ((wR ((wR ((2 : Int) * cF)) + (1 : Int))) + (1 : Int))) < hi2)) && x14)))] ∧ aL ⟨H0, [lo0p], []⟩ H [(lo0p, 1, List.map (eI) aA)]) ?_ ?_
  · refine kQ 5 ?_
    refine jR (t := 21) (e := decide ((wR ((wR ((wR ((2 : Int) * cF)) + (1 : Int))) + (1 : Int))) < hi2)) (by kernel_rfl) (fun hg16 => ?_) (fun hg16 => ?_)
    · refine cB 10 [0 ≤ (wR (bM + (wR ((wR ((2 : Int) * cF)) + (1 : Int))))) ∧ (wR (bM + (wR ((wR ((2 : Int) * cF)) + (1 : Int))))) < (lN aA)] ⟨(c12 hg16), trivial⟩ ?_
      refine iA 0 lo0p 1 (0 + Int.toNat (wR (bM + (wR ((wR ((2 : Int) * cF)) + (1 : Int)))))) (eI (gD aA (wR (bM + (wR ((wR ((2 : Int) * cF)) + (1 : Int))))))) (eI (gD aA (wR (bM + (wR ((wR ((2 : Int) * cF)) + (1 : Int))))))) (List.map (eI) aA) (by kernel_rfl) (by kernel_rfl) (by kernel_rfl) hO (by kernel_rfl) (bY (c12 hg16)) ?_
      refine cB 17 [0 ≤ (wR ((wR (bM + (wR ((wR ((2 : Int) * cF)) + (1 : Int))))) + (1 : Int))) ∧ (wR ((wR (bM + (wR ((wR ((2 : Int) * cF)) + (1 : Int))))) + (1 : Int))) < (lN aA)] ⟨(c13 hg16), trivial⟩ ?_
      refine iA 0 lo0p 1 (0 + Int.toNat (wR ((wR (bM + (wR ((wR ((2 : Int) * cF)) + (1 : Int))))) + (1 : Int)))) (eI (gD aA (wR ((wR (bM + (wR ((wR ((2 : Int) * cF)) + (1 : Int))))) + (1 : Int))))) (eI (gD aA (wR ((wR (bM + (wR ((wR ((2 : Int) * cF)) + (1 : Int))))) + (1 : Int))))) (List.map (eI) aA) (by kernel_rfl) (by kernel_rfl) (by kernel_rfl) hO (by kernel_rfl) (bY (c13 hg16)) ?_
      refine lM 70 [(eI (gD aA (wR (bM + (wR ((wR ((2 : Int) * cF)) + (1 : Int))))))), (eI (gD aA (wR ((wR (bM + (wR ((wR ((2 : Int) * cF)) + (1 : Int))))) + (1 : Int)))))] (aE x14) (by kernel_rfl) (by kernel_rfl) (fF (gD aA (wR (bM + (wR ((wR ((2 : Int) * cF)) + (1 : Int)))))) (gD aA (wR ((wR (bM + (wR ((wR ((2 : Int) * cF)) + (1 : Int))))) + (1 : Int)))) _ (iV hx15 hg16)) hO ?_
      intro H hO
      refine gH ?_
      exact ⟨⟨[(0, (.msl 1 lo0p 0 (List.length aA))), (2, (eI hi2)), (3, (eI bM)), (8, (eI cF)), (9, (eI (wR ((wR ((2 : Int) * cF)) + (1 : Int))))), (36, (aE x14))], by kernel_rfl, rfl, ⟨aN.refl _, aN.refl _, aN.refl _, aN.refl _, aN.refl _, aN.eq (congrArg aE (fW hg16 rfl).symm), trivial⟩⟩, hO⟩
    refine gH ?_
    exact ⟨⟨[(0, (.msl 1 lo0p 0 (List.length aA))), (2, (eI hi2)), (3, (eI bM)), (8, (eI cF)), (9, (eI (wR ((wR ((2 : Int) * cF)) + (1 : Int))))), (36, (aE false))], by kernel_rfl, rfl, ⟨aN.refl _, aN.refl _, aN.refl _, aN.refl _, aN.refl _, aN.eq (congrArg aE (fW hg16 rfl).symm), trivial⟩⟩, hO⟩
  · rintro T H ⟨hT, hO⟩
    refine dA hT ?_
    clear hT
    refine aG (aF ?_)
    refine bF h1 (fun h1 => ?_) (fun h1 => ?_)
    · refine aW aD 3 ?_
      refine bD ?_
      exact aG (aF (⟨rfl, _, _, .eq (by kernel_rfl), hO, hN, h1⟩))
    refine bG ?_
    exact aG (aF (⟨rfl, _, _, .eq (by kernel_rfl), hO, hN, h1⟩))

theorem wX (lo0p : Nat) (aA : (List Int)) (a1 : Int) (b2 : Int) (r : List Int) (h0 : jF aA a1 b2 = some r) : nB Try.prog 80 lo0p 1 (List.map (eI) aA) (List.map (eI) r) [(.msl 1 lo0p 0 (List.length aA)), (eI a1), (eI b2)] (.tup []) := by
  intro H0 hl0
  refine dF Try.func80 ?_
  have hO := aL.sA hl0
  clear hl0
  obtain ⟨N0, hN0⟩ : ∃ n, n = List.length aA := ⟨_, rfl⟩
  have hN : List.length aA = N0 := hN0.symm
  unfold jF at h0
  refine aT aD 2 [] [(6, (eI a1))] ?_
  refine aT aD 1 [] [(7, (eI (0 : Int)))] ?_
  refine aT aD 4 [1, 2] [(8, (eI (wR (b2 - a1))))] ?_
  refine dU (fun T H => ∃ aA : List Int, ∃ bS : Int, ∃ lo7 : Int, ∃ hi8 : Int, Has T [(0, (.msl 1 lo0p 0 (List.length aA))), (6, (eI bS)), (7, (eI lo7)), (8, (eI hi8))] ∧ aL ⟨H0, [lo0p], []⟩ H [(lo0p, 1, List.map (eI) aA)] ∧ List.length aA = N0 ∧ iW aA bS lo7 hi8 = some r) ?_ ?_
  · clear hO hN h0
    rintro T H ⟨aA, bS, lo7, hi8, hT, hO, hN, h0⟩
    refine bC hT ?_
    clear hT
    unfold iW at h0
    refine aT aD 3 [8] [(10, (eI (wR (hi8 - (1 : Int)))))] ?_
    refine bZ 2 ?_
    refine fA [(0, (.msl 1 lo0p 0 (List.length aA))), (6, (eI bS)), (7, (eI lo7)), (10, (eI (wR (hi8 - (1 : Int)))))] ?_
    refine dP (fun T H => ∃ aA : List Int, ∃ i10 : Int, Has T [(0, (.msl 1 lo0p 0 (List.length aA))), (6, (eI bS)), (7, (eI lo7)), (10, (eI i10))] ∧ aL ⟨H0, [lo0p], []⟩ H [(lo0p, 1, List.map (eI) aA)] ∧ List.length aA = N0 ∧ kK aA bS lo7 i10 = some r) ?_ ⟨aA, wR (hi8 - (1 : Int)), .eq (by kernel_rfl), hO, hN, h0⟩
    clear hO hN h0
    rintro T H ⟨aA, i10, hT, hO, hN, h0⟩
    refine bC hT ?_
    clear hT
    unfold kK at h0
    obtain ⟨rr0, hl0, h0⟩ := aZ h0
    refine cP (by kernel_rfl) (fun (s : List Int × Int) T H => Has T [(0, (.msl 1 lo0p 0 (List.length s.1))), (6, (eI bS)), (7, (eI lo7)), (10, (eI s.2))] ∧ aL ⟨H0, [lo0p], []⟩ H [(lo0p, 1, List.map (eI) s.1)] ∧ List.length s.1 = N0) hl0 ⟨.eq (by kernel_rfl), hO, hN⟩ ?_
    clear hO hN
    rintro k0 s out1 T H ⟨hT, hO, hN⟩ h1 ho0
    obtain ⟨aA, i10⟩ := s
    replace h1 : eB bS lo7 aA i10 = some out1 := h1
    try dsimp only at hT
    refine bC hT ?_
    clear hT
    unfold eB at h1
    refine aP ?_
    refine aT aD 2 [] [(30, (aE (decide ((0 : Int) ≤ i10))))] ?_
    refine bF h1 (fun h1 => ?_) (fun h1 => ?_)
    · refine bG ?_
      refine bE [(0, (.msl 1 lo0p 0 (List.length aA))), (6, (eI bS)), (7, (eI lo7)), (10, (eI i10))] ?_
      refine aP ?_
      refine bZ 3 ?_
      refine aP ?_
      refine eD (eC []) aD 20 ?_
      obtain ⟨c2, h1⟩ := aR h1
      refine cB 11 [0 ≤ (wR (bS + i10)) ∧ (wR (bS + i10)) < (lN aA)] ⟨c2, trivial⟩ ?_
      refine fL 0 lo0p 1 (0 + Int.toNat (wR (bS + i10))) (eI (gD aA (wR (bS + i10)))) (eI (gD aA (wR (bS + i10)))) (List.map (eI) aA) hO (bY c2) ?_
      obtain ⟨c3, h1⟩ := aR h1
      refine cB 15 [0 ≤ bS ∧ bS < (lN aA)] ⟨c3, trivial⟩ ?_
      refine fL 0 lo0p 1 (0 + Int.toNat bS) (eI (gD aA bS)) (eI (gD aA bS)) (List.map (eI) aA) hO (bY c3) ?_
      obtain ⟨c4, h1⟩ := aR h1
      refine cB 17 [0 ≤ bS ∧ bS < (lN aA)] ⟨c4, trivial⟩ ?_
      refine jN 0 lo0p 1 (0 + Int.toNat bS) (eI (gD aA bS)) (eI (gD aA (wR (bS + i10)))) (List.map (eI) aA) [(lo0p, 1, List.map (eI) (List.set aA (Int.toNat bS) (gD aA (wR (bS + i10)))))] hO (bY c4) (by simp only [List.set, gI]) ?_
      intro H hO
      replace hN : List.length (List.set aA (Int.toNat bS) (gD aA (wR (bS + i10)))) = N0 := by simpa using hN
      obtain ⟨c5, h1⟩ := aR h1
      refine cB 19 [0 ≤ (wR (bS + i10)) ∧ (wR (bS + i10)) < (lN aA)] ⟨c5, trivial⟩ ?_
      refine jN 0 lo0p 1 (0 + Int.toNat (wR (bS + i10))) (eI (gD (List.set aA (Int.toNat bS) (gD aA (wR (bS + i10)))) (wR (bS + i10)))) (eI (gD aA bS)) (List.map (eI) (List.set aA (Int.toNat bS) (gD aA (wR (bS + i10))))) [(lo0p, 1, List.map (eI) (List.set (List.set aA (Int.toNat bS) (gD aA (wR (bS + i10)))) (Int.toNat (wR (bS + i10))) (gD aA bS)))] hO (mW c5 (by simp [])) (by simp only [List.set, gI]) ?_
      intro H hO
      replace hN : List.length (List.set (List.set aA (Int.toNat bS) (gD aA (wR (bS + i10)))) (Int.toNat (wR (bS + i10))) (gD aA bS)) = N0 := by simpa using hN
      refine lZ (by kernel_rfl) ?_
      refine dA (l := [(0, (.msl 1 lo0p 0 (List.length (List.set (List.set aA (Int.toNat bS) (gD aA (wR (bS + i10)))) (Int.toNat (wR (bS + i10))) (gD aA bS))))), (6, (eI bS)), (7, (eI lo7)), (10, (eI i10))]) ⟨[(0, (.msl 1 lo0p 0 (List.length aA))), (6, (eI bS)), (7, (eI lo7)), (10, (eI i10))], by kernel_rfl, rfl, ⟨aN.eq (by simp []), aN.refl _, aN.refl _, aN.refl _, trivial⟩⟩ ?_
      refine aG (aF (?_))
      refine aW aD 5 ?_
      refine bV 4 ?_
      obtain ⟨x6, hx7, h1⟩ := aZ h1
      refine wZ [(lo0p, 1, List.map (eI) x6)] 0 (qW lo0p (List.set (List.set aA (Int.toNat bS) (gD aA (wR (bS + i10)))) (Int.toNat (wR (bS + i10))) (gD aA bS)) lo7 i10 bS _ hx7) hO ?_
      intro H hO hl8
      simp only [List.length_map] at hl8
      replace hN := hl8.trans hN
      refine hU ?_
      refine dA (l := [(0, (.msl 1 lo0p 0 (List.length x6))), (6, (eI bS)), (7, (eI lo7)), (10, (eI i10))]) ⟨[(0, (.msl 1 lo0p 0 (List.length (List.set (List.set aA (Int.toNat bS) (gD aA (wR (bS + i10)))) (Int.toNat (wR (bS + i10))) (gD aA bS))))), (6, (eI bS)), (7, (eI lo7)), (10, (eI i10))], by kernel_rfl, rfl, ⟨aN.eq (by simp [hl8]), aN.refl _, aN.refl _, aN.refl _, trivial⟩⟩ ?_
      refine aG (aY (aF (?_)))
      refine aW aD 3 ?_
      refine bD ?_
      exact aG (aF (⟨rfl, _, (oI h1).symm, .eq (by kernel_rfl), hO, hN⟩))
    refine eK 2 ?_
    obtain rfl := oI h1
    obtain rfl : _ = rr0 := ho0
    replace h0 : some aA = some r := h0
    obtain rfl := oI h0
    exact aG (aS (aS (bO (yF (x := (.tup [])) (by kernel_rfl) (aN.refl _) ⟨rfl, hO.ext, hO.at 0 (by kernel_rfl), by first | rfl | (simp only [List.length_map]; exact hN.trans hN0)⟩))))
  refine aP ?_
  refine aW aD 4 ?_
  obtain ⟨c9, h0⟩ := aR h0
  refine mG [(2 : Int) ≠ 0] ⟨c9, trivial⟩ ?_
  refine bU [] [(9, (eI (wR (Int.tdiv (wR ((wR (b2 - a1)) - (1 : Int))) (2 : Int)))))] ?_
  refine bZ 0 ?_
  refine fA [(0, (.msl 1 lo0p 0 (List.length aA))), (6, (eI a1)), (7, (eI (0 : Int))), (8, (eI (wR (b2 - a1)))), (9, (eI (wR (Int.tdiv (wR ((wR (b2 - a1)) - (1 : Int))) (2 : Int)))))] ?_
  refine dP (fun T H => ∃ aA : List Int, ∃ bS : Int, ∃ lo7 : Int, ∃ hi8 : Int, ∃ i9 : Int, Has T [(0, (.msl 1 lo0p 0 (List.length aA))), (6, (eI bS)), (7, (eI lo7)), (8, (eI hi8)), (9, (eI i9))] ∧ aL ⟨H0, [lo0p], []⟩ H [(lo0p, 1, List.map (eI) aA)] ∧ List.length aA = N0 ∧ kJ aA bS lo7 hi8 i9 = some r) ?_ ⟨aA, a1, (0 : Int), wR (b2 - a1), wR (Int.tdiv (wR ((wR (b2 - a1)) - (1 : Int))) (2 : Int)), .eq (by kernel_rfl), hO, hN, h0⟩
  clear hO hN h0
  rintro T H ⟨aA, bS, lo7, hi8, i9, hT, hO, hN, h0⟩
  refine bC hT ?_
  clear hT
  unfold kJ at h0
  obtain ⟨rr0, hl0, h0⟩ := aZ h0
  refine cP (by kernel_rfl) (fun (s : List Int × Int) T H => Has T [(0, (.msl 1 lo0p 0 (List.length s.1))), (6, (eI bS)), (7, (eI lo7)), (8, (eI hi8)), (9, (eI s.2))] ∧ aL ⟨H0, [lo0p], []⟩ H [(lo0p, 1, List.map (eI) s.1)] ∧ List.length s.1 = N0) hl0 ⟨.eq (by kernel_rfl), hO, hN⟩ ?_
  clear hO hN
  rintro k0 s out1 T H ⟨hT, hO, hN⟩ h1 ho0
  obtain ⟨aA, i9⟩ := s
  replace h1 : eA bS lo7 hi8 aA i9 = some out1 := h1
  try dsimp only at hT
  refine bC hT ?_
  clear hT
  unfold eA at h1
  refine aP ?_
  refine aT aD 2 [] [(19, (aE (decide ((0 : Int) ≤ i9))))] ?_
  refine bF h1 (fun h1 => ?_) (fun h1 => ?_)
  · refine bG ?_
    refine bE [(0, (.msl 1 lo0p 0 (List.length aA))), (6, (eI bS)), (7, (eI lo7)), (8, (eI hi8)), (9, (eI i9))] ?_
    refine aP ?_
    refine bZ 1 ?_
    refine aW aD 5 ?_
    refine bV 4 ?_
    obtain ⟨x11, hx12, h1⟩ := aZ h1
    refine wZ [(lo0p, 1, List.map (eI) x11)] 0 (qW lo0p aA i9 hi8 bS _ hx12) hO ?_
    intro H hO hl13
    simp only [List.length_map] at hl13
    replace hN := hl13.trans hN
    refine hU ?_
    refine dA (l := [(0, (.msl 1 lo0p 0 (List.length x11))), (6, (eI bS)), (7, (eI lo7)), (8, (eI hi8)), (9, (eI i9))]) ⟨[(0, (.msl 1 lo0p 0 (List.length aA))), (6, (eI bS)), (7, (eI lo7)), (8, (eI hi8)), (9, (eI i9))], by kernel_rfl, rfl, ⟨aN.eq (by simp [hl13]), aN.refl _, aN.refl _, aN.refl _, aN.refl _, trivial⟩⟩ ?_
    refine aG (aY (aF (?_)))
    refine aW aD 3 ?_
    refine bD ?_
    exact aG (aF (⟨rfl, _, (oI h1).symm, .eq (by kernel_rfl), hO, hN⟩))
  refine eK 0 ?_
  obtain rfl := oI h1
  obtain rfl : _ = rr0 := ho0
  replace h0 : iW aA bS lo7 hi8 = some r := h0
  exact aG (aS (aS (bO (aF (⟨rfl, _, _, _, _, .eq (by kernel_rfl), hO, hN, h0⟩)))))

theorem zP (BF : Int) (r : Int) (h0 : kS BF = some r) : dH Try.prog 106 [(eI BF)] (cX .u64 r) := by
  intro H0
  refine dF Try.func106 ?_
  have hO := aL.start H0
  unfold kS at h0
  refine aT aD 1 [] [] ?_
  refine aP ?_
  refine aW aD 5 ?_
  refine bV 2 ?_
  obtain ⟨x1, hx2, h0⟩ := aZ h0
  refine dL (AB (IntKind.u64.wrap BF) _ hx2) hO ?_
  intro H hO
  obtain ⟨c4, h0⟩ := aR h0
  refine mG [0 ≤ x1] ⟨c4, trivial⟩ ?_
  refine bE [(2, (cX .u64 (IntKind.u64.wrap ((1 : Int) * 2 ^ (min (Int.toNat x1) 64)))))] ?_
  refine bI ?_
  obtain rfl := oI h0
  exact aG (Q_r hO)

theorem AP (lo0p : Nat) (r0 : Int) (r : (Int × Int)) (h0 : lA r0 = some r) : yP Try.prog 107 [(.lp lo0p 0 0)] [(lo0p, 1, [(cX .u64 r0)])] (fun x L => x = (cX .u64 r.1) ∧ L = [(lo0p, 1, [(cX .u64 r.2)])]) := by
  intro F H0 hO
  obtain ⟨Fh, Fe, Fg⟩ := F
  refine dF Try.func107 ?_
  unfold lA at h0
  refine aT aD 1 [] [] ?_
  refine aP ?_
  refine eD (eC []) aD 10 ?_
  refine kQ 2 ?_
  refine fL 0 lo0p 1 0 (cX .u64 r0) (cX .u64 r0) [(cX .u64 r0)] hO rfl ?_
  refine kQ 5 ?_
  refine fL 0 lo0p 1 0 (cX .u64 r0) (cX .u64 r0) [(cX .u64 r0)] hO rfl ?_
  obtain ⟨c1, h0⟩ := aR h0
  refine cB 9 [0 ≤ (13 : Int)] ⟨c1, trivial⟩ ?_
  refine jN 0 lo0p 1 0 (cX .u64 r0) (cX .u64 (bR .xor .u64 r0 (IntKind.u64.wrap (r0 * 2 ^ (min (Int.toNat (13 : Int)) 64))))) [(cX .u64 r0)] [(lo0p, 1, [(cX .u64 (bR .xor .u64 r0 (IntKind.u64.wrap (r0 * 2 ^ (min (Int.toNat (13 : Int)) 64)))))])] hO rfl (by kernel_rfl) ?_
  intro H hO
  refine lZ (by kernel_rfl) ?_
  refine bU [] [] ?_
  refine aP ?_
  refine eD (eC []) aD 10 ?_
  refine kQ 2 ?_
  refine fL 0 lo0p 1 0 (cX .u64 (bR .xor .u64 r0 (IntKind.u64.wrap (r0 * 2 ^ (min (Int.toNat (13 : Int)) 64))))) (cX .u64 (bR .xor .u64 r0 (IntKind.u64.wrap (r0 * 2 ^ (min (Int.toNat (13 : Int)) 64))))) [(cX .u64 (bR .xor .u64 r0 (IntKind.u64.wrap (r0 * 2 ^ (min (Int.toNat (13 : Int)) 64)))))] hO rfl ?_
  refine kQ 5 ?_
  refine fL 0 lo0p 1 0 (cX .u64 (bR .xor .u64 r0 (IntKind.u64.wrap (r0 * 2 ^ (min (Int.toNat (13 : Int)) 64))))) (cX .u64 (bR .xor .u64 r0 (IntKind.u64.wrap (r0 * 2 ^ (min (Int.toNat (13 : Int)) 64))))) [(cX .u64 (bR .xor .u64 r0 (IntKind.u64.wrap (r0 * 2 ^ (min (Int.toNat (13 : Int)) 64)))))] hO rfl ?_
  obtain ⟨c2, h0⟩ := aR h0
  refine cB 9 [0 ≤ (7 : Int)] ⟨c2, trivial⟩ ?_
  refine jN 0 lo0p 1 0 (cX .u64 (bR .xor .u64 r0 (IntKind.u64.wrap (r0 * 2 ^ (min (Int.toNat (13 : Int)) 64))))) (cX .u64 (bR .xor .u64 (bR .xor .u64 r0 (IntKind.u64.wrap (r0 * 2 ^ (min (Int.toNat (13 : Int)) 64)))) (Int.fdiv (bR .xor .u64 r0 (IntKind.u64.wrap (r0 * 2 ^ (min (Int.toNat (13 : Int)) 64)))) (2 ^ (min (Int.toNat (7 : Int)) 64))))) [(cX .u64 (bR .xor .u64 r0 (IntKind.u64.wrap (r0 * 2 ^ (min (Int.toNat (13 : Int)) 64)))))] [(lo0p, 1, [(cX .u64 (bR .xor .u64 (bR .xor .u64 r0 (IntKind.u64.wrap (r0 * 2 ^ (min (Int.toNat (13 : Int)) 64)))) (Int.fdiv (bR .xor .u64 r0 (IntKind.u64.wrap (r0 * 2 ^ (min (Int.toNat (13 : Int)) 64)))) (2 ^ (min (Int.toNat (7 : Int)) 64)))))])] hO rfl (by kernel_rfl) ?_
  intro H hO
  refine lZ (by kernel_rfl) ?_
  refine bU [] [] ?_
  refine aP ?_
  refine eD (eC []) aD 10 ?_
  refine kQ 2 ?_
  refine fL 0 lo0p 1 0 (cX .u64 (bR .xor .u64 (bR .xor .u64 r0 (IntKind.u64.wrap (r0 * 2 ^ (min (Int.toNat (13 : Int)) 64)))) (Int.fdiv (bR .xor .u64 r0 (IntKind.u64.wrap (r0 * 2 ^ (min (Int.toNat (13 : Int)) 64)))) (2 ^ (min (Int.toNat (7 : Int)) 64))))) (cX .u64 (bR .xor .u64 (bR .xor .u64 r0 (IntKind.u64.wrap (r0 * 2 ^ (min (Int.toNat (13 : Int)) 64)))) (Int.fdiv (bR .xor .u64 r0 (IntKind.u64.wrap (r0 * 2 ^ (min (Int.toNat (13 : Int)) 64)))) (2 ^ (min (Int.toNat (7 : Int)) 64))))) [(cX .u64 (bR .xor .u64 (bR .xor .u64 r0 (IntKind.u64.wrap (r0 * 2 ^ (min (Int.toNat (13 : Int)) 64)))) (Int.fdiv (bR .xor .u64 r0 (IntKind.u64.wrap (r0 * 2 ^ (min (Int.toNat (13 : Int)) 64)))) (2 ^ (min (Int.toNat (7 : Int)) 64)))))] hO rfl ?_
  refine kQ 5 ?_
  refine fL 0 lo0p 1 0 (cX .u64 (bR .xor .u64 (bR .xor .u64 r0 (IntKind.u64.wrap (r0 * 2 ^ (min (Int.toNat (13 : Int)) 64)))) (Int.fdiv (bR .xor .u64 r0 (IntKind.u64.wrap (r0 * 2 ^ (min (Int.toNat (13 : Int)) 64)))) (2 ^ (min (Int.toNat (7 : Int)) 64))))) (cX .u64 (bR .xor .u64 (bR .xor .u64 r0 (IntKind.u64.wrap (r0 * 2 ^ (min (Int.toNat (13 : Int)) 64)))) (Int.fdiv (bR .xor .u64 r0 (IntKind.u64.wrap (r0 * 2 ^ (min (Int.toNat (13 : Int)) 64)))) (2 ^ (min (Int.toNat (7 : Int)) 64))))) [(cX .u64 (bR .xor .u64 (bR .xor .u64 r0 (IntKind.u64.wrap (r0 * 2 ^ (min (Int.toNat (13 : Int)) 64)))) (Int.fdiv (bR .xor .u64 r0 (IntKind.u64.wrap (r0 * 2 ^ (min (Int.toNat (13 : Int)) 64)))) (2 ^ (min (Int.toNat (7 : Int)) 64)))))] hO rfl ?_
  obtain ⟨c3, h0⟩ := aR h0
  refine cB 9 [0 ≤ (17 : Int)] ⟨c3, trivial⟩ ?_
  refine jN 0 lo0p 1 0 (cX .u64 (bR .xor .u64 (bR .xor .u64 r0 (IntKind.u64.wrap (r0 * 2 ^ (min (Int.toNat (13 : Int)) 64)))) (Int.fdiv (bR .xor .u64 r0 (IntKind.u64.wrap (r0 * 2 ^ (min (Int.toNat (13 : Int)) 64)))) (2 ^ (min (Int.toNat (7 : Int)) 64))))) (cX .u64 (bR .xor .u64 (bR .xor .u64 (bR .xor .u64 r0 (IntKind.u64.wrap (r0 * 2 ^ (min (Int.toNat (13 : Int)) 64)))) (Int.fdiv (bR .xor .u64 r0 (IntKind.u64.wrap (r0 * 2 ^ (min (Int.toNat (13 : Int)) 64)))) (2 ^ (min (Int.toNat (7 : Int)) 64)))) (IntKind.u64.wrap ((bR .xor .u64 (bR .xor .u64 r0 (IntKind.u64.wrap (r0 * 2 ^ (min (Int.toNat (13 : Int)) 64)))) (Int.fdiv (bR .xor .u64 r0 (IntKind.u64.wrap (r0 * 2 ^ (min (Int.toNat (13 : Int)) 64)))) (2 ^ (min (Int.toNat (7 : Int)) 64)))) * 2 ^ (min (Int.toNat (17 : Int)) 64))))) [(cX .u64 (bR .xor .u64 (bR .xor .u64 r0 (IntKind.u64.wrap (r0 * 2 ^ (min (Int.toNat (13 : Int)) 64)))) (Int.fdiv (bR .xor .u64 r0 (IntKind.u64.wrap (r0 * 2 ^ (min (Int.toNat (13 : Int)) 64)))) (2 ^ (min (Int.toNat (7 : Int)) 64)))))] [(lo0p, 1, [(cX .u64 (bR .xor .u64 (bR .xor .u64 (bR .xor .u64 r0 (IntKind.u64.wrap (r0 * 2 ^ (min (Int.toNat (13 : Int)) 64)))) (Int.fdiv (bR .xor .u64 r0 (IntKind.u64.wrap (r0 * 2 ^ (min (Int.toNat (13 : Int)) 64)))) (2 ^ (min (Int.toNat (7 : Int)) 64)))) (IntKind.u64.wrap ((bR .xor .u64 (bR .xor .u64 r0 (IntKind.u64.wrap (r0 * 2 ^ (min (Int.toNat (13 : Int)) 64)))) (Int.fdiv (bR .xor .u64 r0 (IntKind.u64.wrap (r0 * 2 ^ (min (Int.toNat (13 : Int)) 64)))) (2 ^ (min (Int.toNat (7 : Int)) 64)))) * 2 ^ (min (Int.toNat (17 : Int)) 64)))))])] hO rfl (by kernel_rfl) ?_
  intro H hO
  refine lZ (by kernel_rfl) ?_
  refine bU [] [] ?_
  refine aP ?_
  refine aW aD 4 ?_
  refine bV 2 ?_
  refine pR 0 lo0p 1 0 (cX .u64 (bR .xor .u64 (bR .xor .u64 (bR .xor .u64 r0 (IntKind.u64.wrap (r0 * 2 ^ (min (Int.toNat (13 : Int)) 64)))) (Int.fdiv (bR .xor .u64 r0 (IntKind.u64.wrap (r0 * 2 ^ (min (Int.toNat (13 : Int)) 64)))) (2 ^ (min (Int.toNat (7 : Int)) 64)))) (IntKind.u64.wrap ((bR .xor .u64 (bR .xor .u64 r0 (IntKind.u64.wrap (r0 * 2 ^ (min (Int.toNat (13 : Int)) 64)))) (Int.fdiv (bR .xor .u64 r0 (IntKind.u64.wrap (r0 * 2 ^ (min (Int.toNat (13 : Int)) 64)))) (2 ^ (min (Int.toNat (7 : Int)) 64)))) * 2 ^ (min (Int.toNat (17 : Int)) 64))))) (cX .u64 (bR .xor .u64 (bR .xor .u64 (bR .xor .u64 r0 (IntKind.u64.wrap (r0 * 2 ^ (min (Int.toNat (13 : Int)) 64)))) (Int.fdiv (bR .xor .u64 r0 (IntKind.u64.wrap (r0 * 2 ^ (min (Int.toNat (13 : Int)) 64)))) (2 ^ (min (Int.toNat (7 : Int)) 64)))) (IntKind.u64.wrap ((bR .xor .u64 (bR .xor .u64 r0 (IntKind.u64.wrap (r0 * 2 ^ (min (Int.toNat (13 : Int)) 64)))) (Int.fdiv (bR .xor .u64 r0 (IntKind.u64.wrap (r0 * 2 ^ (min (Int.toNat (13 : Int)) 64)))) (2 ^ (min (Int.toNat (7 : Int)) 64)))) * 2 ^ (min (Int.toNat (17 : Int)) 64))))) [(cX .u64 (bR .xor .u64 (bR .xor .u64 (bR .xor .u64 r0 (IntKind.u64.wrap (r0 * 2 ^ (min (Int.toNat (13 : Int)) 64)))) (Int.fdiv (bR .xor .u64 r0 (IntKind.u64.wrap (r0 * 2 ^ (min (Int.toNat (13 : Int)) 64)))) (2 ^ (min (Int.toNat (7 : Int)) 64)))) (IntKind.u64.wrap ((bR .xor .u64 (bR .xor .u64 r0 (IntKind.u64.wrap (r0 * 2 ^ (min (Int.toNat (13 : Int)) 64)))) (Int.fdiv (bR .xor .u64 r0 (IntKind.u64.wrap (r0 * 2 ^ (min (Int.toNat (13 : Int)) 64)))) (2 ^ (min (Int.toNat (7 : Int)) 64)))) * 2 ^ (min (Int.toNat (17 : Int)) 64)))))] hO rfl ?_
  refine bD ?_
  refine bE [(0, (.lp lo0p 0 0)), (2, (cX .u64 (bR .xor .u64 (bR .xor .u64 (bR .xor .u64 r0 (IntKind.u64.wrap (r0 * 2 ^ (min (Int.toNat (13 : Int)) 64)))) (Int.fdiv (bR .xor .u64 r0 (IntKind.u64.wrap (r0 * 2 ^ (min (Int.toNat (13 : Int)) 64)))) (2 ^ (min (Int.toNat (7 : Int)) 64)))) (IntKind.u64.wrap ((bR .xor .u64 (bR .xor .u64 r0 (IntKind.u64.wrap (r0 * 2 ^ (min (Int.toNat (13 : Int)) 64)))) (Int.fdiv (bR .xor .u64 r0 (IntKind.u64.wrap (r0 * 2 ^ (min (Int.toNat (13 : Int)) 64)))) (2 ^ (min (Int.toNat (7 : Int)) 64)))) * 2 ^ (min (Int.toNat (17 : Int)) 64))))))] ?_
  refine bI ?_
  obtain rfl := oI h0
  exact aG (EI hO ⟨rfl, rfl⟩)

theorem uP (lo0p : Nat) (aA : (List Int)) (a1 : Int) (b2 : Int) (r : List Int) (h0 : gL aA a1 b2 = some r) : nB Try.prog 81 lo0p 1 (List.map (eI) aA) (List.map (eI) r) [(.msl 1 lo0p 0 (List.length aA)), (eI a1), (eI b2)] (.tup []) := by
  intro H0 hl0
  refine dF Try.func81 ?_
  have hO := aL.sA hl0
  clear hl0
  obtain ⟨N0, hN0⟩ : ∃ n, n = List.length aA := ⟨_, rfl⟩
  have hN : List.length aA = N0 := hN0.symm
  unfold gL at h0
  refine aT aD 4 [2] [(6, (eI (wR (b2 - a1))))] ?_
  refine aT aD 2 [] [(15, (aE (decide ((8 : Int) ≤ (wR (b2 - a1))))))] ?_
  refine bF h0 (fun h0 => ?_) (fun h0 => ?_)
  · refine aP ?_
    refine aW aD 4 ?_
    refine bV 2 ?_
    refine vH 1 (cX .u64 0) (by kernel_rfl) (by kernel_rfl) hO ?_
    intro lo2 H hO
    refine pU 1 lo2 1 0 (cX .u64 0) (cX .u64 (IntKind.u64.wrap (wR (b2 - a1)))) [(cX .u64 0)] [(lo0p, 1, List.map (eI) aA), (lo2, 1, [(cX .u64 (IntKind.u64.wrap (wR (b2 - a1))))])] hO rfl (by kernel_rfl) ?_
    intro H hO
    refine hU ?_
    refine bU [15] [(7, (.lp lo2 0 0))] ?_
    refine aP ?_
    refine aW aD 3 ?_
    refine bV 1 ?_
    obtain ⟨x3, hx4, h0⟩ := aZ h0
    refine dL (zP (wR (b2 - a1)) _ hx4) hO ?_
    intro H hO
    refine bD ?_
    refine bU [] [(8, (cX .u64 x3))] ?_
    refine aP ?_
    refine aW aD 7 ?_
    obtain ⟨c6, h0⟩ := aR h0
    refine mG [(4 : Int) ≠ 0] ⟨c6, trivial⟩ ?_
    refine bE [(0, (.msl 1 lo0p 0 (List.length aA))), (1, (eI a1)), (6, (eI (wR (b2 - a1)))), (7, (.lp lo2 0 0)), (8, (cX .u64 x3)), (9, (eI (wR ((wR (a1 + (wR ((wR (Int.tdiv (wR (b2 - a1)) (4 : Int))) * (2 : Int))))) - (1 : Int)))))] ?_
    refine bZ 0 ?_
    refine fA [(0, (.msl 1 lo0p 0 (List.length aA))), (1, (eI a1)), (6, (eI (wR (b2 - a1)))), (7, (.lp lo2 0 0)), (8, (cX .u64 x3)), (9, (eI (wR ((wR (a1 + (wR ((wR (Int.tdiv (wR (b2 - a1)) (4 : Int))) * (2 : Int))))) - (1 : Int)))))] ?_
    refine dP (fun T H => ∃ aA : List Int, ∃ jP : Int, ∃ kW : Int, ∃ iO : Int, ∃ idx9 : Int, Has T [(0, (.msl 1 lo0p 0 (List.length aA))), (1, (eI a1)), (6, (eI jP)), (7, (.lp lo2 0 0)), (8, (cX .u64 iO)), (9, (eI idx9))] ∧ aL ⟨H0, [lo0p], []⟩ H [(lo0p, 1, List.map (eI) aA), (lo2, 1, [(cX .u64 kW)])] ∧ List.length aA = N0 ∧ iY aA a1 jP kW iO idx9 = some r) ?_ ⟨aA, wR (b2 - a1), IntKind.u64.wrap (wR (b2 - a1)), x3, wR ((wR (a1 + (wR ((wR (Int.tdiv (wR (b2 - a1)) (4 : Int))) * (2 : Int))))) - (1 : Int)), .eq (by kernel_rfl), hO, hN, h0⟩
    clear hO hN h0
    rintro T H ⟨aA, jP, kW, iO, idx9, hT, hO, hN, h0⟩
    refine bC hT ?_
    clear hT
    unfold iY at h0
    obtain ⟨rr0, hl0, h0⟩ := aZ h0
    refine cP (by kernel_rfl) (fun (s : List Int × Int × Int) T H => Has T [(0, (.msl 1 lo0p 0 (List.length s.1))), (1, (eI a1)), (6, (eI jP)), (7, (.lp lo2 0 0)), (8, (cX .u64 iO)), (9, (eI s.2.2))] ∧ aL ⟨H0, [lo0p], []⟩ H [(lo0p, 1, List.map (eI) s.1), (lo2, 1, [(cX .u64 s.2.1)])] ∧ List.length s.1 = N0) hl0 ⟨.eq (by kernel_rfl), hO, hN⟩ ?_
    clear hO hN
    rintro k0 s out1 T H ⟨hT, hO, hN⟩ h1 ho0
    obtain ⟨aA, kW, idx9⟩ := s
    replace h1 : cZ a1 jP iO aA kW idx9 = some out1 := h1
    try dsimp only at hT
    refine bC hT ?_
    clear hT
    unfold cZ at h1
    refine aP ?_
    refine aP ?_
    refine aW aD 8 ?_
    obtain ⟨c7, h1⟩ := aR h1
    refine mG [(4 : Int) ≠ 0] ⟨c7, trivial⟩ ?_
    refine bU [] [(33, (aE (decide (idx9 ≤ (wR ((wR (a1 + (wR ((wR (Int.tdiv jP (4 : Int))) * (2 : Int))))) + (1 : Int)))))))] ?_
    refine bF h1 (fun h1 => ?_) (fun h1 => ?_)
    · refine bG ?_
      refine bE [(0, (.msl 1 lo0p 0 (List.length aA))), (1, (eI a1)), (6, (eI jP)), (7, (.lp lo2 0 0)), (8, (cX .u64 iO)), (9, (eI idx9))] ?_
      refine aP ?_
      refine bZ 1 ?_
      refine aP ?_
      refine aW aD 6 ?_
      obtain ⟨x9, hx10, h1⟩ := aZ h1
      refine AI [(lo0p, 1, List.map (eI) aA)] [1, 0] (AP lo2 kW _ hx10) hO ?_
      intro r11 L12 H hP13 hO
      obtain ⟨rfl, rfl⟩ := hP13
      replace hO : aL ⟨H0, [lo0p], []⟩ H [(lo2, 1, [(cX .u64 x9.2)]), (lo0p, 1, List.map (eI) aA)] := hO
      refine bD ?_
      replace hO := hO.pick (L' := [(lo0p, 1, List.map (eI) aA), (lo2, 1, [(cX .u64 x9.2)])]) [1, 0] (by decide) (by kernel_rfl)
      refine bU [] [(10, (eI (wR (bR .and .u64 x9.1 (IntKind.u64.wrap (iO - (1 : Int)))))))] ?_
      refine dU (fun T H => ∃ aA : List Int, ∃ kW : Int, ∃ fM : Int, Has T [(0, (.msl 1 lo0p 0 (List.length aA))), (1, (eI a1)), (6, (eI jP)), (7, (.lp lo2 0 0)), (8, (cX .u64 iO)), (9, (eI idx9)), (10, (eI fM))] ∧ aL ⟨H0, [lo0p], []⟩ H [(lo0p, 1, List.map (eI) aA), (lo2, 1, [(cX .u64 kW)])] ∧ List.length aA = N0 ∧ eW aA a1 jP kW iO idx9 fM = some out1) ?_ ?_
      · clear hO hN h1
        rintro T H ⟨aA, kW, fM, hT, hO, hN, h1⟩
        refine bC hT ?_
        clear hT
        unfold eW at h1
        refine eD (eC []) aD 20 ?_
        obtain ⟨c14, h1⟩ := aR h1
        refine cB 11 [0 ≤ (wR (a1 + fM)) ∧ (wR (a1 + fM)) < (lN aA)] ⟨c14, trivial⟩ ?_
        refine fL 0 lo0p 1 (0 + Int.toNat (wR (a1 + fM))) (eI (gD aA (wR (a1 + fM)))) (eI (gD aA (wR (a1 + fM)))) (List.map (eI) aA) hO (bY c14) ?_
        obtain ⟨c15, h1⟩ := aR h1
        refine cB 15 [0 ≤ idx9 ∧ idx9 < (lN aA)] ⟨c15, trivial⟩ ?_
        refine fL 0 lo0p 1 (0 + Int.toNat idx9) (eI (gD aA idx9)) (eI (gD aA idx9)) (List.map (eI) aA) hO (bY c15) ?_
        obtain ⟨c16, h1⟩ := aR h1
        refine cB 17 [0 ≤ idx9 ∧ idx9 < (lN aA)] ⟨c16, trivial⟩ ?_
        refine jN 0 lo0p 1 (0 + Int.toNat idx9) (eI (gD aA idx9)) (eI (gD aA (wR (a1 + fM)))) (List.map (eI) aA) [(lo0p, 1, List.map (eI) (List.set aA (Int.toNat idx9) (gD aA (wR (a1 + fM))))), (lo2, 1, [(cX .u64 kW)])] hO (bY c16) (by simp only [List.set, gI]) ?_
        intro H hO
        replace hN : List.length (List.set aA (Int.toNat idx9) (gD aA (wR (a1 + fM)))) = N0 := by simpa using hN
        obtain ⟨c17, h1⟩ := aR h1
        refine cB 19 [0 ≤ (wR (a1 + fM)) ∧ (wR (a1 + fM)) < (lN aA)] ⟨c17, trivial⟩ ?_
        refine jN 0 lo0p 1 (0 + Int.toNat (wR (a1 + fM))) (eI (gD (List.set aA (Int.toNat idx9) (gD aA (wR (a1 + fM)))) (wR (a1 + fM)))) (eI (gD aA idx9)) (List.map (eI) (List.set aA (Int.toNat idx9) (gD aA (wR (a1 + fM))))) [(lo0p, 1, List.map (eI) (List.set (List.set aA (Int.toNat idx9) (gD aA (wR (a1 + fM)))) (Int.toNat (wR (a1 + fM))) (gD aA idx9))), (lo2, 1, [(cX .u64 kW)])] hO (mW c17 (by simp [])) (by simp only [List.set, gI]) ?_
        intro H hO
        replace hN : List.length (List.set (List.set aA (Int.toNat idx9) (gD aA (wR (a1 + fM)))) (Int.toNat (wR (a1 + fM))) (gD aA idx9)) = N0 := by simpa using hN
        refine lZ (by kernel_rfl) ?_
        refine dA (l := [(0, (.msl 1 lo0p 0 (List.length (List.set (List.set aA (Int.toNat idx9) (gD aA (wR (a1 + fM)))) (Int.toNat (wR (a1 + fM))) (gD aA idx9))))), (1, (eI a1)), (6, (eI jP)), (7, (.lp lo2 0 0)), (8, (cX .u64 iO)), (9, (eI idx9))]) ⟨[(0, (.msl 1 lo0p 0 (List.length aA))), (1, (eI a1)), (6, (eI jP)), (7, (.lp lo2 0 0)), (8, (cX .u64 iO)), (9, (eI idx9))], by kernel_rfl, rfl, ⟨aN.eq (by simp []), aN.refl _, aN.refl _, aN.refl _, aN.refl _, aN.refl _, trivial⟩⟩ ?_
        refine aG (aY (aF (?_)))
        refine aW aD 3 ?_
        refine bD ?_
        exact aG (aF (⟨rfl, _, (oI h1).symm, .eq (by kernel_rfl), hO, hN⟩))
      refine aT aD 3 [] [(43, (aE (decide (jP ≤ (wR (bR .and .u64 x9.1 (IntKind.u64.wrap (iO - (1 : Int)))))))))] ?_
      refine bF h1 (fun h1 => ?_) (fun h1 => ?_)
      · refine aW aD 4 ?_
        refine bD ?_
        exact aG (aF (⟨rfl, _, _, _, .eq (by kernel_rfl), hO, hN, h1⟩))
      refine bG ?_
      exact aG (aF (⟨rfl, _, _, _, .eq (by kernel_rfl), hO, hN, h1⟩))
    refine eK 0 ?_
    replace hO := hO.pick (L' := [(lo0p, 1, List.map (eI) aA)]) [0] (by decide) (by kernel_rfl)
    obtain rfl := oI h1
    obtain rfl : _ = rr0 := ho0
    replace h0 : some aA = some r := h0
    obtain rfl := oI h0
    exact aG (aS (aS (bO (yF (x := (.tup [])) (by kernel_rfl) (aN.refl _) ⟨rfl, hO.ext, hO.at 0 (by kernel_rfl), by first | rfl | (simp only [List.length_map]; exact hN.trans hN0)⟩))))
  refine bG ?_
  obtain rfl := oI h0
  exact aG (yF (x := (.tup [])) (by kernel_rfl) (aN.refl _) ⟨rfl, hO.ext, hO.at 0 (by kernel_rfl), by first | rfl | (simp only [List.length_map]; exact hN.trans hN0)⟩)

theorem nL (lo0p : Nat) (aA : (List Int)) (a1 : Int) (b2 : Int) (lo3p : Nat) (rZ : Int) (r : ((Int × Int) × Int)) (h0 : fT aA a1 b2 rZ = some r) : yP Try.prog 113 [(.msl 1 lo0p 0 (List.length aA)), (eI a1), (eI b2), (.lp lo3p 0 0)] [(lo0p, 1, List.map (eI) aA), (lo3p, 1, [(eI rZ)])] (fun x L => x = (.tup [(eI r.1.1), (eI r.1.2)]) ∧ L = [(lo0p, 1, List.map (eI) aA), (lo3p, 1, [(eI r.2)])]) := by
  intro F H0 hO
  obtain ⟨Fh, Fe, Fg⟩ := F
  refine dF Try.func113 ?_
  unfold fT at h0
  refine aT aD 2 [] [] ?_
  refine aP ?_
  refine aP ?_
  refine eD (eC [18]) aD 9 ?_
  obtain ⟨c1, h0⟩ := aR h0
  refine cB 3 [0 ≤ b2 ∧ b2 < (lN aA)] ⟨c1, trivial⟩ ?_
  refine fL 0 lo0p 1 (0 + Int.toNat b2) (eI (gD aA b2)) (eI (gD aA b2)) (List.map (eI) aA) hO (bY c1) ?_
  obtain ⟨c2, h0⟩ := aR h0
  refine cB 7 [0 ≤ a1 ∧ a1 < (lN aA)] ⟨c2, trivial⟩ ?_
  refine fL 0 lo0p 1 (0 + Int.toNat a1) (eI (gD aA a1)) (eI (gD aA a1)) (List.map (eI) aA) hO (bY c2) ?_
  obtain ⟨x3, hx4, h0⟩ := aZ h0
  refine DB (fF (gD aA b2) (gD aA a1) _ hx4) hO ?_
  intro H hO
  refine lZ (by kernel_rfl) ?_
  refine bU [] [(18, (aE x3))] ?_
  refine bF h0 (fun h0 => ?_) (fun h0 => ?_)
  · refine aP ?_
    refine aW aD 6 ?_
    refine bV 2 ?_
    refine pR 1 lo3p 1 0 (eI rZ) (eI rZ) [(eI rZ)] hO rfl ?_
    refine bV 5 ?_
    refine pU 1 lo3p 1 0 (eI rZ) (eI (wR (rZ + (1 : Int)))) [(eI rZ)] [(lo0p, 1, List.map (eI) aA), (lo3p, 1, [(eI (wR (rZ + (1 : Int))))])] hO rfl (by kernel_rfl) ?_
    intro H hO
    refine hU ?_
    refine bU [18] [] ?_
    refine aT aD 4 [1, 2] [(8, (eI b2)), (9, (eI a1))] ?_
    refine bI ?_
    obtain rfl := oI h0
    exact aG (aQ (EI hO ⟨rfl, rfl⟩))
  refine bG ?_
  refine bE [(0, (.msl 1 lo0p 0 (List.length aA))), (1, (eI a1)), (2, (eI b2)), (3, (.lp lo3p 0 0))] ?_
  refine aT aD 4 [1, 2] [(8, (eI a1)), (9, (eI b2))] ?_
  refine bI ?_
  obtain rfl := oI h0
  exact aG (EI hO ⟨rfl, rfl⟩)

theorem rO (lo0p : Nat) (aA : (List Int)) (a1 : Int) (b2 : Int) (c3 : Int) (lo4p : Nat) (DU : Int) (r : (Int × Int)) (h0 : iB aA a1 b2 c3 DU = some r) : yP Try.prog 109 [(.msl 1 lo0p 0 (List.length aA)), (eI a1), (eI b2), (eI c3), (.lp lo4p 0 0)] [(lo0p, 1, List.map (eI) aA), (lo4p, 1, [(eI DU)])] (fun x L => x = (eI r.1) ∧ L = [(lo0p, 1, List.map (eI) aA), (lo4p, 1, [(eI r.2)])]) := by
  intro F H0 hO
  obtain ⟨Fh, Fe, Fg⟩ := F
  refine dF Try.func109 ?_
  unfold iB at h0
  refine aT aD 1 [] [] ?_
  refine aP ?_
  refine aW aD 10 ?_
  refine bV 4 ?_
  obtain ⟨x1, hx2, h0⟩ := aZ h0
  refine AI [] [0, 1] (nL lo0p aA a1 b2 lo4p DU _ hx2) hO ?_
  intro r3 L4 H hP5 hO
  obtain ⟨rfl, rfl⟩ := hP5
  replace hO : aL ⟨Fh, Fe, Fg⟩ H [(lo0p, 1, List.map (eI) aA), (lo4p, 1, [(eI x1.2)])] := hO
  refine bD ?_
  refine bU [1, 2] [(1, (eI x1.1.1)), (2, (eI x1.1.2))] ?_
  refine aP ?_
  refine aW aD 10 ?_
  refine bV 4 ?_
  obtain ⟨x6, hx7, h0⟩ := aZ h0
  refine AI [] [0, 1] (nL lo0p aA x1.1.2 c3 lo4p x1.2 _ hx7) hO ?_
  intro r8 L9 H hP10 hO
  obtain ⟨rfl, rfl⟩ := hP10
  replace hO : aL ⟨Fh, Fe, Fg⟩ H [(lo0p, 1, List.map (eI) aA), (lo4p, 1, [(eI x6.2)])] := hO
  refine bD ?_
  refine bU [2, 3] [(2, (eI x6.1.1))] ?_
  refine aP ?_
  refine aW aD 10 ?_
  refine bV 4 ?_
  obtain ⟨x11, hx12, h0⟩ := aZ h0
  refine AI [] [0, 1] (nL lo0p aA x1.1.1 x6.1.1 lo4p x6.2 _ hx12) hO ?_
  intro r13 L14 H hP15 hO
  obtain ⟨rfl, rfl⟩ := hP15
  replace hO : aL ⟨Fh, Fe, Fg⟩ H [(lo0p, 1, List.map (eI) aA), (lo4p, 1, [(eI x11.2)])] := hO
  refine bD ?_
  refine bU [1, 2] [(2, (eI x11.1.2))] ?_
  refine bT aD 2 [(0, (.msl 1 lo0p 0 (List.length aA))), (4, (.lp lo4p 0 0)), (10, (eI x11.1.2))] ?_
  refine bI ?_
  obtain rfl := oI h0
  exact aG (EI hO ⟨rfl, rfl⟩)

theorem kT (lo0p : Nat) (aA : (List Int)) (a1 : Int) (lo2p : Nat) (ED : Int) (r : (Int × Int)) (h0 : dV aA a1 ED = some r) : yP Try.prog 108 [(.msl 1 lo0p 0 (List.length aA)), (eI a1), (.lp lo2p 0 0)] [(lo0p, 1, List.map (eI) aA), (lo2p, 1, [(eI ED)])] (fun x L => x = (eI r.1) ∧ L = [(lo0p, 1, List.map (eI) aA), (lo2p, 1, [(eI r.2)])]) := by
  intro F H0 hO
  obtain ⟨Fh, Fe, Fg⟩ := F
  refine dF Try.func108 ?_
  unfold dV at h0
  refine aT aD 1 [] [] ?_
  refine aP ?_
  refine aW aD 9 ?_
  refine bV 7 ?_
  obtain ⟨x1, hx2, h0⟩ := aZ h0
  refine AI [] [0, 1] (rO lo0p aA (wR (a1 - (1 : Int))) a1 (wR (a1 + (1 : Int))) lo2p ED _ hx2) hO ?_
  intro r3 L4 H hP5 hO
  obtain ⟨rfl, rfl⟩ := hP5
  replace hO : aL ⟨Fh, Fe, Fg⟩ H [(lo0p, 1, List.map (eI) aA), (lo2p, 1, [(eI x1.2)])] := hO
  refine bD ?_
  refine bU [1] [(6, (eI x1.1))] ?_
  refine bI ?_
  obtain rfl := oI h0
  exact aG (EI hO ⟨rfl, rfl⟩)

theorem vP (lo0p : Nat) (aA : (List Int)) (a1 : Int) (b2 : Int) (r : (Int × Int)) (h0 : gX aA a1 b2 = some r) : yP Try.prog 82 [(.msl 1 lo0p 0 (List.length aA)), (eI a1), (eI b2)] [(lo0p, 1, List.map (eI) aA)] (fun x L => x = (.tup [(eI r.1), (eI r.2)]) ∧ L = [(lo0p, 1, List.map (eI) aA)]) := by
  intro F H0 hO
  obtain ⟨Fh, Fe, Fg⟩ := F
  refine dF Try.func82 ?_
  unfold gX at h0
  refine aT aD 2 [] [] ?_
  refine aT aD 4 [2] [(8, (eI (wR (b2 - a1))))] ?_
  refine aP ?_
  refine aW aD 1 ?_
  refine vH 1 (eI 0) (by kernel_rfl) (by kernel_rfl) hO ?_
  intro lo1 H hO
  refine hU ?_
  refine bU [] [(9, (.lp lo1 0 0))] ?_
  refine aP ?_
  refine aW aD 6 ?_
  obtain ⟨c2, h0⟩ := aR h0
  refine mG [(4 : Int) ≠ 0] ⟨c2, trivial⟩ ?_
  refine bU [] [(10, (eI (wR (a1 + (wR ((wR (Int.tdiv (wR (b2 - a1)) (4 : Int))) * (1 : Int)))))))] ?_
  refine aP ?_
  refine aW aD 6 ?_
  obtain ⟨c3, h0⟩ := aR h0
  refine mG [(4 : Int) ≠ 0] ⟨c3, trivial⟩ ?_
  refine bE [(0, (.msl 1 lo0p 0 (List.length aA))), (1, (eI a1)), (8, (eI (wR (b2 - a1)))), (9, (.lp lo1 0 0)), (10, (eI (wR (a1 + (wR ((wR (Int.tdiv (wR (b2 - a1)) (4 : Int))) * (1 : Int))))))), (11, (eI (wR (a1 + (wR ((wR (Int.tdiv (wR (b2 - a1)) (4 : Int))) * (2 : Int)))))))] ?_
  refine aP ?_
  refine aW aD 6 ?_
  obtain ⟨c4, h0⟩ := aR h0
  refine mG [(4 : Int) ≠ 0] ⟨c4, trivial⟩ ?_
  refine bU [1] [(12, (eI (wR (a1 + (wR ((wR (Int.tdiv (wR (b2 - a1)) (4 : Int))) * (3 : Int)))))))] ?_
  refine dU (fun T H => ∃ mE : Int, ∃ j11 : Int, Has T [(0, (.msl 1 lo0p 0 (List.length aA))), (9, (.lp lo1 0 0)), (11, (eI j11))] ∧ aL ⟨Fh, Fe, Fg⟩ H [(lo0p, 1, List.map (eI) aA), (lo1, 1, [(eI mE)])] ∧ fJ aA mE j11 = some r) ?_ ?_
  · clear hO h0
    rintro T H ⟨mE, j11, hT, hO, h0⟩
    refine bC hT ?_
    clear hT
    unfold fJ at h0
    refine aP ?_
    refine aW aD 1 ?_
    refine pR 1 lo1 1 0 (eI mE) (eI mE) [(eI mE)] hO rfl ?_
    refine hU ?_
    replace hO := hO.pick (L' := [(lo0p, 1, List.map (eI) aA)]) [0] (by decide) (by kernel_rfl)
    refine bU [9] [(49, (eI mE))] ?_
    refine bZ 0 ?_
    refine aT aD 2 [] [(51, (aE (decide (mE = (0 : Int)))))] ?_
    refine bF h0 (fun h0 => ?_) (fun h0 => ?_)
    · refine aT aD 3 [11, 49, 51] [(6, (eI j11)), (7, (eI (1 : Int)))] ?_
      refine bI ?_
      obtain rfl := oI h0
      exact aG (bK (EI hO ⟨rfl, rfl⟩))
    refine aT aD 2 [49, 51] [(54, (aE (decide (mE = (12 : Int)))))] ?_
    refine bF h0 (fun h0 => ?_) (fun h0 => ?_)
    · refine aT aD 3 [11, 54] [(6, (eI j11)), (7, (eI (2 : Int)))] ?_
      refine bI ?_
      obtain rfl := oI h0
      exact aG (bK (EI hO ⟨rfl, rfl⟩))
    refine aT aD 3 [11, 54] [(6, (eI j11)), (7, (eI (0 : Int)))] ?_
    refine bI ?_
    obtain rfl := oI h0
    exact aG (bK (EI hO ⟨rfl, rfl⟩))
  refine aT aD 2 [] [(32, (aE (decide ((8 : Int) ≤ (wR (b2 - a1))))))] ?_
  refine bF h0 (fun h0 => ?_) (fun h0 => ?_)
  · refine dU (fun T H => ∃ mE : Int, ∃ i10 : Int, ∃ j11 : Int, ∃ k12 : Int, Has T [(0, (.msl 1 lo0p 0 (List.length aA))), (9, (.lp lo1 0 0)), (10, (eI i10)), (11, (eI j11)), (12, (eI k12))] ∧ aL ⟨Fh, Fe, Fg⟩ H [(lo0p, 1, List.map (eI) aA), (lo1, 1, [(eI mE)])] ∧ fE aA mE i10 j11 k12 = some r) ?_ ?_
    · clear hO h0
      rintro T H ⟨mE, i10, j11, k12, hT, hO, h0⟩
      refine bC hT ?_
      clear hT
      unfold fE at h0
      refine aW aD 6 ?_
      refine bV 4 ?_
      obtain ⟨x8, hx9, h0⟩ := aZ h0
      refine AI [] [0, 1] (rO lo0p aA i10 j11 k12 lo1 mE _ hx9) hO ?_
      intro r10 L11 H hP12 hO
      obtain ⟨rfl, rfl⟩ := hP12
      replace hO : aL ⟨Fh, Fe, Fg⟩ H [(lo0p, 1, List.map (eI) aA), (lo1, 1, [(eI x8.2)])] := hO
      refine bD ?_
      exact aG (aF (⟨rfl, _, _, .eq (by kernel_rfl), hO, h0⟩))
    refine aT aD 2 [8, 32] [(34, (aE (decide ((50 : Int) ≤ (wR (b2 - a1))))))] ?_
    refine bF h0 (fun h0 => ?_) (fun h0 => ?_)
    · refine aP ?_
      refine aW aD 4 ?_
      refine bV 2 ?_
      obtain ⟨x14, hx15, h0⟩ := aZ h0
      refine AI [] [0, 1] (kT lo0p aA (wR (a1 + (wR ((wR (Int.tdiv (wR (b2 - a1)) (4 : Int))) * (1 : Int))))) lo1 0 _ hx15) hO ?_
      intro r16 L17 H hP18 hO
      obtain ⟨rfl, rfl⟩ := hP18
      replace hO : aL ⟨Fh, Fe, Fg⟩ H [(lo0p, 1, List.map (eI) aA), (lo1, 1, [(eI x14.2)])] := hO
      refine bD ?_
      refine bU [10, 34] [(10, (eI x14.1))] ?_
      refine aP ?_
      refine aW aD 4 ?_
      refine bV 2 ?_
      obtain ⟨x19, hx20, h0⟩ := aZ h0
      refine AI [] [0, 1] (kT lo0p aA (wR (a1 + (wR ((wR (Int.tdiv (wR (b2 - a1)) (4 : Int))) * (2 : Int))))) lo1 x14.2 _ hx20) hO ?_
      intro r21 L22 H hP23 hO
      obtain ⟨rfl, rfl⟩ := hP23
      replace hO : aL ⟨Fh, Fe, Fg⟩ H [(lo0p, 1, List.map (eI) aA), (lo1, 1, [(eI x19.2)])] := hO
      refine bD ?_
      refine bE [(0, (.msl 1 lo0p 0 (List.length aA))), (9, (.lp lo1 0 0)), (10, (eI x14.1)), (11, (eI x19.1)), (12, (eI (wR (a1 + (wR ((wR (Int.tdiv (wR (b2 - a1)) (4 : Int))) * (3 : Int)))))))] ?_
      refine aW aD 4 ?_
      refine bV 2 ?_
      obtain ⟨x24, hx25, h0⟩ := aZ h0
      refine AI [] [0, 1] (kT lo0p aA (wR (a1 + (wR ((wR (Int.tdiv (wR (b2 - a1)) (4 : Int))) * (3 : Int))))) lo1 x19.2 _ hx25) hO ?_
      intro r26 L27 H hP28 hO
      obtain ⟨rfl, rfl⟩ := hP28
      replace hO : aL ⟨Fh, Fe, Fg⟩ H [(lo0p, 1, List.map (eI) aA), (lo1, 1, [(eI x24.2)])] := hO
      refine bD ?_
      exact aG (aF (⟨rfl, _, _, _, _, .eq (by kernel_rfl), hO, h0⟩))
    refine bG ?_
    exact aG (aF (⟨rfl, _, _, _, _, .eq (by kernel_rfl), hO, h0⟩))
  refine bG ?_
  exact aG (aF (⟨rfl, _, _, .eq (by kernel_rfl), hO, h0⟩))

theorem vI (lo0p : Nat) (aA : (List Int)) (a1 : Int) (b2 : Int) (r : List Int) (h0 : gV aA a1 b2 = some r) : nB Try.prog 83 lo0p 1 (List.map (eI) aA) (List.map (eI) r) [(.msl 1 lo0p 0 (List.length aA)), (eI a1), (eI b2)] (.tup []) := by
  intro H0 hl0
  refine dF Try.func83 ?_
  have hO := aL.sA hl0
  clear hl0
  obtain ⟨N0, hN0⟩ : ∃ n, n = List.length aA := ⟨_, rfl⟩
  have hN : List.length aA = N0 := hN0.symm
  unfold gV at h0
  refine aT aD 2 [1] [(6, (eI a1))] ?_
  refine aT aD 3 [2] [(7, (eI (wR (b2 - (1 : Int)))))] ?_
  refine bZ 0 ?_
  refine fA [(0, (.msl 1 lo0p 0 (List.length aA))), (6, (eI a1)), (7, (eI (wR (b2 - (1 : Int)))))] ?_
  refine dP (fun T H => ∃ aA : List Int, ∃ i6 : Int, ∃ j7 : Int, Has T [(0, (.msl 1 lo0p 0 (List.length aA))), (6, (eI i6)), (7, (eI j7))] ∧ aL ⟨H0, [lo0p], []⟩ H [(lo0p, 1, List.map (eI) aA)] ∧ List.length aA = N0 ∧ jH aA i6 j7 = some r) ?_ ⟨aA, a1, wR (b2 - (1 : Int)), .eq (by kernel_rfl), hO, hN, h0⟩
  clear hO hN h0
  rintro T H ⟨aA, i6, j7, hT, hO, hN, h0⟩
  refine bC hT ?_
  clear hT
  unfold jH at h0
  obtain ⟨rr0, hl0, h0⟩ := aZ h0
  refine cP (by kernel_rfl) (fun (s : List Int × Int × Int) T H => Has T [(0, (.msl 1 lo0p 0 (List.length s.1))), (6, (eI s.2.1)), (7, (eI s.2.2))] ∧ aL ⟨H0, [lo0p], []⟩ H [(lo0p, 1, List.map (eI) s.1)] ∧ List.length s.1 = N0) hl0 ⟨.eq (by kernel_rfl), hO, hN⟩ ?_
  clear hO hN
  rintro k0 s out1 T H ⟨hT, hO, hN⟩ h1 ho0
  obtain ⟨aA, i6, j7⟩ := s
  replace h1 : dM aA i6 j7 = some out1 := h1
  try dsimp only at hT
  refine bC hT ?_
  clear hT
  unfold dM at h1
  refine aP ?_
  refine aT aD 3 [] [(13, (aE (decide (i6 < j7))))] ?_
  refine bF h1 (fun h1 => ?_) (fun h1 => ?_)
  · refine bG ?_
    refine bE [(0, (.msl 1 lo0p 0 (List.length aA))), (6, (eI i6)), (7, (eI j7))] ?_
    refine bZ 1 ?_
    refine aP ?_
    refine eD (eC []) aD 16 ?_
    obtain ⟨c2, h1⟩ := aR h1
    refine cB 7 [0 ≤ j7 ∧ j7 < (lN aA)] ⟨c2, trivial⟩ ?_
    refine fL 0 lo0p 1 (0 + Int.toNat j7) (eI (gD aA j7)) (eI (gD aA j7)) (List.map (eI) aA) hO (bY c2) ?_
    obtain ⟨c3, h1⟩ := aR h1
    refine cB 11 [0 ≤ i6 ∧ i6 < (lN aA)] ⟨c3, trivial⟩ ?_
    refine fL 0 lo0p 1 (0 + Int.toNat i6) (eI (gD aA i6)) (eI (gD aA i6)) (List.map (eI) aA) hO (bY c3) ?_
    obtain ⟨c4, h1⟩ := aR h1
    refine cB 13 [0 ≤ i6 ∧ i6 < (lN aA)] ⟨c4, trivial⟩ ?_
    refine jN 0 lo0p 1 (0 + Int.toNat i6) (eI (gD aA i6)) (eI (gD aA j7)) (List.map (eI) aA) [(lo0p, 1, List.map (eI) (List.set aA (Int.toNat i6) (gD aA j7)))] hO (bY c4) (by simp only [List.set, gI]) ?_
    intro H hO
    replace hN : List.length (List.set aA (Int.toNat i6) (gD aA j7)) = N0 := by simpa using hN
    obtain ⟨c5, h1⟩ := aR h1
    refine cB 15 [0 ≤ j7 ∧ j7 < (lN aA)] ⟨c5, trivial⟩ ?_
    refine jN 0 lo0p 1 (0 + Int.toNat j7) (eI (gD (List.set aA (Int.toNat i6) (gD aA j7)) j7)) (eI (gD aA i6)) (List.map (eI) (List.set aA (Int.toNat i6) (gD aA j7))) [(lo0p, 1, List.map (eI) (List.set (List.set aA (Int.toNat i6) (gD aA j7)) (Int.toNat j7) (gD aA i6)))] hO (mW c5 (by simp [])) (by simp only [List.set, gI]) ?_
    intro H hO
    replace hN : List.length (List.set (List.set aA (Int.toNat i6) (gD aA j7)) (Int.toNat j7) (gD aA i6)) = N0 := by simpa using hN
    refine lZ (by kernel_rfl) ?_
    refine dA (l := [(0, (.msl 1 lo0p 0 (List.length (List.set (List.set aA (Int.toNat i6) (gD aA j7)) (Int.toNat j7) (gD aA i6))))), (6, (eI i6)), (7, (eI j7))]) ⟨[(0, (.msl 1 lo0p 0 (List.length aA))), (6, (eI i6)), (7, (eI j7))], by kernel_rfl, rfl, ⟨aN.eq (by simp []), aN.refl _, aN.refl _, trivial⟩⟩ ?_
    refine aG (aF (?_))
    refine aT aD 3 [6] [(6, (eI (wR (i6 + (1 : Int)))))] ?_
    refine aW aD 3 ?_
    refine bD ?_
    exact aG (aY (aF (⟨rfl, _, (oI h1).symm, .eq (by kernel_rfl), hO, hN⟩)))
  refine eK 0 ?_
  obtain rfl := oI h1
  obtain rfl : _ = rr0 := ho0
  replace h0 : some aA = some r := h0
  obtain rfl := oI h0
  exact aG (aS (aS (bO (yF (x := (.tup [])) (by kernel_rfl) (aN.refl _) ⟨rfl, hO.ext, hO.at 0 (by kernel_rfl), by first | rfl | (simp only [List.length_map]; exact hN.trans hN0)⟩))))

theorem qY (lo0p : Nat) (aA : (List Int)) (a1 : Int) (b2 : Int) (r : (Bool × List Int)) (h0 : eS aA a1 b2 = some r) : nB Try.prog 84 lo0p 1 (List.map (eI) aA) (List.map (eI) r.2) [(.msl 1 lo0p 0 (List.length aA)), (eI a1), (eI b2)] (aE r.1) := by
  intro H0 hl0
  refine dF Try.func84 ?_
  have hO := aL.sA hl0
  clear hl0
  obtain ⟨N0, hN0⟩ : ∃ n, n = List.length aA := ⟨_, rfl⟩
  have hN : List.length aA = N0 := hN0.symm
  unfold eS at h0
  refine aT aD 1 [] [] ?_
  refine aT aD 3 [] [(7, (eI (wR (a1 + (1 : Int)))))] ?_
  refine dU (fun T H => ∃ aA : List Int, Has T [(0, (.msl 1 lo0p 0 (List.length aA)))] ∧ aL ⟨H0, [lo0p], []⟩ H [(lo0p, 1, List.map (eI) aA)] ∧ List.length aA = N0 ∧ eJ aA = some r) ?_ ?_
  · clear hO hN h0
    rintro T H ⟨aA, hT, hO, hN, h0⟩
    refine bC hT ?_
    clear hT
    unfold eJ at h0
    refine aT aD 1 [] [(6, (aE false))] ?_
    refine bI ?_
    obtain rfl := oI h0
    exact aG (lC (x := (aE false)) (by kernel_rfl) (aN.refl _) ⟨rfl, hO.ext, hO.at 0 (by kernel_rfl), by first | rfl | (simp only [List.length_map]; exact hN.trans hN0)⟩)
  refine aT aD 1 [] [(8, (eI (0 : Int)))] ?_
  refine bZ 0 ?_
  refine fA [(0, (.msl 1 lo0p 0 (List.length aA))), (1, (eI a1)), (2, (eI b2)), (7, (eI (wR (a1 + (1 : Int))))), (8, (eI (0 : Int)))] ?_
  refine dP (fun T H => ∃ aA : List Int, ∃ i7 : Int, ∃ j8 : Int, Has T [(0, (.msl 1 lo0p 0 (List.length aA))), (1, (eI a1)), (2, (eI b2)), (7, (eI i7)), (8, (eI j8))] ∧ aL ⟨H0, [lo0p], []⟩ H [(lo0p, 1, List.map (eI) aA)] ∧ List.length aA = N0 ∧ fX aA a1 b2 i7 j8 = some r) ?_ ⟨aA, wR (a1 + (1 : Int)), (0 : Int), .eq (by kernel_rfl), hO, hN, h0⟩
  clear hO hN h0
  rintro T H ⟨aA, i7, j8, hT, hO, hN, h0⟩
  refine bC hT ?_
  clear hT
  unfold fX at h0
  obtain ⟨rr0, hl0, h0⟩ := aZ h0
  refine cP (by kernel_rfl) (fun (s : List Int × Int × Int) T H => Has T [(0, (.msl 1 lo0p 0 (List.length s.1))), (1, (eI a1)), (2, (eI b2)), (7, (eI s.2.1)), (8, (eI s.2.2))] ∧ aL ⟨H0, [lo0p], []⟩ H [(lo0p, 1, List.map (eI) s.1)] ∧ List.length s.1 = N0) hl0 ⟨.eq (by kernel_rfl), hO, hN⟩ ?_
  clear hO hN
  rintro k0 s out1 T H ⟨hT, hO, hN⟩ h1 ho0
  obtain ⟨aA, i7, j8⟩ := s
  replace h1 : cA a1 b2 aA i7 j8 = some out1 := h1
  try dsimp only at hT
  refine bC hT ?_
  clear hT
  unfold cA at h1
  refine aP ?_
  refine aT aD 2 [] [(14, (aE (decide (j8 < (5 : Int)))))] ?_
  refine bF h1 (fun h1 => ?_) (fun h1 => ?_)
  · refine bG ?_
    refine bE [(0, (.msl 1 lo0p 0 (List.length aA))), (1, (eI a1)), (2, (eI b2)), (7, (eI i7)), (8, (eI j8))] ?_
    refine dU (fun T H => ∃ aA : List Int, ∃ i7 : Int, Has T [(0, (.msl 1 lo0p 0 (List.length aA))), (1, (eI a1)), (2, (eI b2)), (7, (eI i7)), (8, (eI j8))] ∧ aL ⟨H0, [lo0p], []⟩ H [(lo0p, 1, List.map (eI) aA)] ∧ List.length aA = N0 ∧ dN aA a1 b2 i7 j8 = some out1) ?_ ?_
    · clear hO hN h1
      rintro T H ⟨aA, i7, hT, hO, hN, h1⟩
      refine bC hT ?_
      clear hT
      unfold dN at h1
      refine aW aD 3 ?_
      refine bD ?_
      exact aG (aF (⟨rfl, _, (oI h1).symm, .eq (by kernel_rfl), hO, hN⟩))
    refine bZ 1 ?_
    refine dU (fun T H => ∃ aA : List Int, ∃ i7 : Int, Has T [(0, (.msl 1 lo0p 0 (List.length aA))), (1, (eI a1)), (2, (eI b2)), (7, (eI i7)), (8, (eI j8))] ∧ aL ⟨H0, [lo0p], []⟩ H [(lo0p, 1, List.map (eI) aA)] ∧ List.length aA = N0 ∧ eH aA a1 b2 i7 j8 = some out1) ?_ ?_
    · clear hO hN h1
      rintro T H ⟨aA, i7, hT, hO, hN, h1⟩
      refine bC hT ?_
      clear hT
      unfold eH at h1
      refine aP ?_
      refine aT aD 3 [] [(37, (aE (decide (i7 = b2))))] ?_
      refine bF h1 (fun h1 => ?_) (fun h1 => ?_)
      · refine aT aD 1 [1, 2, 7, 8, 37] [(6, (aE true))] ?_
        refine bI ?_
        obtain rfl := oI h1
        obtain rfl : _ = rr0 := ho0
        replace h0 : some (true, aA) = some r := h0
        obtain rfl := oI h0
        exact aG (aQ (bK (aQ (aQ (bK (aQ (lC (x := (aE true)) (by kernel_rfl) (aN.refl _) ⟨rfl, hO.ext, hO.at 0 (by kernel_rfl), by first | rfl | (simp only [List.length_map]; exact hN.trans hN0)⟩)))))))
      refine bG ?_
      refine bE [(0, (.msl 1 lo0p 0 (List.length aA))), (1, (eI a1)), (2, (eI b2)), (7, (eI i7)), (8, (eI j8))] ?_
      refine aP ?_
      refine aT aD 4 [] [(41, (aE (decide ((wR (b2 - a1)) < (50 : Int)))))] ?_
      refine bF h1 (fun h1 => ?_) (fun h1 => ?_)
      · refine aT aD 1 [1, 2, 7, 8, 41] [(6, (aE false))] ?_
        refine bI ?_
        obtain rfl := oI h1
        obtain rfl : _ = rr0 := ho0
        replace h0 : some (false, aA) = some r := h0
        obtain rfl := oI h0
        exact aG (aQ (bK (aQ (aQ (bK (aQ (lC (x := (aE false)) (by kernel_rfl) (aN.refl _) ⟨rfl, hO.ext, hO.at 0 (by kernel_rfl), by first | rfl | (simp only [List.length_map]; exact hN.trans hN0)⟩)))))))
      refine bG ?_
      refine bE [(0, (.msl 1 lo0p 0 (List.length aA))), (1, (eI a1)), (2, (eI b2)), (7, (eI i7)), (8, (eI j8))] ?_
      refine aP ?_
      refine eD (eC []) aD 18 ?_
      obtain ⟨c4, h1⟩ := aR h1
      refine cB 9 [0 ≤ (wR (i7 - (1 : Int))) ∧ (wR (i7 - (1 : Int))) < (lN aA)] ⟨c4, trivial⟩ ?_
      refine fL 0 lo0p 1 (0 + Int.toNat (wR (i7 - (1 : Int)))) (eI (gD aA (wR (i7 - (1 : Int))))) (eI (gD aA (wR (i7 - (1 : Int))))) (List.map (eI) aA) hO (bY c4) ?_
      obtain ⟨c5, h1⟩ := aR h1
      refine cB 13 [0 ≤ i7 ∧ i7 < (lN aA)] ⟨c5, trivial⟩ ?_
      refine fL 0 lo0p 1 (0 + Int.toNat i7) (eI (gD aA i7)) (eI (gD aA i7)) (List.map (eI) aA) hO (bY c5) ?_
      obtain ⟨c6, h1⟩ := aR h1
      refine cB 15 [0 ≤ i7 ∧ i7 < (lN aA)] ⟨c6, trivial⟩ ?_
      refine jN 0 lo0p 1 (0 + Int.toNat i7) (eI (gD aA i7)) (eI (gD aA (wR (i7 - (1 : Int))))) (List.map (eI) aA) [(lo0p, 1, List.map (eI) (List.set aA (Int.toNat i7) (gD aA (wR (i7 - (1 : Int))))))] hO (bY c6) (by simp only [List.set, gI]) ?_
      intro H hO
      replace hN : List.length (List.set aA (Int.toNat i7) (gD aA (wR (i7 - (1 : Int))))) = N0 := by simpa using hN
      obtain ⟨c7, h1⟩ := aR h1
      refine cB 17 [0 ≤ (wR (i7 - (1 : Int))) ∧ (wR (i7 - (1 : Int))) < (lN aA)] ⟨c7, trivial⟩ ?_
      refine jN 0 lo0p 1 (0 + Int.toNat (wR (i7 - (1 : Int)))) (eI (gD (List.set aA (Int.toNat i7) (gD aA (wR (i7 - (1 : Int))))) (wR (i7 - (1 : Int))))) (eI (gD aA i7)) (List.map (eI) (List.set aA (Int.toNat i7) (gD aA (wR (i7 - (1 : Int)))))) [(lo0p, 1, List.map (eI) (List.set (List.set aA (Int.toNat i7) (gD aA (wR (i7 - (1 : Int))))) (Int.toNat (wR (i7 - (1 : Int)))) (gD aA i7)))] hO (mW c7 (by simp [])) (by simp only [List.set, gI]) ?_
      intro H hO
      replace hN : List.length (List.set (List.set aA (Int.toNat i7) (gD aA (wR (i7 - (1 : Int))))) (Int.toNat (wR (i7 - (1 : Int)))) (gD aA i7)) = N0 := by simpa using hN
      refine lZ (by kernel_rfl) ?_
      refine dA (l := [(0, (.msl 1 lo0p 0 (List.length (List.set (List.set aA (Int.toNat i7) (gD aA (wR (i7 - (1 : Int))))) (Int.toNat (wR (i7 - (1 : Int)))) (gD aA i7))))), (1, (eI a1)), (2, (eI b2)), (7, (eI i7)), (8, (eI j8))]) ⟨[(0, (.msl 1 lo0p 0 (List.length aA))), (1, (eI a1)), (2, (eI b2)), (7, (eI i7)), (8, (eI j8))], by kernel_rfl, rfl, ⟨aN.eq (by simp []), aN.refl _, aN.refl _, aN.refl _, aN.refl _, trivial⟩⟩ ?_
      refine aG (aF (?_))
      refine dU (fun T H => ∃ aA : List Int, Has T [(0, (.msl 1 lo0p 0 (List.length aA))), (1, (eI a1)), (2, (eI b2)), (7, (eI i7)), (8, (eI j8))] ∧ aL ⟨H0, [lo0p], []⟩ H [(lo0p, 1, List.map (eI) aA)] ∧ List.length aA = N0 ∧ cK aA a1 b2 i7 j8 = some out1) ?_ ?_
      · clear hO hN h1
        rintro T H ⟨aA, hT, hO, hN, h1⟩
        refine bC hT ?_
        clear hT
        unfold cK at h1
        refine aT aD 4 [] [(98, (aE (decide ((2 : Int) ≤ (wR (b2 - i7))))))] ?_
        refine bF h1 (fun h1 => ?_) (fun h1 => ?_)
        · refine aT aD 3 [98] [(10, (eI (wR (i7 + (1 : Int)))))] ?_
          refine bZ 6 ?_
          refine fA [(0, (.msl 1 lo0p 0 (List.length aA))), (1, (eI a1)), (2, (eI b2)), (7, (eI i7)), (8, (eI j8)), (10, (eI (wR (i7 + (1 : Int)))))] ?_
          refine dP (fun T H => ∃ aA : List Int, ∃ j10 : Int, Has T [(0, (.msl 1 lo0p 0 (List.length aA))), (1, (eI a1)), (2, (eI b2)), (7, (eI i7)), (8, (eI j8)), (10, (eI j10))] ∧ aL ⟨H0, [lo0p], []⟩ H [(lo0p, 1, List.map (eI) aA)] ∧ List.length aA = N0 ∧ fV aA a1 b2 i7 j8 j10 = some out1) ?_ ⟨aA, wR (i7 + (1 : Int)), .eq (by kernel_rfl), hO, hN, h1⟩
          clear hO hN h1
          rintro T H ⟨aA, j10, hT, hO, hN, h1⟩
          refine bC hT ?_
          clear hT
          unfold fV at h1
          obtain ⟨rr1, hl1, h1⟩ := aZ h1
          refine cP (by kernel_rfl) (fun (s : List Int × Int) T H => Has T [(0, (.msl 1 lo0p 0 (List.length s.1))), (1, (eI a1)), (2, (eI b2)), (7, (eI i7)), (8, (eI j8)), (10, (eI s.2))] ∧ aL ⟨H0, [lo0p], []⟩ H [(lo0p, 1, List.map (eI) s.1)] ∧ List.length s.1 = N0) hl1 ⟨.eq (by kernel_rfl), hO, hN⟩ ?_
          clear hO hN
          rintro k1 s out2 T H ⟨hT, hO, hN⟩ h2 ho1
          obtain ⟨aA, j10⟩ := s
          replace h2 : cR a1 b2 i7 j8 aA j10 = some out2 := h2
          try dsimp only at hT
          refine bC hT ?_
          clear hT
          unfold cR at h2
          refine aP ?_
          refine aT aD 3 [] [(103, (aE (decide (j10 < b2))))] ?_
          refine bF h2 (fun h2 => ?_) (fun h2 => ?_)
          · refine bG ?_
            refine bE [(0, (.msl 1 lo0p 0 (List.length aA))), (1, (eI a1)), (2, (eI b2)), (7, (eI i7)), (8, (eI j8)), (10, (eI j10))] ?_
            refine aP ?_
            refine bZ 7 ?_
            refine aP ?_
            refine aP ?_
            refine eD (eC [115]) aD 11 ?_
            obtain ⟨c10, h2⟩ := aR h2
            refine cB 3 [0 ≤ j10 ∧ j10 < (lN aA)] ⟨c10, trivial⟩ ?_
            refine fL 0 lo0p 1 (0 + Int.toNat j10) (eI (gD aA j10)) (eI (gD aA j10)) (List.map (eI) aA) hO (bY c10) ?_
            obtain ⟨c11, h2⟩ := aR h2
            refine cB 8 [0 ≤ (wR (j10 - (1 : Int))) ∧ (wR (j10 - (1 : Int))) < (lN aA)] ⟨c11, trivial⟩ ?_
            refine fL 0 lo0p 1 (0 + Int.toNat (wR (j10 - (1 : Int)))) (eI (gD aA (wR (j10 - (1 : Int))))) (eI (gD aA (wR (j10 - (1 : Int))))) (List.map (eI) aA) hO (bY c11) ?_
            obtain ⟨x12, hx13, h2⟩ := aZ h2
            refine DB (fF (gD aA j10) (gD aA (wR (j10 - (1 : Int)))) _ hx13) hO ?_
            intro H hO
            refine gH ?_
            refine bU [] [(116, (aE (!x12)))] ?_
            refine bF h2 (fun h2 => ?_) (fun h2 => ?_)
            · refine eK 6 ?_
              obtain rfl := oI h2
              obtain rfl : _ = rr1 := ho1
              replace h1 : dN aA a1 b2 i7 j8 = some out1 := h1
              exact aG (aS (uJ (by kernel_rfl) (aS (aS (bO (aY (aF (⟨rfl, _, _, .eq (by kernel_rfl), hO, hN, h1⟩))))))))
            refine bG ?_
            refine bE [(0, (.msl 1 lo0p 0 (List.length aA))), (1, (eI a1)), (2, (eI b2)), (7, (eI i7)), (8, (eI j8)), (10, (eI j10))] ?_
            refine eD (eC []) aD 18 ?_
            obtain ⟨c16, h2⟩ := aR h2
            refine cB 9 [0 ≤ (wR (j10 - (1 : Int))) ∧ (wR (j10 - (1 : Int))) < (lN aA)] ⟨c16, trivial⟩ ?_
            refine fL 0 lo0p 1 (0 + Int.toNat (wR (j10 - (1 : Int)))) (eI (gD aA (wR (j10 - (1 : Int))))) (eI (gD aA (wR (j10 - (1 : Int))))) (List.map (eI) aA) hO (bY c16) ?_
            obtain ⟨c17, h2⟩ := aR h2
            refine cB 13 [0 ≤ j10 ∧ j10 < (lN aA)] ⟨c17, trivial⟩ ?_
            refine fL 0 lo0p 1 (0 + Int.toNat j10) (eI (gD aA j10)) (eI (gD aA j10)) (List.map (eI) aA) hO (bY c17) ?_
            obtain ⟨c18, h2⟩ := aR h2
            refine cB 15 [0 ≤ j10 ∧ j10 < (lN aA)] ⟨c18, trivial⟩ ?_
            refine jN 0 lo0p 1 (0 + Int.toNat j10) (eI (gD aA j10)) (eI (gD aA (wR (j10 - (1 : Int))))) (List.map (eI) aA) [(lo0p, 1, List.map (eI) (List.set aA (Int.toNat j10) (gD aA (wR (j10 - (1 : Int))))))] hO (bY c18) (by simp only [List.set, gI]) ?_
            intro H hO
            replace hN : List.length (List.set aA (Int.toNat j10) (gD aA (wR (j10 - (1 : Int))))) = N0 := by simpa using hN
            obtain ⟨c19, h2⟩ := aR h2
            refine cB 17 [0 ≤ (wR (j10 - (1 : Int))) ∧ (wR (j10 - (1 : Int))) < (lN aA)] ⟨c19, trivial⟩ ?_
            refine jN 0 lo0p 1 (0 + Int.toNat (wR (j10 - (1 : Int)))) (eI (gD (List.set aA (Int.toNat j10) (gD aA (wR (j10 - (1 : Int))))) (wR (j10 - (1 : Int))))) (eI (gD aA j10)) (List.map (eI) (List.set aA (Int.toNat j10) (gD aA (wR (j10 - (1 : Int)))))) [(lo0p, 1, List.map (eI) (List.set (List.set aA (Int.toNat j10) (gD aA (wR (j10 - (1 : Int))))) (Int.toNat (wR (j10 - (1 : Int)))) (gD aA j10)))] hO (mW c19 (by simp [])) (by simp only [List.set, gI]) ?_
            intro H hO
            replace hN : List.length (List.set (List.set aA (Int.toNat j10) (gD aA (wR (j10 - (1 : Int))))) (Int.toNat (wR (j10 - (1 : Int)))) (gD aA j10)) = N0 := by simpa using hN
            refine lZ (by kernel_rfl) ?_
            refine dA (l := [(0, (.msl 1 lo0p 0 (List.length (List.set (List.set aA (Int.toNat j10) (gD aA (wR (j10 - (1 : Int))))) (Int.toNat (wR (j10 - (1 : Int)))) (gD aA j10))))), (1, (eI a1)), (2, (eI b2)), (7, (eI i7)), (8, (eI j8)), (10, (eI j10))]) ⟨[(0, (.msl 1 lo0p 0 (List.length aA))), (1, (eI a1)), (2, (eI b2)), (7, (eI i7)), (8, (eI j8)), (10, (eI j10))], by kernel_rfl, rfl, ⟨aN.eq (by simp []), aN.refl _, aN.refl _, aN.refl _, aN.refl _, aN.refl _, trivial⟩⟩ ?_
            refine aG (aY (aF (?_)))
            refine aW aD 3 ?_
            refine bD ?_
            exact aG (aF (⟨rfl, _, (oI h2).symm, .eq (by kernel_rfl), hO, hN⟩))
          refine eK 6 ?_
          obtain rfl := oI h2
          obtain rfl : _ = rr1 := ho1
          replace h1 : dN aA a1 b2 i7 j8 = some out1 := h1
          exact aG (aS (aS (bO (aY (aF (⟨rfl, _, _, .eq (by kernel_rfl), hO, hN, h1⟩))))))
        refine bG ?_
        exact aG (aY (aF (⟨rfl, _, _, .eq (by kernel_rfl), hO, hN, h1⟩)))
      refine aT aD 4 [] [(61, (aE (decide ((2 : Int) ≤ (wR (i7 - a1))))))] ?_
      refine bF h1 (fun h1 => ?_) (fun h1 => ?_)
      · refine aT aD 3 [61] [(9, (eI (wR (i7 - (1 : Int)))))] ?_
        refine bZ 4 ?_
        refine fA [(0, (.msl 1 lo0p 0 (List.length (List.set (List.set aA (Int.toNat i7) (gD aA (wR (i7 - (1 : Int))))) (Int.toNat (wR (i7 - (1 : Int)))) (gD aA i7))))), (1, (eI a1)), (2, (eI b2)), (7, (eI i7)), (8, (eI j8)), (9, (eI (wR (i7 - (1 : Int)))))] ?_
        refine dP (fun T H => ∃ aA : List Int, ∃ j9 : Int, Has T [(0, (.msl 1 lo0p 0 (List.length aA))), (1, (eI a1)), (2, (eI b2)), (7, (eI i7)), (8, (eI j8)), (9, (eI j9))] ∧ aL ⟨H0, [lo0p], []⟩ H [(lo0p, 1, List.map (eI) aA)] ∧ List.length aA = N0 ∧ fY aA a1 b2 i7 j8 j9 = some out1) ?_ ⟨List.set (List.set aA (Int.toNat i7) (gD aA (wR (i7 - (1 : Int))))) (Int.toNat (wR (i7 - (1 : Int)))) (gD aA i7), wR (i7 - (1 : Int)), .eq (by kernel_rfl), hO, hN, h1⟩
        clear hO hN h1
        rintro T H ⟨aA, j9, hT, hO, hN, h1⟩
        refine bC hT ?_
        clear hT
        unfold fY at h1
        obtain ⟨rr1, hl1, h1⟩ := aZ h1
        refine cP (by kernel_rfl) (fun (s : List Int × Int) T H => Has T [(0, (.msl 1 lo0p 0 (List.length s.1))), (1, (eI a1)), (2, (eI b2)), (7, (eI i7)), (8, (eI j8)), (9, (eI s.2))] ∧ aL ⟨H0, [lo0p], []⟩ H [(lo0p, 1, List.map (eI) s.1)] ∧ List.length s.1 = N0) hl1 ⟨.eq (by kernel_rfl), hO, hN⟩ ?_
        clear hO hN
        rintro k1 s out2 T H ⟨hT, hO, hN⟩ h2 ho1
        obtain ⟨aA, j9⟩ := s
        replace h2 : cL a1 b2 i7 j8 aA j9 = some out2 := h2
        try dsimp only at hT
        refine bC hT ?_
        clear hT
        unfold cL at h2
        refine aP ?_
        refine aT aD 2 [] [(65, (aE (decide ((1 : Int) ≤ j9))))] ?_
        refine bF h2 (fun h2 => ?_) (fun h2 => ?_)
        · refine bG ?_
          refine bE [(0, (.msl 1 lo0p 0 (List.length aA))), (1, (eI a1)), (2, (eI b2)), (7, (eI i7)), (8, (eI j8)), (9, (eI j9))] ?_
          refine aP ?_
          refine bZ 5 ?_
          refine aP ?_
          refine aP ?_
          refine eD (eC [77]) aD 11 ?_
          obtain ⟨c22, h2⟩ := aR h2
          refine cB 3 [0 ≤ j9 ∧ j9 < (lN aA)] ⟨c22, trivial⟩ ?_
          refine fL 0 lo0p 1 (0 + Int.toNat j9) (eI (gD aA j9)) (eI (gD aA j9)) (List.map (eI) aA) hO (bY c22) ?_
          obtain ⟨c23, h2⟩ := aR h2
          refine cB 8 [0 ≤ (wR (j9 - (1 : Int))) ∧ (wR (j9 - (1 : Int))) < (lN aA)] ⟨c23, trivial⟩ ?_
          refine fL 0 lo0p 1 (0 + Int.toNat (wR (j9 - (1 : Int)))) (eI (gD aA (wR (j9 - (1 : Int))))) (eI (gD aA (wR (j9 - (1 : Int))))) (List.map (eI) aA) hO (bY c23) ?_
          obtain ⟨x24, hx25, h2⟩ := aZ h2
          refine DB (fF (gD aA j9) (gD aA (wR (j9 - (1 : Int)))) _ hx25) hO ?_
          intro H hO
          refine gH ?_
          refine bU [] [(78, (aE (!x24)))] ?_
          refine bF h2 (fun h2 => ?_) (fun h2 => ?_)
          · refine eK 4 ?_
            obtain rfl := oI h2
            obtain rfl : _ = rr1 := ho1
            replace h1 : cK aA a1 b2 i7 j8 = some out1 := h1
            exact aG (aS (uJ (by kernel_rfl) (aS (aS (bO (aF (⟨rfl, _, .eq (by kernel_rfl), hO, hN, h1⟩)))))))
          refine bG ?_
          refine bE [(0, (.msl 1 lo0p 0 (List.length aA))), (1, (eI a1)), (2, (eI b2)), (7, (eI i7)), (8, (eI j8)), (9, (eI j9))] ?_
          refine eD (eC []) aD 18 ?_
          obtain ⟨c28, h2⟩ := aR h2
          refine cB 9 [0 ≤ (wR (j9 - (1 : Int))) ∧ (wR (j9 - (1 : Int))) < (lN aA)] ⟨c28, trivial⟩ ?_
          refine fL 0 lo0p 1 (0 + Int.toNat (wR (j9 - (1 : Int)))) (eI (gD aA (wR (j9 - (1 : Int))))) (eI (gD aA (wR (j9 - (1 : Int))))) (List.map (eI) aA) hO (bY c28) ?_
          obtain ⟨c29, h2⟩ := aR h2
          refine cB 13 [0 ≤ j9 ∧ j9 < (lN aA)] ⟨c29, trivial⟩ ?_
          refine fL 0 lo0p 1 (0 + Int.toNat j9) (eI (gD aA j9)) (eI (gD aA j9)) (List.map (eI) aA) hO (bY c29) ?_
          obtain ⟨c30, h2⟩ := aR h2
          refine cB 15 [0 ≤ j9 ∧ j9 < (lN aA)] ⟨c30, trivial⟩ ?_
          refine jN 0 lo0p 1 (0 + Int.toNat j9) (eI (gD aA j9)) (eI (gD aA (wR (j9 - (1 : Int))))) (List.map (eI) aA) [(lo0p, 1, List.map (eI) (List.set aA (Int.toNat j9) (gD aA (wR (j9 - (1 : Int))))))] hO (bY c30) (by simp only [List.set, gI]) ?_
          intro H hO
          replace hN : List.length (List.set aA (Int.toNat j9) (gD aA (wR (j9 - (1 : Int))))) = N0 := by simpa using hN
          obtain ⟨c31, h2⟩ := aR h2
          refine cB 17 [0 ≤ (wR (j9 - (1 : Int))) ∧ (wR (j9 - (1 : Int))) < (lN aA)] ⟨c31, trivial⟩ ?_
          refine jN 0 lo0p 1 (0 + Int.toNat (wR (j9 - (1 : Int)))) (eI (gD (List.set aA (Int.toNat j9) (gD aA (wR (j9 - (1 : Int))))) (wR (j9 - (1 : Int))))) (eI (gD aA j9)) (List.map (eI) (List.set aA (Int.toNat j9) (gD aA (wR (j9 - (1 : Int)))))) [(lo0p, 1, List.map (eI) (List.set (List.set aA (Int.toNat j9) (gD aA (wR (j9 - (1 : Int))))) (Int.toNat (wR (j9 - (1 : Int)))) (gD aA j9)))] hO (mW c31 (by simp [])) (by simp only [List.set, gI]) ?_
          intro H hO
          replace hN : List.length (List.set (List.set aA (Int.toNat j9) (gD aA (wR (j9 - (1 : Int))))) (Int.toNat (wR (j9 - (1 : Int)))) (gD aA j9)) = N0 := by simpa using hN
          refine lZ (by kernel_rfl) ?_
          refine dA (l := [(0, (.msl 1 lo0p 0 (List.length (List.set (List.set aA (Int.toNat j9) (gD aA (wR (j9 - (1 : Int))))) (Int.toNat (wR (j9 - (1 : Int)))) (gD aA j9))))), (1, (eI a1)), (2, (eI b2)), (7, (eI i7)), (8, (eI j8)), (9, (eI j9))]) ⟨[(0, (.msl 1 lo0p 0 (List.length aA))), (1, (eI a1)), (2, (eI b2)), (7, (eI i7)), (8, (eI j8)), (9, (eI j9))], by kernel_rfl, rfl, ⟨aN.eq (by simp []), aN.refl _, aN.refl _, aN.refl _, aN.refl _, aN.refl _, trivial⟩⟩ ?_
          refine aG (aY (aF (?_)))
          refine aW aD 3 ?_
          refine bD ?_
          exact aG (aF (⟨rfl, _, (oI h2).symm, .eq (by kernel_rfl), hO, hN⟩))
        refine eK 4 ?_
        obtain rfl := oI h2
        obtain rfl : _ = rr1 := ho1
        replace h1 : cK aA a1 b2 i7 j8 = some out1 := h1
        exact aG (aS (aS (bO (aF (⟨rfl, _, .eq (by kernel_rfl), hO, hN, h1⟩)))))
      refine bG ?_
      exact aG (aF (⟨rfl, _, .eq (by kernel_rfl), hO, hN, h1⟩))
    refine bZ 2 ?_
    refine fA [(0, (.msl 1 lo0p 0 (List.length aA))), (1, (eI a1)), (2, (eI b2)), (7, (eI i7)), (8, (eI j8))] ?_
    refine dP (fun T H => ∃ aA : List Int, ∃ i7 : Int, Has T [(0, (.msl 1 lo0p 0 (List.length aA))), (1, (eI a1)), (2, (eI b2)), (7, (eI i7)), (8, (eI j8))] ∧ aL ⟨H0, [lo0p], []⟩ H [(lo0p, 1, List.map (eI) aA)] ∧ List.length aA = N0 ∧ dD aA a1 b2 i7 j8 = some out1) ?_ ⟨aA, i7, .eq (by kernel_rfl), hO, hN, h1⟩
    clear hO hN h1
    rintro T H ⟨aA, i7, hT, hO, hN, h1⟩
    refine bC hT ?_
    clear hT
    unfold dD at h1
    obtain ⟨rr1, hl1, h1⟩ := aZ h1
    refine cP (by kernel_rfl) (fun (s : List Int × Int) T H => Has T [(0, (.msl 1 lo0p 0 (List.length s.1))), (1, (eI a1)), (2, (eI b2)), (7, (eI s.2)), (8, (eI j8))] ∧ aL ⟨H0, [lo0p], []⟩ H [(lo0p, 1, List.map (eI) s.1)] ∧ List.length s.1 = N0) hl1 ⟨.eq (by kernel_rfl), hO, hN⟩ ?_
    clear hO hN
    rintro k1 s out2 T H ⟨hT, hO, hN⟩ h2 ho1
    obtain ⟨aA, i7⟩ := s
    replace h2 : cS a1 b2 j8 aA i7 = some out2 := h2
    try dsimp only at hT
    refine bC hT ?_
    clear hT
    unfold cS at h2
    refine aP ?_
    refine aP ?_
    obtain ⟨c32, h2⟩ := aR h2
    obtain ⟨c33, h2⟩ := aR h2
    obtain ⟨x34, hx35, h2⟩ := aZ h2
    refine eD (eC []) aD 16 ?_
    refine lT (K := fun T H => Has (lift T) [(0, (.msl 1 lo0p 0 (List.length aA))), (1, (eI a1)), (2, (eI b2)), (7, (eI i7)), (8, (eI j8)), (32, (aE ((decide (i7 < b2)) && (!x34))))] ∧ aL ⟨H0, [lo0p], []⟩ H [(lo0p, 1, List.map (eI) aA)]) ?_ ?_
    · refine kQ 4 ?_
      refine jR (t := 20) (e := decide (i7 < b2)) (by kernel_rfl) (fun hg36 => ?_) (fun hg36 => ?_)
      · refine cB 7 [0 ≤ i7 ∧ i7 < (lN aA)] ⟨(c32 hg36), trivial⟩ ?_
        refine iA 0 lo0p 1 (0 + Int.toNat i7) (eI (gD aA i7)) (eI (gD aA i7)) (List.map (eI) aA) (by kernel_rfl) (by kernel_rfl) (by kernel_rfl) hO (by kernel_rfl) (bY (c32 hg36)) ?_
        refine cB 12 [0 ≤ (wR (i7 - (1 : Int))) ∧ (wR (i7 - (1 : Int))) < (lN aA)] ⟨(c33 hg36), trivial⟩ ?_
        refine iA 0 lo0p 1 (0 + Int.toNat (wR (i7 - (1 : Int)))) (eI (gD aA (wR (i7 - (1 : Int))))) (eI (gD aA (wR (i7 - (1 : Int))))) (List.map (eI) aA) (by kernel_rfl) (by kernel_rfl) (by kernel_rfl) hO (by kernel_rfl) (bY (c33 hg36)) ?_
        refine lM 70 [(eI (gD aA i7)), (eI (gD aA (wR (i7 - (1 : Int)))))] (aE x34) (by kernel_rfl) (by kernel_rfl) (fF (gD aA i7) (gD aA (wR (i7 - (1 : Int)))) _ (iV hx35 hg36)) hO ?_
        intro H hO
        refine gH ?_
        exact ⟨⟨[(0, (.msl 1 lo0p 0 (List.length aA))), (1, (eI a1)), (2, (eI b2)), (7, (eI i7)), (8, (eI j8)), (32, (aE (!x34)))], by kernel_rfl, rfl, ⟨aN.refl _, aN.refl _, aN.refl _, aN.refl _, aN.refl _, aN.eq (congrArg aE (fW hg36 rfl).symm), trivial⟩⟩, hO⟩
      refine gH ?_
      exact ⟨⟨[(0, (.msl 1 lo0p 0 (List.length aA))), (1, (eI a1)), (2, (eI b2)), (7, (eI i7)), (8, (eI j8)), (32, (aE false))], by kernel_rfl, rfl, ⟨aN.refl _, aN.refl _, aN.refl _, aN.refl _, aN.refl _, aN.eq (congrArg aE (fW hg36 rfl).symm), trivial⟩⟩, hO⟩
    · rintro T H ⟨hT, hO⟩
      refine dA hT ?_
      clear hT
      refine aG (aF ?_)
      refine bF h2 (fun h2 => ?_) (fun h2 => ?_)
      · refine bG ?_
        refine bE [(0, (.msl 1 lo0p 0 (List.length aA))), (1, (eI a1)), (2, (eI b2)), (7, (eI i7)), (8, (eI j8))] ?_
        refine bZ 3 ?_
        refine aW aD 3 ?_
        refine bD ?_
        exact aG (aY (aF (⟨rfl, _, (oI h2).symm, .eq (by kernel_rfl), hO, hN⟩)))
      refine eK 2 ?_
      obtain rfl := oI h2
      obtain rfl : _ = rr1 := ho1
      replace h1 : eH aA a1 b2 i7 j8 = some out1 := h1
      exact aG (aS (aS (bO (aF (⟨rfl, _, _, .eq (by kernel_rfl), hO, hN, h1⟩)))))
  refine eK 0 ?_
  obtain rfl := oI h1
  obtain rfl : _ = rr0 := ho0
  replace h0 : eJ aA = some r := h0
  exact aG (aS (aS (bO (aF (⟨rfl, _, .eq (by kernel_rfl), hO, hN, h0⟩)))))

end Go.Abs
