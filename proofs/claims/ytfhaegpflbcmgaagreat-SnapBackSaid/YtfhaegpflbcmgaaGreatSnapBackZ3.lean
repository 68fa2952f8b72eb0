/- What the law SnapBack stands on: the framework, the given functions as plain functions, their walks, and the plain laws; part 3. -/
import Derived.Test.YtfhaegpflbcmgaaGreatSnapBackZ2
set_option linter.unusedSimpArgs false
set_option linter.unusedVariables false
namespace Go.Abs
open Go
noncomputable def lR (aA : (List Int)) (a1 : Int) (b2 : Int) : Option (List Int) :=
  bA ((2 : Int) ≠ 0) <|
  nW aA a1 (0 : Int) (IntKind.i64.wrap (b2 - a1)) (IntKind.i64.wrap (Int.tdiv (IntKind.i64.wrap ((IntKind.i64.wrap (b2 - a1)) - (1 : Int))) (2 : Int)))

noncomputable def pM (II : Int) : Option Int :=
  (nJ (IntKind.u64.wrap II)).bind fun x1 =>
  bA (0 ≤ x1) <|
  some (IntKind.u64.wrap ((1 : Int) * 2 ^ (min (Int.toNat x1) 64)))

noncomputable def qI (r0 : Int) : Option (Int × Int) :=
  bA (0 ≤ (13 : Int)) <|
  bA (0 ≤ (7 : Int)) <|
  bA (0 ≤ (17 : Int)) <|
  some (bR .xor .u64 (bR .xor .u64 (bR .xor .u64 r0 (IntKind.u64.wrap (r0 * 2 ^ (min (Int.toNat (13 : Int)) 64)))) (Int.fdiv (bR .xor .u64 r0 (IntKind.u64.wrap (r0 * 2 ^ (min (Int.toNat (13 : Int)) 64)))) (2 ^ (min (Int.toNat (7 : Int)) 64)))) (IntKind.u64.wrap ((bR .xor .u64 (bR .xor .u64 r0 (IntKind.u64.wrap (r0 * 2 ^ (min (Int.toNat (13 : Int)) 64)))) (Int.fdiv (bR .xor .u64 r0 (IntKind.u64.wrap (r0 * 2 ^ (min (Int.toNat (13 : Int)) 64)))) (2 ^ (min (Int.toNat (7 : Int)) 64)))) * 2 ^ (min (Int.toNat (17 : Int)) 64))), bR .xor .u64 (bR .xor .u64 (bR .xor .u64 r0 (IntKind.u64.wrap (r0 * 2 ^ (min (Int.toNat (13 : Int)) 64)))) (Int.fdiv (bR .xor .u64 r0 (IntKind.u64.wrap (r0 * 2 ^ (min (Int.toNat (13 : Int)) 64)))) (2 ^ (min (Int.toNat (7 : Int)) 64)))) (IntKind.u64.wrap ((bR .xor .u64 (bR .xor .u64 r0 (IntKind.u64.wrap (r0 * 2 ^ (min (Int.toNat (13 : Int)) 64)))) (Int.fdiv (bR .xor .u64 r0 (IntKind.u64.wrap (r0 * 2 ^ (min (Int.toNat (13 : Int)) 64)))) (2 ^ (min (Int.toNat (7 : Int)) 64)))) * 2 ^ (min (Int.toNat (17 : Int)) 64))))

noncomputable def fM (aA : List Int) (a1 : Int) (mZ : Int) (qF : Int) (kC : Int) (idx9 : Int) (gG : Int) : Option ((List Int × Int × Int) ⊕ ((List Int))) :=
  bA (0 ≤ (IntKind.i64.wrap (a1 + gG)) ∧ (IntKind.i64.wrap (a1 + gG)) < ((List.length aA : Nat) : Int)) <|
  bA (0 ≤ idx9 ∧ idx9 < ((List.length aA : Nat) : Int)) <|
  bA (0 ≤ idx9 ∧ idx9 < ((List.length aA : Nat) : Int)) <|
  bA (0 ≤ (IntKind.i64.wrap (a1 + gG)) ∧ (IntKind.i64.wrap (a1 + gG)) < ((List.length aA : Nat) : Int)) <|
  some (.inl (List.set (List.set aA (Int.toNat idx9) (List.getD aA (Int.toNat (IntKind.i64.wrap (a1 + gG))) default)) (Int.toNat (IntKind.i64.wrap (a1 + gG))) (List.getD aA (Int.toNat idx9) default), qF, IntKind.i64.wrap (idx9 + (1 : Int))))

noncomputable def dF (a1 : Int) (mZ : Int) (kC : Int) (aA : List Int) (qF : Int) (idx9 : Int) : Option ((List Int × Int × Int) ⊕ ((List Int))) :=
  bA ((4 : Int) ≠ 0) <|
  cond (decide (idx9 ≤ (IntKind.i64.wrap ((IntKind.i64.wrap (a1 + (IntKind.i64.wrap ((IntKind.i64.wrap (Int.tdiv mZ (4 : Int))) * (2 : Int))))) + (1 : Int)))))
  ((qI qF).bind fun x9 =>
  cond (decide (mZ ≤ (IntKind.i64.wrap (bR .and .u64 x9.1 (IntKind.u64.wrap (kC - (1 : Int)))))))
  (fM aA a1 mZ x9.2 kC idx9 (IntKind.i64.wrap ((IntKind.i64.wrap (bR .and .u64 x9.1 (IntKind.u64.wrap (kC - (1 : Int))))) - mZ)))
  (fM aA a1 mZ x9.2 kC idx9 (IntKind.i64.wrap (bR .and .u64 x9.1 (IntKind.u64.wrap (kC - (1 : Int)))))))
  (some (.inr aA))

noncomputable def lK (aA : List Int) (a1 : Int) (mZ : Int) (qF : Int) (kC : Int) (idx9 : Int) : Option (List Int) :=
  (lp (fun s => dF a1 mZ kC s.1 s.2.1 s.2.2) (aA, qF, idx9)).bind (fun rr => some rr)

noncomputable def iL (aA : (List Int)) (a1 : Int) (b2 : Int) : Option (List Int) :=
  cond (decide ((8 : Int) ≤ (IntKind.i64.wrap (b2 - a1))))
  ((pM (IntKind.i64.wrap (b2 - a1))).bind fun x3 =>
  bA ((4 : Int) ≠ 0) <|
  lK aA a1 (IntKind.i64.wrap (b2 - a1)) (IntKind.u64.wrap (IntKind.i64.wrap (b2 - a1))) x3 (IntKind.i64.wrap ((IntKind.i64.wrap (a1 + (IntKind.i64.wrap ((IntKind.i64.wrap (Int.tdiv (IntKind.i64.wrap (b2 - a1)) (4 : Int))) * (2 : Int))))) - (1 : Int))))
  (some aA)

noncomputable def gS (aA : (List Int)) (a1 : Int) (b2 : Int) (xD : Int) : Option ((Int × Int) × Int) :=
  bA (0 ≤ b2 ∧ b2 < ((List.length aA : Nat) : Int)) <|
  bA (0 ≤ a1 ∧ a1 < ((List.length aA : Nat) : Int)) <|
  (dQ (List.getD aA (Int.toNat b2) default) (List.getD aA (Int.toNat a1) default)).bind fun x3 =>
  cond x3
  (some ((b2, a1), IntKind.i64.wrap (xD + (1 : Int))))
  (some ((a1, b2), xD))

noncomputable def jU (aA : (List Int)) (a1 : Int) (b2 : Int) (c3 : Int) (LG : Int) : Option (Int × Int) :=
  (gS aA a1 b2 LG).bind fun x1 =>
  (gS aA x1.1.2 c3 x1.2).bind fun x6 =>
  (gS aA x1.1.1 x6.1.1 x6.2).bind fun x11 =>
  some (x11.1.2, x11.2)

noncomputable def eK (aA : (List Int)) (a1 : Int) (MD : Int) : Option (Int × Int) :=
  (jU aA (IntKind.i64.wrap (a1 - (1 : Int))) a1 (IntKind.i64.wrap (a1 + (1 : Int))) MD).bind fun x1 =>
  some (x1.1, x1.2)

noncomputable def fW (aA : List Int) (rF : Int) (j11 : Int) : Option (Int × Int) :=
  cond (decide (rF = (0 : Int)))
  (some (j11, (1 : Int)))
  (cond (decide (rF = (12 : Int)))
  (some (j11, (2 : Int)))
  (some (j11, (0 : Int))))

noncomputable def fX (aA : List Int) (rF : Int) (i10 : Int) (j11 : Int) (k12 : Int) : Option (Int × Int) :=
  (jU aA i10 j11 k12 rF).bind fun x8 =>
  fW aA x8.2 x8.1

noncomputable def jK (aA : (List Int)) (a1 : Int) (b2 : Int) : Option (Int × Int) :=
  bA ((4 : Int) ≠ 0) <|
  bA ((4 : Int) ≠ 0) <|
  bA ((4 : Int) ≠ 0) <|
  cond (decide ((8 : Int) ≤ (IntKind.i64.wrap (b2 - a1))))
  (cond (decide ((50 : Int) ≤ (IntKind.i64.wrap (b2 - a1))))
  ((eK aA (IntKind.i64.wrap (a1 + (IntKind.i64.wrap ((IntKind.i64.wrap (Int.tdiv (IntKind.i64.wrap (b2 - a1)) (4 : Int))) * (1 : Int))))) 0).bind fun x14 =>
  (eK aA (IntKind.i64.wrap (a1 + (IntKind.i64.wrap ((IntKind.i64.wrap (Int.tdiv (IntKind.i64.wrap (b2 - a1)) (4 : Int))) * (2 : Int))))) x14.2).bind fun x19 =>
  (eK aA (IntKind.i64.wrap (a1 + (IntKind.i64.wrap ((IntKind.i64.wrap (Int.tdiv (IntKind.i64.wrap (b2 - a1)) (4 : Int))) * (3 : Int))))) x19.2).bind fun x24 =>
  fX aA x24.2 x14.1 x19.1 x24.1)
  (fX aA 0 (IntKind.i64.wrap (a1 + (IntKind.i64.wrap ((IntKind.i64.wrap (Int.tdiv (IntKind.i64.wrap (b2 - a1)) (4 : Int))) * (1 : Int))))) (IntKind.i64.wrap (a1 + (IntKind.i64.wrap ((IntKind.i64.wrap (Int.tdiv (IntKind.i64.wrap (b2 - a1)) (4 : Int))) * (2 : Int))))) (IntKind.i64.wrap (a1 + (IntKind.i64.wrap ((IntKind.i64.wrap (Int.tdiv (IntKind.i64.wrap (b2 - a1)) (4 : Int))) * (3 : Int)))))))
  (fW aA 0 (IntKind.i64.wrap (a1 + (IntKind.i64.wrap ((IntKind.i64.wrap (Int.tdiv (IntKind.i64.wrap (b2 - a1)) (4 : Int))) * (2 : Int))))))

noncomputable def dX  (aA : List Int) (i6 : Int) (j7 : Int) : Option ((List Int × Int × Int) ⊕ ((List Int))) :=
  cond (decide (i6 < j7))
  (bA (0 ≤ j7 ∧ j7 < ((List.length aA : Nat) : Int)) <|
  bA (0 ≤ i6 ∧ i6 < ((List.length aA : Nat) : Int)) <|
  bA (0 ≤ i6 ∧ i6 < ((List.length aA : Nat) : Int)) <|
  bA (0 ≤ j7 ∧ j7 < ((List.length aA : Nat) : Int)) <|
  some (.inl (List.set (List.set aA (Int.toNat i6) (List.getD aA (Int.toNat j7) default)) (Int.toNat j7) (List.getD aA (Int.toNat i6) default), IntKind.i64.wrap (i6 + (1 : Int)), IntKind.i64.wrap (j7 - (1 : Int)))))
  (some (.inr aA))

noncomputable def lS (aA : List Int) (i6 : Int) (j7 : Int) : Option (List Int) :=
  (lp (fun s => dX s.1 s.2.1 s.2.2) (aA, i6, j7)).bind (fun rr => some rr)

noncomputable def jB (aA : (List Int)) (a1 : Int) (b2 : Int) : Option (List Int) :=
  lS aA a1 (IntKind.i64.wrap (b2 - (1 : Int)))

noncomputable def fB (aA : List Int) : Option (Bool × List Int) :=
  some (false, aA)

noncomputable def dZ (aA : List Int) (a1 : Int) (b2 : Int) (i7 : Int) (j8 : Int) : Option ((List Int × Int × Int) ⊕ ((List Int) ⊕ (Bool × (List Int)))) :=
  some (.inl (aA, i7, IntKind.i64.wrap (j8 + (1 : Int))))

noncomputable def cT (a1 : Int) (b2 : Int) (i7 : Int) (j8 : Int) (aA : List Int) (j10 : Int) : Option ((List Int × Int) ⊕ ((List Int))) :=
  cond (decide (j10 < b2))
  (bA (0 ≤ j10 ∧ j10 < ((List.length aA : Nat) : Int)) <|
  bA (0 ≤ (IntKind.i64.wrap (j10 - (1 : Int))) ∧ (IntKind.i64.wrap (j10 - (1 : Int))) < ((List.length aA : Nat) : Int)) <|
  (dQ (List.getD aA (Int.toNat j10) default) (List.getD aA (Int.toNat (IntKind.i64.wrap (j10 - (1 : Int)))) default)).bind fun x12 =>
  cond (!x12)
  (some (.inr aA))
  (bA (0 ≤ (IntKind.i64.wrap (j10 - (1 : Int))) ∧ (IntKind.i64.wrap (j10 - (1 : Int))) < ((List.length aA : Nat) : Int)) <|
  bA (0 ≤ j10 ∧ j10 < ((List.length aA : Nat) : Int)) <|
  bA (0 ≤ j10 ∧ j10 < ((List.length aA : Nat) : Int)) <|
  bA (0 ≤ (IntKind.i64.wrap (j10 - (1 : Int))) ∧ (IntKind.i64.wrap (j10 - (1 : Int))) < ((List.length aA : Nat) : Int)) <|
  some (.inl (List.set (List.set aA (Int.toNat j10) (List.getD aA (Int.toNat (IntKind.i64.wrap (j10 - (1 : Int)))) default)) (Int.toNat (IntKind.i64.wrap (j10 - (1 : Int)))) (List.getD aA (Int.toNat j10) default), IntKind.i64.wrap (j10 + (1 : Int))))))
  (some (.inr aA))

noncomputable def gW (aA : List Int) (a1 : Int) (b2 : Int) (i7 : Int) (j8 : Int) (j10 : Int) : Option ((List Int × Int × Int) ⊕ ((List Int) ⊕ (Bool × (List Int)))) :=
  (lp (fun s => cT a1 b2 i7 j8 s.1 s.2) (aA, j10)).bind (fun rr => dZ rr a1 b2 i7 j8)

noncomputable def cL (aA : List Int) (a1 : Int) (b2 : Int) (i7 : Int) (j8 : Int) : Option ((List Int × Int × Int) ⊕ ((List Int) ⊕ (Bool × (List Int)))) :=
  cond (decide ((2 : Int) ≤ (IntKind.i64.wrap (b2 - i7))))
  (gW aA a1 b2 i7 j8 (IntKind.i64.wrap (i7 + (1 : Int))))
  (dZ aA a1 b2 i7 j8)

noncomputable def cK (a1 : Int) (b2 : Int) (i7 : Int) (j8 : Int) (aA : List Int) (j9 : Int) : Option ((List Int × Int) ⊕ ((List Int))) :=
  cond (decide ((1 : Int) ≤ j9))
  (bA (0 ≤ j9 ∧ j9 < ((List.length aA : Nat) : Int)) <|
  bA (0 ≤ (IntKind.i64.wrap (j9 - (1 : Int))) ∧ (IntKind.i64.wrap (j9 - (1 : Int))) < ((List.length aA : Nat) : Int)) <|
  (dQ (List.getD aA (Int.toNat j9) default) (List.getD aA (Int.toNat (IntKind.i64.wrap (j9 - (1 : Int)))) default)).bind fun x24 =>
  cond (!x24)
  (some (.inr aA))
  (bA (0 ≤ (IntKind.i64.wrap (j9 - (1 : Int))) ∧ (IntKind.i64.wrap (j9 - (1 : Int))) < ((List.length aA : Nat) : Int)) <|
  bA (0 ≤ j9 ∧ j9 < ((List.length aA : Nat) : Int)) <|
  bA (0 ≤ j9 ∧ j9 < ((List.length aA : Nat) : Int)) <|
  bA (0 ≤ (IntKind.i64.wrap (j9 - (1 : Int))) ∧ (IntKind.i64.wrap (j9 - (1 : Int))) < ((List.length aA : Nat) : Int)) <|
  some (.inl (List.set (List.set aA (Int.toNat j9) (List.getD aA (Int.toNat (IntKind.i64.wrap (j9 - (1 : Int)))) default)) (Int.toNat (IntKind.i64.wrap (j9 - (1 : Int)))) (List.getD aA (Int.toNat j9) default), IntKind.i64.wrap (j9 - (1 : Int))))))
  (some (.inr aA))

noncomputable def gX (aA : List Int) (a1 : Int) (b2 : Int) (i7 : Int) (j8 : Int) (j9 : Int) : Option ((List Int × Int × Int) ⊕ ((List Int) ⊕ (Bool × (List Int)))) :=
  (lp (fun s => cK a1 b2 i7 j8 s.1 s.2) (aA, j9)).bind (fun rr => cL rr a1 b2 i7 j8)

noncomputable def fE (aA : List Int) (a1 : Int) (b2 : Int) (i7 : Int) (j8 : Int) : Option ((List Int × Int × Int) ⊕ ((List Int) ⊕ (Bool × (List Int)))) :=
  cond (decide (i7 = b2))
  (some (.inr (.inr (true, aA))))
  (cond (decide ((IntKind.i64.wrap (b2 - a1)) < (50 : Int)))
  (some (.inr (.inr (false, aA))))
  (bA (0 ≤ (IntKind.i64.wrap (i7 - (1 : Int))) ∧ (IntKind.i64.wrap (i7 - (1 : Int))) < ((List.length aA : Nat) : Int)) <|
  bA (0 ≤ i7 ∧ i7 < ((List.length aA : Nat) : Int)) <|
  bA (0 ≤ i7 ∧ i7 < ((List.length aA : Nat) : Int)) <|
  bA (0 ≤ (IntKind.i64.wrap (i7 - (1 : Int))) ∧ (IntKind.i64.wrap (i7 - (1 : Int))) < ((List.length aA : Nat) : Int)) <|
  cond (decide ((2 : Int) ≤ (IntKind.i64.wrap (i7 - a1))))
  (gX (List.set (List.set aA (Int.toNat i7) (List.getD aA (Int.toNat (IntKind.i64.wrap (i7 - (1 : Int)))) default)) (Int.toNat (IntKind.i64.wrap (i7 - (1 : Int)))) (List.getD aA (Int.toNat i7) default)) a1 b2 i7 j8 (IntKind.i64.wrap (i7 - (1 : Int))))
  (cL (List.set (List.set aA (Int.toNat i7) (List.getD aA (Int.toNat (IntKind.i64.wrap (i7 - (1 : Int)))) default)) (Int.toNat (IntKind.i64.wrap (i7 - (1 : Int)))) (List.getD aA (Int.toNat i7) default)) a1 b2 i7 j8)))

noncomputable def cS (a1 : Int) (b2 : Int) (j8 : Int) (aA : List Int) (i7 : Int) : Option ((List Int × Int) ⊕ ((List Int × Int))) :=
  bA ((((decide (i7 < b2))) = true → 0 ≤ i7 ∧ i7 < ((List.length aA : Nat) : Int))) <|
  bA ((((decide (i7 < b2))) = true → 0 ≤ (IntKind.i64.wrap (i7 - (1 : Int))) ∧ (IntKind.i64.wrap (i7 - (1 : Int))) < ((List.length aA : Nat) : Int))) <|
  (eD (decide (i7 < b2)) (dQ (List.getD aA (Int.toNat i7) default) (List.getD aA (Int.toNat (IntKind.i64.wrap (i7 - (1 : Int)))) default))).bind fun x34 =>
  cond ((decide (i7 < b2)) && (!x34))
  (some (.inl (aA, IntKind.i64.wrap (i7 + (1 : Int)))))
  (some (.inr (aA, i7)))

noncomputable def dJ (aA : List Int) (a1 : Int) (b2 : Int) (i7 : Int) (j8 : Int) : Option ((List Int × Int × Int) ⊕ ((List Int) ⊕ (Bool × (List Int)))) :=
  (lp (fun s => cS a1 b2 j8 s.1 s.2) (aA, i7)).bind (fun rr => fE rr.1 a1 b2 rr.2 j8)

noncomputable def bY (a1 : Int) (b2 : Int) (aA : List Int) (i7 : Int) (j8 : Int) : Option ((List Int × Int × Int) ⊕ ((List Int) ⊕ (Bool × (List Int)))) :=
  cond (decide (j8 < (5 : Int)))
  (dJ aA a1 b2 i7 j8)
  (some (.inr (.inl aA)))

noncomputable def gY (aA : List Int) (a1 : Int) (b2 : Int) (i7 : Int) (j8 : Int) : Option (Bool × List Int) :=
  (lp (fun s => bY a1 b2 s.1 s.2.1 s.2.2) (aA, i7, j8)).bind (Sum.elim (fun rr => fB rr) (fun rr => some (rr.1, rr.2)))

noncomputable def fH (aA : (List Int)) (a1 : Int) (b2 : Int) : Option (Bool × List Int) :=
  gY aA a1 b2 (IntKind.i64.wrap (a1 + (1 : Int))) (0 : Int)

noncomputable def kJ (aA : List Int) (i9 : Int) : Option (Int × List Int) :=
  some (i9, aA)

noncomputable def eB (aA : List Int) (a1 : Int) (i9 : Int) (j10 : Int) : Option ((List Int × Int × Int) ⊕ ((List Int × Int))) :=
  cond (decide (j10 < i9))
  (some (.inr (aA, i9)))
  (bA (0 ≤ j10 ∧ j10 < ((List.length aA : Nat) : Int)) <|
  bA (0 ≤ i9 ∧ i9 < ((List.length aA : Nat) : Int)) <|
  bA (0 ≤ i9 ∧ i9 < ((List.length aA : Nat) : Int)) <|
  bA (0 ≤ j10 ∧ j10 < ((List.length aA : Nat) : Int)) <|
  some (.inl (List.set (List.set aA (Int.toNat i9) (List.getD aA (Int.toNat j10) default)) (Int.toNat j10) (List.getD aA (Int.toNat i9) default), IntKind.i64.wrap (i9 + (1 : Int)), IntKind.i64.wrap (j10 - (1 : Int)))))

noncomputable def eC (a1 : Int) (i9 : Int) (aA : List Int) (j10 : Int) : Option ((List Int × Int) ⊕ ((List Int × Int))) :=
  bA ((((decide (i9 ≤ j10))) = true → 0 ≤ a1 ∧ a1 < ((List.length aA : Nat) : Int))) <|
  bA ((((decide (i9 ≤ j10))) = true → 0 ≤ j10 ∧ j10 < ((List.length aA : Nat) : Int))) <|
  (eD (decide (i9 ≤ j10)) (dQ (List.getD aA (Int.toNat a1) default) (List.getD aA (Int.toNat j10) default))).bind fun x12 =>
  cond ((decide (i9 ≤ j10)) && x12)
  (some (.inl (aA, IntKind.i64.wrap (j10 - (1 : Int)))))
  (some (.inr (aA, j10)))

noncomputable def kH (aA : List Int) (a1 : Int) (i9 : Int) (j10 : Int) : Option ((List Int × Int × Int) ⊕ ((List Int × Int))) :=
  (lp (fun s => eC a1 i9 s.1 s.2) (aA, j10)).bind (fun rr => eB rr.1 a1 i9 rr.2)

noncomputable def gM (aA : List Int) (a1 : Int) (i9 : Int) (j10 : Int) : Option ((List Int × Int × Int) ⊕ ((List Int × Int))) :=
  kH aA a1 i9 j10

noncomputable def eF (a1 : Int) (j10 : Int) (aA : List Int) (i9 : Int) : Option ((List Int × Int) ⊕ ((List Int × Int))) :=
  bA ((((decide (i9 ≤ j10))) = true → 0 ≤ a1 ∧ a1 < ((List.length aA : Nat) : Int))) <|
  bA ((((decide (i9 ≤ j10))) = true → 0 ≤ i9 ∧ i9 < ((List.length aA : Nat) : Int))) <|
  (eD (decide (i9 ≤ j10)) (dQ (List.getD aA (Int.toNat a1) default) (List.getD aA (Int.toNat i9) default))).bind fun x18 =>
  cond ((decide (i9 ≤ j10)) && (!x18))
  (some (.inl (aA, IntKind.i64.wrap (i9 + (1 : Int)))))
  (some (.inr (aA, i9)))

noncomputable def kG (aA : List Int) (a1 : Int) (i9 : Int) (j10 : Int) : Option ((List Int × Int × Int) ⊕ ((List Int × Int))) :=
  (lp (fun s => eF a1 j10 s.1 s.2) (aA, i9)).bind (fun rr => gM rr.1 a1 rr.2 j10)

noncomputable def cX (a1 : Int) (aA : List Int) (i9 : Int) (j10 : Int) : Option ((List Int × Int × Int) ⊕ ((List Int × Int))) :=
  kG aA a1 i9 j10

noncomputable def kN (aA : List Int) (a1 : Int) (i9 : Int) (j10 : Int) : Option (Int × List Int) :=
  (lp (fun s => cX a1 s.1 s.2.1 s.2.2) (aA, i9, j10)).bind (fun rr => kJ rr.1 rr.2)

noncomputable def fO (aA : (List Int)) (a1 : Int) (b2 : Int) (cM : Int) : Option (Int × List Int) :=
  bA (0 ≤ cM ∧ cM < ((List.length aA : Nat) : Int)) <|
  bA (0 ≤ a1 ∧ a1 < ((List.length aA : Nat) : Int)) <|
  bA (0 ≤ a1 ∧ a1 < ((List.length aA : Nat) : Int)) <|
  bA (0 ≤ cM ∧ cM < ((List.length aA : Nat) : Int)) <|
  kN (List.set (List.set aA (Int.toNat a1) (List.getD aA (Int.toNat cM) default)) (Int.toNat cM) (List.getD aA (Int.toNat a1) default)) a1 (IntKind.i64.wrap (a1 + (1 : Int))) (IntKind.i64.wrap (b2 - (1 : Int)))

noncomputable def jZ (aA : List Int) (a1 : Int) (j11 : Int) : Option ((Int × Bool) × List Int) :=
  bA (0 ≤ a1 ∧ a1 < ((List.length aA : Nat) : Int)) <|
  bA (0 ≤ j11 ∧ j11 < ((List.length aA : Nat) : Int)) <|
  bA (0 ≤ j11 ∧ j11 < ((List.length aA : Nat) : Int)) <|
  bA (0 ≤ a1 ∧ a1 < ((List.length aA : Nat) : Int)) <|
  some ((j11, false), (List.set (List.set aA (Int.toNat j11) (List.getD aA (Int.toNat a1) default)) (Int.toNat a1) (List.getD aA (Int.toNat j11) default)))

noncomputable def fK (aA : List Int) (a1 : Int) (i10 : Int) (j11 : Int) : Option ((List Int × Int × Int) ⊕ ((List Int × Int))) :=
  cond (decide (j11 < i10))
  (some (.inr (aA, j11)))
  (bA (0 ≤ j11 ∧ j11 < ((List.length aA : Nat) : Int)) <|
  bA (0 ≤ i10 ∧ i10 < ((List.length aA : Nat) : Int)) <|
  bA (0 ≤ i10 ∧ i10 < ((List.length aA : Nat) : Int)) <|
  bA (0 ≤ j11 ∧ j11 < ((List.length aA : Nat) : Int)) <|
  some (.inl (List.set (List.set aA (Int.toNat i10) (List.getD aA (Int.toNat j11) default)) (Int.toNat j11) (List.getD aA (Int.toNat i10) default), IntKind.i64.wrap (i10 + (1 : Int)), IntKind.i64.wrap (j11 - (1 : Int)))))

noncomputable def fJ (a1 : Int) (i10 : Int) (aA : List Int) (j11 : Int) : Option ((List Int × Int) ⊕ ((List Int × Int))) :=
  bA ((((decide (i10 ≤ j11))) = true → 0 ≤ j11 ∧ j11 < ((List.length aA : Nat) : Int))) <|
  bA ((((decide (i10 ≤ j11))) = true → 0 ≤ a1 ∧ a1 < ((List.length aA : Nat) : Int))) <|
  (eD (decide (i10 ≤ j11)) (dQ (List.getD aA (Int.toNat j11) default) (List.getD aA (Int.toNat a1) default))).bind fun x25 =>
  cond ((decide (i10 ≤ j11)) && (!x25))
  (some (.inl (aA, IntKind.i64.wrap (j11 - (1 : Int)))))
  (some (.inr (aA, j11)))

noncomputable def nG (aA : List Int) (a1 : Int) (i10 : Int) (j11 : Int) : Option ((List Int × Int × Int) ⊕ ((List Int × Int))) :=
  (lp (fun s => fJ a1 i10 s.1 s.2) (aA, j11)).bind (fun rr => fK rr.1 a1 i10 rr.2)

noncomputable def jY (aA : List Int) (a1 : Int) (i10 : Int) (j11 : Int) : Option ((List Int × Int × Int) ⊕ ((List Int × Int))) :=
  nG aA a1 i10 j11

noncomputable def fL (a1 : Int) (j11 : Int) (aA : List Int) (i10 : Int) : Option ((List Int × Int) ⊕ ((List Int × Int))) :=
  bA ((((decide (i10 ≤ j11))) = true → 0 ≤ i10 ∧ i10 < ((List.length aA : Nat) : Int))) <|
  bA ((((decide (i10 ≤ j11))) = true → 0 ≤ a1 ∧ a1 < ((List.length aA : Nat) : Int))) <|
  (eD (decide (i10 ≤ j11)) (dQ (List.getD aA (Int.toNat i10) default) (List.getD aA (Int.toNat a1) default))).bind fun x31 =>
  cond ((decide (i10 ≤ j11)) && x31)
  (some (.inl (aA, IntKind.i64.wrap (i10 + (1 : Int)))))
  (some (.inr (aA, i10)))

noncomputable def nR (aA : List Int) (a1 : Int) (i10 : Int) (j11 : Int) : Option ((List Int × Int × Int) ⊕ ((List Int × Int))) :=
  (lp (fun s => fL a1 j11 s.1 s.2) (aA, i10)).bind (fun rr => jY rr.1 a1 rr.2 j11)

noncomputable def dU (a1 : Int) (aA : List Int) (i10 : Int) (j11 : Int) : Option ((List Int × Int × Int) ⊕ ((List Int × Int))) :=
  nR aA a1 i10 j11

noncomputable def nM (aA : List Int) (a1 : Int) (i10 : Int) (j11 : Int) : Option ((Int × Bool) × List Int) :=
  (lp (fun s => dU a1 s.1 s.2.1 s.2.2) (aA, i10, j11)).bind (fun rr => jZ rr.1 a1 rr.2)

noncomputable def fF (aA : List Int) (a1 : Int) (i10 : Int) (j11 : Int) : Option ((Int × Bool) × List Int) :=
  cond (decide (j11 < i10))
  (bA (0 ≤ a1 ∧ a1 < ((List.length aA : Nat) : Int)) <|
  bA (0 ≤ j11 ∧ j11 < ((List.length aA : Nat) : Int)) <|
  bA (0 ≤ j11 ∧ j11 < ((List.length aA : Nat) : Int)) <|
  bA (0 ≤ a1 ∧ a1 < ((List.length aA : Nat) : Int)) <|
  some ((j11, true), (List.set (List.set aA (Int.toNat j11) (List.getD aA (Int.toNat a1) default)) (Int.toNat a1) (List.getD aA (Int.toNat j11) default))))
  (bA (0 ≤ j11 ∧ j11 < ((List.length aA : Nat) : Int)) <|
  bA (0 ≤ i10 ∧ i10 < ((List.length aA : Nat) : Int)) <|
  bA (0 ≤ i10 ∧ i10 < ((List.length aA : Nat) : Int)) <|
  bA (0 ≤ j11 ∧ j11 < ((List.length aA : Nat) : Int)) <|
  nM (List.set (List.set aA (Int.toNat i10) (List.getD aA (Int.toNat j11) default)) (Int.toNat j11) (List.getD aA (Int.toNat i10) default)) a1 (IntKind.i64.wrap (i10 + (1 : Int))) (IntKind.i64.wrap (j11 - (1 : Int))))

noncomputable def fG (a1 : Int) (i10 : Int) (aA : List Int) (j11 : Int) : Option ((List Int × Int) ⊕ ((List Int × Int))) :=
  bA ((((decide (i10 ≤ j11))) = true → 0 ≤ j11 ∧ j11 < ((List.length aA : Nat) : Int))) <|
  bA ((((decide (i10 ≤ j11))) = true → 0 ≤ a1 ∧ a1 < ((List.length aA : Nat) : Int))) <|
  (eD (decide (i10 ≤ j11)) (dQ (List.getD aA (Int.toNat j11) default) (List.getD aA (Int.toNat a1) default))).bind fun x37 =>
  cond ((decide (i10 ≤ j11)) && (!x37))
  (some (.inl (aA, IntKind.i64.wrap (j11 - (1 : Int)))))
  (some (.inr (aA, j11)))

noncomputable def nK (aA : List Int) (a1 : Int) (i10 : Int) (j11 : Int) : Option ((Int × Bool) × List Int) :=
  (lp (fun s => fG a1 i10 s.1 s.2) (aA, j11)).bind (fun rr => fF rr.1 a1 i10 rr.2)

noncomputable def kA (aA : List Int) (a1 : Int) (i10 : Int) (j11 : Int) : Option ((Int × Bool) × List Int) :=
  nK aA a1 i10 j11

noncomputable def eY (a1 : Int) (j11 : Int) (aA : List Int) (i10 : Int) : Option ((List Int × Int) ⊕ ((List Int × Int))) :=
  bA ((((decide (i10 ≤ j11))) = true → 0 ≤ i10 ∧ i10 < ((List.length aA : Nat) : Int))) <|
  bA ((((decide (i10 ≤ j11))) = true → 0 ≤ a1 ∧ a1 < ((List.length aA : Nat) : Int))) <|
  (eD (decide (i10 ≤ j11)) (dQ (List.getD aA (Int.toNat i10) default) (List.getD aA (Int.toNat a1) default))).bind fun x43 =>
  cond ((decide (i10 ≤ j11)) && x43)
  (some (.inl (aA, IntKind.i64.wrap (i10 + (1 : Int)))))
  (some (.inr (aA, i10)))

noncomputable def gF (aA : List Int) (a1 : Int) (i10 : Int) (j11 : Int) : Option ((Int × Bool) × List Int) :=
  (lp (fun s => eY a1 j11 s.1 s.2) (aA, i10)).bind (fun rr => kA rr.1 a1 rr.2 j11)

noncomputable def iF (aA : (List Int)) (a1 : Int) (b2 : Int) (cM : Int) : Option ((Int × Bool) × List Int) :=
  bA (0 ≤ cM ∧ cM < ((List.length aA : Nat) : Int)) <|
  bA (0 ≤ a1 ∧ a1 < ((List.length aA : Nat) : Int)) <|
  bA (0 ≤ a1 ∧ a1 < ((List.length aA : Nat) : Int)) <|
  bA (0 ≤ cM ∧ cM < ((List.length aA : Nat) : Int)) <|
  gF (List.set (List.set aA (Int.toNat a1) (List.getD aA (Int.toNat cM) default)) (Int.toNat cM) (List.getD aA (Int.toNat a1) default)) a1 (IntKind.i64.wrap (a1 + (1 : Int))) (IntKind.i64.wrap (b2 - (1 : Int)))

noncomputable def iU (rec : (List Int) → Int → Int → Int → Option (List Int)) (aA : List Int) (a1 : Int) (b2 : Int) (cD : Int) (bW : Bool) (bO : Bool) (eJ : Int) (gL : Int) : Option ((List Int × Int × Int × Int × Bool × Bool) ⊕ ((List Int))) :=
  bA ((((decide ((0 : Int) < a1))) = true → 0 ≤ (IntKind.i64.wrap (a1 - (1 : Int))) ∧ (IntKind.i64.wrap (a1 - (1 : Int))) < ((List.length aA : Nat) : Int))) <|
  bA ((((decide ((0 : Int) < a1))) = true → 0 ≤ gL ∧ gL < ((List.length aA : Nat) : Int))) <|
  (eD (decide ((0 : Int) < a1)) (dQ (List.getD aA (Int.toNat (IntKind.i64.wrap (a1 - (1 : Int)))) default) (List.getD aA (Int.toNat gL) default))).bind fun x16 =>
  cond ((decide ((0 : Int) < a1)) && (!x16))
  ((fO aA a1 b2 gL).bind fun x20 =>
  some (.inl (x20.2, x20.1, b2, cD, bW, bO)))
  ((iF aA a1 b2 gL).bind fun x23 =>
  bA ((8 : Int) ≠ 0) <|
  cond (decide ((IntKind.i64.wrap (x23.1.1 - a1)) < (IntKind.i64.wrap (b2 - x23.1.1))))
  ((rec x23.2 a1 x23.1.1 cD).bind fun x28 =>
  some (.inl (x28, IntKind.i64.wrap (x23.1.1 + (1 : Int)), b2, cD, decide ((IntKind.i64.wrap (Int.tdiv eJ (8 : Int))) ≤ (IntKind.i64.wrap (x23.1.1 - a1))), x23.1.2)))
  ((rec x23.2 (IntKind.i64.wrap (x23.1.1 + (1 : Int))) b2 cD).bind fun x31 =>
  some (.inl (x31, a1, x23.1.1, cD, decide ((IntKind.i64.wrap (Int.tdiv eJ (8 : Int))) ≤ (IntKind.i64.wrap (b2 - x23.1.1))), x23.1.2))))

noncomputable def iT (rec : (List Int) → Int → Int → Int → Option (List Int)) (aA : List Int) (a1 : Int) (b2 : Int) (cD : Int) (bW : Bool) (bO : Bool) (eJ : Int) (gL : Int) (HS : Int) : Option ((List Int × Int × Int × Int × Bool × Bool) ⊕ ((List Int))) :=
  cond ((bW && bO) && (decide (HS = (1 : Int))))
  ((fH aA a1 b2).bind fun x35 =>
  cond x35.1
  (some (.inr x35.2))
  (iU rec x35.2 a1 b2 cD bW bO eJ gL))
  (iU rec aA a1 b2 cD bW bO eJ gL)

noncomputable def iQ (rec : (List Int) → Int → Int → Int → Option (List Int)) (aA : List Int) (a1 : Int) (b2 : Int) (cD : Int) (bW : Bool) (bO : Bool) (eJ : Int) : Option ((List Int × Int × Int × Int × Bool × Bool) ⊕ ((List Int))) :=
  (jK aA a1 b2).bind fun x9 =>
  cond (decide (x9.2 = (2 : Int)))
  ((jB aA a1 b2).bind fun x40 =>
  iT rec x40 a1 b2 cD bW bO eJ (IntKind.i64.wrap ((IntKind.i64.wrap (b2 - (1 : Int))) - (IntKind.i64.wrap (x9.1 - a1)))) (1 : Int))
  (iT rec aA a1 b2 cD bW bO eJ x9.1 x9.2)

noncomputable def eX (rec : (List Int) → Int → Int → Int → Option (List Int))  (aA : List Int) (a1 : Int) (b2 : Int) (cD : Int) (bW : Bool) (bO : Bool) : Option ((List Int × Int × Int × Int × Bool × Bool) ⊕ ((List Int))) :=
  cond (decide ((IntKind.i64.wrap (b2 - a1)) ≤ (12 : Int)))
  ((iJ aA a1 b2).bind fun x2 =>
  some (.inr x2))
  (cond (decide (cD = (0 : Int)))
  ((lR aA a1 b2).bind fun x6 =>
  some (.inr x6))
  (cond (!bW)
  ((iL aA a1 b2).bind fun x44 =>
  iQ rec x44 a1 b2 (IntKind.i64.wrap (cD - (1 : Int))) bW bO (IntKind.i64.wrap (b2 - a1)))
  (iQ rec aA a1 b2 cD bW bO (IntKind.i64.wrap (b2 - a1)))))

noncomputable def pH (rec : (List Int) → Int → Int → Int → Option (List Int)) (aA : List Int) (a1 : Int) (b2 : Int) (cD : Int) (bW : Bool) (bO : Bool) : Option (List Int) :=
  (lp (fun s => eX rec s.1 s.2.1 s.2.2.1 s.2.2.2.1 s.2.2.2.2.1 s.2.2.2.2.2) (aA, a1, b2, cD, bW, bO)).bind (fun rr => some rr)

noncomputable def gP (rec : (List Int) → Int → Int → Int → Option (List Int)) (aA : (List Int)) (a1 : Int) (b2 : Int) (cD : Int) : Option (List Int) :=
  pH rec aA a1 b2 cD true true

noncomputable def dP  : Nat → (List Int) → Int → Int → Int → Option (List Int)
  | 0 => fun _ _ _ _ => none
  | k + 1 => gP (dP k)

noncomputable def lU (aA : (List Int)) (a1 : Int) (b2 : Int) (cD : Int) : Option (List Int) := HF (fun k => dP k aA a1 b2 cD)

noncomputable def nT (x0 : (List Int)) : Option (List Int) :=
  (nJ (IntKind.u64.wrap ((List.length x0 : Nat) : Int))).bind fun x1 =>
  (lU x0 (0 : Int) ((List.length x0 : Nat) : Int) x1).bind fun x4 =>
  some x4

noncomputable def CU (out9 : List Int) : Option ((List Int) × Int) :=
  (nT out9).bind fun x16 =>
  some (x16, (0 : Int))

noncomputable def vM (t50 : (List (Int × Int))) (out9 : List Int) (mk : Int) (mv : Int) : Option (List Int) :=
  bA ((List.length out9 + List.length ([mk])) * 8 ≤ 140737488355328 ∧ List.length out9 + List.length ([mk]) ≤ 9223372036854775807) <|
  some (out9 ++ ([mk]))

noncomputable def CH (t50 : (List (Int × Int))) (out9 : List Int) : Option ((List Int) × Int) :=
  CU out9

noncomputable def CQ (out9 : List Int) (t50 : (List (Int × Int))) : Option ((List Int) × Int) :=
  DI t50 (fun q => (vI (fun (s : List Int) (x : Int × Int) => vM t50 s x.1 x.2) out9 q).bind (fun (s : List Int) => CH t50 s))

noncomputable def yZ (nN : (List (Int × Int))) : Option ((List Int) × Int) :=
  bA (0 ≤ ((List.length nN : Nat) : Int) ∧ (8 : Int) * ((List.length nN : Nat) : Int) ≤ 281474976710656 ∧ ((List.length nN : Nat) : Int) ≤ 9223372036854775807) <|
  CQ ([] : List Int) nN

noncomputable def vT (cJ : Int) (nN : (List (Int × Int))) (t32 : (List aC)) (t33 : Int) (t34 : Int) : Option (((List (Int × Int)) × Int) ⊕ ((List (Int × Int)))) :=
  some (.inl (nN, IntKind.i64.wrap (t34 + (1 : Int))))

noncomputable def sR (cJ : Int) (t32 : (List aC)) (t33 : Int) (nN : (List (Int × Int))) (t34 : Int) : Option (((List (Int × Int)) × Int) ⊕ ((List (Int × Int)))) :=
  cond (decide (t34 < t33))
  (bA (0 ≤ t34 ∧ t34 < ((List.length t32 : Nat) : Int)) <|
  cond (decide (cJ < ((List.getD t32 (Int.toNat t34) default).At)))
  (vT cJ (wK nN ((List.getD t32 (Int.toNat t34) default).At) (1 : Int)) t32 t33 t34)
  (vT cJ nN t32 t33 t34))
  (some (.inr nN))

noncomputable def CN (cJ : Int) (nN : (List (Int × Int))) (t32 : (List aC)) (t33 : Int) (t34 : Int) : Option ((List Int) × Int) :=
  (lp (fun s => sR cJ t32 t33 s.1 s.2) (nN, t34)).bind (fun rr => yZ rr)

noncomputable def xP (l0 : (List aC)) (cJ : Int) : Option ((List Int) × Int) :=
  (tO l0).bind fun x1 =>
  cond (!x1)
  (some ([], (2 : Int)))
  ((zB l0).bind fun x5 =>
  cond (!x5)
  (some ([], (20 : Int)))
  (cond ((decide (cJ < (0 : Int))) || (decide ((1125899906842624 : Int) < cJ)))
  (some ([], (13 : Int)))
  (cond (decide (cJ = (1125899906842624 : Int)))
  (some ([], (0 : Int)))
  (CN cJ (wK ([] : (List (Int × Int))) cJ (1 : Int)) l0 ((List.length l0 : Nat) : Int) (0 : Int)))))

noncomputable def AT (l0 : (List aC)) : Option ((List aC)) :=
  some l0

noncomputable def oH {σ : Type} (iI : σ → (List aI) → (List aB) → Option (σ × Bool)) (t9c0 : (List aC)) (sg : σ) (t10 : (List aI)) (t11 : (List aB)) : Option ((σ) ⊕ (σ)) :=
  (iI sg t10 t11).bind fun x7 =>
  cond (!x7.2)
  (some (.inr x7.1))
  (some (.inl x7.1))

noncomputable def vA {σ : Type} (iI : σ → (List aI) → (List aB) → Option (σ × Bool)) (sg : σ) (t9c0 : (List aC)) : Option σ :=
  (rI (fun st t10 t11 => rnd (fun (s : σ) => oH iI t9c0 s t10 t11) st) t9c0 (.inl sg)).bind (Sum.elim (fun (s : σ) =>
  (some s))
  (fun (s : σ) =>
  (some s)))

noncomputable def tJ {σ : Type} (iI : σ → (List aI) → (List aB) → Option (σ × Bool)) (t1 : (List aC)) (sg0 : σ) : Option σ :=
  (tO t1).bind fun x1 =>
  cond (!x1)
  (some sg0)
  ((tT t1).bind fun x5 =>
  vA iI sg0 x5)

noncomputable def zO (v5 : Int) : Option Int :=
  some v5

noncomputable def sP (t1 : Int) (t11 : (List aB)) (t12 : Int) (v5 : Int) (t13 : Int) : Option ((Int × Int) ⊕ (Int)) :=
  cond (decide (t13 < t12))
  (bA (0 ≤ t13 ∧ t13 < ((List.length t11 : Nat) : Int)) <|
  cond (decide (t1 < ((List.getD t11 (Int.toNat t13) default).At)))
  (some (.inr v5))
  (some (.inl (IntKind.i64.wrap (v5 + ((List.getD t11 (Int.toNat t13) default).Net)), IntKind.i64.wrap (t13 + (1 : Int))))))
  (some (.inr v5))

noncomputable def FG (t1 : Int) (v5 : Int) (t11 : (List aB)) (t12 : Int) (t13 : Int) : Option Int :=
  (lp (fun s => sP t1 t11 t12 s.1 s.2) (v5, t13)).bind (fun rr => zO rr)

noncomputable def EE (f0 : (List aB)) (t1 : Int) : Option Int :=
  (rH f0).bind fun x1 =>
  cond (!x1)
  (some (0 : Int))
  (FG t1 (0 : Int) f0 ((List.length f0 : Nat) : Int) (0 : Int))

noncomputable def iY (s0 : (List aI)) : Option (List aI) :=
  bA (List.length s0 * 32 ≤ 140737488355328 ∧ List.length s0 ≤ 9223372036854775807) <|
  some s0

noncomputable def yA (out4 : List cU) : Option (List cU) :=
  some out4

noncomputable def tA (t0 : Int) (out4 : List cU) (t9 : (List bZ)) (t10 : Int) (t11 : Int) : Option ((List cU × Int) ⊕ ((List cU))) :=
  some (.inl (out4, IntKind.i64.wrap (t11 + (1 : Int))))

noncomputable def rD (t0 : Int) (t9 : (List bZ)) (t10 : Int) (out4 : List cU) (t11 : Int) : Option ((List cU × Int) ⊕ ((List cU))) :=
  cond (decide (t11 < t10))
  (bA (0 ≤ t11 ∧ t11 < ((List.length t9 : Nat) : Int)) <|
  (EE ((List.getD t9 (Int.toNat t11) default).jumps) t0).bind fun x9 =>
  cond (decide ((0 : Int) < x9))
  ((iY ((List.getD t9 (Int.toNat t11) default).row)).bind fun x16 =>
  bA ((List.length out4 + List.length ([cU.mk x16 x9])) * 32 ≤ 140737488355328 ∧ List.length out4 + List.length ([cU.mk x16 x9]) ≤ 9223372036854775807) <|
  tA t0 (out4 ++ ([cU.mk x16 x9])) t9 t10 t11)
  (tA t0 out4 t9 t10 t11))
  (some (.inr out4))

noncomputable def xW (t0 : Int) (out4 : List cU) (t9 : (List bZ)) (t10 : Int) (t11 : Int) : Option (List cU) :=
  (lp (fun s => rD t0 t9 t10 s.1 s.2) (out4, t11)).bind (fun rr => yA rr)

noncomputable def vP (t0 : Int) (t1 : (List bZ)) : Option (List cU) :=
  xW t0 ([] : List cU) t1 ((List.length t1 : Nat) : Int) (0 : Int)

noncomputable def rV (eV : (List Int)) (zM : (List aC)) (all8 : List bZ) (t29 : (List aI)) (t30 : (List aB)) : Option ((List bZ) ⊕ (List bZ)) :=
  bA ((List.length all8 + List.length ([bZ.mk t29 t30])) * 48 ≤ 140737488355328 ∧ List.length all8 + List.length ([bZ.mk t29 t30]) ≤ 9223372036854775807) <|
  some (.inl (all8 ++ ([bZ.mk t29 t30])))

noncomputable def AV (eU : List bX) : Option ((List bX) × Int) :=
  some (eU, (0 : Int))

noncomputable def wY (eV : (List Int)) (gI : (List bZ)) (eU : List bX) (t39 : (List Int)) (t40 : Int) (t41 : Int) : Option ((List bX × Int) ⊕ ((List bX) ⊕ ((List bX) × Int))) :=
  some (.inl (eU, IntKind.i64.wrap (t41 + (1 : Int))))

noncomputable def xH (eV : (List Int)) (gI : (List bZ)) (eU : List bX) (t14 : Int) (vW : (List cU)) (CW : Int) (t39 : (List Int)) (t40 : Int) (t41 : Int) : Option ((List bX × Int) ⊕ ((List bX) ⊕ ((List bX) × Int))) :=
  bA ((List.length eU + List.length ([bX.mk (lP.mk t14 CW) vW])) * 40 ≤ 140737488355328 ∧ List.length eU + List.length ([bX.mk (lP.mk t14 CW) vW]) ≤ 9223372036854775807) <|
  wY eV gI (eU ++ ([bX.mk (lP.mk t14 CW) vW])) t39 t40 t41

noncomputable def rT (eV : (List Int)) (gI : (List bZ)) (t39 : (List Int)) (t40 : Int) (eU : List bX) (t41 : Int) : Option ((List bX × Int) ⊕ ((List bX) ⊕ ((List bX) × Int))) :=
  cond (decide (t41 < t40))
  (bA (0 ≤ t41 ∧ t41 < ((List.length t39 : Nat) : Int)) <|
  (vP (List.getD t39 (Int.toNat t41) default) gI).bind fun x20 =>
  cond (decide (((List.length x20 : Nat) : Int) = (0 : Int)))
  (wY eV gI eU t39 t40 t41)
  (cond (decide (((List.length eU : Nat) : Int) = (1024 : Int)))
  (some (.inr (.inr ([], (7 : Int)))))
  (cond (decide ((IntKind.i64.wrap (t41 + (1 : Int))) < ((List.length eV : Nat) : Int)))
  (bA (0 ≤ (IntKind.i64.wrap (t41 + (1 : Int))) ∧ (IntKind.i64.wrap (t41 + (1 : Int))) < ((List.length eV : Nat) : Int)) <|
  xH eV gI eU (List.getD t39 (Int.toNat t41) default) x20 (List.getD eV (Int.toNat (IntKind.i64.wrap (t41 + (1 : Int)))) default) t39 t40 t41)
  (xH eV gI eU (List.getD t39 (Int.toNat t41) default) x20 (1125899906842624 : Int) t39 t40 t41))))
  (some (.inr (.inl eU)))

noncomputable def xB (eV : (List Int)) (gI : (List bZ)) (eU : List bX) (t39 : (List Int)) (t40 : Int) (t41 : Int) : Option ((List bX) × Int) :=
  (lp (fun s => rT eV gI t39 t40 s.1 s.2) (eU, t41)).bind (Sum.elim (fun rr => AV rr) (fun rr => some (rr.1, rr.2)))

noncomputable def AR (eV : (List Int)) (all8 : List bZ) (zM : (List aC)) : Option ((List bX) × Int) :=
  (tJ (fun st t29 t30 => rnd (fun (s : List bZ) => rV eV zM s t29 t30) st) zM (.inl all8)).bind (Sum.elim (fun (s : List bZ) =>
  (xB eV s ([] : List bX) eV ((List.length eV : Nat) : Int) (0 : Int)))
  (fun (s : List bZ) =>
  (none)))

noncomputable def vQ (l0 : (List aC)) (cJ : Int) : Option ((List bX) × Int) :=
  (xP l0 cJ).bind fun x1 =>
  cond (!decide (x1.2 = (0 : Int)))
  (some ([], x1.2))
  ((AT l0).bind fun x7 =>
  AR x1.1 ([] : List bZ) x7)

noncomputable def sS  : Option Bool :=
  (xP ([aC.mk ([aI.mk (1 : Int) (1 : Int) ByteArray.empty]) (2 : Int) (1 : Int), aC.mk ([aI.mk (1 : Int) (1 : Int) ByteArray.empty]) (9 : Int) (-1 : Int), aC.mk ([aI.mk (1 : Int) (2 : Int) ByteArray.empty]) (5 : Int) (1 : Int), aC.mk ([aI.mk (1 : Int) (2 : Int) ByteArray.empty]) (7 : Int) (-1 : Int)]) (0 : Int)).bind fun x1 =>
  (vQ ([aC.mk ([aI.mk (1 : Int) (1 : Int) ByteArray.empty]) (2 : Int) (1 : Int), aC.mk ([aI.mk (1 : Int) (1 : Int) ByteArray.empty]) (9 : Int) (-1 : Int), aC.mk ([aI.mk (1 : Int) (2 : Int) ByteArray.empty]) (5 : Int) (1 : Int), aC.mk ([aI.mk (1 : Int) (2 : Int) ByteArray.empty]) (7 : Int) (-1 : Int)]) (0 : Int)).bind fun x4 =>
  bA ((((((decide (x1.2 = (0 : Int))) && (decide (x4.2 = (0 : Int)))) && (decide (((List.length x1.1 : Nat) : Int) = (5 : Int))))) = true → 0 ≤ (2 : Int) ∧ (2 : Int) < ((List.length x1.1 : Nat) : Int))) <|
  bA ((((((((decide (x1.2 = (0 : Int))) && (decide (x4.2 = (0 : Int)))) && (decide (((List.length x1.1 : Nat) : Int) = (5 : Int)))) && (decide ((List.getD x1.1 (Int.toNat (2 : Int)) default) = (5 : Int)))) && (decide (((List.length x4.1 : Nat) : Int) = (3 : Int))))) = true → 0 ≤ (1 : Int) ∧ (1 : Int) < ((List.length x4.1 : Nat) : Int))) <|
  bA (((((((((decide (x1.2 = (0 : Int))) && (decide (x4.2 = (0 : Int)))) && (decide (((List.length x1.1 : Nat) : Int) = (5 : Int)))) && (decide ((List.getD x1.1 (Int.toNat (2 : Int)) default) = (5 : Int)))) && (decide (((List.length x4.1 : Nat) : Int) = (3 : Int)))) && ((decide ((((List.getD x4.1 (Int.toNat (1 : Int)) default).Span).From) = ((lP.mk (5 : Int) (7 : Int)).From))) && ((decide ((((List.getD x4.1 (Int.toNat (1 : Int)) default).Span).To) = ((lP.mk (5 : Int) (7 : Int)).To))) && true)))) = true → 0 ≤ (1 : Int) ∧ (1 : Int) < ((List.length x4.1 : Nat) : Int))) <|
  some (((((((decide (x1.2 = (0 : Int))) && (decide (x4.2 = (0 : Int)))) && (decide (((List.length x1.1 : Nat) : Int) = (5 : Int)))) && (decide ((List.getD x1.1 (Int.toNat (2 : Int)) default) = (5 : Int)))) && (decide (((List.length x4.1 : Nat) : Int) = (3 : Int)))) && ((decide ((((List.getD x4.1 (Int.toNat (1 : Int)) default).Span).From) = ((lP.mk (5 : Int) (7 : Int)).From))) && ((decide ((((List.getD x4.1 (Int.toNat (1 : Int)) default).Span).To) = ((lP.mk (5 : Int) (7 : Int)).To))) && true))) && (decide (((List.length ((List.getD x4.1 (Int.toNat (1 : Int)) default).Rows) : Nat) : Int) = (2 : Int))))

noncomputable def gC (f1 : aC → Option Bool)  : Option Int :=
  some (-1 : Int)

noncomputable def jR (f1 : aC → Option Bool) (s0 : (List aC)) (t7 : Int) (t8 : Int) : Option ((Int) ⊕ (Unit ⊕ Int)) :=
  cond (decide (t8 < t7))
  (bA (0 ≤ t8 ∧ t8 < ((List.length s0 : Nat) : Int)) <|
  (f1 (List.getD s0 (Int.toNat t8) default)).bind fun x3 =>
  cond x3
  (some (.inr (.inr t8)))
  (some (.inl (IntKind.i64.wrap (t8 + (1 : Int))))))
  (some (.inr (.inl ())))

noncomputable def jO (f1 : aC → Option Bool) (s0 : (List aC)) (t7 : Int) (t8 : Int) : Option Int :=
  (lp (fun s => jR f1 s0 t7 s) t8).bind (Sum.elim (fun rr => gC f1 ) (fun rr => some rr))

noncomputable def jX (s0 : (List aC)) (f1 : aC → Option Bool) : Option Int :=
  jO f1 s0 ((List.length s0 : Nat) : Int) (0 : Int)

noncomputable def eH (s0 : (List aC)) (f1 : aC → Option Bool) : Option Bool :=
  (jX s0 f1).bind fun x1 =>
  some (decide ((0 : Int) ≤ x1))

noncomputable def wZ (x0 : aC) : Option Bool :=
  (vZ x0.Row).bind fun x1 =>
  some (((!x1) || (decide ((1048576 : Int) < x0.Net))) || (decide (x0.Net < (-1048576 : Int))))

noncomputable def wT (x0 : aC) : Option Bool :=
  some ((decide (x0.At < (-1 : Int))) || (decide ((1125899906842624 : Int) < x0.At)))

noncomputable def iZ (s0 : (List aC)) : Option (List aC) :=
  bA (List.length s0 * 40 ≤ 140737488355328 ∧ List.length s0 ≤ 9223372036854775807) <|
  some s0

noncomputable def iW (cmp3 : aC → aC → Option Int) (aA : List aC) (a1 : Int) (b2 : Int) (i8 : Int) : Option ((List aC × Int) ⊕ ((List aC))) :=
  some (.inl (aA, IntKind.i64.wrap (i8 + (1 : Int))))

noncomputable def mT (cmp3 : aC → aC → Option Int) (a1 : Int) (b2 : Int) (i8 : Int) (aA : List aC) (j9 : Int) : Option ((List aC × Int) ⊕ ((List aC))) :=
  bA ((((decide (a1 < j9))) = true → 0 ≤ j9 ∧ j9 < ((List.length aA : Nat) : Int))) <|
  bA ((((decide (a1 < j9))) = true → 0 ≤ (IntKind.i64.wrap (j9 - (1 : Int))) ∧ (IntKind.i64.wrap (j9 - (1 : Int))) < ((List.length aA : Nat) : Int))) <|
  (eD (decide (a1 < j9)) (cmp3 (List.getD aA (Int.toNat j9) default) (List.getD aA (Int.toNat (IntKind.i64.wrap (j9 - (1 : Int)))) default))).bind fun x4 =>
  cond ((decide (a1 < j9)) && (decide (x4 < (0 : Int))))
  (bA (0 ≤ (IntKind.i64.wrap (j9 - (1 : Int))) ∧ (IntKind.i64.wrap (j9 - (1 : Int))) < ((List.length aA : Nat) : Int)) <|
  bA (0 ≤ j9 ∧ j9 < ((List.length aA : Nat) : Int)) <|
  bA (0 ≤ j9 ∧ j9 < ((List.length aA : Nat) : Int)) <|
  bA (0 ≤ (IntKind.i64.wrap (j9 - (1 : Int))) ∧ (IntKind.i64.wrap (j9 - (1 : Int))) < ((List.length aA : Nat) : Int)) <|
  some (.inl (List.set (List.set aA (Int.toNat j9) (List.getD aA (Int.toNat (IntKind.i64.wrap (j9 - (1 : Int)))) default)) (Int.toNat (IntKind.i64.wrap (j9 - (1 : Int)))) (List.getD aA (Int.toNat j9) default), IntKind.i64.wrap (j9 - (1 : Int)))))
  (some (.inr aA))

noncomputable def mS (cmp3 : aC → aC → Option Int) (aA : List aC) (a1 : Int) (b2 : Int) (i8 : Int) (j9 : Int) : Option ((List aC × Int) ⊕ ((List aC))) :=
  (lp (fun s => mT cmp3 a1 b2 i8 s.1 s.2) (aA, j9)).bind (fun rr => iW cmp3 rr a1 b2 i8)

noncomputable def mW (cmp3 : aC → aC → Option Int) (a1 : Int) (b2 : Int) (aA : List aC) (i8 : Int) : Option ((List aC × Int) ⊕ ((List aC))) :=
  cond (decide (i8 < b2))
  (mS cmp3 aA a1 b2 i8 i8)
  (some (.inr aA))

noncomputable def mQ (cmp3 : aC → aC → Option Int) (aA : List aC) (a1 : Int) (b2 : Int) (i8 : Int) : Option (List aC) :=
  (lp (fun s => mW cmp3 a1 b2 s.1 s.2) (aA, i8)).bind (fun rr => some rr)

noncomputable def fT (aA : (List aC)) (a1 : Int) (b2 : Int) (cmp3 : aC → aC → Option Int) : Option (List aC) :=
  mQ cmp3 aA a1 b2 (IntKind.i64.wrap (a1 + (1 : Int)))

noncomputable def pL (cmp4 : aC → aC → Option Int) (a1 : Int) (b2 : Int) (n3 : Int) (aA : List aC) (i10 : Int) : Option ((List aC × Int) ⊕ ((List aC))) :=
  cond (decide (i10 < n3))
  (bA (0 ≤ (IntKind.i64.wrap (b2 + i10)) ∧ (IntKind.i64.wrap (b2 + i10)) < ((List.length aA : Nat) : Int)) <|
  bA (0 ≤ (IntKind.i64.wrap (a1 + i10)) ∧ (IntKind.i64.wrap (a1 + i10)) < ((List.length aA : Nat) : Int)) <|
  bA (0 ≤ (IntKind.i64.wrap (a1 + i10)) ∧ (IntKind.i64.wrap (a1 + i10)) < ((List.length aA : Nat) : Int)) <|
  bA (0 ≤ (IntKind.i64.wrap (b2 + i10)) ∧ (IntKind.i64.wrap (b2 + i10)) < ((List.length aA : Nat) : Int)) <|
  some (.inl (List.set (List.set aA (Int.toNat (IntKind.i64.wrap (a1 + i10))) (List.getD aA (Int.toNat (IntKind.i64.wrap (b2 + i10))) default)) (Int.toNat (IntKind.i64.wrap (b2 + i10))) (List.getD aA (Int.toNat (IntKind.i64.wrap (a1 + i10))) default), IntKind.i64.wrap (i10 + (1 : Int)))))
  (some (.inr aA))

noncomputable def pE (cmp4 : aC → aC → Option Int) (aA : List aC) (a1 : Int) (b2 : Int) (n3 : Int) (i10 : Int) : Option (List aC) :=
  (lp (fun s => pL cmp4 a1 b2 n3 s.1 s.2) (aA, i10)).bind (fun rr => some rr)

noncomputable def iB (aA : (List aC)) (a1 : Int) (b2 : Int) (n3 : Int) (cmp4 : aC → aC → Option Int) : Option (List aC) :=
  pE cmp4 aA a1 b2 n3 (0 : Int)

noncomputable def mJ (cmp4 : aC → aC → Option Int) (aA : List aC) (m2 : Int) (i10 : Int) : Option (List aC) :=
  (iB aA (IntKind.i64.wrap (m2 - i10)) m2 i10 cmp4).bind fun x1 =>
  some x1

noncomputable def qP (cmp4 : aC → aC → Option Int) (m2 : Int) (aA : List aC) (i10 : Int) (j11 : Int) : Option ((List aC × Int × Int) ⊕ ((List aC × Int))) :=
  cond (!decide (i10 = j11))
  (cond (decide (j11 < i10))
  ((iB aA (IntKind.i64.wrap (m2 - i10)) m2 j11 cmp4).bind fun x6 =>
  some (.inl (x6, IntKind.i64.wrap (i10 - j11), j11)))
  ((iB aA (IntKind.i64.wrap (m2 - i10)) (IntKind.i64.wrap ((IntKind.i64.wrap (m2 + j11)) - i10)) i10 cmp4).bind fun x9 =>
  some (.inl (x9, i10, IntKind.i64.wrap (j11 - i10)))))
  (some (.inr (aA, i10)))

noncomputable def qM (cmp4 : aC → aC → Option Int) (aA : List aC) (m2 : Int) (i10 : Int) (j11 : Int) : Option (List aC) :=
  (lp (fun s => qP cmp4 m2 s.1 s.2.1 s.2.2) (aA, i10, j11)).bind (fun rr => mJ cmp4 rr.1 m2 rr.2)

noncomputable def qW (aA : (List aC)) (a1 : Int) (m2 : Int) (b3 : Int) (cmp4 : aC → aC → Option Int) : Option (List aC) :=
  qM cmp4 aA m2 (IntKind.i64.wrap (m2 - a1)) (IntKind.i64.wrap (b3 - m2))

noncomputable def lH (cmp4 : aC → aC → Option Int) (rec : (List aC) → Int → Int → Int → Option (List aC)) (aA : List aC) (b3 : Int) (bV : Int) (gK : Int) : Option (List aC) :=
  cond ((decide (bV < gK)) && (decide (gK < b3)))
  ((rec aA bV gK b3).bind fun x3 =>
  some x3)
  (some aA)

noncomputable def kT (cmp4 : aC → aC → Option Int) (rec : (List aC) → Int → Int → Int → Option (List aC)) (aA : List aC) (a1 : Int) (b3 : Int) (bV : Int) (aV : Int) (gK : Int) : Option (List aC) :=
  cond ((decide (a1 < aV)) && (decide (aV < bV)))
  ((rec aA a1 aV bV).bind fun x7 =>
  lH cmp4 rec x7 b3 bV gK)
  (lH cmp4 rec aA b3 bV gK)

noncomputable def kX (cmp4 : aC → aC → Option Int) (rec : (List aC) → Int → Int → Int → Option (List aC)) (aA : List aC) (a1 : Int) (m2 : Int) (b3 : Int) (bV : Int) (n19 : Int) (aV : Int) : Option (List aC) :=
  cond ((decide (aV < m2)) && (decide (m2 < (IntKind.i64.wrap (n19 - aV)))))
  ((qW aA aV m2 (IntKind.i64.wrap (n19 - aV)) cmp4).bind fun x11 =>
  kT cmp4 rec x11 a1 b3 bV aV (IntKind.i64.wrap (n19 - aV)))
  (kT cmp4 rec aA a1 b3 bV aV (IntKind.i64.wrap (n19 - aV)))

noncomputable def pQ (cmp4 : aC → aC → Option Int) (rec : (List aC) → Int → Int → Int → Option (List aC)) (a1 : Int) (m2 : Int) (b3 : Int) (bV : Int) (n19 : Int) (p22 : Int) (aA : List aC) (aV : Int) (r21 : Int) : Option ((List aC × Int × Int) ⊕ ((List aC × Int))) :=
  cond (decide (aV < r21))
  (bA (0 ≤ (1 : Int)) <|
  bA (0 ≤ (IntKind.i64.wrap (p22 - (IntKind.i64.wrap (Int.fdiv (IntKind.u64.wrap (IntKind.i64.wrap (aV + r21))) (2 ^ (min (Int.toNat (1 : Int)) 64)))))) ∧ (IntKind.i64.wrap (p22 - (IntKind.i64.wrap (Int.fdiv (IntKind.u64.wrap (IntKind.i64.wrap (aV + r21))) (2 ^ (min (Int.toNat (1 : Int)) 64)))))) < ((List.length aA : Nat) : Int)) <|
  bA (0 ≤ (IntKind.i64.wrap (Int.fdiv (IntKind.u64.wrap (IntKind.i64.wrap (aV + r21))) (2 ^ (min (Int.toNat (1 : Int)) 64)))) ∧ (IntKind.i64.wrap (Int.fdiv (IntKind.u64.wrap (IntKind.i64.wrap (aV + r21))) (2 ^ (min (Int.toNat (1 : Int)) 64)))) < ((List.length aA : Nat) : Int)) <|
  (cmp4 (List.getD aA (Int.toNat (IntKind.i64.wrap (p22 - (IntKind.i64.wrap (Int.fdiv (IntKind.u64.wrap (IntKind.i64.wrap (aV + r21))) (2 ^ (min (Int.toNat (1 : Int)) 64))))))) default) (List.getD aA (Int.toNat (IntKind.i64.wrap (Int.fdiv (IntKind.u64.wrap (IntKind.i64.wrap (aV + r21))) (2 ^ (min (Int.toNat (1 : Int)) 64))))) default)).bind fun x18 =>
  cond (!(decide (x18 < (0 : Int))))
  (some (.inl (aA, IntKind.i64.wrap ((IntKind.i64.wrap (Int.fdiv (IntKind.u64.wrap (IntKind.i64.wrap (aV + r21))) (2 ^ (min (Int.toNat (1 : Int)) 64)))) + (1 : Int)), r21)))
  (some (.inl (aA, aV, IntKind.i64.wrap (Int.fdiv (IntKind.u64.wrap (IntKind.i64.wrap (aV + r21))) (2 ^ (min (Int.toNat (1 : Int)) 64)))))))
  (some (.inr (aA, aV)))

noncomputable def pW (cmp4 : aC → aC → Option Int) (rec : (List aC) → Int → Int → Int → Option (List aC)) (aA : List aC) (a1 : Int) (m2 : Int) (b3 : Int) (bV : Int) (n19 : Int) (aV : Int) (r21 : Int) (p22 : Int) : Option (List aC) :=
  (lp (fun s => pQ cmp4 rec a1 m2 b3 bV n19 p22 s.1 s.2.1 s.2.2) (aA, aV, r21)).bind (fun rr => kX cmp4 rec rr.1 a1 m2 b3 bV n19 rr.2)

noncomputable def lC (cmp4 : aC → aC → Option Int) (rec : (List aC) → Int → Int → Int → Option (List aC)) (aA : List aC) (a1 : Int) (m2 : Int) (b3 : Int) (bV : Int) (n19 : Int) (aV : Int) (r21 : Int) : Option (List aC) :=
  pW cmp4 rec aA a1 m2 b3 bV n19 aV r21 (IntKind.i64.wrap (n19 - (1 : Int)))

noncomputable def pO (cmp4 : aC → aC → Option Int) (rec : (List aC) → Int → Int → Int → Option (List aC)) (aA : List aC) (a1 : Int) (m2 : Int) (b3 : Int) : Option (List aC) :=
  bA (0 ≤ (1 : Int)) <|
  cond (decide ((IntKind.i64.wrap (Int.fdiv (IntKind.u64.wrap (IntKind.i64.wrap (a1 + b3))) (2 ^ (min (Int.toNat (1 : Int)) 64)))) < m2))
  (lC cmp4 rec aA a1 m2 b3 (IntKind.i64.wrap (Int.fdiv (IntKind.u64.wrap (IntKind.i64.wrap (a1 + b3))) (2 ^ (min (Int.toNat (1 : Int)) 64)))) (IntKind.i64.wrap ((IntKind.i64.wrap (Int.fdiv (IntKind.u64.wrap (IntKind.i64.wrap (a1 + b3))) (2 ^ (min (Int.toNat (1 : Int)) 64)))) + m2)) (IntKind.i64.wrap ((IntKind.i64.wrap ((IntKind.i64.wrap (Int.fdiv (IntKind.u64.wrap (IntKind.i64.wrap (a1 + b3))) (2 ^ (min (Int.toNat (1 : Int)) 64)))) + m2)) - b3)) (IntKind.i64.wrap (Int.fdiv (IntKind.u64.wrap (IntKind.i64.wrap (a1 + b3))) (2 ^ (min (Int.toNat (1 : Int)) 64)))))
  (lC cmp4 rec aA a1 m2 b3 (IntKind.i64.wrap (Int.fdiv (IntKind.u64.wrap (IntKind.i64.wrap (a1 + b3))) (2 ^ (min (Int.toNat (1 : Int)) 64)))) (IntKind.i64.wrap ((IntKind.i64.wrap (Int.fdiv (IntKind.u64.wrap (IntKind.i64.wrap (a1 + b3))) (2 ^ (min (Int.toNat (1 : Int)) 64)))) + m2)) a1 m2)

noncomputable def kZ (cmp4 : aC → aC → Option Int) (rec : (List aC) → Int → Int → Int → Option (List aC)) (aA : List aC) : Option (List aC) :=
  some aA

noncomputable def oP (cmp4 : aC → aC → Option Int) (rec : (List aC) → Int → Int → Int → Option (List aC)) (i14 : Int) (aA : List aC) (k17 : Int) : Option ((List aC × Int) ⊕ ((List aC))) :=
  cond (decide (i14 < k17))
  (bA (0 ≤ (IntKind.i64.wrap (k17 - (1 : Int))) ∧ (IntKind.i64.wrap (k17 - (1 : Int))) < ((List.length aA : Nat) : Int)) <|
  bA (0 ≤ k17 ∧ k17 < ((List.length aA : Nat) : Int)) <|
  bA (0 ≤ k17 ∧ k17 < ((List.length aA : Nat) : Int)) <|
  bA (0 ≤ (IntKind.i64.wrap (k17 - (1 : Int))) ∧ (IntKind.i64.wrap (k17 - (1 : Int))) < ((List.length aA : Nat) : Int)) <|
  some (.inl (List.set (List.set aA (Int.toNat k17) (List.getD aA (Int.toNat (IntKind.i64.wrap (k17 - (1 : Int)))) default)) (Int.toNat (IntKind.i64.wrap (k17 - (1 : Int)))) (List.getD aA (Int.toNat k17) default), IntKind.i64.wrap (k17 - (1 : Int)))))
  (some (.inr aA))

noncomputable def oZ (cmp4 : aC → aC → Option Int) (rec : (List aC) → Int → Int → Int → Option (List aC)) (aA : List aC) (i14 : Int) (k17 : Int) : Option (List aC) :=
  (lp (fun s => oP cmp4 rec i14 s.1 s.2) (aA, k17)).bind (fun rr => kZ cmp4 rec rr)

noncomputable def lE (cmp4 : aC → aC → Option Int) (rec : (List aC) → Int → Int → Int → Option (List aC)) (aA : List aC) (m2 : Int) (i14 : Int) : Option (List aC) :=
  oZ cmp4 rec aA i14 m2

noncomputable def oS (cmp4 : aC → aC → Option Int) (rec : (List aC) → Int → Int → Int → Option (List aC)) (m2 : Int) (aA : List aC) (i14 : Int) (j15 : Int) : Option ((List aC × Int × Int) ⊕ ((List aC × Int))) :=
  cond (decide (i14 < j15))
  (bA (0 ≤ (1 : Int)) <|
  bA (0 ≤ m2 ∧ m2 < ((List.length aA : Nat) : Int)) <|
  bA (0 ≤ (IntKind.i64.wrap (Int.fdiv (IntKind.u64.wrap (IntKind.i64.wrap (i14 + j15))) (2 ^ (min (Int.toNat (1 : Int)) 64)))) ∧ (IntKind.i64.wrap (Int.fdiv (IntKind.u64.wrap (IntKind.i64.wrap (i14 + j15))) (2 ^ (min (Int.toNat (1 : Int)) 64)))) < ((List.length aA : Nat) : Int)) <|
  (cmp4 (List.getD aA (Int.toNat m2) default) (List.getD aA (Int.toNat (IntKind.i64.wrap (Int.fdiv (IntKind.u64.wrap (IntKind.i64.wrap (i14 + j15))) (2 ^ (min (Int.toNat (1 : Int)) 64))))) default)).bind fun x33 =>
  cond (!(decide (x33 < (0 : Int))))
  (some (.inl (aA, IntKind.i64.wrap ((IntKind.i64.wrap (Int.fdiv (IntKind.u64.wrap (IntKind.i64.wrap (i14 + j15))) (2 ^ (min (Int.toNat (1 : Int)) 64)))) + (1 : Int)), j15)))
  (some (.inl (aA, i14, IntKind.i64.wrap (Int.fdiv (IntKind.u64.wrap (IntKind.i64.wrap (i14 + j15))) (2 ^ (min (Int.toNat (1 : Int)) 64)))))))
  (some (.inr (aA, i14)))

noncomputable def oX (cmp4 : aC → aC → Option Int) (rec : (List aC) → Int → Int → Int → Option (List aC)) (aA : List aC) (m2 : Int) (i14 : Int) (j15 : Int) : Option (List aC) :=
  (lp (fun s => oS cmp4 rec m2 s.1 s.2.1 s.2.2) (aA, i14, j15)).bind (fun rr => lE cmp4 rec rr.1 m2 rr.2)

noncomputable def pU (cmp4 : aC → aC → Option Int) (rec : (List aC) → Int → Int → Int → Option (List aC)) (aA : List aC) (a1 : Int) (m2 : Int) (b3 : Int) : Option (List aC) :=
  cond (decide ((IntKind.i64.wrap (b3 - m2)) = (1 : Int)))
  (oX cmp4 rec aA m2 a1 m2)
  (pO cmp4 rec aA a1 m2 b3)

noncomputable def kM (cmp4 : aC → aC → Option Int) (rec : (List aC) → Int → Int → Int → Option (List aC)) (aA : List aC) : Option (List aC) :=
  some aA

noncomputable def oN (cmp4 : aC → aC → Option Int) (rec : (List aC) → Int → Int → Int → Option (List aC)) (i10 : Int) (aA : List aC) (k13 : Int) : Option ((List aC × Int) ⊕ ((List aC))) :=
  cond (decide (k13 < (IntKind.i64.wrap (i10 - (1 : Int)))))
  (bA (0 ≤ (IntKind.i64.wrap (k13 + (1 : Int))) ∧ (IntKind.i64.wrap (k13 + (1 : Int))) < ((List.length aA : Nat) : Int)) <|
  bA (0 ≤ k13 ∧ k13 < ((List.length aA : Nat) : Int)) <|
  bA (0 ≤ k13 ∧ k13 < ((List.length aA : Nat) : Int)) <|
  bA (0 ≤ (IntKind.i64.wrap (k13 + (1 : Int))) ∧ (IntKind.i64.wrap (k13 + (1 : Int))) < ((List.length aA : Nat) : Int)) <|
  some (.inl (List.set (List.set aA (Int.toNat k13) (List.getD aA (Int.toNat (IntKind.i64.wrap (k13 + (1 : Int)))) default)) (Int.toNat (IntKind.i64.wrap (k13 + (1 : Int)))) (List.getD aA (Int.toNat k13) default), IntKind.i64.wrap (k13 + (1 : Int)))))
  (some (.inr aA))

noncomputable def oY (cmp4 : aC → aC → Option Int) (rec : (List aC) → Int → Int → Int → Option (List aC)) (aA : List aC) (i10 : Int) (k13 : Int) : Option (List aC) :=
  (lp (fun s => oN cmp4 rec i10 s.1 s.2) (aA, k13)).bind (fun rr => kM cmp4 rec rr)

noncomputable def kO (cmp4 : aC → aC → Option Int) (rec : (List aC) → Int → Int → Int → Option (List aC)) (aA : List aC) (a1 : Int) (i10 : Int) : Option (List aC) :=
  oY cmp4 rec aA i10 a1

noncomputable def oQ (cmp4 : aC → aC → Option Int) (rec : (List aC) → Int → Int → Int → Option (List aC)) (a1 : Int) (aA : List aC) (i10 : Int) (j11 : Int) : Option ((List aC × Int × Int) ⊕ ((List aC × Int))) :=
  cond (decide (i10 < j11))
  (bA (0 ≤ (1 : Int)) <|
  bA (0 ≤ (IntKind.i64.wrap (Int.fdiv (IntKind.u64.wrap (IntKind.i64.wrap (i10 + j11))) (2 ^ (min (Int.toNat (1 : Int)) 64)))) ∧ (IntKind.i64.wrap (Int.fdiv (IntKind.u64.wrap (IntKind.i64.wrap (i10 + j11))) (2 ^ (min (Int.toNat (1 : Int)) 64)))) < ((List.length aA : Nat) : Int)) <|
  bA (0 ≤ a1 ∧ a1 < ((List.length aA : Nat) : Int)) <|
  (cmp4 (List.getD aA (Int.toNat (IntKind.i64.wrap (Int.fdiv (IntKind.u64.wrap (IntKind.i64.wrap (i10 + j11))) (2 ^ (min (Int.toNat (1 : Int)) 64))))) default) (List.getD aA (Int.toNat a1) default)).bind fun x47 =>
  cond (decide (x47 < (0 : Int)))
  (some (.inl (aA, IntKind.i64.wrap ((IntKind.i64.wrap (Int.fdiv (IntKind.u64.wrap (IntKind.i64.wrap (i10 + j11))) (2 ^ (min (Int.toNat (1 : Int)) 64)))) + (1 : Int)), j11)))
  (some (.inl (aA, i10, IntKind.i64.wrap (Int.fdiv (IntKind.u64.wrap (IntKind.i64.wrap (i10 + j11))) (2 ^ (min (Int.toNat (1 : Int)) 64)))))))
  (some (.inr (aA, i10)))

noncomputable def oV (cmp4 : aC → aC → Option Int) (rec : (List aC) → Int → Int → Int → Option (List aC)) (aA : List aC) (a1 : Int) (i10 : Int) (j11 : Int) : Option (List aC) :=
  (lp (fun s => oQ cmp4 rec a1 s.1 s.2.1 s.2.2) (aA, i10, j11)).bind (fun rr => kO cmp4 rec rr.1 a1 rr.2)

noncomputable def gJ (cmp4 : aC → aC → Option Int) (rec : (List aC) → Int → Int → Int → Option (List aC)) (aA : (List aC)) (a1 : Int) (m2 : Int) (b3 : Int) : Option (List aC) :=
  cond (decide ((IntKind.i64.wrap (m2 - a1)) = (1 : Int)))
  (oV cmp4 rec aA a1 m2 b3)
  (pU cmp4 rec aA a1 m2 b3)

noncomputable def lA (cmp4 : aC → aC → Option Int) : Nat → (List aC) → Int → Int → Int → Option (List aC)
  | 0 => fun _ _ _ _ => none
  | k + 1 => gJ cmp4 (lA cmp4 k)

noncomputable def iK (aA : (List aC)) (a1 : Int) (m2 : Int) (b3 : Int) (cmp4 : aC → aC → Option Int) : Option (List aC) := HF (fun k => lA cmp4 k aA a1 m2 b3)

noncomputable def mM (cmp2 : aC → aC → Option Int) (aA : List aC) (n1 : Int) (aP : Int) : Option ((List aC × Int) ⊕ ((List aC))) :=
  some (.inl (aA, IntKind.i64.wrap (aP * (2 : Int))))

noncomputable def jC (cmp2 : aC → aC → Option Int) (aA : List aC) (n1 : Int) (aP : Int) (a7 : Int) : Option ((List aC × Int) ⊕ ((List aC))) :=
  cond (decide ((IntKind.i64.wrap (a7 + aP)) < n1))
  ((iK aA a7 (IntKind.i64.wrap (a7 + aP)) n1 cmp2).bind fun x6 =>
  mM cmp2 x6 n1 aP)
  (mM cmp2 aA n1 aP)

noncomputable def mL (cmp2 : aC → aC → Option Int) (n1 : Int) (aP : Int) (aA : List aC) (a7 : Int) (b8 : Int) : Option ((List aC × Int × Int) ⊕ ((List aC × Int))) :=
  cond (decide (b8 ≤ n1))
  ((iK aA a7 (IntKind.i64.wrap (a7 + aP)) b8 cmp2).bind fun x10 =>
  some (.inl (x10, b8, IntKind.i64.wrap (b8 + (IntKind.i64.wrap ((2 : Int) * aP))))))
  (some (.inr (aA, a7)))

noncomputable def mI (cmp2 : aC → aC → Option Int) (aA : List aC) (n1 : Int) (aP : Int) (a7 : Int) (b8 : Int) : Option ((List aC × Int) ⊕ ((List aC))) :=
  (lp (fun s => mL cmp2 n1 aP s.1 s.2.1 s.2.2) (aA, a7, b8)).bind (fun rr => jC cmp2 rr.1 n1 aP rr.2)

noncomputable def mK (cmp2 : aC → aC → Option Int) (n1 : Int) (aA : List aC) (aP : Int) : Option ((List aC × Int) ⊕ ((List aC))) :=
  cond (decide (aP < n1))
  (mI cmp2 aA n1 aP (0 : Int) (IntKind.i64.wrap ((2 : Int) * aP)))
  (some (.inr aA))

noncomputable def lZ (cmp2 : aC → aC → Option Int) (aA : List aC) (n1 : Int) (aP : Int) : Option (List aC) :=
  (lp (fun s => mK cmp2 n1 s.1 s.2) (aA, aP)).bind (fun rr => some rr)

noncomputable def jF (cmp2 : aC → aC → Option Int) (aA : List aC) (n1 : Int) (aP : Int) (a7 : Int) : Option (List aC) :=
  (fT aA a7 n1 cmp2).bind fun x1 =>
  lZ cmp2 x1 n1 aP

noncomputable def lY (cmp2 : aC → aC → Option Int) (n1 : Int) (aP : Int) (aA : List aC) (a7 : Int) (b8 : Int) : Option ((List aC × Int × Int) ⊕ ((List aC × Int))) :=
  cond (decide (b8 ≤ n1))
  ((fT aA a7 b8 cmp2).bind fun x14 =>
  some (.inl (x14, b8, IntKind.i64.wrap (b8 + aP))))
  (some (.inr (aA, a7)))

noncomputable def mG (cmp2 : aC → aC → Option Int) (aA : List aC) (n1 : Int) (aP : Int) (a7 : Int) (b8 : Int) : Option (List aC) :=
  (lp (fun s => lY cmp2 n1 aP s.1 s.2.1 s.2.2) (aA, a7, b8)).bind (fun rr => jF cmp2 rr.1 n1 aP rr.2)

noncomputable def jJ (aA : (List aC)) (n1 : Int) (cmp2 : aC → aC → Option Int) : Option (List aC) :=
  mG cmp2 aA n1 (20 : Int) (0 : Int) (20 : Int)

noncomputable def fC (x0 : (List aC)) (cmp1 : aC → aC → Option Int) : Option (List aC) :=
  (jJ x0 ((List.length x0 : Nat) : Int) cmp1).bind fun x1 =>
  some x1

noncomputable def xI (sN : Int) : Option Int :=
  some sN

noncomputable def lO (sN : Int) (t6 : (List Int)) (t7 : Int) (t8 : Int) : Option ((Int) ⊕ (Unit ⊕ Int)) :=
  cond (decide (t8 < t7))
  (bA (0 ≤ t8 ∧ t8 < ((List.length t6 : Nat) : Int)) <|
  cond (!decide ((List.getD t6 (Int.toNat t8) default) = sN))
  (some (.inr (.inr (List.getD t6 (Int.toNat t8) default))))
  (some (.inl (IntKind.i64.wrap (t8 + (1 : Int))))))
  (some (.inr (.inl ())))

noncomputable def AQ (sN : Int) (t6 : (List Int)) (t7 : Int) (t8 : Int) : Option Int :=
  (lp (fun s => lO sN t6 t7 s) t8).bind (Sum.elim (fun rr => xI sN) (fun rr => some rr))

noncomputable def yU (CR : (List Int)) : Option Int :=
  AQ (0 : Int) CR ((List.length CR : Nat) : Int) (0 : Int)

noncomputable def rS (x0 : aC) (y1 : aC) : Option Int :=
  (uP x0.Row y1.Row).bind fun x1 =>
  (nD x0.At y1.At).bind fun x4 =>
  (yU ([x1, x4])).bind fun x7 =>
  some x7

noncomputable def DR (l0 : List aC) : Option (List aC) :=
  some l0

noncomputable def tR (r1 : (List aI)) (t9 : (List aB)) (t10 : Int) (l0 : List aC) (t11 : Int) : Option ((List aC × Int) ⊕ ((List aC))) :=
  cond (decide (t11 < t10))
  (bA (0 ≤ t11 ∧ t11 < ((List.length t9 : Nat) : Int)) <|
  (zI r1).bind fun x7 =>
  bA ((List.length l0 + List.length ([aC.mk x7 ((List.getD t9 (Int.toNat t11) default).At) ((List.getD t9 (Int.toNat t11) default).Net)])) * 40 ≤ 140737488355328 ∧ List.length l0 + List.length ([aC.mk x7 ((List.getD t9 (Int.toNat t11) default).At) ((List.getD t9 (Int.toNat t11) default).Net)]) ≤ 9223372036854775807) <|
  some (.inl (l0 ++ ([aC.mk x7 ((List.getD t9 (Int.toNat t11) default).At) ((List.getD t9 (Int.toNat t11) default).Net)]), IntKind.i64.wrap (t11 + (1 : Int)))))
  (some (.inr l0))

noncomputable def DQ (l0 : List aC) (r1 : (List aI)) (t9 : (List aB)) (t10 : Int) (t11 : Int) : Option (List aC) :=
  (lp (fun s => tR r1 t9 t10 s.1 s.2) (l0, t11)).bind (fun rr => DR rr)

noncomputable def CK (l0 : (List aC)) (r1 : (List aI)) (f2 : (List aB)) : Option (List aC) :=
  DQ l0 r1 f2 ((List.length f2 : Nat) : Int) (0 : Int)

noncomputable def sI (by1 : (List aB) → Option ((List aB) × Int)) (oR : (List aC)) (t4 : (List aC)) (t5 : Int) (out6 : List aC) (t14 : (List aI)) (t15 : (List aB)) : Option (((List aC) × Int × List aC) ⊕ ((List aC) × Int × List aC)) :=
  (by1 t15).bind fun x8 =>
  cond (!decide (x8.2 = (0 : Int)))
  (some (.inr ([], x8.2, out6)))
  ((CK out6 t14 x8.1).bind fun x12 =>
  cond (decide ((4096 : Int) < ((List.length x12 : Nat) : Int)))
  (some (.inr ([], (7 : Int), x12)))
  (some (.inl (t4, t5, x12))))

noncomputable def zG (by1 : (List aB) → Option ((List aB) × Int)) (t4 : (List aC)) (t5 : Int) (out6 : List aC) (oR : (List aC)) : Option ((List aC) × Int) :=
  (rI (fun st t14 t15 => rnd (fun (s : (List aC) × Int × List aC) => sI by1 oR s.1 s.2.1 s.2.2 t14 t15) st) oR (.inl (t4, t5, out6))).bind (Sum.elim (fun (s : (List aC) × Int × List aC) =>
  (some (s.2.2, (0 : Int))))
  (fun (s : (List aC) × Int × List aC) =>
  (some (s.1, s.2.1))))

noncomputable def uQ (l0 : (List aC)) (by1 : (List aB) → Option ((List aB) × Int)) : Option ((List aC) × Int) :=
  (tT l0).bind fun x5 =>
  zG by1 ([]) 0 ([] : List aC) x5

noncomputable def fZ (f1 : aB → Option Bool)  : Option Int :=
  some (-1 : Int)

noncomputable def jQ (f1 : aB → Option Bool) (s0 : (List aB)) (t7 : Int) (t8 : Int) : Option ((Int) ⊕ (Unit ⊕ Int)) :=
  cond (decide (t8 < t7))
  (bA (0 ≤ t8 ∧ t8 < ((List.length s0 : Nat) : Int)) <|
  (f1 (List.getD s0 (Int.toNat t8) default)).bind fun x3 =>
  cond x3
  (some (.inr (.inr t8)))
  (some (.inl (IntKind.i64.wrap (t8 + (1 : Int))))))
  (some (.inr (.inl ())))

noncomputable def jS (f1 : aB → Option Bool) (s0 : (List aB)) (t7 : Int) (t8 : Int) : Option Int :=
  (lp (fun s => jQ f1 s0 t7 s) t8).bind (Sum.elim (fun rr => fZ f1 ) (fun rr => some rr))

noncomputable def kB (s0 : (List aB)) (f1 : aB → Option Bool) : Option Int :=
  jS f1 s0 ((List.length s0 : Nat) : Int) (0 : Int)

noncomputable def eG (s0 : (List aB)) (f1 : aB → Option Bool) : Option Bool :=
  (kB s0 f1).bind fun x1 =>
  some (decide ((0 : Int) ≤ x1))

noncomputable def wU (j0 : aB) : Option Bool :=
  (zW j0.Net).bind fun x1 =>
  some (!x1)

noncomputable def wQ (j0 : aB) : Option Bool :=
  some ((decide (j0.At < (-1 : Int))) || (decide ((1125899906842624 : Int) < j0.At)))

noncomputable def dY (s0 : (List aB)) : Option (List aB) :=
  bA (List.length s0 * 16 ≤ 140737488355328 ∧ List.length s0 ≤ 9223372036854775807) <|
  some s0

noncomputable def iX (cmp3 : aB → aB → Option Int) (aA : List aB) (a1 : Int) (b2 : Int) (i8 : Int) : Option ((List aB × Int) ⊕ ((List aB))) :=
  some (.inl (aA, IntKind.i64.wrap (i8 + (1 : Int))))

noncomputable def mV (cmp3 : aB → aB → Option Int) (a1 : Int) (b2 : Int) (i8 : Int) (aA : List aB) (j9 : Int) : Option ((List aB × Int) ⊕ ((List aB))) :=
  bA ((((decide (a1 < j9))) = true → 0 ≤ j9 ∧ j9 < ((List.length aA : Nat) : Int))) <|
  bA ((((decide (a1 < j9))) = true → 0 ≤ (IntKind.i64.wrap (j9 - (1 : Int))) ∧ (IntKind.i64.wrap (j9 - (1 : Int))) < ((List.length aA : Nat) : Int))) <|
  (eD (decide (a1 < j9)) (cmp3 (List.getD aA (Int.toNat j9) default) (List.getD aA (Int.toNat (IntKind.i64.wrap (j9 - (1 : Int)))) default))).bind fun x4 =>
  cond ((decide (a1 < j9)) && (decide (x4 < (0 : Int))))
  (bA (0 ≤ (IntKind.i64.wrap (j9 - (1 : Int))) ∧ (IntKind.i64.wrap (j9 - (1 : Int))) < ((List.length aA : Nat) : Int)) <|
  bA (0 ≤ j9 ∧ j9 < ((List.length aA : Nat) : Int)) <|
  bA (0 ≤ j9 ∧ j9 < ((List.length aA : Nat) : Int)) <|
  bA (0 ≤ (IntKind.i64.wrap (j9 - (1 : Int))) ∧ (IntKind.i64.wrap (j9 - (1 : Int))) < ((List.length aA : Nat) : Int)) <|
  some (.inl (List.set (List.set aA (Int.toNat j9) (List.getD aA (Int.toNat (IntKind.i64.wrap (j9 - (1 : Int)))) default)) (Int.toNat (IntKind.i64.wrap (j9 - (1 : Int)))) (List.getD aA (Int.toNat j9) default), IntKind.i64.wrap (j9 - (1 : Int)))))
  (some (.inr aA))

noncomputable def mR (cmp3 : aB → aB → Option Int) (aA : List aB) (a1 : Int) (b2 : Int) (i8 : Int) (j9 : Int) : Option ((List aB × Int) ⊕ ((List aB))) :=
  (lp (fun s => mV cmp3 a1 b2 i8 s.1 s.2) (aA, j9)).bind (fun rr => iX cmp3 rr a1 b2 i8)

noncomputable def mU (cmp3 : aB → aB → Option Int) (a1 : Int) (b2 : Int) (aA : List aB) (i8 : Int) : Option ((List aB × Int) ⊕ ((List aB))) :=
  cond (decide (i8 < b2))
  (mR cmp3 aA a1 b2 i8 i8)
  (some (.inr aA))

noncomputable def mX (cmp3 : aB → aB → Option Int) (aA : List aB) (a1 : Int) (b2 : Int) (i8 : Int) : Option (List aB) :=
  (lp (fun s => mU cmp3 a1 b2 s.1 s.2) (aA, i8)).bind (fun rr => some rr)

noncomputable def fS (aA : (List aB)) (a1 : Int) (b2 : Int) (cmp3 : aB → aB → Option Int) : Option (List aB) :=
  mX cmp3 aA a1 b2 (IntKind.i64.wrap (a1 + (1 : Int)))

noncomputable def oM (cmp4 : aB → aB → Option Int) (a1 : Int) (b2 : Int) (n3 : Int) (aA : List aB) (i10 : Int) : Option ((List aB × Int) ⊕ ((List aB))) :=
  cond (decide (i10 < n3))
  (bA (0 ≤ (IntKind.i64.wrap (b2 + i10)) ∧ (IntKind.i64.wrap (b2 + i10)) < ((List.length aA : Nat) : Int)) <|
  bA (0 ≤ (IntKind.i64.wrap (a1 + i10)) ∧ (IntKind.i64.wrap (a1 + i10)) < ((List.length aA : Nat) : Int)) <|
  bA (0 ≤ (IntKind.i64.wrap (a1 + i10)) ∧ (IntKind.i64.wrap (a1 + i10)) < ((List.length aA : Nat) : Int)) <|
  bA (0 ≤ (IntKind.i64.wrap (b2 + i10)) ∧ (IntKind.i64.wrap (b2 + i10)) < ((List.length aA : Nat) : Int)) <|
  some (.inl (List.set (List.set aA (Int.toNat (IntKind.i64.wrap (a1 + i10))) (List.getD aA (Int.toNat (IntKind.i64.wrap (b2 + i10))) default)) (Int.toNat (IntKind.i64.wrap (b2 + i10))) (List.getD aA (Int.toNat (IntKind.i64.wrap (a1 + i10))) default), IntKind.i64.wrap (i10 + (1 : Int)))))
  (some (.inr aA))

noncomputable def oT (cmp4 : aB → aB → Option Int) (aA : List aB) (a1 : Int) (b2 : Int) (n3 : Int) (i10 : Int) : Option (List aB) :=
  (lp (fun s => oM cmp4 a1 b2 n3 s.1 s.2) (aA, i10)).bind (fun rr => some rr)

noncomputable def iA (aA : (List aB)) (a1 : Int) (b2 : Int) (n3 : Int) (cmp4 : aB → aB → Option Int) : Option (List aB) :=
  oT cmp4 aA a1 b2 n3 (0 : Int)

noncomputable def mD (cmp4 : aB → aB → Option Int) (aA : List aB) (m2 : Int) (i10 : Int) : Option (List aB) :=
  (iA aA (IntKind.i64.wrap (m2 - i10)) m2 i10 cmp4).bind fun x1 =>
  some x1

noncomputable def qO (cmp4 : aB → aB → Option Int) (m2 : Int) (aA : List aB) (i10 : Int) (j11 : Int) : Option ((List aB × Int × Int) ⊕ ((List aB × Int))) :=
  cond (!decide (i10 = j11))
  (cond (decide (j11 < i10))
  ((iA aA (IntKind.i64.wrap (m2 - i10)) m2 j11 cmp4).bind fun x6 =>
  some (.inl (x6, IntKind.i64.wrap (i10 - j11), j11)))
  ((iA aA (IntKind.i64.wrap (m2 - i10)) (IntKind.i64.wrap ((IntKind.i64.wrap (m2 + j11)) - i10)) i10 cmp4).bind fun x9 =>
  some (.inl (x9, i10, IntKind.i64.wrap (j11 - i10)))))
  (some (.inr (aA, i10)))

noncomputable def qN (cmp4 : aB → aB → Option Int) (aA : List aB) (m2 : Int) (i10 : Int) (j11 : Int) : Option (List aB) :=
  (lp (fun s => qO cmp4 m2 s.1 s.2.1 s.2.2) (aA, i10, j11)).bind (fun rr => mD cmp4 rr.1 m2 rr.2)

noncomputable def qY (aA : (List aB)) (a1 : Int) (m2 : Int) (b3 : Int) (cmp4 : aB → aB → Option Int) : Option (List aB) :=
  qN cmp4 aA m2 (IntKind.i64.wrap (m2 - a1)) (IntKind.i64.wrap (b3 - m2))

noncomputable def kW (cmp4 : aB → aB → Option Int) (rec : (List aB) → Int → Int → Int → Option (List aB)) (aA : List aB) (b3 : Int) (bV : Int) (gK : Int) : Option (List aB) :=
  cond ((decide (bV < gK)) && (decide (gK < b3)))
  ((rec aA bV gK b3).bind fun x3 =>
  some x3)
  (some aA)

noncomputable def lF (cmp4 : aB → aB → Option Int) (rec : (List aB) → Int → Int → Int → Option (List aB)) (aA : List aB) (a1 : Int) (b3 : Int) (bV : Int) (aV : Int) (gK : Int) : Option (List aB) :=
  cond ((decide (a1 < aV)) && (decide (aV < bV)))
  ((rec aA a1 aV bV).bind fun x7 =>
  kW cmp4 rec x7 b3 bV gK)
  (kW cmp4 rec aA b3 bV gK)

noncomputable def lM (cmp4 : aB → aB → Option Int) (rec : (List aB) → Int → Int → Int → Option (List aB)) (aA : List aB) (a1 : Int) (m2 : Int) (b3 : Int) (bV : Int) (n19 : Int) (aV : Int) : Option (List aB) :=
  cond ((decide (aV < m2)) && (decide (m2 < (IntKind.i64.wrap (n19 - aV)))))
  ((qY aA aV m2 (IntKind.i64.wrap (n19 - aV)) cmp4).bind fun x11 =>
  lF cmp4 rec x11 a1 b3 bV aV (IntKind.i64.wrap (n19 - aV)))
  (lF cmp4 rec aA a1 b3 bV aV (IntKind.i64.wrap (n19 - aV)))

noncomputable def qA (cmp4 : aB → aB → Option Int) (rec : (List aB) → Int → Int → Int → Option (List aB)) (a1 : Int) (m2 : Int) (b3 : Int) (bV : Int) (n19 : Int) (p22 : Int) (aA : List aB) (aV : Int) (r21 : Int) : Option ((List aB × Int × Int) ⊕ ((List aB × Int))) :=
  cond (decide (aV < r21))
  (bA (0 ≤ (1 : Int)) <|
  bA (0 ≤ (IntKind.i64.wrap (p22 - (IntKind.i64.wrap (Int.fdiv (IntKind.u64.wrap (IntKind.i64.wrap (aV + r21))) (2 ^ (min (Int.toNat (1 : Int)) 64)))))) ∧ (IntKind.i64.wrap (p22 - (IntKind.i64.wrap (Int.fdiv (IntKind.u64.wrap (IntKind.i64.wrap (aV + r21))) (2 ^ (min (Int.toNat (1 : Int)) 64)))))) < ((List.length aA : Nat) : Int)) <|
  bA (0 ≤ (IntKind.i64.wrap (Int.fdiv (IntKind.u64.wrap (IntKind.i64.wrap (aV + r21))) (2 ^ (min (Int.toNat (1 : Int)) 64)))) ∧ (IntKind.i64.wrap (Int.fdiv (IntKind.u64.wrap (IntKind.i64.wrap (aV + r21))) (2 ^ (min (Int.toNat (1 : Int)) 64)))) < ((List.length aA : Nat) : Int)) <|
  (cmp4 (List.getD aA (Int.toNat (IntKind.i64.wrap (p22 - (IntKind.i64.wrap (Int.fdiv (IntKind.u64.wrap (IntKind.i64.wrap (aV + r21))) (2 ^ (min (Int.toNat (1 : Int)) 64))))))) default) (List.getD aA (Int.toNat (IntKind.i64.wrap (Int.fdiv (IntKind.u64.wrap (IntKind.i64.wrap (aV + r21))) (2 ^ (min (Int.toNat (1 : Int)) 64))))) default)).bind fun x18 =>
  cond (!(decide (x18 < (0 : Int))))
  (some (.inl (aA, IntKind.i64.wrap ((IntKind.i64.wrap (Int.fdiv (IntKind.u64.wrap (IntKind.i64.wrap (aV + r21))) (2 ^ (min (Int.toNat (1 : Int)) 64)))) + (1 : Int)), r21)))
  (some (.inl (aA, aV, IntKind.i64.wrap (Int.fdiv (IntKind.u64.wrap (IntKind.i64.wrap (aV + r21))) (2 ^ (min (Int.toNat (1 : Int)) 64)))))))
  (some (.inr (aA, aV)))

noncomputable def pT (cmp4 : aB → aB → Option Int) (rec : (List aB) → Int → Int → Int → Option (List aB)) (aA : List aB) (a1 : Int) (m2 : Int) (b3 : Int) (bV : Int) (n19 : Int) (aV : Int) (r21 : Int) (p22 : Int) : Option (List aB) :=
  (lp (fun s => qA cmp4 rec a1 m2 b3 bV n19 p22 s.1 s.2.1 s.2.2) (aA, aV, r21)).bind (fun rr => lM cmp4 rec rr.1 a1 m2 b3 bV n19 rr.2)

noncomputable def lG (cmp4 : aB → aB → Option Int) (rec : (List aB) → Int → Int → Int → Option (List aB)) (aA : List aB) (a1 : Int) (m2 : Int) (b3 : Int) (bV : Int) (n19 : Int) (aV : Int) (r21 : Int) : Option (List aB) :=
  pT cmp4 rec aA a1 m2 b3 bV n19 aV r21 (IntKind.i64.wrap (n19 - (1 : Int)))

noncomputable def pP (cmp4 : aB → aB → Option Int) (rec : (List aB) → Int → Int → Int → Option (List aB)) (aA : List aB) (a1 : Int) (m2 : Int) (b3 : Int) : Option (List aB) :=
  bA (0 ≤ (1 : Int)) <|
  cond (decide ((IntKind.i64.wrap (Int.fdiv (IntKind.u64.wrap (IntKind.i64.wrap (a1 + b3))) (2 ^ (min (Int.toNat (1 : Int)) 64)))) < m2))
  (lG cmp4 rec aA a1 m2 b3 (IntKind.i64.wrap (Int.fdiv (IntKind.u64.wrap (IntKind.i64.wrap (a1 + b3))) (2 ^ (min (Int.toNat (1 : Int)) 64)))) (IntKind.i64.wrap ((IntKind.i64.wrap (Int.fdiv (IntKind.u64.wrap (IntKind.i64.wrap (a1 + b3))) (2 ^ (min (Int.toNat (1 : Int)) 64)))) + m2)) (IntKind.i64.wrap ((IntKind.i64.wrap ((IntKind.i64.wrap (Int.fdiv (IntKind.u64.wrap (IntKind.i64.wrap (a1 + b3))) (2 ^ (min (Int.toNat (1 : Int)) 64)))) + m2)) - b3)) (IntKind.i64.wrap (Int.fdiv (IntKind.u64.wrap (IntKind.i64.wrap (a1 + b3))) (2 ^ (min (Int.toNat (1 : Int)) 64)))))
  (lG cmp4 rec aA a1 m2 b3 (IntKind.i64.wrap (Int.fdiv (IntKind.u64.wrap (IntKind.i64.wrap (a1 + b3))) (2 ^ (min (Int.toNat (1 : Int)) 64)))) (IntKind.i64.wrap ((IntKind.i64.wrap (Int.fdiv (IntKind.u64.wrap (IntKind.i64.wrap (a1 + b3))) (2 ^ (min (Int.toNat (1 : Int)) 64)))) + m2)) a1 m2)

noncomputable def lB (cmp4 : aB → aB → Option Int) (rec : (List aB) → Int → Int → Int → Option (List aB)) (aA : List aB) : Option (List aB) :=
  some aA

noncomputable def pF (cmp4 : aB → aB → Option Int) (rec : (List aB) → Int → Int → Int → Option (List aB)) (i14 : Int) (aA : List aB) (k17 : Int) : Option ((List aB × Int) ⊕ ((List aB))) :=
  cond (decide (i14 < k17))
  (bA (0 ≤ (IntKind.i64.wrap (k17 - (1 : Int))) ∧ (IntKind.i64.wrap (k17 - (1 : Int))) < ((List.length aA : Nat) : Int)) <|
  bA (0 ≤ k17 ∧ k17 < ((List.length aA : Nat) : Int)) <|
  bA (0 ≤ k17 ∧ k17 < ((List.length aA : Nat) : Int)) <|
  bA (0 ≤ (IntKind.i64.wrap (k17 - (1 : Int))) ∧ (IntKind.i64.wrap (k17 - (1 : Int))) < ((List.length aA : Nat) : Int)) <|
  some (.inl (List.set (List.set aA (Int.toNat k17) (List.getD aA (Int.toNat (IntKind.i64.wrap (k17 - (1 : Int)))) default)) (Int.toNat (IntKind.i64.wrap (k17 - (1 : Int)))) (List.getD aA (Int.toNat k17) default), IntKind.i64.wrap (k17 - (1 : Int)))))
  (some (.inr aA))

noncomputable def pI (cmp4 : aB → aB → Option Int) (rec : (List aB) → Int → Int → Int → Option (List aB)) (aA : List aB) (i14 : Int) (k17 : Int) : Option (List aB) :=
  (lp (fun s => pF cmp4 rec i14 s.1 s.2) (aA, k17)).bind (fun rr => lB cmp4 rec rr)

noncomputable def kV (cmp4 : aB → aB → Option Int) (rec : (List aB) → Int → Int → Int → Option (List aB)) (aA : List aB) (m2 : Int) (i14 : Int) : Option (List aB) :=
  pI cmp4 rec aA i14 m2

noncomputable def oO (cmp4 : aB → aB → Option Int) (rec : (List aB) → Int → Int → Int → Option (List aB)) (m2 : Int) (aA : List aB) (i14 : Int) (j15 : Int) : Option ((List aB × Int × Int) ⊕ ((List aB × Int))) :=
  cond (decide (i14 < j15))
  (bA (0 ≤ (1 : Int)) <|
  bA (0 ≤ m2 ∧ m2 < ((List.length aA : Nat) : Int)) <|
  bA (0 ≤ (IntKind.i64.wrap (Int.fdiv (IntKind.u64.wrap (IntKind.i64.wrap (i14 + j15))) (2 ^ (min (Int.toNat (1 : Int)) 64)))) ∧ (IntKind.i64.wrap (Int.fdiv (IntKind.u64.wrap (IntKind.i64.wrap (i14 + j15))) (2 ^ (min (Int.toNat (1 : Int)) 64)))) < ((List.length aA : Nat) : Int)) <|
  (cmp4 (List.getD aA (Int.toNat m2) default) (List.getD aA (Int.toNat (IntKind.i64.wrap (Int.fdiv (IntKind.u64.wrap (IntKind.i64.wrap (i14 + j15))) (2 ^ (min (Int.toNat (1 : Int)) 64))))) default)).bind fun x33 =>
  cond (!(decide (x33 < (0 : Int))))
  (some (.inl (aA, IntKind.i64.wrap ((IntKind.i64.wrap (Int.fdiv (IntKind.u64.wrap (IntKind.i64.wrap (i14 + j15))) (2 ^ (min (Int.toNat (1 : Int)) 64)))) + (1 : Int)), j15)))
  (some (.inl (aA, i14, IntKind.i64.wrap (Int.fdiv (IntKind.u64.wrap (IntKind.i64.wrap (i14 + j15))) (2 ^ (min (Int.toNat (1 : Int)) 64)))))))
  (some (.inr (aA, i14)))

noncomputable def pJ (cmp4 : aB → aB → Option Int) (rec : (List aB) → Int → Int → Int → Option (List aB)) (aA : List aB) (m2 : Int) (i14 : Int) (j15 : Int) : Option (List aB) :=
  (lp (fun s => oO cmp4 rec m2 s.1 s.2.1 s.2.2) (aA, i14, j15)).bind (fun rr => kV cmp4 rec rr.1 m2 rr.2)

noncomputable def pZ (cmp4 : aB → aB → Option Int) (rec : (List aB) → Int → Int → Int → Option (List aB)) (aA : List aB) (a1 : Int) (m2 : Int) (b3 : Int) : Option (List aB) :=
  cond (decide ((IntKind.i64.wrap (b3 - m2)) = (1 : Int)))
  (pJ cmp4 rec aA m2 a1 m2)
  (pP cmp4 rec aA a1 m2 b3)

noncomputable def kF (cmp4 : aB → aB → Option Int) (rec : (List aB) → Int → Int → Int → Option (List aB)) (aA : List aB) : Option (List aB) :=
  some aA

noncomputable def oW (cmp4 : aB → aB → Option Int) (rec : (List aB) → Int → Int → Int → Option (List aB)) (i10 : Int) (aA : List aB) (k13 : Int) : Option ((List aB × Int) ⊕ ((List aB))) :=
  cond (decide (k13 < (IntKind.i64.wrap (i10 - (1 : Int)))))
  (bA (0 ≤ (IntKind.i64.wrap (k13 + (1 : Int))) ∧ (IntKind.i64.wrap (k13 + (1 : Int))) < ((List.length aA : Nat) : Int)) <|
  bA (0 ≤ k13 ∧ k13 < ((List.length aA : Nat) : Int)) <|
  bA (0 ≤ k13 ∧ k13 < ((List.length aA : Nat) : Int)) <|
  bA (0 ≤ (IntKind.i64.wrap (k13 + (1 : Int))) ∧ (IntKind.i64.wrap (k13 + (1 : Int))) < ((List.length aA : Nat) : Int)) <|
  some (.inl (List.set (List.set aA (Int.toNat k13) (List.getD aA (Int.toNat (IntKind.i64.wrap (k13 + (1 : Int)))) default)) (Int.toNat (IntKind.i64.wrap (k13 + (1 : Int)))) (List.getD aA (Int.toNat k13) default), IntKind.i64.wrap (k13 + (1 : Int)))))
  (some (.inr aA))

noncomputable def oU (cmp4 : aB → aB → Option Int) (rec : (List aB) → Int → Int → Int → Option (List aB)) (aA : List aB) (i10 : Int) (k13 : Int) : Option (List aB) :=
  (lp (fun s => oW cmp4 rec i10 s.1 s.2) (aA, k13)).bind (fun rr => kF cmp4 rec rr)

noncomputable def kI (cmp4 : aB → aB → Option Int) (rec : (List aB) → Int → Int → Int → Option (List aB)) (aA : List aB) (a1 : Int) (i10 : Int) : Option (List aB) :=
  oU cmp4 rec aA i10 a1

noncomputable def pG (cmp4 : aB → aB → Option Int) (rec : (List aB) → Int → Int → Int → Option (List aB)) (a1 : Int) (aA : List aB) (i10 : Int) (j11 : Int) : Option ((List aB × Int × Int) ⊕ ((List aB × Int))) :=
  cond (decide (i10 < j11))
  (bA (0 ≤ (1 : Int)) <|
  bA (0 ≤ (IntKind.i64.wrap (Int.fdiv (IntKind.u64.wrap (IntKind.i64.wrap (i10 + j11))) (2 ^ (min (Int.toNat (1 : Int)) 64)))) ∧ (IntKind.i64.wrap (Int.fdiv (IntKind.u64.wrap (IntKind.i64.wrap (i10 + j11))) (2 ^ (min (Int.toNat (1 : Int)) 64)))) < ((List.length aA : Nat) : Int)) <|
  bA (0 ≤ a1 ∧ a1 < ((List.length aA : Nat) : Int)) <|
  (cmp4 (List.getD aA (Int.toNat (IntKind.i64.wrap (Int.fdiv (IntKind.u64.wrap (IntKind.i64.wrap (i10 + j11))) (2 ^ (min (Int.toNat (1 : Int)) 64))))) default) (List.getD aA (Int.toNat a1) default)).bind fun x47 =>
  cond (decide (x47 < (0 : Int)))
  (some (.inl (aA, IntKind.i64.wrap ((IntKind.i64.wrap (Int.fdiv (IntKind.u64.wrap (IntKind.i64.wrap (i10 + j11))) (2 ^ (min (Int.toNat (1 : Int)) 64)))) + (1 : Int)), j11)))
  (some (.inl (aA, i10, IntKind.i64.wrap (Int.fdiv (IntKind.u64.wrap (IntKind.i64.wrap (i10 + j11))) (2 ^ (min (Int.toNat (1 : Int)) 64)))))))
  (some (.inr (aA, i10)))

noncomputable def pK (cmp4 : aB → aB → Option Int) (rec : (List aB) → Int → Int → Int → Option (List aB)) (aA : List aB) (a1 : Int) (i10 : Int) (j11 : Int) : Option (List aB) :=
  (lp (fun s => pG cmp4 rec a1 s.1 s.2.1 s.2.2) (aA, i10, j11)).bind (fun rr => kI cmp4 rec rr.1 a1 rr.2)

noncomputable def gH (cmp4 : aB → aB → Option Int) (rec : (List aB) → Int → Int → Int → Option (List aB)) (aA : (List aB)) (a1 : Int) (m2 : Int) (b3 : Int) : Option (List aB) :=
  cond (decide ((IntKind.i64.wrap (m2 - a1)) = (1 : Int)))
  (pK cmp4 rec aA a1 m2 b3)
  (pZ cmp4 rec aA a1 m2 b3)

noncomputable def kQ (cmp4 : aB → aB → Option Int) : Nat → (List aB) → Int → Int → Int → Option (List aB)
  | 0 => fun _ _ _ _ => none
  | k + 1 => gH cmp4 (kQ cmp4 k)

noncomputable def iN (aA : (List aB)) (a1 : Int) (m2 : Int) (b3 : Int) (cmp4 : aB → aB → Option Int) : Option (List aB) := HF (fun k => kQ cmp4 k aA a1 m2 b3)

noncomputable def lX (cmp2 : aB → aB → Option Int) (aA : List aB) (n1 : Int) (aP : Int) : Option ((List aB × Int) ⊕ ((List aB))) :=
  some (.inl (aA, IntKind.i64.wrap (aP * (2 : Int))))

noncomputable def jD (cmp2 : aB → aB → Option Int) (aA : List aB) (n1 : Int) (aP : Int) (a7 : Int) : Option ((List aB × Int) ⊕ ((List aB))) :=
  cond (decide ((IntKind.i64.wrap (a7 + aP)) < n1))
  ((iN aA a7 (IntKind.i64.wrap (a7 + aP)) n1 cmp2).bind fun x6 =>
  lX cmp2 x6 n1 aP)
  (lX cmp2 aA n1 aP)

noncomputable def mP (cmp2 : aB → aB → Option Int) (n1 : Int) (aP : Int) (aA : List aB) (a7 : Int) (b8 : Int) : Option ((List aB × Int × Int) ⊕ ((List aB × Int))) :=
  cond (decide (b8 ≤ n1))
  ((iN aA a7 (IntKind.i64.wrap (a7 + aP)) b8 cmp2).bind fun x10 =>
  some (.inl (x10, b8, IntKind.i64.wrap (b8 + (IntKind.i64.wrap ((2 : Int) * aP))))))
  (some (.inr (aA, a7)))

noncomputable def mH (cmp2 : aB → aB → Option Int) (aA : List aB) (n1 : Int) (aP : Int) (a7 : Int) (b8 : Int) : Option ((List aB × Int) ⊕ ((List aB))) :=
  (lp (fun s => mP cmp2 n1 aP s.1 s.2.1 s.2.2) (aA, a7, b8)).bind (fun rr => jD cmp2 rr.1 n1 aP rr.2)

noncomputable def mE (cmp2 : aB → aB → Option Int) (n1 : Int) (aA : List aB) (aP : Int) : Option ((List aB × Int) ⊕ ((List aB))) :=
  cond (decide (aP < n1))
  (mH cmp2 aA n1 aP (0 : Int) (IntKind.i64.wrap ((2 : Int) * aP)))
  (some (.inr aA))

noncomputable def mN (cmp2 : aB → aB → Option Int) (aA : List aB) (n1 : Int) (aP : Int) : Option (List aB) :=
  (lp (fun s => mE cmp2 n1 s.1 s.2) (aA, aP)).bind (fun rr => some rr)

noncomputable def jA (cmp2 : aB → aB → Option Int) (aA : List aB) (n1 : Int) (aP : Int) (a7 : Int) : Option (List aB) :=
  (fS aA a7 n1 cmp2).bind fun x1 =>
  mN cmp2 x1 n1 aP

noncomputable def lW (cmp2 : aB → aB → Option Int) (n1 : Int) (aP : Int) (aA : List aB) (a7 : Int) (b8 : Int) : Option ((List aB × Int × Int) ⊕ ((List aB × Int))) :=
  cond (decide (b8 ≤ n1))
  ((fS aA a7 b8 cmp2).bind fun x14 =>
  some (.inl (x14, b8, IntKind.i64.wrap (b8 + aP))))
  (some (.inr (aA, a7)))

noncomputable def mO (cmp2 : aB → aB → Option Int) (aA : List aB) (n1 : Int) (aP : Int) (a7 : Int) (b8 : Int) : Option (List aB) :=
  (lp (fun s => lW cmp2 n1 aP s.1 s.2.1 s.2.2) (aA, a7, b8)).bind (fun rr => jA cmp2 rr.1 n1 aP rr.2)

noncomputable def jN (aA : (List aB)) (n1 : Int) (cmp2 : aB → aB → Option Int) : Option (List aB) :=
  mO cmp2 aA n1 (20 : Int) (0 : Int) (20 : Int)

noncomputable def fD (x0 : (List aB)) (cmp1 : aB → aB → Option Int) : Option (List aB) :=
  (jN x0 ((List.length x0 : Nat) : Int) cmp1).bind fun x1 =>
  some x1

noncomputable def rQ (a0 : aB) (b1 : aB) : Option Int :=
  (nD a0.At b1.At).bind fun x1 =>
  some x1

noncomputable def vC (f0 : (List aB)) : Option ((List aB) × Int) :=
  (rH f0).bind fun x1 =>
  cond (!x1)
  (some ([], (7 : Int)))
  (some (f0, (0 : Int)))

noncomputable def yR (out5 : List aB) : Option ((List aB) × Int) :=
  (vC out5).bind fun x16 =>
  some (x16.1, x16.2)

noncomputable def yV (all4 : List aB) (out5 : List aB) (i6 : Int) (j7 : aB) : Option ((List aB × List aB × Int) ⊕ ((List aB))) :=
  cond ((!decide (j7.Net = (0 : Int))) && (decide (j7.At < (1125899906842624 : Int))))
  (bA ((List.length out5 + List.length ([j7])) * 16 ≤ 140737488355328 ∧ List.length out5 + List.length ([j7]) ≤ 9223372036854775807) <|
  some (.inl (all4, out5 ++ ([j7]), i6)))
  (some (.inl (all4, out5, i6)))

noncomputable def oC  (all4 : List aB) (out5 : List aB) (i6 : Int) (j7 : aB) : Option ((List aB × List aB × Int × aB) ⊕ ((List aB × List aB × Int × aB))) :=
  bA ((((decide (i6 < ((List.length all4 : Nat) : Int)))) = true → 0 ≤ i6 ∧ i6 < ((List.length all4 : Nat) : Int))) <|
  cond ((decide (i6 < ((List.length all4 : Nat) : Int))) && (decide (((List.getD all4 (Int.toNat i6) default).At) = j7.At)))
  (bA (0 ≤ i6 ∧ i6 < ((List.length all4 : Nat) : Int)) <|
  some (.inl (all4, out5, IntKind.i64.wrap (i6 + (1 : Int)), aB.mk j7.At (IntKind.i64.wrap (j7.Net + ((List.getD all4 (Int.toNat i6) default).Net))))))
  (some (.inr (all4, out5, i6, j7)))

noncomputable def CY (all4 : List aB) (out5 : List aB) (i6 : Int) (j7 : aB) : Option ((List aB × List aB × Int) ⊕ ((List aB))) :=
  (lp (fun s => oC s.1 s.2.1 s.2.2.1 s.2.2.2) (all4, out5, i6, j7)).bind (fun rr => yV rr.1 rr.2.1 rr.2.2.1 rr.2.2.2)

noncomputable def qH  (all4 : List aB) (out5 : List aB) (i6 : Int) : Option ((List aB × List aB × Int) ⊕ ((List aB))) :=
  cond (decide (i6 < ((List.length all4 : Nat) : Int)))
  (bA (0 ≤ i6 ∧ i6 < ((List.length all4 : Nat) : Int)) <|
  CY all4 out5 i6 (aB.mk ((List.getD all4 (Int.toNat i6) default).At) 0))
  (some (.inr out5))

noncomputable def CG (all4 : List aB) (out5 : List aB) (i6 : Int) : Option ((List aB) × Int) :=
  (lp (fun s => qH s.1 s.2.1 s.2.2) (all4, out5, i6)).bind (fun rr => yR rr)

noncomputable def AF (l0 : (List aB)) : Option ((List aB) × Int) :=
  (eG l0 (fun y0 => wU y0)).bind fun x1 =>
  cond x1
  (some ([], (2 : Int)))
  ((eG l0 (fun y0 => wQ y0)).bind fun x5 =>
  cond x5
  (some ([], (13 : Int)))
  ((dY l0).bind fun x9 =>
  (fD x9 (fun y0 y1 => rQ y0 y1)).bind fun x12 =>
  CG x12 ([] : List aB) (0 : Int)))

noncomputable def wN (f0 : (List aB)) : Option ((List aB) × Int) :=
  (AF f0).bind fun x1 =>
  some (x1.1, x1.2)

noncomputable def xL (l0 : (List aC)) : Option ((List aC) × Int) :=
  (eH l0 (fun y0 => wZ y0)).bind fun x1 =>
  cond x1
  (some ([], (2 : Int)))
  ((eH l0 (fun y0 => wT y0)).bind fun x5 =>
  cond x5
  (some ([], (13 : Int)))
  ((iZ l0).bind fun x9 =>
  (fC x9 (fun y0 y1 => rS y0 y1)).bind fun x12 =>
  (uQ x12 (fun y0 => wN y0)).bind fun x15 =>
  some (x15.1, x15.2)))

noncomputable def CA (l0 : (List aC)) (by1 : (List aB) → Option ((List aB) × Int)) : Option ((List aC) × Int) :=
  (tO l0).bind fun x1 =>
  cond (!x1)
  (some ([], (2 : Int)))
  ((uQ l0 by1).bind fun x5 =>
  some (x5.1, x5.2))

noncomputable def wS (out6 : List aB) : Option ((List aB) × Int) :=
  (vC out6).bind fun x12 =>
  some (x12.1, x12.2)

noncomputable def uS (t1 : Int) (out6 : List aB) (v7 : Int) : Option ((List aB) × Int) :=
  cond (!decide (v7 = (0 : Int)))
  (bA ((List.length out6 + List.length ([aB.mk t1 (IntKind.i64.wrap (0 - v7))])) * 16 ≤ 140737488355328 ∧ List.length out6 + List.length ([aB.mk t1 (IntKind.i64.wrap (0 - v7))]) ≤ 9223372036854775807) <|
  wS (out6 ++ ([aB.mk t1 (IntKind.i64.wrap (0 - v7))])))
  (wS out6)

noncomputable def oK (t1 : Int) (t18 : (List aB)) (t19 : Int) (out6 : List aB) (v7 : Int) (t20 : Int) : Option ((List aB × Int × Int) ⊕ ((List aB × Int))) :=
  cond (decide (t20 < t19))
  (bA (0 ≤ t20 ∧ t20 < ((List.length t18 : Nat) : Int)) <|
  cond (decide (t1 ≤ ((List.getD t18 (Int.toNat t20) default).At)))
  (some (.inr (out6, v7)))
  (bA ((List.length out6 + List.length ([List.getD t18 (Int.toNat t20) default])) * 16 ≤ 140737488355328 ∧ List.length out6 + List.length ([List.getD t18 (Int.toNat t20) default]) ≤ 9223372036854775807) <|
  some (.inl (out6 ++ ([List.getD t18 (Int.toNat t20) default]), IntKind.i64.wrap (v7 + ((List.getD t18 (Int.toNat t20) default).Net)), IntKind.i64.wrap (t20 + (1 : Int))))))
  (some (.inr (out6, v7)))

noncomputable def AW (t1 : Int) (out6 : List aB) (v7 : Int) (t18 : (List aB)) (t19 : Int) (t20 : Int) : Option ((List aB) × Int) :=
  (lp (fun s => oK t1 t18 t19 s.1 s.2.1 s.2.2) (out6, v7, t20)).bind (fun rr => uS t1 rr.1 rr.2)

noncomputable def yH (f0 : (List aB)) (t1 : Int) : Option ((List aB) × Int) :=
  (rH f0).bind fun x1 =>
  cond (!x1)
  (some ([], (2 : Int)))
  (cond (decide ((1125899906842624 : Int) ≤ t1))
  ((dY f0).bind fun x6 =>
  some (x6, (0 : Int)))
  (AW t1 ([] : List aB) (0 : Int) f0 ((List.length f0 : Nat) : Int) (0 : Int)))

noncomputable def tY (f0 : (List aB)) (t1 : Int) : Option ((List aB) × Int) :=
  (yH f0 t1).bind fun x1 =>
  some (x1.1, x1.2)

noncomputable def yJ (l0 : (List aC)) (t1 : Int) : Option ((List aC) × Int) :=
  (CA l0 (fun y0 => tY y0 t1)).bind fun x1 =>
  some (x1.1, x1.2)

noncomputable def lV (s0 : List aC) : Option (List aC) :=
  some s0

noncomputable def jM (n1 : Int) : Option (List aC) :=
  cond (decide (n1 < (0 : Int)))
  (none)
  (cond (decide ((0 : Int) < (IntKind.i64.wrap (n1 - (IntKind.i64.wrap ((0 : Int) - ((0 : Nat) : Int)))))))
  (bA (0 ≤ (0 : Int) ∧ (0 : Int) ≤ ((0 : Nat) : Int)) <|
  bA (0 ≤ (IntKind.i64.wrap (n1 - (IntKind.i64.wrap ((0 : Int) - ((0 : Nat) : Int))))) ∧ Int.toNat (IntKind.i64.wrap (n1 - (IntKind.i64.wrap ((0 : Int) - ((0 : Nat) : Int))))) * 40 ≤ 140737488355328 ∧ (IntKind.i64.wrap (n1 - (IntKind.i64.wrap ((0 : Int) - ((0 : Nat) : Int))))) ≤ 9223372036854775807) <|
  bA (0 ≤ ((0 : Nat) : Int) ∧ ((0 : Nat) : Int) ≤ (((Int.toNat (IntKind.i64.wrap (n1 - (IntKind.i64.wrap ((0 : Int) - ((0 : Nat) : Int)))))) : Nat) : Int)) <|
  lV ([] : List aC))
  (lV ([] : List aC)))

noncomputable def iC (eM : List aC) : Option (List aC) :=
  some eM

noncomputable def dB (t25 : (List (List aC))) (t26 : Int) (eM : List aC) (t27 : Int) : Option ((List aC × Int) ⊕ ((List aC))) :=
  cond (decide (t27 < t26))
  (bA (0 ≤ t27 ∧ t27 < ((List.length t25 : Nat) : Int)) <|
  bA ((List.length eM + List.length (List.getD t25 (Int.toNat t27) default)) * 40 ≤ 140737488355328 ∧ List.length eM + List.length (List.getD t25 (Int.toNat t27) default) ≤ 9223372036854775807) <|
  some (.inl (eM ++ (List.getD t25 (Int.toNat t27) default), IntKind.i64.wrap (t27 + (1 : Int)))))
  (some (.inr eM))

noncomputable def kS (eM : List aC) (t25 : (List (List aC))) (t26 : Int) (t27 : Int) : Option (List aC) :=
  (lp (fun s => dB t25 t26 s.1 s.2) (eM, t27)).bind (fun rr => iC rr)

noncomputable def hU (eW : (List (List aC))) (qU : Int) : Option (List aC) :=
  (jM qU).bind fun x1 =>
  kS x1 eW ((List.length eW : Nat) : Int) (0 : Int)

noncomputable def dD (eW : (List (List aC))) (t9 : (List (List aC))) (t10 : Int) (qU : Int) (t11 : Int) : Option ((Int × Int) ⊕ (Int)) :=
  cond (decide (t11 < t10))
  (bA (0 ≤ t11 ∧ t11 < ((List.length t9 : Nat) : Int)) <|
  cond (decide ((IntKind.i64.wrap (qU + ((List.length (List.getD t9 (Int.toNat t11) default) : Nat) : Int))) < (0 : Int)))
  (none)
  (some (.inl (IntKind.i64.wrap (qU + ((List.length (List.getD t9 (Int.toNat t11) default) : Nat) : Int)), IntKind.i64.wrap (t11 + (1 : Int))))))
  (some (.inr qU))

noncomputable def kY (eW : (List (List aC))) (qU : Int) (t9 : (List (List aC))) (t10 : Int) (t11 : Int) : Option (List aC) :=
  (lp (fun s => dD eW t9 t10 s.1 s.2) (qU, t11)).bind (fun rr => hU eW rr)

noncomputable def iM (eW : (List (List aC))) : Option (List aC) :=
  kY eW (0 : Int) eW ((List.length eW : Nat) : Int) (0 : Int)

noncomputable def BX (a0 : (List aC)) (b1 : (List aC)) : Option ((List aC) × Int) :=
  (tO a0).bind fun x1 =>
  (eD (!(!x1)) (tO b1)).bind fun x4 =>
  cond ((!x1) || (!x4))
  (some ([], (2 : Int)))
  ((iM ([a0, b1])).bind fun x8 =>
  (xL x8).bind fun x11 =>
  some (x11.1, x11.2))

noncomputable def xF  : Option Bool :=
  some true

noncomputable def uL (a0 : (List aI)) (b1 : (List aI)) (i5 : Int) : Option ((Int) ⊕ (Unit ⊕ Bool)) :=
  cond (decide (i5 < ((List.length a0 : Nat) : Int)))
  (bA (0 ≤ i5 ∧ i5 < ((List.length a0 : Nat) : Int)) <|
  bA (0 ≤ i5 ∧ i5 < ((List.length b1 : Nat) : Int)) <|
  cond (!((decide (((List.getD a0 (Int.toNat i5) default).Kind) = ((List.getD b1 (Int.toNat i5) default).Kind))) && ((decide (((List.getD a0 (Int.toNat i5) default).Num) = ((List.getD b1 (Int.toNat i5) default).Num))) && ((tP ((List.getD a0 (Int.toNat i5) default).Text) ((List.getD b1 (Int.toNat i5) default).Text)) && true))))
  (some (.inr (.inr false)))
  (some (.inl (IntKind.i64.wrap (i5 + (1 : Int))))))
  (some (.inr (.inl ())))

noncomputable def AS (a0 : (List aI)) (b1 : (List aI)) (i5 : Int) : Option Bool :=
  (lp (fun s => uL a0 b1 s) i5).bind (Sum.elim (fun rr => xF ) (fun rr => some rr))

noncomputable def yM (a0 : (List aI)) (b1 : (List aI)) : Option Bool :=
  cond (!decide (((List.length a0 : Nat) : Int) = ((List.length b1 : Nat) : Int)))
  (some false)
  (AS a0 b1 (0 : Int))

noncomputable def wV  : Option Bool :=
  some true

noncomputable def uO (a0 : (List aC)) (b1 : (List aC)) (i5 : Int) : Option ((Int) ⊕ (Unit ⊕ Bool)) :=
  cond (decide (i5 < ((List.length a0 : Nat) : Int)))
  (bA (0 ≤ i5 ∧ i5 < ((List.length a0 : Nat) : Int)) <|
  bA (0 ≤ i5 ∧ i5 < ((List.length b1 : Nat) : Int)) <|
  bA ((((!(!decide (((List.getD a0 (Int.toNat i5) default).At) = ((List.getD b1 (Int.toNat i5) default).At))))) = true → 0 ≤ i5 ∧ i5 < ((List.length a0 : Nat) : Int))) <|
  bA ((((!(!decide (((List.getD a0 (Int.toNat i5) default).At) = ((List.getD b1 (Int.toNat i5) default).At))))) = true → 0 ≤ i5 ∧ i5 < ((List.length b1 : Nat) : Int))) <|
  bA ((((!((!decide (((List.getD a0 (Int.toNat i5) default).At) = ((List.getD b1 (Int.toNat i5) default).At))) || (!decide (((List.getD a0 (Int.toNat i5) default).Net) = ((List.getD b1 (Int.toNat i5) default).Net)))))) = true → 0 ≤ i5 ∧ i5 < ((List.length a0 : Nat) : Int))) <|
  bA ((((!((!decide (((List.getD a0 (Int.toNat i5) default).At) = ((List.getD b1 (Int.toNat i5) default).At))) || (!decide (((List.getD a0 (Int.toNat i5) default).Net) = ((List.getD b1 (Int.toNat i5) default).Net)))))) = true → 0 ≤ i5 ∧ i5 < ((List.length b1 : Nat) : Int))) <|
  (eD (!((!decide (((List.getD a0 (Int.toNat i5) default).At) = ((List.getD b1 (Int.toNat i5) default).At))) || (!decide (((List.getD a0 (Int.toNat i5) default).Net) = ((List.getD b1 (Int.toNat i5) default).Net))))) (yM ((List.getD a0 (Int.toNat i5) default).Row) ((List.getD b1 (Int.toNat i5) default).Row))).bind fun x9 =>
  cond (((!decide (((List.getD a0 (Int.toNat i5) default).At) = ((List.getD b1 (Int.toNat i5) default).At))) || (!decide (((List.getD a0 (Int.toNat i5) default).Net) = ((List.getD b1 (Int.toNat i5) default).Net)))) || (!x9))
  (some (.inr (.inr false)))
  (some (.inl (IntKind.i64.wrap (i5 + (1 : Int))))))
  (some (.inr (.inl ())))

noncomputable def AX (a0 : (List aC)) (b1 : (List aC)) (i5 : Int) : Option Bool :=
  (lp (fun s => uO a0 b1 s) i5).bind (Sum.elim (fun rr => wV ) (fun rr => some rr))

noncomputable def yG (a0 : (List aC)) (b1 : (List aC)) : Option Bool :=
  cond (!decide (((List.length a0 : Nat) : Int) = ((List.length b1 : Nat) : Int)))
  (some false)
  (AX a0 b1 (0 : Int))

noncomputable def tI (l0 : (List aC)) (cJ : Int) (dV : List aC) : Option Bool :=
  (xL dV).bind fun x16 =>
  (yJ l0 cJ).bind fun x19 =>
  cond (((!decide (x16.2 = (0 : Int))) || (!decide (x19.2 = (0 : Int)))) || (decide (cJ = (1125899906842624 : Int))))
  ((sS ).bind fun x23 =>
  some x23)
  ((BX x19.1 x16.1).bind fun x26 =>
  (sS ).bind fun x29 =>
  (eD ((decide (x26.2 = (0 : Int))) && ((!(decide (x26.2 = (7 : Int)))) && x29)) (yG x26.1 l0)).bind fun x32 =>
  some (x29 && ((decide (x26.2 = (7 : Int))) || ((decide (x26.2 = (0 : Int))) && x32))))

noncomputable def tH (l0 : (List aC)) (cJ : Int) (p5 : (List bX)) (dV : List aC) (i8 : Int) : Option ((List aC × Int) ⊕ ((List aC))) :=
  some (.inl (dV, IntKind.i64.wrap (i8 + (1 : Int))))

noncomputable def pX (l0 : (List aC)) (cJ : Int) (p5 : (List bX)) (i8 : Int) (dV : List aC) (k9 : Int) : Option ((List aC × Int) ⊕ ((List aC))) :=
  bA (0 ≤ i8 ∧ i8 < ((List.length p5 : Nat) : Int)) <|
  cond (decide (k9 < ((List.length ((List.getD p5 (Int.toNat i8) default).Rows) : Nat) : Int)))
  (bA (0 ≤ i8 ∧ i8 < ((List.length p5 : Nat) : Int)) <|
  bA (0 ≤ k9 ∧ k9 < ((List.length ((List.getD p5 (Int.toNat i8) default).Rows) : Nat) : Int)) <|
  bA (0 ≤ i8 ∧ i8 < ((List.length p5 : Nat) : Int)) <|
  bA ((List.length dV + List.length ([aC.mk ((List.getD ((List.getD p5 (Int.toNat i8) default).Rows) (Int.toNat k9) default).Row) (((List.getD p5 (Int.toNat i8) default).Span).From) ((List.getD ((List.getD p5 (Int.toNat i8) default).Rows) (Int.toNat k9) default).N)])) * 40 ≤ 140737488355328 ∧ List.length dV + List.length ([aC.mk ((List.getD ((List.getD p5 (Int.toNat i8) default).Rows) (Int.toNat k9) default).Row) (((List.getD p5 (Int.toNat i8) default).Span).From) ((List.getD ((List.getD p5 (Int.toNat i8) default).Rows) (Int.toNat k9) default).N)]) ≤ 9223372036854775807) <|
  bA (0 ≤ i8 ∧ i8 < ((List.length p5 : Nat) : Int)) <|
  bA ((List.length (dV ++ ([aC.mk ((List.getD ((List.getD p5 (Int.toNat i8) default).Rows) (Int.toNat k9) default).Row) (((List.getD p5 (Int.toNat i8) default).Span).From) ((List.getD ((List.getD p5 (Int.toNat i8) default).Rows) (Int.toNat k9) default).N)])) + List.length ([aC.mk ((List.getD ((List.getD p5 (Int.toNat i8) default).Rows) (Int.toNat k9) default).Row) (((List.getD p5 (Int.toNat i8) default).Span).To) (IntKind.i64.wrap (0 - ((List.getD ((List.getD p5 (Int.toNat i8) default).Rows) (Int.toNat k9) default).N)))])) * 40 ≤ 140737488355328 ∧ List.length (dV ++ ([aC.mk ((List.getD ((List.getD p5 (Int.toNat i8) default).Rows) (Int.toNat k9) default).Row) (((List.getD p5 (Int.toNat i8) default).Span).From) ((List.getD ((List.getD p5 (Int.toNat i8) default).Rows) (Int.toNat k9) default).N)])) + List.length ([aC.mk ((List.getD ((List.getD p5 (Int.toNat i8) default).Rows) (Int.toNat k9) default).Row) (((List.getD p5 (Int.toNat i8) default).Span).To) (IntKind.i64.wrap (0 - ((List.getD ((List.getD p5 (Int.toNat i8) default).Rows) (Int.toNat k9) default).N)))]) ≤ 9223372036854775807) <|
  some (.inl ((dV ++ ([aC.mk ((List.getD ((List.getD p5 (Int.toNat i8) default).Rows) (Int.toNat k9) default).Row) (((List.getD p5 (Int.toNat i8) default).Span).From) ((List.getD ((List.getD p5 (Int.toNat i8) default).Rows) (Int.toNat k9) default).N)])) ++ ([aC.mk ((List.getD ((List.getD p5 (Int.toNat i8) default).Rows) (Int.toNat k9) default).Row) (((List.getD p5 (Int.toNat i8) default).Span).To) (IntKind.i64.wrap (0 - ((List.getD ((List.getD p5 (Int.toNat i8) default).Rows) (Int.toNat k9) default).N)))]), IntKind.i64.wrap (k9 + (1 : Int)))))
  (some (.inr dV))

noncomputable def vK (l0 : (List aC)) (cJ : Int) (p5 : (List bX)) (dV : List aC) (i8 : Int) (k9 : Int) : Option ((List aC × Int) ⊕ ((List aC))) :=
  (lp (fun s => pX l0 cJ p5 i8 s.1 s.2) (dV, k9)).bind (fun rr => tH l0 cJ p5 rr i8)

noncomputable def pY (l0 : (List aC)) (cJ : Int) (p5 : (List bX)) (dV : List aC) (i8 : Int) : Option ((List aC × Int) ⊕ ((List aC))) :=
  cond (decide (i8 < ((List.length p5 : Nat) : Int)))
  (vK l0 cJ p5 dV i8 (0 : Int))
  (some (.inr dV))

noncomputable def vH (l0 : (List aC)) (cJ : Int) (p5 : (List bX)) (dV : List aC) (i8 : Int) : Option Bool :=
  (lp (fun s => pY l0 cJ p5 s.1 s.2) (dV, i8)).bind (fun rr => tI l0 cJ rr)

noncomputable def wL (l0 : (List aC)) (cJ : Int) : Option Bool :=
  (DS l0).bind fun x1 =>
  cond (!x1)
  ((sS ).bind fun x5 =>
  some x5)
  ((vQ l0 cJ).bind fun x8 =>
  cond (!decide (x8.2 = (0 : Int)))
  ((sS ).bind fun x12 =>
  some (x12 && (decide (((List.length x8.1 : Nat) : Int) = (0 : Int)))))
  (vH l0 cJ x8.1 ([] : List aC) (0 : Int)))

end Go.Abs
namespace Go.Abs
open Go Go.RowKit
def FT (x : aI) : Prop := EV x.Kind ∧ EV x.Num ∧ (fun s => s.size ≤ maxLen) x.Text ∧ True

def AK (x : aC) : Prop := (fun l => (∀ a ∈ l, FT a) ∧ l.length * 32 ≤ 140737488351232) x.Row ∧ EV x.At ∧ EV x.Net ∧ True

end Go.Abs
namespace Go.Abs
open Go Go.RowKit Go.Proofs
noncomputable def tt : TT := ⟨aBC Tryz.prog, WR Tryz.prog⟩

theorem aG : iS Tryz.prog tt := iS.of Tryz.prog

theorem aAe (l0 : (List aC)) (r : Bool) (h0 : DS l0 = some r) : cO Tryz.prog 4 [(eL aD l0)] (aJ r) := by
 intro H0
 refine cP Tryz.func4 ?_
 have hO := aK.start H0
 unfold DS at h0
 refine aS aG 1 [] [] ?_
 refine cH aG 4 [(2, (aJ (decide ((lN l0) ≤ (60 : Int)))))] ?_
 refine bL ?_
 obtain rfl := oI h0
 exact aH (Q_r hO)

theorem HN (l0 : (List aC)) (r : (List aC)) (h0 : tT l0 = some r) : cO Tryz.prog 38 [(eL aD l0)] (.fn (.func 65) [] [(.rp (eL aD r))]) := by
 intro H0
 refine cP Tryz.func38 ?_
 have hO := aK.start H0
 unfold tT at h0
 refine aO ?_
 refine aT aG 2 ?_
 refine qG 1 (eL aD l0) (by kernel_rfl) (by kernel_rfl) ?_
 refine bC ?_
 refine bD [(1, (.rp (eL aD l0)))] ?_
 refine cH aG 2 [(2, (.fn (.func 65) [] [(.rp (eL aD l0))]))] ?_
 refine bL ?_
 obtain rfl := oI h0
 exact aH (mB (x := (.fn (.func 65) [] [(.rp (eL aD l0))])) (by kernel_rfl) (aL.refl _) ⟨rfl, hO.out⟩)

theorem BB (s10 : (List aI)) (s21 : (List aI)) (r : Bool) (h0 : mC s10 s21 = some r) : cO Tryz.prog 86 [(eL aN s10), (eL aN s21)] (aJ r) := by
 intro H0
 refine cP Tryz.func86 ?_
 have hO := aK.start H0
 unfold mC at h0
 refine aS aG 1 [] [] ?_
 refine aO ?_
 refine aS aG 5 [] [(10, (aJ (!decide ((lN s10) = (lN s21)))))] ?_
 refine bE h0 (fun h0 => ?_) (fun h0 => ?_)
 ·refine cH aG 1 [(4, (aJ false))] ?_
  refine bL ?_
  obtain rfl := oI h0
  exact aH (bB (Q_r hO))
 refine bG ?_
 refine bD [(0, (eL aN s10)), (1, (eL aN s21))] ?_
 refine dA (fun T H => Has T [] ∧ aK ⟨H0, [], []⟩ H [] ∧ iH  = some r) ?_ ?_
 ·clear hO h0
  rintro T H ⟨hT, hO, h0⟩
  refine aY hT ?_
  clear hT
  unfold iH at h0
  refine cH aG 1 [(4, (aJ true))] ?_
  refine bL ?_
  obtain rfl := oI h0
  exact aH (Q_r hO)
 refine aS aG 3 [] [(12, (eI (lN s10))), (13, (eI (0 : Int)))] ?_
 refine bN 0 ?_
 refine dK [(0, (eL aN s10)), (1, (eL aN s21)), (12, (eI (lN s10))), (13, (eI (0 : Int)))] ?_
 refine cQ (fun T H => ∃ t12 : Int, ∃ t13 : Int, Has T [(0, (eL aN s10)), (1, (eL aN s21)), (12, (eI t12)), (13, (eI t13))] ∧ aK ⟨H0, [], []⟩ H [] ∧ lT s10 s21 t12 t13 = some r) ?_ ⟨(lN s10), (0 : Int), .eq (by kernel_rfl), hO, h0⟩
 clear hO h0
 rintro T H ⟨t12, t13, hT, hO, h0⟩
 refine aY hT ?_
 clear hT
 unfold lT at h0
 obtain ⟨rr0, hl0, h0⟩ := aW h0
 refine cB (by kernel_rfl) (fun (s : Int) T H => Has T [(0, (eL aN s10)), (1, (eL aN s21)), (12, (eI t12)), (13, (eI s))] ∧ aK ⟨H0, [], []⟩ H []) hl0 ⟨.eq (by kernel_rfl), hO⟩ ?_
 clear hO
 rintro k0 s out1 T H ⟨hT, hO⟩ h1 ho0
 obtain ⟨t13, rfl⟩ : ∃ x, x = s := ⟨_, rfl⟩
 replace h1 : fR s10 s21 t12 t13 = some out1 := h1
 refine aY hT ?_
 clear hT
 unfold fR at h1
 refine aS aG 1 [] [(14, (aJ (decide (t13 < t12))))] ?_
 refine aO ?_
 refine bE h1 (fun h1 => ?_) (fun h1 => ?_)
 ·refine bG ?_
  refine bD [(0, (eL aN s10)), (1, (eL aN s21)), (12, (eI t12)), (13, (eI t13))] ?_
  refine aO ?_
  refine bN 1 ?_
  refine aS aG 2 [] [(5, (eI t13))] ?_
  refine aO ?_
  refine eR (eP [19, 23]) aG 9 ?_
  obtain ⟨c3, h1⟩ := aX h1
  obtain ⟨c4, h1⟩ := aX h1
  refine VJ (Ds := [0 ≤ t13 ∧ t13 < (lN s10), 0 ≤ t13 ∧ t13 < (lN s21)]) (by kernel_rfl) ⟨c3, c4, trivial⟩ ?_
  refine bP [5] [(24, (aJ (!((decide (((gD s10 t13).Kind) = ((gD s21 t13).Kind))) && ((decide (((gD s10 t13).Num) = ((gD s21 t13).Num))) && ((tP ((gD s10 t13).Text) ((gD s21 t13).Text)) && true))))))] ?_
  refine bE h1 (fun h1 => ?_) (fun h1 => ?_)
  ·refine cH aG 1 [(4, (aJ false))] ?_
   refine bL ?_
   obtain rfl := oI h1
   obtain rfl : _ = rr0 := ho0
   replace h0 : some false = some r := h0
   obtain rfl := oI h0
   exact aH (bT (bB (bB (bT (bB (Q_r hO))))))
  refine bG ?_
  refine gV [(0, (eL aN s10)), (1, (eL aN s21)), (12, (eI t12)), (13, (eI t13))] ?_
  refine aH (aU (aF (?_)))
  refine aT aG 2 ?_
  refine bC ?_
  exact aH (aF (⟨rfl, _, (oI h1).symm, .eq (by kernel_rfl), hO⟩))
 refine dW 0 ?_
 obtain rfl := oI h1
 obtain rfl : _ = rr0 := ho0
 replace h0 : iH  = some r := h0
 exact aH (aR (aR (bF (aF (⟨rfl, .eq (by kernel_rfl), hO, h0⟩)))))

theorem aA8 (a0 : (List aI)) (b1 : (List aI)) (r : Bool) (h0 : CO a0 b1 = some r) : cO Tryz.prog 66 [(eL aN a0), (eL aN b1)] (aJ r) := by
 intro H0
 refine cP Tryz.func66 ?_
 have hO := aK.start H0
 unfold CO at h0
 refine aS aG 1 [] [] ?_
 refine aO ?_
 refine aT aG 4 ?_
 refine bI 2 ?_
 obtain ⟨x1, hx2, h0⟩ := aW h0
 refine dS (BB a0 b1 _ hx2) hO ?_
 intro H hO
 refine bC ?_
 refine bD [(4, (aJ x1))] ?_
 refine bL ?_
 obtain rfl := oI h0
 exact aH (Q_r hO)

theorem QA (r0 : (List aI)) (r : (List aI)) (h0 : zI r0 = some r) : cO Tryz.prog 67 [(eL aN r0)] (eL aN r) := by
 intro H0
 refine cP Tryz.func67 ?_
 have hO := aK.start H0
 unfold zI at h0
 refine aS aG 1 [] [] ?_
 refine aO ?_
 refine aT aG 6 ?_
 refine bI 2 ?_
 obtain ⟨c1, h0⟩ := aX h0
 refine aAL 3 32 (lN r0) (by kernel_rfl) (by kernel_rfl) c1 hO ?_
 intro lo2 H hO
 refine bI 4 ?_
 obtain ⟨c4, h0⟩ := aX h0
 refine zP (e := aN) ([] : List aI) r0 0 lo2 3 32 (eL aN r0) (fun lo3 => [(lo3, 3, List.map aN (([] : List aI) ++ r0))]) (by kernel_rfl) (by kernel_rfl) hO (by kernel_rfl) (HP (fun _ => by kernel_rfl)) c4 (fun _ => by kernel_rfl) ?_
 intro lo3 H hO
 refine bC ?_
 refine bD [(2, (.msl 3 lo3 0 (List.length (([] : List aI) ++ r0))))] ?_
 refine bL ?_
 refine gV [(2, (.msl 3 lo3 0 (List.length (([] : List aI) ++ r0))))] ?_
 refine BM (en := aN) (([] : List aI) ++ r0) 0 0 2 3 lo3 (List.length (([] : List aI) ++ r0)) hO (by kernel_rfl) (by kernel_rfl) (by kernel_rfl) (L' := []) (by kernel_rfl) ?_
 intro H5 hO
 obtain rfl := oI h0
 exact aH (Q_r hO)

theorem CV {σ : Type} (I : σ → Gs → Prop) (yield0_b : Nat) (iI : σ → (List aI) → (List aB) → Option (σ × Bool)) (yield0_h : ∀ st a0 a1 st2 r, iI st a0 a1 = some (st2, r) → NC Tryz.prog (yv yield0_b) I st [(eL aN a0), (eL aE a1)] st2 (aJ r)) (t1 : (List aC)) (sg0 : σ) (r : σ) (h0 : rI iI t1 sg0 = some r) : FK Tryz.prog 65 I sg0 [(yv yield0_b), (.rp (eL aD t1))] r (.tup []) := by
 intro H0 G0 hI hg
 refine cP Tryz.func65 ?_
 obtain ⟨G, hO, hI⟩ : ∃ G, aK ⟨H0, List.map (fun p : Nat × eN => p.1) G0, G⟩ H0 [] ∧ I sg0 G := ⟨G0, aK.PX hg, hI⟩
 clear hg
 unfold rI at h0
 refine aS aG 1 [] [(3, (eI (0 : Int)))] ?_
 refine bN 0 ?_
 refine dK [(0, (yv yield0_b)), (1, (.rp (eL aD t1))), (3, (eI (0 : Int)))] ?_
 refine cQ (fun T H => ∃ sg : σ, ∃ i3 : Int, ∃ G : Gs, Has T [(0, (yv yield0_b)), (1, (.rp (eL aD t1))), (3, (eI i3))] ∧ aK ⟨H0, List.map (fun p : Nat × eN => p.1) G0, G⟩ H [] ∧ I sg G ∧ wJ iI sg t1 i3 = some r) ?_ ⟨sg0, (0 : Int), G, .eq (by kernel_rfl), hO, hI, h0⟩
 clear hO hI h0
 rintro T H ⟨sg, i3, G, hT, hO, hI, h0⟩
 refine aY hT ?_
 clear hT
 unfold wJ at h0
 obtain ⟨rr0, hl0, h0⟩ := aW h0
 refine cB (by kernel_rfl) (fun (s : σ × Int) T H => ∃ G : Gs, Has T [(0, (yv yield0_b)), (1, (.rp (eL aD t1))), (3, (eI s.2))] ∧ aK ⟨H0, List.map (fun p : Nat × eN => p.1) G0, G⟩ H [] ∧ I s.1 G) hl0 ⟨G, .eq (by kernel_rfl), hO, hI⟩ ?_
 clear hO hI
 rintro k0 s out1 T H ⟨G, hT, hO, hI⟩ h1 ho0
 obtain ⟨sg, i3⟩ := s
 replace h1 : kE iI t1 sg i3 = some out1 := h1
 try dsimp only at hT
 refine aY hT ?_
 clear hT
 unfold kE at h1
 refine aO ?_
 refine aS aG 4 [] [(9, (aJ (decide (i3 < (lN t1)))))] ?_
 refine bE h1 (fun h1 => ?_) (fun h1 => ?_)
 ·refine bG ?_
  refine bD [(0, (yv yield0_b)), (1, (.rp (eL aD t1))), (3, (eI i3))] ?_
  refine bN 1 ?_
  refine aO ?_
  refine aT aG 6 ?_
  obtain ⟨c2, h1⟩ := aX h1
  refine qL [0 ≤ i3 ∧ i3 < (lN t1)] ⟨c2, trivial⟩ ?_
  refine bP [] [(4, (eL aN ((gD t1 i3).Row)))] ?_
  refine aO ?_
  refine aT aG 2 ?_
  refine rX (xs := []) (k := 2) (by kernel_rfl) (by kernel_rfl) ?_
  refine bC ?_
  refine bP [] [(5, (.sl true 0 (fun _ => .bad)))] ?_
  refine dA (fun T H => ∃ sg : σ, ∃ i3 : Int, ∃ r4 : (List aI), ∃ f5 : List aB, ∃ lo3 : Nat, ∃ G : Gs, Has T [(0, (yv yield0_b)), (1, (.rp (eL aD t1))), (3, (eI i3)), (4, (eL aN r4)), (5, (.msl 2 lo3 0 (List.length f5)))] ∧ aK ⟨H0, List.map (fun p : Nat × eN => p.1) G0, G⟩ H [(lo3, 2, List.map aE f5)] ∧ I sg G ∧ uD iI sg t1 i3 r4 f5 = some out1) ?_ ?_
  ·clear hO hI h1
   rintro T H ⟨sg, i3, r4, f5, lo3, G, hT, hO, hI, h1⟩
   refine aY hT ?_
   clear hT
   unfold uD at h1
   refine aO ?_
   refine aT aG 6 ?_
   refine BO (e := aE) f5 0 5 2 lo3 (List.length f5) [] (by kernel_rfl) hO (by kernel_rfl) (by kernel_rfl) (by kernel_rfl) (by kernel_rfl) ?_
   intro H hO
   refine bI 2 ?_
   obtain ⟨x7, hx8, h1⟩ := aW h1
   refine dS (QA r4 _ hx8) hO ?_
   intro H hO
   refine bI 4 ?_
   obtain ⟨x10, hx11, h1⟩ := aW h1
   refine aAu (I := I) (yv yield0_b) [(eL aN x7), (eL aE f5)] (aJ x10.2) (by kernel_rfl) (by kernel_rfl) (yield0_h _ x7 f5 x10.1 x10.2 hx11) hO hI ?_
   intro G H hO hI
   refine bC ?_
   refine bP [4, 5] [(50, (aJ (!x10.2)))] ?_
   refine bE h1 (fun h1 => ?_) (fun h1 => ?_)
   ·refine bL ?_
    obtain rfl := oI h1
    obtain rfl : _ = rr0 := ho0
    replace h0 : some x10.1 = some r := h0
    obtain rfl := oI h0
    exact aH (bT (bB (bT (mB (x := (.tup [])) (by kernel_rfl) (aL.refl _) ⟨rfl, G, hI, hO.LD⟩))))
   refine bG ?_
   exact aH (aU (aF (⟨rfl, _, (oI h1).symm, _, .eq (by kernel_rfl), hO, hI⟩)))
  refine bN 2 ?_
  refine dK [(0, (yv yield0_b)), (1, (.rp (eL aD t1))), (3, (eI i3)), (4, (eL aN ((gD t1 i3).Row))), (5, (.sl true 0 (fun _ => .bad)))] ?_
  refine IK (el := (fun _ => .bad)) 4 5 2 hO (by kernel_rfl) ?_
  intro lo24 H25 hO
  refine cQ (fun T H => ∃ sg : σ, ∃ i3 : Int, ∃ r4 : (List aI), ∃ f5 : List aB, ∃ lo14 : Nat, ∃ G : Gs, Has T [(0, (yv yield0_b)), (1, (.rp (eL aD t1))), (3, (eI i3)), (4, (eL aN r4)), (5, (.msl 2 lo14 0 (List.length f5)))] ∧ aK ⟨H0, List.map (fun p : Nat × eN => p.1) G0, G⟩ H [(lo14, 2, List.map aE f5)] ∧ I sg G ∧ wE iI sg t1 i3 r4 f5 = some out1) ?_ ⟨sg, i3, (gD t1 i3).Row, ([] : List aB), lo24, G, .eq (by kernel_rfl), hO, hI, h1⟩
  clear hO hI h1
  rintro T H ⟨sg, i3, r4, f5, lo14, G, hT, hO, hI, h1⟩
  refine aY hT ?_
  clear hT
  unfold wE at h1
  obtain ⟨rr1, hl1, h1⟩ := aW h1
  refine cB (by kernel_rfl) (fun (s : σ × Int × List aB) T H => ∃ lo14 : Nat, ∃ G : Gs, Has T [(0, (yv yield0_b)), (1, (.rp (eL aD t1))), (3, (eI s.2.1)), (4, (eL aN r4)), (5, (.msl 2 lo14 0 (List.length s.2.2)))] ∧ aK ⟨H0, List.map (fun p : Nat × eN => p.1) G0, G⟩ H [(lo14, 2, List.map aE s.2.2)] ∧ I s.1 G) hl1 ⟨lo14, G, .eq (by kernel_rfl), hO, hI⟩ ?_
  clear hO hI
  rintro k1 s out2 T H ⟨lo14, G, hT, hO, hI⟩ h2 ho1
  obtain ⟨sg, i3, f5⟩ := s
  replace h2 : mA iI t1 r4 sg i3 f5 = some out2 := h2
  try dsimp only at hT
  refine aY hT ?_
  clear hT
  unfold mA at h2
  refine aO ?_
  refine aO ?_
  refine aT aG 13 ?_
  obtain ⟨c15, h2⟩ := aX h2
  refine BC 11 [(((decide (i3 < (lN t1)))) = true → 0 ≤ i3 ∧ i3 < (lN t1))] ⟨c15, trivial⟩ ?_
  obtain ⟨x16, hx17, h2⟩ := aW h2
  refine vN [(20, true)] 66 [(eL aN ((gD t1 i3).Row)), (eL aN r4)] (aJ x16) (decide (i3 < (lN t1))) (by kernel_rfl) (by kernel_rfl) (by kernel_rfl) (fun hb18 => (aA8 ((gD t1 i3).Row) r4 _ (pN hx17 hb18))) hO ?_
  intro H hO
  refine bC ?_
  refine bP [] [(28, (aJ ((decide (i3 < (lN t1))) && x16)))] ?_
  refine bE h2 (fun h2 => ?_) (fun h2 => ?_)
  ·refine bG ?_
   refine bD [(0, (yv yield0_b)), (1, (.rp (eL aD t1))), (3, (eI i3)), (4, (eL aN r4)), (5, (.msl 2 lo14 0 (List.length f5)))] ?_
   refine aO ?_
   refine bN 3 ?_
   refine eR (eP [32, 36, 37, 41, 43]) aG 15 ?_
   obtain ⟨c20, h2⟩ := aX h2
   obtain ⟨c21, h2⟩ := aX h2
   refine bQ 12 [0 ≤ i3 ∧ i3 < (lN t1), 0 ≤ i3 ∧ i3 < (lN t1)] ⟨c20, c21, trivial⟩ ?_
   refine PU (xs := [(aE (aB.mk ((gD t1 i3).At) ((gD t1 i3).Net)))]) (k := 2) (by kernel_rfl) (by kernel_rfl) ?_
   obtain ⟨c23, h2⟩ := aX h2
   refine MT (e := aE) f5 ([aB.mk ((gD t1 i3).At) ((gD t1 i3).Net)]) 0 lo14 2 16 (kD [(aE (aB.mk ((gD t1 i3).At) ((gD t1 i3).Net)))]) (fun lo22 => [(lo22, 2, List.map aE (f5 ++ ([aB.mk ((gD t1 i3).At) ((gD t1 i3).Net)])))]) (by kernel_rfl) (by kernel_rfl) hO (by kernel_rfl) (by kernel_rfl) c23 (fun _ => by kernel_rfl) ?_
   intro lo22 H hO
   refine jI ?_
   refine gV [(0, (yv yield0_b)), (1, (.rp (eL aD t1))), (3, (eI i3)), (4, (eL aN r4)), (5, (.msl 2 lo22 0 (List.length (f5 ++ ([aB.mk ((gD t1 i3).At) ((gD t1 i3).Net)])))))] ?_
   refine aH (aU (aF (?_)))
   refine aT aG 3 ?_
   refine bC ?_
   exact aH (aF (⟨rfl, _, (oI h2).symm, _, _, .eq (by kernel_rfl), hO, hI⟩))
  refine dW 2 ?_
  obtain rfl := oI h2
  obtain rfl : _ = rr1 := ho1
  replace h1 : uD iI sg t1 i3 r4 f5 = some out1 := h1
  exact aH (aR (aR (bF (aF (⟨rfl, _, _, _, _, _, _, .eq (by kernel_rfl), hO, hI, h1⟩)))))
 refine dW 0 ?_
 obtain rfl := oI h1
 obtain rfl : _ = rr0 := ho0
 replace h0 : some sg = some r := h0
 obtain rfl := oI h0
 exact aH (aR (aR (bF (rY (x := (.tup [])) (by kernel_rfl) (aL.refl _) ⟨rfl, G, hI, hO.LD⟩))))

theorem yT (s0 : (List aI)) (f1_f : Nat) (f1_a f1_c : List V) (f1 : aI → Option Bool) (f1_h : ∀ a0 r, f1 a0 = some r → cO Tryz.prog f1_f (f1_a ++ [(aN a0)] ++ f1_c) (aJ r)) (r : Int) (h0 : jV s0 f1 = some r) : cO Tryz.prog 45 [(eL aN s0), (.fn (.func f1_f) f1_a f1_c)] (eI r) := by
 intro H0
 refine cP Tryz.func45 ?_
 have hO := aK.start H0
 unfold jV at h0
 refine aS aG 1 [] [] ?_
 refine dA (fun T H => Has T [] ∧ aK ⟨H0, [], []⟩ H [] ∧ fY f1  = some r) ?_ ?_
 ·clear hO h0
  rintro T H ⟨hT, hO, h0⟩
  refine aY hT ?_
  clear hT
  unfold fY at h0
  refine cH aG 1 [(4, (eI (-1 : Int)))] ?_
  refine bL ?_
  obtain rfl := oI h0
  exact aH (Q_r hO)
 refine aS aG 3 [] [(7, (eI (lN s0))), (8, (eI (0 : Int)))] ?_
 refine bN 0 ?_
 refine dK [(0, (eL aN s0)), (1, (.fn (.func f1_f) f1_a f1_c)), (7, (eI (lN s0))), (8, (eI (0 : Int)))] ?_
 refine cQ (fun T H => ∃ t7 : Int, ∃ t8 : Int, Has T [(0, (eL aN s0)), (1, (.fn (.func f1_f) f1_a f1_c)), (7, (eI t7)), (8, (eI t8))] ∧ aK ⟨H0, [], []⟩ H [] ∧ jP f1 s0 t7 t8 = some r) ?_ ⟨(lN s0), (0 : Int), .eq (by kernel_rfl), hO, h0⟩
 clear hO h0
 rintro T H ⟨t7, t8, hT, hO, h0⟩
 refine aY hT ?_
 clear hT
 unfold jP at h0
 obtain ⟨rr0, hl0, h0⟩ := aW h0
 refine cB (by kernel_rfl) (fun (s : Int) T H => Has T [(0, (eL aN s0)), (1, (.fn (.func f1_f) f1_a f1_c)), (7, (eI t7)), (8, (eI s))] ∧ aK ⟨H0, [], []⟩ H []) hl0 ⟨.eq (by kernel_rfl), hO⟩ ?_
 clear hO
 rintro k0 s out1 T H ⟨hT, hO⟩ h1 ho0
 obtain ⟨t8, rfl⟩ : ∃ x, x = s := ⟨_, rfl⟩
 replace h1 : jT f1 s0 t7 t8 = some out1 := h1
 refine aY hT ?_
 clear hT
 unfold jT at h1
 refine aS aG 1 [] [(9, (aJ (decide (t8 < t7))))] ?_
 refine aO ?_
 refine bE h1 (fun h1 => ?_) (fun h1 => ?_)
 ·refine bG ?_
  refine bD [(0, (eL aN s0)), (1, (.fn (.func f1_f) f1_a f1_c)), (7, (eI t7)), (8, (eI t8))] ?_
  refine aO ?_
  refine bN 1 ?_
  refine aS aG 2 [] [(5, (eI t8))] ?_
  refine aO ?_
  refine aT aG 6 ?_
  obtain ⟨c2, h1⟩ := aX h1
  refine BC 5 [0 ≤ t8 ∧ t8 < (lN s0)] ⟨c2, trivial⟩ ?_
  obtain ⟨x3, hx4, h1⟩ := aW h1
  refine dS (f1_h (gD s0 t8) _ hx4) hO ?_
  intro H hO
  refine dG ?_
  refine bP [] [(16, (aJ x3))] ?_
  refine bE h1 (fun h1 => ?_) (fun h1 => ?_)
  ·refine cH aG 2 [(4, (eI t8))] ?_
   refine bL ?_
   obtain rfl := oI h1
   obtain rfl : _ = rr0 := ho0
   replace h0 : some t8 = some r := h0
   obtain rfl := oI h0
   exact aH (bT (bB (bB (bT (bB (Q_r hO))))))
  refine bG ?_
  refine gV [(0, (eL aN s0)), (1, (.fn (.func f1_f) f1_a f1_c)), (7, (eI t7)), (8, (eI t8))] ?_
  refine aH (aU (aF (?_)))
  refine aT aG 2 ?_
  refine bC ?_
  exact aH (aF (⟨rfl, _, (oI h1).symm, .eq (by kernel_rfl), hO⟩))
 refine dW 0 ?_
 obtain rfl := oI h1
 obtain rfl : _ = rr0 := ho0
 replace h0 : fY f1  = some r := h0
 exact aH (aR (aR (bF (aF (⟨rfl, .eq (by kernel_rfl), hO, h0⟩)))))

theorem xC (s0 : (List aI)) (f1_f : Nat) (f1_a f1_c : List V) (f1 : aI → Option Bool) (f1_h : ∀ a0 r, f1 a0 = some r → cO Tryz.prog f1_f (f1_a ++ [(aN a0)] ++ f1_c) (aJ r)) (r : Bool) (h0 : fP s0 f1 = some r) : cO Tryz.prog 41 [(eL aN s0), (.fn (.func f1_f) f1_a f1_c)] (aJ r) := by
 intro H0
 refine cP Tryz.func41 ?_
 have hO := aK.start H0
 unfold fP at h0
 refine aS aG 1 [] [] ?_
 refine aO ?_
 refine aT aG 5 ?_
 refine bI 2 ?_
 obtain ⟨x1, hx2, h0⟩ := aW h0
 refine dS (yT s0 f1_f f1_a f1_c f1 f1_h _ hx2) hO ?_
 intro H hO
 refine bC ?_
 refine bD [(4, (aJ (decide ((0 : Int) ≤ x1))))] ?_
 refine bL ?_
 obtain rfl := oI h0
 exact aH (Q_r hO)

theorem CB (v0 : aI) (r : (bM × Bool)) (h0 : qK v0 = some r) : cO Tryz.prog 68 [(aN v0)] (.tup [(bH r.1), (aJ r.2)]) := by
 intro H0
 refine cP Tryz.func68 ?_
 have hO := aK.start H0
 unfold qK at h0
 refine aO ?_
 refine aT aG 3 ?_
 refine qG 3 (aN v0) (by kernel_rfl) (by kernel_rfl) ?_
 refine bC ?_
 refine bD [(1, (.rp (aN v0)))] ?_
 refine aO ?_
 refine bN 0 ?_
 refine aS aG 9 [] [(4, (aJ ((decide (v0.Kind = (1 : Int))) && (tP v0.Text (⟨#[]⟩ : ByteArray)))))] ?_
 refine bE h0 (fun h0 => ?_) (fun h0 => ?_)
 ·refine cH aG 5 [(2, (bH (bM.k_number v0.Num))), (3, (aJ true))] ?_
  refine bL ?_
  obtain rfl := oI h0
  exact aH (bT (bB (Q_r hO)))
 refine aS aG 15 [4] [(16, (aJ (((decide (v0.Kind = (2 : Int))) && (decide (v0.Num = (0 : Int)))) && (decide (((ByteArray.size v0.Text : Nat) : Int) ≤ (64 : Int))))))] ?_
 refine bE h0 (fun h0 => ?_) (fun h0 => ?_)
 ·refine cH aG 5 [(2, (bH (bM.k_words v0.Text))), (3, (aJ true))] ?_
  refine bL ?_
  obtain rfl := oI h0
  exact aH (bT (bB (Q_r hO)))
 refine bG ?_
 refine gV [] ?_
 refine aH (aU (aF (?_)))
 refine cH aG 2 [(2, (bH bM.none_)), (3, (aJ false))] ?_
 refine bL ?_
 obtain rfl := oI h0
 exact aH (Q_r hO)

theorem ZN (v0 : aI) (r : Bool) (h0 : AE v0 = some r) : cO Tryz.prog 43 [(aN v0)] (aJ r) := by
 intro H0
 refine cP Tryz.func43 ?_
 have hO := aK.start H0
 unfold AE at h0
 refine aO ?_
 refine aT aG 2 ?_
 refine qG 3 (aN v0) (by kernel_rfl) (by kernel_rfl) ?_
 refine bC ?_
 refine bD [(1, (.rp (aN v0)))] ?_
 refine aO ?_
 refine aT aG 7 ?_
 refine bI 1 ?_
 obtain ⟨⟨x1_0, x1_1⟩, hx2, h0⟩ := aW h0
 refine dS (CB v0 _ hx2) hO ?_
 intro H hO
 rcases x1_0 with _ | y4 | y5
 ·replace h0 : (some x1_1) = some r := h0
  refine bC ?_
  refine bD [(4, (aJ x1_1))] ?_
  refine cH aG 2 [(2, (aJ x1_1))] ?_
  refine bL ?_
  obtain rfl := oI h0
  exact aH (Q_r hO)
 ·replace h0 : (some x1_1) = some r := h0
  refine bC ?_
  refine bD [(4, (aJ x1_1))] ?_
  refine cH aG 2 [(2, (aJ x1_1))] ?_
  refine bL ?_
  obtain rfl := oI h0
  exact aH (Q_r hO)
 ·replace h0 : (some x1_1) = some r := h0
  refine bC ?_
  refine bD [(4, (aJ x1_1))] ?_
  refine cH aG 2 [(2, (aJ x1_1))] ?_
  refine bL ?_
  obtain rfl := oI h0
  exact aH (Q_r hO)

theorem ZK (v0 : aI) (r : Bool) (h0 : AB v0 = some r) : cO Tryz.prog 42 [(aN v0)] (aJ r) := by
 intro H0
 refine cP Tryz.func42 ?_
 have hO := aK.start H0
 unfold AB at h0
 refine aO ?_
 refine aT aG 2 ?_
 refine qG 3 (aN v0) (by kernel_rfl) (by kernel_rfl) ?_
 refine bC ?_
 refine bD [(1, (.rp (aN v0)))] ?_
 refine aO ?_
 refine aT aG 4 ?_
 refine bI 1 ?_
 obtain ⟨x1, hx2, h0⟩ := aW h0
 refine dS (ZN v0 _ hx2) hO ?_
 intro H hO
 refine bC ?_
 refine bD [(2, (aJ (!x1)))] ?_
 refine bL ?_
 obtain rfl := oI h0
 exact aH (Q_r hO)

theorem GR (r0 : (List aI)) (r : Bool) (h0 : vZ r0 = some r) : cO Tryz.prog 18 [(eL aN r0)] (aJ r) := by
 intro H0
 refine cP Tryz.func18 ?_
 have hO := aK.start H0
 unfold vZ at h0
 refine aS aG 1 [] [] ?_
 refine aO ?_
 refine aS aG 3 [] [(5, (aJ (decide ((8 : Int) < (lN r0)))))] ?_
 refine bE h0 (fun h0 => ?_) (fun h0 => ?_)
 ·refine cH aG 1 [(2, (aJ false))] ?_
  refine bL ?_
  obtain rfl := oI h0
  exact aH (bB (Q_r hO))
 refine bG ?_
 refine bD [(0, (eL aN r0))] ?_
 refine aO ?_
 refine aT aG 4 ?_
 refine bI 1 ?_
 obtain ⟨x2, hx3, h0⟩ := aW h0
 refine dS (xC r0 42 [] [] (fun y0 => AB y0) (fun y0 r h => ZK y0 r h) _ hx3) hO ?_
 intro H hO
 refine bC ?_
 refine bD [(2, (aJ (!x2)))] ?_
 refine bL ?_
 obtain rfl := oI h0
 exact aH (Q_r hO)

theorem RE (t0 : (List aI)) (r : (Int × (List aI))) (h0 : xX t0 = some r) : CM Tryz.prog 46 [(.rp (eL aN t0))] (fun lo => (.fn (.func 47) [] [(.lp lo 0 0), (.rp (eL aN r.2))])) 1 [(eI r.1)] := by
 intro H0
 refine cP Tryz.func46 ?_
 have hO := aK.start H0
 unfold xX at h0
 refine aS aG 1 [] [] ?_
 refine aO ?_
 refine aT aG 2 ?_
 refine tE 1 (eI 0) (by kernel_rfl) (by kernel_rfl) hO ?_
 intro lo1 H hO
 refine rK 0 lo1 1 0 (eI 0) (eI (-1 : Int)) [(eI 0)] [(lo1, 1, [(eI (-1 : Int))])] hO rfl (by kernel_rfl) ?_
 intro H hO
 refine dG ?_
 refine bP [] [(2, (.lp lo1 0 0))] ?_
 refine aS aG 2 [0] [(1, (.fn (.func 47) [] [(.lp lo1 0 0), (.rp (eL aN t0))]))] ?_
 refine bL ?_
 obtain rfl := oI h0
 exact aH (mB (x := (.fn (.func 47) [] [(.lp lo1 0 0), (.rp (eL aN t0))])) (by kernel_rfl) (aL.refl _) ⟨lo1, rfl, hO⟩)

theorem xU {σ : Type} (I : σ → Gs → Prop) (s0 : (List aI)) (f1_v : V) (f1 : σ → aI → Option (σ × Bool)) (f1_h : ∀ st a0 st2 r, f1 st a0 = some (st2, r) → NC Tryz.prog f1_v I st [(aN a0)] st2 (aJ r)) (sg0 : σ) (r : (σ × Int)) (h0 : jG s0 f1 sg0 = some r) : FK Tryz.prog 45 I sg0 [(eL aN s0), f1_v] r.1 (eI r.2) := by
 intro H0 G0 hI hg
 refine cP Tryz.func45 ?_
 obtain ⟨G, hO, hI⟩ : ∃ G, aK ⟨H0, List.map (fun p : Nat × eN => p.1) G0, G⟩ H0 [] ∧ I sg0 G := ⟨G0, aK.PX hg, hI⟩
 clear hg
 unfold jG at h0
 refine aS aG 1 [] [] ?_
 refine dA (fun T H => ∃ sg : σ, ∃ G : Gs, Has T [] ∧ aK ⟨H0, List.map (fun p : Nat × eN => p.1) G0, G⟩ H [] ∧ I sg G ∧ fQ f1 sg = some r) ?_ ?_
 ·clear hO hI h0
  rintro T H ⟨sg, G, hT, hO, hI, h0⟩
  refine aY hT ?_
  clear hT
  unfold fQ at h0
  refine cH aG 1 [(4, (eI (-1 : Int)))] ?_
  refine bL ?_
  obtain rfl := oI h0
  exact aH (mB (x := (eI (-1 : Int))) (by kernel_rfl) (aL.refl _) ⟨rfl, G, hI, hO.LD⟩)
 refine aS aG 3 [] [(7, (eI (lN s0))), (8, (eI (0 : Int)))] ?_
 refine bN 0 ?_
 refine dK [(0, (eL aN s0)), (1, f1_v), (7, (eI (lN s0))), (8, (eI (0 : Int)))] ?_
 refine cQ (fun T H => ∃ sg : σ, ∃ t7 : Int, ∃ t8 : Int, ∃ G : Gs, Has T [(0, (eL aN s0)), (1, f1_v), (7, (eI t7)), (8, (eI t8))] ∧ aK ⟨H0, List.map (fun p : Nat × eN => p.1) G0, G⟩ H [] ∧ I sg G ∧ iV f1 sg s0 t7 t8 = some r) ?_ ⟨sg0, (lN s0), (0 : Int), G, .eq (by kernel_rfl), hO, hI, h0⟩
 clear hO hI h0
 rintro T H ⟨sg, t7, t8, G, hT, hO, hI, h0⟩
 refine aY hT ?_
 clear hT
 unfold iV at h0
 obtain ⟨rr0, hl0, h0⟩ := aW h0
 refine cB (by kernel_rfl) (fun (s : σ × Int) T H => ∃ G : Gs, Has T [(0, (eL aN s0)), (1, f1_v), (7, (eI t7)), (8, (eI s.2))] ∧ aK ⟨H0, List.map (fun p : Nat × eN => p.1) G0, G⟩ H [] ∧ I s.1 G) hl0 ⟨G, .eq (by kernel_rfl), hO, hI⟩ ?_
 clear hO hI
 rintro k0 s out1 T H ⟨G, hT, hO, hI⟩ h1 ho0
 obtain ⟨sg, t8⟩ := s
 replace h1 : cI f1 s0 t7 sg t8 = some out1 := h1
 try dsimp only at hT
 refine aY hT ?_
 clear hT
 unfold cI at h1
 refine aS aG 1 [] [(9, (aJ (decide (t8 < t7))))] ?_
 refine aO ?_
 refine bE h1 (fun h1 => ?_) (fun h1 => ?_)
 ·refine bG ?_
  refine bD [(0, (eL aN s0)), (1, f1_v), (7, (eI t7)), (8, (eI t8))] ?_
  refine aO ?_
  refine bN 1 ?_
  refine aS aG 2 [] [(5, (eI t8))] ?_
  refine aO ?_
  refine aT aG 6 ?_
  obtain ⟨c2, h1⟩ := aX h1
  refine BC 5 [0 ≤ t8 ∧ t8 < (lN s0)] ⟨c2, trivial⟩ ?_
  obtain ⟨x3, hx4, h1⟩ := aW h1
  refine aAu (I := I) f1_v [(aN (gD s0 t8))] (aJ x3.2) (by kernel_rfl) (by kernel_rfl) (f1_h _ (gD s0 t8) x3.1 x3.2 hx4) hO hI ?_
  intro G H hO hI
  refine dG ?_
  refine bP [] [(16, (aJ x3.2))] ?_
  refine bE h1 (fun h1 => ?_) (fun h1 => ?_)
  ·refine cH aG 2 [(4, (eI t8))] ?_
   refine bL ?_
   obtain rfl := oI h1
   obtain rfl : _ = rr0 := ho0
   replace h0 : some (x3.1, t8) = some r := h0
   obtain rfl := oI h0
   exact aH (bT (bB (bB (bT (bB (mB (x := (eI t8)) (by kernel_rfl) (aL.refl _) ⟨rfl, G, hI, hO.LD⟩))))))
  refine bG ?_
  refine gV [(0, (eL aN s0)), (1, f1_v), (7, (eI t7)), (8, (eI t8))] ?_
  refine aH (aU (aF (?_)))
  refine aT aG 2 ?_
  refine bC ?_
  exact aH (aF (⟨rfl, _, (oI h1).symm, _, .eq (by kernel_rfl), hO, hI⟩))
 refine dW 0 ?_
 obtain rfl := oI h1
 obtain rfl : _ = rr0 := ho0
 replace h0 : fQ f1 sg = some r := h0
 exact aH (aR (aR (bF (aF (⟨rfl, _, _, .eq (by kernel_rfl), hO, hI, h0⟩)))))

theorem NF (v0 : aI) (lo1p : Nat) (t1 : Int) (t2 : (List aI)) (r : (Bool × Int)) (h0 : nB v0 t1 t2 = some r) : iG Tryz.prog 47 lo1p 1 [(eI t1)] [(eI r.2)] [(aN v0), (.lp lo1p 0 0), (.rp (eL aN t2))] (aJ r.1) := by
 intro H0 hl0
 refine cP Tryz.func47 ?_
 have hO := aK.nP hl0
 clear hl0
 unfold nB at h0
 refine aO ?_
 refine aT aG 2 ?_
 refine qG 3 (aN v0) (by kernel_rfl) (by kernel_rfl) ?_
 refine bC ?_
 refine bP [0] [(3, (.rp (aN v0)))] ?_
 refine aO ?_
 refine aT aG 3 ?_
 refine uC 0 lo1p 1 0 (eI t1) (eI t1) [(eI t1)] hO rfl ?_
 refine bI 2 ?_
 refine rK 0 lo1p 1 0 (eI t1) (eI (wR (t1 + (1 : Int)))) [(eI t1)] [(lo1p, 1, [(eI (wR (t1 + (1 : Int))))])] hO rfl (by kernel_rfl) ?_
 intro H hO
 refine dG ?_
 refine bP [] [] ?_
 refine aO ?_
 refine eR (eP [7, 8, 11]) aG 7 ?_
 refine qV 2 ?_
 refine dN 0 lo1p 1 0 (eI (wR (t1 + (1 : Int)))) (eI (wR (t1 + (1 : Int)))) [(eI (wR (t1 + (1 : Int))))] hO rfl ?_
 obtain ⟨c1, h0⟩ := aX h0
 refine VJ (Ds := [0 ≤ (wR (t1 + (1 : Int))) ∧ (wR (t1 + (1 : Int))) < (lN t2)]) (by kernel_rfl) ⟨c1, trivial⟩ ?_
 refine bD [(1, (.lp lo1p 0 0)), (4, (aJ (!((decide (v0.Kind = ((gD t2 (wR (t1 + (1 : Int)))).Kind))) && ((decide (v0.Num = ((gD t2 (wR (t1 + (1 : Int)))).Num))) && ((tP v0.Text ((gD t2 (wR (t1 + (1 : Int)))).Text)) && true))))))] ?_
 refine bL ?_
 obtain rfl := oI h0
 exact aH (mB (x := (aJ (!((decide (v0.Kind = ((gD t2 (wR (t1 + (1 : Int)))).Kind))) && ((decide (v0.Num = ((gD t2 (wR (t1 + (1 : Int)))).Num))) && ((tP v0.Text ((gD t2 (wR (t1 + (1 : Int)))).Text)) && true)))))) (by kernel_rfl) (aL.refl _) ⟨rfl, hO.ext, hO.at 0 (by kernel_rfl), rfl⟩)

theorem xZ (x0 : Int) (r : Bool) (h0 : nQ x0 = some r) : cO Tryz.prog 49 [(eI x0)] (aJ r) := by
 intro H0
 refine cP Tryz.func49 ?_
 have hO := aK.start H0
 unfold nQ at h0
 refine aS aG 1 [] [] ?_
 refine cH aG 4 [(2, (aJ (!decide (x0 = x0))))] ?_
 refine bL ?_
 obtain rfl := oI h0
 exact aH (Q_r hO)

theorem zU (x0 : Int) (y1 : Int) (r : Int) (h0 : nD x0 y1 = some r) : cO Tryz.prog 25 [(eI x0), (eI y1)] (eI r) := by
 intro H0
 refine cP Tryz.func25 ?_
 have hO := aK.start H0
 unfold nD at h0
 refine aS aG 1 [] [] ?_
 refine aO ?_
 refine aT aG 3 ?_
 refine bI 1 ?_
 obtain ⟨x1, hx2, h0⟩ := aW h0
 refine dS (xZ x0 _ hx2) hO ?_
 intro H hO
 refine bC ?_
 refine bP [] [(5, (aJ x1))] ?_
 refine aO ?_
 refine aT aG 3 ?_
 refine bI 1 ?_
 obtain ⟨x4, hx5, h0⟩ := aW h0
 refine dS (xZ y1 _ hx5) hO ?_
 intro H hO
 refine bC ?_
 refine bP [] [(6, (aJ x4))] ?_
 refine aO ?_
 refine aS aG 1 [5] [(11, (aJ x1))] ?_
 refine bE h0 (fun h0 => ?_) (fun h0 => ?_)
 ·refine aO ?_
  refine cH aG 1 [(12, (aJ x4))] ?_
  refine bE h0 (fun h0 => ?_) (fun h0 => ?_)
  ·refine cH aG 1 [(4, (eI (0 : Int)))] ?_
   refine bL ?_
   obtain rfl := oI h0
   exact aH (bB (bB (Q_r hO)))
  refine bG ?_
  refine bD [] ?_
  refine cH aG 1 [(4, (eI (-1 : Int)))] ?_
  refine bL ?_
  obtain rfl := oI h0
  exact aH (bB (Q_r hO))
 refine bG ?_
 refine bD [(0, (eI x0)), (1, (eI y1)), (6, (aJ x4))] ?_
 refine aO ?_
 refine aS aG 1 [6] [(13, (aJ x4))] ?_
 refine bE h0 (fun h0 => ?_) (fun h0 => ?_)
 ·refine cH aG 1 [(4, (eI (1 : Int)))] ?_
  refine bL ?_
  obtain rfl := oI h0
  exact aH (bB (Q_r hO))
 refine bG ?_
 refine bD [(0, (eI x0)), (1, (eI y1))] ?_
 refine aO ?_
 refine aS aG 3 [] [(16, (aJ (decide (x0 < y1))))] ?_
 refine bE h0 (fun h0 => ?_) (fun h0 => ?_)
 ·refine cH aG 1 [(4, (eI (-1 : Int)))] ?_
  refine bL ?_
  obtain rfl := oI h0
  exact aH (bB (Q_r hO))
 refine bG ?_
 refine bD [(0, (eI x0)), (1, (eI y1))] ?_
 refine aO ?_
 refine cH aG 3 [(19, (aJ (decide (y1 < x0))))] ?_
 refine bE h0 (fun h0 => ?_) (fun h0 => ?_)
 ·refine cH aG 1 [(4, (eI (1 : Int)))] ?_
  refine bL ?_
  obtain rfl := oI h0
  exact aH (bB (Q_r hO))
 refine bG ?_
 refine bD [] ?_
 refine cH aG 1 [(4, (eI (0 : Int)))] ?_
 refine bL ?_
 obtain rfl := oI h0
 exact aH (Q_r hO)

theorem zC (x0 : Int) (r : Bool) (h0 : oJ x0 = some r) : cO Tryz.prog 88 [(eI x0)] (aJ r) := by
 intro H0
 refine cP Tryz.func88 ?_
 have hO := aK.start H0
 unfold oJ at h0
 refine aS aG 1 [] [] ?_
 refine cH aG 4 [(2, (aJ (!decide (x0 = x0))))] ?_
 refine bL ?_
 obtain rfl := oI h0
 exact aH (Q_r hO)

theorem ES (x0 : Int) (y1 : Int) (r : Int) (h0 : gU x0 y1 = some r) : cO Tryz.prog 71 [(eI x0), (eI y1)] (eI r) := by
 intro H0
 refine cP Tryz.func71 ?_
 have hO := aK.start H0
 unfold gU at h0
 refine aS aG 1 [] [] ?_
 refine aO ?_
 refine aT aG 3 ?_
 refine bI 1 ?_
 obtain ⟨x1, hx2, h0⟩ := aW h0
 refine dS (zC x0 _ hx2) hO ?_
 intro H hO
 refine bC ?_
 refine bP [] [(5, (aJ x1))] ?_
 refine aO ?_
 refine aT aG 3 ?_
 refine bI 1 ?_
 obtain ⟨x4, hx5, h0⟩ := aW h0
 refine dS (zC y1 _ hx5) hO ?_
 intro H hO
 refine bC ?_
 refine bP [] [(6, (aJ x4))] ?_
 refine aO ?_
 refine aS aG 1 [5] [(11, (aJ x1))] ?_
 refine bE h0 (fun h0 => ?_) (fun h0 => ?_)
 ·refine aO ?_
  refine cH aG 1 [(12, (aJ x4))] ?_
  refine bE h0 (fun h0 => ?_) (fun h0 => ?_)
  ·refine cH aG 1 [(4, (eI (0 : Int)))] ?_
   refine bL ?_
   obtain rfl := oI h0
   exact aH (bB (bB (Q_r hO)))
  refine bG ?_
  refine bD [] ?_
  refine cH aG 1 [(4, (eI (-1 : Int)))] ?_
  refine bL ?_
  obtain rfl := oI h0
  exact aH (bB (Q_r hO))
 refine bG ?_
 refine bD [(0, (eI x0)), (1, (eI y1)), (6, (aJ x4))] ?_
 refine aO ?_
 refine aS aG 1 [6] [(13, (aJ x4))] ?_
 refine bE h0 (fun h0 => ?_) (fun h0 => ?_)
 ·refine cH aG 1 [(4, (eI (1 : Int)))] ?_
  refine bL ?_
  obtain rfl := oI h0
  exact aH (bB (Q_r hO))
 refine bG ?_
 refine bD [(0, (eI x0)), (1, (eI y1))] ?_
 refine aO ?_
 refine aS aG 3 [] [(16, (aJ (decide (x0 < y1))))] ?_
 refine bE h0 (fun h0 => ?_) (fun h0 => ?_)
 ·refine cH aG 1 [(4, (eI (-1 : Int)))] ?_
  refine bL ?_
  obtain rfl := oI h0
  exact aH (bB (Q_r hO))
 refine bG ?_
 refine bD [(0, (eI x0)), (1, (eI y1))] ?_
 refine aO ?_
 refine cH aG 3 [(19, (aJ (decide (y1 < x0))))] ?_
 refine bE h0 (fun h0 => ?_) (fun h0 => ?_)
 ·refine cH aG 1 [(4, (eI (1 : Int)))] ?_
  refine bL ?_
  obtain rfl := oI h0
  exact aH (bB (Q_r hO))
 refine bG ?_
 refine bD [] ?_
 refine cH aG 1 [(4, (eI (0 : Int)))] ?_
 refine bL ?_
 obtain rfl := oI h0
 exact aH (Q_r hO)

theorem BD (a0 : ByteArray) (b1 : ByteArray) (r : Int) (h0 : mF a0 b1 = some r) : cO Tryz.prog 89 [(DL a0), (DL b1)] (eI r) := by
 intro H0
 refine cP Tryz.func89 ?_
 have hO := aK.start H0
 unfold mF at h0
 refine aS aG 1 [] [] ?_
 refine aO ?_
 refine aT aG 4 ?_
 refine bI 2 ?_
 refine aFp 98 [(DL a0), (DL b1)] (eI (RO a0 b1)) (by kernel_rfl) (by kernel_rfl) (aDK Tryz.func98 (by kernel_rfl) (by kernel_rfl) (by kernel_rfl) (by kernel_rfl) a0 b1) hO ?_
 intro H hO
 refine bC ?_
 refine bD [(4, (eI (RO a0 b1)))] ?_
 refine bL ?_
 obtain rfl := oI h0
 exact aH (Q_r hO)

theorem NJ (a0 : ByteArray) (b1 : ByteArray) (r : Int) (h0 : rN a0 b1 = some r) : cO Tryz.prog 72 [(DL a0), (DL b1)] (eI r) := by
 intro H0
 refine cP Tryz.func72 ?_
 have hO := aK.start H0
 unfold rN at h0
 refine aS aG 1 [] [] ?_
 refine aO ?_
 refine aT aG 4 ?_
 refine bI 2 ?_
 obtain ⟨x1, hx2, h0⟩ := aW h0
 refine dS (BD a0 b1 _ hx2) hO ?_
 intro H hO
 refine bC ?_
 refine bD [(4, (eI x1))] ?_
 refine bL ?_
 obtain rfl := oI h0
 exact aH (Q_r hO)

theorem QX (a0 : aI) (b1 : aI) (r : Int) (h0 : uT a0 b1 = some r) : cO Tryz.prog 48 [(aN a0), (aN b1)] (eI r) := by
 intro H0
 refine cP Tryz.func48 ?_
 have hO := aK.start H0
 unfold uT at h0
 refine aO ?_
 refine aT aG 3 ?_
 refine qG 3 (aN a0) (by kernel_rfl) (by kernel_rfl) ?_
 refine qG 3 (aN b1) (by kernel_rfl) (by kernel_rfl) ?_
 refine bC ?_
 refine bD [(2, (.rp (aN a0))), (3, (.rp (aN b1)))] ?_
 refine aO ?_
 refine aT aG 7 ?_
 refine bI 1 ?_
 obtain ⟨⟨x1_0, x1_1⟩, hx2, h0⟩ := aW h0
 refine dS (CB a0 _ hx2) hO ?_
 intro H hO
 rcases x1_0 with _ | y4 | y5
 ·replace h0 : ((qK b1).bind fun (x6_0, x6_1) => match x6_0 with | .none_ => (cond ((!x1_1) || (!x6_1)) (some (0 : Int)) (none)) | .k_number y9 => (cond ((!x1_1) || (!x6_1)) (some (0 : Int)) (some (1 : Int))) | .k_words y10 => (cond ((!x1_1) || (!x6_1)) (some (0 : Int)) (none))) = some r := h0
  refine bC ?_
  refine bP [2] [(5, (bH bM.none_)), (6, (aJ x1_1))] ?_
  refine aO ?_
  refine aT aG 7 ?_
  refine bI 1 ?_
  obtain ⟨⟨x6_0, x6_1⟩, hx7, h0⟩ := aW h0
  refine dS (CB b1 _ hx7) hO ?_
  intro H hO
  rcases x6_0 with _ | y9 | y10
  ·replace h0 : (cond ((!x1_1) || (!x6_1)) (some (0 : Int)) (none)) = some r := h0
   refine bC ?_
   refine bP [3] [(7, (bH bM.none_)), (8, (aJ x6_1))] ?_
   refine aO ?_
   refine aS aG 6 [6, 8] [(28, (aJ ((!x1_1) || (!x6_1))))] ?_
   refine bE h0 (fun h0 => ?_) (fun h0 => ?_)
   ·refine cH aG 1 [(4, (eI (0 : Int)))] ?_
    refine bL ?_
    obtain rfl := oI h0
    exact aH (bB (Q_r hO))
   refine bG ?_
   refine bD [(5, (bH bM.none_)), (7, (bH bM.none_))] ?_
   refine aS aG 7 [] [(9, (eI 0)), (10, (aJ false))] ?_
   refine aS aG 7 [] [(11, (eI 0)), (12, (aJ false))] ?_
   refine aO ?_
   refine bN 0 ?_
   refine aS aG 5 [] [(39, (aJ false))] ?_
   refine rG (false) (fun hc12 => ?_) (fun hc12 => ?_)
   ·cases hc12
   ·refine aS aG 2 [9, 10, 11, 39] [(47, (aJ false))] ?_
    refine rG (false) (fun hc13 => ?_) (fun hc13 => ?_)
    ·cases hc13
    ·refine cH aG 2 [(5, (bH bM.none_)), (7, (bH bM.none_)), (49, (aJ false))] ?_
     refine rG (false) (fun hc14 => ?_) (fun hc14 => ?_)
     ·cases hc14
     ·refine bG ?_
      refine gV [(5, (bH bM.none_)), (7, (bH bM.none_))] ?_
      refine aH (aU (aF (?_)))
      refine aO ?_
      refine eR (eP []) aG 6 ?_
      cases h0
  ·replace h0 : (cond ((!x1_1) || (!x6_1)) (some (0 : Int)) (some (1 : Int))) = some r := h0
   refine bC ?_
   refine bP [3] [(7, (bH (bM.k_number y9))), (8, (aJ x6_1))] ?_
   refine aO ?_
   refine aS aG 6 [6, 8] [(28, (aJ ((!x1_1) || (!x6_1))))] ?_
   refine bE h0 (fun h0 => ?_) (fun h0 => ?_)
   ·refine cH aG 1 [(4, (eI (0 : Int)))] ?_
    refine bL ?_
    obtain rfl := oI h0
    exact aH (bB (Q_r hO))
   refine bG ?_
   refine bD [(5, (bH bM.none_)), (7, (bH (bM.k_number y9)))] ?_
   refine aS aG 7 [] [(9, (eI 0)), (10, (aJ false))] ?_
   refine aS aG 7 [] [(11, (eI y9)), (12, (aJ true))] ?_
   refine aO ?_
   refine bN 0 ?_
   refine aS aG 5 [] [(39, (aJ false))] ?_
   refine rG (false) (fun hc16 => ?_) (fun hc16 => ?_)
   ·cases hc16
   ·refine aS aG 2 [9, 10, 11, 39] [(47, (aJ false))] ?_
    refine rG (false) (fun hc17 => ?_) (fun hc17 => ?_)
    ·cases hc17
    ·refine cH aG 2 [(5, (bH bM.none_)), (7, (bH (bM.k_number y9))), (49, (aJ true))] ?_
     refine rG (true) (fun hc18 => ?_) (fun hc18 => ?_)
     ·refine cH aG 1 [(4, (eI (1 : Int)))] ?_
      refine bL ?_
      obtain rfl := oI h0
      exact aH (bT (bB (Q_r hO)))
     ·cases hc18
  ·replace h0 : (cond ((!x1_1) || (!x6_1)) (some (0 : Int)) (none)) = some r := h0
   refine bC ?_
   refine bP [3] [(7, (bH (bM.k_words y10))), (8, (aJ x6_1))] ?_
   refine aO ?_
   refine aS aG 6 [6, 8] [(28, (aJ ((!x1_1) || (!x6_1))))] ?_
   refine bE h0 (fun h0 => ?_) (fun h0 => ?_)
   ·refine cH aG 1 [(4, (eI (0 : Int)))] ?_
    refine bL ?_
    obtain rfl := oI h0
    exact aH (bB (Q_r hO))
   refine bG ?_
   refine bD [(5, (bH bM.none_)), (7, (bH (bM.k_words y10)))] ?_
   refine aS aG 7 [] [(9, (eI 0)), (10, (aJ false))] ?_
   refine aS aG 7 [] [(11, (eI 0)), (12, (aJ false))] ?_
   refine aO ?_
   refine bN 0 ?_
   refine aS aG 5 [] [(39, (aJ false))] ?_
   refine rG (false) (fun hc20 => ?_) (fun hc20 => ?_)
   ·cases hc20
   ·refine aS aG 2 [9, 10, 11, 39] [(47, (aJ false))] ?_
    refine rG (false) (fun hc21 => ?_) (fun hc21 => ?_)
    ·cases hc21
    ·refine cH aG 2 [(5, (bH bM.none_)), (7, (bH (bM.k_words y10))), (49, (aJ false))] ?_
     refine rG (false) (fun hc22 => ?_) (fun hc22 => ?_)
     ·cases hc22
     ·refine bG ?_
      refine gV [(5, (bH bM.none_)), (7, (bH (bM.k_words y10)))] ?_
      refine aH (aU (aF (?_)))
      refine aO ?_
      refine eR (eP []) aG 6 ?_
      cases h0
 ·replace h0 : ((qK b1).bind fun (x23_0, x23_1) => match x23_0 with | .none_ => (cond ((!x1_1) || (!x23_1)) (some (0 : Int)) (some (-1 : Int))) | .k_number y26 => (cond ((!x1_1) || (!x23_1)) (some (0 : Int)) ((gU y4 y26).bind fun x33 => some x33)) | .k_words y27 => (cond ((!x1_1) || (!x23_1)) (some (0 : Int)) (some (-1 : Int)))) = some r := h0
  refine bC ?_
  refine bP [2] [(5, (bH (bM.k_number y4))), (6, (aJ x1_1))] ?_
  refine aO ?_
  refine aT aG 7 ?_
  refine bI 1 ?_
  obtain ⟨⟨x23_0, x23_1⟩, hx24, h0⟩ := aW h0
  refine dS (CB b1 _ hx24) hO ?_
  intro H hO
  rcases x23_0 with _ | y26 | y27
  ·replace h0 : (cond ((!x1_1) || (!x23_1)) (some (0 : Int)) (some (-1 : Int))) = some r := h0
   refine bC ?_
   refine bP [3] [(7, (bH bM.none_)), (8, (aJ x23_1))] ?_
   refine aO ?_
   refine aS aG 6 [6, 8] [(28, (aJ ((!x1_1) || (!x23_1))))] ?_
   refine bE h0 (fun h0 => ?_) (fun h0 => ?_)
   ·refine cH aG 1 [(4, (eI (0 : Int)))] ?_
    refine bL ?_
    obtain rfl := oI h0
    exact aH (bB (Q_r hO))
   refine bG ?_
   refine bD [(5, (bH (bM.k_number y4))), (7, (bH bM.none_))] ?_
   refine aS aG 7 [] [(9, (eI y4)), (10, (aJ true))] ?_
   refine aS aG 7 [] [(11, (eI 0)), (12, (aJ false))] ?_
   refine aO ?_
   refine bN 0 ?_
   refine aS aG 5 [] [(39, (aJ false))] ?_
   refine rG (false) (fun hc29 => ?_) (fun hc29 => ?_)
   ·cases hc29
   ·refine aS aG 2 [9, 10, 11, 39] [(47, (aJ true))] ?_
    refine rG (true) (fun hc30 => ?_) (fun hc30 => ?_)
    ·refine cH aG 1 [(4, (eI (-1 : Int)))] ?_
     refine bL ?_
     obtain rfl := oI h0
     exact aH (bT (bB (Q_r hO)))
    ·cases hc30
  ·replace h0 : (cond ((!x1_1) || (!x23_1)) (some (0 : Int)) ((gU y4 y26).bind fun x33 => some x33)) = some r := h0
   refine bC ?_
   refine bP [3] [(7, (bH (bM.k_number y26))), (8, (aJ x23_1))] ?_
   refine aO ?_
   refine aS aG 6 [6, 8] [(28, (aJ ((!x1_1) || (!x23_1))))] ?_
   refine bE h0 (fun h0 => ?_) (fun h0 => ?_)
   ·refine cH aG 1 [(4, (eI (0 : Int)))] ?_
    refine bL ?_
    obtain rfl := oI h0
    exact aH (bB (Q_r hO))
   refine bG ?_
   refine bD [(5, (bH (bM.k_number y4))), (7, (bH (bM.k_number y26)))] ?_
   refine aS aG 7 [] [(9, (eI y4)), (10, (aJ true))] ?_
   refine aS aG 7 [] [(11, (eI y26)), (12, (aJ true))] ?_
   refine aO ?_
   refine bN 0 ?_
   refine aS aG 5 [] [(39, (aJ true))] ?_
   refine rG (true) (fun hc32 => ?_) (fun hc32 => ?_)
   ·refine aO ?_
    refine aT aG 4 ?_
    refine bI 2 ?_
    obtain ⟨x33, hx34, h0⟩ := aW h0
    refine dS (ES y4 y26 _ hx34) hO ?_
    intro H hO
    refine bC ?_
    refine bD [(4, (eI x33))] ?_
    refine bL ?_
    obtain rfl := oI h0
    exact aH (bT (bB (Q_r hO)))
   ·cases hc32
  ·replace h0 : (cond ((!x1_1) || (!x23_1)) (some (0 : Int)) (some (-1 : Int))) = some r := h0
   refine bC ?_
   refine bP [3] [(7, (bH (bM.k_words y27))), (8, (aJ x23_1))] ?_
   refine aO ?_
   refine aS aG 6 [6, 8] [(28, (aJ ((!x1_1) || (!x23_1))))] ?_
   refine bE h0 (fun h0 => ?_) (fun h0 => ?_)
   ·refine cH aG 1 [(4, (eI (0 : Int)))] ?_
    refine bL ?_
    obtain rfl := oI h0
    exact aH (bB (Q_r hO))
   refine bG ?_
   refine bD [(5, (bH (bM.k_number y4))), (7, (bH (bM.k_words y27)))] ?_
   refine aS aG 7 [] [(9, (eI y4)), (10, (aJ true))] ?_
   refine aS aG 7 [] [(11, (eI 0)), (12, (aJ false))] ?_
   refine aO ?_
   refine bN 0 ?_
   refine aS aG 5 [] [(39, (aJ false))] ?_
   refine rG (false) (fun hc37 => ?_) (fun hc37 => ?_)
   ·cases hc37
   ·refine aS aG 2 [9, 10, 11, 39] [(47, (aJ true))] ?_
    refine rG (true) (fun hc38 => ?_) (fun hc38 => ?_)
    ·refine cH aG 1 [(4, (eI (-1 : Int)))] ?_
     refine bL ?_
     obtain rfl := oI h0
     exact aH (bT (bB (Q_r hO)))
    ·cases hc38
 ·replace h0 : ((qK b1).bind fun (x39_0, x39_1) => match x39_0 with | .none_ => (cond ((!x1_1) || (!x39_1)) (some (0 : Int)) (none)) | .k_number y42 => (cond ((!x1_1) || (!x39_1)) (some (0 : Int)) (some (1 : Int))) | .k_words y43 => (cond ((!x1_1) || (!x39_1)) (some (0 : Int)) ((rN y5 y43).bind fun x56 => some x56))) = some r := h0
  refine bC ?_
  refine bP [2] [(5, (bH (bM.k_words y5))), (6, (aJ x1_1))] ?_
  refine aO ?_
  refine aT aG 7 ?_
  refine bI 1 ?_
  obtain ⟨⟨x39_0, x39_1⟩, hx40, h0⟩ := aW h0
  refine dS (CB b1 _ hx40) hO ?_
  intro H hO
  rcases x39_0 with _ | y42 | y43
  ·replace h0 : (cond ((!x1_1) || (!x39_1)) (some (0 : Int)) (none)) = some r := h0
   refine bC ?_
   refine bP [3] [(7, (bH bM.none_)), (8, (aJ x39_1))] ?_
   refine aO ?_
   refine aS aG 6 [6, 8] [(28, (aJ ((!x1_1) || (!x39_1))))] ?_
   refine bE h0 (fun h0 => ?_) (fun h0 => ?_)
   ·refine cH aG 1 [(4, (eI (0 : Int)))] ?_
    refine bL ?_
    obtain rfl := oI h0
    exact aH (bB (Q_r hO))
   refine bG ?_
   refine bD [(5, (bH (bM.k_words y5))), (7, (bH bM.none_))] ?_
   refine aS aG 7 [] [(9, (eI 0)), (10, (aJ false))] ?_
   refine aS aG 7 [] [(11, (eI 0)), (12, (aJ false))] ?_
   refine aO ?_
   refine bN 0 ?_
   refine aS aG 5 [] [(39, (aJ false))] ?_
   refine rG (false) (fun hc45 => ?_) (fun hc45 => ?_)
   ·cases hc45
   ·refine aS aG 2 [9, 10, 11, 39] [(47, (aJ false))] ?_
    refine rG (false) (fun hc46 => ?_) (fun hc46 => ?_)
    ·cases hc46
    ·refine cH aG 2 [(5, (bH (bM.k_words y5))), (7, (bH bM.none_)), (49, (aJ false))] ?_
     refine rG (false) (fun hc47 => ?_) (fun hc47 => ?_)
     ·cases hc47
     ·refine bG ?_
      refine gV [(5, (bH (bM.k_words y5))), (7, (bH bM.none_))] ?_
      refine aH (aU (aF (?_)))
      refine aO ?_
      refine eR (eP []) aG 6 ?_
      cases h0
  ·replace h0 : (cond ((!x1_1) || (!x39_1)) (some (0 : Int)) (some (1 : Int))) = some r := h0
   refine bC ?_
   refine bP [3] [(7, (bH (bM.k_number y42))), (8, (aJ x39_1))] ?_
   refine aO ?_
   refine aS aG 6 [6, 8] [(28, (aJ ((!x1_1) || (!x39_1))))] ?_
   refine bE h0 (fun h0 => ?_) (fun h0 => ?_)
   ·refine cH aG 1 [(4, (eI (0 : Int)))] ?_
    refine bL ?_
    obtain rfl := oI h0
    exact aH (bB (Q_r hO))
   refine bG ?_
   refine bD [(5, (bH (bM.k_words y5))), (7, (bH (bM.k_number y42)))] ?_
   refine aS aG 7 [] [(9, (eI 0)), (10, (aJ false))] ?_
   refine aS aG 7 [] [(11, (eI y42)), (12, (aJ true))] ?_
   refine aO ?_
   refine bN 0 ?_
   refine aS aG 5 [] [(39, (aJ false))] ?_
   refine rG (false) (fun hc49 => ?_) (fun hc49 => ?_)
   ·cases hc49
   ·refine aS aG 2 [9, 10, 11, 39] [(47, (aJ false))] ?_
    refine rG (false) (fun hc50 => ?_) (fun hc50 => ?_)
    ·cases hc50
    ·refine cH aG 2 [(5, (bH (bM.k_words y5))), (7, (bH (bM.k_number y42))), (49, (aJ true))] ?_
     refine rG (true) (fun hc51 => ?_) (fun hc51 => ?_)
     ·refine cH aG 1 [(4, (eI (1 : Int)))] ?_
      refine bL ?_
      obtain rfl := oI h0
      exact aH (bT (bB (Q_r hO)))
     ·cases hc51
  ·replace h0 : (cond ((!x1_1) || (!x39_1)) (some (0 : Int)) ((rN y5 y43).bind fun x56 => some x56)) = some r := h0
   refine bC ?_
   refine bP [3] [(7, (bH (bM.k_words y43))), (8, (aJ x39_1))] ?_
   refine aO ?_
   refine aS aG 6 [6, 8] [(28, (aJ ((!x1_1) || (!x39_1))))] ?_
   refine bE h0 (fun h0 => ?_) (fun h0 => ?_)
   ·refine cH aG 1 [(4, (eI (0 : Int)))] ?_
    refine bL ?_
    obtain rfl := oI h0
    exact aH (bB (Q_r hO))
   refine bG ?_
   refine bD [(5, (bH (bM.k_words y5))), (7, (bH (bM.k_words y43)))] ?_
   refine aS aG 7 [] [(9, (eI 0)), (10, (aJ false))] ?_
   refine aS aG 7 [] [(11, (eI 0)), (12, (aJ false))] ?_
   refine aO ?_
   refine bN 0 ?_
   refine aS aG 5 [] [(39, (aJ false))] ?_
   refine rG (false) (fun hc53 => ?_) (fun hc53 => ?_)
   ·cases hc53
   ·refine aS aG 2 [9, 10, 11, 39] [(47, (aJ false))] ?_
    refine rG (false) (fun hc54 => ?_) (fun hc54 => ?_)
    ·cases hc54
    ·refine cH aG 2 [(5, (bH (bM.k_words y5))), (7, (bH (bM.k_words y43))), (49, (aJ false))] ?_
     refine rG (false) (fun hc55 => ?_) (fun hc55 => ?_)
     ·cases hc55
     ·refine bG ?_
      refine gV [(5, (bH (bM.k_words y5))), (7, (bH (bM.k_words y43)))] ?_
      refine aH (aU (aF (?_)))
      refine aO ?_
      refine eR (eP []) aG 6 ?_
      refine qV 4 ?_
      obtain ⟨x56, hx57, h0⟩ := aW h0
      refine BA (NJ y5 y43 _ hx57) hO ?_
      intro H hO
      refine jI ?_
      refine bD [(4, (eI x56))] ?_
      refine bL ?_
      obtain rfl := oI h0
      exact aH (Q_r hO)

theorem KG (a0 : (List aI)) (b1 : (List aI)) (r : Int) (h0 : uP a0 b1 = some r) : cO Tryz.prog 24 [(eL aN a0), (eL aN b1)] (eI r) := by
 intro H0
 refine cP Tryz.func24 ?_
 have hO := aK.start H0
 unfold uP at h0
 refine aO ?_
 refine aT aG 2 ?_
 refine qG 1 (eL aN b1) (by kernel_rfl) (by kernel_rfl) ?_
 refine bC ?_
 refine bP [1] [(3, (.rp (eL aN b1)))] ?_
 refine aO ?_
 refine aO ?_
 refine aT aG 8 ?_
 refine bI 1 ?_
 obtain ⟨x1, hx2, h0⟩ := aW h0
 refine dS (GR a0 _ hx2) hO ?_
 intro H hO
 refine bI 5 ?_
 obtain ⟨x4, hx5, h0⟩ := aW h0
 refine vN [(10, false)] 18 [(eL aN b1)] (aJ x4) (!(!x1)) (by kernel_rfl) (by kernel_rfl) (by kernel_rfl) (fun hb6 => (GR b1 _ (pN hx5 hb6))) hO ?_
 intro H hO
 refine bC ?_
 refine bP [] [(14, (aJ ((!x1) || (!x4))))] ?_
 refine bE h0 (fun h0 => ?_) (fun h0 => ?_)
 ·refine cH aG 1 [(4, (eI (0 : Int)))] ?_
  refine bL ?_
  obtain rfl := oI h0
  exact aH (bB (Q_r hO))
 refine bG ?_
 refine bD [(0, (eL aN a0)), (3, (.rp (eL aN b1)))] ?_
 refine aS aG 6 [] [(5, (eI (if (lN b1) < (lN a0) then (lN b1) else (lN a0))))] ?_
 refine aO ?_
 refine eR (eP []) aG 7 ?_
 obtain ⟨c8, h0⟩ := aX h0
 refine bQ 4 [0 ≤ (if (lN b1) < (lN a0) then (lN b1) else (lN a0)) ∧ (if (lN b1) < (lN a0) then (lN b1) else (lN a0)) ≤ (lN a0)] ⟨c8, trivial⟩ ?_
 obtain ⟨x9, hx10, h0⟩ := aW h0
 refine aEK (L' := fun lo11 => [(lo11, 1, [(eI x9.1)])]) 1 [(eI x9.1)] 46 [(.rp (eL aN b1))] (fun lo11 => (.fn (.func 47) [] [(.lp lo11 0 0), (.rp (eL aN x9.2))])) (by kernel_rfl) (by kernel_rfl) (RE b1 _ hx10) hO (fun _ => by kernel_rfl) ?_
 intro lo11 H hO
 obtain ⟨x12, hx13, h0⟩ := aW h0
 refine aEV (fun st G' => G' = up [(lo11, 1, [(eI st)])] ++ []) [(lo11, 1, [(eI x12.1)])] x9.1 x12.1 45 [(.sl false (Int.toNat (if (lN b1) < (lN a0) then (lN b1) else (lN a0))) (fun i => aN (List.getD a0 i default))), (.fn (.func 47) [] [(.lp lo11 0 0), (.rp (eL aN x9.2))])] (eI x12.2) (by kernel_rfl) (by kernel_rfl) (FK.sub (as0' := [(eL aN (List.take (Int.toNat (if (lN b1) < (lN a0) then (lN b1) else (lN a0))) a0)), (.fn (.func 47) [] [(.lp lo11 0 0), (.rp (eL aN x9.2))])]) (xU _ (List.take (Int.toNat (if (lN b1) < (lN a0) then (lN b1) else (lN a0))) a0) (.fn (.func 47) [] [(.lp lo11 0 0), (.rp (eL aN x9.2))]) (fun st y0 => (nB y0 st x9.2).bind fun o => some (o.2, o.1)) (fun st y0 st2 rr hr => (NF y0 lo11 st x9.2 _ (aF7 hr)).toV (ys := []) (zs := [(aN y0)]) (cs := [(.lp lo11 0 0), (.rp (eL aN x9.2))]) (fun Gx hG => ⟨up [], up [] ++ [], hG, rfl⟩)) _ _ hx13) ⟨aFh (Int.toNat_le.2 (And.right c8)), aL.refl _, trivial⟩) hO rfl (fun _ h => h) ?_
 intro H hO
 refine jI ?_
 replace hO := hO.pick (L' := []) [] (by decide) (by kernel_rfl)
 refine bP [5] [(6, (eI x12.2))] ?_
 refine aO ?_
 refine aS aG 2 [] [(27, (aJ (decide (x12.2 < (0 : Int)))))] ?_
 refine bE h0 (fun h0 => ?_) (fun h0 => ?_)
 ·refine aO ?_
  refine aT aG 6 ?_
  refine bI 4 ?_
  obtain ⟨x15, hx16, h0⟩ := aW h0
  refine dS (zU (lN a0) (lN b1) _ hx16) hO ?_
  intro H hO
  refine bC ?_
  refine bD [(4, (eI x15))] ?_
  refine bL ?_
  obtain rfl := oI h0
  exact aH (bB (Q_r hO))
 refine bG ?_
 refine bD [(0, (eL aN a0)), (3, (.rp (eL aN b1))), (6, (eI x12.2))] ?_
 refine aO ?_
 refine eR (eP [36, 37, 40, 41]) aG 10 ?_
 obtain ⟨c18, h0⟩ := aX h0
 obtain ⟨c19, h0⟩ := aX h0
 refine bQ 8 [0 ≤ x12.2 ∧ x12.2 < (lN a0), 0 ≤ x12.2 ∧ x12.2 < (lN b1)] ⟨c18, c19, trivial⟩ ?_
 obtain ⟨x20, hx21, h0⟩ := aW h0
 refine BA (QX (gD a0 x12.2) (gD b1 x12.2) _ hx21) hO ?_
 intro H hO
 refine jI ?_
 refine bD [(4, (eI x20))] ?_
 refine bL ?_
 obtain rfl := oI h0
 exact aH (Q_r hO)

theorem OB (l0 : (List aC)) (holds1_f : Nat) (holds1_a holds1_c : List V) (yI : (List aB) → Option Bool) (holds1_h : ∀ a0 r, yI a0 = some r → cO Tryz.prog holds1_f (holds1_a ++ [(eL aE a0)] ++ holds1_c) (aJ r)) (r : Bool) (h0 : xM l0 yI = some r) : cO Tryz.prog 59 [(eL aD l0), (.fn (.func holds1_f) holds1_a holds1_c)] (aJ r) := by
 intro H0
 refine ND aG Tryz.func59 (by kernel_rfl) (by kernel_rfl) (by kernel_rfl) ?_
 have hO := aK.start H0
 unfold xM at h0
 refine aO ?_
 refine aT aG 2 ?_
 refine qG 1 (.fn (.func holds1_f) holds1_a holds1_c) (by kernel_rfl) (by kernel_rfl) ?_
 refine tE 1 (aJ false) (by kernel_rfl) (by kernel_rfl) hO ?_
 intro lo1 H hO
 refine dG ?_
 refine bP [1] [(3, (.rp (.fn (.func holds1_f) holds1_a holds1_c))), (4, (.lp lo1 0 0))] ?_
 refine aO ?_
 refine aS aG 3 [] [(11, (aJ (decide ((4096 : Int) < (lN l0)))))] ?_
 refine bE h0 (fun h0 => ?_) (fun h0 => ?_)
 ·refine aO ?_
  refine aT aG 1 ?_
  refine rK 0 lo1 1 0 (aJ false) (aJ false) [(aJ false)] [(lo1, 1, [(aJ false)])] hO rfl (by kernel_rfl) ?_
  intro H hO
  refine dG ?_
  refine bD [(4, (.lp lo1 0 0))] ?_
  refine bL ?_
  obtain rfl := oI h0
  exact aH (bB (QM0 (.inr rfl) (rs := [.cell 4 4]) (xs := [(aJ false)]) (x := (aJ false)) (by kernel_rfl) (DC (lo := lo1) (k := 1) (y := (aJ false)) (x := (aJ false)) 0 hO (by kernel_rfl) (by kernel_rfl) (by kernel_rfl) (by kernel_rfl) yD) (by kernel_rfl) ⟨rfl, hO.out⟩))
 refine bG ?_
 refine bD [(0, (eL aD l0)), (3, (.rp (.fn (.func holds1_f) holds1_a holds1_c))), (4, (.lp lo1 0 0))] ?_
 refine aO ?_
 refine aT aG 1 ?_
 refine BG 1 (.sl true 0 (fun _ => .bad)) (eL aN ([])) (by kernel_rfl) (by kernel_rfl) (by kernel_rfl) (kL) (by kernel_rfl) (by kernel_rfl) hO ?_
 intro lo3 H hO
 refine dG ?_
 refine bP [] [(5, (.lp lo3 0 0))] ?_
 refine aO ?_
 refine aT aG 2 ?_
 refine tE 1 (aJ false) (by kernel_rfl) (by kernel_rfl) hO ?_
 intro lo4 H hO
 refine rK 2 lo4 1 0 (aJ false) (aJ false) [(aJ false)] [(lo1, 1, [(aJ false)]), (lo3, 1, [(eL aN ([]))]), (lo4, 1, [(aJ false)])] hO rfl (by kernel_rfl) ?_
 intro H hO
 refine dG ?_
 refine bP [] [(6, (.lp lo4 0 0))] ?_
 refine aO ?_
 refine aO ?_
 refine aT aG 2 ?_
 refine bI 1 ?_
 obtain ⟨x5, hx6, h0⟩ := aW h0
 refine dS (HN l0 _ hx6) hO ?_
 intro H hO
 refine dG ?_
 refine bP [0] [(13, (.fn (.func 65) [] [(.rp (eL aD x5))]))] ?_
 refine bN 0 ?_
 refine dK [(3, (.rp (.fn (.func holds1_f) holds1_a holds1_c))), (4, (.lp lo1 0 0)), (5, (.lp lo3 0 0)), (6, (.lp lo4 0 0)), (13, (.fn (.func 65) [] [(.rp (eL aD x5))]))] ?_
 refine cQ (fun T H => ∃ t4 : Bool, ∃ tN : (List aI), ∃ nH : Bool, ∃ oR : (List aC), Has T [(3, (.rp (.fn (.func holds1_f) holds1_a holds1_c))), (4, (.lp lo1 0 0)), (5, (.lp lo3 0 0)), (6, (.lp lo4 0 0)), (13, (.fn (.func 65) [] [(.rp (eL aD oR))]))] ∧ aK ⟨H0, [], []⟩ H [(lo1, 1, [(aJ t4)]), (lo3, 1, [(eL aN tN)]), (lo4, 1, [(aJ nH)])] ∧ BW yI t4 tN nH oR = some r) ?_ ⟨false, [], false, x5, .eq (by kernel_rfl), hO, h0⟩
 clear hO h0
 rintro T H ⟨t4, tN, nH, oR, hT, hO, h0⟩
 refine aY (l := [(3, (.rp (.fn (.func holds1_f) holds1_a holds1_c))), (4, (.lp lo1 0 0)), (5, (.lp lo3 0 0)), (6, (.lp lo4 0 0)), (13, (.fn (.func 65) [] [(.rp (eL aD oR))]))]) hT ?_
 clear hT
 unfold BW at h0
 obtain ⟨o0, hl0, h0⟩ := aW h0
 refine IQ (fid := 65) (ys := []) (cs := [(.rp (eL aD oR))]) #[14, 15] (fun (A : FL) (b lL : Nat) (st : (Bool × (List aI) × Bool) ⊕ (Bool × (List aI) × Bool)) (G' : Gs) => Sum.elim (fun (s : Bool × (List aI) × Bool) => G' = (lL, .raw (qC b A .ready none)) :: (up [(lo1, 1, [(aJ s.1)]), (lo3, 1, [(eL aN s.2.1)]), (lo4, 1, [(aJ s.2.2)])] ++ [])) (fun (s : Bool × (List aI) × Bool) => G' = (lL, .raw (qC b A .done (some .ret))) :: (up [(lo1, 1, [(aJ s.1)]), (lo3, 1, [(eL aN s.2.1)]), (lo4, 1, [(aJ s.2.2)])] ++ [])) st) (.inl (t4, tN, nH)) o0 (.tup []) (by kernel_rfl) (by kernel_rfl) (by kernel_rfl) hO (fun _ _ => rfl) ?_ ?_
 ·intro b lL
  clear hO h0
  refine CV _ b (fun st t14 t15 => rnd (fun (s : Bool × (List aI) × Bool) => uG yI oR s.1 s.2.1 s.2.2 t14 t15) st) ?_ oR _ _ hl0
  intro st t14 t15 out1 rr hr
  obtain ⟨s, rfl, h1, rfl⟩ := aBw hr
  clear hr
  intro Hr Gr hi hg
  obtain ⟨t4, tN, nH⟩ := s
  dsimp only [Sum.elim_inl] at hi
  obtain rfl := hi
  replace h1 : uG yI oR t4 tN nH t14 t15 = some out1 := h1
  unfold uG at h1
  obtain ⟨E1, hE, hO⟩ := DV hg
  refine DY (JG (hO.gm 0 _ rfl).2 (by kernel_rfl) (by kernel_rfl) ?_)
  refine dK [(3, (.rp (.fn (.func holds1_f) holds1_a holds1_c))), (4, (.lp lo1 0 0)), (5, (.lp lo3 0 0)), (6, (.lp lo4 0 0)), (13, (.fn (.func 65) [] [(.rp (eL aD oR))])), (14, (eL aN t14)), (15, (eL aE t15))] ?_
  refine aS aG 1 [13, 14] [(7, (eL aN t14))] ?_
  refine aT aG 1 ?_
  refine bC ?_
  refine gV [(3, (.rp (.fn (.func holds1_f) holds1_a holds1_c))), (4, (.lp lo1 0 0)), (5, (.lp lo3 0 0)), (6, (.lp lo4 0 0)), (7, (eL aN t14)), (8, (eL aE t15))] ?_
  refine aH (⟨rfl, rfl, (hO.gm 0 _ rfl).2, ?_⟩)
  intro o1 ho1
  replace hO := hO.yS o1
  refine bN 1 ?_
  refine aO ?_
  refine aO ?_
  refine aT aG 18 ?_
  refine bI 1 ?_
  obtain ⟨x7, hx8, h1⟩ := aW h1
  refine dS (GR t14 _ hx8) hO ?_
  intro H hO
  refine bI 4 ?_
  refine DF [(19, false)] 2 lo4 1 0 (aJ nH) (aJ nH) [(aJ nH)] (by kernel_rfl) (by kernel_rfl) hO (by kernel_rfl) (!(!x7)) (by kernel_rfl) (fun hb10 => rfl) ?_
  refine bI 6 ?_
  refine DF [(21, true), (19, false)] 1 lo3 1 0 (eL aN tN) (eL aN tN) [(eL aN tN)] (by kernel_rfl) (by kernel_rfl) hO (by kernel_rfl) (nH && (!(!x7))) (by kernel_rfl) (fun hb11 => rfl) ?_
  refine bI 8 ?_
  obtain ⟨x12, hx13, h1⟩ := aW h1
  refine vN [(21, true), (19, false)] 24 [(eL aN tN), (eL aN t14)] (eI x12) (nH && (!(!x7))) (by kernel_rfl) (by kernel_rfl) (by kernel_rfl) (fun hb14 => (KG tN t14 _ (pN hx13 hb14))) hO ?_
  intro H hO
  refine bI 15 ?_
  obtain ⟨x15, hx16, h1⟩ := aW h1
  refine vN [(28, false)] holds1_f (holds1_a ++ [(eL aE t15)] ++ holds1_c) (aJ x15) (!((!x7) || (nH && (decide ((0 : Int) ≤ x12))))) (by kernel_rfl) (by kernel_rfl) (by kernel_rfl) (fun hb17 => (holds1_h t15 _ (pN hx16 hb17))) hO ?_
  intro H hO
  refine bC ?_
  refine bP [3, 8] [(33, (aJ (((!x7) || (nH && (decide ((0 : Int) ≤ x12)))) || (!x15))))] ?_
  refine bE h1 (fun h1 => ?_) (fun h1 => ?_)
  ·refine aO ?_
   refine aT aG 1 ?_
   refine rK 0 lo1 1 0 (aJ t4) (aJ false) [(aJ t4)] [(lo1, 1, [(aJ false)]), (lo3, 1, [(eL aN tN)]), (lo4, 1, [(aJ nH)])] hO rfl (by kernel_rfl) ?_
   intro H hO
   refine dG ?_
   refine bP [7, 33] [] ?_
   refine bL ?_
   refine gV [(4, (.lp lo1 0 0)), (5, (.lp lo3 0 0)), (6, (.lp lo4 0 0))] ?_
   obtain rfl := oI h1
   exact aH (bB (bT (⟨(nC hO hE ho1 .dead).1, rfl, _, rfl, (nC hO hE ho1 _).2⟩)))
  refine bG ?_
  refine bD [(4, (.lp lo1 0 0)), (5, (.lp lo3 0 0)), (6, (.lp lo4 0 0)), (7, (eL aN t14))] ?_
  refine aT aG 3 ?_
  refine bI 1 ?_
  refine rK 1 lo3 1 0 (eL aN tN) (eL aN t14) [(eL aN tN)] [(lo1, 1, [(aJ t4)]), (lo3, 1, [(eL aN t14)]), (lo4, 1, [(aJ nH)])] hO rfl (by kernel_rfl) ?_
  intro H hO
  refine rK 2 lo4 1 0 (aJ nH) (aJ true) [(aJ nH)] [(lo1, 1, [(aJ t4)]), (lo3, 1, [(eL aN t14)]), (lo4, 1, [(aJ true)])] hO rfl (by kernel_rfl) ?_
  intro H hO
  refine dG ?_
  refine gV [(4, (.lp lo1 0 0)), (5, (.lp lo3 0 0)), (6, (.lp lo4 0 0))] ?_
  obtain rfl := oI h1
  exact aH (aU (⟨(nC hO hE ho1 .dead).1, rfl, _, rfl, (nC hO hE ho1 _).2⟩))
 ·intro b lD19 lL H' G' hi hO
  rcases o0 with s | s
  ·dsimp only [Sum.elim_inl] at hi
   obtain rfl := hi
   replace h0 : (some true) = some r := h0
   obtain ⟨hlL, hO⟩ := wA hO
   refine ⟨_, _, hlL, (by intro e; cases e), ?_⟩
   refine gV [(4, (.lp lo1 0 0))] ?_
   replace hO := hO.pick (L' := [(lo1, 1, [(aJ s.1)])]) [0] (by decide) (by kernel_rfl)
   refine aH (aU (aF (?_)))
   refine aO ?_
   refine aT aG 1 ?_
   refine rK 0 lo1 1 0 (aJ s.1) (aJ true) [(aJ s.1)] [(lo1, 1, [(aJ true)])] hO rfl (by kernel_rfl) ?_
   intro H hO
   refine dG ?_
   refine bD [(4, (.lp lo1 0 0))] ?_
   refine bL ?_
   obtain rfl := oI h0
   have hD := (hO.gm 0 _ rfl).2
   replace hO := (hO.yS .dead).xY
   exact aH (QM1 (.inr rfl) hD (rs := [.cell 4 4]) (xs := [(aJ true)]) (x := (aJ true)) (by kernel_rfl) (DC (lo := lo1) (k := 1) (y := (aJ true)) (x := (aJ true)) 0 hO (by kernel_rfl) (by kernel_rfl) (by kernel_rfl) (by kernel_rfl) yD) (by kernel_rfl) ⟨rfl, hO.out⟩)
  ·dsimp only [Sum.elim_inr] at hi
   obtain rfl := hi
   replace h0 : (some s.1) = some r := h0
   obtain ⟨hlL, hO⟩ := wA hO
   refine ⟨_, _, hlL, (by intro e; cases e), ?_⟩
   refine bL ?_
   replace hO := hO.pick (L' := [(lo1, 1, [(aJ s.1)])]) [0] (by decide) (by kernel_rfl)
   obtain rfl := oI h0
   have hD := (hO.gm 0 _ rfl).2
   replace hO := (hO.yS .dead).xY
   exact aH (bT (bB (QM1 (.inr rfl) hD (rs := [.cell 4 4]) (xs := [(aJ s.1)]) (x := (aJ s.1)) (by kernel_rfl) (DC (lo := lo1) (k := 1) (y := (aJ s.1)) (x := (aJ s.1)) 0 hO (by kernel_rfl) (by kernel_rfl) (by kernel_rfl) (by kernel_rfl) yD) (by kernel_rfl) ⟨rfl, hO.out⟩)))

theorem NY (n0 : Int) (r : Bool) (h0 : zW n0 = some r) : cO Tryz.prog 53 [(eI n0)] (aJ r) := by
 intro H0
 refine cP Tryz.func53 ?_
 have hO := aK.start H0
 unfold zW at h0
 refine aS aG 1 [] [] ?_
 refine cH aG 7 [(2, (aJ ((decide (n0 ≤ (1048576 : Int))) && (decide ((-1048576 : Int) ≤ n0)))))] ?_
 refine bL ?_
 obtain rfl := oI h0
 exact aH (Q_r hO)

theorem zK (f0 : (List aB)) (r : Bool) (h0 : rH f0 = some r) : cO Tryz.prog 39 [(eL aE f0)] (aJ r) := by
 intro H0
 refine cP Tryz.func39 ?_
 have hO := aK.start H0
 unfold rH at h0
 refine aS aG 1 [] [] ?_
 refine aO ?_
 refine aS aG 3 [] [(8, (aJ (decide ((1024 : Int) < (lN f0)))))] ?_
 refine bE h0 (fun h0 => ?_) (fun h0 => ?_)
 ·refine cH aG 1 [(2, (aJ false))] ?_
  refine bL ?_
  obtain rfl := oI h0
  exact aH (bB (Q_r hO))
 refine bG ?_
 refine bD [(0, (eL aE f0))] ?_
 refine aS aG 1 [] [(3, (eI (-2 : Int)))] ?_
 refine dA (fun T H => Has T [] ∧ aK ⟨H0, [], []⟩ H [] ∧ AL  = some r) ?_ ?_
 ·clear hO h0
  rintro T H ⟨hT, hO, h0⟩
  refine aY hT ?_
  clear hT
  unfold AL at h0
  refine cH aG 1 [(2, (aJ true))] ?_
  refine bL ?_
  obtain rfl := oI h0
  exact aH (Q_r hO)
 refine aS aG 3 [0] [(9, (eL aE f0)), (10, (eI (lN f0))), (11, (eI (0 : Int)))] ?_
 refine bN 0 ?_
 refine dK [(3, (eI (-2 : Int))), (9, (eL aE f0)), (10, (eI (lN f0))), (11, (eI (0 : Int)))] ?_
 refine cQ (fun T H => ∃ vJ : Int, ∃ t9 : (List aB), ∃ t10 : Int, ∃ t11 : Int, Has T [(3, (eI vJ)), (9, (eL aE t9)), (10, (eI t10)), (11, (eI t11))] ∧ aK ⟨H0, [], []⟩ H [] ∧ EA vJ t9 t10 t11 = some r) ?_ ⟨(-2 : Int), f0, (lN f0), (0 : Int), .eq (by kernel_rfl), hO, h0⟩
 clear hO h0
 rintro T H ⟨vJ, t9, t10, t11, hT, hO, h0⟩
 refine aY hT ?_
 clear hT
 unfold EA at h0
 obtain ⟨rr0, hl0, h0⟩ := aW h0
 refine cB (by kernel_rfl) (fun (s : Int × Int) T H => Has T [(3, (eI s.1)), (9, (eL aE t9)), (10, (eI t10)), (11, (eI s.2))] ∧ aK ⟨H0, [], []⟩ H []) hl0 ⟨.eq (by kernel_rfl), hO⟩ ?_
 clear hO
 rintro k0 s out1 T H ⟨hT, hO⟩ h1 ho0
 obtain ⟨vJ, t11⟩ := s
 replace h1 : rA t9 t10 vJ t11 = some out1 := h1
 try dsimp only at hT
 refine aY hT ?_
 clear hT
 unfold rA at h1
 refine aS aG 1 [] [(12, (aJ (decide (t11 < t10))))] ?_
 refine aO ?_
 refine bE h1 (fun h1 => ?_) (fun h1 => ?_)
 ·refine bG ?_
  refine bD [(3, (eI vJ)), (9, (eL aE t9)), (10, (eI t10)), (11, (eI t11))] ?_
  refine aO ?_
  refine bN 1 ?_
  refine aO ?_
  refine aT aG 4 ?_
  obtain ⟨c3, h1⟩ := aX h1
  refine BC 2 [0 ≤ t11 ∧ t11 < (lN t9)] ⟨c3, trivial⟩ ?_
  refine tE 2 (aE (aB.mk 0 0)) (by kernel_rfl) (by kernel_rfl) hO ?_
  intro lo4 H hO
  refine rK 0 lo4 2 0 (aE (aB.mk 0 0)) (aE (gD t9 t11)) [(aE (aB.mk 0 0))] [(lo4, 2, [(aE (gD t9 t11))])] hO rfl (by kernel_rfl) ?_
  intro H hO
  refine dG ?_
  refine bP [] [(5, (.lp lo4 0 0))] ?_
  refine aO ?_
  refine aO ?_
  refine aT aG 20 ?_
  refine bI 1 ?_
  refine uC 0 lo4 2 0 (aE (gD t9 t11)) (eI ((gD t9 t11).At)) [(aE (gD t9 t11))] hO rfl ?_
  refine bI 6 ?_
  refine DF [(19, false)] 0 lo4 2 0 (aE (gD t9 t11)) (eI ((gD t9 t11).At)) [(aE (gD t9 t11))] (by kernel_rfl) (by kernel_rfl) hO (by kernel_rfl) (!(decide (((gD t9 t11).At) ≤ vJ))) (by kernel_rfl) (fun hb5 => rfl) ?_
  refine bI 11 ?_
  refine DF [(24, false)] 0 lo4 2 0 (aE (gD t9 t11)) (eI ((gD t9 t11).Net)) [(aE (gD t9 t11))] (by kernel_rfl) (by kernel_rfl) hO (by kernel_rfl) (!((decide (((gD t9 t11).At) ≤ vJ)) || (decide ((1125899906842624 : Int) ≤ ((gD t9 t11).At))))) (by kernel_rfl) (fun hb6 => rfl) ?_
  refine bI 16 ?_
  refine DF [(29, false)] 0 lo4 2 0 (aE (gD t9 t11)) (eI ((gD t9 t11).Net)) [(aE (gD t9 t11))] (by kernel_rfl) (by kernel_rfl) hO (by kernel_rfl) (!(((decide (((gD t9 t11).At) ≤ vJ)) || (decide ((1125899906842624 : Int) ≤ ((gD t9 t11).At)))) || (decide (((gD t9 t11).Net) = (0 : Int))))) (by kernel_rfl) (fun hb7 => rfl) ?_
  obtain ⟨x8, hx9, h1⟩ := aW h1
  refine vN [(29, false)] 53 [(eI ((gD t9 t11).Net))] (aJ x8) (!(((decide (((gD t9 t11).At) ≤ vJ)) || (decide ((1125899906842624 : Int) ≤ ((gD t9 t11).At)))) || (decide (((gD t9 t11).Net) = (0 : Int))))) (by kernel_rfl) (by kernel_rfl) (by kernel_rfl) (fun hb10 => (NY ((gD t9 t11).Net) _ (pN hx9 hb10))) hO ?_
  intro H hO
  refine bC ?_
  refine bP [3] [(34, (aJ ((((decide (((gD t9 t11).At) ≤ vJ)) || (decide ((1125899906842624 : Int) ≤ ((gD t9 t11).At)))) || (decide (((gD t9 t11).Net) = (0 : Int)))) || (!x8))))] ?_
  refine bE h1 (fun h1 => ?_) (fun h1 => ?_)
  ·refine aO ?_
   refine aT aG 1 ?_
   refine bC ?_
   refine gV [(2, (aJ false))] ?_
   replace hO := hO.pick (L' := []) [] (by decide) (by kernel_rfl)
   refine aH (aF (?_))
   refine bL ?_
   obtain rfl := oI h1
   obtain rfl : _ = rr0 := ho0
   replace h0 : some false = some r := h0
   obtain rfl := oI h0
   exact aH (bB (bT (bB (bB (bT (bB (Q_r hO)))))))
  refine bG ?_
  refine bD [(5, (.lp lo4 0 0)), (9, (eL aE t9)), (10, (eI t10)), (11, (eI t11))] ?_
  refine aT aG 3 ?_
  refine bI 1 ?_
  refine uC 0 lo4 2 0 (aE (gD t9 t11)) (eI ((gD t9 t11).At)) [(aE (gD t9 t11))] hO rfl ?_
  refine bC ?_
  refine gV [(3, (eI ((gD t9 t11).At))), (9, (eL aE t9)), (10, (eI t10)), (11, (eI t11))] ?_
  replace hO := hO.pick (L' := []) [] (by decide) (by kernel_rfl)
  refine aH (aU (aF (?_)))
  refine aT aG 2 ?_
  refine bC ?_
  exact aH (aF (⟨rfl, _, (oI h1).symm, .eq (by kernel_rfl), hO⟩))
 refine dW 0 ?_
 obtain rfl := oI h1
 obtain rfl : _ = rr0 := ho0
 replace h0 : AL  = some r := h0
 exact aH (aR (aR (bF (aF (⟨rfl, .eq (by kernel_rfl), hO, h0⟩)))))

theorem CC (l0 : (List aC)) (r : Bool) (h0 : tO l0 = some r) : cO Tryz.prog 32 [(eL aD l0)] (aJ r) := by
 intro H0
 refine cP Tryz.func32 ?_
 have hO := aK.start H0
 unfold tO at h0
 refine aS aG 1 [] [] ?_
 refine aO ?_
 refine aT aG 3 ?_
 refine bI 1 ?_
 obtain ⟨x1, hx2, h0⟩ := aW h0
 refine dS (OB l0 39 [] [] (fun y0 => rH y0) (fun y0 r h => zK y0 r h) _ hx2) hO ?_
 intro H hO
 refine bC ?_
 refine bD [(2, (aJ x1))] ?_
 refine bL ?_
 obtain rfl := oI h0
 exact aH (Q_r hO)

theorem WX (f0 : (List aB)) (r : Int) (h0 : yK f0 = some r) : cO Tryz.prog 62 [(eL aE f0)] (eI r) := by
 intro H0
 refine cP Tryz.func62 ?_
 have hO := aK.start H0
 unfold yK at h0
 refine aS aG 1 [] [] ?_
 refine aO ?_
 refine aO ?_
 refine aT aG 8 ?_
 refine bI 1 ?_
 obtain ⟨x1, hx2, h0⟩ := aW h0
 refine dS (zK f0 _ hx2) hO ?_
 intro H hO
 refine bC ?_
 refine bP [] [(14, (aJ ((!x1) || (decide ((lN f0) = (0 : Int))))))] ?_
 refine bE h0 (fun h0 => ?_) (fun h0 => ?_)
 ·refine cH aG 1 [(2, (eI (0 : Int)))] ?_
  refine bL ?_
  obtain rfl := oI h0
  exact aH (bB (Q_r hO))
 refine bG ?_
 refine bD [(0, (eL aE f0))] ?_
 refine aS aG 2 [] [(3, (eI (0 : Int))), (4, (eI (0 : Int)))] ?_
 refine dA (fun T H => ∃ v3 : Int, ∃ jL : Int, Has T [(0, (eL aE f0)), (3, (eI v3)), (4, (eI jL))] ∧ aK ⟨H0, [], []⟩ H [] ∧ uR f0 v3 jL = some r) ?_ ?_
 ·clear hO h0
  rintro T H ⟨v3, jL, hT, hO, h0⟩
  refine aY hT ?_
  clear hT
  unfold uR at h0
  refine dA (fun T H => ∃ jL : Int, Has T [(4, (eI jL))] ∧ aK ⟨H0, [], []⟩ H [] ∧ xA jL = some r) ?_ ?_
  ·clear hO h0
   rintro T H ⟨jL, hT, hO, h0⟩
   refine aY hT ?_
   clear hT
   unfold xA at h0
   refine cH aG 2 [(2, (eI jL))] ?_
   refine bL ?_
   obtain rfl := oI h0
   exact aH (Q_r hO)
  refine aS aG 3 [0] [(24, (eL aE f0)), (25, (eI (lN f0))), (26, (eI (0 : Int)))] ?_
  refine bN 0 ?_
  refine dK [(3, (eI v3)), (4, (eI jL)), (24, (eL aE f0)), (25, (eI (lN f0))), (26, (eI (0 : Int)))] ?_
  refine cQ (fun T H => ∃ v3 : Int, ∃ jL : Int, ∃ t24 : (List aB), ∃ t25 : Int, ∃ t26 : Int, Has T [(3, (eI v3)), (4, (eI jL)), (24, (eL aE t24)), (25, (eI t25)), (26, (eI t26))] ∧ aK ⟨H0, [], []⟩ H [] ∧ xG v3 jL t24 t25 t26 = some r) ?_ ⟨v3, jL, f0, (lN f0), (0 : Int), .eq (by kernel_rfl), hO, h0⟩
  clear hO h0
  rintro T H ⟨v3, jL, t24, t25, t26, hT, hO, h0⟩
  refine aY hT ?_
  clear hT
  unfold xG at h0
  obtain ⟨rr0, hl0, h0⟩ := aW h0
  refine cB (by kernel_rfl) (fun (s : Int × Int × Int) T H => Has T [(3, (eI s.1)), (4, (eI s.2.1)), (24, (eL aE t24)), (25, (eI t25)), (26, (eI s.2.2))] ∧ aK ⟨H0, [], []⟩ H []) hl0 ⟨.eq (by kernel_rfl), hO⟩ ?_
  clear hO
  rintro k0 s out1 T H ⟨hT, hO⟩ h1 ho0
  obtain ⟨v3, jL, t26⟩ := s
  replace h1 : rR t24 t25 v3 jL t26 = some out1 := h1
  try dsimp only at hT
  refine aY hT ?_
  clear hT
  unfold rR at h1
  refine aS aG 1 [] [(27, (aJ (decide (t26 < t25))))] ?_
  refine aO ?_
  refine bE h1 (fun h1 => ?_) (fun h1 => ?_)
  ·refine bG ?_
   refine bD [(3, (eI v3)), (4, (eI jL)), (24, (eL aE t24)), (25, (eI t25)), (26, (eI t26))] ?_
   refine aO ?_
   refine bN 1 ?_
   refine aO ?_
   refine aT aG 4 ?_
   obtain ⟨c6, h1⟩ := aX h1
   refine BC 2 [0 ≤ t26 ∧ t26 < (lN t24)] ⟨c6, trivial⟩ ?_
   refine tE 2 (aE (aB.mk 0 0)) (by kernel_rfl) (by kernel_rfl) hO ?_
   intro lo7 H hO
   refine rK 0 lo7 2 0 (aE (aB.mk 0 0)) (aE (gD t24 t26)) [(aE (aB.mk 0 0))] [(lo7, 2, [(aE (gD t24 t26))])] hO rfl (by kernel_rfl) ?_
   intro H hO
   refine dG ?_
   refine bP [] [(6, (.lp lo7 0 0))] ?_
   refine aO ?_
   refine aT aG 5 ?_
   refine bI 2 ?_
   refine uC 0 lo7 2 0 (aE (gD t24 t26)) (eI ((gD t24 t26).Net)) [(aE (gD t24 t26))] hO rfl ?_
   refine bC ?_
   replace hO := hO.pick (L' := []) [] (by decide) (by kernel_rfl)
   refine bP [3, 6] [(3, (eI (wR (v3 + ((gD t24 t26).Net)))))] ?_
   refine aT aG 4 ?_
   refine bC ?_
   refine gV [(3, (eI (wR (v3 + ((gD t24 t26).Net))))), (4, (eI (if (wR (v3 + ((gD t24 t26).Net))) < jL then (wR (v3 + ((gD t24 t26).Net))) else jL))), (24, (eL aE t24)), (25, (eI t25)), (26, (eI t26))] ?_
   refine aH (aU (aF (?_)))
   refine aT aG 2 ?_
   refine bC ?_
   exact aH (aF (⟨rfl, _, (oI h1).symm, .eq (by kernel_rfl), hO⟩))
  refine dW 0 ?_
  obtain rfl := oI h1
  obtain rfl : _ = rr0 := ho0
  replace h0 : xA jL = some r := h0
  exact aH (aR (aR (bF (aF (⟨rfl, _, .eq (by kernel_rfl), hO, h0⟩)))))
 refine aO ?_
 refine aT aG 5 ?_
 obtain ⟨c8, h0⟩ := aX h0
 refine qL [0 ≤ (0 : Int) ∧ (0 : Int) < (lN f0)] ⟨c8, trivial⟩ ?_
 refine bP [] [(19, (aJ (decide (((gD f0 (0 : Int)).At) = (-1 : Int)))))] ?_
 refine bE h0 (fun h0 => ?_) (fun h0 => ?_)
 ·refine aT aG 5 ?_
  obtain ⟨c10, h0⟩ := aX h0
  refine qL [0 ≤ (0 : Int) ∧ (0 : Int) < (lN f0)] ⟨c10, trivial⟩ ?_
  exact aH (aF (⟨rfl, _, _, .eq (by kernel_rfl), hO, h0⟩))
 refine bG ?_
 exact aH (aF (⟨rfl, _, _, .eq (by kernel_rfl), hO, h0⟩))

theorem RP (f0 : (List aB)) (r : Bool) (h0 : vV f0 = some r) : cO Tryz.prog 61 [(eL aE f0)] (aJ r) := by
 intro H0
 refine cP Tryz.func61 ?_
 have hO := aK.start H0
 unfold vV at h0
 refine aS aG 1 [] [] ?_
 refine aO ?_
 refine aT aG 8 ?_
 refine bI 1 ?_
 obtain ⟨x1, hx2, h0⟩ := aW h0
 refine dS (zK f0 _ hx2) hO ?_
 intro H hO
 refine bI 4 ?_
 obtain ⟨x4, hx5, h0⟩ := aW h0
 refine vN [(5, true)] 62 [(eL aE f0)] (eI x4) x1 (by kernel_rfl) (by kernel_rfl) (by kernel_rfl) (fun hb6 => (WX f0 _ (pN hx5 hb6))) hO ?_
 intro H hO
 refine bC ?_
 refine bD [(2, (aJ (x1 && (decide ((0 : Int) ≤ x4)))))] ?_
 refine bL ?_
 obtain rfl := oI h0
 exact aH (Q_r hO)

theorem XZ (l0 : (List aC)) (r : Bool) (h0 : zB l0 = some r) : cO Tryz.prog 35 [(eL aD l0)] (aJ r) := by
 intro H0
 refine cP Tryz.func35 ?_
 have hO := aK.start H0
 unfold zB at h0
 refine aS aG 1 [] [] ?_
 refine aO ?_
 refine aT aG 3 ?_
 refine bI 1 ?_
 obtain ⟨x1, hx2, h0⟩ := aW h0
 refine dS (OB l0 61 [] [] (fun y0 => vV y0) (fun y0 r h => RP y0 r h) _ hx2) hO ?_
 intro H hO
 refine bC ?_
 refine bD [(2, (aJ x1))] ?_
 refine bL ?_
 obtain rfl := oI h0
 exact aH (Q_r hO)

theorem NH (x0 : Int) (r : Int) (h0 : tK x0 = some r) : cO Tryz.prog 85 [(cZ .u64 x0)] (eI r) := by
 intro H0
 refine cP Tryz.func85 ?_
 have hO := aK.start H0
 unfold tK at h0
 refine aS aG 1 [] [(2, (eI (0 : Int)))] ?_
 refine dA (fun T H => ∃ x0 : Int, ∃ n2 : Int, Has T [(0, (cZ .u64 x0)), (2, (eI n2))] ∧ aK ⟨H0, [], []⟩ H [] ∧ oF x0 n2 = some r) ?_ ?_
 ·clear hO h0
  rintro T H ⟨x0, n2, hT, hO, h0⟩
  refine aY hT ?_
  clear hT
  unfold oF at h0
  refine dA (fun T H => ∃ x0 : Int, ∃ n2 : Int, Has T [(0, (cZ .u64 x0)), (2, (eI n2))] ∧ aK ⟨H0, [], []⟩ H [] ∧ oG x0 n2 = some r) ?_ ?_
  ·clear hO h0
   rintro T H ⟨x0, n2, hT, hO, h0⟩
   refine aY hT ?_
   clear hT
   unfold oG at h0
   refine dA (fun T H => ∃ x0 : Int, ∃ n2 : Int, Has T [(0, (cZ .u64 x0)), (2, (eI n2))] ∧ aK ⟨H0, [], []⟩ H [] ∧ qR x0 n2 = some r) ?_ ?_
   ·clear hO h0
    rintro T H ⟨x0, n2, hT, hO, h0⟩
    refine aY hT ?_
    clear hT
    unfold qR at h0
    refine aO ?_
    refine aT aG 7 ?_
    obtain ⟨c1, h0⟩ := aX h0
    refine qL [0 ≤ (IntKind.u8.wrap x0) ∧ (IntKind.u8.wrap x0) < ((ByteArray.size (⟨#[0, 1, 2, 2, 3, 3, 3, 3, 4, 4, 4, 4, 4, 4, 4, 4, 5, 5, 5, 5, 5, 5, 5, 5, 5, 5, 5, 5, 5, 5, 5, 5, 6, 6, 6, 6, 6, 6, 6, 6, 6, 6, 6, 6, 6, 6, 6, 6, 6, 6, 6, 6, 6, 6, 6, 6, 6, 6, 6, 6, 6, 6, 6, 6, 7, 7, 7, 7, 7, 7, 7, 7, 7, 7, 7, 7, 7, 7, 7, 7, 7, 7, 7, 7, 7, 7, 7, 7, 7, 7, 7, 7, 7, 7, 7, 7, 7, 7, 7, 7, 7, 7, 7, 7, 7, 7, 7, 7, 7, 7, 7, 7, 7, 7, 7, 7, 7, 7, 7, 7, 7, 7, 7, 7, 7, 7, 7, 7, 8, 8, 8, 8, 8, 8, 8, 8, 8, 8, 8, 8, 8, 8, 8, 8, 8, 8, 8, 8, 8, 8, 8, 8, 8, 8, 8, 8, 8, 8, 8, 8, 8, 8, 8, 8, 8, 8, 8, 8, 8, 8, 8, 8, 8, 8, 8, 8, 8, 8, 8, 8, 8, 8, 8, 8, 8, 8, 8, 8, 8, 8, 8, 8, 8, 8, 8, 8, 8, 8, 8, 8, 8, 8, 8, 8, 8, 8, 8, 8, 8, 8, 8, 8, 8, 8, 8, 8, 8, 8, 8, 8, 8, 8, 8, 8, 8, 8, 8, 8, 8, 8, 8, 8, 8, 8, 8, 8, 8, 8, 8, 8, 8, 8, 8, 8, 8, 8, 8, 8, 8, 8, 8, 8, 8, 8, 8, 8]⟩ : ByteArray) : Nat) : Int)] ⟨c1, trivial⟩ ?_
    refine bD [(2, (eI (wR (n2 + (wR (bt (⟨#[0, 1, 2, 2, 3, 3, 3, 3, 4, 4, 4, 4, 4, 4, 4, 4, 5, 5, 5, 5, 5, 5, 5, 5, 5, 5, 5, 5, 5, 5, 5, 5, 6, 6, 6, 6, 6, 6, 6, 6, 6, 6, 6, 6, 6, 6, 6, 6, 6, 6, 6, 6, 6, 6, 6, 6, 6, 6, 6, 6, 6, 6, 6, 6, 7, 7, 7, 7, 7, 7, 7, 7, 7, 7, 7, 7, 7, 7, 7, 7, 7, 7, 7, 7, 7, 7, 7, 7, 7, 7, 7, 7, 7, 7, 7, 7, 7, 7, 7, 7, 7, 7, 7, 7, 7, 7, 7, 7, 7, 7, 7, 7, 7, 7, 7, 7, 7, 7, 7, 7, 7, 7, 7, 7, 7, 7, 7, 7, 8, 8, 8, 8, 8, 8, 8, 8, 8, 8, 8, 8, 8, 8, 8, 8, 8, 8, 8, 8, 8, 8, 8, 8, 8, 8, 8, 8, 8, 8, 8, 8, 8, 8, 8, 8, 8, 8, 8, 8, 8, 8, 8, 8, 8, 8, 8, 8, 8, 8, 8, 8, 8, 8, 8, 8, 8, 8, 8, 8, 8, 8, 8, 8, 8, 8, 8, 8, 8, 8, 8, 8, 8, 8, 8, 8, 8, 8, 8, 8, 8, 8, 8, 8, 8, 8, 8, 8, 8, 8, 8, 8, 8, 8, 8, 8, 8, 8, 8, 8, 8, 8, 8, 8, 8, 8, 8, 8, 8, 8, 8, 8, 8, 8, 8, 8, 8, 8, 8, 8, 8, 8, 8, 8, 8, 8, 8, 8]⟩ : ByteArray) (IntKind.u8.wrap x0)))))))] ?_
    refine bL ?_
    obtain rfl := oI h0
    exact aH (Q_r hO)
   refine aS aG 2 [] [(14, (aJ (decide ((256 : Int) ≤ x0))))] ?_
   refine bE h0 (fun h0 => ?_) (fun h0 => ?_)
   ·refine aO ?_
    refine aT aG 3 ?_
    obtain ⟨c3, h0⟩ := aX h0
    refine qL [0 ≤ (8 : Int)] ⟨c3, trivial⟩ ?_
    refine bD [(0, (cZ .u64 (Int.fdiv x0 (2 ^ (min (Int.toNat (8 : Int)) 64))))), (2, (eI n2))] ?_
    refine aT aG 3 ?_
    refine bC ?_
    exact aH (aF (⟨rfl, _, _, .eq (by kernel_rfl), hO, h0⟩))
   refine bG ?_
   exact aH (aF (⟨rfl, _, _, .eq (by kernel_rfl), hO, h0⟩))
  refine aS aG 2 [] [(8, (aJ (decide ((65536 : Int) ≤ x0))))] ?_
  refine bE h0 (fun h0 => ?_) (fun h0 => ?_)
  ·refine aO ?_
   refine aT aG 3 ?_
   obtain ⟨c5, h0⟩ := aX h0
   refine qL [0 ≤ (16 : Int)] ⟨c5, trivial⟩ ?_
   refine bD [(0, (cZ .u64 (Int.fdiv x0 (2 ^ (min (Int.toNat (16 : Int)) 64))))), (2, (eI n2))] ?_
   refine aT aG 3 ?_
   refine bC ?_
   exact aH (aF (⟨rfl, _, _, .eq (by kernel_rfl), hO, h0⟩))
  refine bG ?_
  exact aH (aF (⟨rfl, _, _, .eq (by kernel_rfl), hO, h0⟩))
 refine aS aG 2 [] [(4, (aJ (decide ((4294967296 : Int) ≤ x0))))] ?_
 refine bE h0 (fun h0 => ?_) (fun h0 => ?_)
 ·refine aO ?_
  refine aT aG 3 ?_
  obtain ⟨c7, h0⟩ := aX h0
  refine qL [0 ≤ (32 : Int)] ⟨c7, trivial⟩ ?_
  refine bD [(0, (cZ .u64 (Int.fdiv x0 (2 ^ (min (Int.toNat (32 : Int)) 64)))))] ?_
  refine aT aG 1 ?_
  refine bC ?_
  exact aH (aF (⟨rfl, _, _, .eq (by kernel_rfl), hO, h0⟩))
 refine bG ?_
 exact aH (aF (⟨rfl, _, _, .eq (by kernel_rfl), hO, h0⟩))

theorem GU (x0 : Int) (r : Int) (h0 : nJ x0 = some r) : cO Tryz.prog 64 [(cZ .u64 x0)] (eI r) := by
 intro H0
 refine cP Tryz.func64 ?_
 have hO := aK.start H0
 unfold nJ at h0
 refine aS aG 1 [] [] ?_
 refine aO ?_
 refine rG (false) (fun hc1 => ?_) (fun hc1 => ?_)
 ·cases hc1
 ·refine bG ?_
  refine aH (aF ?_)
  refine aO ?_
  refine aT aG 3 ?_
  refine bI 1 ?_
  obtain ⟨x2, hx3, h0⟩ := aW h0
  refine dS (NH x0 _ hx3) hO ?_
  intro H hO
  refine bC ?_
  refine bD [(2, (eI x2))] ?_
  refine bL ?_
  obtain rfl := oI h0
  exact aH (Q_r hO)

theorem gQ (x0 : Int) (y1 : Int) (r : Bool) (h0 : dQ x0 y1 = some r) : cO Tryz.prog 81 [(eI x0), (eI y1)] (aJ r) := by
 intro H0
 refine cP Tryz.func81 ?_
 have hO := aK.start H0
 unfold dQ at h0
 refine aS aG 1 [] [] ?_
 refine aO ?_
 refine aT aG 13 ?_
 refine bI 1 ?_
 obtain ⟨x1, hx2, h0⟩ := aW h0
 refine dS (xZ x0 _ hx2) hO ?_
 intro H hO
 refine bI 4 ?_
 obtain ⟨x4, hx5, h0⟩ := aW h0
 refine vN [(7, true)] 49 [(eI y1)] (aJ x4) x1 (by kernel_rfl) (by kernel_rfl) (by kernel_rfl) (fun hb6 => (xZ y1 _ (pN hx5 hb6))) hO ?_
 intro H hO
 refine bC ?_
 refine bD [(4, (aJ ((x1 && (!x4)) || (decide (x0 < y1)))))] ?_
 refine bL ?_
 obtain rfl := oI h0
 exact aH (Q_r hO)

theorem AD (lo0p : Nat) (aA : (List Int)) (a1 : Int) (b2 : Int) (r : List Int) (h0 : iJ aA a1 b2 = some r) : iG Tryz.prog 75 lo0p 1 (List.map (eI) aA) (List.map (eI) r) [(.msl 1 lo0p 0 (List.length aA)), (eI a1), (eI b2)] (.tup []) := by
 intro H0 hl0
 refine cP Tryz.func75 ?_
 have hO := aK.nP hl0
 clear hl0
 obtain ⟨N0, hN0⟩ : ∃ n, n = List.length aA := ⟨_, rfl⟩
 have hN : List.length aA = N0 := hN0.symm
 unfold iJ at h0
 refine aS aG 3 [] [(6, (eI (wR (a1 + (1 : Int)))))] ?_
 refine bN 0 ?_
 refine dK [(0, (.msl 1 lo0p 0 (List.length aA))), (1, (eI a1)), (2, (eI b2)), (6, (eI (wR (a1 + (1 : Int)))))] ?_
 refine cQ (fun T H => ∃ aA : List Int, ∃ i6 : Int, Has T [(0, (.msl 1 lo0p 0 (List.length aA))), (1, (eI a1)), (2, (eI b2)), (6, (eI i6))] ∧ aK ⟨H0, [lo0p], []⟩ H [(lo0p, 1, List.map (eI) aA)] ∧ List.length aA = N0 ∧ lJ aA a1 b2 i6 = some r) ?_ ⟨aA, wR (a1 + (1 : Int)), .eq (by kernel_rfl), hO, hN, h0⟩
 clear hO hN h0
 rintro T H ⟨aA, i6, hT, hO, hN, h0⟩
 refine aY hT ?_
 clear hT
 unfold lJ at h0
 obtain ⟨rr0, hl0, h0⟩ := aW h0
 refine cB (by kernel_rfl) (fun (s : List Int × Int) T H => Has T [(0, (.msl 1 lo0p 0 (List.length s.1))), (1, (eI a1)), (2, (eI b2)), (6, (eI s.2))] ∧ aK ⟨H0, [lo0p], []⟩ H [(lo0p, 1, List.map (eI) s.1)] ∧ List.length s.1 = N0) hl0 ⟨.eq (by kernel_rfl), hO, hN⟩ ?_
 clear hO hN
 rintro k0 s out1 T H ⟨hT, hO, hN⟩ h1 ho0
 obtain ⟨aA, i6⟩ := s
 replace h1 : dR a1 b2 aA i6 = some out1 := h1
 try dsimp only at hT
 refine aY hT ?_
 clear hT
 unfold dR at h1
 refine aO ?_
 refine aS aG 3 [] [(12, (aJ (decide (i6 < b2))))] ?_
 refine bE h1 (fun h1 => ?_) (fun h1 => ?_)
 ·refine bG ?_
  refine bD [(0, (.msl 1 lo0p 0 (List.length aA))), (1, (eI a1)), (2, (eI b2)), (6, (eI i6))] ?_
  refine dA (fun T H => ∃ aA : List Int, Has T [(0, (.msl 1 lo0p 0 (List.length aA))), (1, (eI a1)), (2, (eI b2)), (6, (eI i6))] ∧ aK ⟨H0, [lo0p], []⟩ H [(lo0p, 1, List.map (eI) aA)] ∧ List.length aA = N0 ∧ gZ aA a1 b2 i6 = some out1) ?_ ?_
  ·clear hO hN h1
   rintro T H ⟨aA, hT, hO, hN, h1⟩
   refine aY hT ?_
   clear hT
   unfold gZ at h1
   refine aT aG 3 ?_
   refine bC ?_
   exact aH (aF (⟨rfl, _, (oI h1).symm, .eq (by kernel_rfl), hO, hN⟩))
  refine bN 1 ?_
  refine aS aG 2 [] [(7, (eI i6))] ?_
  refine bN 2 ?_
  refine dK [(0, (.msl 1 lo0p 0 (List.length aA))), (1, (eI a1)), (2, (eI b2)), (6, (eI i6)), (7, (eI i6))] ?_
  refine cQ (fun T H => ∃ aA : List Int, ∃ j7 : Int, Has T [(0, (.msl 1 lo0p 0 (List.length aA))), (1, (eI a1)), (2, (eI b2)), (6, (eI i6)), (7, (eI j7))] ∧ aK ⟨H0, [lo0p], []⟩ H [(lo0p, 1, List.map (eI) aA)] ∧ List.length aA = N0 ∧ kR aA a1 b2 i6 j7 = some out1) ?_ ⟨aA, i6, .eq (by kernel_rfl), hO, hN, h1⟩
  clear hO hN h1
  rintro T H ⟨aA, j7, hT, hO, hN, h1⟩
  refine aY hT ?_
  clear hT
  unfold kR at h1
  obtain ⟨rr1, hl1, h1⟩ := aW h1
  refine cB (by kernel_rfl) (fun (s : List Int × Int) T H => Has T [(0, (.msl 1 lo0p 0 (List.length s.1))), (1, (eI a1)), (2, (eI b2)), (6, (eI i6)), (7, (eI s.2))] ∧ aK ⟨H0, [lo0p], []⟩ H [(lo0p, 1, List.map (eI) s.1)] ∧ List.length s.1 = N0) hl1 ⟨.eq (by kernel_rfl), hO, hN⟩ ?_
  clear hO hN
  rintro k1 s out2 T H ⟨hT, hO, hN⟩ h2 ho1
  obtain ⟨aA, j7⟩ := s
  replace h2 : fN a1 b2 i6 aA j7 = some out2 := h2
  try dsimp only at hT
  refine aY hT ?_
  clear hT
  unfold fN at h2
  refine aO ?_
  refine aO ?_
  obtain ⟨c2, h2⟩ := aX h2
  obtain ⟨c3, h2⟩ := aX h2
  obtain ⟨x4, hx5, h2⟩ := aW h2
  refine eR (eP []) aG 15 ?_
  refine uF (K := fun T H => Has (lift T) [(0, (.msl 1 lo0p 0 (List.length aA))), (1, (eI a1)), (2, (eI b2)), (6, (eI i6)), (7, (eI j7)), (30, (aJ ((decide (a1 < j7)) && x4)))] ∧ aK ⟨H0, [lo0p], []⟩ H [(lo0p, 1, List.map (eI) aA)]) ?_ ?_
  ·refine qV 4 ?_
   refine sE (t := 19) (e := decide (a1 < j7)) (by kernel_rfl) (fun hg6 => ?_) (fun hg6 => ?_)
   ·refine bQ 7 [0 ≤ j7 ∧ j7 < (lN aA)] ⟨(c2 hg6), trivial⟩ ?_
    refine jH 0 lo0p 1 (0 + Int.toNat j7) (eI (gD aA j7)) (eI (gD aA j7)) (List.map (eI) aA) (by kernel_rfl) (by kernel_rfl) (by kernel_rfl) hO (by kernel_rfl) (bJ (c2 hg6)) ?_
    refine bQ 12 [0 ≤ (wR (j7 - (1 : Int))) ∧ (wR (j7 - (1 : Int))) < (lN aA)] ⟨(c3 hg6), trivial⟩ ?_
    refine jH 0 lo0p 1 (0 + Int.toNat (wR (j7 - (1 : Int)))) (eI (gD aA (wR (j7 - (1 : Int))))) (eI (gD aA (wR (j7 - (1 : Int))))) (List.map (eI) aA) (by kernel_rfl) (by kernel_rfl) (by kernel_rfl) hO (by kernel_rfl) (bJ (c3 hg6)) ?_
    refine tX 81 [(eI (gD aA j7)), (eI (gD aA (wR (j7 - (1 : Int)))))] (aJ x4) (by kernel_rfl) (by kernel_rfl) (gQ (gD aA j7) (gD aA (wR (j7 - (1 : Int)))) _ (pN hx5 hg6)) hO ?_
    intro H hO
    refine jI ?_
    exact ⟨⟨[(0, (.msl 1 lo0p 0 (List.length aA))), (1, (eI a1)), (2, (eI b2)), (6, (eI i6)), (7, (eI j7)), (30, (aJ x4))], by kernel_rfl, rfl, ⟨aL.refl _, aL.refl _, aL.refl _, aL.refl _, aL.refl _, aL.eq (congrArg aJ (qD hg6 rfl).symm), trivial⟩⟩, hO⟩
   refine jI ?_
   exact ⟨⟨[(0, (.msl 1 lo0p 0 (List.length aA))), (1, (eI a1)), (2, (eI b2)), (6, (eI i6)), (7, (eI j7)), (30, (aJ false))], by kernel_rfl, rfl, ⟨aL.refl _, aL.refl _, aL.refl _, aL.refl _, aL.refl _, aL.eq (congrArg aJ (qD hg6 rfl).symm), trivial⟩⟩, hO⟩
  ·rintro T H ⟨hT, hO⟩
   refine cA hT ?_
   clear hT
   refine aH (aF ?_)
   refine bE h2 (fun h2 => ?_) (fun h2 => ?_)
   ·refine bG ?_
    refine bD [(0, (.msl 1 lo0p 0 (List.length aA))), (1, (eI a1)), (2, (eI b2)), (6, (eI i6)), (7, (eI j7))] ?_
    refine aO ?_
    refine bN 3 ?_
    refine eR (eP []) aG 18 ?_
    obtain ⟨c8, h2⟩ := aX h2
    refine bQ 9 [0 ≤ (wR (j7 - (1 : Int))) ∧ (wR (j7 - (1 : Int))) < (lN aA)] ⟨c8, trivial⟩ ?_
    refine dN 0 lo0p 1 (0 + Int.toNat (wR (j7 - (1 : Int)))) (eI (gD aA (wR (j7 - (1 : Int))))) (eI (gD aA (wR (j7 - (1 : Int))))) (List.map (eI) aA) hO (bJ c8) ?_
    obtain ⟨c9, h2⟩ := aX h2
    refine bQ 13 [0 ≤ j7 ∧ j7 < (lN aA)] ⟨c9, trivial⟩ ?_
    refine dN 0 lo0p 1 (0 + Int.toNat j7) (eI (gD aA j7)) (eI (gD aA j7)) (List.map (eI) aA) hO (bJ c9) ?_
    obtain ⟨c10, h2⟩ := aX h2
    refine bQ 15 [0 ≤ j7 ∧ j7 < (lN aA)] ⟨c10, trivial⟩ ?_
    refine iD 0 lo0p 1 (0 + Int.toNat j7) (eI (gD aA j7)) (eI (gD aA (wR (j7 - (1 : Int))))) (List.map (eI) aA) [(lo0p, 1, List.map (eI) (List.set aA (Int.toNat j7) (gD aA (wR (j7 - (1 : Int))))))] hO (bJ c10) (by simp only [List.set, eA]) ?_
    intro H hO
    replace hN : List.length (List.set aA (Int.toNat j7) (gD aA (wR (j7 - (1 : Int))))) = N0 := by simpa using hN
    obtain ⟨c11, h2⟩ := aX h2
    refine bQ 17 [0 ≤ (wR (j7 - (1 : Int))) ∧ (wR (j7 - (1 : Int))) < (lN aA)] ⟨c11, trivial⟩ ?_
    refine iD 0 lo0p 1 (0 + Int.toNat (wR (j7 - (1 : Int)))) (eI (gD (List.set aA (Int.toNat j7) (gD aA (wR (j7 - (1 : Int))))) (wR (j7 - (1 : Int))))) (eI (gD aA j7)) (List.map (eI) (List.set aA (Int.toNat j7) (gD aA (wR (j7 - (1 : Int)))))) [(lo0p, 1, List.map (eI) (List.set (List.set aA (Int.toNat j7) (gD aA (wR (j7 - (1 : Int))))) (Int.toNat (wR (j7 - (1 : Int)))) (gD aA j7)))] hO (lQ c11 (by simp [])) (by simp only [List.set, eA]) ?_
    intro H hO
    replace hN : List.length (List.set (List.set aA (Int.toNat j7) (gD aA (wR (j7 - (1 : Int))))) (Int.toNat (wR (j7 - (1 : Int)))) (gD aA j7)) = N0 := by simpa using hN
    refine nU (by kernel_rfl) ?_
    refine cA (l := [(0, (.msl 1 lo0p 0 (List.length (List.set (List.set aA (Int.toNat j7) (gD aA (wR (j7 - (1 : Int))))) (Int.toNat (wR (j7 - (1 : Int)))) (gD aA j7))))), (1, (eI a1)), (2, (eI b2)), (6, (eI i6)), (7, (eI j7))]) ⟨[(0, (.msl 1 lo0p 0 (List.length aA))), (1, (eI a1)), (2, (eI b2)), (6, (eI i6)), (7, (eI j7))], by kernel_rfl, rfl, ⟨aL.eq (by simp []), aL.refl _, aL.refl _, aL.refl _, aL.refl _, trivial⟩⟩ ?_
    refine aH (aU (aF (?_)))
    refine aT aG 3 ?_
    refine bC ?_
    exact aH (aF (⟨rfl, _, (oI h2).symm, .eq (by kernel_rfl), hO, hN⟩))
   refine dW 2 ?_
   obtain rfl := oI h2
   obtain rfl : _ = rr1 := ho1
   replace h1 : gZ aA a1 b2 i6 = some out1 := h1
   exact aH (aR (aR (bF (aU (aF (⟨rfl, _, .eq (by kernel_rfl), hO, hN, h1⟩))))))
 refine dW 0 ?_
 obtain rfl := oI h1
 obtain rfl : _ = rr0 := ho0
 replace h0 : some aA = some r := h0
 obtain rfl := oI h0
 exact aH (aR (aR (bF (rY (x := (.tup [])) (by kernel_rfl) (aL.refl _) ⟨rfl, hO.ext, hO.at 0 (by kernel_rfl), by first | rfl | (simp only [List.length_map]; exact hN.trans hN0)⟩))))

theorem vO (lo0p : Nat) (aA : (List Int)) (lo1 : Int) (hi2 : Int) (bK : Int) (r : List Int) (h0 : fU aA lo1 hi2 bK = some r) : iG Tryz.prog 92 lo0p 1 (List.map (eI) aA) (List.map (eI) r) [(.msl 1 lo0p 0 (List.length aA)), (eI lo1), (eI hi2), (eI bK)] (.tup []) := by
 intro H0 hl0
 refine cP Tryz.func92 ?_
 have hO := aK.nP hl0
 clear hl0
 obtain ⟨N0, hN0⟩ : ∃ n, n = List.length aA := ⟨_, rfl⟩
 have hN : List.length aA = N0 := hN0.symm
 unfold fU at h0
 refine aS aG 2 [1] [(8, (eI lo1))] ?_
 refine bN 0 ?_
 refine dK [(0, (.msl 1 lo0p 0 (List.length aA))), (2, (eI hi2)), (3, (eI bK)), (8, (eI lo1))] ?_
 refine cQ (fun T H => ∃ aA : List Int, ∃ cF : Int, Has T [(0, (.msl 1 lo0p 0 (List.length aA))), (2, (eI hi2)), (3, (eI bK)), (8, (eI cF))] ∧ aK ⟨H0, [lo0p], []⟩ H [(lo0p, 1, List.map (eI) aA)] ∧ List.length aA = N0 ∧ nY aA hi2 bK cF = some r) ?_ ⟨aA, lo1, .eq (by kernel_rfl), hO, hN, h0⟩
 clear hO hN h0
 rintro T H ⟨aA, cF, hT, hO, hN, h0⟩
 refine aY hT ?_
 clear hT
 unfold nY at h0
 obtain ⟨rr0, hl0, h0⟩ := aW h0
 refine cB (by kernel_rfl) (fun (s : List Int × Int) T H => Has T [(0, (.msl 1 lo0p 0 (List.length s.1))), (2, (eI hi2)), (3, (eI bK)), (8, (eI s.2))] ∧ aK ⟨H0, [lo0p], []⟩ H [(lo0p, 1, List.map (eI) s.1)] ∧ List.length s.1 = N0) hl0 ⟨.eq (by kernel_rfl), hO, hN⟩ ?_
 clear hO hN
 rintro k0 s out1 T H ⟨hT, hO, hN⟩ h1 ho0
 obtain ⟨aA, cF⟩ := s
 replace h1 : dM hi2 bK aA cF = some out1 := h1
 try dsimp only at hT
 refine aY hT ?_
 clear hT
 unfold dM at h1
 refine bN 1 ?_
 refine aS aG 4 [] [(9, (eI (wR ((wR ((2 : Int) * cF)) + (1 : Int)))))] ?_
 refine aO ?_
 refine aS aG 3 [] [(16, (aJ (decide (hi2 ≤ (wR ((wR ((2 : Int) * cF)) + (1 : Int)))))))] ?_
 refine bE h1 (fun h1 => ?_) (fun h1 => ?_)
 ·refine dW 0 ?_
  obtain rfl := oI h1
  obtain rfl : _ = rr0 := ho0
  replace h0 : some aA = some r := h0
  obtain rfl := oI h0
  exact aH (aR (vF (by kernel_rfl) (aR (bF (rY (x := (.tup [])) (by kernel_rfl) (aL.refl _) ⟨rfl, hO.ext, hO.at 0 (by kernel_rfl), by first | rfl | (simp only [List.length_map]; exact hN.trans hN0)⟩)))))
 refine bG ?_
 refine bD [(0, (.msl 1 lo0p 0 (List.length aA))), (2, (eI hi2)), (3, (eI bK)), (8, (eI cF)), (9, (eI (wR ((wR ((2 : Int) * cF)) + (1 : Int)))))] ?_
 refine dA (fun T H => ∃ aA : List Int, ∃ eO : Int, Has T [(0, (.msl 1 lo0p 0 (List.length aA))), (2, (eI hi2)), (3, (eI bK)), (8, (eI cF)), (9, (eI eO))] ∧ aK ⟨H0, [lo0p], []⟩ H [(lo0p, 1, List.map (eI) aA)] ∧ List.length aA = N0 ∧ iE aA hi2 bK cF eO = some out1) ?_ ?_
 ·clear hO hN h1
  rintro T H ⟨aA, eO, hT, hO, hN, h1⟩
  refine aY hT ?_
  clear hT
  unfold iE at h1
  refine aO ?_
  refine aO ?_
  refine eR (eP [51]) aG 14 ?_
  obtain ⟨c2, h1⟩ := aX h1
  refine bQ 5 [0 ≤ (wR (bK + cF)) ∧ (wR (bK + cF)) < (lN aA)] ⟨c2, trivial⟩ ?_
  refine dN 0 lo0p 1 (0 + Int.toNat (wR (bK + cF))) (eI (gD aA (wR (bK + cF)))) (eI (gD aA (wR (bK + cF)))) (List.map (eI) aA) hO (bJ c2) ?_
  obtain ⟨c3, h1⟩ := aX h1
  refine bQ 11 [0 ≤ (wR (bK + eO)) ∧ (wR (bK + eO)) < (lN aA)] ⟨c3, trivial⟩ ?_
  refine dN 0 lo0p 1 (0 + Int.toNat (wR (bK + eO))) (eI (gD aA (wR (bK + eO)))) (eI (gD aA (wR (bK + eO)))) (List.map (eI) aA) hO (bJ c3) ?_
  obtain ⟨x4, hx5, h1⟩ := aW h1
  refine BA (gQ (gD aA (wR (bK + cF))) (gD aA (wR (bK + eO))) _ hx5) hO ?_
  intro H hO
  refine jI ?_
  refine bP [] [(52, (aJ (!x4)))] ?_
  refine bE h1 (fun h1 => ?_) (fun h1 => ?_)
  ·refine bL ?_
   obtain rfl := oI h1
   obtain rfl : _ = rr0 := ho0
   replace h0 : some aA = some r := h0
   obtain rfl := oI h0
   exact aH (bB (bT (bB (bT (mB (x := (.tup [])) (by kernel_rfl) (aL.refl _) ⟨rfl, hO.ext, hO.at 0 (by kernel_rfl), by first | rfl | (simp only [List.length_map]; exact hN.trans hN0)⟩)))))
  refine bG ?_
  refine bD [(0, (.msl 1 lo0p 0 (List.length aA))), (2, (eI hi2)), (3, (eI bK)), (8, (eI cF)), (9, (eI eO))] ?_
  refine aO ?_
  refine eR (eP []) aG 24 ?_
  obtain ⟨c8, h1⟩ := aX h1
  refine bQ 13 [0 ≤ (wR (bK + eO)) ∧ (wR (bK + eO)) < (lN aA)] ⟨c8, trivial⟩ ?_
  refine dN 0 lo0p 1 (0 + Int.toNat (wR (bK + eO))) (eI (gD aA (wR (bK + eO)))) (eI (gD aA (wR (bK + eO)))) (List.map (eI) aA) hO (bJ c8) ?_
  obtain ⟨c9, h1⟩ := aX h1
  refine bQ 19 [0 ≤ (wR (bK + cF)) ∧ (wR (bK + cF)) < (lN aA)] ⟨c9, trivial⟩ ?_
  refine dN 0 lo0p 1 (0 + Int.toNat (wR (bK + cF))) (eI (gD aA (wR (bK + cF)))) (eI (gD aA (wR (bK + cF)))) (List.map (eI) aA) hO (bJ c9) ?_
  obtain ⟨c10, h1⟩ := aX h1
  refine bQ 21 [0 ≤ (wR (bK + cF)) ∧ (wR (bK + cF)) < (lN aA)] ⟨c10, trivial⟩ ?_
  refine iD 0 lo0p 1 (0 + Int.toNat (wR (bK + cF))) (eI (gD aA (wR (bK + cF)))) (eI (gD aA (wR (bK + eO)))) (List.map (eI) aA) [(lo0p, 1, List.map (eI) (List.set aA (Int.toNat (wR (bK + cF))) (gD aA (wR (bK + eO)))))] hO (bJ c10) (by simp only [List.set, eA]) ?_
  intro H hO
  replace hN : List.length (List.set aA (Int.toNat (wR (bK + cF))) (gD aA (wR (bK + eO)))) = N0 := by simpa using hN
  obtain ⟨c11, h1⟩ := aX h1
  refine bQ 23 [0 ≤ (wR (bK + eO)) ∧ (wR (bK + eO)) < (lN aA)] ⟨c11, trivial⟩ ?_
  refine iD 0 lo0p 1 (0 + Int.toNat (wR (bK + eO))) (eI (gD (List.set aA (Int.toNat (wR (bK + cF))) (gD aA (wR (bK + eO)))) (wR (bK + eO)))) (eI (gD aA (wR (bK + cF)))) (List.map (eI) (List.set aA (Int.toNat (wR (bK + cF))) (gD aA (wR (bK + eO))))) [(lo0p, 1, List.map (eI) (List.set (List.set aA (Int.toNat (wR (bK + cF))) (gD aA (wR (bK + eO)))) (Int.toNat (wR (bK + eO))) (gD aA (wR (bK + cF)))))] hO (lQ c11 (by simp [])) (by simp only [List.set, eA]) ?_
  intro H hO
  replace hN : List.length (List.set (List.set aA (Int.toNat (wR (bK + cF))) (gD aA (wR (bK + eO)))) (Int.toNat (wR (bK + eO))) (gD aA (wR (bK + cF)))) = N0 := by simpa using hN
  refine nU (by kernel_rfl) ?_
  refine cA (l := [(0, (.msl 1 lo0p 0 (List.length (List.set (List.set aA (Int.toNat (wR (bK + cF))) (gD aA (wR (bK + eO)))) (Int.toNat (wR (bK + eO))) (gD aA (wR (bK + cF))))))), (2, (eI hi2)), (3, (eI bK)), (9, (eI eO))]) ⟨[(0, (.msl 1 lo0p 0 (List.length aA))), (2, (eI hi2)), (3, (eI bK)), (9, (eI eO))], by kernel_rfl, rfl, ⟨aL.eq (by simp []), aL.refl _, aL.refl _, aL.refl _, trivial⟩⟩ ?_
  refine aH (aF (?_))
  refine aT aG 2 ?_
  refine bC ?_
  exact aH (aU (aF (⟨rfl, _, (oI h1).symm, .eq (by kernel_rfl), hO, hN⟩)))
 refine aO ?_
 obtain ⟨c12, h1⟩ := aX h1
 obtain ⟨c13, h1⟩ := aX h1
 obtain ⟨x14, hx15, h1⟩ := aW h1
 refine eR (eP []) aG 20 ?_
 refine uF (K := fun T H => Has (lift T) [(0, (.msl 1 lo0p 0 (List.length aA))), (2, (eI hi2)), (3, (eI bK)), (8, (eI cF)), (9, (eI (wR ((wR ((2 : Int) * cF)) + (1 : Int))))), (36, (aJ ((decide ((wR ((wR ((wR ((2 : Int) * cF)) + (1 : Int))) + (1 : Int))) < hi2)) && x14)))] ∧ aK ⟨H0, [lo0p], []⟩ H [(lo0p, 1, List.map (eI) aA)]) ?_ ?_
 ·refine qV 5 ?_
  refine sE (t := 21) (e := decide ((wR ((wR ((wR ((2 : Int) * cF)) + (1 : Int))) + (1 : Int))) < hi2)) (by kernel_rfl) (fun hg16 => ?_) (fun hg16 => ?_)
  ·refine bQ 10 [0 ≤ (wR (bK + (wR ((wR ((2 : Int) * cF)) + (1 : Int))))) ∧ (wR (bK + (wR ((wR ((2 : Int) * cF)) + (1 : Int))))) < (lN aA)] ⟨(c12 hg16), trivial⟩ ?_
   refine jH 0 lo0p 1 (0 + Int.toNat (wR (bK + (wR ((wR ((2 : Int) * cF)) + (1 : Int)))))) (eI (gD aA (wR (bK + (wR ((wR ((2 : Int) * cF)) + (1 : Int))))))) (eI (gD aA (wR (bK + (wR ((wR ((2 : Int) * cF)) + (1 : Int))))))) (List.map (eI) aA) (by kernel_rfl) (by kernel_rfl) (by kernel_rfl) hO (by kernel_rfl) (bJ (c12 hg16)) ?_
   refine bQ 17 [0 ≤ (wR ((wR (bK + (wR ((wR ((2 : Int) * cF)) + (1 : Int))))) + (1 : Int))) ∧ (wR ((wR (bK + (wR ((wR ((2 : Int) * cF)) + (1 : Int))))) + (1 : Int))) < (lN aA)] ⟨(c13 hg16), trivial⟩ ?_
   refine jH 0 lo0p 1 (0 + Int.toNat (wR ((wR (bK + (wR ((wR ((2 : Int) * cF)) + (1 : Int))))) + (1 : Int)))) (eI (gD aA (wR ((wR (bK + (wR ((wR ((2 : Int) * cF)) + (1 : Int))))) + (1 : Int))))) (eI (gD aA (wR ((wR (bK + (wR ((wR ((2 : Int) * cF)) + (1 : Int))))) + (1 : Int))))) (List.map (eI) aA) (by kernel_rfl) (by kernel_rfl) (by kernel_rfl) hO (by kernel_rfl) (bJ (c13 hg16)) ?_
   refine tX 81 [(eI (gD aA (wR (bK + (wR ((wR ((2 : Int) * cF)) + (1 : Int))))))), (eI (gD aA (wR ((wR (bK + (wR ((wR ((2 : Int) * cF)) + (1 : Int))))) + (1 : Int)))))] (aJ x14) (by kernel_rfl) (by kernel_rfl) (gQ (gD aA (wR (bK + (wR ((wR ((2 : Int) * cF)) + (1 : Int)))))) (gD aA (wR ((wR (bK + (wR ((wR ((2 : Int) * cF)) + (1 : Int))))) + (1 : Int)))) _ (pN hx15 hg16)) hO ?_
   intro H hO
   refine jI ?_
   exact ⟨⟨[(0, (.msl 1 lo0p 0 (List.length aA))), (2, (eI hi2)), (3, (eI bK)), (8, (eI cF)), (9, (eI (wR ((wR ((2 : Int) * cF)) + (1 : Int))))), (36, (aJ x14))], by kernel_rfl, rfl, ⟨aL.refl _, aL.refl _, aL.refl _, aL.refl _, aL.refl _, aL.eq (congrArg aJ (qD hg16 rfl).symm), trivial⟩⟩, hO⟩
  refine jI ?_
  exact ⟨⟨[(0, (.msl 1 lo0p 0 (List.length aA))), (2, (eI hi2)), (3, (eI bK)), (8, (eI cF)), (9, (eI (wR ((wR ((2 : Int) * cF)) + (1 : Int))))), (36, (aJ false))], by kernel_rfl, rfl, ⟨aL.refl _, aL.refl _, aL.refl _, aL.refl _, aL.refl _, aL.eq (congrArg aJ (qD hg16 rfl).symm), trivial⟩⟩, hO⟩
 ·rintro T H ⟨hT, hO⟩
  refine cA hT ?_
  clear hT
  refine aH (aF ?_)
  refine bE h1 (fun h1 => ?_) (fun h1 => ?_)
  ·refine aT aG 3 ?_
   refine bC ?_
   exact aH (aF (⟨rfl, _, _, .eq (by kernel_rfl), hO, hN, h1⟩))
  refine bG ?_
  exact aH (aF (⟨rfl, _, _, .eq (by kernel_rfl), hO, hN, h1⟩))

theorem DB (lo0p : Nat) (aA : (List Int)) (a1 : Int) (b2 : Int) (r : List Int) (h0 : lR aA a1 b2 = some r) : iG Tryz.prog 76 lo0p 1 (List.map (eI) aA) (List.map (eI) r) [(.msl 1 lo0p 0 (List.length aA)), (eI a1), (eI b2)] (.tup []) := by
 intro H0 hl0
 refine cP Tryz.func76 ?_
 have hO := aK.nP hl0
 clear hl0
 obtain ⟨N0, hN0⟩ : ∃ n, n = List.length aA := ⟨_, rfl⟩
 have hN : List.length aA = N0 := hN0.symm
 unfold lR at h0
 refine aS aG 2 [] [(6, (eI a1))] ?_
 refine aS aG 1 [] [(7, (eI (0 : Int)))] ?_
 refine aS aG 4 [1, 2] [(8, (eI (wR (b2 - a1))))] ?_
 refine dA (fun T H => ∃ aA : List Int, ∃ bS : Int, ∃ lo7 : Int, ∃ hi8 : Int, Has T [(0, (.msl 1 lo0p 0 (List.length aA))), (6, (eI bS)), (7, (eI lo7)), (8, (eI hi8))] ∧ aK ⟨H0, [lo0p], []⟩ H [(lo0p, 1, List.map (eI) aA)] ∧ List.length aA = N0 ∧ kP aA bS lo7 hi8 = some r) ?_ ?_
 ·clear hO hN h0
  rintro T H ⟨aA, bS, lo7, hi8, hT, hO, hN, h0⟩
  refine aY hT ?_
  clear hT
  unfold kP at h0
  refine aS aG 3 [8] [(10, (eI (wR (hi8 - (1 : Int)))))] ?_
  refine bN 2 ?_
  refine dK [(0, (.msl 1 lo0p 0 (List.length aA))), (6, (eI bS)), (7, (eI lo7)), (10, (eI (wR (hi8 - (1 : Int)))))] ?_
  refine cQ (fun T H => ∃ aA : List Int, ∃ i10 : Int, Has T [(0, (.msl 1 lo0p 0 (List.length aA))), (6, (eI bS)), (7, (eI lo7)), (10, (eI i10))] ∧ aK ⟨H0, [lo0p], []⟩ H [(lo0p, 1, List.map (eI) aA)] ∧ List.length aA = N0 ∧ nX aA bS lo7 i10 = some r) ?_ ⟨aA, wR (hi8 - (1 : Int)), .eq (by kernel_rfl), hO, hN, h0⟩
  clear hO hN h0
  rintro T H ⟨aA, i10, hT, hO, hN, h0⟩
  refine aY hT ?_
  clear hT
  unfold nX at h0
  obtain ⟨rr0, hl0, h0⟩ := aW h0
  refine cB (by kernel_rfl) (fun (s : List Int × Int) T H => Has T [(0, (.msl 1 lo0p 0 (List.length s.1))), (6, (eI bS)), (7, (eI lo7)), (10, (eI s.2))] ∧ aK ⟨H0, [lo0p], []⟩ H [(lo0p, 1, List.map (eI) s.1)] ∧ List.length s.1 = N0) hl0 ⟨.eq (by kernel_rfl), hO, hN⟩ ?_
  clear hO hN
  rintro k0 s out1 T H ⟨hT, hO, hN⟩ h1 ho0
  obtain ⟨aA, i10⟩ := s
  replace h1 : eS bS lo7 aA i10 = some out1 := h1
  try dsimp only at hT
  refine aY hT ?_
  clear hT
  unfold eS at h1
  refine aO ?_
  refine aS aG 2 [] [(30, (aJ (decide ((0 : Int) ≤ i10))))] ?_
  refine bE h1 (fun h1 => ?_) (fun h1 => ?_)
  ·refine bG ?_
   refine bD [(0, (.msl 1 lo0p 0 (List.length aA))), (6, (eI bS)), (7, (eI lo7)), (10, (eI i10))] ?_
   refine aO ?_
   refine bN 3 ?_
   refine aO ?_
   refine eR (eP []) aG 20 ?_
   obtain ⟨c2, h1⟩ := aX h1
   refine bQ 11 [0 ≤ (wR (bS + i10)) ∧ (wR (bS + i10)) < (lN aA)] ⟨c2, trivial⟩ ?_
   refine dN 0 lo0p 1 (0 + Int.toNat (wR (bS + i10))) (eI (gD aA (wR (bS + i10)))) (eI (gD aA (wR (bS + i10)))) (List.map (eI) aA) hO (bJ c2) ?_
   obtain ⟨c3, h1⟩ := aX h1
   refine bQ 15 [0 ≤ bS ∧ bS < (lN aA)] ⟨c3, trivial⟩ ?_
   refine dN 0 lo0p 1 (0 + Int.toNat bS) (eI (gD aA bS)) (eI (gD aA bS)) (List.map (eI) aA) hO (bJ c3) ?_
   obtain ⟨c4, h1⟩ := aX h1
   refine bQ 17 [0 ≤ bS ∧ bS < (lN aA)] ⟨c4, trivial⟩ ?_
   refine iD 0 lo0p 1 (0 + Int.toNat bS) (eI (gD aA bS)) (eI (gD aA (wR (bS + i10)))) (List.map (eI) aA) [(lo0p, 1, List.map (eI) (List.set aA (Int.toNat bS) (gD aA (wR (bS + i10)))))] hO (bJ c4) (by simp only [List.set, eA]) ?_
   intro H hO
   replace hN : List.length (List.set aA (Int.toNat bS) (gD aA (wR (bS + i10)))) = N0 := by simpa using hN
   obtain ⟨c5, h1⟩ := aX h1
   refine bQ 19 [0 ≤ (wR (bS + i10)) ∧ (wR (bS + i10)) < (lN aA)] ⟨c5, trivial⟩ ?_
   refine iD 0 lo0p 1 (0 + Int.toNat (wR (bS + i10))) (eI (gD (List.set aA (Int.toNat bS) (gD aA (wR (bS + i10)))) (wR (bS + i10)))) (eI (gD aA bS)) (List.map (eI) (List.set aA (Int.toNat bS) (gD aA (wR (bS + i10))))) [(lo0p, 1, List.map (eI) (List.set (List.set aA (Int.toNat bS) (gD aA (wR (bS + i10)))) (Int.toNat (wR (bS + i10))) (gD aA bS)))] hO (lQ c5 (by simp [])) (by simp only [List.set, eA]) ?_
   intro H hO
   replace hN : List.length (List.set (List.set aA (Int.toNat bS) (gD aA (wR (bS + i10)))) (Int.toNat (wR (bS + i10))) (gD aA bS)) = N0 := by simpa using hN
   refine nU (by kernel_rfl) ?_
   refine cA (l := [(0, (.msl 1 lo0p 0 (List.length (List.set (List.set aA (Int.toNat bS) (gD aA (wR (bS + i10)))) (Int.toNat (wR (bS + i10))) (gD aA bS))))), (6, (eI bS)), (7, (eI lo7)), (10, (eI i10))]) ⟨[(0, (.msl 1 lo0p 0 (List.length aA))), (6, (eI bS)), (7, (eI lo7)), (10, (eI i10))], by kernel_rfl, rfl, ⟨aL.eq (by simp []), aL.refl _, aL.refl _, aL.refl _, trivial⟩⟩ ?_
   refine aH (aF (?_))
   refine aT aG 5 ?_
   refine bI 4 ?_
   obtain ⟨x6, hx7, h1⟩ := aW h1
   refine nE [(lo0p, 1, List.map (eI) x6)] 0 (vO lo0p (List.set (List.set aA (Int.toNat bS) (gD aA (wR (bS + i10)))) (Int.toNat (wR (bS + i10))) (gD aA bS)) lo7 i10 bS _ hx7) hO ?_
   intro H hO hl8
   simp only [List.length_map] at hl8
   replace hN := hl8.trans hN
   refine dG ?_
   refine cA (l := [(0, (.msl 1 lo0p 0 (List.length x6))), (6, (eI bS)), (7, (eI lo7)), (10, (eI i10))]) ⟨[(0, (.msl 1 lo0p 0 (List.length (List.set (List.set aA (Int.toNat bS) (gD aA (wR (bS + i10)))) (Int.toNat (wR (bS + i10))) (gD aA bS))))), (6, (eI bS)), (7, (eI lo7)), (10, (eI i10))], by kernel_rfl, rfl, ⟨aL.eq (by simp [hl8]), aL.refl _, aL.refl _, aL.refl _, trivial⟩⟩ ?_
   refine aH (aU (aF (?_)))
   refine aT aG 3 ?_
   refine bC ?_
   exact aH (aF (⟨rfl, _, (oI h1).symm, .eq (by kernel_rfl), hO, hN⟩))
  refine dW 2 ?_
  obtain rfl := oI h1
  obtain rfl : _ = rr0 := ho0
  replace h0 : some aA = some r := h0
  obtain rfl := oI h0
  exact aH (aR (aR (bF (rY (x := (.tup [])) (by kernel_rfl) (aL.refl _) ⟨rfl, hO.ext, hO.at 0 (by kernel_rfl), by first | rfl | (simp only [List.length_map]; exact hN.trans hN0)⟩))))
 refine aO ?_
 refine aT aG 4 ?_
 obtain ⟨c9, h0⟩ := aX h0
 refine qL [(2 : Int) ≠ 0] ⟨c9, trivial⟩ ?_
 refine bP [] [(9, (eI (wR (Int.tdiv (wR ((wR (b2 - a1)) - (1 : Int))) (2 : Int)))))] ?_
 refine bN 0 ?_
 refine dK [(0, (.msl 1 lo0p 0 (List.length aA))), (6, (eI a1)), (7, (eI (0 : Int))), (8, (eI (wR (b2 - a1)))), (9, (eI (wR (Int.tdiv (wR ((wR (b2 - a1)) - (1 : Int))) (2 : Int)))))] ?_
 refine cQ (fun T H => ∃ aA : List Int, ∃ bS : Int, ∃ lo7 : Int, ∃ hi8 : Int, ∃ i9 : Int, Has T [(0, (.msl 1 lo0p 0 (List.length aA))), (6, (eI bS)), (7, (eI lo7)), (8, (eI hi8)), (9, (eI i9))] ∧ aK ⟨H0, [lo0p], []⟩ H [(lo0p, 1, List.map (eI) aA)] ∧ List.length aA = N0 ∧ nW aA bS lo7 hi8 i9 = some r) ?_ ⟨aA, a1, (0 : Int), wR (b2 - a1), wR (Int.tdiv (wR ((wR (b2 - a1)) - (1 : Int))) (2 : Int)), .eq (by kernel_rfl), hO, hN, h0⟩
 clear hO hN h0
 rintro T H ⟨aA, bS, lo7, hi8, i9, hT, hO, hN, h0⟩
 refine aY hT ?_
 clear hT
 unfold nW at h0
 obtain ⟨rr0, hl0, h0⟩ := aW h0
 refine cB (by kernel_rfl) (fun (s : List Int × Int) T H => Has T [(0, (.msl 1 lo0p 0 (List.length s.1))), (6, (eI bS)), (7, (eI lo7)), (8, (eI hi8)), (9, (eI s.2))] ∧ aK ⟨H0, [lo0p], []⟩ H [(lo0p, 1, List.map (eI) s.1)] ∧ List.length s.1 = N0) hl0 ⟨.eq (by kernel_rfl), hO, hN⟩ ?_
 clear hO hN
 rintro k0 s out1 T H ⟨hT, hO, hN⟩ h1 ho0
 obtain ⟨aA, i9⟩ := s
 replace h1 : eT bS lo7 hi8 aA i9 = some out1 := h1
 try dsimp only at hT
 refine aY hT ?_
 clear hT
 unfold eT at h1
 refine aO ?_
 refine aS aG 2 [] [(19, (aJ (decide ((0 : Int) ≤ i9))))] ?_
 refine bE h1 (fun h1 => ?_) (fun h1 => ?_)
 ·refine bG ?_
  refine bD [(0, (.msl 1 lo0p 0 (List.length aA))), (6, (eI bS)), (7, (eI lo7)), (8, (eI hi8)), (9, (eI i9))] ?_
  refine aO ?_
  refine bN 1 ?_
  refine aT aG 5 ?_
  refine bI 4 ?_
  obtain ⟨x11, hx12, h1⟩ := aW h1
  refine nE [(lo0p, 1, List.map (eI) x11)] 0 (vO lo0p aA i9 hi8 bS _ hx12) hO ?_
  intro H hO hl13
  simp only [List.length_map] at hl13
  replace hN := hl13.trans hN
  refine dG ?_
  refine cA (l := [(0, (.msl 1 lo0p 0 (List.length x11))), (6, (eI bS)), (7, (eI lo7)), (8, (eI hi8)), (9, (eI i9))]) ⟨[(0, (.msl 1 lo0p 0 (List.length aA))), (6, (eI bS)), (7, (eI lo7)), (8, (eI hi8)), (9, (eI i9))], by kernel_rfl, rfl, ⟨aL.eq (by simp [hl13]), aL.refl _, aL.refl _, aL.refl _, aL.refl _, trivial⟩⟩ ?_
  refine aH (aU (aF (?_)))
  refine aT aG 3 ?_
  refine bC ?_
  exact aH (aF (⟨rfl, _, (oI h1).symm, .eq (by kernel_rfl), hO, hN⟩))
 refine dW 0 ?_
 obtain rfl := oI h1
 obtain rfl : _ = rr0 := ho0
 replace h0 : kP aA bS lo7 hi8 = some r := h0
 exact aH (aR (aR (bF (aF (⟨rfl, _, _, _, _, .eq (by kernel_rfl), hO, hN, h0⟩)))))

theorem GK (II : Int) (r : Int) (h0 : pM II = some r) : cO Tryz.prog 93 [(eI II)] (cZ .u64 r) := by
 intro H0
 refine cP Tryz.func93 ?_
 have hO := aK.start H0
 unfold pM at h0
 refine aS aG 1 [] [] ?_
 refine aO ?_
 refine aT aG 5 ?_
 refine bI 2 ?_
 obtain ⟨x1, hx2, h0⟩ := aW h0
 refine dS (GU (IntKind.u64.wrap II) _ hx2) hO ?_
 intro H hO
 obtain ⟨c4, h0⟩ := aX h0
 refine qL [0 ≤ x1] ⟨c4, trivial⟩ ?_
 refine bD [(2, (cZ .u64 (IntKind.u64.wrap ((1 : Int) * 2 ^ (min (Int.toNat x1) 64)))))] ?_
 refine bL ?_
 obtain rfl := oI h0
 exact aH (Q_r hO)

theorem HI (lo0p : Nat) (r0 : Int) (r : (Int × Int)) (h0 : qI r0 = some r) : EX Tryz.prog 94 [(.lp lo0p 0 0)] [(lo0p, 1, [(cZ .u64 r0)])] (fun x L => x = (cZ .u64 r.1) ∧ L = [(lo0p, 1, [(cZ .u64 r.2)])]) := by
 intro F H0 hO
 obtain ⟨Fh, Fe, Fg⟩ := F
 refine cP Tryz.func94 ?_
 unfold qI at h0
 refine aS aG 1 [] [] ?_
 refine aO ?_
 refine eR (eP []) aG 10 ?_
 refine qV 2 ?_
 refine dN 0 lo0p 1 0 (cZ .u64 r0) (cZ .u64 r0) [(cZ .u64 r0)] hO rfl ?_
 refine qV 5 ?_
 refine dN 0 lo0p 1 0 (cZ .u64 r0) (cZ .u64 r0) [(cZ .u64 r0)] hO rfl ?_
 obtain ⟨c1, h0⟩ := aX h0
 refine bQ 9 [0 ≤ (13 : Int)] ⟨c1, trivial⟩ ?_
 refine iD 0 lo0p 1 0 (cZ .u64 r0) (cZ .u64 (bR .xor .u64 r0 (IntKind.u64.wrap (r0 * 2 ^ (min (Int.toNat (13 : Int)) 64))))) [(cZ .u64 r0)] [(lo0p, 1, [(cZ .u64 (bR .xor .u64 r0 (IntKind.u64.wrap (r0 * 2 ^ (min (Int.toNat (13 : Int)) 64)))))])] hO rfl (by kernel_rfl) ?_
 intro H hO
 refine nU (by kernel_rfl) ?_
 refine bP [] [] ?_
 refine aO ?_
 refine eR (eP []) aG 10 ?_
 refine qV 2 ?_
 refine dN 0 lo0p 1 0 (cZ .u64 (bR .xor .u64 r0 (IntKind.u64.wrap (r0 * 2 ^ (min (Int.toNat (13 : Int)) 64))))) (cZ .u64 (bR .xor .u64 r0 (IntKind.u64.wrap (r0 * 2 ^ (min (Int.toNat (13 : Int)) 64))))) [(cZ .u64 (bR .xor .u64 r0 (IntKind.u64.wrap (r0 * 2 ^ (min (Int.toNat (13 : Int)) 64)))))] hO rfl ?_
 refine qV 5 ?_
 refine dN 0 lo0p 1 0 (cZ .u64 (bR .xor .u64 r0 (IntKind.u64.wrap (r0 * 2 ^ (min (Int.toNat (13 : Int)) 64))))) (cZ .u64 (bR .xor .u64 r0 (IntKind.u64.wrap (r0 * 2 ^ (min (Int.toNat (13 : Int)) 64))))) [(cZ .u64 (bR .xor .u64 r0 (IntKind.u64.wrap (r0 * 2 ^ (min (Int.toNat (13 : Int)) 64)))))] hO rfl ?_
 obtain ⟨c2, h0⟩ := aX h0
 refine bQ 9 [0 ≤ (7 : Int)] ⟨c2, trivial⟩ ?_
 refine iD 0 lo0p 1 0 (cZ .u64 (bR .xor .u64 r0 (IntKind.u64.wrap (r0 * 2 ^ (min (Int.toNat (13 : Int)) 64))))) (cZ .u64 (bR .xor .u64 (bR .xor .u64 r0 (IntKind.u64.wrap (r0 * 2 ^ (min (Int.toNat (13 : Int)) 64)))) (Int.fdiv (bR .xor .u64 r0 (IntKind.u64.wrap (r0 * 2 ^ (min (Int.toNat (13 : Int)) 64)))) (2 ^ (min (Int.toNat (7 : Int)) 64))))) [(cZ .u64 (bR .xor .u64 r0 (IntKind.u64.wrap (r0 * 2 ^ (min (Int.toNat (13 : Int)) 64)))))] [(lo0p, 1, [(cZ .u64 (bR .xor .u64 (bR .xor .u64 r0 (IntKind.u64.wrap (r0 * 2 ^ (min (Int.toNat (13 : Int)) 64)))) (Int.fdiv (bR .xor .u64 r0 (IntKind.u64.wrap (r0 * 2 ^ (min (Int.toNat (13 : Int)) 64)))) (2 ^ (min (Int.toNat (7 : Int)) 64)))))])] hO rfl (by kernel_rfl) ?_
 intro H hO
 refine nU (by kernel_rfl) ?_
 refine bP [] [] ?_
 refine aO ?_
 refine eR (eP []) aG 10 ?_
 refine qV 2 ?_
 refine dN 0 lo0p 1 0 (cZ .u64 (bR .xor .u64 (bR .xor .u64 r0 (IntKind.u64.wrap (r0 * 2 ^ (min (Int.toNat (13 : Int)) 64)))) (Int.fdiv (bR .xor .u64 r0 (IntKind.u64.wrap (r0 * 2 ^ (min (Int.toNat (13 : Int)) 64)))) (2 ^ (min (Int.toNat (7 : Int)) 64))))) (cZ .u64 (bR .xor .u64 (bR .xor .u64 r0 (IntKind.u64.wrap (r0 * 2 ^ (min (Int.toNat (13 : Int)) 64)))) (Int.fdiv (bR .xor .u64 r0 (IntKind.u64.wrap (r0 * 2 ^ (min (Int.toNat (13 : Int)) 64)))) (2 ^ (min (Int.toNat (7 : Int)) 64))))) [(cZ .u64 (bR .xor .u64 (bR .xor .u64 r0 (IntKind.u64.wrap (r0 * 2 ^ (min (Int.toNat (13 : Int)) 64)))) (Int.fdiv (bR .xor .u64 r0 (IntKind.u64.wrap (r0 * 2 ^ (min (Int.toNat (13 : Int)) 64)))) (2 ^ (min (Int.toNat (7 : Int)) 64)))))] hO rfl ?_
 refine qV 5 ?_
 refine dN 0 lo0p 1 0 (cZ .u64 (bR .xor .u64 (bR .xor .u64 r0 (IntKind.u64.wrap (r0 * 2 ^ (min (Int.toNat (13 : Int)) 64)))) (Int.fdiv (bR .xor .u64 r0 (IntKind.u64.wrap (r0 * 2 ^ (min (Int.toNat (13 : Int)) 64)))) (2 ^ (min (Int.toNat (7 : Int)) 64))))) (cZ .u64 (bR .xor .u64 (bR .xor .u64 r0 (IntKind.u64.wrap (r0 * 2 ^ (min (Int.toNat (13 : Int)) 64)))) (Int.fdiv (bR .xor .u64 r0 (IntKind.u64.wrap (r0 * 2 ^ (min (Int.toNat (13 : Int)) 64)))) (2 ^ (min (Int.toNat (7 : Int)) 64))))) [(cZ .u64 (bR .xor .u64 (bR .xor .u64 r0 (IntKind.u64.wrap (r0 * 2 ^ (min (Int.toNat (13 : Int)) 64)))) (Int.fdiv (bR .xor .u64 r0 (IntKind.u64.wrap (r0 * 2 ^ (min (Int.toNat (13 : Int)) 64)))) (2 ^ (min (Int.toNat (7 : Int)) 64)))))] hO rfl ?_
 obtain ⟨c3, h0⟩ := aX h0
 refine bQ 9 [0 ≤ (17 : Int)] ⟨c3, trivial⟩ ?_
 refine iD 0 lo0p 1 0 (cZ .u64 (bR .xor .u64 (bR .xor .u64 r0 (IntKind.u64.wrap (r0 * 2 ^ (min (Int.toNat (13 : Int)) 64)))) (Int.fdiv (bR .xor .u64 r0 (IntKind.u64.wrap (r0 * 2 ^ (min (Int.toNat (13 : Int)) 64)))) (2 ^ (min (Int.toNat (7 : Int)) 64))))) (cZ .u64 (bR .xor .u64 (bR .xor .u64 (bR .xor .u64 r0 (IntKind.u64.wrap (r0 * 2 ^ (min (Int.toNat (13 : Int)) 64)))) (Int.fdiv (bR .xor .u64 r0 (IntKind.u64.wrap (r0 * 2 ^ (min (Int.toNat (13 : Int)) 64)))) (2 ^ (min (Int.toNat (7 : Int)) 64)))) (IntKind.u64.wrap ((bR .xor .u64 (bR .xor .u64 r0 (IntKind.u64.wrap (r0 * 2 ^ (min (Int.toNat (13 : Int)) 64)))) (Int.fdiv (bR .xor .u64 r0 (IntKind.u64.wrap (r0 * 2 ^ (min (Int.toNat (13 : Int)) 64)))) (2 ^ (min (Int.toNat (7 : Int)) 64)))) * 2 ^ (min (Int.toNat (17 : Int)) 64))))) [(cZ .u64 (bR .xor .u64 (bR .xor .u64 r0 (IntKind.u64.wrap (r0 * 2 ^ (min (Int.toNat (13 : Int)) 64)))) (Int.fdiv (bR .xor .u64 r0 (IntKind.u64.wrap (r0 * 2 ^ (min (Int.toNat (13 : Int)) 64)))) (2 ^ (min (Int.toNat (7 : Int)) 64)))))] [(lo0p, 1, [(cZ .u64 (bR .xor .u64 (bR .xor .u64 (bR .xor .u64 r0 (IntKind.u64.wrap (r0 * 2 ^ (min (Int.toNat (13 : Int)) 64)))) (Int.fdiv (bR .xor .u64 r0 (IntKind.u64.wrap (r0 * 2 ^ (min (Int.toNat (13 : Int)) 64)))) (2 ^ (min (Int.toNat (7 : Int)) 64)))) (IntKind.u64.wrap ((bR .xor .u64 (bR .xor .u64 r0 (IntKind.u64.wrap (r0 * 2 ^ (min (Int.toNat (13 : Int)) 64)))) (Int.fdiv (bR .xor .u64 r0 (IntKind.u64.wrap (r0 * 2 ^ (min (Int.toNat (13 : Int)) 64)))) (2 ^ (min (Int.toNat (7 : Int)) 64)))) * 2 ^ (min (Int.toNat (17 : Int)) 64)))))])] hO rfl (by kernel_rfl) ?_
 intro H hO
 refine nU (by kernel_rfl) ?_
 refine bP [] [] ?_
 refine aO ?_
 refine aT aG 4 ?_
 refine bI 2 ?_
 refine uC 0 lo0p 1 0 (cZ .u64 (bR .xor .u64 (bR .xor .u64 (bR .xor .u64 r0 (IntKind.u64.wrap (r0 * 2 ^ (min (Int.toNat (13 : Int)) 64)))) (Int.fdiv (bR .xor .u64 r0 (IntKind.u64.wrap (r0 * 2 ^ (min (Int.toNat (13 : Int)) 64)))) (2 ^ (min (Int.toNat (7 : Int)) 64)))) (IntKind.u64.wrap ((bR .xor .u64 (bR .xor .u64 r0 (IntKind.u64.wrap (r0 * 2 ^ (min (Int.toNat (13 : Int)) 64)))) (Int.fdiv (bR .xor .u64 r0 (IntKind.u64.wrap (r0 * 2 ^ (min (Int.toNat (13 : Int)) 64)))) (2 ^ (min (Int.toNat (7 : Int)) 64)))) * 2 ^ (min (Int.toNat (17 : Int)) 64))))) (cZ .u64 (bR .xor .u64 (bR .xor .u64 (bR .xor .u64 r0 (IntKind.u64.wrap (r0 * 2 ^ (min (Int.toNat (13 : Int)) 64)))) (Int.fdiv (bR .xor .u64 r0 (IntKind.u64.wrap (r0 * 2 ^ (min (Int.toNat (13 : Int)) 64)))) (2 ^ (min (Int.toNat (7 : Int)) 64)))) (IntKind.u64.wrap ((bR .xor .u64 (bR .xor .u64 r0 (IntKind.u64.wrap (r0 * 2 ^ (min (Int.toNat (13 : Int)) 64)))) (Int.fdiv (bR .xor .u64 r0 (IntKind.u64.wrap (r0 * 2 ^ (min (Int.toNat (13 : Int)) 64)))) (2 ^ (min (Int.toNat (7 : Int)) 64)))) * 2 ^ (min (Int.toNat (17 : Int)) 64))))) [(cZ .u64 (bR .xor .u64 (bR .xor .u64 (bR .xor .u64 r0 (IntKind.u64.wrap (r0 * 2 ^ (min (Int.toNat (13 : Int)) 64)))) (Int.fdiv (bR .xor .u64 r0 (IntKind.u64.wrap (r0 * 2 ^ (min (Int.toNat (13 : Int)) 64)))) (2 ^ (min (Int.toNat (7 : Int)) 64)))) (IntKind.u64.wrap ((bR .xor .u64 (bR .xor .u64 r0 (IntKind.u64.wrap (r0 * 2 ^ (min (Int.toNat (13 : Int)) 64)))) (Int.fdiv (bR .xor .u64 r0 (IntKind.u64.wrap (r0 * 2 ^ (min (Int.toNat (13 : Int)) 64)))) (2 ^ (min (Int.toNat (7 : Int)) 64)))) * 2 ^ (min (Int.toNat (17 : Int)) 64)))))] hO rfl ?_
 refine bC ?_
 refine bD [(0, (.lp lo0p 0 0)), (2, (cZ .u64 (bR .xor .u64 (bR .xor .u64 (bR .xor .u64 r0 (IntKind.u64.wrap (r0 * 2 ^ (min (Int.toNat (13 : Int)) 64)))) (Int.fdiv (bR .xor .u64 r0 (IntKind.u64.wrap (r0 * 2 ^ (min (Int.toNat (13 : Int)) 64)))) (2 ^ (min (Int.toNat (7 : Int)) 64)))) (IntKind.u64.wrap ((bR .xor .u64 (bR .xor .u64 r0 (IntKind.u64.wrap (r0 * 2 ^ (min (Int.toNat (13 : Int)) 64)))) (Int.fdiv (bR .xor .u64 r0 (IntKind.u64.wrap (r0 * 2 ^ (min (Int.toNat (13 : Int)) 64)))) (2 ^ (min (Int.toNat (7 : Int)) 64)))) * 2 ^ (min (Int.toNat (17 : Int)) 64))))))] ?_
 refine bL ?_
 obtain rfl := oI h0
 exact aH (MA hO ⟨rfl, rfl⟩)

theorem AA (lo0p : Nat) (aA : (List Int)) (a1 : Int) (b2 : Int) (r : List Int) (h0 : iL aA a1 b2 = some r) : iG Tryz.prog 77 lo0p 1 (List.map (eI) aA) (List.map (eI) r) [(.msl 1 lo0p 0 (List.length aA)), (eI a1), (eI b2)] (.tup []) := by
 intro H0 hl0
 refine cP Tryz.func77 ?_
 have hO := aK.nP hl0
 clear hl0
 obtain ⟨N0, hN0⟩ : ∃ n, n = List.length aA := ⟨_, rfl⟩
 have hN : List.length aA = N0 := hN0.symm
 unfold iL at h0
 refine aS aG 4 [2] [(6, (eI (wR (b2 - a1))))] ?_
 refine aS aG 2 [] [(15, (aJ (decide ((8 : Int) ≤ (wR (b2 - a1))))))] ?_
 refine bE h0 (fun h0 => ?_) (fun h0 => ?_)
 ·refine aO ?_
  refine aT aG 4 ?_
  refine bI 2 ?_
  refine tE 1 (cZ .u64 0) (by kernel_rfl) (by kernel_rfl) hO ?_
  intro lo2 H hO
  refine rK 1 lo2 1 0 (cZ .u64 0) (cZ .u64 (IntKind.u64.wrap (wR (b2 - a1)))) [(cZ .u64 0)] [(lo0p, 1, List.map (eI) aA), (lo2, 1, [(cZ .u64 (IntKind.u64.wrap (wR (b2 - a1))))])] hO rfl (by kernel_rfl) ?_
  intro H hO
  refine dG ?_
  refine bP [15] [(7, (.lp lo2 0 0))] ?_
  refine aO ?_
  refine aT aG 3 ?_
  refine bI 1 ?_
  obtain ⟨x3, hx4, h0⟩ := aW h0
  refine dS (GK (wR (b2 - a1)) _ hx4) hO ?_
  intro H hO
  refine bC ?_
  refine bP [] [(8, (cZ .u64 x3))] ?_
  refine aO ?_
  refine aT aG 7 ?_
  obtain ⟨c6, h0⟩ := aX h0
  refine qL [(4 : Int) ≠ 0] ⟨c6, trivial⟩ ?_
  refine bD [(0, (.msl 1 lo0p 0 (List.length aA))), (1, (eI a1)), (6, (eI (wR (b2 - a1)))), (7, (.lp lo2 0 0)), (8, (cZ .u64 x3)), (9, (eI (wR ((wR (a1 + (wR ((wR (Int.tdiv (wR (b2 - a1)) (4 : Int))) * (2 : Int))))) - (1 : Int)))))] ?_
  refine bN 0 ?_
  refine dK [(0, (.msl 1 lo0p 0 (List.length aA))), (1, (eI a1)), (6, (eI (wR (b2 - a1)))), (7, (.lp lo2 0 0)), (8, (cZ .u64 x3)), (9, (eI (wR ((wR (a1 + (wR ((wR (Int.tdiv (wR (b2 - a1)) (4 : Int))) * (2 : Int))))) - (1 : Int)))))] ?_
  refine cQ (fun T H => ∃ aA : List Int, ∃ mZ : Int, ∃ qF : Int, ∃ kC : Int, ∃ idx9 : Int, Has T [(0, (.msl 1 lo0p 0 (List.length aA))), (1, (eI a1)), (6, (eI mZ)), (7, (.lp lo2 0 0)), (8, (cZ .u64 kC)), (9, (eI idx9))] ∧ aK ⟨H0, [lo0p], []⟩ H [(lo0p, 1, List.map (eI) aA), (lo2, 1, [(cZ .u64 qF)])] ∧ List.length aA = N0 ∧ lK aA a1 mZ qF kC idx9 = some r) ?_ ⟨aA, wR (b2 - a1), IntKind.u64.wrap (wR (b2 - a1)), x3, wR ((wR (a1 + (wR ((wR (Int.tdiv (wR (b2 - a1)) (4 : Int))) * (2 : Int))))) - (1 : Int)), .eq (by kernel_rfl), hO, hN, h0⟩
  clear hO hN h0
  rintro T H ⟨aA, mZ, qF, kC, idx9, hT, hO, hN, h0⟩
  refine aY hT ?_
  clear hT
  unfold lK at h0
  obtain ⟨rr0, hl0, h0⟩ := aW h0
  refine cB (by kernel_rfl) (fun (s : List Int × Int × Int) T H => Has T [(0, (.msl 1 lo0p 0 (List.length s.1))), (1, (eI a1)), (6, (eI mZ)), (7, (.lp lo2 0 0)), (8, (cZ .u64 kC)), (9, (eI s.2.2))] ∧ aK ⟨H0, [lo0p], []⟩ H [(lo0p, 1, List.map (eI) s.1), (lo2, 1, [(cZ .u64 s.2.1)])] ∧ List.length s.1 = N0) hl0 ⟨.eq (by kernel_rfl), hO, hN⟩ ?_
  clear hO hN
  rintro k0 s out1 T H ⟨hT, hO, hN⟩ h1 ho0
  obtain ⟨aA, qF, idx9⟩ := s
  replace h1 : dF a1 mZ kC aA qF idx9 = some out1 := h1
  try dsimp only at hT
  refine aY hT ?_
  clear hT
  unfold dF at h1
  refine aO ?_
  refine aO ?_
  refine aT aG 8 ?_
  obtain ⟨c7, h1⟩ := aX h1
  refine qL [(4 : Int) ≠ 0] ⟨c7, trivial⟩ ?_
  refine bP [] [(33, (aJ (decide (idx9 ≤ (wR ((wR (a1 + (wR ((wR (Int.tdiv mZ (4 : Int))) * (2 : Int))))) + (1 : Int)))))))] ?_
  refine bE h1 (fun h1 => ?_) (fun h1 => ?_)
  ·refine bG ?_
   refine bD [(0, (.msl 1 lo0p 0 (List.length aA))), (1, (eI a1)), (6, (eI mZ)), (7, (.lp lo2 0 0)), (8, (cZ .u64 kC)), (9, (eI idx9))] ?_
   refine aO ?_
   refine bN 1 ?_
   refine aO ?_
   refine aT aG 6 ?_
   obtain ⟨x9, hx10, h1⟩ := aW h1
   refine HH [(lo0p, 1, List.map (eI) aA)] [1, 0] (HI lo2 qF _ hx10) hO ?_
   intro r11 L12 H hP13 hO
   obtain ⟨rfl, rfl⟩ := hP13
   replace hO : aK ⟨H0, [lo0p], []⟩ H [(lo2, 1, [(cZ .u64 x9.2)]), (lo0p, 1, List.map (eI) aA)] := hO
   refine bC ?_
   replace hO := hO.pick (L' := [(lo0p, 1, List.map (eI) aA), (lo2, 1, [(cZ .u64 x9.2)])]) [1, 0] (by decide) (by kernel_rfl)
   refine bP [] [(10, (eI (wR (bR .and .u64 x9.1 (IntKind.u64.wrap (kC - (1 : Int)))))))] ?_
   refine dA (fun T H => ∃ aA : List Int, ∃ qF : Int, ∃ gG : Int, Has T [(0, (.msl 1 lo0p 0 (List.length aA))), (1, (eI a1)), (6, (eI mZ)), (7, (.lp lo2 0 0)), (8, (cZ .u64 kC)), (9, (eI idx9)), (10, (eI gG))] ∧ aK ⟨H0, [lo0p], []⟩ H [(lo0p, 1, List.map (eI) aA), (lo2, 1, [(cZ .u64 qF)])] ∧ List.length aA = N0 ∧ fM aA a1 mZ qF kC idx9 gG = some out1) ?_ ?_
   ·clear hO hN h1
    rintro T H ⟨aA, qF, gG, hT, hO, hN, h1⟩
    refine aY hT ?_
    clear hT
    unfold fM at h1
    refine eR (eP []) aG 20 ?_
    obtain ⟨c14, h1⟩ := aX h1
    refine bQ 11 [0 ≤ (wR (a1 + gG)) ∧ (wR (a1 + gG)) < (lN aA)] ⟨c14, trivial⟩ ?_
    refine dN 0 lo0p 1 (0 + Int.toNat (wR (a1 + gG))) (eI (gD aA (wR (a1 + gG)))) (eI (gD aA (wR (a1 + gG)))) (List.map (eI) aA) hO (bJ c14) ?_
    obtain ⟨c15, h1⟩ := aX h1
    refine bQ 15 [0 ≤ idx9 ∧ idx9 < (lN aA)] ⟨c15, trivial⟩ ?_
    refine dN 0 lo0p 1 (0 + Int.toNat idx9) (eI (gD aA idx9)) (eI (gD aA idx9)) (List.map (eI) aA) hO (bJ c15) ?_
    obtain ⟨c16, h1⟩ := aX h1
    refine bQ 17 [0 ≤ idx9 ∧ idx9 < (lN aA)] ⟨c16, trivial⟩ ?_
    refine iD 0 lo0p 1 (0 + Int.toNat idx9) (eI (gD aA idx9)) (eI (gD aA (wR (a1 + gG)))) (List.map (eI) aA) [(lo0p, 1, List.map (eI) (List.set aA (Int.toNat idx9) (gD aA (wR (a1 + gG))))), (lo2, 1, [(cZ .u64 qF)])] hO (bJ c16) (by simp only [List.set, eA]) ?_
    intro H hO
    replace hN : List.length (List.set aA (Int.toNat idx9) (gD aA (wR (a1 + gG)))) = N0 := by simpa using hN
    obtain ⟨c17, h1⟩ := aX h1
    refine bQ 19 [0 ≤ (wR (a1 + gG)) ∧ (wR (a1 + gG)) < (lN aA)] ⟨c17, trivial⟩ ?_
    refine iD 0 lo0p 1 (0 + Int.toNat (wR (a1 + gG))) (eI (gD (List.set aA (Int.toNat idx9) (gD aA (wR (a1 + gG)))) (wR (a1 + gG)))) (eI (gD aA idx9)) (List.map (eI) (List.set aA (Int.toNat idx9) (gD aA (wR (a1 + gG))))) [(lo0p, 1, List.map (eI) (List.set (List.set aA (Int.toNat idx9) (gD aA (wR (a1 + gG)))) (Int.toNat (wR (a1 + gG))) (gD aA idx9))), (lo2, 1, [(cZ .u64 qF)])] hO (lQ c17 (by simp [])) (by simp only [List.set, eA]) ?_
    intro H hO
    replace hN : List.length (List.set (List.set aA (Int.toNat idx9) (gD aA (wR (a1 + gG)))) (Int.toNat (wR (a1 + gG))) (gD aA idx9)) = N0 := by simpa using hN
    refine nU (by kernel_rfl) ?_
    refine cA (l := [(0, (.msl 1 lo0p 0 (List.length (List.set (List.set aA (Int.toNat idx9) (gD aA (wR (a1 + gG)))) (Int.toNat (wR (a1 + gG))) (gD aA idx9))))), (1, (eI a1)), (6, (eI mZ)), (7, (.lp lo2 0 0)), (8, (cZ .u64 kC)), (9, (eI idx9))]) ⟨[(0, (.msl 1 lo0p 0 (List.length aA))), (1, (eI a1)), (6, (eI mZ)), (7, (.lp lo2 0 0)), (8, (cZ .u64 kC)), (9, (eI idx9))], by kernel_rfl, rfl, ⟨aL.eq (by simp []), aL.refl _, aL.refl _, aL.refl _, aL.refl _, aL.refl _, trivial⟩⟩ ?_
    refine aH (aU (aF (?_)))
    refine aT aG 3 ?_
    refine bC ?_
    exact aH (aF (⟨rfl, _, (oI h1).symm, .eq (by kernel_rfl), hO, hN⟩))
   refine aS aG 3 [] [(43, (aJ (decide (mZ ≤ (wR (bR .and .u64 x9.1 (IntKind.u64.wrap (kC - (1 : Int)))))))))] ?_
   refine bE h1 (fun h1 => ?_) (fun h1 => ?_)
   ·refine aT aG 4 ?_
    refine bC ?_
    exact aH (aF (⟨rfl, _, _, _, .eq (by kernel_rfl), hO, hN, h1⟩))
   refine bG ?_
   exact aH (aF (⟨rfl, _, _, _, .eq (by kernel_rfl), hO, hN, h1⟩))
  refine dW 0 ?_
  replace hO := hO.pick (L' := [(lo0p, 1, List.map (eI) aA)]) [0] (by decide) (by kernel_rfl)
  obtain rfl := oI h1
  obtain rfl : _ = rr0 := ho0
  replace h0 : some aA = some r := h0
  obtain rfl := oI h0
  exact aH (aR (aR (bF (rY (x := (.tup [])) (by kernel_rfl) (aL.refl _) ⟨rfl, hO.ext, hO.at 0 (by kernel_rfl), by first | rfl | (simp only [List.length_map]; exact hN.trans hN0)⟩))))
 refine bG ?_
 obtain rfl := oI h0
 exact aH (rY (x := (.tup [])) (by kernel_rfl) (aL.refl _) ⟨rfl, hO.ext, hO.at 0 (by kernel_rfl), by first | rfl | (simp only [List.length_map]; exact hN.trans hN0)⟩)

theorem tB (lo0p : Nat) (aA : (List Int)) (a1 : Int) (b2 : Int) (lo3p : Nat) (xD : Int) (r : ((Int × Int) × Int)) (h0 : gS aA a1 b2 xD = some r) : EX Tryz.prog 100 [(.msl 1 lo0p 0 (List.length aA)), (eI a1), (eI b2), (.lp lo3p 0 0)] [(lo0p, 1, List.map (eI) aA), (lo3p, 1, [(eI xD)])] (fun x L => x = (.tup [(eI r.1.1), (eI r.1.2)]) ∧ L = [(lo0p, 1, List.map (eI) aA), (lo3p, 1, [(eI r.2)])]) := by
 intro F H0 hO
 obtain ⟨Fh, Fe, Fg⟩ := F
 refine cP Tryz.func100 ?_
 unfold gS at h0
 refine aS aG 2 [] [] ?_
 refine aO ?_
 refine aO ?_
 refine eR (eP [18]) aG 9 ?_
 obtain ⟨c1, h0⟩ := aX h0
 refine bQ 3 [0 ≤ b2 ∧ b2 < (lN aA)] ⟨c1, trivial⟩ ?_
 refine dN 0 lo0p 1 (0 + Int.toNat b2) (eI (gD aA b2)) (eI (gD aA b2)) (List.map (eI) aA) hO (bJ c1) ?_
 obtain ⟨c2, h0⟩ := aX h0
 refine bQ 7 [0 ≤ a1 ∧ a1 < (lN aA)] ⟨c2, trivial⟩ ?_
 refine dN 0 lo0p 1 (0 + Int.toNat a1) (eI (gD aA a1)) (eI (gD aA a1)) (List.map (eI) aA) hO (bJ c2) ?_
 obtain ⟨x3, hx4, h0⟩ := aW h0
 refine BA (gQ (gD aA b2) (gD aA a1) _ hx4) hO ?_
 intro H hO
 refine nU (by kernel_rfl) ?_
 refine bP [] [(18, (aJ x3))] ?_
 refine bE h0 (fun h0 => ?_) (fun h0 => ?_)
 ·refine aO ?_
  refine aT aG 6 ?_
  refine bI 2 ?_
  refine uC 1 lo3p 1 0 (eI xD) (eI xD) [(eI xD)] hO rfl ?_
  refine bI 5 ?_
  refine rK 1 lo3p 1 0 (eI xD) (eI (wR (xD + (1 : Int)))) [(eI xD)] [(lo0p, 1, List.map (eI) aA), (lo3p, 1, [(eI (wR (xD + (1 : Int))))])] hO rfl (by kernel_rfl) ?_
  intro H hO
  refine dG ?_
  refine bP [18] [] ?_
  refine aS aG 4 [1, 2] [(8, (eI b2)), (9, (eI a1))] ?_
  refine bL ?_
  obtain rfl := oI h0
  exact aH (bB (MA hO ⟨rfl, rfl⟩))
 refine bG ?_
 refine bD [(0, (.msl 1 lo0p 0 (List.length aA))), (1, (eI a1)), (2, (eI b2)), (3, (.lp lo3p 0 0))] ?_
 refine aS aG 4 [1, 2] [(8, (eI a1)), (9, (eI b2))] ?_
 refine bL ?_
 obtain rfl := oI h0
 exact aH (MA hO ⟨rfl, rfl⟩)

theorem wO (lo0p : Nat) (aA : (List Int)) (a1 : Int) (b2 : Int) (c3 : Int) (lo4p : Nat) (LG : Int) (r : (Int × Int)) (h0 : jU aA a1 b2 c3 LG = some r) : EX Tryz.prog 96 [(.msl 1 lo0p 0 (List.length aA)), (eI a1), (eI b2), (eI c3), (.lp lo4p 0 0)] [(lo0p, 1, List.map (eI) aA), (lo4p, 1, [(eI LG)])] (fun x L => x = (eI r.1) ∧ L = [(lo0p, 1, List.map (eI) aA), (lo4p, 1, [(eI r.2)])]) := by
 intro F H0 hO
 obtain ⟨Fh, Fe, Fg⟩ := F
 refine cP Tryz.func96 ?_
 unfold jU at h0
 refine aS aG 1 [] [] ?_
 refine aO ?_
 refine aT aG 10 ?_
 refine bI 4 ?_
 obtain ⟨x1, hx2, h0⟩ := aW h0
 refine HH [] [0, 1] (tB lo0p aA a1 b2 lo4p LG _ hx2) hO ?_
 intro r3 L4 H hP5 hO
 obtain ⟨rfl, rfl⟩ := hP5
 replace hO : aK ⟨Fh, Fe, Fg⟩ H [(lo0p, 1, List.map (eI) aA), (lo4p, 1, [(eI x1.2)])] := hO
 refine bC ?_
 refine bP [1, 2] [(1, (eI x1.1.1)), (2, (eI x1.1.2))] ?_
 refine aO ?_
 refine aT aG 10 ?_
 refine bI 4 ?_
 obtain ⟨x6, hx7, h0⟩ := aW h0
 refine HH [] [0, 1] (tB lo0p aA x1.1.2 c3 lo4p x1.2 _ hx7) hO ?_
 intro r8 L9 H hP10 hO
 obtain ⟨rfl, rfl⟩ := hP10
 replace hO : aK ⟨Fh, Fe, Fg⟩ H [(lo0p, 1, List.map (eI) aA), (lo4p, 1, [(eI x6.2)])] := hO
 refine bC ?_
 refine bP [2, 3] [(2, (eI x6.1.1))] ?_
 refine aO ?_
 refine aT aG 10 ?_
 refine bI 4 ?_
 obtain ⟨x11, hx12, h0⟩ := aW h0
 refine HH [] [0, 1] (tB lo0p aA x1.1.1 x6.1.1 lo4p x6.2 _ hx12) hO ?_
 intro r13 L14 H hP15 hO
 obtain ⟨rfl, rfl⟩ := hP15
 replace hO : aK ⟨Fh, Fe, Fg⟩ H [(lo0p, 1, List.map (eI) aA), (lo4p, 1, [(eI x11.2)])] := hO
 refine bC ?_
 refine bP [1, 2] [(2, (eI x11.1.2))] ?_
 refine cH aG 2 [(0, (.msl 1 lo0p 0 (List.length aA))), (4, (.lp lo4p 0 0)), (10, (eI x11.1.2))] ?_
 refine bL ?_
 obtain rfl := oI h0
 exact aH (MA hO ⟨rfl, rfl⟩)

theorem pV (lo0p : Nat) (aA : (List Int)) (a1 : Int) (lo2p : Nat) (MD : Int) (r : (Int × Int)) (h0 : eK aA a1 MD = some r) : EX Tryz.prog 95 [(.msl 1 lo0p 0 (List.length aA)), (eI a1), (.lp lo2p 0 0)] [(lo0p, 1, List.map (eI) aA), (lo2p, 1, [(eI MD)])] (fun x L => x = (eI r.1) ∧ L = [(lo0p, 1, List.map (eI) aA), (lo2p, 1, [(eI r.2)])]) := by
 intro F H0 hO
 obtain ⟨Fh, Fe, Fg⟩ := F
 refine cP Tryz.func95 ?_
 unfold eK at h0
 refine aS aG 1 [] [] ?_
 refine aO ?_
 refine aT aG 9 ?_
 refine bI 7 ?_
 obtain ⟨x1, hx2, h0⟩ := aW h0
 refine HH [] [0, 1] (wO lo0p aA (wR (a1 - (1 : Int))) a1 (wR (a1 + (1 : Int))) lo2p MD _ hx2) hO ?_
 intro r3 L4 H hP5 hO
 obtain ⟨rfl, rfl⟩ := hP5
 replace hO : aK ⟨Fh, Fe, Fg⟩ H [(lo0p, 1, List.map (eI) aA), (lo2p, 1, [(eI x1.2)])] := hO
 refine bC ?_
 refine bP [1] [(6, (eI x1.1))] ?_
 refine bL ?_
 obtain rfl := oI h0
 exact aH (MA hO ⟨rfl, rfl⟩)

theorem BU (lo0p : Nat) (aA : (List Int)) (a1 : Int) (b2 : Int) (r : (Int × Int)) (h0 : jK aA a1 b2 = some r) : EX Tryz.prog 78 [(.msl 1 lo0p 0 (List.length aA)), (eI a1), (eI b2)] [(lo0p, 1, List.map (eI) aA)] (fun x L => x = (.tup [(eI r.1), (eI r.2)]) ∧ L = [(lo0p, 1, List.map (eI) aA)]) := by
 intro F H0 hO
 obtain ⟨Fh, Fe, Fg⟩ := F
 refine cP Tryz.func78 ?_
 unfold jK at h0
 refine aS aG 2 [] [] ?_
 refine aS aG 4 [2] [(8, (eI (wR (b2 - a1))))] ?_
 refine aO ?_
 refine aT aG 1 ?_
 refine tE 1 (eI 0) (by kernel_rfl) (by kernel_rfl) hO ?_
 intro lo1 H hO
 refine dG ?_
 refine bP [] [(9, (.lp lo1 0 0))] ?_
 refine aO ?_
 refine aT aG 6 ?_
 obtain ⟨c2, h0⟩ := aX h0
 refine qL [(4 : Int) ≠ 0] ⟨c2, trivial⟩ ?_
 refine bP [] [(10, (eI (wR (a1 + (wR ((wR (Int.tdiv (wR (b2 - a1)) (4 : Int))) * (1 : Int)))))))] ?_
 refine aO ?_
 refine aT aG 6 ?_
 obtain ⟨c3, h0⟩ := aX h0
 refine qL [(4 : Int) ≠ 0] ⟨c3, trivial⟩ ?_
 refine bD [(0, (.msl 1 lo0p 0 (List.length aA))), (1, (eI a1)), (8, (eI (wR (b2 - a1)))), (9, (.lp lo1 0 0)), (10, (eI (wR (a1 + (wR ((wR (Int.tdiv (wR (b2 - a1)) (4 : Int))) * (1 : Int))))))), (11, (eI (wR (a1 + (wR ((wR (Int.tdiv (wR (b2 - a1)) (4 : Int))) * (2 : Int)))))))] ?_
 refine aO ?_
 refine aT aG 6 ?_
 obtain ⟨c4, h0⟩ := aX h0
 refine qL [(4 : Int) ≠ 0] ⟨c4, trivial⟩ ?_
 refine bP [1] [(12, (eI (wR (a1 + (wR ((wR (Int.tdiv (wR (b2 - a1)) (4 : Int))) * (3 : Int)))))))] ?_
 refine dA (fun T H => ∃ rF : Int, ∃ j11 : Int, Has T [(0, (.msl 1 lo0p 0 (List.length aA))), (9, (.lp lo1 0 0)), (11, (eI j11))] ∧ aK ⟨Fh, Fe, Fg⟩ H [(lo0p, 1, List.map (eI) aA), (lo1, 1, [(eI rF)])] ∧ fW aA rF j11 = some r) ?_ ?_
 ·clear hO h0
  rintro T H ⟨rF, j11, hT, hO, h0⟩
  refine aY hT ?_
  clear hT
  unfold fW at h0
  refine aO ?_
  refine aT aG 1 ?_
  refine uC 1 lo1 1 0 (eI rF) (eI rF) [(eI rF)] hO rfl ?_
  refine dG ?_
  replace hO := hO.pick (L' := [(lo0p, 1, List.map (eI) aA)]) [0] (by decide) (by kernel_rfl)
  refine bP [9] [(49, (eI rF))] ?_
  refine bN 0 ?_
  refine aS aG 2 [] [(51, (aJ (decide (rF = (0 : Int)))))] ?_
  refine bE h0 (fun h0 => ?_) (fun h0 => ?_)
  ·refine aS aG 3 [11, 49, 51] [(6, (eI j11)), (7, (eI (1 : Int)))] ?_
   refine bL ?_
   obtain rfl := oI h0
   exact aH (bT (MA hO ⟨rfl, rfl⟩))
  refine aS aG 2 [49, 51] [(54, (aJ (decide (rF = (12 : Int)))))] ?_
  refine bE h0 (fun h0 => ?_) (fun h0 => ?_)
  ·refine aS aG 3 [11, 54] [(6, (eI j11)), (7, (eI (2 : Int)))] ?_
   refine bL ?_
   obtain rfl := oI h0
   exact aH (bT (MA hO ⟨rfl, rfl⟩))
  refine aS aG 3 [11, 54] [(6, (eI j11)), (7, (eI (0 : Int)))] ?_
  refine bL ?_
  obtain rfl := oI h0
  exact aH (bT (MA hO ⟨rfl, rfl⟩))
 refine aS aG 2 [] [(32, (aJ (decide ((8 : Int) ≤ (wR (b2 - a1))))))] ?_
 refine bE h0 (fun h0 => ?_) (fun h0 => ?_)
 ·refine dA (fun T H => ∃ rF : Int, ∃ i10 : Int, ∃ j11 : Int, ∃ k12 : Int, Has T [(0, (.msl 1 lo0p 0 (List.length aA))), (9, (.lp lo1 0 0)), (10, (eI i10)), (11, (eI j11)), (12, (eI k12))] ∧ aK ⟨Fh, Fe, Fg⟩ H [(lo0p, 1, List.map (eI) aA), (lo1, 1, [(eI rF)])] ∧ fX aA rF i10 j11 k12 = some r) ?_ ?_
  ·clear hO h0
   rintro T H ⟨rF, i10, j11, k12, hT, hO, h0⟩
   refine aY hT ?_
   clear hT
   unfold fX at h0
   refine aT aG 6 ?_
   refine bI 4 ?_
   obtain ⟨x8, hx9, h0⟩ := aW h0
   refine HH [] [0, 1] (wO lo0p aA i10 j11 k12 lo1 rF _ hx9) hO ?_
   intro r10 L11 H hP12 hO
   obtain ⟨rfl, rfl⟩ := hP12
   replace hO : aK ⟨Fh, Fe, Fg⟩ H [(lo0p, 1, List.map (eI) aA), (lo1, 1, [(eI x8.2)])] := hO
   refine bC ?_
   exact aH (aF (⟨rfl, _, _, .eq (by kernel_rfl), hO, h0⟩))
  refine aS aG 2 [8, 32] [(34, (aJ (decide ((50 : Int) ≤ (wR (b2 - a1))))))] ?_
  refine bE h0 (fun h0 => ?_) (fun h0 => ?_)
  ·refine aO ?_
   refine aT aG 4 ?_
   refine bI 2 ?_
   obtain ⟨x14, hx15, h0⟩ := aW h0
   refine HH [] [0, 1] (pV lo0p aA (wR (a1 + (wR ((wR (Int.tdiv (wR (b2 - a1)) (4 : Int))) * (1 : Int))))) lo1 0 _ hx15) hO ?_
   intro r16 L17 H hP18 hO
   obtain ⟨rfl, rfl⟩ := hP18
   replace hO : aK ⟨Fh, Fe, Fg⟩ H [(lo0p, 1, List.map (eI) aA), (lo1, 1, [(eI x14.2)])] := hO
   refine bC ?_
   refine bP [10, 34] [(10, (eI x14.1))] ?_
   refine aO ?_
   refine aT aG 4 ?_
   refine bI 2 ?_
   obtain ⟨x19, hx20, h0⟩ := aW h0
   refine HH [] [0, 1] (pV lo0p aA (wR (a1 + (wR ((wR (Int.tdiv (wR (b2 - a1)) (4 : Int))) * (2 : Int))))) lo1 x14.2 _ hx20) hO ?_
   intro r21 L22 H hP23 hO
   obtain ⟨rfl, rfl⟩ := hP23
   replace hO : aK ⟨Fh, Fe, Fg⟩ H [(lo0p, 1, List.map (eI) aA), (lo1, 1, [(eI x19.2)])] := hO
   refine bC ?_
   refine bD [(0, (.msl 1 lo0p 0 (List.length aA))), (9, (.lp lo1 0 0)), (10, (eI x14.1)), (11, (eI x19.1)), (12, (eI (wR (a1 + (wR ((wR (Int.tdiv (wR (b2 - a1)) (4 : Int))) * (3 : Int)))))))] ?_
   refine aT aG 4 ?_
   refine bI 2 ?_
   obtain ⟨x24, hx25, h0⟩ := aW h0
   refine HH [] [0, 1] (pV lo0p aA (wR (a1 + (wR ((wR (Int.tdiv (wR (b2 - a1)) (4 : Int))) * (3 : Int))))) lo1 x19.2 _ hx25) hO ?_
   intro r26 L27 H hP28 hO
   obtain ⟨rfl, rfl⟩ := hP28
   replace hO : aK ⟨Fh, Fe, Fg⟩ H [(lo0p, 1, List.map (eI) aA), (lo1, 1, [(eI x24.2)])] := hO
   refine bC ?_
   exact aH (aF (⟨rfl, _, _, _, _, .eq (by kernel_rfl), hO, h0⟩))
  refine bG ?_
  exact aH (aF (⟨rfl, _, _, _, _, .eq (by kernel_rfl), hO, h0⟩))
 refine bG ?_
 exact aH (aF (⟨rfl, _, _, .eq (by kernel_rfl), hO, h0⟩))

theorem BH (lo0p : Nat) (aA : (List Int)) (a1 : Int) (b2 : Int) (r : List Int) (h0 : jB aA a1 b2 = some r) : iG Tryz.prog 79 lo0p 1 (List.map (eI) aA) (List.map (eI) r) [(.msl 1 lo0p 0 (List.length aA)), (eI a1), (eI b2)] (.tup []) := by
 intro H0 hl0
 refine cP Tryz.func79 ?_
 have hO := aK.nP hl0
 clear hl0
 obtain ⟨N0, hN0⟩ : ∃ n, n = List.length aA := ⟨_, rfl⟩
 have hN : List.length aA = N0 := hN0.symm
 unfold jB at h0
 refine aS aG 2 [1] [(6, (eI a1))] ?_
 refine aS aG 3 [2] [(7, (eI (wR (b2 - (1 : Int)))))] ?_
 refine bN 0 ?_
 refine dK [(0, (.msl 1 lo0p 0 (List.length aA))), (6, (eI a1)), (7, (eI (wR (b2 - (1 : Int)))))] ?_
 refine cQ (fun T H => ∃ aA : List Int, ∃ i6 : Int, ∃ j7 : Int, Has T [(0, (.msl 1 lo0p 0 (List.length aA))), (6, (eI i6)), (7, (eI j7))] ∧ aK ⟨H0, [lo0p], []⟩ H [(lo0p, 1, List.map (eI) aA)] ∧ List.length aA = N0 ∧ lS aA i6 j7 = some r) ?_ ⟨aA, a1, wR (b2 - (1 : Int)), .eq (by kernel_rfl), hO, hN, h0⟩
 clear hO hN h0
 rintro T H ⟨aA, i6, j7, hT, hO, hN, h0⟩
 refine aY hT ?_
 clear hT
 unfold lS at h0
 obtain ⟨rr0, hl0, h0⟩ := aW h0
 refine cB (by kernel_rfl) (fun (s : List Int × Int × Int) T H => Has T [(0, (.msl 1 lo0p 0 (List.length s.1))), (6, (eI s.2.1)), (7, (eI s.2.2))] ∧ aK ⟨H0, [lo0p], []⟩ H [(lo0p, 1, List.map (eI) s.1)] ∧ List.length s.1 = N0) hl0 ⟨.eq (by kernel_rfl), hO, hN⟩ ?_
 clear hO hN
 rintro k0 s out1 T H ⟨hT, hO, hN⟩ h1 ho0
 obtain ⟨aA, i6, j7⟩ := s
 replace h1 : dX aA i6 j7 = some out1 := h1
 try dsimp only at hT
 refine aY hT ?_
 clear hT
 unfold dX at h1
 refine aO ?_
 refine aS aG 3 [] [(13, (aJ (decide (i6 < j7))))] ?_
 refine bE h1 (fun h1 => ?_) (fun h1 => ?_)
 ·refine bG ?_
  refine bD [(0, (.msl 1 lo0p 0 (List.length aA))), (6, (eI i6)), (7, (eI j7))] ?_
  refine bN 1 ?_
  refine aO ?_
  refine eR (eP []) aG 16 ?_
  obtain ⟨c2, h1⟩ := aX h1
  refine bQ 7 [0 ≤ j7 ∧ j7 < (lN aA)] ⟨c2, trivial⟩ ?_
  refine dN 0 lo0p 1 (0 + Int.toNat j7) (eI (gD aA j7)) (eI (gD aA j7)) (List.map (eI) aA) hO (bJ c2) ?_
  obtain ⟨c3, h1⟩ := aX h1
  refine bQ 11 [0 ≤ i6 ∧ i6 < (lN aA)] ⟨c3, trivial⟩ ?_
  refine dN 0 lo0p 1 (0 + Int.toNat i6) (eI (gD aA i6)) (eI (gD aA i6)) (List.map (eI) aA) hO (bJ c3) ?_
  obtain ⟨c4, h1⟩ := aX h1
  refine bQ 13 [0 ≤ i6 ∧ i6 < (lN aA)] ⟨c4, trivial⟩ ?_
  refine iD 0 lo0p 1 (0 + Int.toNat i6) (eI (gD aA i6)) (eI (gD aA j7)) (List.map (eI) aA) [(lo0p, 1, List.map (eI) (List.set aA (Int.toNat i6) (gD aA j7)))] hO (bJ c4) (by simp only [List.set, eA]) ?_
  intro H hO
  replace hN : List.length (List.set aA (Int.toNat i6) (gD aA j7)) = N0 := by simpa using hN
  obtain ⟨c5, h1⟩ := aX h1
  refine bQ 15 [0 ≤ j7 ∧ j7 < (lN aA)] ⟨c5, trivial⟩ ?_
  refine iD 0 lo0p 1 (0 + Int.toNat j7) (eI (gD (List.set aA (Int.toNat i6) (gD aA j7)) j7)) (eI (gD aA i6)) (List.map (eI) (List.set aA (Int.toNat i6) (gD aA j7))) [(lo0p, 1, List.map (eI) (List.set (List.set aA (Int.toNat i6) (gD aA j7)) (Int.toNat j7) (gD aA i6)))] hO (lQ c5 (by simp [])) (by simp only [List.set, eA]) ?_
  intro H hO
  replace hN : List.length (List.set (List.set aA (Int.toNat i6) (gD aA j7)) (Int.toNat j7) (gD aA i6)) = N0 := by simpa using hN
  refine nU (by kernel_rfl) ?_
  refine cA (l := [(0, (.msl 1 lo0p 0 (List.length (List.set (List.set aA (Int.toNat i6) (gD aA j7)) (Int.toNat j7) (gD aA i6))))), (6, (eI i6)), (7, (eI j7))]) ⟨[(0, (.msl 1 lo0p 0 (List.length aA))), (6, (eI i6)), (7, (eI j7))], by kernel_rfl, rfl, ⟨aL.eq (by simp []), aL.refl _, aL.refl _, trivial⟩⟩ ?_
  refine aH (aF (?_))
  refine aS aG 3 [6] [(6, (eI (wR (i6 + (1 : Int)))))] ?_
  refine aT aG 3 ?_
  refine bC ?_
  exact aH (aU (aF (⟨rfl, _, (oI h1).symm, .eq (by kernel_rfl), hO, hN⟩)))
 refine dW 0 ?_
 obtain rfl := oI h1
 obtain rfl : _ = rr0 := ho0
 replace h0 : some aA = some r := h0
 obtain rfl := oI h0
 exact aH (aR (aR (bF (rY (x := (.tup [])) (by kernel_rfl) (aL.refl _) ⟨rfl, hO.ext, hO.at 0 (by kernel_rfl), by first | rfl | (simp only [List.length_map]; exact hN.trans hN0)⟩))))

end Go.Abs
