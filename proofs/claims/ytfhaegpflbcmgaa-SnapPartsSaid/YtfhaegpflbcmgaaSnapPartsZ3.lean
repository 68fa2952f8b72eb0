/- What the law SnapParts stands on: the framework, the given functions as plain functions, their walks, and the plain laws; part 3. -/
import Derived.Test.YtfhaegpflbcmgaaSnapPartsZ2
set_option linter.unusedSimpArgs false
set_option linter.unusedVariables false
namespace Go.Abs
open Go
noncomputable def kQ (r0 : Int) : Option (Int × Int) :=
  aZ (0 ≤ (13 : Int)) <|
  aZ (0 ≤ (7 : Int)) <|
  aZ (0 ≤ (17 : Int)) <|
  some (bO .xor .u64 (bO .xor .u64 (bO .xor .u64 r0 (IntKind.u64.wrap (r0 * 2 ^ (min (Int.toNat (13 : Int)) 64)))) (Int.fdiv (bO .xor .u64 r0 (IntKind.u64.wrap (r0 * 2 ^ (min (Int.toNat (13 : Int)) 64)))) (2 ^ (min (Int.toNat (7 : Int)) 64)))) (IntKind.u64.wrap ((bO .xor .u64 (bO .xor .u64 r0 (IntKind.u64.wrap (r0 * 2 ^ (min (Int.toNat (13 : Int)) 64)))) (Int.fdiv (bO .xor .u64 r0 (IntKind.u64.wrap (r0 * 2 ^ (min (Int.toNat (13 : Int)) 64)))) (2 ^ (min (Int.toNat (7 : Int)) 64)))) * 2 ^ (min (Int.toNat (17 : Int)) 64))), bO .xor .u64 (bO .xor .u64 (bO .xor .u64 r0 (IntKind.u64.wrap (r0 * 2 ^ (min (Int.toNat (13 : Int)) 64)))) (Int.fdiv (bO .xor .u64 r0 (IntKind.u64.wrap (r0 * 2 ^ (min (Int.toNat (13 : Int)) 64)))) (2 ^ (min (Int.toNat (7 : Int)) 64)))) (IntKind.u64.wrap ((bO .xor .u64 (bO .xor .u64 r0 (IntKind.u64.wrap (r0 * 2 ^ (min (Int.toNat (13 : Int)) 64)))) (Int.fdiv (bO .xor .u64 r0 (IntKind.u64.wrap (r0 * 2 ^ (min (Int.toNat (13 : Int)) 64)))) (2 ^ (min (Int.toNat (7 : Int)) 64)))) * 2 ^ (min (Int.toNat (17 : Int)) 64))))

noncomputable def eR (aA : List Int) (a1 : Int) (jK : Int) (kO : Int) (iI : Int) (idx9 : Int) (fH : Int) : Option ((List Int × Int × Int) ⊕ ((List Int))) :=
  aZ (0 ≤ (IntKind.i64.wrap (a1 + fH)) ∧ (IntKind.i64.wrap (a1 + fH)) < ((List.length aA : Nat) : Int)) <|
  aZ (0 ≤ idx9 ∧ idx9 < ((List.length aA : Nat) : Int)) <|
  aZ (0 ≤ idx9 ∧ idx9 < ((List.length aA : Nat) : Int)) <|
  aZ (0 ≤ (IntKind.i64.wrap (a1 + fH)) ∧ (IntKind.i64.wrap (a1 + fH)) < ((List.length aA : Nat) : Int)) <|
  some (.inl (List.set (List.set aA (Int.toNat idx9) (List.getD aA (Int.toNat (IntKind.i64.wrap (a1 + fH))) default)) (Int.toNat (IntKind.i64.wrap (a1 + fH))) (List.getD aA (Int.toNat idx9) default), kO, IntKind.i64.wrap (idx9 + (1 : Int))))

noncomputable def cW (a1 : Int) (jK : Int) (iI : Int) (aA : List Int) (kO : Int) (idx9 : Int) : Option ((List Int × Int × Int) ⊕ ((List Int))) :=
  aZ ((4 : Int) ≠ 0) <|
  cond (decide (idx9 ≤ (IntKind.i64.wrap ((IntKind.i64.wrap (a1 + (IntKind.i64.wrap ((IntKind.i64.wrap (Int.tdiv jK (4 : Int))) * (2 : Int))))) + (1 : Int)))))
  ((kQ kO).bind fun x9 =>
  cond (decide (jK ≤ (IntKind.i64.wrap (bO .and .u64 x9.1 (IntKind.u64.wrap (iI - (1 : Int)))))))
  (eR aA a1 jK x9.2 iI idx9 (IntKind.i64.wrap ((IntKind.i64.wrap (bO .and .u64 x9.1 (IntKind.u64.wrap (iI - (1 : Int))))) - jK)))
  (eR aA a1 jK x9.2 iI idx9 (IntKind.i64.wrap (bO .and .u64 x9.1 (IntKind.u64.wrap (iI - (1 : Int)))))))
  (some (.inr aA))

noncomputable def iT (aA : List Int) (a1 : Int) (jK : Int) (kO : Int) (iI : Int) (idx9 : Int) : Option (List Int) :=
  (lp (fun s => cW a1 jK iI s.1 s.2.1 s.2.2) (aA, kO, idx9)).bind (fun rr => some rr)

noncomputable def gC (aA : (List Int)) (a1 : Int) (b2 : Int) : Option (List Int) :=
  cond (decide ((8 : Int) ≤ (IntKind.i64.wrap (b2 - a1))))
  ((kI (IntKind.i64.wrap (b2 - a1))).bind fun x3 =>
  aZ ((4 : Int) ≠ 0) <|
  iT aA a1 (IntKind.i64.wrap (b2 - a1)) (IntKind.u64.wrap (IntKind.i64.wrap (b2 - a1))) x3 (IntKind.i64.wrap ((IntKind.i64.wrap (a1 + (IntKind.i64.wrap ((IntKind.i64.wrap (Int.tdiv (IntKind.i64.wrap (b2 - a1)) (4 : Int))) * (2 : Int))))) - (1 : Int))))
  (some aA)

noncomputable def fP (aA : (List Int)) (a1 : Int) (b2 : Int) (rI : Int) : Option ((Int × Int) × Int) :=
  aZ (0 ≤ b2 ∧ b2 < ((List.length aA : Nat) : Int)) <|
  aZ (0 ≤ a1 ∧ a1 < ((List.length aA : Nat) : Int)) <|
  (dB (List.getD aA (Int.toNat b2) default) (List.getD aA (Int.toNat a1) default)).bind fun x3 =>
  cond x3
  (some ((b2, a1), IntKind.i64.wrap (rI + (1 : Int))))
  (some ((a1, b2), rI))

noncomputable def gZ (aA : (List Int)) (a1 : Int) (b2 : Int) (c3 : Int) (DP : Int) : Option (Int × Int) :=
  (fP aA a1 b2 DP).bind fun x1 =>
  (fP aA x1.1.2 c3 x1.2).bind fun x6 =>
  (fP aA x1.1.1 x6.1.1 x6.2).bind fun x11 =>
  some (x11.1.2, x11.2)

noncomputable def dV (aA : (List Int)) (a1 : Int) (CN : Int) : Option (Int × Int) :=
  (gZ aA (IntKind.i64.wrap (a1 - (1 : Int))) a1 (IntKind.i64.wrap (a1 + (1 : Int))) CN).bind fun x1 =>
  some (x1.1, x1.2)

noncomputable def fA (aA : List Int) (lK : Int) (j11 : Int) : Option (Int × Int) :=
  cond (decide (lK = (0 : Int)))
  (some (j11, (1 : Int)))
  (cond (decide (lK = (12 : Int)))
  (some (j11, (2 : Int)))
  (some (j11, (0 : Int))))

noncomputable def fE (aA : List Int) (lK : Int) (i10 : Int) (j11 : Int) (k12 : Int) : Option (Int × Int) :=
  (gZ aA i10 j11 k12 lK).bind fun x8 =>
  fA aA x8.2 x8.1

noncomputable def gU (aA : (List Int)) (a1 : Int) (b2 : Int) : Option (Int × Int) :=
  aZ ((4 : Int) ≠ 0) <|
  aZ ((4 : Int) ≠ 0) <|
  aZ ((4 : Int) ≠ 0) <|
  cond (decide ((8 : Int) ≤ (IntKind.i64.wrap (b2 - a1))))
  (cond (decide ((50 : Int) ≤ (IntKind.i64.wrap (b2 - a1))))
  ((dV aA (IntKind.i64.wrap (a1 + (IntKind.i64.wrap ((IntKind.i64.wrap (Int.tdiv (IntKind.i64.wrap (b2 - a1)) (4 : Int))) * (1 : Int))))) 0).bind fun x14 =>
  (dV aA (IntKind.i64.wrap (a1 + (IntKind.i64.wrap ((IntKind.i64.wrap (Int.tdiv (IntKind.i64.wrap (b2 - a1)) (4 : Int))) * (2 : Int))))) x14.2).bind fun x19 =>
  (dV aA (IntKind.i64.wrap (a1 + (IntKind.i64.wrap ((IntKind.i64.wrap (Int.tdiv (IntKind.i64.wrap (b2 - a1)) (4 : Int))) * (3 : Int))))) x19.2).bind fun x24 =>
  fE aA x24.2 x14.1 x19.1 x24.1)
  (fE aA 0 (IntKind.i64.wrap (a1 + (IntKind.i64.wrap ((IntKind.i64.wrap (Int.tdiv (IntKind.i64.wrap (b2 - a1)) (4 : Int))) * (1 : Int))))) (IntKind.i64.wrap (a1 + (IntKind.i64.wrap ((IntKind.i64.wrap (Int.tdiv (IntKind.i64.wrap (b2 - a1)) (4 : Int))) * (2 : Int))))) (IntKind.i64.wrap (a1 + (IntKind.i64.wrap ((IntKind.i64.wrap (Int.tdiv (IntKind.i64.wrap (b2 - a1)) (4 : Int))) * (3 : Int)))))))
  (fA aA 0 (IntKind.i64.wrap (a1 + (IntKind.i64.wrap ((IntKind.i64.wrap (Int.tdiv (IntKind.i64.wrap (b2 - a1)) (4 : Int))) * (2 : Int))))))

noncomputable def dJ  (aA : List Int) (i6 : Int) (j7 : Int) : Option ((List Int × Int × Int) ⊕ ((List Int))) :=
  cond (decide (i6 < j7))
  (aZ (0 ≤ j7 ∧ j7 < ((List.length aA : Nat) : Int)) <|
  aZ (0 ≤ i6 ∧ i6 < ((List.length aA : Nat) : Int)) <|
  aZ (0 ≤ i6 ∧ i6 < ((List.length aA : Nat) : Int)) <|
  aZ (0 ≤ j7 ∧ j7 < ((List.length aA : Nat) : Int)) <|
  some (.inl (List.set (List.set aA (Int.toNat i6) (List.getD aA (Int.toNat j7) default)) (Int.toNat j7) (List.getD aA (Int.toNat i6) default), IntKind.i64.wrap (i6 + (1 : Int)), IntKind.i64.wrap (j7 - (1 : Int)))))
  (some (.inr aA))

noncomputable def iY (aA : List Int) (i6 : Int) (j7 : Int) : Option (List Int) :=
  (lp (fun s => dJ s.1 s.2.1 s.2.2) (aA, i6, j7)).bind (fun rr => some rr)

noncomputable def gP (aA : (List Int)) (a1 : Int) (b2 : Int) : Option (List Int) :=
  iY aA a1 (IntKind.i64.wrap (b2 - (1 : Int)))

noncomputable def eG (aA : List Int) : Option (Bool × List Int) :=
  some (false, aA)

noncomputable def dM (aA : List Int) (a1 : Int) (b2 : Int) (i7 : Int) (j8 : Int) : Option ((List Int × Int × Int) ⊕ ((List Int) ⊕ (Bool × (List Int)))) :=
  some (.inl (aA, i7, IntKind.i64.wrap (j8 + (1 : Int))))

noncomputable def cO (a1 : Int) (b2 : Int) (i7 : Int) (j8 : Int) (aA : List Int) (j10 : Int) : Option ((List Int × Int) ⊕ ((List Int))) :=
  cond (decide (j10 < b2))
  (aZ (0 ≤ j10 ∧ j10 < ((List.length aA : Nat) : Int)) <|
  aZ (0 ≤ (IntKind.i64.wrap (j10 - (1 : Int))) ∧ (IntKind.i64.wrap (j10 - (1 : Int))) < ((List.length aA : Nat) : Int)) <|
  (dB (List.getD aA (Int.toNat j10) default) (List.getD aA (Int.toNat (IntKind.i64.wrap (j10 - (1 : Int)))) default)).bind fun x12 =>
  cond (!x12)
  (some (.inr aA))
  (aZ (0 ≤ (IntKind.i64.wrap (j10 - (1 : Int))) ∧ (IntKind.i64.wrap (j10 - (1 : Int))) < ((List.length aA : Nat) : Int)) <|
  aZ (0 ≤ j10 ∧ j10 < ((List.length aA : Nat) : Int)) <|
  aZ (0 ≤ j10 ∧ j10 < ((List.length aA : Nat) : Int)) <|
  aZ (0 ≤ (IntKind.i64.wrap (j10 - (1 : Int))) ∧ (IntKind.i64.wrap (j10 - (1 : Int))) < ((List.length aA : Nat) : Int)) <|
  some (.inl (List.set (List.set aA (Int.toNat j10) (List.getD aA (Int.toNat (IntKind.i64.wrap (j10 - (1 : Int)))) default)) (Int.toNat (IntKind.i64.wrap (j10 - (1 : Int)))) (List.getD aA (Int.toNat j10) default), IntKind.i64.wrap (j10 + (1 : Int))))))
  (some (.inr aA))

noncomputable def fR (aA : List Int) (a1 : Int) (b2 : Int) (i7 : Int) (j8 : Int) (j10 : Int) : Option ((List Int × Int × Int) ⊕ ((List Int) ⊕ (Bool × (List Int)))) :=
  (lp (fun s => cO a1 b2 i7 j8 s.1 s.2) (aA, j10)).bind (fun rr => dM rr a1 b2 i7 j8)

noncomputable def cJ (aA : List Int) (a1 : Int) (b2 : Int) (i7 : Int) (j8 : Int) : Option ((List Int × Int × Int) ⊕ ((List Int) ⊕ (Bool × (List Int)))) :=
  cond (decide ((2 : Int) ≤ (IntKind.i64.wrap (b2 - i7))))
  (fR aA a1 b2 i7 j8 (IntKind.i64.wrap (i7 + (1 : Int))))
  (dM aA a1 b2 i7 j8)

noncomputable def cK (a1 : Int) (b2 : Int) (i7 : Int) (j8 : Int) (aA : List Int) (j9 : Int) : Option ((List Int × Int) ⊕ ((List Int))) :=
  cond (decide ((1 : Int) ≤ j9))
  (aZ (0 ≤ j9 ∧ j9 < ((List.length aA : Nat) : Int)) <|
  aZ (0 ≤ (IntKind.i64.wrap (j9 - (1 : Int))) ∧ (IntKind.i64.wrap (j9 - (1 : Int))) < ((List.length aA : Nat) : Int)) <|
  (dB (List.getD aA (Int.toNat j9) default) (List.getD aA (Int.toNat (IntKind.i64.wrap (j9 - (1 : Int)))) default)).bind fun x24 =>
  cond (!x24)
  (some (.inr aA))
  (aZ (0 ≤ (IntKind.i64.wrap (j9 - (1 : Int))) ∧ (IntKind.i64.wrap (j9 - (1 : Int))) < ((List.length aA : Nat) : Int)) <|
  aZ (0 ≤ j9 ∧ j9 < ((List.length aA : Nat) : Int)) <|
  aZ (0 ≤ j9 ∧ j9 < ((List.length aA : Nat) : Int)) <|
  aZ (0 ≤ (IntKind.i64.wrap (j9 - (1 : Int))) ∧ (IntKind.i64.wrap (j9 - (1 : Int))) < ((List.length aA : Nat) : Int)) <|
  some (.inl (List.set (List.set aA (Int.toNat j9) (List.getD aA (Int.toNat (IntKind.i64.wrap (j9 - (1 : Int)))) default)) (Int.toNat (IntKind.i64.wrap (j9 - (1 : Int)))) (List.getD aA (Int.toNat j9) default), IntKind.i64.wrap (j9 - (1 : Int))))))
  (some (.inr aA))

noncomputable def fT (aA : List Int) (a1 : Int) (b2 : Int) (i7 : Int) (j8 : Int) (j9 : Int) : Option ((List Int × Int × Int) ⊕ ((List Int) ⊕ (Bool × (List Int)))) :=
  (lp (fun s => cK a1 b2 i7 j8 s.1 s.2) (aA, j9)).bind (fun rr => cJ rr a1 b2 i7 j8)

noncomputable def eF (aA : List Int) (a1 : Int) (b2 : Int) (i7 : Int) (j8 : Int) : Option ((List Int × Int × Int) ⊕ ((List Int) ⊕ (Bool × (List Int)))) :=
  cond (decide (i7 = b2))
  (some (.inr (.inr (true, aA))))
  (cond (decide ((IntKind.i64.wrap (b2 - a1)) < (50 : Int)))
  (some (.inr (.inr (false, aA))))
  (aZ (0 ≤ (IntKind.i64.wrap (i7 - (1 : Int))) ∧ (IntKind.i64.wrap (i7 - (1 : Int))) < ((List.length aA : Nat) : Int)) <|
  aZ (0 ≤ i7 ∧ i7 < ((List.length aA : Nat) : Int)) <|
  aZ (0 ≤ i7 ∧ i7 < ((List.length aA : Nat) : Int)) <|
  aZ (0 ≤ (IntKind.i64.wrap (i7 - (1 : Int))) ∧ (IntKind.i64.wrap (i7 - (1 : Int))) < ((List.length aA : Nat) : Int)) <|
  cond (decide ((2 : Int) ≤ (IntKind.i64.wrap (i7 - a1))))
  (fT (List.set (List.set aA (Int.toNat i7) (List.getD aA (Int.toNat (IntKind.i64.wrap (i7 - (1 : Int)))) default)) (Int.toNat (IntKind.i64.wrap (i7 - (1 : Int)))) (List.getD aA (Int.toNat i7) default)) a1 b2 i7 j8 (IntKind.i64.wrap (i7 - (1 : Int))))
  (cJ (List.set (List.set aA (Int.toNat i7) (List.getD aA (Int.toNat (IntKind.i64.wrap (i7 - (1 : Int)))) default)) (Int.toNat (IntKind.i64.wrap (i7 - (1 : Int)))) (List.getD aA (Int.toNat i7) default)) a1 b2 i7 j8)))

noncomputable def cN (a1 : Int) (b2 : Int) (j8 : Int) (aA : List Int) (i7 : Int) : Option ((List Int × Int) ⊕ ((List Int × Int))) :=
  aZ ((((decide (i7 < b2))) = true → 0 ≤ i7 ∧ i7 < ((List.length aA : Nat) : Int))) <|
  aZ ((((decide (i7 < b2))) = true → 0 ≤ (IntKind.i64.wrap (i7 - (1 : Int))) ∧ (IntKind.i64.wrap (i7 - (1 : Int))) < ((List.length aA : Nat) : Int))) <|
  (dA (decide (i7 < b2)) (dB (List.getD aA (Int.toNat i7) default) (List.getD aA (Int.toNat (IntKind.i64.wrap (i7 - (1 : Int)))) default))).bind fun x34 =>
  cond ((decide (i7 < b2)) && (!x34))
  (some (.inl (aA, IntKind.i64.wrap (i7 + (1 : Int)))))
  (some (.inr (aA, i7)))

noncomputable def cY (aA : List Int) (a1 : Int) (b2 : Int) (i7 : Int) (j8 : Int) : Option ((List Int × Int × Int) ⊕ ((List Int) ⊕ (Bool × (List Int)))) :=
  (lp (fun s => cN a1 b2 j8 s.1 s.2) (aA, i7)).bind (fun rr => eF rr.1 a1 b2 rr.2 j8)

noncomputable def bX (a1 : Int) (b2 : Int) (aA : List Int) (i7 : Int) (j8 : Int) : Option ((List Int × Int × Int) ⊕ ((List Int) ⊕ (Bool × (List Int)))) :=
  cond (decide (j8 < (5 : Int)))
  (cY aA a1 b2 i7 j8)
  (some (.inr (.inl aA)))

noncomputable def fS (aA : List Int) (a1 : Int) (b2 : Int) (i7 : Int) (j8 : Int) : Option (Bool × List Int) :=
  (lp (fun s => bX a1 b2 s.1 s.2.1 s.2.2) (aA, i7, j8)).bind (Sum.elim (fun rr => eG rr) (fun rr => some (rr.1, rr.2)))

noncomputable def eK (aA : (List Int)) (a1 : Int) (b2 : Int) : Option (Bool × List Int) :=
  fS aA a1 b2 (IntKind.i64.wrap (a1 + (1 : Int))) (0 : Int)

noncomputable def iN (aA : List Int) (i9 : Int) : Option (Int × List Int) :=
  some (i9, aA)

noncomputable def dP (aA : List Int) (a1 : Int) (i9 : Int) (j10 : Int) : Option ((List Int × Int × Int) ⊕ ((List Int × Int))) :=
  cond (decide (j10 < i9))
  (some (.inr (aA, i9)))
  (aZ (0 ≤ j10 ∧ j10 < ((List.length aA : Nat) : Int)) <|
  aZ (0 ≤ i9 ∧ i9 < ((List.length aA : Nat) : Int)) <|
  aZ (0 ≤ i9 ∧ i9 < ((List.length aA : Nat) : Int)) <|
  aZ (0 ≤ j10 ∧ j10 < ((List.length aA : Nat) : Int)) <|
  some (.inl (List.set (List.set aA (Int.toNat i9) (List.getD aA (Int.toNat j10) default)) (Int.toNat j10) (List.getD aA (Int.toNat i9) default), IntKind.i64.wrap (i9 + (1 : Int)), IntKind.i64.wrap (j10 - (1 : Int)))))

noncomputable def dO (a1 : Int) (i9 : Int) (aA : List Int) (j10 : Int) : Option ((List Int × Int) ⊕ ((List Int × Int))) :=
  aZ ((((decide (i9 ≤ j10))) = true → 0 ≤ a1 ∧ a1 < ((List.length aA : Nat) : Int))) <|
  aZ ((((decide (i9 ≤ j10))) = true → 0 ≤ j10 ∧ j10 < ((List.length aA : Nat) : Int))) <|
  (dA (decide (i9 ≤ j10)) (dB (List.getD aA (Int.toNat a1) default) (List.getD aA (Int.toNat j10) default))).bind fun x12 =>
  cond ((decide (i9 ≤ j10)) && x12)
  (some (.inl (aA, IntKind.i64.wrap (j10 - (1 : Int)))))
  (some (.inr (aA, j10)))

noncomputable def iM (aA : List Int) (a1 : Int) (i9 : Int) (j10 : Int) : Option ((List Int × Int × Int) ⊕ ((List Int × Int))) :=
  (lp (fun s => dO a1 i9 s.1 s.2) (aA, j10)).bind (fun rr => dP rr.1 a1 i9 rr.2)

noncomputable def fL (aA : List Int) (a1 : Int) (i9 : Int) (j10 : Int) : Option ((List Int × Int × Int) ⊕ ((List Int × Int))) :=
  iM aA a1 i9 j10

noncomputable def dQ (a1 : Int) (j10 : Int) (aA : List Int) (i9 : Int) : Option ((List Int × Int) ⊕ ((List Int × Int))) :=
  aZ ((((decide (i9 ≤ j10))) = true → 0 ≤ a1 ∧ a1 < ((List.length aA : Nat) : Int))) <|
  aZ ((((decide (i9 ≤ j10))) = true → 0 ≤ i9 ∧ i9 < ((List.length aA : Nat) : Int))) <|
  (dA (decide (i9 ≤ j10)) (dB (List.getD aA (Int.toNat a1) default) (List.getD aA (Int.toNat i9) default))).bind fun x18 =>
  cond ((decide (i9 ≤ j10)) && (!x18))
  (some (.inl (aA, IntKind.i64.wrap (i9 + (1 : Int)))))
  (some (.inr (aA, i9)))

noncomputable def iJ (aA : List Int) (a1 : Int) (i9 : Int) (j10 : Int) : Option ((List Int × Int × Int) ⊕ ((List Int × Int))) :=
  (lp (fun s => dQ a1 j10 s.1 s.2) (aA, i9)).bind (fun rr => fL rr.1 a1 rr.2 j10)

noncomputable def cU (a1 : Int) (aA : List Int) (i9 : Int) (j10 : Int) : Option ((List Int × Int × Int) ⊕ ((List Int × Int))) :=
  iJ aA a1 i9 j10

noncomputable def iL (aA : List Int) (a1 : Int) (i9 : Int) (j10 : Int) : Option (Int × List Int) :=
  (lp (fun s => cU a1 s.1 s.2.1 s.2.2) (aA, i9, j10)).bind (fun rr => iN rr.1 rr.2)

noncomputable def eT (aA : (List Int)) (a1 : Int) (b2 : Int) (cL : Int) : Option (Int × List Int) :=
  aZ (0 ≤ cL ∧ cL < ((List.length aA : Nat) : Int)) <|
  aZ (0 ≤ a1 ∧ a1 < ((List.length aA : Nat) : Int)) <|
  aZ (0 ≤ a1 ∧ a1 < ((List.length aA : Nat) : Int)) <|
  aZ (0 ≤ cL ∧ cL < ((List.length aA : Nat) : Int)) <|
  iL (List.set (List.set aA (Int.toNat a1) (List.getD aA (Int.toNat cL) default)) (Int.toNat cL) (List.getD aA (Int.toNat a1) default)) a1 (IntKind.i64.wrap (a1 + (1 : Int))) (IntKind.i64.wrap (b2 - (1 : Int)))

noncomputable def iA (aA : List Int) (a1 : Int) (j11 : Int) : Option ((Int × Bool) × List Int) :=
  aZ (0 ≤ a1 ∧ a1 < ((List.length aA : Nat) : Int)) <|
  aZ (0 ≤ j11 ∧ j11 < ((List.length aA : Nat) : Int)) <|
  aZ (0 ≤ j11 ∧ j11 < ((List.length aA : Nat) : Int)) <|
  aZ (0 ≤ a1 ∧ a1 < ((List.length aA : Nat) : Int)) <|
  some ((j11, false), (List.set (List.set aA (Int.toNat j11) (List.getD aA (Int.toNat a1) default)) (Int.toNat a1) (List.getD aA (Int.toNat j11) default)))

noncomputable def eP (aA : List Int) (a1 : Int) (i10 : Int) (j11 : Int) : Option ((List Int × Int × Int) ⊕ ((List Int × Int))) :=
  cond (decide (j11 < i10))
  (some (.inr (aA, j11)))
  (aZ (0 ≤ j11 ∧ j11 < ((List.length aA : Nat) : Int)) <|
  aZ (0 ≤ i10 ∧ i10 < ((List.length aA : Nat) : Int)) <|
  aZ (0 ≤ i10 ∧ i10 < ((List.length aA : Nat) : Int)) <|
  aZ (0 ≤ j11 ∧ j11 < ((List.length aA : Nat) : Int)) <|
  some (.inl (List.set (List.set aA (Int.toNat i10) (List.getD aA (Int.toNat j11) default)) (Int.toNat j11) (List.getD aA (Int.toNat i10) default), IntKind.i64.wrap (i10 + (1 : Int)), IntKind.i64.wrap (j11 - (1 : Int)))))

noncomputable def eN (a1 : Int) (i10 : Int) (aA : List Int) (j11 : Int) : Option ((List Int × Int) ⊕ ((List Int × Int))) :=
  aZ ((((decide (i10 ≤ j11))) = true → 0 ≤ j11 ∧ j11 < ((List.length aA : Nat) : Int))) <|
  aZ ((((decide (i10 ≤ j11))) = true → 0 ≤ a1 ∧ a1 < ((List.length aA : Nat) : Int))) <|
  (dA (decide (i10 ≤ j11)) (dB (List.getD aA (Int.toNat j11) default) (List.getD aA (Int.toNat a1) default))).bind fun x25 =>
  cond ((decide (i10 ≤ j11)) && (!x25))
  (some (.inl (aA, IntKind.i64.wrap (j11 - (1 : Int)))))
  (some (.inr (aA, j11)))

noncomputable def jP (aA : List Int) (a1 : Int) (i10 : Int) (j11 : Int) : Option ((List Int × Int × Int) ⊕ ((List Int × Int))) :=
  (lp (fun s => eN a1 i10 s.1 s.2) (aA, j11)).bind (fun rr => eP rr.1 a1 i10 rr.2)

noncomputable def iD (aA : List Int) (a1 : Int) (i10 : Int) (j11 : Int) : Option ((List Int × Int × Int) ⊕ ((List Int × Int))) :=
  jP aA a1 i10 j11

noncomputable def eJ (a1 : Int) (j11 : Int) (aA : List Int) (i10 : Int) : Option ((List Int × Int) ⊕ ((List Int × Int))) :=
  aZ ((((decide (i10 ≤ j11))) = true → 0 ≤ i10 ∧ i10 < ((List.length aA : Nat) : Int))) <|
  aZ ((((decide (i10 ≤ j11))) = true → 0 ≤ a1 ∧ a1 < ((List.length aA : Nat) : Int))) <|
  (dA (decide (i10 ≤ j11)) (dB (List.getD aA (Int.toNat i10) default) (List.getD aA (Int.toNat a1) default))).bind fun x31 =>
  cond ((decide (i10 ≤ j11)) && x31)
  (some (.inl (aA, IntKind.i64.wrap (i10 + (1 : Int)))))
  (some (.inr (aA, i10)))

noncomputable def jU (aA : List Int) (a1 : Int) (i10 : Int) (j11 : Int) : Option ((List Int × Int × Int) ⊕ ((List Int × Int))) :=
  (lp (fun s => eJ a1 j11 s.1 s.2) (aA, i10)).bind (fun rr => iD rr.1 a1 rr.2 j11)

noncomputable def dH (a1 : Int) (aA : List Int) (i10 : Int) (j11 : Int) : Option ((List Int × Int × Int) ⊕ ((List Int × Int))) :=
  jU aA a1 i10 j11

noncomputable def jS (aA : List Int) (a1 : Int) (i10 : Int) (j11 : Int) : Option ((Int × Bool) × List Int) :=
  (lp (fun s => dH a1 s.1 s.2.1 s.2.2) (aA, i10, j11)).bind (fun rr => iA rr.1 a1 rr.2)

noncomputable def eO (aA : List Int) (a1 : Int) (i10 : Int) (j11 : Int) : Option ((Int × Bool) × List Int) :=
  cond (decide (j11 < i10))
  (aZ (0 ≤ a1 ∧ a1 < ((List.length aA : Nat) : Int)) <|
  aZ (0 ≤ j11 ∧ j11 < ((List.length aA : Nat) : Int)) <|
  aZ (0 ≤ j11 ∧ j11 < ((List.length aA : Nat) : Int)) <|
  aZ (0 ≤ a1 ∧ a1 < ((List.length aA : Nat) : Int)) <|
  some ((j11, true), (List.set (List.set aA (Int.toNat j11) (List.getD aA (Int.toNat a1) default)) (Int.toNat a1) (List.getD aA (Int.toNat j11) default))))
  (aZ (0 ≤ j11 ∧ j11 < ((List.length aA : Nat) : Int)) <|
  aZ (0 ≤ i10 ∧ i10 < ((List.length aA : Nat) : Int)) <|
  aZ (0 ≤ i10 ∧ i10 < ((List.length aA : Nat) : Int)) <|
  aZ (0 ≤ j11 ∧ j11 < ((List.length aA : Nat) : Int)) <|
  jS (List.set (List.set aA (Int.toNat i10) (List.getD aA (Int.toNat j11) default)) (Int.toNat j11) (List.getD aA (Int.toNat i10) default)) a1 (IntKind.i64.wrap (i10 + (1 : Int))) (IntKind.i64.wrap (j11 - (1 : Int))))

noncomputable def eM (a1 : Int) (i10 : Int) (aA : List Int) (j11 : Int) : Option ((List Int × Int) ⊕ ((List Int × Int))) :=
  aZ ((((decide (i10 ≤ j11))) = true → 0 ≤ j11 ∧ j11 < ((List.length aA : Nat) : Int))) <|
  aZ ((((decide (i10 ≤ j11))) = true → 0 ≤ a1 ∧ a1 < ((List.length aA : Nat) : Int))) <|
  (dA (decide (i10 ≤ j11)) (dB (List.getD aA (Int.toNat j11) default) (List.getD aA (Int.toNat a1) default))).bind fun x37 =>
  cond ((decide (i10 ≤ j11)) && (!x37))
  (some (.inl (aA, IntKind.i64.wrap (j11 - (1 : Int)))))
  (some (.inr (aA, j11)))

noncomputable def jR (aA : List Int) (a1 : Int) (i10 : Int) (j11 : Int) : Option ((Int × Bool) × List Int) :=
  (lp (fun s => eM a1 i10 s.1 s.2) (aA, j11)).bind (fun rr => eO rr.1 a1 i10 rr.2)

noncomputable def iC (aA : List Int) (a1 : Int) (i10 : Int) (j11 : Int) : Option ((Int × Bool) × List Int) :=
  jR aA a1 i10 j11

noncomputable def eD (a1 : Int) (j11 : Int) (aA : List Int) (i10 : Int) : Option ((List Int × Int) ⊕ ((List Int × Int))) :=
  aZ ((((decide (i10 ≤ j11))) = true → 0 ≤ i10 ∧ i10 < ((List.length aA : Nat) : Int))) <|
  aZ ((((decide (i10 ≤ j11))) = true → 0 ≤ a1 ∧ a1 < ((List.length aA : Nat) : Int))) <|
  (dA (decide (i10 ≤ j11)) (dB (List.getD aA (Int.toNat i10) default) (List.getD aA (Int.toNat a1) default))).bind fun x43 =>
  cond ((decide (i10 ≤ j11)) && x43)
  (some (.inl (aA, IntKind.i64.wrap (i10 + (1 : Int)))))
  (some (.inr (aA, i10)))

noncomputable def fI (aA : List Int) (a1 : Int) (i10 : Int) (j11 : Int) : Option ((Int × Bool) × List Int) :=
  (lp (fun s => eD a1 j11 s.1 s.2) (aA, i10)).bind (fun rr => iC rr.1 a1 rr.2 j11)

noncomputable def fV (aA : (List Int)) (a1 : Int) (b2 : Int) (cL : Int) : Option ((Int × Bool) × List Int) :=
  aZ (0 ≤ cL ∧ cL < ((List.length aA : Nat) : Int)) <|
  aZ (0 ≤ a1 ∧ a1 < ((List.length aA : Nat) : Int)) <|
  aZ (0 ≤ a1 ∧ a1 < ((List.length aA : Nat) : Int)) <|
  aZ (0 ≤ cL ∧ cL < ((List.length aA : Nat) : Int)) <|
  fI (List.set (List.set aA (Int.toNat a1) (List.getD aA (Int.toNat cL) default)) (Int.toNat cL) (List.getD aA (Int.toNat a1) default)) a1 (IntKind.i64.wrap (a1 + (1 : Int))) (IntKind.i64.wrap (b2 - (1 : Int)))

noncomputable def gI (rec : (List Int) → Int → Int → Int → Option (List Int)) (aA : List Int) (a1 : Int) (b2 : Int) (cC : Int) (bW : Bool) (bN : Bool) (dU : Int) (fM : Int) : Option ((List Int × Int × Int × Int × Bool × Bool) ⊕ ((List Int))) :=
  aZ ((((decide ((0 : Int) < a1))) = true → 0 ≤ (IntKind.i64.wrap (a1 - (1 : Int))) ∧ (IntKind.i64.wrap (a1 - (1 : Int))) < ((List.length aA : Nat) : Int))) <|
  aZ ((((decide ((0 : Int) < a1))) = true → 0 ≤ fM ∧ fM < ((List.length aA : Nat) : Int))) <|
  (dA (decide ((0 : Int) < a1)) (dB (List.getD aA (Int.toNat (IntKind.i64.wrap (a1 - (1 : Int)))) default) (List.getD aA (Int.toNat fM) default))).bind fun x16 =>
  cond ((decide ((0 : Int) < a1)) && (!x16))
  ((eT aA a1 b2 fM).bind fun x20 =>
  some (.inl (x20.2, x20.1, b2, cC, bW, bN)))
  ((fV aA a1 b2 fM).bind fun x23 =>
  aZ ((8 : Int) ≠ 0) <|
  cond (decide ((IntKind.i64.wrap (x23.1.1 - a1)) < (IntKind.i64.wrap (b2 - x23.1.1))))
  ((rec x23.2 a1 x23.1.1 cC).bind fun x28 =>
  some (.inl (x28, IntKind.i64.wrap (x23.1.1 + (1 : Int)), b2, cC, decide ((IntKind.i64.wrap (Int.tdiv dU (8 : Int))) ≤ (IntKind.i64.wrap (x23.1.1 - a1))), x23.1.2)))
  ((rec x23.2 (IntKind.i64.wrap (x23.1.1 + (1 : Int))) b2 cC).bind fun x31 =>
  some (.inl (x31, a1, x23.1.1, cC, decide ((IntKind.i64.wrap (Int.tdiv dU (8 : Int))) ≤ (IntKind.i64.wrap (b2 - x23.1.1))), x23.1.2))))

noncomputable def gJ (rec : (List Int) → Int → Int → Int → Option (List Int)) (aA : List Int) (a1 : Int) (b2 : Int) (cC : Int) (bW : Bool) (bN : Bool) (dU : Int) (fM : Int) (AS : Int) : Option ((List Int × Int × Int × Int × Bool × Bool) ⊕ ((List Int))) :=
  cond ((bW && bN) && (decide (AS = (1 : Int))))
  ((eK aA a1 b2).bind fun x35 =>
  cond x35.1
  (some (.inr x35.2))
  (gI rec x35.2 a1 b2 cC bW bN dU fM))
  (gI rec aA a1 b2 cC bW bN dU fM)

noncomputable def gG (rec : (List Int) → Int → Int → Int → Option (List Int)) (aA : List Int) (a1 : Int) (b2 : Int) (cC : Int) (bW : Bool) (bN : Bool) (dU : Int) : Option ((List Int × Int × Int × Int × Bool × Bool) ⊕ ((List Int))) :=
  (gU aA a1 b2).bind fun x9 =>
  cond (decide (x9.2 = (2 : Int)))
  ((gP aA a1 b2).bind fun x40 =>
  gJ rec x40 a1 b2 cC bW bN dU (IntKind.i64.wrap ((IntKind.i64.wrap (b2 - (1 : Int))) - (IntKind.i64.wrap (x9.1 - a1)))) (1 : Int))
  (gJ rec aA a1 b2 cC bW bN dU x9.1 x9.2)

noncomputable def eC (rec : (List Int) → Int → Int → Int → Option (List Int))  (aA : List Int) (a1 : Int) (b2 : Int) (cC : Int) (bW : Bool) (bN : Bool) : Option ((List Int × Int × Int × Int × Bool × Bool) ⊕ ((List Int))) :=
  cond (decide ((IntKind.i64.wrap (b2 - a1)) ≤ (12 : Int)))
  ((gE aA a1 b2).bind fun x2 =>
  some (.inr x2))
  (cond (decide (cC = (0 : Int)))
  ((iW aA a1 b2).bind fun x6 =>
  some (.inr x6))
  (cond (!bW)
  ((gC aA a1 b2).bind fun x44 =>
  gG rec x44 a1 b2 (IntKind.i64.wrap (cC - (1 : Int))) bW bN (IntKind.i64.wrap (b2 - a1)))
  (gG rec aA a1 b2 cC bW bN (IntKind.i64.wrap (b2 - a1)))))

noncomputable def kF (rec : (List Int) → Int → Int → Int → Option (List Int)) (aA : List Int) (a1 : Int) (b2 : Int) (cC : Int) (bW : Bool) (bN : Bool) : Option (List Int) :=
  (lp (fun s => eC rec s.1 s.2.1 s.2.2.1 s.2.2.2.1 s.2.2.2.2.1 s.2.2.2.2.2) (aA, a1, b2, cC, bW, bN)).bind (fun rr => some rr)

noncomputable def fN (rec : (List Int) → Int → Int → Int → Option (List Int)) (aA : (List Int)) (a1 : Int) (b2 : Int) (cC : Int) : Option (List Int) :=
  kF rec aA a1 b2 cC true true

noncomputable def dD  : Nat → (List Int) → Int → Int → Int → Option (List Int)
  | 0 => fun _ _ _ _ => none
  | k + 1 => fN (dD k)

noncomputable def iZ (aA : (List Int)) (a1 : Int) (b2 : Int) (cC : Int) : Option (List Int) := NL (fun k => dD k aA a1 b2 cC)

noncomputable def jV (x0 : (List Int)) : Option (List Int) :=
  (jO (IntKind.u64.wrap ((List.length x0 : Nat) : Int))).bind fun x1 =>
  (iZ x0 (0 : Int) ((List.length x0 : Nat) : Int) x1).bind fun x4 =>
  some x4

noncomputable def vN (out9 : List Int) : Option ((List Int) × Int) :=
  (jV out9).bind fun x16 =>
  some (x16, (0 : Int))

noncomputable def pS (t50 : (List (Int × Int))) (out9 : List Int) (mk : Int) (mv : Int) : Option (List Int) :=
  aZ ((List.length out9 + List.length ([mk])) * 8 ≤ 140737488355328 ∧ List.length out9 + List.length ([mk]) ≤ 9223372036854775807) <|
  some (out9 ++ ([mk]))

noncomputable def wB (t50 : (List (Int × Int))) (out9 : List Int) : Option ((List Int) × Int) :=
  vN out9

noncomputable def vG (out9 : List Int) (t50 : (List (Int × Int))) : Option ((List Int) × Int) :=
  wZ t50 (fun q => (oZ (fun (s : List Int) (x : Int × Int) => pS t50 s x.1 x.2) out9 q).bind (fun (s : List Int) => wB t50 s))

noncomputable def sK (jN : (List (Int × Int))) : Option ((List Int) × Int) :=
  aZ (0 ≤ ((List.length jN : Nat) : Int) ∧ (8 : Int) * ((List.length jN : Nat) : Int) ≤ 281474976710656 ∧ ((List.length jN : Nat) : Int) ≤ 9223372036854775807) <|
  vG ([] : List Int) jN

noncomputable def pM (cE : Int) (jN : (List (Int × Int))) (t32 : (List aK)) (t33 : Int) (t34 : Int) : Option (((List (Int × Int)) × Int) ⊕ ((List (Int × Int)))) :=
  some (.inl (jN, IntKind.i64.wrap (t34 + (1 : Int))))

noncomputable def mN (cE : Int) (t32 : (List aK)) (t33 : Int) (jN : (List (Int × Int))) (t34 : Int) : Option (((List (Int × Int)) × Int) ⊕ ((List (Int × Int)))) :=
  cond (decide (t34 < t33))
  (aZ (0 ≤ t34 ∧ t34 < ((List.length t32 : Nat) : Int)) <|
  cond (decide (cE < ((List.getD t32 (Int.toNat t34) default).At)))
  (pM cE (qH jN ((List.getD t32 (Int.toNat t34) default).At) (1 : Int)) t32 t33 t34)
  (pM cE jN t32 t33 t34))
  (some (.inr jN))

noncomputable def wH (cE : Int) (jN : (List (Int × Int))) (t32 : (List aK)) (t33 : Int) (t34 : Int) : Option ((List Int) × Int) :=
  (lp (fun s => mN cE t32 t33 s.1 s.2) (jN, t34)).bind (fun rr => sK rr)

noncomputable def rK (l0 : (List aK)) (cE : Int) : Option ((List Int) × Int) :=
  (tC l0).bind fun x1 =>
  cond (!x1)
  (some ([], (2 : Int)))
  ((sH l0).bind fun x5 =>
  cond (!x5)
  (some ([], (20 : Int)))
  (cond ((decide (cE < (0 : Int))) || (decide ((1125899906842624 : Int) < cE)))
  (some ([], (13 : Int)))
  (cond (decide (cE = (1125899906842624 : Int)))
  (some ([], (0 : Int)))
  (wH cE (qH ([] : (List (Int × Int))) cE (1 : Int)) l0 ((List.length l0 : Nat) : Int) (0 : Int)))))

noncomputable def uJ (l0 : (List aK)) : Option ((List aK)) :=
  some l0

noncomputable def kC {σ : Type} (fZ : σ → (List aB) → (List aI) → Option (σ × Bool)) (t9c0 : (List aK)) (sg : σ) (t10 : (List aB)) (t11 : (List aI)) : Option ((σ) ⊕ (σ)) :=
  (fZ sg t10 t11).bind fun x7 =>
  cond (!x7.2)
  (some (.inr x7.1))
  (some (.inl x7.1))

noncomputable def oN {σ : Type} (fZ : σ → (List aB) → (List aI) → Option (σ × Bool)) (sg : σ) (t9c0 : (List aK)) : Option σ :=
  (mV (fun st t10 t11 => rnd (fun (s : σ) => kC fZ t9c0 s t10 t11) st) t9c0 (.inl sg)).bind (Sum.elim (fun (s : σ) =>
  (some s))
  (fun (s : σ) =>
  (some s)))

noncomputable def nB {σ : Type} (fZ : σ → (List aB) → (List aI) → Option (σ × Bool)) (t1 : (List aK)) (sg0 : σ) : Option σ :=
  (tC t1).bind fun x1 =>
  cond (!x1)
  (some sg0)
  ((rJ t1).bind fun x5 =>
  oN fZ sg0 x5)

noncomputable def tG (v5 : Int) : Option Int :=
  some v5

noncomputable def mL (t1 : Int) (t11 : (List aI)) (t12 : Int) (v5 : Int) (t13 : Int) : Option ((Int × Int) ⊕ (Int)) :=
  cond (decide (t13 < t12))
  (aZ (0 ≤ t13 ∧ t13 < ((List.length t11 : Nat) : Int)) <|
  cond (decide (t1 < ((List.getD t11 (Int.toNat t13) default).At)))
  (some (.inr v5))
  (some (.inl (IntKind.i64.wrap (v5 + ((List.getD t11 (Int.toNat t13) default).Net)), IntKind.i64.wrap (t13 + (1 : Int))))))
  (some (.inr v5))

noncomputable def yD (t1 : Int) (v5 : Int) (t11 : (List aI)) (t12 : Int) (t13 : Int) : Option Int :=
  (lp (fun s => mL t1 t11 t12 s.1 s.2) (v5, t13)).bind (fun rr => tG rr)

noncomputable def xK (f0 : (List aI)) (t1 : Int) : Option Int :=
  (nE f0).bind fun x1 =>
  cond (!x1)
  (some (0 : Int))
  (yD t1 (0 : Int) f0 ((List.length f0 : Nat) : Int) (0 : Int))

noncomputable def gM (s0 : (List aB)) : Option (List aB) :=
  aZ (List.length s0 * 32 ≤ 140737488355328 ∧ List.length s0 ≤ 9223372036854775807) <|
  some s0

noncomputable def sE (out4 : List bM) : Option (List bM) :=
  some out4

noncomputable def mU (t0 : Int) (out4 : List bM) (t9 : (List bY)) (t10 : Int) (t11 : Int) : Option ((List bM × Int) ⊕ ((List bM))) :=
  some (.inl (out4, IntKind.i64.wrap (t11 + (1 : Int))))

noncomputable def lJ (t0 : Int) (t9 : (List bY)) (t10 : Int) (out4 : List bM) (t11 : Int) : Option ((List bM × Int) ⊕ ((List bM))) :=
  cond (decide (t11 < t10))
  (aZ (0 ≤ t11 ∧ t11 < ((List.length t9 : Nat) : Int)) <|
  (xK ((List.getD t9 (Int.toNat t11) default).jumps) t0).bind fun x9 =>
  cond (decide ((0 : Int) < x9))
  ((gM ((List.getD t9 (Int.toNat t11) default).row)).bind fun x16 =>
  aZ ((List.length out4 + List.length ([bM.mk x16 x9])) * 32 ≤ 140737488355328 ∧ List.length out4 + List.length ([bM.mk x16 x9]) ≤ 9223372036854775807) <|
  mU t0 (out4 ++ ([bM.mk x16 x9])) t9 t10 t11)
  (mU t0 out4 t9 t10 t11))
  (some (.inr out4))

noncomputable def sD (t0 : Int) (out4 : List bM) (t9 : (List bY)) (t10 : Int) (t11 : Int) : Option (List bM) :=
  (lp (fun s => lJ t0 t9 t10 s.1 s.2) (out4, t11)).bind (fun rr => sE rr)

noncomputable def qC (t0 : Int) (t1 : (List bY)) : Option (List bM) :=
  sD t0 ([] : List bM) t1 ((List.length t1 : Nat) : Int) (0 : Int)

noncomputable def lU (bZ : (List Int)) (tK : (List aK)) (all8 : List bY) (t29 : (List aB)) (t30 : (List aI)) : Option ((List bY) ⊕ (List bY)) :=
  aZ ((List.length all8 + List.length ([bY.mk t29 t30])) * 48 ≤ 140737488355328 ∧ List.length all8 + List.length ([bY.mk t29 t30]) ≤ 9223372036854775807) <|
  some (.inl (all8 ++ ([bY.mk t29 t30])))

noncomputable def uM (eA : List bC) : Option ((List bC) × Int) :=
  some (eA, (0 : Int))

noncomputable def qR (bZ : (List Int)) (fJ : (List bY)) (eA : List bC) (t39 : (List Int)) (t40 : Int) (t41 : Int) : Option ((List bC × Int) ⊕ ((List bC) ⊕ ((List bC) × Int))) :=
  some (.inl (eA, IntKind.i64.wrap (t41 + (1 : Int))))

noncomputable def qT (bZ : (List Int)) (fJ : (List bY)) (eA : List bC) (t14 : Int) (pI : (List bM)) (wI : Int) (t39 : (List Int)) (t40 : Int) (t41 : Int) : Option ((List bC × Int) ⊕ ((List bC) ⊕ ((List bC) × Int))) :=
  aZ ((List.length eA + List.length ([bC.mk (dK.mk t14 wI) pI])) * 40 ≤ 140737488355328 ∧ List.length eA + List.length ([bC.mk (dK.mk t14 wI) pI]) ≤ 9223372036854775807) <|
  qR bZ fJ (eA ++ ([bC.mk (dK.mk t14 wI) pI])) t39 t40 t41

noncomputable def lV (bZ : (List Int)) (fJ : (List bY)) (t39 : (List Int)) (t40 : Int) (eA : List bC) (t41 : Int) : Option ((List bC × Int) ⊕ ((List bC) ⊕ ((List bC) × Int))) :=
  cond (decide (t41 < t40))
  (aZ (0 ≤ t41 ∧ t41 < ((List.length t39 : Nat) : Int)) <|
  (qC (List.getD t39 (Int.toNat t41) default) fJ).bind fun x20 =>
  cond (decide (((List.length x20 : Nat) : Int) = (0 : Int)))
  (qR bZ fJ eA t39 t40 t41)
  (cond (decide (((List.length eA : Nat) : Int) = (1024 : Int)))
  (some (.inr (.inr ([], (7 : Int)))))
  (cond (decide ((IntKind.i64.wrap (t41 + (1 : Int))) < ((List.length bZ : Nat) : Int)))
  (aZ (0 ≤ (IntKind.i64.wrap (t41 + (1 : Int))) ∧ (IntKind.i64.wrap (t41 + (1 : Int))) < ((List.length bZ : Nat) : Int)) <|
  qT bZ fJ eA (List.getD t39 (Int.toNat t41) default) x20 (List.getD bZ (Int.toNat (IntKind.i64.wrap (t41 + (1 : Int)))) default) t39 t40 t41)
  (qT bZ fJ eA (List.getD t39 (Int.toNat t41) default) x20 (1125899906842624 : Int) t39 t40 t41))))
  (some (.inr (.inl eA)))

noncomputable def qP (bZ : (List Int)) (fJ : (List bY)) (eA : List bC) (t39 : (List Int)) (t40 : Int) (t41 : Int) : Option ((List bC) × Int) :=
  (lp (fun s => lV bZ fJ t39 t40 s.1 s.2) (eA, t41)).bind (Sum.elim (fun rr => uM rr) (fun rr => some (rr.1, rr.2)))

noncomputable def uN (bZ : (List Int)) (all8 : List bY) (tK : (List aK)) : Option ((List bC) × Int) :=
  (nB (fun st t29 t30 => rnd (fun (s : List bY) => lU bZ tK s t29 t30) st) tK (.inl all8)).bind (Sum.elim (fun (s : List bY) =>
  (qP bZ s ([] : List bC) bZ ((List.length bZ : Nat) : Int) (0 : Int)))
  (fun (s : List bY) =>
  (none)))

noncomputable def pP (l0 : (List aK)) (cE : Int) : Option ((List bC) × Int) :=
  (rK l0 cE).bind fun x1 =>
  cond (!decide (x1.2 = (0 : Int)))
  (some ([], x1.2))
  ((uJ l0).bind fun x7 =>
  uN x1.1 ([] : List bY) x7)

noncomputable def pQ  : Option Bool :=
  (rK ([aK.mk ([aB.mk (1 : Int) (1 : Int) ByteArray.empty]) (2 : Int) (1 : Int), aK.mk ([aB.mk (1 : Int) (1 : Int) ByteArray.empty]) (9 : Int) (-1 : Int), aK.mk ([aB.mk (1 : Int) (2 : Int) ByteArray.empty]) (5 : Int) (1 : Int), aK.mk ([aB.mk (1 : Int) (2 : Int) ByteArray.empty]) (7 : Int) (-1 : Int)]) (0 : Int)).bind fun x1 =>
  (pP ([aK.mk ([aB.mk (1 : Int) (1 : Int) ByteArray.empty]) (2 : Int) (1 : Int), aK.mk ([aB.mk (1 : Int) (1 : Int) ByteArray.empty]) (9 : Int) (-1 : Int), aK.mk ([aB.mk (1 : Int) (2 : Int) ByteArray.empty]) (5 : Int) (1 : Int), aK.mk ([aB.mk (1 : Int) (2 : Int) ByteArray.empty]) (7 : Int) (-1 : Int)]) (0 : Int)).bind fun x4 =>
  aZ ((((((decide (x1.2 = (0 : Int))) && (decide (x4.2 = (0 : Int)))) && (decide (((List.length x1.1 : Nat) : Int) = (5 : Int))))) = true → 0 ≤ (2 : Int) ∧ (2 : Int) < ((List.length x1.1 : Nat) : Int))) <|
  aZ ((((((((decide (x1.2 = (0 : Int))) && (decide (x4.2 = (0 : Int)))) && (decide (((List.length x1.1 : Nat) : Int) = (5 : Int)))) && (decide ((List.getD x1.1 (Int.toNat (2 : Int)) default) = (5 : Int)))) && (decide (((List.length x4.1 : Nat) : Int) = (3 : Int))))) = true → 0 ≤ (1 : Int) ∧ (1 : Int) < ((List.length x4.1 : Nat) : Int))) <|
  aZ (((((((((decide (x1.2 = (0 : Int))) && (decide (x4.2 = (0 : Int)))) && (decide (((List.length x1.1 : Nat) : Int) = (5 : Int)))) && (decide ((List.getD x1.1 (Int.toNat (2 : Int)) default) = (5 : Int)))) && (decide (((List.length x4.1 : Nat) : Int) = (3 : Int)))) && ((decide ((((List.getD x4.1 (Int.toNat (1 : Int)) default).Span).From) = ((dK.mk (5 : Int) (7 : Int)).From))) && ((decide ((((List.getD x4.1 (Int.toNat (1 : Int)) default).Span).To) = ((dK.mk (5 : Int) (7 : Int)).To))) && true)))) = true → 0 ≤ (1 : Int) ∧ (1 : Int) < ((List.length x4.1 : Nat) : Int))) <|
  some (((((((decide (x1.2 = (0 : Int))) && (decide (x4.2 = (0 : Int)))) && (decide (((List.length x1.1 : Nat) : Int) = (5 : Int)))) && (decide ((List.getD x1.1 (Int.toNat (2 : Int)) default) = (5 : Int)))) && (decide (((List.length x4.1 : Nat) : Int) = (3 : Int)))) && ((decide ((((List.getD x4.1 (Int.toNat (1 : Int)) default).Span).From) = ((dK.mk (5 : Int) (7 : Int)).From))) && ((decide ((((List.getD x4.1 (Int.toNat (1 : Int)) default).Span).To) = ((dK.mk (5 : Int) (7 : Int)).To))) && true))) && (decide (((List.length ((List.getD x4.1 (Int.toNat (1 : Int)) default).Rows) : Nat) : Int) = (2 : Int))))

noncomputable def oV (v0 : aB) : Option Bool :=
  cond (decide (v0.Kind = (1 : Int)))
  (some (mI v0.Text (⟨#[]⟩ : ByteArray)))
  (some (((decide (v0.Kind = (2 : Int))) && (decide (v0.Num = (0 : Int)))) && (decide (((ByteArray.size v0.Text : Nat) : Int) ≤ (64 : Int)))))

noncomputable def pW (r0 : (List aB)) : Option Bool :=
  some (decide (((List.length r0 : Nat) : Int) ≤ (8 : Int)))

noncomputable def nP (r0 : (List aB)) (i3 : Int) : Option ((Int) ⊕ (Unit ⊕ Bool)) :=
  cond ((decide (i3 < ((List.length r0 : Nat) : Int))) && (decide (i3 < (9 : Int))))
  (aZ (0 ≤ i3 ∧ i3 < ((List.length r0 : Nat) : Int)) <|
  (oV (List.getD r0 (Int.toNat i3) default)).bind fun x3 =>
  cond (!x3)
  (some (.inr (.inr false)))
  (some (.inl (IntKind.i64.wrap (i3 + (1 : Int))))))
  (some (.inr (.inl ())))

noncomputable def wK (r0 : (List aB)) (i3 : Int) : Option Bool :=
  (lp (fun s => nP r0 s) i3).bind (Sum.elim (fun rr => pW r0) (fun rr => some rr))

noncomputable def oS (r0 : (List aB)) : Option Bool :=
  wK r0 (0 : Int)

noncomputable def sS  : Option Bool :=
  some true

noncomputable def kR (f0 : (List aI)) (i3 : Int) : Option ((Int) ⊕ (Unit ⊕ Bool)) :=
  cond (decide (i3 < ((List.length f0 : Nat) : Int)))
  (aZ (0 ≤ i3 ∧ i3 < ((List.length f0 : Nat) : Int)) <|
  aZ ((((!(decide (((List.getD f0 (Int.toNat i3) default).At) < (-1 : Int))))) = true → 0 ≤ i3 ∧ i3 < ((List.length f0 : Nat) : Int))) <|
  aZ ((((!((decide (((List.getD f0 (Int.toNat i3) default).At) < (-1 : Int))) || (decide ((1125899906842624 : Int) ≤ ((List.getD f0 (Int.toNat i3) default).At)))))) = true → 0 ≤ i3 ∧ i3 < ((List.length f0 : Nat) : Int))) <|
  aZ ((((!(((decide (((List.getD f0 (Int.toNat i3) default).At) < (-1 : Int))) || (decide ((1125899906842624 : Int) ≤ ((List.getD f0 (Int.toNat i3) default).At)))) || (decide (((List.getD f0 (Int.toNat i3) default).Net) = (0 : Int)))))) = true → 0 ≤ i3 ∧ i3 < ((List.length f0 : Nat) : Int))) <|
  aZ ((((!((((decide (((List.getD f0 (Int.toNat i3) default).At) < (-1 : Int))) || (decide ((1125899906842624 : Int) ≤ ((List.getD f0 (Int.toNat i3) default).At)))) || (decide (((List.getD f0 (Int.toNat i3) default).Net) = (0 : Int)))) || (decide ((1048576 : Int) < ((List.getD f0 (Int.toNat i3) default).Net)))))) = true → 0 ≤ i3 ∧ i3 < ((List.length f0 : Nat) : Int))) <|
  cond (((((decide (((List.getD f0 (Int.toNat i3) default).At) < (-1 : Int))) || (decide ((1125899906842624 : Int) ≤ ((List.getD f0 (Int.toNat i3) default).At)))) || (decide (((List.getD f0 (Int.toNat i3) default).Net) = (0 : Int)))) || (decide ((1048576 : Int) < ((List.getD f0 (Int.toNat i3) default).Net)))) || (decide (((List.getD f0 (Int.toNat i3) default).Net) < (-1048576 : Int))))
  (some (.inr (.inr false)))
  (aZ ((((decide ((0 : Int) < i3))) = true → 0 ≤ i3 ∧ i3 < ((List.length f0 : Nat) : Int))) <|
  aZ ((((decide ((0 : Int) < i3))) = true → 0 ≤ (IntKind.i64.wrap (i3 - (1 : Int))) ∧ (IntKind.i64.wrap (i3 - (1 : Int))) < ((List.length f0 : Nat) : Int))) <|
  cond ((decide ((0 : Int) < i3)) && (decide (((List.getD f0 (Int.toNat i3) default).At) ≤ ((List.getD f0 (Int.toNat (IntKind.i64.wrap (i3 - (1 : Int)))) default).At))))
  (some (.inr (.inr false)))
  (some (.inl (IntKind.i64.wrap (i3 + (1 : Int)))))))
  (some (.inr (.inl ())))

noncomputable def vX (f0 : (List aI)) (i3 : Int) : Option Bool :=
  (lp (fun s => kR f0 s) i3).bind (Sum.elim (fun rr => sS ) (fun rr => some rr))

noncomputable def oW (f0 : (List aI)) : Option Bool :=
  cond (decide ((1024 : Int) < ((List.length f0 : Nat) : Int)))
  (some false)
  (vX f0 (0 : Int))

noncomputable def nR (a2 : aB) (b3 : aB) : Option Int :=
  cond (!decide (((ByteArray.size a2.Text : Nat) : Int) = ((ByteArray.size b3.Text : Nat) : Int)))
  (cond (decide (((ByteArray.size a2.Text : Nat) : Int) < ((ByteArray.size b3.Text : Nat) : Int)))
  (some (-1 : Int))
  (some (1 : Int)))
  (some (0 : Int))

noncomputable def iH (a2 : aB) (b3 : aB) (i5 : Int) : Option ((Int) ⊕ (Unit ⊕ Int)) :=
  cond ((decide (i5 < ((ByteArray.size a2.Text : Nat) : Int))) && (decide (i5 < ((ByteArray.size b3.Text : Nat) : Int))))
  (aZ (0 ≤ i5 ∧ i5 < ((ByteArray.size a2.Text : Nat) : Int)) <|
  aZ (0 ≤ i5 ∧ i5 < ((ByteArray.size b3.Text : Nat) : Int)) <|
  cond (!decide ((bt a2.Text i5) = (bt b3.Text i5)))
  (aZ (0 ≤ i5 ∧ i5 < ((ByteArray.size a2.Text : Nat) : Int)) <|
  aZ (0 ≤ i5 ∧ i5 < ((ByteArray.size b3.Text : Nat) : Int)) <|
  cond (decide ((bt a2.Text i5) < (bt b3.Text i5)))
  (some (.inr (.inr (-1 : Int))))
  (some (.inr (.inr (1 : Int)))))
  (some (.inl (IntKind.i64.wrap (i5 + (1 : Int))))))
  (some (.inr (.inl ())))

noncomputable def qN (a2 : aB) (b3 : aB) (i5 : Int) : Option Int :=
  (lp (fun s => iH a2 b3 s) i5).bind (Sum.elim (fun rr => nR a2 b3) (fun rr => some rr))

noncomputable def oP (a0 : aB) (b1 : aB) : Option Int :=
  (oV a0).bind fun x1 =>
  (dA (!(!x1)) (oV b1)).bind fun x4 =>
  cond ((!x1) || (!x4))
  (some (0 : Int))
  (cond (!decide (a0.Kind = b1.Kind))
  (cond (decide (a0.Kind = (1 : Int)))
  (some (-1 : Int))
  (some (1 : Int)))
  (cond (!decide (a0.Num = b1.Num))
  (cond (decide (a0.Num < b1.Num))
  (some (-1 : Int))
  (some (1 : Int)))
  (qN a0 b1 (0 : Int))))

noncomputable def nM (a0 : (List aB)) (b1 : (List aB)) : Option Int :=
  cond (decide (((List.length a0 : Nat) : Int) < ((List.length b1 : Nat) : Int)))
  (some (-1 : Int))
  (cond (decide (((List.length b1 : Nat) : Int) < ((List.length a0 : Nat) : Int)))
  (some (1 : Int))
  (some (0 : Int)))

noncomputable def iG (a0 : (List aB)) (b1 : (List aB)) (i5 : Int) : Option ((Int) ⊕ (Unit ⊕ Int)) :=
  cond ((decide (i5 < ((List.length a0 : Nat) : Int))) && (decide (i5 < ((List.length b1 : Nat) : Int))))
  (aZ (0 ≤ i5 ∧ i5 < ((List.length a0 : Nat) : Int)) <|
  aZ (0 ≤ i5 ∧ i5 < ((List.length b1 : Nat) : Int)) <|
  (oP (List.getD a0 (Int.toNat i5) default) (List.getD b1 (Int.toNat i5) default)).bind fun x13 =>
  cond (!decide (x13 = (0 : Int)))
  (some (.inr (.inr x13)))
  (some (.inl (IntKind.i64.wrap (i5 + (1 : Int))))))
  (some (.inr (.inl ())))

noncomputable def qG (a0 : (List aB)) (b1 : (List aB)) (i5 : Int) : Option Int :=
  (lp (fun s => iG a0 b1 s) i5).bind (Sum.elim (fun rr => nM a0 b1) (fun rr => some rr))

noncomputable def mS (a0 : (List aB)) (b1 : (List aB)) : Option Int :=
  (oS a0).bind fun x1 =>
  (dA (!(!x1)) (oS b1)).bind fun x4 =>
  cond ((!x1) || (!x4))
  (some (0 : Int))
  (qG a0 b1 (0 : Int))

noncomputable def qS  : Option Bool :=
  some true

noncomputable def oE (a0 : (List aB)) (b1 : (List aB)) (i5 : Int) : Option ((Int) ⊕ (Unit ⊕ Bool)) :=
  cond (decide (i5 < ((List.length a0 : Nat) : Int)))
  (aZ (0 ≤ i5 ∧ i5 < ((List.length a0 : Nat) : Int)) <|
  aZ (0 ≤ i5 ∧ i5 < ((List.length b1 : Nat) : Int)) <|
  cond (!((decide (((List.getD a0 (Int.toNat i5) default).Kind) = ((List.getD b1 (Int.toNat i5) default).Kind))) && ((decide (((List.getD a0 (Int.toNat i5) default).Num) = ((List.getD b1 (Int.toNat i5) default).Num))) && ((mI ((List.getD a0 (Int.toNat i5) default).Text) ((List.getD b1 (Int.toNat i5) default).Text)) && true))))
  (some (.inr (.inr false)))
  (some (.inl (IntKind.i64.wrap (i5 + (1 : Int))))))
  (some (.inr (.inl ())))

noncomputable def uR (a0 : (List aB)) (b1 : (List aB)) (i5 : Int) : Option Bool :=
  (lp (fun s => oE a0 b1 s) i5).bind (Sum.elim (fun rr => qS ) (fun rr => some rr))

noncomputable def nT (a0 : (List aB)) (b1 : (List aB)) : Option Bool :=
  cond (!decide (((List.length a0 : Nat) : Int) = ((List.length b1 : Nat) : Int)))
  (some false)
  (uR a0 b1 (0 : Int))

noncomputable def uQ (bH : List (List aB)) : Option (List (List aB)) :=
  some bH

noncomputable def rH (l0 : (List aK)) (bH : List (List aB)) (i4 : Int) : Option ((List (List aB) × Int) ⊕ ((List (List aB)))) :=
  some (.inl (bH, IntKind.i64.wrap (i4 + (1 : Int))))

noncomputable def qU (l0 : (List aK)) (bH : List (List aB)) (i4 : Int) (at5 : Int) : Option ((List (List aB) × Int) ⊕ ((List (List aB)))) :=
  aZ ((((decide (at5 < ((List.length bH : Nat) : Int)))) = true → 0 ≤ at5 ∧ at5 < ((List.length bH : Nat) : Int))) <|
  aZ ((((decide (at5 < ((List.length bH : Nat) : Int)))) = true → 0 ≤ i4 ∧ i4 < ((List.length l0 : Nat) : Int))) <|
  (dA (decide (at5 < ((List.length bH : Nat) : Int))) (nT (List.getD bH (Int.toNat at5) default) ((List.getD l0 (Int.toNat i4) default).Row))).bind fun x10 =>
  cond ((decide (at5 < ((List.length bH : Nat) : Int))) && x10)
  (rH l0 bH i4)
  (aZ (0 ≤ at5 ∧ at5 ≤ ((List.length bH : Nat) : Int)) <|
  aZ (List.length (List.take (Int.toNat at5) bH) * 24 ≤ 140737488355328 ∧ List.length (List.take (Int.toNat at5) bH) ≤ 9223372036854775807) <|
  aZ (0 ≤ i4 ∧ i4 < ((List.length l0 : Nat) : Int)) <|
  aZ ((List.length (List.take (Int.toNat at5) bH) + List.length ([(List.getD l0 (Int.toNat i4) default).Row])) * 24 ≤ 140737488355328 ∧ List.length (List.take (Int.toNat at5) bH) + List.length ([(List.getD l0 (Int.toNat i4) default).Row]) ≤ 9223372036854775807) <|
  aZ (0 ≤ at5 ∧ at5 ≤ ((List.length bH : Nat) : Int)) <|
  aZ ((List.length ((List.take (Int.toNat at5) bH) ++ ([(List.getD l0 (Int.toNat i4) default).Row])) + List.length (List.drop (Int.toNat at5) bH)) * 24 ≤ 140737488355328 ∧ List.length ((List.take (Int.toNat at5) bH) ++ ([(List.getD l0 (Int.toNat i4) default).Row])) + List.length (List.drop (Int.toNat at5) bH) ≤ 9223372036854775807) <|
  rH l0 (((List.take (Int.toNat at5) bH) ++ ([(List.getD l0 (Int.toNat i4) default).Row])) ++ (List.drop (Int.toNat at5) bH)) i4)

noncomputable def kW (l0 : (List aK)) (i4 : Int) (bH : List (List aB)) (at5 : Int) : Option ((List (List aB) × Int) ⊕ ((List (List aB) × Int))) :=
  aZ ((((decide (at5 < ((List.length bH : Nat) : Int)))) = true → 0 ≤ at5 ∧ at5 < ((List.length bH : Nat) : Int))) <|
  aZ ((((decide (at5 < ((List.length bH : Nat) : Int)))) = true → 0 ≤ i4 ∧ i4 < ((List.length l0 : Nat) : Int))) <|
  (dA (decide (at5 < ((List.length bH : Nat) : Int))) (mS (List.getD bH (Int.toNat at5) default) ((List.getD l0 (Int.toNat i4) default).Row))).bind fun x27 =>
  cond ((decide (at5 < ((List.length bH : Nat) : Int))) && (decide (x27 < (0 : Int))))
  (some (.inl (bH, IntKind.i64.wrap (at5 + (1 : Int)))))
  (some (.inr (bH, at5)))

noncomputable def uF (l0 : (List aK)) (bH : List (List aB)) (i4 : Int) (at5 : Int) : Option ((List (List aB) × Int) ⊕ ((List (List aB)))) :=
  (lp (fun s => kW l0 i4 s.1 s.2) (bH, at5)).bind (fun rr => qU l0 rr.1 i4 rr.2)

noncomputable def lQ (l0 : (List aK)) (bH : List (List aB)) (i4 : Int) : Option ((List (List aB) × Int) ⊕ ((List (List aB)))) :=
  cond (decide (i4 < ((List.length l0 : Nat) : Int)))
  (uF l0 bH i4 (0 : Int))
  (some (.inr bH))

noncomputable def uO (l0 : (List aK)) (bH : List (List aB)) (i4 : Int) : Option (List (List aB)) :=
  (lp (fun s => lQ l0 s.1 s.2) (bH, i4)).bind (fun rr => uQ rr)

noncomputable def nU (l0 : (List aK)) : Option (List (List aB)) :=
  uO l0 ([] : List (List aB)) (0 : Int)

noncomputable def tO (f5 : List aI) : Option (List aI) :=
  some f5

noncomputable def qB (l0 : (List aK)) (r1 : (List aB)) (f5 : List aI) (i6 : Int) : Option ((List aI × Int) ⊕ ((List aI))) :=
  some (.inl (f5, IntKind.i64.wrap (i6 + (1 : Int))))

noncomputable def lA (l0 : (List aK)) (r1 : (List aB)) (f5 : List aI) (i6 : Int) : Option ((List aI × Int) ⊕ ((List aI))) :=
  cond (decide (i6 < ((List.length l0 : Nat) : Int)))
  (aZ (0 ≤ i6 ∧ i6 < ((List.length l0 : Nat) : Int)) <|
  (nT ((List.getD l0 (Int.toNat i6) default).Row) r1).bind fun x8 =>
  cond x8
  (aZ (0 ≤ i6 ∧ i6 < ((List.length l0 : Nat) : Int)) <|
  aZ (0 ≤ i6 ∧ i6 < ((List.length l0 : Nat) : Int)) <|
  aZ ((List.length f5 + List.length ([aI.mk ((List.getD l0 (Int.toNat i6) default).At) ((List.getD l0 (Int.toNat i6) default).Net)])) * 16 ≤ 140737488355328 ∧ List.length f5 + List.length ([aI.mk ((List.getD l0 (Int.toNat i6) default).At) ((List.getD l0 (Int.toNat i6) default).Net)]) ≤ 9223372036854775807) <|
  qB l0 r1 (f5 ++ ([aI.mk ((List.getD l0 (Int.toNat i6) default).At) ((List.getD l0 (Int.toNat i6) default).Net)])) i6)
  (qB l0 r1 f5 i6))
  (some (.inr f5))

noncomputable def tM (l0 : (List aK)) (r1 : (List aB)) (f5 : List aI) (i6 : Int) : Option (List aI) :=
  (lp (fun s => lA l0 r1 s.1 s.2) (f5, i6)).bind (fun rr => tO rr)

noncomputable def mY (l0 : (List aK)) (r1 : (List aB)) : Option (List aI) :=
  tM l0 r1 ([] : List aI) (0 : Int)

noncomputable def vZ  : Option Bool :=
  some true

noncomputable def nQ (l0 : (List aK)) (oY : (List (List aB))) (i6 : Int) : Option ((Int) ⊕ (Unit ⊕ Bool)) :=
  cond (decide (i6 < ((List.length oY : Nat) : Int)))
  (aZ (0 ≤ i6 ∧ i6 < ((List.length oY : Nat) : Int)) <|
  (mY l0 (List.getD oY (Int.toNat i6) default)).bind fun x7 =>
  cond (decide ((1024 : Int) < ((List.length x7 : Nat) : Int)))
  (some (.inr (.inr false)))
  (some (.inl (IntKind.i64.wrap (i6 + (1 : Int))))))
  (some (.inr (.inl ())))

noncomputable def wG (l0 : (List aK)) (oY : (List (List aB))) (i6 : Int) : Option Bool :=
  (lp (fun s => nQ l0 oY s) i6).bind (Sum.elim (fun rr => vZ ) (fun rr => some rr))

noncomputable def sR (l0 : (List aK)) : Option Bool :=
  (nU l0).bind fun x2 =>
  wG l0 x2 (0 : Int)

noncomputable def pG (l0 : (List aK)) (i3 : Int) : Option ((Int) ⊕ (Unit ⊕ Bool)) :=
  some (.inl (IntKind.i64.wrap (i3 + (1 : Int))))

noncomputable def mO (l0 : (List aK)) (i3 : Int) : Option ((Int) ⊕ (Unit ⊕ Bool)) :=
  cond (decide (i3 < ((List.length l0 : Nat) : Int)))
  (aZ (0 ≤ i3 ∧ i3 < ((List.length l0 : Nat) : Int)) <|
  (oS ((List.getD l0 (Int.toNat i3) default).Row)).bind fun x13 =>
  aZ ((((!(!x13))) = true → 0 ≤ i3 ∧ i3 < ((List.length l0 : Nat) : Int))) <|
  aZ ((((!(!x13))) = true → 0 ≤ i3 ∧ i3 < ((List.length l0 : Nat) : Int))) <|
  (dA (!(!x13)) (oW ([aI.mk ((List.getD l0 (Int.toNat i3) default).At) ((List.getD l0 (Int.toNat i3) default).Net)]))).bind fun x17 =>
  cond ((!x13) || (!x17))
  (some (.inr (.inr false)))
  (cond (decide (i3 = (0 : Int)))
  (pG l0 i3)
  (aZ (0 ≤ (IntKind.i64.wrap (i3 - (1 : Int))) ∧ (IntKind.i64.wrap (i3 - (1 : Int))) < ((List.length l0 : Nat) : Int)) <|
  aZ (0 ≤ i3 ∧ i3 < ((List.length l0 : Nat) : Int)) <|
  (mS ((List.getD l0 (Int.toNat (IntKind.i64.wrap (i3 - (1 : Int)))) default).Row) ((List.getD l0 (Int.toNat i3) default).Row)).bind fun x24 =>
  aZ ((((decide (x24 = (0 : Int))) && (!(decide ((0 : Int) < x24)))) = true → 0 ≤ (IntKind.i64.wrap (i3 - (1 : Int))) ∧ (IntKind.i64.wrap (i3 - (1 : Int))) < ((List.length l0 : Nat) : Int))) <|
  aZ ((((decide (x24 = (0 : Int))) && (!(decide ((0 : Int) < x24)))) = true → 0 ≤ i3 ∧ i3 < ((List.length l0 : Nat) : Int))) <|
  cond ((decide ((0 : Int) < x24)) || ((decide (x24 = (0 : Int))) && (decide (((List.getD l0 (Int.toNat i3) default).At) ≤ ((List.getD l0 (Int.toNat (IntKind.i64.wrap (i3 - (1 : Int)))) default).At)))))
  (some (.inr (.inr false)))
  (pG l0 i3))))
  (some (.inr (.inl ())))

noncomputable def wD (l0 : (List aK)) (i3 : Int) : Option Bool :=
  (lp (fun s => mO l0 s) i3).bind (Sum.elim (fun rr => sR l0) (fun rr => some rr))

noncomputable def rN (l0 : (List aK)) : Option Bool :=
  cond (decide ((4096 : Int) < ((List.length l0 : Nat) : Int)))
  (some false)
  (wD l0 (0 : Int))

noncomputable def pZ (v5 : Int) : Option Int :=
  some v5

noncomputable def nK (f0 : (List aI)) (t1 : Int) (v5 : Int) (i6 : Int) : Option ((Int × Int) ⊕ (Int)) :=
  some (.inl (v5, IntKind.i64.wrap (i6 + (1 : Int))))

noncomputable def jI (f0 : (List aI)) (t1 : Int) (v5 : Int) (i6 : Int) : Option ((Int × Int) ⊕ (Int)) :=
  cond (decide (i6 < ((List.length f0 : Nat) : Int)))
  (aZ (0 ≤ i6 ∧ i6 < ((List.length f0 : Nat) : Int)) <|
  cond (decide (((List.getD f0 (Int.toNat i6) default).At) ≤ t1))
  (aZ (0 ≤ i6 ∧ i6 < ((List.length f0 : Nat) : Int)) <|
  nK f0 t1 (IntKind.i64.wrap (v5 + ((List.getD f0 (Int.toNat i6) default).Net))) i6)
  (nK f0 t1 v5 i6))
  (some (.inr v5))

noncomputable def tN (f0 : (List aI)) (t1 : Int) (v5 : Int) (i6 : Int) : Option Int :=
  (lp (fun s => jI f0 t1 s.1 s.2) (v5, i6)).bind (fun rr => pZ rr)

noncomputable def kV (f0 : (List aI)) (t1 : Int) : Option Int :=
  tN f0 t1 (0 : Int) (0 : Int)

noncomputable def pL (m3 : Int) : Option Int :=
  some m3

noncomputable def pX (f0 : (List aI)) (m3 : Int) (i4 : Int) : Option ((Int × Int) ⊕ (Int)) :=
  some (.inl (m3, IntKind.i64.wrap (i4 + (1 : Int))))

noncomputable def lE (f0 : (List aI)) (m3 : Int) (i4 : Int) : Option ((Int × Int) ⊕ (Int)) :=
  cond (decide (i4 < ((List.length f0 : Nat) : Int)))
  (aZ (0 ≤ i4 ∧ i4 < ((List.length f0 : Nat) : Int)) <|
  (kV f0 ((List.getD f0 (Int.toNat i4) default).At)).bind fun x10 =>
  cond (decide (x10 < m3))
  (aZ (0 ≤ i4 ∧ i4 < ((List.length f0 : Nat) : Int)) <|
  (kV f0 ((List.getD f0 (Int.toNat i4) default).At)).bind fun x15 =>
  pX f0 x15 i4)
  (pX f0 m3 i4))
  (some (.inr m3))

noncomputable def tJ (f0 : (List aI)) (m3 : Int) (i4 : Int) : Option Int :=
  (lp (fun s => lE f0 s.1 s.2) (m3, i4)).bind (fun rr => pL rr)

noncomputable def qQ (f0 : (List aI)) : Option Int :=
  (oW f0).bind fun x1 =>
  cond (!x1)
  (some (0 : Int))
  ((kV f0 (-1 : Int)).bind fun x5 =>
  tJ f0 x5 (0 : Int))

noncomputable def tD  : Option Bool :=
  some true

noncomputable def mG (l0 : (List aK)) (bH : (List (List aB))) (i4 : Int) : Option ((Int) ⊕ (Unit ⊕ Bool)) :=
  cond (decide (i4 < ((List.length bH : Nat) : Int)))
  (aZ (0 ≤ i4 ∧ i4 < ((List.length bH : Nat) : Int)) <|
  (mY l0 (List.getD bH (Int.toNat i4) default)).bind fun x10 =>
  (qQ x10).bind fun x13 =>
  cond (decide (x13 < (0 : Int)))
  (some (.inr (.inr false)))
  (some (.inl (IntKind.i64.wrap (i4 + (1 : Int))))))
  (some (.inr (.inl ())))

noncomputable def tB (l0 : (List aK)) (bH : (List (List aB))) (i4 : Int) : Option Bool :=
  (lp (fun s => mG l0 bH s) i4).bind (Sum.elim (fun rr => tD ) (fun rr => some rr))

noncomputable def rF (l0 : (List aK)) : Option Bool :=
  (rN l0).bind fun x1 =>
  cond (!x1)
  (some false)
  ((nU l0).bind fun x5 =>
  tB l0 x5 (0 : Int))

noncomputable def vF (t0 : Int) : Option Bool :=
  some ((decide ((0 : Int) ≤ t0)) && (decide (t0 ≤ (1125899906842624 : Int))))

noncomputable def oF (out5 : List Int) : Option (List Int) :=
  some out5

noncomputable def oC (t1 : Int) (out5 : List Int) (put6 : Bool) : Option (List Int) :=
  cond (!put6)
  (aZ ((List.length out5 + List.length ([t1])) * 8 ≤ 140737488355328 ∧ List.length out5 + List.length ([t1]) ≤ 9223372036854775807) <|
  oF (out5 ++ ([t1])))
  (oF out5)

noncomputable def rG (l0 : (List Int)) (t1 : Int) (out5 : List Int) (put6 : Bool) (i7 : Int) : Option ((List Int × Bool × Int) ⊕ ((List Int × Bool) ⊕ (List Int))) :=
  aZ (0 ≤ i7 ∧ i7 < ((List.length l0 : Nat) : Int)) <|
  aZ ((List.length out5 + List.length ([List.getD l0 (Int.toNat i7) default])) * 8 ≤ 140737488355328 ∧ List.length out5 + List.length ([List.getD l0 (Int.toNat i7) default]) ≤ 9223372036854775807) <|
  some (.inl (out5 ++ ([List.getD l0 (Int.toNat i7) default]), put6, IntKind.i64.wrap (i7 + (1 : Int))))

noncomputable def iV (l0 : (List Int)) (t1 : Int) (out5 : List Int) (put6 : Bool) (i7 : Int) : Option ((List Int × Bool × Int) ⊕ ((List Int × Bool) ⊕ (List Int))) :=
  cond (decide (i7 < ((List.length l0 : Nat) : Int)))
  (aZ (0 ≤ i7 ∧ i7 < ((List.length l0 : Nat) : Int)) <|
  cond (decide ((List.getD l0 (Int.toNat i7) default) = t1))
  (some (.inr (.inr l0)))
  (aZ (0 ≤ i7 ∧ i7 < ((List.length l0 : Nat) : Int)) <|
  cond ((decide (t1 < (List.getD l0 (Int.toNat i7) default))) && (!put6))
  (aZ ((List.length out5 + List.length ([t1])) * 8 ≤ 140737488355328 ∧ List.length out5 + List.length ([t1]) ≤ 9223372036854775807) <|
  rG l0 t1 (out5 ++ ([t1])) true i7)
  (rG l0 t1 out5 put6 i7)))
  (some (.inr (.inl (out5, put6))))

noncomputable def uS (l0 : (List Int)) (t1 : Int) (out5 : List Int) (put6 : Bool) (i7 : Int) : Option (List Int) :=
  (lp (fun s => iV l0 t1 s.1 s.2.1 s.2.2) (out5, put6, i7)).bind (Sum.elim (fun rr => oC t1 rr.1 rr.2) (fun rr => some rr))

noncomputable def sV (l0 : (List Int)) (t1 : Int) : Option (List Int) :=
  uS l0 t1 ([] : List Int) false (0 : Int)

noncomputable def uL (out6 : (List Int)) : Option ((List Int) × Int) :=
  some (out6, (0 : Int))

noncomputable def oG (l0 : (List aK)) (cE : Int) (out6 : (List Int)) (i7 : Int) : Option (((List Int) × Int) ⊕ ((List Int))) :=
  some (.inl (out6, IntKind.i64.wrap (i7 + (1 : Int))))

noncomputable def lR (l0 : (List aK)) (cE : Int) (out6 : (List Int)) (i7 : Int) : Option (((List Int) × Int) ⊕ ((List Int))) :=
  cond (decide (i7 < ((List.length l0 : Nat) : Int)))
  (aZ (0 ≤ i7 ∧ i7 < ((List.length l0 : Nat) : Int)) <|
  cond (decide (cE < ((List.getD l0 (Int.toNat i7) default).At)))
  (aZ (0 ≤ i7 ∧ i7 < ((List.length l0 : Nat) : Int)) <|
  (sV out6 ((List.getD l0 (Int.toNat i7) default).At)).bind fun x18 =>
  oG l0 cE x18 i7)
  (oG l0 cE out6 i7))
  (some (.inr out6))

noncomputable def uP (l0 : (List aK)) (cE : Int) (out6 : (List Int)) (i7 : Int) : Option ((List Int) × Int) :=
  (lp (fun s => lR l0 cE s.1 s.2) (out6, i7)).bind (fun rr => uL rr)

noncomputable def sM (l0 : (List aK)) (cE : Int) : Option ((List Int) × Int) :=
  (rN l0).bind fun x1 =>
  cond (!x1)
  (some ([], (2 : Int)))
  ((rF l0).bind fun x5 =>
  cond (!x5)
  (some ([], (20 : Int)))
  ((vF cE).bind fun x9 =>
  cond (!x9)
  (some ([], (13 : Int)))
  (cond (decide (cE = (1125899906842624 : Int)))
  (some ([], (0 : Int)))
  (uP l0 cE ([cE]) (0 : Int)))))

noncomputable def tI (out5 : List bM) : Option (List bM) :=
  some out5

noncomputable def nI (l0 : (List aK)) (t1 : Int) (out5 : List bM) (jQ : (List (List aB))) (i7 : Int) : Option ((List bM × Int) ⊕ ((List bM))) :=
  some (.inl (out5, IntKind.i64.wrap (i7 + (1 : Int))))

noncomputable def mD (l0 : (List aK)) (t1 : Int) (jQ : (List (List aB))) (out5 : List bM) (i7 : Int) : Option ((List bM × Int) ⊕ ((List bM))) :=
  cond (decide (i7 < ((List.length jQ : Nat) : Int)))
  (aZ (0 ≤ i7 ∧ i7 < ((List.length jQ : Nat) : Int)) <|
  (mY l0 (List.getD jQ (Int.toNat i7) default)).bind fun x11 =>
  (kV x11 t1).bind fun x14 =>
  cond (decide ((0 : Int) < x14))
  (aZ (0 ≤ i7 ∧ i7 < ((List.length jQ : Nat) : Int)) <|
  aZ ((List.length out5 + List.length ([bM.mk (List.getD jQ (Int.toNat i7) default) x14])) * 32 ≤ 140737488355328 ∧ List.length out5 + List.length ([bM.mk (List.getD jQ (Int.toNat i7) default) x14]) ≤ 9223372036854775807) <|
  nI l0 t1 (out5 ++ ([bM.mk (List.getD jQ (Int.toNat i7) default) x14])) jQ i7)
  (nI l0 t1 out5 jQ i7))
  (some (.inr out5))

noncomputable def tE (l0 : (List aK)) (t1 : Int) (out5 : List bM) (jQ : (List (List aB))) (i7 : Int) : Option (List bM) :=
  (lp (fun s => mD l0 t1 jQ s.1 s.2) (out5, i7)).bind (fun rr => tI rr)

noncomputable def rE (l0 : (List aK)) (t1 : Int) : Option (List bM) :=
  (nU l0).bind fun x1 =>
  tE l0 t1 ([] : List bM) x1 (0 : Int)

noncomputable def qD (out8 : List bC) : Option ((List bC) × Int) :=
  cond (decide ((1024 : Int) < ((List.length out8 : Nat) : Int)))
  (some ([], (7 : Int)))
  (some (out8, (0 : Int)))

noncomputable def pJ (l0 : (List aK)) (bZ : (List Int)) (out8 : List bC) (i9 : Int) : Option ((List bC × Int) ⊕ ((List bC))) :=
  some (.inl (out8, IntKind.i64.wrap (i9 + (1 : Int))))

noncomputable def nL (l0 : (List aK)) (bZ : (List Int)) (out8 : List bC) (i9 : Int) (p10 : bC) : Option ((List bC × Int) ⊕ ((List bC))) :=
  cond (decide ((0 : Int) < ((List.length p10.Rows : Nat) : Int)))
  (aZ ((List.length out8 + List.length ([p10])) * 40 ≤ 140737488355328 ∧ List.length out8 + List.length ([p10]) ≤ 9223372036854775807) <|
  pJ l0 bZ (out8 ++ ([p10])) i9)
  (pJ l0 bZ out8 i9)

noncomputable def kZ (l0 : (List aK)) (bZ : (List Int)) (out8 : List bC) (i9 : Int) : Option ((List bC × Int) ⊕ ((List bC))) :=
  cond (decide (i9 < ((List.length bZ : Nat) : Int)))
  (aZ (0 ≤ i9 ∧ i9 < ((List.length bZ : Nat) : Int)) <|
  aZ (0 ≤ i9 ∧ i9 < ((List.length bZ : Nat) : Int)) <|
  (rE l0 (List.getD bZ (Int.toNat i9) default)).bind fun x14 =>
  cond (decide ((IntKind.i64.wrap (i9 + (1 : Int))) < ((List.length bZ : Nat) : Int)))
  (aZ (0 ≤ (IntKind.i64.wrap (i9 + (1 : Int))) ∧ (IntKind.i64.wrap (i9 + (1 : Int))) < ((List.length bZ : Nat) : Int)) <|
  nL l0 bZ out8 i9 (bC.mk (dK.mk ((bC.mk (dK.mk (List.getD bZ (Int.toNat i9) default) (1125899906842624 : Int)) x14).Span).From (List.getD bZ (Int.toNat (IntKind.i64.wrap (i9 + (1 : Int)))) default)) (bC.mk (dK.mk (List.getD bZ (Int.toNat i9) default) (1125899906842624 : Int)) x14).Rows))
  (nL l0 bZ out8 i9 (bC.mk (dK.mk (List.getD bZ (Int.toNat i9) default) (1125899906842624 : Int)) x14)))
  (some (.inr out8))

noncomputable def tP (l0 : (List aK)) (bZ : (List Int)) (out8 : List bC) (i9 : Int) : Option ((List bC) × Int) :=
  (lp (fun s => kZ l0 bZ s.1 s.2) (out8, i9)).bind (fun rr => qD rr)

noncomputable def qO (l0 : (List aK)) (cE : Int) : Option ((List bC) × Int) :=
  (sM l0 cE).bind fun x1 =>
  cond (!decide (x1.2 = (0 : Int)))
  (some ([], x1.2))
  (tP l0 x1.1 ([] : List bC) (0 : Int))

noncomputable def lX  : Option Bool :=
  some true

noncomputable def kN (a0 : (List bM)) (b1 : (List bM)) (i5 : Int) : Option ((Int) ⊕ (Unit ⊕ Bool)) :=
  cond (decide (i5 < ((List.length a0 : Nat) : Int)))
  (aZ (0 ≤ i5 ∧ i5 < ((List.length a0 : Nat) : Int)) <|
  aZ (0 ≤ i5 ∧ i5 < ((List.length b1 : Nat) : Int)) <|
  aZ ((((!(!decide (((List.getD a0 (Int.toNat i5) default).N) = ((List.getD b1 (Int.toNat i5) default).N))))) = true → 0 ≤ i5 ∧ i5 < ((List.length a0 : Nat) : Int))) <|
  aZ ((((!(!decide (((List.getD a0 (Int.toNat i5) default).N) = ((List.getD b1 (Int.toNat i5) default).N))))) = true → 0 ≤ i5 ∧ i5 < ((List.length b1 : Nat) : Int))) <|
  (dA (!(!decide (((List.getD a0 (Int.toNat i5) default).N) = ((List.getD b1 (Int.toNat i5) default).N)))) (nT ((List.getD a0 (Int.toNat i5) default).Row) ((List.getD b1 (Int.toNat i5) default).Row))).bind fun x7 =>
  cond ((!decide (((List.getD a0 (Int.toNat i5) default).N) = ((List.getD b1 (Int.toNat i5) default).N))) || (!x7))
  (some (.inr (.inr false)))
  (some (.inl (IntKind.i64.wrap (i5 + (1 : Int))))))
  (some (.inr (.inl ())))

noncomputable def nX (a0 : (List bM)) (b1 : (List bM)) (i5 : Int) : Option Bool :=
  (lp (fun s => kN a0 b1 s) i5).bind (Sum.elim (fun rr => lX ) (fun rr => some rr))

noncomputable def mQ (a0 : (List bM)) (b1 : (List bM)) : Option Bool :=
  cond (!decide (((List.length a0 : Nat) : Int) = ((List.length b1 : Nat) : Int)))
  (some false)
  (nX a0 b1 (0 : Int))

noncomputable def rD  : Option Bool :=
  some true

noncomputable def oD (a0 : (List bC)) (b1 : (List bC)) (i5 : Int) : Option ((Int) ⊕ (Unit ⊕ Bool)) :=
  cond (decide (i5 < ((List.length a0 : Nat) : Int)))
  (aZ (0 ≤ i5 ∧ i5 < ((List.length a0 : Nat) : Int)) <|
  aZ (0 ≤ i5 ∧ i5 < ((List.length b1 : Nat) : Int)) <|
  aZ ((((!(!((decide ((((List.getD a0 (Int.toNat i5) default).Span).From) = (((List.getD b1 (Int.toNat i5) default).Span).From))) && ((decide ((((List.getD a0 (Int.toNat i5) default).Span).To) = (((List.getD b1 (Int.toNat i5) default).Span).To))) && true))))) = true → 0 ≤ i5 ∧ i5 < ((List.length a0 : Nat) : Int))) <|
  aZ ((((!(!((decide ((((List.getD a0 (Int.toNat i5) default).Span).From) = (((List.getD b1 (Int.toNat i5) default).Span).From))) && ((decide ((((List.getD a0 (Int.toNat i5) default).Span).To) = (((List.getD b1 (Int.toNat i5) default).Span).To))) && true))))) = true → 0 ≤ i5 ∧ i5 < ((List.length b1 : Nat) : Int))) <|
  (dA (!(!((decide ((((List.getD a0 (Int.toNat i5) default).Span).From) = (((List.getD b1 (Int.toNat i5) default).Span).From))) && ((decide ((((List.getD a0 (Int.toNat i5) default).Span).To) = (((List.getD b1 (Int.toNat i5) default).Span).To))) && true)))) (mQ ((List.getD a0 (Int.toNat i5) default).Rows) ((List.getD b1 (Int.toNat i5) default).Rows))).bind fun x7 =>
  cond ((!((decide ((((List.getD a0 (Int.toNat i5) default).Span).From) = (((List.getD b1 (Int.toNat i5) default).Span).From))) && ((decide ((((List.getD a0 (Int.toNat i5) default).Span).To) = (((List.getD b1 (Int.toNat i5) default).Span).To))) && true))) || (!x7))
  (some (.inr (.inr false)))
  (some (.inl (IntKind.i64.wrap (i5 + (1 : Int))))))
  (some (.inr (.inl ())))

noncomputable def uV (a0 : (List bC)) (b1 : (List bC)) (i5 : Int) : Option Bool :=
  (lp (fun s => oD a0 b1 s) i5).bind (Sum.elim (fun rr => rD ) (fun rr => some rr))

noncomputable def sL (a0 : (List bC)) (b1 : (List bC)) : Option Bool :=
  cond (!decide (((List.length a0 : Nat) : Int) = ((List.length b1 : Nat) : Int)))
  (some false)
  (uV a0 b1 (0 : Int))

noncomputable def pE (l0 : (List aK)) (cE : Int) : Option Bool :=
  (xC l0).bind fun x1 =>
  cond (!x1)
  ((pQ ).bind fun x5 =>
  some x5)
  ((pP l0 cE).bind fun x8 =>
  (qO l0 cE).bind fun x11 =>
  (pQ ).bind fun x14 =>
  (dA (x14 && (decide (x8.2 = x11.2))) (sL x8.1 x11.1)).bind fun x17 =>
  some ((x14 && (decide (x8.2 = x11.2))) && x17))

end Go.Abs
namespace Go.Abs
open Go Go.RowKit
def yP (x : aB) : Prop := xT x.Kind ∧ xT x.Num ∧ (fun s => s.size ≤ maxLen) x.Text ∧ True

def tZ (x : aK) : Prop := (fun l => (∀ a ∈ l, yP a) ∧ l.length * 32 ≤ 140737488351232) x.Row ∧ xT x.At ∧ xT x.Net ∧ True

end Go.Abs
namespace Go.Abs
open Go Go.RowKit Go.Proofs
noncomputable def tt : TT := ⟨RX Try.prog, LW Try.prog⟩

theorem aD : gK Try.prog tt := gK.of Try.prog

theorem OX (l0 : (List aK)) (r : Bool) (h0 : xC l0 = some r) : dL Try.prog 10 [(eL aM l0)] (aE r) := by
  intro H0
  refine dG Try.func10 ?_
  have hO := aJ.start H0
  unfold xC at h0
  refine aT aD 1 [] [] ?_
  refine bS aD 4 [(2, (aE (decide ((lN l0) ≤ (60 : Int)))))] ?_
  refine bK ?_
  obtain rfl := oI h0
  exact aG (Q_r hO)

theorem FE (l0 : (List aK)) (r : (List aK)) (h0 : rJ l0 = some r) : dL Try.prog 67 [(eL aM l0)] (.fn (.func 91) [] [(.rp (eL aM r))]) := by
  intro H0
  refine dG Try.func67 ?_
  have hO := aJ.start H0
  unfold rJ at h0
  refine aN ?_
  refine aV aD 2 ?_
  refine oM 1 (eL aM l0) (by kernel_rfl) (by kernel_rfl) ?_
  refine bB ?_
  refine bI [(1, (.rp (eL aM l0)))] ?_
  refine bS aD 2 [(2, (.fn (.func 91) [] [(.rp (eL aM l0))]))] ?_
  refine bK ?_
  obtain rfl := oI h0
  exact aG (mK (x := (.fn (.func 91) [] [(.rp (eL aM l0))])) (by kernel_rfl) (aO.refl _) ⟨rfl, hO.out⟩)

theorem uY (s10 : (List aB)) (s21 : (List aB)) (r : Bool) (h0 : jD s10 s21 = some r) : dL Try.prog 72 [(eL aC s10), (eL aC s21)] (aE r) := by
  intro H0
  refine dG Try.func72 ?_
  have hO := aJ.start H0
  unfold jD at h0
  refine aT aD 1 [] [] ?_
  refine aN ?_
  refine aT aD 5 [] [(10, (aE (!decide ((lN s10) = (lN s21)))))] ?_
  refine bF h0 (fun h0 => ?_) (fun h0 => ?_)
  · refine bS aD 1 [(4, (aE false))] ?_
    refine bK ?_
    obtain rfl := oI h0
    exact aG (aP (Q_r hO))
  refine bG ?_
  refine bI [(0, (eL aC s10)), (1, (eL aC s21))] ?_
  refine dN (fun T H => Has T [] ∧ aJ ⟨H0, [], []⟩ H [] ∧ fY  = some r) ?_ ?_
  · clear hO h0
    rintro T H ⟨hT, hO, h0⟩
    refine aY hT ?_
    clear hT
    unfold fY at h0
    refine bS aD 1 [(4, (aE true))] ?_
    refine bK ?_
    obtain rfl := oI h0
    exact aG (Q_r hO)
  refine aT aD 3 [] [(12, (eI (lN s10))), (13, (eI (0 : Int)))] ?_
  refine cA 0 ?_
  refine eU [(0, (eL aC s10)), (1, (eL aC s21)), (12, (eI (lN s10))), (13, (eI (0 : Int)))] ?_
  refine dS (fun T H => ∃ t12 : Int, ∃ t13 : Int, Has T [(0, (eL aC s10)), (1, (eL aC s21)), (12, (eI t12)), (13, (eI t13))] ∧ aJ ⟨H0, [], []⟩ H [] ∧ iX s10 s21 t12 t13 = some r) ?_ ⟨(lN s10), (0 : Int), .eq (by kernel_rfl), hO, h0⟩
  clear hO h0
  rintro T H ⟨t12, t13, hT, hO, h0⟩
  refine aY hT ?_
  clear hT
  unfold iX at h0
  obtain ⟨rr0, hl0, h0⟩ := aX h0
  refine cS (by kernel_rfl) (fun (s : Int) T H => Has T [(0, (eL aC s10)), (1, (eL aC s21)), (12, (eI t12)), (13, (eI s))] ∧ aJ ⟨H0, [], []⟩ H []) hl0 ⟨.eq (by kernel_rfl), hO⟩ ?_
  clear hO
  rintro k0 s out1 T H ⟨hT, hO⟩ h1 ho0
  obtain ⟨t13, rfl⟩ : ∃ x, x = s := ⟨_, rfl⟩
  replace h1 : eY s10 s21 t12 t13 = some out1 := h1
  refine aY hT ?_
  clear hT
  unfold eY at h1
  refine aT aD 1 [] [(14, (aE (decide (t13 < t12))))] ?_
  refine aN ?_
  refine bF h1 (fun h1 => ?_) (fun h1 => ?_)
  · refine bG ?_
    refine bI [(0, (eL aC s10)), (1, (eL aC s21)), (12, (eI t12)), (13, (eI t13))] ?_
    refine aN ?_
    refine cA 1 ?_
    refine aT aD 2 [] [(5, (eI t13))] ?_
    refine aN ?_
    refine fD (fC [19, 23]) aD 9 ?_
    obtain ⟨c3, h1⟩ := aU h1
    obtain ⟨c4, h1⟩ := aU h1
    refine zJ (Ds := [0 ≤ t13 ∧ t13 < (lN s10), 0 ≤ t13 ∧ t13 < (lN s21)]) (by kernel_rfl) ⟨c3, c4, trivial⟩ ?_
    refine bT [5] [(24, (aE (!((decide (((gD s10 t13).Kind) = ((gD s21 t13).Kind))) && ((decide (((gD s10 t13).Num) = ((gD s21 t13).Num))) && ((mI ((gD s10 t13).Text) ((gD s21 t13).Text)) && true))))))] ?_
    refine bF h1 (fun h1 => ?_) (fun h1 => ?_)
    · refine bS aD 1 [(4, (aE false))] ?_
      refine bK ?_
      obtain rfl := oI h1
      obtain rfl : _ = rr0 := ho0
      replace h0 : some false = some r := h0
      obtain rfl := oI h0
      exact aG (bE (aP (aP (bE (aP (Q_r hO))))))
    refine bG ?_
    refine gO [(0, (eL aC s10)), (1, (eL aC s21)), (12, (eI t12)), (13, (eI t13))] ?_
    refine aG (aW (aF (?_)))
    refine aV aD 2 ?_
    refine bB ?_
    exact aG (aF (⟨rfl, _, (oI h1).symm, .eq (by kernel_rfl), hO⟩))
  refine eX 0 ?_
  obtain rfl := oI h1
  obtain rfl : _ = rr0 := ho0
  replace h0 : fY  = some r := h0
  exact aG (aR (aR (bQ (aF (⟨rfl, .eq (by kernel_rfl), hO, h0⟩)))))

theorem SN (a0 : (List aB)) (b1 : (List aB)) (r : Bool) (h0 : wA a0 b1 = some r) : dL Try.prog 92 [(eL aC a0), (eL aC b1)] (aE r) := by
  intro H0
  refine dG Try.func92 ?_
  have hO := aJ.start H0
  unfold wA at h0
  refine aT aD 1 [] [] ?_
  refine aN ?_
  refine aV aD 4 ?_
  refine bU 2 ?_
  obtain ⟨x1, hx2, h0⟩ := aX h0
  refine dR (uY a0 b1 _ hx2) hO ?_
  intro H hO
  refine bB ?_
  refine bI [(4, (aE x1))] ?_
  refine bK ?_
  obtain rfl := oI h0
  exact aG (Q_r hO)

theorem SZ (r0 : (List aB)) (r : (List aB)) (h0 : vP r0 = some r) : dL Try.prog 93 [(eL aC r0)] (eL aC r) := by
  intro H0
  refine dG Try.func93 ?_
  have hO := aJ.start H0
  unfold vP at h0
  refine aT aD 1 [] [] ?_
  refine aN ?_
  refine aV aD 6 ?_
  refine bU 2 ?_
  obtain ⟨c1, h0⟩ := aU h0
  refine QB 3 32 (lN r0) (by kernel_rfl) (by kernel_rfl) c1 hO ?_
  intro lo2 H hO
  refine bU 4 ?_
  obtain ⟨c4, h0⟩ := aU h0
  refine oH (e := aC) ([] : List aB) r0 0 lo2 3 32 (eL aC r0) (fun lo3 => [(lo3, 3, List.map aC (([] : List aB) ++ r0))]) (by kernel_rfl) (by kernel_rfl) hO (by kernel_rfl) (QL (fun _ => by kernel_rfl)) c4 (fun _ => by kernel_rfl) ?_
  intro lo3 H hO
  refine bB ?_
  refine bI [(2, (.msl 3 lo3 0 (List.length (([] : List aB) ++ r0))))] ?_
  refine bK ?_
  refine gO [(2, (.msl 3 lo3 0 (List.length (([] : List aB) ++ r0))))] ?_
  refine oQ (en := aC) (([] : List aB) ++ r0) 0 0 2 3 lo3 (List.length (([] : List aB) ++ r0)) hO (by kernel_rfl) (by kernel_rfl) (by kernel_rfl) (L' := []) (by kernel_rfl) ?_
  intro H5 hO
  obtain rfl := oI h0
  exact aG (Q_r hO)

theorem zW {σ : Type} (I : σ → Gs → Prop) (yield0_b : Nat) (fZ : σ → (List aB) → (List aI) → Option (σ × Bool)) (yield0_h : ∀ st a0 a1 st2 r, fZ st a0 a1 = some (st2, r) → EJ Try.prog (yv yield0_b) I st [(eL aC a0), (eL aQ a1)] st2 (aE r)) (t1 : (List aK)) (sg0 : σ) (r : σ) (h0 : mV fZ t1 sg0 = some r) : yB Try.prog 91 I sg0 [(yv yield0_b), (.rp (eL aM t1))] r (.tup []) := by
  intro H0 G0 hI hg
  refine dG Try.func91 ?_
  obtain ⟨G, hO, hI⟩ : ∃ G, aJ ⟨H0, List.map (fun p : Nat × dW => p.1) G0, G⟩ H0 [] ∧ I sg0 G := ⟨G0, aJ.HP hg, hI⟩
  clear hg
  unfold mV at h0
  refine aT aD 1 [] [(3, (eI (0 : Int)))] ?_
  refine cA 0 ?_
  refine eU [(0, (yv yield0_b)), (1, (.rp (eL aM t1))), (3, (eI (0 : Int)))] ?_
  refine dS (fun T H => ∃ sg : σ, ∃ i3 : Int, ∃ G : Gs, Has T [(0, (yv yield0_b)), (1, (.rp (eL aM t1))), (3, (eI i3))] ∧ aJ ⟨H0, List.map (fun p : Nat × dW => p.1) G0, G⟩ H [] ∧ I sg G ∧ qF fZ sg t1 i3 = some r) ?_ ⟨sg0, (0 : Int), G, .eq (by kernel_rfl), hO, hI, h0⟩
  clear hO hI h0
  rintro T H ⟨sg, i3, G, hT, hO, hI, h0⟩
  refine aY hT ?_
  clear hT
  unfold qF at h0
  obtain ⟨rr0, hl0, h0⟩ := aX h0
  refine cS (by kernel_rfl) (fun (s : σ × Int) T H => ∃ G : Gs, Has T [(0, (yv yield0_b)), (1, (.rp (eL aM t1))), (3, (eI s.2))] ∧ aJ ⟨H0, List.map (fun p : Nat × dW => p.1) G0, G⟩ H [] ∧ I s.1 G) hl0 ⟨G, .eq (by kernel_rfl), hO, hI⟩ ?_
  clear hO hI
  rintro k0 s out1 T H ⟨G, hT, hO, hI⟩ h1 ho0
  obtain ⟨sg, i3⟩ := s
  replace h1 : iE fZ t1 sg i3 = some out1 := h1
  try dsimp only at hT
  refine aY hT ?_
  clear hT
  unfold iE at h1
  refine aN ?_
  refine aT aD 4 [] [(9, (aE (decide (i3 < (lN t1)))))] ?_
  refine bF h1 (fun h1 => ?_) (fun h1 => ?_)
  · refine bG ?_
    refine bI [(0, (yv yield0_b)), (1, (.rp (eL aM t1))), (3, (eI i3))] ?_
    refine cA 1 ?_
    refine aN ?_
    refine aV aD 6 ?_
    obtain ⟨c2, h1⟩ := aU h1
    refine nF [0 ≤ i3 ∧ i3 < (lN t1)] ⟨c2, trivial⟩ ?_
    refine bT [] [(4, (eL aC ((gD t1 i3).Row)))] ?_
    refine aN ?_
    refine aV aD 2 ?_
    refine kU (xs := []) (k := 2) (by kernel_rfl) (by kernel_rfl) ?_
    refine bB ?_
    refine bT [] [(5, (.sl true 0 (fun _ => .bad)))] ?_
    refine dN (fun T H => ∃ sg : σ, ∃ i3 : Int, ∃ r4 : (List aB), ∃ f5 : List aI, ∃ lo3 : Nat, ∃ G : Gs, Has T [(0, (yv yield0_b)), (1, (.rp (eL aM t1))), (3, (eI i3)), (4, (eL aC r4)), (5, (.msl 2 lo3 0 (List.length f5)))] ∧ aJ ⟨H0, List.map (fun p : Nat × dW => p.1) G0, G⟩ H [(lo3, 2, List.map aQ f5)] ∧ I sg G ∧ nO fZ sg t1 i3 r4 f5 = some out1) ?_ ?_
    · clear hO hI h1
      rintro T H ⟨sg, i3, r4, f5, lo3, G, hT, hO, hI, h1⟩
      refine aY hT ?_
      clear hT
      unfold nO at h1
      refine aN ?_
      refine aV aD 6 ?_
      refine KH (e := aQ) f5 0 5 2 lo3 (List.length f5) [] (by kernel_rfl) hO (by kernel_rfl) (by kernel_rfl) (by kernel_rfl) (by kernel_rfl) ?_
      intro H hO
      refine bU 2 ?_
      obtain ⟨x7, hx8, h1⟩ := aX h1
      refine dR (SZ r4 _ hx8) hO ?_
      intro H hO
      refine bU 4 ?_
      obtain ⟨x10, hx11, h1⟩ := aX h1
      refine RI (I := I) (yv yield0_b) [(eL aC x7), (eL aQ f5)] (aE x10.2) (by kernel_rfl) (by kernel_rfl) (yield0_h _ x7 f5 x10.1 x10.2 hx11) hO hI ?_
      intro G H hO hI
      refine bB ?_
      refine bT [4, 5] [(50, (aE (!x10.2)))] ?_
      refine bF h1 (fun h1 => ?_) (fun h1 => ?_)
      · refine bK ?_
        obtain rfl := oI h1
        obtain rfl : _ = rr0 := ho0
        replace h0 : some x10.1 = some r := h0
        obtain rfl := oI h0
        exact aG (bE (aP (bE (mK (x := (.tup [])) (by kernel_rfl) (aO.refl _) ⟨rfl, G, hI, hO.CL⟩))))
      refine bG ?_
      exact aG (aW (aF (⟨rfl, _, (oI h1).symm, _, .eq (by kernel_rfl), hO, hI⟩)))
    refine cA 2 ?_
    refine eU [(0, (yv yield0_b)), (1, (.rp (eL aM t1))), (3, (eI i3)), (4, (eL aC ((gD t1 i3).Row))), (5, (.sl true 0 (fun _ => .bad)))] ?_
    refine xN (el := (fun _ => .bad)) 4 5 2 hO (by kernel_rfl) ?_
    intro lo24 H25 hO
    refine dS (fun T H => ∃ sg : σ, ∃ i3 : Int, ∃ r4 : (List aB), ∃ f5 : List aI, ∃ lo14 : Nat, ∃ G : Gs, Has T [(0, (yv yield0_b)), (1, (.rp (eL aM t1))), (3, (eI i3)), (4, (eL aC r4)), (5, (.msl 2 lo14 0 (List.length f5)))] ∧ aJ ⟨H0, List.map (fun p : Nat × dW => p.1) G0, G⟩ H [(lo14, 2, List.map aQ f5)] ∧ I sg G ∧ qE fZ sg t1 i3 r4 f5 = some out1) ?_ ⟨sg, i3, (gD t1 i3).Row, ([] : List aI), lo24, G, .eq (by kernel_rfl), hO, hI, h1⟩
    clear hO hI h1
    rintro T H ⟨sg, i3, r4, f5, lo14, G, hT, hO, hI, h1⟩
    refine aY hT ?_
    clear hT
    unfold qE at h1
    obtain ⟨rr1, hl1, h1⟩ := aX h1
    refine cS (by kernel_rfl) (fun (s : σ × Int × List aI) T H => ∃ lo14 : Nat, ∃ G : Gs, Has T [(0, (yv yield0_b)), (1, (.rp (eL aM t1))), (3, (eI s.2.1)), (4, (eL aC r4)), (5, (.msl 2 lo14 0 (List.length s.2.2)))] ∧ aJ ⟨H0, List.map (fun p : Nat × dW => p.1) G0, G⟩ H [(lo14, 2, List.map aQ s.2.2)] ∧ I s.1 G) hl1 ⟨lo14, G, .eq (by kernel_rfl), hO, hI⟩ ?_
    clear hO hI
    rintro k1 s out2 T H ⟨lo14, G, hT, hO, hI⟩ h2 ho1
    obtain ⟨sg, i3, f5⟩ := s
    replace h2 : jB fZ t1 r4 sg i3 f5 = some out2 := h2
    try dsimp only at hT
    refine aY hT ?_
    clear hT
    unfold jB at h2
    refine aN ?_
    refine aN ?_
    refine aV aD 13 ?_
    obtain ⟨c15, h2⟩ := aU h2
    refine oA 11 [(((decide (i3 < (lN t1)))) = true → 0 ≤ i3 ∧ i3 < (lN t1))] ⟨c15, trivial⟩ ?_
    obtain ⟨x16, hx17, h2⟩ := aX h2
    refine pR [(20, true)] 92 [(eL aC ((gD t1 i3).Row)), (eL aC r4)] (aE x16) (decide (i3 < (lN t1))) (by kernel_rfl) (by kernel_rfl) (by kernel_rfl) (fun hb18 => (SN ((gD t1 i3).Row) r4 _ (jG hx17 hb18))) hO ?_
    intro H hO
    refine bB ?_
    refine bT [] [(28, (aE ((decide (i3 < (lN t1))) && x16)))] ?_
    refine bF h2 (fun h2 => ?_) (fun h2 => ?_)
    · refine bG ?_
      refine bI [(0, (yv yield0_b)), (1, (.rp (eL aM t1))), (3, (eI i3)), (4, (eL aC r4)), (5, (.msl 2 lo14 0 (List.length f5)))] ?_
      refine aN ?_
      refine cA 3 ?_
      refine fD (fC [32, 36, 37, 41, 43]) aD 15 ?_
      obtain ⟨c20, h2⟩ := aU h2
      obtain ⟨c21, h2⟩ := aU h2
      refine cH 12 [0 ≤ i3 ∧ i3 < (lN t1), 0 ≤ i3 ∧ i3 < (lN t1)] ⟨c20, c21, trivial⟩ ?_
      refine YV (xs := [(aQ (aI.mk ((gD t1 i3).At) ((gD t1 i3).Net)))]) (k := 2) (by kernel_rfl) (by kernel_rfl) ?_
      obtain ⟨c23, h2⟩ := aU h2
      refine QX (e := aQ) f5 ([aI.mk ((gD t1 i3).At) ((gD t1 i3).Net)]) 0 lo14 2 16 (gQ [(aQ (aI.mk ((gD t1 i3).At) ((gD t1 i3).Net)))]) (fun lo22 => [(lo22, 2, List.map aQ (f5 ++ ([aI.mk ((gD t1 i3).At) ((gD t1 i3).Net)])))]) (by kernel_rfl) (by kernel_rfl) hO (by kernel_rfl) (by kernel_rfl) c23 (fun _ => by kernel_rfl) ?_
      intro lo22 H hO
      refine iF ?_
      refine gO [(0, (yv yield0_b)), (1, (.rp (eL aM t1))), (3, (eI i3)), (4, (eL aC r4)), (5, (.msl 2 lo22 0 (List.length (f5 ++ ([aI.mk ((gD t1 i3).At) ((gD t1 i3).Net)])))))] ?_
      refine aG (aW (aF (?_)))
      refine aV aD 3 ?_
      refine bB ?_
      exact aG (aF (⟨rfl, _, (oI h2).symm, _, _, .eq (by kernel_rfl), hO, hI⟩))
    refine eX 2 ?_
    obtain rfl := oI h2
    obtain rfl : _ = rr1 := ho1
    replace h1 : nO fZ sg t1 i3 r4 f5 = some out1 := h1
    exact aG (aR (aR (bQ (aF (⟨rfl, _, _, _, _, _, _, .eq (by kernel_rfl), hO, hI, h1⟩)))))
  refine eX 0 ?_
  obtain rfl := oI h1
  obtain rfl : _ = rr0 := ho0
  replace h0 : some sg = some r := h0
  obtain rfl := oI h0
  exact aG (aR (aR (bQ (zK (x := (.tup [])) (by kernel_rfl) (aO.refl _) ⟨rfl, G, hI, hO.CL⟩))))

theorem sU (s0 : (List aB)) (f1_f : Nat) (f1_a f1_c : List V) (f1 : aB → Option Bool) (f1_h : ∀ a0 r, f1 a0 = some r → dL Try.prog f1_f (f1_a ++ [(aC a0)] ++ f1_c) (aE r)) (r : Int) (h0 : iB s0 f1 = some r) : dL Try.prog 100 [(eL aC s0), (.fn (.func f1_f) f1_a f1_c)] (eI r) := by
  intro H0
  refine dG Try.func100 ?_
  have hO := aJ.start H0
  unfold iB at h0
  refine aT aD 1 [] [] ?_
  refine dN (fun T H => Has T [] ∧ aJ ⟨H0, [], []⟩ H [] ∧ fF f1  = some r) ?_ ?_
  · clear hO h0
    rintro T H ⟨hT, hO, h0⟩
    refine aY hT ?_
    clear hT
    unfold fF at h0
    refine bS aD 1 [(4, (eI (-1 : Int)))] ?_
    refine bK ?_
    obtain rfl := oI h0
    exact aG (Q_r hO)
  refine aT aD 3 [] [(7, (eI (lN s0))), (8, (eI (0 : Int)))] ?_
  refine cA 0 ?_
  refine eU [(0, (eL aC s0)), (1, (.fn (.func f1_f) f1_a f1_c)), (7, (eI (lN s0))), (8, (eI (0 : Int)))] ?_
  refine dS (fun T H => ∃ t7 : Int, ∃ t8 : Int, Has T [(0, (eL aC s0)), (1, (.fn (.func f1_f) f1_a f1_c)), (7, (eI t7)), (8, (eI t8))] ∧ aJ ⟨H0, [], []⟩ H [] ∧ gX f1 s0 t7 t8 = some r) ?_ ⟨(lN s0), (0 : Int), .eq (by kernel_rfl), hO, h0⟩
  clear hO h0
  rintro T H ⟨t7, t8, hT, hO, h0⟩
  refine aY hT ?_
  clear hT
  unfold gX at h0
  obtain ⟨rr0, hl0, h0⟩ := aX h0
  refine cS (by kernel_rfl) (fun (s : Int) T H => Has T [(0, (eL aC s0)), (1, (.fn (.func f1_f) f1_a f1_c)), (7, (eI t7)), (8, (eI s))] ∧ aJ ⟨H0, [], []⟩ H []) hl0 ⟨.eq (by kernel_rfl), hO⟩ ?_
  clear hO
  rintro k0 s out1 T H ⟨hT, hO⟩ h1 ho0
  obtain ⟨t8, rfl⟩ : ∃ x, x = s := ⟨_, rfl⟩
  replace h1 : gW f1 s0 t7 t8 = some out1 := h1
  refine aY hT ?_
  clear hT
  unfold gW at h1
  refine aT aD 1 [] [(9, (aE (decide (t8 < t7))))] ?_
  refine aN ?_
  refine bF h1 (fun h1 => ?_) (fun h1 => ?_)
  · refine bG ?_
    refine bI [(0, (eL aC s0)), (1, (.fn (.func f1_f) f1_a f1_c)), (7, (eI t7)), (8, (eI t8))] ?_
    refine aN ?_
    refine cA 1 ?_
    refine aT aD 2 [] [(5, (eI t8))] ?_
    refine aN ?_
    refine aV aD 6 ?_
    obtain ⟨c2, h1⟩ := aU h1
    refine oA 5 [0 ≤ t8 ∧ t8 < (lN s0)] ⟨c2, trivial⟩ ?_
    obtain ⟨x3, hx4, h1⟩ := aX h1
    refine dR (f1_h (gD s0 t8) _ hx4) hO ?_
    intro H hO
    refine iP ?_
    refine bT [] [(16, (aE x3))] ?_
    refine bF h1 (fun h1 => ?_) (fun h1 => ?_)
    · refine bS aD 2 [(4, (eI t8))] ?_
      refine bK ?_
      obtain rfl := oI h1
      obtain rfl : _ = rr0 := ho0
      replace h0 : some t8 = some r := h0
      obtain rfl := oI h0
      exact aG (bE (aP (aP (bE (aP (Q_r hO))))))
    refine bG ?_
    refine gO [(0, (eL aC s0)), (1, (.fn (.func f1_f) f1_a f1_c)), (7, (eI t7)), (8, (eI t8))] ?_
    refine aG (aW (aF (?_)))
    refine aV aD 2 ?_
    refine bB ?_
    exact aG (aF (⟨rfl, _, (oI h1).symm, .eq (by kernel_rfl), hO⟩))
  refine eX 0 ?_
  obtain rfl := oI h1
  obtain rfl : _ = rr0 := ho0
  replace h0 : fF f1  = some r := h0
  exact aG (aR (aR (bQ (aF (⟨rfl, .eq (by kernel_rfl), hO, h0⟩)))))

theorem qZ (s0 : (List aB)) (f1_f : Nat) (f1_a f1_c : List V) (f1 : aB → Option Bool) (f1_h : ∀ a0 r, f1 a0 = some r → dL Try.prog f1_f (f1_a ++ [(aC a0)] ++ f1_c) (aE r)) (r : Bool) (h0 : eW s0 f1 = some r) : dL Try.prog 97 [(eL aC s0), (.fn (.func f1_f) f1_a f1_c)] (aE r) := by
  intro H0
  refine dG Try.func97 ?_
  have hO := aJ.start H0
  unfold eW at h0
  refine aT aD 1 [] [] ?_
  refine aN ?_
  refine aV aD 5 ?_
  refine bU 2 ?_
  obtain ⟨x1, hx2, h0⟩ := aX h0
  refine dR (sU s0 f1_f f1_a f1_c f1 f1_h _ hx2) hO ?_
  intro H hO
  refine bB ?_
  refine bI [(4, (aE (decide ((0 : Int) ≤ x1))))] ?_
  refine bK ?_
  obtain rfl := oI h0
  exact aG (Q_r hO)

theorem vW (v0 : aB) (r : (bL × Bool)) (h0 : kY v0 = some r) : dL Try.prog 110 [(aC v0)] (.tup [(bD r.1), (aE r.2)]) := by
  intro H0
  refine dG Try.func110 ?_
  have hO := aJ.start H0
  unfold kY at h0
  refine aN ?_
  refine aV aD 3 ?_
  refine oM 3 (aC v0) (by kernel_rfl) (by kernel_rfl) ?_
  refine bB ?_
  refine bI [(1, (.rp (aC v0)))] ?_
  refine aN ?_
  refine cA 0 ?_
  refine aT aD 9 [] [(4, (aE ((decide (v0.Kind = (1 : Int))) && (mI v0.Text (⟨#[]⟩ : ByteArray)))))] ?_
  refine bF h0 (fun h0 => ?_) (fun h0 => ?_)
  · refine bS aD 5 [(2, (bD (bL.k_number v0.Num))), (3, (aE true))] ?_
    refine bK ?_
    obtain rfl := oI h0
    exact aG (bE (aP (Q_r hO)))
  refine aT aD 15 [4] [(16, (aE (((decide (v0.Kind = (2 : Int))) && (decide (v0.Num = (0 : Int)))) && (decide (((ByteArray.size v0.Text : Nat) : Int) ≤ (64 : Int))))))] ?_
  refine bF h0 (fun h0 => ?_) (fun h0 => ?_)
  · refine bS aD 5 [(2, (bD (bL.k_words v0.Text))), (3, (aE true))] ?_
    refine bK ?_
    obtain rfl := oI h0
    exact aG (bE (aP (Q_r hO)))
  refine bG ?_
  refine gO [] ?_
  refine aG (aW (aF (?_)))
  refine bS aD 2 [(2, (bD bL.none_)), (3, (aE false))] ?_
  refine bK ?_
  obtain rfl := oI h0
  exact aG (Q_r hO)

theorem QA (v0 : aB) (r : Bool) (h0 : uC v0 = some r) : dL Try.prog 99 [(aC v0)] (aE r) := by
  intro H0
  refine dG Try.func99 ?_
  have hO := aJ.start H0
  unfold uC at h0
  refine aN ?_
  refine aV aD 2 ?_
  refine oM 3 (aC v0) (by kernel_rfl) (by kernel_rfl) ?_
  refine bB ?_
  refine bI [(1, (.rp (aC v0)))] ?_
  refine aN ?_
  refine aV aD 7 ?_
  refine bU 1 ?_
  obtain ⟨⟨x1_0, x1_1⟩, hx2, h0⟩ := aX h0
  refine dR (vW v0 _ hx2) hO ?_
  intro H hO
  rcases x1_0 with _ | y4 | y5
  · replace h0 : (some x1_1) = some r := h0
    refine bB ?_
    refine bI [(4, (aE x1_1))] ?_
    refine bS aD 2 [(2, (aE x1_1))] ?_
    refine bK ?_
    obtain rfl := oI h0
    exact aG (Q_r hO)
  · replace h0 : (some x1_1) = some r := h0
    refine bB ?_
    refine bI [(4, (aE x1_1))] ?_
    refine bS aD 2 [(2, (aE x1_1))] ?_
    refine bK ?_
    obtain rfl := oI h0
    exact aG (Q_r hO)
  · replace h0 : (some x1_1) = some r := h0
    refine bB ?_
    refine bI [(4, (aE x1_1))] ?_
    refine bS aD 2 [(2, (aE x1_1))] ?_
    refine bK ?_
    obtain rfl := oI h0
    exact aG (Q_r hO)

theorem OV (v0 : aB) (r : Bool) (h0 : tY v0 = some r) : dL Try.prog 98 [(aC v0)] (aE r) := by
  intro H0
  refine dG Try.func98 ?_
  have hO := aJ.start H0
  unfold tY at h0
  refine aN ?_
  refine aV aD 2 ?_
  refine oM 3 (aC v0) (by kernel_rfl) (by kernel_rfl) ?_
  refine bB ?_
  refine bI [(1, (.rp (aC v0)))] ?_
  refine aN ?_
  refine aV aD 4 ?_
  refine bU 1 ?_
  obtain ⟨x1, hx2, h0⟩ := aX h0
  refine dR (QA v0 _ hx2) hO ?_
  intro H hO
  refine bB ?_
  refine bI [(2, (aE (!x1)))] ?_
  refine bK ?_
  obtain rfl := oI h0
  exact aG (Q_r hO)

theorem DB (r0 : (List aB)) (r : Bool) (h0 : sJ r0 = some r) : dL Try.prog 76 [(eL aC r0)] (aE r) := by
  intro H0
  refine dG Try.func76 ?_
  have hO := aJ.start H0
  unfold sJ at h0
  refine aT aD 1 [] [] ?_
  refine aN ?_
  refine aT aD 3 [] [(5, (aE (decide ((8 : Int) < (lN r0)))))] ?_
  refine bF h0 (fun h0 => ?_) (fun h0 => ?_)
  · refine bS aD 1 [(2, (aE false))] ?_
    refine bK ?_
    obtain rfl := oI h0
    exact aG (aP (Q_r hO))
  refine bG ?_
  refine bI [(0, (eL aC r0))] ?_
  refine aN ?_
  refine aV aD 4 ?_
  refine bU 1 ?_
  obtain ⟨x2, hx3, h0⟩ := aX h0
  refine dR (qZ r0 98 [] [] (fun y0 => tY y0) (fun y0 r h => OV y0 r h) _ hx3) hO ?_
  intro H hO
  refine bB ?_
  refine bI [(2, (aE (!x2)))] ?_
  refine bK ?_
  obtain rfl := oI h0
  exact aG (Q_r hO)

theorem HH (t0 : (List aB)) (r : (Int × (List aB))) (h0 : sC t0 = some r) : zT Try.prog 101 [(.rp (eL aC t0))] (fun lo => (.fn (.func 102) [] [(.lp lo 0 0), (.rp (eL aC r.2))])) 1 [(eI r.1)] := by
  intro H0
  refine dG Try.func101 ?_
  have hO := aJ.start H0
  unfold sC at h0
  refine aT aD 1 [] [] ?_
  refine aN ?_
  refine aV aD 2 ?_
  refine sF 1 (eI 0) (by kernel_rfl) (by kernel_rfl) hO ?_
  intro lo1 H hO
  refine rW 0 lo1 1 0 (eI 0) (eI (-1 : Int)) [(eI 0)] [(lo1, 1, [(eI (-1 : Int))])] hO rfl (by kernel_rfl) ?_
  intro H hO
  refine iP ?_
  refine bT [] [(2, (.lp lo1 0 0))] ?_
  refine aT aD 2 [0] [(1, (.fn (.func 102) [] [(.lp lo1 0 0), (.rp (eL aC t0))]))] ?_
  refine bK ?_
  obtain rfl := oI h0
  exact aG (mK (x := (.fn (.func 102) [] [(.lp lo1 0 0), (.rp (eL aC t0))])) (by kernel_rfl) (aO.refl _) ⟨lo1, rfl, hO⟩)

theorem rU {σ : Type} (I : σ → Gs → Prop) (s0 : (List aB)) (f1_v : V) (f1 : σ → aB → Option (σ × Bool)) (f1_h : ∀ st a0 st2 r, f1 st a0 = some (st2, r) → EJ Try.prog f1_v I st [(aC a0)] st2 (aE r)) (sg0 : σ) (r : (σ × Int)) (h0 : gR s0 f1 sg0 = some r) : yB Try.prog 100 I sg0 [(eL aC s0), f1_v] r.1 (eI r.2) := by
  intro H0 G0 hI hg
  refine dG Try.func100 ?_
  obtain ⟨G, hO, hI⟩ : ∃ G, aJ ⟨H0, List.map (fun p : Nat × dW => p.1) G0, G⟩ H0 [] ∧ I sg0 G := ⟨G0, aJ.HP hg, hI⟩
  clear hg
  unfold gR at h0
  refine aT aD 1 [] [] ?_
  refine dN (fun T H => ∃ sg : σ, ∃ G : Gs, Has T [] ∧ aJ ⟨H0, List.map (fun p : Nat × dW => p.1) G0, G⟩ H [] ∧ I sg G ∧ eV f1 sg = some r) ?_ ?_
  · clear hO hI h0
    rintro T H ⟨sg, G, hT, hO, hI, h0⟩
    refine aY hT ?_
    clear hT
    unfold eV at h0
    refine bS aD 1 [(4, (eI (-1 : Int)))] ?_
    refine bK ?_
    obtain rfl := oI h0
    exact aG (mK (x := (eI (-1 : Int))) (by kernel_rfl) (aO.refl _) ⟨rfl, G, hI, hO.CL⟩)
  refine aT aD 3 [] [(7, (eI (lN s0))), (8, (eI (0 : Int)))] ?_
  refine cA 0 ?_
  refine eU [(0, (eL aC s0)), (1, f1_v), (7, (eI (lN s0))), (8, (eI (0 : Int)))] ?_
  refine dS (fun T H => ∃ sg : σ, ∃ t7 : Int, ∃ t8 : Int, ∃ G : Gs, Has T [(0, (eL aC s0)), (1, f1_v), (7, (eI t7)), (8, (eI t8))] ∧ aJ ⟨H0, List.map (fun p : Nat × dW => p.1) G0, G⟩ H [] ∧ I sg G ∧ gL f1 sg s0 t7 t8 = some r) ?_ ⟨sg0, (lN s0), (0 : Int), G, .eq (by kernel_rfl), hO, hI, h0⟩
  clear hO hI h0
  rintro T H ⟨sg, t7, t8, G, hT, hO, hI, h0⟩
  refine aY hT ?_
  clear hT
  unfold gL at h0
  obtain ⟨rr0, hl0, h0⟩ := aX h0
  refine cS (by kernel_rfl) (fun (s : σ × Int) T H => ∃ G : Gs, Has T [(0, (eL aC s0)), (1, f1_v), (7, (eI t7)), (8, (eI s.2))] ∧ aJ ⟨H0, List.map (fun p : Nat × dW => p.1) G0, G⟩ H [] ∧ I s.1 G) hl0 ⟨G, .eq (by kernel_rfl), hO, hI⟩ ?_
  clear hO hI
  rintro k0 s out1 T H ⟨G, hT, hO, hI⟩ h1 ho0
  obtain ⟨sg, t8⟩ := s
  replace h1 : cI f1 s0 t7 sg t8 = some out1 := h1
  try dsimp only at hT
  refine aY hT ?_
  clear hT
  unfold cI at h1
  refine aT aD 1 [] [(9, (aE (decide (t8 < t7))))] ?_
  refine aN ?_
  refine bF h1 (fun h1 => ?_) (fun h1 => ?_)
  · refine bG ?_
    refine bI [(0, (eL aC s0)), (1, f1_v), (7, (eI t7)), (8, (eI t8))] ?_
    refine aN ?_
    refine cA 1 ?_
    refine aT aD 2 [] [(5, (eI t8))] ?_
    refine aN ?_
    refine aV aD 6 ?_
    obtain ⟨c2, h1⟩ := aU h1
    refine oA 5 [0 ≤ t8 ∧ t8 < (lN s0)] ⟨c2, trivial⟩ ?_
    obtain ⟨x3, hx4, h1⟩ := aX h1
    refine RI (I := I) f1_v [(aC (gD s0 t8))] (aE x3.2) (by kernel_rfl) (by kernel_rfl) (f1_h _ (gD s0 t8) x3.1 x3.2 hx4) hO hI ?_
    intro G H hO hI
    refine iP ?_
    refine bT [] [(16, (aE x3.2))] ?_
    refine bF h1 (fun h1 => ?_) (fun h1 => ?_)
    · refine bS aD 2 [(4, (eI t8))] ?_
      refine bK ?_
      obtain rfl := oI h1
      obtain rfl : _ = rr0 := ho0
      replace h0 : some (x3.1, t8) = some r := h0
      obtain rfl := oI h0
      exact aG (bE (aP (aP (bE (aP (mK (x := (eI t8)) (by kernel_rfl) (aO.refl _) ⟨rfl, G, hI, hO.CL⟩))))))
    refine bG ?_
    refine gO [(0, (eL aC s0)), (1, f1_v), (7, (eI t7)), (8, (eI t8))] ?_
    refine aG (aW (aF (?_)))
    refine aV aD 2 ?_
    refine bB ?_
    exact aG (aF (⟨rfl, _, (oI h1).symm, _, .eq (by kernel_rfl), hO, hI⟩))
  refine eX 0 ?_
  obtain rfl := oI h1
  obtain rfl : _ = rr0 := ho0
  replace h0 : eV f1 sg = some r := h0
  exact aG (aR (aR (bQ (aF (⟨rfl, _, _, .eq (by kernel_rfl), hO, hI, h0⟩)))))

theorem EN (v0 : aB) (lo1p : Nat) (t1 : Int) (t2 : (List aB)) (r : (Bool × Int)) (h0 : jL v0 t1 t2 = some r) : mJ Try.prog 102 lo1p 1 [(eI t1)] [(eI r.2)] [(aC v0), (.lp lo1p 0 0), (.rp (eL aC t2))] (aE r.1) := by
  intro H0 hl0
  refine dG Try.func102 ?_
  have hO := aJ.sW hl0
  clear hl0
  unfold jL at h0
  refine aN ?_
  refine aV aD 2 ?_
  refine oM 3 (aC v0) (by kernel_rfl) (by kernel_rfl) ?_
  refine bB ?_
  refine bT [0] [(3, (.rp (aC v0)))] ?_
  refine aN ?_
  refine aV aD 3 ?_
  refine tT 0 lo1p 1 0 (eI t1) (eI t1) [(eI t1)] hO rfl ?_
  refine bU 2 ?_
  refine rW 0 lo1p 1 0 (eI t1) (eI (wR (t1 + (1 : Int)))) [(eI t1)] [(lo1p, 1, [(eI (wR (t1 + (1 : Int))))])] hO rfl (by kernel_rfl) ?_
  intro H hO
  refine iP ?_
  refine bT [] [] ?_
  refine aN ?_
  refine fD (fC [7, 8, 11]) aD 7 ?_
  refine mZ 2 ?_
  refine gY 0 lo1p 1 0 (eI (wR (t1 + (1 : Int)))) (eI (wR (t1 + (1 : Int)))) [(eI (wR (t1 + (1 : Int))))] hO rfl ?_
  obtain ⟨c1, h0⟩ := aU h0
  refine zJ (Ds := [0 ≤ (wR (t1 + (1 : Int))) ∧ (wR (t1 + (1 : Int))) < (lN t2)]) (by kernel_rfl) ⟨c1, trivial⟩ ?_
  refine bI [(1, (.lp lo1p 0 0)), (4, (aE (!((decide (v0.Kind = ((gD t2 (wR (t1 + (1 : Int)))).Kind))) && ((decide (v0.Num = ((gD t2 (wR (t1 + (1 : Int)))).Num))) && ((mI v0.Text ((gD t2 (wR (t1 + (1 : Int)))).Text)) && true))))))] ?_
  refine bK ?_
  obtain rfl := oI h0
  exact aG (mK (x := (aE (!((decide (v0.Kind = ((gD t2 (wR (t1 + (1 : Int)))).Kind))) && ((decide (v0.Num = ((gD t2 (wR (t1 + (1 : Int)))).Num))) && ((mI v0.Text ((gD t2 (wR (t1 + (1 : Int)))).Text)) && true)))))) (by kernel_rfl) (aO.refl _) ⟨rfl, hO.ext, hO.at 0 (by kernel_rfl), rfl⟩)

theorem rY (x0 : Int) (r : Bool) (h0 : kL x0 = some r) : dL Try.prog 95 [(eI x0)] (aE r) := by
  intro H0
  refine dG Try.func95 ?_
  have hO := aJ.start H0
  unfold kL at h0
  refine aT aD 1 [] [] ?_
  refine bS aD 4 [(2, (aE (!decide (x0 = x0))))] ?_
  refine bK ?_
  obtain rfl := oI h0
  exact aG (Q_r hO)

theorem ET (x0 : Int) (y1 : Int) (r : Int) (h0 : nA x0 y1 = some r) : dL Try.prog 103 [(eI x0), (eI y1)] (eI r) := by
  intro H0
  refine dG Try.func103 ?_
  have hO := aJ.start H0
  unfold nA at h0
  refine aT aD 1 [] [] ?_
  refine aN ?_
  refine aV aD 3 ?_
  refine bU 1 ?_
  obtain ⟨x1, hx2, h0⟩ := aX h0
  refine dR (rY x0 _ hx2) hO ?_
  intro H hO
  refine bB ?_
  refine bT [] [(5, (aE x1))] ?_
  refine aN ?_
  refine aV aD 3 ?_
  refine bU 1 ?_
  obtain ⟨x4, hx5, h0⟩ := aX h0
  refine dR (rY y1 _ hx5) hO ?_
  intro H hO
  refine bB ?_
  refine bT [] [(6, (aE x4))] ?_
  refine aN ?_
  refine aT aD 1 [5] [(11, (aE x1))] ?_
  refine bF h0 (fun h0 => ?_) (fun h0 => ?_)
  · refine aN ?_
    refine bS aD 1 [(12, (aE x4))] ?_
    refine bF h0 (fun h0 => ?_) (fun h0 => ?_)
    · refine bS aD 1 [(4, (eI (0 : Int)))] ?_
      refine bK ?_
      obtain rfl := oI h0
      exact aG (aP (aP (Q_r hO)))
    refine bG ?_
    refine bI [] ?_
    refine bS aD 1 [(4, (eI (-1 : Int)))] ?_
    refine bK ?_
    obtain rfl := oI h0
    exact aG (aP (Q_r hO))
  refine bG ?_
  refine bI [(0, (eI x0)), (1, (eI y1)), (6, (aE x4))] ?_
  refine aN ?_
  refine aT aD 1 [6] [(13, (aE x4))] ?_
  refine bF h0 (fun h0 => ?_) (fun h0 => ?_)
  · refine bS aD 1 [(4, (eI (1 : Int)))] ?_
    refine bK ?_
    obtain rfl := oI h0
    exact aG (aP (Q_r hO))
  refine bG ?_
  refine bI [(0, (eI x0)), (1, (eI y1))] ?_
  refine aN ?_
  refine aT aD 3 [] [(16, (aE (decide (x0 < y1))))] ?_
  refine bF h0 (fun h0 => ?_) (fun h0 => ?_)
  · refine bS aD 1 [(4, (eI (-1 : Int)))] ?_
    refine bK ?_
    obtain rfl := oI h0
    exact aG (aP (Q_r hO))
  refine bG ?_
  refine bI [(0, (eI x0)), (1, (eI y1))] ?_
  refine aN ?_
  refine bS aD 3 [(19, (aE (decide (y1 < x0))))] ?_
  refine bF h0 (fun h0 => ?_) (fun h0 => ?_)
  · refine bS aD 1 [(4, (eI (1 : Int)))] ?_
    refine bK ?_
    obtain rfl := oI h0
    exact aG (aP (Q_r hO))
  refine bG ?_
  refine bI [] ?_
  refine bS aD 1 [(4, (eI (0 : Int)))] ?_
  refine bK ?_
  obtain rfl := oI h0
  exact aG (Q_r hO)

theorem sN (x0 : Int) (r : Bool) (h0 : jZ x0 = some r) : dL Try.prog 114 [(eI x0)] (aE r) := by
  intro H0
  refine dG Try.func114 ?_
  have hO := aJ.start H0
  unfold jZ at h0
  refine aT aD 1 [] [] ?_
  refine bS aD 4 [(2, (aE (!decide (x0 = x0))))] ?_
  refine bK ?_
  obtain rfl := oI h0
  exact aG (Q_r hO)

theorem xR (x0 : Int) (y1 : Int) (r : Int) (h0 : fQ x0 y1 = some r) : dL Try.prog 111 [(eI x0), (eI y1)] (eI r) := by
  intro H0
  refine dG Try.func111 ?_
  have hO := aJ.start H0
  unfold fQ at h0
  refine aT aD 1 [] [] ?_
  refine aN ?_
  refine aV aD 3 ?_
  refine bU 1 ?_
  obtain ⟨x1, hx2, h0⟩ := aX h0
  refine dR (sN x0 _ hx2) hO ?_
  intro H hO
  refine bB ?_
  refine bT [] [(5, (aE x1))] ?_
  refine aN ?_
  refine aV aD 3 ?_
  refine bU 1 ?_
  obtain ⟨x4, hx5, h0⟩ := aX h0
  refine dR (sN y1 _ hx5) hO ?_
  intro H hO
  refine bB ?_
  refine bT [] [(6, (aE x4))] ?_
  refine aN ?_
  refine aT aD 1 [5] [(11, (aE x1))] ?_
  refine bF h0 (fun h0 => ?_) (fun h0 => ?_)
  · refine aN ?_
    refine bS aD 1 [(12, (aE x4))] ?_
    refine bF h0 (fun h0 => ?_) (fun h0 => ?_)
    · refine bS aD 1 [(4, (eI (0 : Int)))] ?_
      refine bK ?_
      obtain rfl := oI h0
      exact aG (aP (aP (Q_r hO)))
    refine bG ?_
    refine bI [] ?_
    refine bS aD 1 [(4, (eI (-1 : Int)))] ?_
    refine bK ?_
    obtain rfl := oI h0
    exact aG (aP (Q_r hO))
  refine bG ?_
  refine bI [(0, (eI x0)), (1, (eI y1)), (6, (aE x4))] ?_
  refine aN ?_
  refine aT aD 1 [6] [(13, (aE x4))] ?_
  refine bF h0 (fun h0 => ?_) (fun h0 => ?_)
  · refine bS aD 1 [(4, (eI (1 : Int)))] ?_
    refine bK ?_
    obtain rfl := oI h0
    exact aG (aP (Q_r hO))
  refine bG ?_
  refine bI [(0, (eI x0)), (1, (eI y1))] ?_
  refine aN ?_
  refine aT aD 3 [] [(16, (aE (decide (x0 < y1))))] ?_
  refine bF h0 (fun h0 => ?_) (fun h0 => ?_)
  · refine bS aD 1 [(4, (eI (-1 : Int)))] ?_
    refine bK ?_
    obtain rfl := oI h0
    exact aG (aP (Q_r hO))
  refine bG ?_
  refine bI [(0, (eI x0)), (1, (eI y1))] ?_
  refine aN ?_
  refine bS aD 3 [(19, (aE (decide (y1 < x0))))] ?_
  refine bF h0 (fun h0 => ?_) (fun h0 => ?_)
  · refine bS aD 1 [(4, (eI (1 : Int)))] ?_
    refine bK ?_
    obtain rfl := oI h0
    exact aG (aP (Q_r hO))
  refine bG ?_
  refine bI [] ?_
  refine bS aD 1 [(4, (eI (0 : Int)))] ?_
  refine bK ?_
  obtain rfl := oI h0
  exact aG (Q_r hO)

theorem vA (a0 : ByteArray) (b1 : ByteArray) (r : Int) (h0 : jC a0 b1 = some r) : dL Try.prog 115 [(wW a0), (wW b1)] (eI r) := by
  intro H0
  refine dG Try.func115 ?_
  have hO := aJ.start H0
  unfold jC at h0
  refine aT aD 1 [] [] ?_
  refine aN ?_
  refine aV aD 4 ?_
  refine bU 2 ?_
  refine ZK 116 [(wW a0), (wW b1)] (eI (JE a0 b1)) (by kernel_rfl) (by kernel_rfl) (WX Try.func116 (by kernel_rfl) (by kernel_rfl) (by kernel_rfl) (by kernel_rfl) a0 b1) hO ?_
  intro H hO
  refine bB ?_
  refine bI [(4, (eI (JE a0 b1)))] ?_
  refine bK ?_
  obtain rfl := oI h0
  exact aG (Q_r hO)

theorem EP (a0 : ByteArray) (b1 : ByteArray) (r : Int) (h0 : lP a0 b1 = some r) : dL Try.prog 112 [(wW a0), (wW b1)] (eI r) := by
  intro H0
  refine dG Try.func112 ?_
  have hO := aJ.start H0
  unfold lP at h0
  refine aT aD 1 [] [] ?_
  refine aN ?_
  refine aV aD 4 ?_
  refine bU 2 ?_
  obtain ⟨x1, hx2, h0⟩ := aX h0
  refine dR (vA a0 b1 _ hx2) hO ?_
  intro H hO
  refine bB ?_
  refine bI [(4, (eI x1))] ?_
  refine bK ?_
  obtain rfl := oI h0
  exact aG (Q_r hO)

theorem GZ (a0 : aB) (b1 : aB) (r : Int) (h0 : oL a0 b1 = some r) : dL Try.prog 104 [(aC a0), (aC b1)] (eI r) := by
  intro H0
  refine dG Try.func104 ?_
  have hO := aJ.start H0
  unfold oL at h0
  refine aN ?_
  refine aV aD 3 ?_
  refine oM 3 (aC a0) (by kernel_rfl) (by kernel_rfl) ?_
  refine oM 3 (aC b1) (by kernel_rfl) (by kernel_rfl) ?_
  refine bB ?_
  refine bI [(2, (.rp (aC a0))), (3, (.rp (aC b1)))] ?_
  refine aN ?_
  refine aV aD 7 ?_
  refine bU 1 ?_
  obtain ⟨⟨x1_0, x1_1⟩, hx2, h0⟩ := aX h0
  refine dR (vW a0 _ hx2) hO ?_
  intro H hO
  rcases x1_0 with _ | y4 | y5
  · replace h0 : ((kY b1).bind fun (x6_0, x6_1) => match x6_0 with | .none_ => (cond ((!x1_1) || (!x6_1)) (some (0 : Int)) (none)) | .k_number y9 => (cond ((!x1_1) || (!x6_1)) (some (0 : Int)) (some (1 : Int))) | .k_words y10 => (cond ((!x1_1) || (!x6_1)) (some (0 : Int)) (none))) = some r := h0
    refine bB ?_
    refine bT [2] [(5, (bD bL.none_)), (6, (aE x1_1))] ?_
    refine aN ?_
    refine aV aD 7 ?_
    refine bU 1 ?_
    obtain ⟨⟨x6_0, x6_1⟩, hx7, h0⟩ := aX h0
    refine dR (vW b1 _ hx7) hO ?_
    intro H hO
    rcases x6_0 with _ | y9 | y10
    · replace h0 : (cond ((!x1_1) || (!x6_1)) (some (0 : Int)) (none)) = some r := h0
      refine bB ?_
      refine bT [3] [(7, (bD bL.none_)), (8, (aE x6_1))] ?_
      refine aN ?_
      refine aT aD 6 [6, 8] [(28, (aE ((!x1_1) || (!x6_1))))] ?_
      refine bF h0 (fun h0 => ?_) (fun h0 => ?_)
      · refine bS aD 1 [(4, (eI (0 : Int)))] ?_
        refine bK ?_
        obtain rfl := oI h0
        exact aG (aP (Q_r hO))
      refine bG ?_
      refine bI [(5, (bD bL.none_)), (7, (bD bL.none_))] ?_
      refine aT aD 7 [] [(9, (eI 0)), (10, (aE false))] ?_
      refine aT aD 7 [] [(11, (eI 0)), (12, (aE false))] ?_
      refine aN ?_
      refine cA 0 ?_
      refine aT aD 5 [] [(39, (aE false))] ?_
      refine mA (false) (fun hc12 => ?_) (fun hc12 => ?_)
      · cases hc12
      · refine aT aD 2 [9, 10, 11, 39] [(47, (aE false))] ?_
        refine mA (false) (fun hc13 => ?_) (fun hc13 => ?_)
        · cases hc13
        · refine bS aD 2 [(5, (bD bL.none_)), (7, (bD bL.none_)), (49, (aE false))] ?_
          refine mA (false) (fun hc14 => ?_) (fun hc14 => ?_)
          · cases hc14
          · refine bG ?_
            refine gO [(5, (bD bL.none_)), (7, (bD bL.none_))] ?_
            refine aG (aW (aF (?_)))
            refine aN ?_
            refine fD (fC []) aD 6 ?_
            cases h0
    · replace h0 : (cond ((!x1_1) || (!x6_1)) (some (0 : Int)) (some (1 : Int))) = some r := h0
      refine bB ?_
      refine bT [3] [(7, (bD (bL.k_number y9))), (8, (aE x6_1))] ?_
      refine aN ?_
      refine aT aD 6 [6, 8] [(28, (aE ((!x1_1) || (!x6_1))))] ?_
      refine bF h0 (fun h0 => ?_) (fun h0 => ?_)
      · refine bS aD 1 [(4, (eI (0 : Int)))] ?_
        refine bK ?_
        obtain rfl := oI h0
        exact aG (aP (Q_r hO))
      refine bG ?_
      refine bI [(5, (bD bL.none_)), (7, (bD (bL.k_number y9)))] ?_
      refine aT aD 7 [] [(9, (eI 0)), (10, (aE false))] ?_
      refine aT aD 7 [] [(11, (eI y9)), (12, (aE true))] ?_
      refine aN ?_
      refine cA 0 ?_
      refine aT aD 5 [] [(39, (aE false))] ?_
      refine mA (false) (fun hc16 => ?_) (fun hc16 => ?_)
      · cases hc16
      · refine aT aD 2 [9, 10, 11, 39] [(47, (aE false))] ?_
        refine mA (false) (fun hc17 => ?_) (fun hc17 => ?_)
        · cases hc17
        · refine bS aD 2 [(5, (bD bL.none_)), (7, (bD (bL.k_number y9))), (49, (aE true))] ?_
          refine mA (true) (fun hc18 => ?_) (fun hc18 => ?_)
          · refine bS aD 1 [(4, (eI (1 : Int)))] ?_
            refine bK ?_
            obtain rfl := oI h0
            exact aG (bE (aP (Q_r hO)))
          · cases hc18
    · replace h0 : (cond ((!x1_1) || (!x6_1)) (some (0 : Int)) (none)) = some r := h0
      refine bB ?_
      refine bT [3] [(7, (bD (bL.k_words y10))), (8, (aE x6_1))] ?_
      refine aN ?_
      refine aT aD 6 [6, 8] [(28, (aE ((!x1_1) || (!x6_1))))] ?_
      refine bF h0 (fun h0 => ?_) (fun h0 => ?_)
      · refine bS aD 1 [(4, (eI (0 : Int)))] ?_
        refine bK ?_
        obtain rfl := oI h0
        exact aG (aP (Q_r hO))
      refine bG ?_
      refine bI [(5, (bD bL.none_)), (7, (bD (bL.k_words y10)))] ?_
      refine aT aD 7 [] [(9, (eI 0)), (10, (aE false))] ?_
      refine aT aD 7 [] [(11, (eI 0)), (12, (aE false))] ?_
      refine aN ?_
      refine cA 0 ?_
      refine aT aD 5 [] [(39, (aE false))] ?_
      refine mA (false) (fun hc20 => ?_) (fun hc20 => ?_)
      · cases hc20
      · refine aT aD 2 [9, 10, 11, 39] [(47, (aE false))] ?_
        refine mA (false) (fun hc21 => ?_) (fun hc21 => ?_)
        · cases hc21
        · refine bS aD 2 [(5, (bD bL.none_)), (7, (bD (bL.k_words y10))), (49, (aE false))] ?_
          refine mA (false) (fun hc22 => ?_) (fun hc22 => ?_)
          · cases hc22
          · refine bG ?_
            refine gO [(5, (bD bL.none_)), (7, (bD (bL.k_words y10)))] ?_
            refine aG (aW (aF (?_)))
            refine aN ?_
            refine fD (fC []) aD 6 ?_
            cases h0
  · replace h0 : ((kY b1).bind fun (x23_0, x23_1) => match x23_0 with | .none_ => (cond ((!x1_1) || (!x23_1)) (some (0 : Int)) (some (-1 : Int))) | .k_number y26 => (cond ((!x1_1) || (!x23_1)) (some (0 : Int)) ((fQ y4 y26).bind fun x33 => some x33)) | .k_words y27 => (cond ((!x1_1) || (!x23_1)) (some (0 : Int)) (some (-1 : Int)))) = some r := h0
    refine bB ?_
    refine bT [2] [(5, (bD (bL.k_number y4))), (6, (aE x1_1))] ?_
    refine aN ?_
    refine aV aD 7 ?_
    refine bU 1 ?_
    obtain ⟨⟨x23_0, x23_1⟩, hx24, h0⟩ := aX h0
    refine dR (vW b1 _ hx24) hO ?_
    intro H hO
    rcases x23_0 with _ | y26 | y27
    · replace h0 : (cond ((!x1_1) || (!x23_1)) (some (0 : Int)) (some (-1 : Int))) = some r := h0
      refine bB ?_
      refine bT [3] [(7, (bD bL.none_)), (8, (aE x23_1))] ?_
      refine aN ?_
      refine aT aD 6 [6, 8] [(28, (aE ((!x1_1) || (!x23_1))))] ?_
      refine bF h0 (fun h0 => ?_) (fun h0 => ?_)
      · refine bS aD 1 [(4, (eI (0 : Int)))] ?_
        refine bK ?_
        obtain rfl := oI h0
        exact aG (aP (Q_r hO))
      refine bG ?_
      refine bI [(5, (bD (bL.k_number y4))), (7, (bD bL.none_))] ?_
      refine aT aD 7 [] [(9, (eI y4)), (10, (aE true))] ?_
      refine aT aD 7 [] [(11, (eI 0)), (12, (aE false))] ?_
      refine aN ?_
      refine cA 0 ?_
      refine aT aD 5 [] [(39, (aE false))] ?_
      refine mA (false) (fun hc29 => ?_) (fun hc29 => ?_)
      · cases hc29
      · refine aT aD 2 [9, 10, 11, 39] [(47, (aE true))] ?_
        refine mA (true) (fun hc30 => ?_) (fun hc30 => ?_)
        · refine bS aD 1 [(4, (eI (-1 : Int)))] ?_
          refine bK ?_
          obtain rfl := oI h0
          exact aG (bE (aP (Q_r hO)))
        · cases hc30
    · replace h0 : (cond ((!x1_1) || (!x23_1)) (some (0 : Int)) ((fQ y4 y26).bind fun x33 => some x33)) = some r := h0
      refine bB ?_
      refine bT [3] [(7, (bD (bL.k_number y26))), (8, (aE x23_1))] ?_
      refine aN ?_
      refine aT aD 6 [6, 8] [(28, (aE ((!x1_1) || (!x23_1))))] ?_
      refine bF h0 (fun h0 => ?_) (fun h0 => ?_)
      · refine bS aD 1 [(4, (eI (0 : Int)))] ?_
        refine bK ?_
        obtain rfl := oI h0
        exact aG (aP (Q_r hO))
      refine bG ?_
      refine bI [(5, (bD (bL.k_number y4))), (7, (bD (bL.k_number y26)))] ?_
      refine aT aD 7 [] [(9, (eI y4)), (10, (aE true))] ?_
      refine aT aD 7 [] [(11, (eI y26)), (12, (aE true))] ?_
      refine aN ?_
      refine cA 0 ?_
      refine aT aD 5 [] [(39, (aE true))] ?_
      refine mA (true) (fun hc32 => ?_) (fun hc32 => ?_)
      · refine aN ?_
        refine aV aD 4 ?_
        refine bU 2 ?_
        obtain ⟨x33, hx34, h0⟩ := aX h0
        refine dR (xR y4 y26 _ hx34) hO ?_
        intro H hO
        refine bB ?_
        refine bI [(4, (eI x33))] ?_
        refine bK ?_
        obtain rfl := oI h0
        exact aG (bE (aP (Q_r hO)))
      · cases hc32
    · replace h0 : (cond ((!x1_1) || (!x23_1)) (some (0 : Int)) (some (-1 : Int))) = some r := h0
      refine bB ?_
      refine bT [3] [(7, (bD (bL.k_words y27))), (8, (aE x23_1))] ?_
      refine aN ?_
      refine aT aD 6 [6, 8] [(28, (aE ((!x1_1) || (!x23_1))))] ?_
      refine bF h0 (fun h0 => ?_) (fun h0 => ?_)
      · refine bS aD 1 [(4, (eI (0 : Int)))] ?_
        refine bK ?_
        obtain rfl := oI h0
        exact aG (aP (Q_r hO))
      refine bG ?_
      refine bI [(5, (bD (bL.k_number y4))), (7, (bD (bL.k_words y27)))] ?_
      refine aT aD 7 [] [(9, (eI y4)), (10, (aE true))] ?_
      refine aT aD 7 [] [(11, (eI 0)), (12, (aE false))] ?_
      refine aN ?_
      refine cA 0 ?_
      refine aT aD 5 [] [(39, (aE false))] ?_
      refine mA (false) (fun hc37 => ?_) (fun hc37 => ?_)
      · cases hc37
      · refine aT aD 2 [9, 10, 11, 39] [(47, (aE true))] ?_
        refine mA (true) (fun hc38 => ?_) (fun hc38 => ?_)
        · refine bS aD 1 [(4, (eI (-1 : Int)))] ?_
          refine bK ?_
          obtain rfl := oI h0
          exact aG (bE (aP (Q_r hO)))
        · cases hc38
  · replace h0 : ((kY b1).bind fun (x39_0, x39_1) => match x39_0 with | .none_ => (cond ((!x1_1) || (!x39_1)) (some (0 : Int)) (none)) | .k_number y42 => (cond ((!x1_1) || (!x39_1)) (some (0 : Int)) (some (1 : Int))) | .k_words y43 => (cond ((!x1_1) || (!x39_1)) (some (0 : Int)) ((lP y5 y43).bind fun x56 => some x56))) = some r := h0
    refine bB ?_
    refine bT [2] [(5, (bD (bL.k_words y5))), (6, (aE x1_1))] ?_
    refine aN ?_
    refine aV aD 7 ?_
    refine bU 1 ?_
    obtain ⟨⟨x39_0, x39_1⟩, hx40, h0⟩ := aX h0
    refine dR (vW b1 _ hx40) hO ?_
    intro H hO
    rcases x39_0 with _ | y42 | y43
    · replace h0 : (cond ((!x1_1) || (!x39_1)) (some (0 : Int)) (none)) = some r := h0
      refine bB ?_
      refine bT [3] [(7, (bD bL.none_)), (8, (aE x39_1))] ?_
      refine aN ?_
      refine aT aD 6 [6, 8] [(28, (aE ((!x1_1) || (!x39_1))))] ?_
      refine bF h0 (fun h0 => ?_) (fun h0 => ?_)
      · refine bS aD 1 [(4, (eI (0 : Int)))] ?_
        refine bK ?_
        obtain rfl := oI h0
        exact aG (aP (Q_r hO))
      refine bG ?_
      refine bI [(5, (bD (bL.k_words y5))), (7, (bD bL.none_))] ?_
      refine aT aD 7 [] [(9, (eI 0)), (10, (aE false))] ?_
      refine aT aD 7 [] [(11, (eI 0)), (12, (aE false))] ?_
      refine aN ?_
      refine cA 0 ?_
      refine aT aD 5 [] [(39, (aE false))] ?_
      refine mA (false) (fun hc45 => ?_) (fun hc45 => ?_)
      · cases hc45
      · refine aT aD 2 [9, 10, 11, 39] [(47, (aE false))] ?_
        refine mA (false) (fun hc46 => ?_) (fun hc46 => ?_)
        · cases hc46
        · refine bS aD 2 [(5, (bD (bL.k_words y5))), (7, (bD bL.none_)), (49, (aE false))] ?_
          refine mA (false) (fun hc47 => ?_) (fun hc47 => ?_)
          · cases hc47
          · refine bG ?_
            refine gO [(5, (bD (bL.k_words y5))), (7, (bD bL.none_))] ?_
            refine aG (aW (aF (?_)))
            refine aN ?_
            refine fD (fC []) aD 6 ?_
            cases h0
    · replace h0 : (cond ((!x1_1) || (!x39_1)) (some (0 : Int)) (some (1 : Int))) = some r := h0
      refine bB ?_
      refine bT [3] [(7, (bD (bL.k_number y42))), (8, (aE x39_1))] ?_
      refine aN ?_
      refine aT aD 6 [6, 8] [(28, (aE ((!x1_1) || (!x39_1))))] ?_
      refine bF h0 (fun h0 => ?_) (fun h0 => ?_)
      · refine bS aD 1 [(4, (eI (0 : Int)))] ?_
        refine bK ?_
        obtain rfl := oI h0
        exact aG (aP (Q_r hO))
      refine bG ?_
      refine bI [(5, (bD (bL.k_words y5))), (7, (bD (bL.k_number y42)))] ?_
      refine aT aD 7 [] [(9, (eI 0)), (10, (aE false))] ?_
      refine aT aD 7 [] [(11, (eI y42)), (12, (aE true))] ?_
      refine aN ?_
      refine cA 0 ?_
      refine aT aD 5 [] [(39, (aE false))] ?_
      refine mA (false) (fun hc49 => ?_) (fun hc49 => ?_)
      · cases hc49
      · refine aT aD 2 [9, 10, 11, 39] [(47, (aE false))] ?_
        refine mA (false) (fun hc50 => ?_) (fun hc50 => ?_)
        · cases hc50
        · refine bS aD 2 [(5, (bD (bL.k_words y5))), (7, (bD (bL.k_number y42))), (49, (aE true))] ?_
          refine mA (true) (fun hc51 => ?_) (fun hc51 => ?_)
          · refine bS aD 1 [(4, (eI (1 : Int)))] ?_
            refine bK ?_
            obtain rfl := oI h0
            exact aG (bE (aP (Q_r hO)))
          · cases hc51
    · replace h0 : (cond ((!x1_1) || (!x39_1)) (some (0 : Int)) ((lP y5 y43).bind fun x56 => some x56)) = some r := h0
      refine bB ?_
      refine bT [3] [(7, (bD (bL.k_words y43))), (8, (aE x39_1))] ?_
      refine aN ?_
      refine aT aD 6 [6, 8] [(28, (aE ((!x1_1) || (!x39_1))))] ?_
      refine bF h0 (fun h0 => ?_) (fun h0 => ?_)
      · refine bS aD 1 [(4, (eI (0 : Int)))] ?_
        refine bK ?_
        obtain rfl := oI h0
        exact aG (aP (Q_r hO))
      refine bG ?_
      refine bI [(5, (bD (bL.k_words y5))), (7, (bD (bL.k_words y43)))] ?_
      refine aT aD 7 [] [(9, (eI 0)), (10, (aE false))] ?_
      refine aT aD 7 [] [(11, (eI 0)), (12, (aE false))] ?_
      refine aN ?_
      refine cA 0 ?_
      refine aT aD 5 [] [(39, (aE false))] ?_
      refine mA (false) (fun hc53 => ?_) (fun hc53 => ?_)
      · cases hc53
      · refine aT aD 2 [9, 10, 11, 39] [(47, (aE false))] ?_
        refine mA (false) (fun hc54 => ?_) (fun hc54 => ?_)
        · cases hc54
        · refine bS aD 2 [(5, (bD (bL.k_words y5))), (7, (bD (bL.k_words y43))), (49, (aE false))] ?_
          refine mA (false) (fun hc55 => ?_) (fun hc55 => ?_)
          · cases hc55
          · refine bG ?_
            refine gO [(5, (bD (bL.k_words y5))), (7, (bD (bL.k_words y43)))] ?_
            refine aG (aW (aF (?_)))
            refine aN ?_
            refine fD (fC []) aD 6 ?_
            refine mZ 4 ?_
            obtain ⟨x56, hx57, h0⟩ := aX h0
            refine CE (EP y5 y43 _ hx57) hO ?_
            intro H hO
            refine iF ?_
            refine bI [(4, (eI x56))] ?_
            refine bK ?_
            obtain rfl := oI h0
            exact aG (Q_r hO)

theorem KV (a0 : (List aB)) (b1 : (List aB)) (r : Int) (h0 : qW a0 b1 = some r) : dL Try.prog 77 [(eL aC a0), (eL aC b1)] (eI r) := by
  intro H0
  refine dG Try.func77 ?_
  have hO := aJ.start H0
  unfold qW at h0
  refine aN ?_
  refine aV aD 2 ?_
  refine oM 1 (eL aC b1) (by kernel_rfl) (by kernel_rfl) ?_
  refine bB ?_
  refine bT [1] [(3, (.rp (eL aC b1)))] ?_
  refine aN ?_
  refine aN ?_
  refine aV aD 8 ?_
  refine bU 1 ?_
  obtain ⟨x1, hx2, h0⟩ := aX h0
  refine dR (DB a0 _ hx2) hO ?_
  intro H hO
  refine bU 5 ?_
  obtain ⟨x4, hx5, h0⟩ := aX h0
  refine pR [(10, false)] 76 [(eL aC b1)] (aE x4) (!(!x1)) (by kernel_rfl) (by kernel_rfl) (by kernel_rfl) (fun hb6 => (DB b1 _ (jG hx5 hb6))) hO ?_
  intro H hO
  refine bB ?_
  refine bT [] [(14, (aE ((!x1) || (!x4))))] ?_
  refine bF h0 (fun h0 => ?_) (fun h0 => ?_)
  · refine bS aD 1 [(4, (eI (0 : Int)))] ?_
    refine bK ?_
    obtain rfl := oI h0
    exact aG (aP (Q_r hO))
  refine bG ?_
  refine bI [(0, (eL aC a0)), (3, (.rp (eL aC b1)))] ?_
  refine aT aD 6 [] [(5, (eI (if (lN b1) < (lN a0) then (lN b1) else (lN a0))))] ?_
  refine aN ?_
  refine fD (fC []) aD 7 ?_
  obtain ⟨c8, h0⟩ := aU h0
  refine cH 4 [0 ≤ (if (lN b1) < (lN a0) then (lN b1) else (lN a0)) ∧ (if (lN b1) < (lN a0) then (lN b1) else (lN a0)) ≤ (lN a0)] ⟨c8, trivial⟩ ?_
  obtain ⟨x9, hx10, h0⟩ := aX h0
  refine aAi (L' := fun lo11 => [(lo11, 1, [(eI x9.1)])]) 1 [(eI x9.1)] 101 [(.rp (eL aC b1))] (fun lo11 => (.fn (.func 102) [] [(.lp lo11 0 0), (.rp (eL aC x9.2))])) (by kernel_rfl) (by kernel_rfl) (HH b1 _ hx10) hO (fun _ => by kernel_rfl) ?_
  intro lo11 H hO
  obtain ⟨x12, hx13, h0⟩ := aX h0
  refine ZL (fun st G' => G' = up [(lo11, 1, [(eI st)])] ++ []) [(lo11, 1, [(eI x12.1)])] x9.1 x12.1 100 [(.sl false (Int.toNat (if (lN b1) < (lN a0) then (lN b1) else (lN a0))) (fun i => aC (List.getD a0 i default))), (.fn (.func 102) [] [(.lp lo11 0 0), (.rp (eL aC x9.2))])] (eI x12.2) (by kernel_rfl) (by kernel_rfl) (yB.sub (as0' := [(eL aC (List.take (Int.toNat (if (lN b1) < (lN a0) then (lN b1) else (lN a0))) a0)), (.fn (.func 102) [] [(.lp lo11 0 0), (.rp (eL aC x9.2))])]) (rU _ (List.take (Int.toNat (if (lN b1) < (lN a0) then (lN b1) else (lN a0))) a0) (.fn (.func 102) [] [(.lp lo11 0 0), (.rp (eL aC x9.2))]) (fun st y0 => (jL y0 st x9.2).bind fun o => some (o.2, o.1)) (fun st y0 st2 rr hr => (EN y0 lo11 st x9.2 _ (aA6 hr)).toV (ys := []) (zs := [(aC y0)]) (cs := [(.lp lo11 0 0), (.rp (eL aC x9.2))]) (fun Gx hG => ⟨up [], up [] ++ [], hG, rfl⟩)) _ _ hx13) ⟨ZN (Int.toNat_le.2 (And.right c8)), aO.refl _, trivial⟩) hO rfl (fun _ h => h) ?_
  intro H hO
  refine iF ?_
  replace hO := hO.pick (L' := []) [] (by decide) (by kernel_rfl)
  refine bT [5] [(6, (eI x12.2))] ?_
  refine aN ?_
  refine aT aD 2 [] [(27, (aE (decide (x12.2 < (0 : Int)))))] ?_
  refine bF h0 (fun h0 => ?_) (fun h0 => ?_)
  · refine aN ?_
    refine aV aD 6 ?_
    refine bU 4 ?_
    obtain ⟨x15, hx16, h0⟩ := aX h0
    refine dR (ET (lN a0) (lN b1) _ hx16) hO ?_
    intro H hO
    refine bB ?_
    refine bI [(4, (eI x15))] ?_
    refine bK ?_
    obtain rfl := oI h0
    exact aG (aP (Q_r hO))
  refine bG ?_
  refine bI [(0, (eL aC a0)), (3, (.rp (eL aC b1))), (6, (eI x12.2))] ?_
  refine aN ?_
  refine fD (fC [36, 37, 40, 41]) aD 10 ?_
  obtain ⟨c18, h0⟩ := aU h0
  obtain ⟨c19, h0⟩ := aU h0
  refine cH 8 [0 ≤ x12.2 ∧ x12.2 < (lN a0), 0 ≤ x12.2 ∧ x12.2 < (lN b1)] ⟨c18, c19, trivial⟩ ?_
  obtain ⟨x20, hx21, h0⟩ := aX h0
  refine CE (GZ (gD a0 x12.2) (gD b1 x12.2) _ hx21) hO ?_
  intro H hO
  refine iF ?_
  refine bI [(4, (eI x20))] ?_
  refine bK ?_
  obtain rfl := oI h0
  exact aG (Q_r hO)

theorem EW (l0 : (List aK)) (holds1_f : Nat) (holds1_a holds1_c : List V) (sG : (List aI) → Option Bool) (holds1_h : ∀ a0 r, sG a0 = some r → dL Try.prog holds1_f (holds1_a ++ [(eL aQ a0)] ++ holds1_c) (aE r)) (r : Bool) (h0 : rM l0 sG = some r) : dL Try.prog 56 [(eL aM l0), (.fn (.func holds1_f) holds1_a holds1_c)] (aE r) := by
  intro H0
  refine IZ aD Try.func56 (by kernel_rfl) (by kernel_rfl) (by kernel_rfl) ?_
  have hO := aJ.start H0
  unfold rM at h0
  refine aN ?_
  refine aV aD 2 ?_
  refine oM 1 (.fn (.func holds1_f) holds1_a holds1_c) (by kernel_rfl) (by kernel_rfl) ?_
  refine sF 1 (aE false) (by kernel_rfl) (by kernel_rfl) hO ?_
  intro lo1 H hO
  refine iP ?_
  refine bT [1] [(3, (.rp (.fn (.func holds1_f) holds1_a holds1_c))), (4, (.lp lo1 0 0))] ?_
  refine aN ?_
  refine aT aD 3 [] [(11, (aE (decide ((4096 : Int) < (lN l0)))))] ?_
  refine bF h0 (fun h0 => ?_) (fun h0 => ?_)
  · refine aN ?_
    refine aV aD 1 ?_
    refine rW 0 lo1 1 0 (aE false) (aE false) [(aE false)] [(lo1, 1, [(aE false)])] hO rfl (by kernel_rfl) ?_
    intro H hO
    refine iP ?_
    refine bI [(4, (.lp lo1 0 0))] ?_
    refine bK ?_
    obtain rfl := oI h0
    exact aG (aP (QM0 (.inr rfl) (rs := [.cell 4 4]) (xs := [(aE false)]) (x := (aE false)) (by kernel_rfl) (JC (lo := lo1) (k := 1) (y := (aE false)) (x := (aE false)) 0 hO (by kernel_rfl) (by kernel_rfl) (by kernel_rfl) (by kernel_rfl) vT) (by kernel_rfl) ⟨rfl, hO.out⟩))
  refine bG ?_
  refine bI [(0, (eL aM l0)), (3, (.rp (.fn (.func holds1_f) holds1_a holds1_c))), (4, (.lp lo1 0 0))] ?_
  refine aN ?_
  refine aV aD 1 ?_
  refine CC 1 (.sl true 0 (fun _ => .bad)) (eL aC ([])) (by kernel_rfl) (by kernel_rfl) (by kernel_rfl) (kM) (by kernel_rfl) (by kernel_rfl) hO ?_
  intro lo3 H hO
  refine iP ?_
  refine bT [] [(5, (.lp lo3 0 0))] ?_
  refine aN ?_
  refine aV aD 2 ?_
  refine sF 1 (aE false) (by kernel_rfl) (by kernel_rfl) hO ?_
  intro lo4 H hO
  refine rW 2 lo4 1 0 (aE false) (aE false) [(aE false)] [(lo1, 1, [(aE false)]), (lo3, 1, [(eL aC ([]))]), (lo4, 1, [(aE false)])] hO rfl (by kernel_rfl) ?_
  intro H hO
  refine iP ?_
  refine bT [] [(6, (.lp lo4 0 0))] ?_
  refine aN ?_
  refine aN ?_
  refine aV aD 2 ?_
  refine bU 1 ?_
  obtain ⟨x5, hx6, h0⟩ := aX h0
  refine dR (FE l0 _ hx6) hO ?_
  intro H hO
  refine iP ?_
  refine bT [0] [(13, (.fn (.func 91) [] [(.rp (eL aM x5))]))] ?_
  refine cA 0 ?_
  refine eU [(3, (.rp (.fn (.func holds1_f) holds1_a holds1_c))), (4, (.lp lo1 0 0)), (5, (.lp lo3 0 0)), (6, (.lp lo4 0 0)), (13, (.fn (.func 91) [] [(.rp (eL aM x5))]))] ?_
  refine dS (fun T H => ∃ t4 : Bool, ∃ nD : (List aB), ∃ jT : Bool, ∃ tL : (List aK), Has T [(3, (.rp (.fn (.func holds1_f) holds1_a holds1_c))), (4, (.lp lo1 0 0)), (5, (.lp lo3 0 0)), (6, (.lp lo4 0 0)), (13, (.fn (.func 91) [] [(.rp (eL aM tL))]))] ∧ aJ ⟨H0, [], []⟩ H [(lo1, 1, [(aE t4)]), (lo3, 1, [(eL aC nD)]), (lo4, 1, [(aE jT)])] ∧ vY sG t4 nD jT tL = some r) ?_ ⟨false, [], false, x5, .eq (by kernel_rfl), hO, h0⟩
  clear hO h0
  rintro T H ⟨t4, nD, jT, tL, hT, hO, h0⟩
  refine aY (l := [(3, (.rp (.fn (.func holds1_f) holds1_a holds1_c))), (4, (.lp lo1 0 0)), (5, (.lp lo3 0 0)), (6, (.lp lo4 0 0)), (13, (.fn (.func 91) [] [(.rp (eL aM tL))]))]) hT ?_
  clear hT
  unfold vY at h0
  obtain ⟨o0, hl0, h0⟩ := aX h0
  refine GB (fid := 91) (ys := []) (cs := [(.rp (eL aM tL))]) #[14, 15] (fun (A : AD) (b lL : Nat) (st : (Bool × (List aB) × Bool) ⊕ (Bool × (List aB) × Bool)) (G' : Gs) => Sum.elim (fun (s : Bool × (List aB) × Bool) => G' = (lL, .raw (lG b A .ready none)) :: (up [(lo1, 1, [(aE s.1)]), (lo3, 1, [(eL aC s.2.1)]), (lo4, 1, [(aE s.2.2)])] ++ [])) (fun (s : Bool × (List aB) × Bool) => G' = (lL, .raw (lG b A .done (some .ret))) :: (up [(lo1, 1, [(aE s.1)]), (lo3, 1, [(eL aC s.2.1)]), (lo4, 1, [(aE s.2.2)])] ++ [])) st) (.inl (t4, nD, jT)) o0 (.tup []) (by kernel_rfl) (by kernel_rfl) (by kernel_rfl) hO (fun _ _ => rfl) ?_ ?_
  · intro b lL
    clear hO h0
    refine zW _ b (fun st t14 t15 => rnd (fun (s : Bool × (List aB) × Bool) => nS sG tL s.1 s.2.1 s.2.2 t14 t15) st) ?_ tL _ _ hl0
    intro st t14 t15 out1 rr hr
    obtain ⟨s, rfl, h1, rfl⟩ := WS hr
    clear hr
    intro Hr Gr hi hg
    obtain ⟨t4, nD, jT⟩ := s
    dsimp only [Sum.elim_inl] at hi
    obtain rfl := hi
    replace h1 : nS sG tL t4 nD jT t14 t15 = some out1 := h1
    unfold nS at h1
    obtain ⟨E1, hE, hO⟩ := AI hg
    refine AF (GD (hO.gm 0 _ rfl).2 (by kernel_rfl) (by kernel_rfl) ?_)
    refine eU [(3, (.rp (.fn (.func holds1_f) holds1_a holds1_c))), (4, (.lp lo1 0 0)), (5, (.lp lo3 0 0)), (6, (.lp lo4 0 0)), (13, (.fn (.func 91) [] [(.rp (eL aM tL))])), (14, (eL aC t14)), (15, (eL aQ t15))] ?_
    refine aT aD 1 [13, 14] [(7, (eL aC t14))] ?_
    refine aV aD 1 ?_
    refine bB ?_
    refine gO [(3, (.rp (.fn (.func holds1_f) holds1_a holds1_c))), (4, (.lp lo1 0 0)), (5, (.lp lo3 0 0)), (6, (.lp lo4 0 0)), (7, (eL aC t14)), (8, (eL aQ t15))] ?_
    refine aG (⟨rfl, rfl, (hO.gm 0 _ rfl).2, ?_⟩)
    intro o1 ho1
    replace hO := hO.wL o1
    refine cA 1 ?_
    refine aN ?_
    refine aN ?_
    refine aV aD 18 ?_
    refine bU 1 ?_
    obtain ⟨x7, hx8, h1⟩ := aX h1
    refine dR (DB t14 _ hx8) hO ?_
    intro H hO
    refine bU 4 ?_
    refine yK [(19, false)] 2 lo4 1 0 (aE jT) (aE jT) [(aE jT)] (by kernel_rfl) (by kernel_rfl) hO (by kernel_rfl) (!(!x7)) (by kernel_rfl) (fun hb10 => rfl) ?_
    refine bU 6 ?_
    refine yK [(21, true), (19, false)] 1 lo3 1 0 (eL aC nD) (eL aC nD) [(eL aC nD)] (by kernel_rfl) (by kernel_rfl) hO (by kernel_rfl) (jT && (!(!x7))) (by kernel_rfl) (fun hb11 => rfl) ?_
    refine bU 8 ?_
    obtain ⟨x12, hx13, h1⟩ := aX h1
    refine pR [(21, true), (19, false)] 77 [(eL aC nD), (eL aC t14)] (eI x12) (jT && (!(!x7))) (by kernel_rfl) (by kernel_rfl) (by kernel_rfl) (fun hb14 => (KV nD t14 _ (jG hx13 hb14))) hO ?_
    intro H hO
    refine bU 15 ?_
    obtain ⟨x15, hx16, h1⟩ := aX h1
    refine pR [(28, false)] holds1_f (holds1_a ++ [(eL aQ t15)] ++ holds1_c) (aE x15) (!((!x7) || (jT && (decide ((0 : Int) ≤ x12))))) (by kernel_rfl) (by kernel_rfl) (by kernel_rfl) (fun hb17 => (holds1_h t15 _ (jG hx16 hb17))) hO ?_
    intro H hO
    refine bB ?_
    refine bT [3, 8] [(33, (aE (((!x7) || (jT && (decide ((0 : Int) ≤ x12)))) || (!x15))))] ?_
    refine bF h1 (fun h1 => ?_) (fun h1 => ?_)
    · refine aN ?_
      refine aV aD 1 ?_
      refine rW 0 lo1 1 0 (aE t4) (aE false) [(aE t4)] [(lo1, 1, [(aE false)]), (lo3, 1, [(eL aC nD)]), (lo4, 1, [(aE jT)])] hO rfl (by kernel_rfl) ?_
      intro H hO
      refine iP ?_
      refine bT [7, 33] [] ?_
      refine bK ?_
      refine gO [(4, (.lp lo1 0 0)), (5, (.lp lo3 0 0)), (6, (.lp lo4 0 0))] ?_
      obtain rfl := oI h1
      exact aG (aP (bE (⟨(nG hO hE ho1 .dead).1, rfl, _, rfl, (nG hO hE ho1 _).2⟩)))
    refine bG ?_
    refine bI [(4, (.lp lo1 0 0)), (5, (.lp lo3 0 0)), (6, (.lp lo4 0 0)), (7, (eL aC t14))] ?_
    refine aV aD 3 ?_
    refine bU 1 ?_
    refine rW 1 lo3 1 0 (eL aC nD) (eL aC t14) [(eL aC nD)] [(lo1, 1, [(aE t4)]), (lo3, 1, [(eL aC t14)]), (lo4, 1, [(aE jT)])] hO rfl (by kernel_rfl) ?_
    intro H hO
    refine rW 2 lo4 1 0 (aE jT) (aE true) [(aE jT)] [(lo1, 1, [(aE t4)]), (lo3, 1, [(eL aC t14)]), (lo4, 1, [(aE true)])] hO rfl (by kernel_rfl) ?_
    intro H hO
    refine iP ?_
    refine gO [(4, (.lp lo1 0 0)), (5, (.lp lo3 0 0)), (6, (.lp lo4 0 0))] ?_
    obtain rfl := oI h1
    exact aG (aW (⟨(nG hO hE ho1 .dead).1, rfl, _, rfl, (nG hO hE ho1 _).2⟩))
  · intro b lD19 lL H' G' hi hO
    rcases o0 with s | s
    · dsimp only [Sum.elim_inl] at hi
      obtain rfl := hi
      replace h0 : (some true) = some r := h0
      obtain ⟨hlL, hO⟩ := wJ hO
      refine ⟨_, _, hlL, (by intro e; cases e), ?_⟩
      refine gO [(4, (.lp lo1 0 0))] ?_
      replace hO := hO.pick (L' := [(lo1, 1, [(aE s.1)])]) [0] (by decide) (by kernel_rfl)
      refine aG (aW (aF (?_)))
      refine aN ?_
      refine aV aD 1 ?_
      refine rW 0 lo1 1 0 (aE s.1) (aE true) [(aE s.1)] [(lo1, 1, [(aE true)])] hO rfl (by kernel_rfl) ?_
      intro H hO
      refine iP ?_
      refine bI [(4, (.lp lo1 0 0))] ?_
      refine bK ?_
      obtain rfl := oI h0
      have hD := (hO.gm 0 _ rfl).2
      replace hO := (hO.wL .dead).uK
      exact aG (QM1 (.inr rfl) hD (rs := [.cell 4 4]) (xs := [(aE true)]) (x := (aE true)) (by kernel_rfl) (JC (lo := lo1) (k := 1) (y := (aE true)) (x := (aE true)) 0 hO (by kernel_rfl) (by kernel_rfl) (by kernel_rfl) (by kernel_rfl) vT) (by kernel_rfl) ⟨rfl, hO.out⟩)
    · dsimp only [Sum.elim_inr] at hi
      obtain rfl := hi
      replace h0 : (some s.1) = some r := h0
      obtain ⟨hlL, hO⟩ := wJ hO
      refine ⟨_, _, hlL, (by intro e; cases e), ?_⟩
      refine bK ?_
      replace hO := hO.pick (L' := [(lo1, 1, [(aE s.1)])]) [0] (by decide) (by kernel_rfl)
      obtain rfl := oI h0
      have hD := (hO.gm 0 _ rfl).2
      replace hO := (hO.wL .dead).uK
      exact aG (bE (aP (QM1 (.inr rfl) hD (rs := [.cell 4 4]) (xs := [(aE s.1)]) (x := (aE s.1)) (by kernel_rfl) (JC (lo := lo1) (k := 1) (y := (aE s.1)) (x := (aE s.1)) 0 hO (by kernel_rfl) (by kernel_rfl) (by kernel_rfl) (by kernel_rfl) vT) (by kernel_rfl) ⟨rfl, hO.out⟩)))

theorem PW (n0 : Int) (r : Bool) (h0 : xE n0 = some r) : dL Try.prog 78 [(eI n0)] (aE r) := by
  intro H0
  refine dG Try.func78 ?_
  have hO := aJ.start H0
  unfold xE at h0
  refine aT aD 1 [] [] ?_
  refine bS aD 7 [(2, (aE ((decide (n0 ≤ (1048576 : Int))) && (decide ((-1048576 : Int) ≤ n0)))))] ?_
  refine bK ?_
  obtain rfl := oI h0
  exact aG (Q_r hO)

theorem xZ (f0 : (List aI)) (r : Bool) (h0 : nE f0 = some r) : dL Try.prog 57 [(eL aQ f0)] (aE r) := by
  intro H0
  refine dG Try.func57 ?_
  have hO := aJ.start H0
  unfold nE at h0
  refine aT aD 1 [] [] ?_
  refine aN ?_
  refine aT aD 3 [] [(8, (aE (decide ((1024 : Int) < (lN f0)))))] ?_
  refine bF h0 (fun h0 => ?_) (fun h0 => ?_)
  · refine bS aD 1 [(2, (aE false))] ?_
    refine bK ?_
    obtain rfl := oI h0
    exact aG (aP (Q_r hO))
  refine bG ?_
  refine bI [(0, (eL aQ f0))] ?_
  refine aT aD 1 [] [(3, (eI (-2 : Int)))] ?_
  refine dN (fun T H => Has T [] ∧ aJ ⟨H0, [], []⟩ H [] ∧ uB  = some r) ?_ ?_
  · clear hO h0
    rintro T H ⟨hT, hO, h0⟩
    refine aY hT ?_
    clear hT
    unfold uB at h0
    refine bS aD 1 [(2, (aE true))] ?_
    refine bK ?_
    obtain rfl := oI h0
    exact aG (Q_r hO)
  refine aT aD 3 [0] [(9, (eL aQ f0)), (10, (eI (lN f0))), (11, (eI (0 : Int)))] ?_
  refine cA 0 ?_
  refine eU [(3, (eI (-2 : Int))), (9, (eL aQ f0)), (10, (eI (lN f0))), (11, (eI (0 : Int)))] ?_
  refine dS (fun T H => ∃ oX : Int, ∃ t9 : (List aI), ∃ t10 : Int, ∃ t11 : Int, Has T [(3, (eI oX)), (9, (eL aQ t9)), (10, (eI t10)), (11, (eI t11))] ∧ aJ ⟨H0, [], []⟩ H [] ∧ xI oX t9 t10 t11 = some r) ?_ ⟨(-2 : Int), f0, (lN f0), (0 : Int), .eq (by kernel_rfl), hO, h0⟩
  clear hO h0
  rintro T H ⟨oX, t9, t10, t11, hT, hO, h0⟩
  refine aY hT ?_
  clear hT
  unfold xI at h0
  obtain ⟨rr0, hl0, h0⟩ := aX h0
  refine cS (by kernel_rfl) (fun (s : Int × Int) T H => Has T [(3, (eI s.1)), (9, (eL aQ t9)), (10, (eI t10)), (11, (eI s.2))] ∧ aJ ⟨H0, [], []⟩ H []) hl0 ⟨.eq (by kernel_rfl), hO⟩ ?_
  clear hO
  rintro k0 s out1 T H ⟨hT, hO⟩ h1 ho0
  obtain ⟨oX, t11⟩ := s
  replace h1 : lI t9 t10 oX t11 = some out1 := h1
  try dsimp only at hT
  refine aY hT ?_
  clear hT
  unfold lI at h1
  refine aT aD 1 [] [(12, (aE (decide (t11 < t10))))] ?_
  refine aN ?_
  refine bF h1 (fun h1 => ?_) (fun h1 => ?_)
  · refine bG ?_
    refine bI [(3, (eI oX)), (9, (eL aQ t9)), (10, (eI t10)), (11, (eI t11))] ?_
    refine aN ?_
    refine cA 1 ?_
    refine aN ?_
    refine aV aD 4 ?_
    obtain ⟨c3, h1⟩ := aU h1
    refine oA 2 [0 ≤ t11 ∧ t11 < (lN t9)] ⟨c3, trivial⟩ ?_
    refine sF 2 (aQ (aI.mk 0 0)) (by kernel_rfl) (by kernel_rfl) hO ?_
    intro lo4 H hO
    refine rW 0 lo4 2 0 (aQ (aI.mk 0 0)) (aQ (gD t9 t11)) [(aQ (aI.mk 0 0))] [(lo4, 2, [(aQ (gD t9 t11))])] hO rfl (by kernel_rfl) ?_
    intro H hO
    refine iP ?_
    refine bT [] [(5, (.lp lo4 0 0))] ?_
    refine aN ?_
    refine aN ?_
    refine aV aD 20 ?_
    refine bU 1 ?_
    refine tT 0 lo4 2 0 (aQ (gD t9 t11)) (eI ((gD t9 t11).At)) [(aQ (gD t9 t11))] hO rfl ?_
    refine bU 6 ?_
    refine yK [(19, false)] 0 lo4 2 0 (aQ (gD t9 t11)) (eI ((gD t9 t11).At)) [(aQ (gD t9 t11))] (by kernel_rfl) (by kernel_rfl) hO (by kernel_rfl) (!(decide (((gD t9 t11).At) ≤ oX))) (by kernel_rfl) (fun hb5 => rfl) ?_
    refine bU 11 ?_
    refine yK [(24, false)] 0 lo4 2 0 (aQ (gD t9 t11)) (eI ((gD t9 t11).Net)) [(aQ (gD t9 t11))] (by kernel_rfl) (by kernel_rfl) hO (by kernel_rfl) (!((decide (((gD t9 t11).At) ≤ oX)) || (decide ((1125899906842624 : Int) ≤ ((gD t9 t11).At))))) (by kernel_rfl) (fun hb6 => rfl) ?_
    refine bU 16 ?_
    refine yK [(29, false)] 0 lo4 2 0 (aQ (gD t9 t11)) (eI ((gD t9 t11).Net)) [(aQ (gD t9 t11))] (by kernel_rfl) (by kernel_rfl) hO (by kernel_rfl) (!(((decide (((gD t9 t11).At) ≤ oX)) || (decide ((1125899906842624 : Int) ≤ ((gD t9 t11).At)))) || (decide (((gD t9 t11).Net) = (0 : Int))))) (by kernel_rfl) (fun hb7 => rfl) ?_
    obtain ⟨x8, hx9, h1⟩ := aX h1
    refine pR [(29, false)] 78 [(eI ((gD t9 t11).Net))] (aE x8) (!(((decide (((gD t9 t11).At) ≤ oX)) || (decide ((1125899906842624 : Int) ≤ ((gD t9 t11).At)))) || (decide (((gD t9 t11).Net) = (0 : Int))))) (by kernel_rfl) (by kernel_rfl) (by kernel_rfl) (fun hb10 => (PW ((gD t9 t11).Net) _ (jG hx9 hb10))) hO ?_
    intro H hO
    refine bB ?_
    refine bT [3] [(34, (aE ((((decide (((gD t9 t11).At) ≤ oX)) || (decide ((1125899906842624 : Int) ≤ ((gD t9 t11).At)))) || (decide (((gD t9 t11).Net) = (0 : Int)))) || (!x8))))] ?_
    refine bF h1 (fun h1 => ?_) (fun h1 => ?_)
    · refine aN ?_
      refine aV aD 1 ?_
      refine bB ?_
      refine gO [(2, (aE false))] ?_
      replace hO := hO.pick (L' := []) [] (by decide) (by kernel_rfl)
      refine aG (aF (?_))
      refine bK ?_
      obtain rfl := oI h1
      obtain rfl : _ = rr0 := ho0
      replace h0 : some false = some r := h0
      obtain rfl := oI h0
      exact aG (aP (bE (aP (aP (bE (aP (Q_r hO)))))))
    refine bG ?_
    refine bI [(5, (.lp lo4 0 0)), (9, (eL aQ t9)), (10, (eI t10)), (11, (eI t11))] ?_
    refine aV aD 3 ?_
    refine bU 1 ?_
    refine tT 0 lo4 2 0 (aQ (gD t9 t11)) (eI ((gD t9 t11).At)) [(aQ (gD t9 t11))] hO rfl ?_
    refine bB ?_
    refine gO [(3, (eI ((gD t9 t11).At))), (9, (eL aQ t9)), (10, (eI t10)), (11, (eI t11))] ?_
    replace hO := hO.pick (L' := []) [] (by decide) (by kernel_rfl)
    refine aG (aW (aF (?_)))
    refine aV aD 2 ?_
    refine bB ?_
    exact aG (aF (⟨rfl, _, (oI h1).symm, .eq (by kernel_rfl), hO⟩))
  refine eX 0 ?_
  obtain rfl := oI h1
  obtain rfl : _ = rr0 := ho0
  replace h0 : uB  = some r := h0
  exact aG (aR (aR (bQ (aF (⟨rfl, .eq (by kernel_rfl), hO, h0⟩)))))

theorem IK (l0 : (List aK)) (r : Bool) (h0 : tC l0 = some r) : dL Try.prog 31 [(eL aM l0)] (aE r) := by
  intro H0
  refine dG Try.func31 ?_
  have hO := aJ.start H0
  unfold tC at h0
  refine aT aD 1 [] [] ?_
  refine aN ?_
  refine aV aD 3 ?_
  refine bU 1 ?_
  obtain ⟨x1, hx2, h0⟩ := aX h0
  refine dR (EW l0 57 [] [] (fun y0 => nE y0) (fun y0 r h => xZ y0 r h) _ hx2) hO ?_
  intro H hO
  refine bB ?_
  refine bI [(2, (aE x1))] ?_
  refine bK ?_
  obtain rfl := oI h0
  exact aG (Q_r hO)

theorem LR (f0 : (List aI)) (r : Int) (h0 : sQ f0 = some r) : dL Try.prog 59 [(eL aQ f0)] (eI r) := by
  intro H0
  refine dG Try.func59 ?_
  have hO := aJ.start H0
  unfold sQ at h0
  refine aT aD 1 [] [] ?_
  refine aN ?_
  refine aN ?_
  refine aV aD 8 ?_
  refine bU 1 ?_
  obtain ⟨x1, hx2, h0⟩ := aX h0
  refine dR (xZ f0 _ hx2) hO ?_
  intro H hO
  refine bB ?_
  refine bT [] [(14, (aE ((!x1) || (decide ((lN f0) = (0 : Int))))))] ?_
  refine bF h0 (fun h0 => ?_) (fun h0 => ?_)
  · refine bS aD 1 [(2, (eI (0 : Int)))] ?_
    refine bK ?_
    obtain rfl := oI h0
    exact aG (aP (Q_r hO))
  refine bG ?_
  refine bI [(0, (eL aQ f0))] ?_
  refine aT aD 2 [] [(3, (eI (0 : Int))), (4, (eI (0 : Int)))] ?_
  refine dN (fun T H => ∃ v3 : Int, ∃ gT : Int, Has T [(0, (eL aQ f0)), (3, (eI v3)), (4, (eI gT))] ∧ aJ ⟨H0, [], []⟩ H [] ∧ oB f0 v3 gT = some r) ?_ ?_
  · clear hO h0
    rintro T H ⟨v3, gT, hT, hO, h0⟩
    refine aY hT ?_
    clear hT
    unfold oB at h0
    refine dN (fun T H => ∃ gT : Int, Has T [(4, (eI gT))] ∧ aJ ⟨H0, [], []⟩ H [] ∧ rA gT = some r) ?_ ?_
    · clear hO h0
      rintro T H ⟨gT, hT, hO, h0⟩
      refine aY hT ?_
      clear hT
      unfold rA at h0
      refine bS aD 2 [(2, (eI gT))] ?_
      refine bK ?_
      obtain rfl := oI h0
      exact aG (Q_r hO)
    refine aT aD 3 [0] [(24, (eL aQ f0)), (25, (eI (lN f0))), (26, (eI (0 : Int)))] ?_
    refine cA 0 ?_
    refine eU [(3, (eI v3)), (4, (eI gT)), (24, (eL aQ f0)), (25, (eI (lN f0))), (26, (eI (0 : Int)))] ?_
    refine dS (fun T H => ∃ v3 : Int, ∃ gT : Int, ∃ t24 : (List aI), ∃ t25 : Int, ∃ t26 : Int, Has T [(3, (eI v3)), (4, (eI gT)), (24, (eL aQ t24)), (25, (eI t25)), (26, (eI t26))] ∧ aJ ⟨H0, [], []⟩ H [] ∧ rB v3 gT t24 t25 t26 = some r) ?_ ⟨v3, gT, f0, (lN f0), (0 : Int), .eq (by kernel_rfl), hO, h0⟩
    clear hO h0
    rintro T H ⟨v3, gT, t24, t25, t26, hT, hO, h0⟩
    refine aY hT ?_
    clear hT
    unfold rB at h0
    obtain ⟨rr0, hl0, h0⟩ := aX h0
    refine cS (by kernel_rfl) (fun (s : Int × Int × Int) T H => Has T [(3, (eI s.1)), (4, (eI s.2.1)), (24, (eL aQ t24)), (25, (eI t25)), (26, (eI s.2.2))] ∧ aJ ⟨H0, [], []⟩ H []) hl0 ⟨.eq (by kernel_rfl), hO⟩ ?_
    clear hO
    rintro k0 s out1 T H ⟨hT, hO⟩ h1 ho0
    obtain ⟨v3, gT, t26⟩ := s
    replace h1 : lT t24 t25 v3 gT t26 = some out1 := h1
    try dsimp only at hT
    refine aY hT ?_
    clear hT
    unfold lT at h1
    refine aT aD 1 [] [(27, (aE (decide (t26 < t25))))] ?_
    refine aN ?_
    refine bF h1 (fun h1 => ?_) (fun h1 => ?_)
    · refine bG ?_
      refine bI [(3, (eI v3)), (4, (eI gT)), (24, (eL aQ t24)), (25, (eI t25)), (26, (eI t26))] ?_
      refine aN ?_
      refine cA 1 ?_
      refine aN ?_
      refine aV aD 4 ?_
      obtain ⟨c6, h1⟩ := aU h1
      refine oA 2 [0 ≤ t26 ∧ t26 < (lN t24)] ⟨c6, trivial⟩ ?_
      refine sF 2 (aQ (aI.mk 0 0)) (by kernel_rfl) (by kernel_rfl) hO ?_
      intro lo7 H hO
      refine rW 0 lo7 2 0 (aQ (aI.mk 0 0)) (aQ (gD t24 t26)) [(aQ (aI.mk 0 0))] [(lo7, 2, [(aQ (gD t24 t26))])] hO rfl (by kernel_rfl) ?_
      intro H hO
      refine iP ?_
      refine bT [] [(6, (.lp lo7 0 0))] ?_
      refine aN ?_
      refine aV aD 5 ?_
      refine bU 2 ?_
      refine tT 0 lo7 2 0 (aQ (gD t24 t26)) (eI ((gD t24 t26).Net)) [(aQ (gD t24 t26))] hO rfl ?_
      refine bB ?_
      replace hO := hO.pick (L' := []) [] (by decide) (by kernel_rfl)
      refine bT [3, 6] [(3, (eI (wR (v3 + ((gD t24 t26).Net)))))] ?_
      refine aV aD 4 ?_
      refine bB ?_
      refine gO [(3, (eI (wR (v3 + ((gD t24 t26).Net))))), (4, (eI (if (wR (v3 + ((gD t24 t26).Net))) < gT then (wR (v3 + ((gD t24 t26).Net))) else gT))), (24, (eL aQ t24)), (25, (eI t25)), (26, (eI t26))] ?_
      refine aG (aW (aF (?_)))
      refine aV aD 2 ?_
      refine bB ?_
      exact aG (aF (⟨rfl, _, (oI h1).symm, .eq (by kernel_rfl), hO⟩))
    refine eX 0 ?_
    obtain rfl := oI h1
    obtain rfl : _ = rr0 := ho0
    replace h0 : rA gT = some r := h0
    exact aG (aR (aR (bQ (aF (⟨rfl, _, .eq (by kernel_rfl), hO, h0⟩)))))
  refine aN ?_
  refine aV aD 5 ?_
  obtain ⟨c8, h0⟩ := aU h0
  refine nF [0 ≤ (0 : Int) ∧ (0 : Int) < (lN f0)] ⟨c8, trivial⟩ ?_
  refine bT [] [(19, (aE (decide (((gD f0 (0 : Int)).At) = (-1 : Int)))))] ?_
  refine bF h0 (fun h0 => ?_) (fun h0 => ?_)
  · refine aV aD 5 ?_
    obtain ⟨c10, h0⟩ := aU h0
    refine nF [0 ≤ (0 : Int) ∧ (0 : Int) < (lN f0)] ⟨c10, trivial⟩ ?_
    exact aG (aF (⟨rfl, _, _, .eq (by kernel_rfl), hO, h0⟩))
  refine bG ?_
  exact aG (aF (⟨rfl, _, _, .eq (by kernel_rfl), hO, h0⟩))

theorem JG (f0 : (List aI)) (r : Bool) (h0 : qA f0 = some r) : dL Try.prog 58 [(eL aQ f0)] (aE r) := by
  intro H0
  refine dG Try.func58 ?_
  have hO := aJ.start H0
  unfold qA at h0
  refine aT aD 1 [] [] ?_
  refine aN ?_
  refine aV aD 8 ?_
  refine bU 1 ?_
  obtain ⟨x1, hx2, h0⟩ := aX h0
  refine dR (xZ f0 _ hx2) hO ?_
  intro H hO
  refine bU 4 ?_
  obtain ⟨x4, hx5, h0⟩ := aX h0
  refine pR [(5, true)] 59 [(eL aQ f0)] (eI x4) x1 (by kernel_rfl) (by kernel_rfl) (by kernel_rfl) (fun hb6 => (LR f0 _ (jG hx5 hb6))) hO ?_
  intro H hO
  refine bB ?_
  refine bI [(2, (aE (x1 && (decide ((0 : Int) ≤ x4)))))] ?_
  refine bK ?_
  obtain rfl := oI h0
  exact aG (Q_r hO)

theorem MR (l0 : (List aK)) (r : Bool) (h0 : sH l0 = some r) : dL Try.prog 32 [(eL aM l0)] (aE r) := by
  intro H0
  refine dG Try.func32 ?_
  have hO := aJ.start H0
  unfold sH at h0
  refine aT aD 1 [] [] ?_
  refine aN ?_
  refine aV aD 3 ?_
  refine bU 1 ?_
  obtain ⟨x1, hx2, h0⟩ := aX h0
  refine dR (EW l0 58 [] [] (fun y0 => qA y0) (fun y0 r h => JG y0 r h) _ hx2) hO ?_
  intro H hO
  refine bB ?_
  refine bI [(2, (aE x1))] ?_
  refine bK ?_
  obtain rfl := oI h0
  exact aG (Q_r hO)

theorem ES (x0 : Int) (r : Int) (h0 : nC x0 = some r) : dL Try.prog 88 [(cV .u64 x0)] (eI r) := by
  intro H0
  refine dG Try.func88 ?_
  have hO := aJ.start H0
  unfold nC at h0
  refine aT aD 1 [] [(2, (eI (0 : Int)))] ?_
  refine dN (fun T H => ∃ x0 : Int, ∃ n2 : Int, Has T [(0, (cV .u64 x0)), (2, (eI n2))] ∧ aJ ⟨H0, [], []⟩ H [] ∧ kB x0 n2 = some r) ?_ ?_
  · clear hO h0
    rintro T H ⟨x0, n2, hT, hO, h0⟩
    refine aY hT ?_
    clear hT
    unfold kB at h0
    refine dN (fun T H => ∃ x0 : Int, ∃ n2 : Int, Has T [(0, (cV .u64 x0)), (2, (eI n2))] ∧ aJ ⟨H0, [], []⟩ H [] ∧ kE x0 n2 = some r) ?_ ?_
    · clear hO h0
      rintro T H ⟨x0, n2, hT, hO, h0⟩
      refine aY hT ?_
      clear hT
      unfold kE at h0
      refine dN (fun T H => ∃ x0 : Int, ∃ n2 : Int, Has T [(0, (cV .u64 x0)), (2, (eI n2))] ∧ aJ ⟨H0, [], []⟩ H [] ∧ lC x0 n2 = some r) ?_ ?_
      · clear hO h0
        rintro T H ⟨x0, n2, hT, hO, h0⟩
        refine aY hT ?_
        clear hT
        unfold lC at h0
        refine aN ?_
        refine aV aD 7 ?_
        obtain ⟨c1, h0⟩ := aU h0
        refine nF [0 ≤ (IntKind.u8.wrap x0) ∧ (IntKind.u8.wrap x0) < ((ByteArray.size (⟨#[0, 1, 2, 2, 3, 3, 3, 3, 4, 4, 4, 4, 4, 4, 4, 4, 5, 5, 5, 5, 5, 5, 5, 5, 5, 5, 5, 5, 5, 5, 5, 5, 6, 6, 6, 6, 6, 6, 6, 6, 6, 6, 6, 6, 6, 6, 6, 6, 6, 6, 6, 6, 6, 6, 6, 6, 6, 6, 6, 6, 6, 6, 6, 6, 7, 7, 7, 7, 7, 7, 7, 7, 7, 7, 7, 7, 7, 7, 7, 7, 7, 7, 7, 7, 7, 7, 7, 7, 7, 7, 7, 7, 7, 7, 7, 7, 7, 7, 7, 7, 7, 7, 7, 7, 7, 7, 7, 7, 7, 7, 7, 7, 7, 7, 7, 7, 7, 7, 7, 7, 7, 7, 7, 7, 7, 7, 7, 7, 8, 8, 8, 8, 8, 8, 8, 8, 8, 8, 8, 8, 8, 8, 8, 8, 8, 8, 8, 8, 8, 8, 8, 8, 8, 8, 8, 8, 8, 8, 8, 8, 8, 8, 8, 8, 8, 8, 8, 8, 8, 8, 8, 8, 8, 8, 8, 8, 8, 8, 8, 8, 8, 8, 8, 8, 8, 8, 8, 8, 8, 8, 8, 8, 8, 8, 8, 8, 8, 8, 8, 8, 8, 8, 8, 8, 8, 8, 8, 8, 8, 8, 8, 8, 8, 8, 8, 8, 8, 8, 8, 8, 8, 8, 8, 8, 8, 8, 8, 8, 8, 8, 8, 8, 8, 8, 8, 8, 8, 8, 8, 8, 8, 8, 8, 8, 8, 8, 8, 8, 8, 8, 8, 8, 8, 8, 8, 8]⟩ : ByteArray) : Nat) : Int)] ⟨c1, trivial⟩ ?_
        refine bI [(2, (eI (wR (n2 + (wR (bt (⟨#[0, 1, 2, 2, 3, 3, 3, 3, 4, 4, 4, 4, 4, 4, 4, 4, 5, 5, 5, 5, 5, 5, 5, 5, 5, 5, 5, 5, 5, 5, 5, 5, 6, 6, 6, 6, 6, 6, 6, 6, 6, 6, 6, 6, 6, 6, 6, 6, 6, 6, 6, 6, 6, 6, 6, 6, 6, 6, 6, 6, 6, 6, 6, 6, 7, 7, 7, 7, 7, 7, 7, 7, 7, 7, 7, 7, 7, 7, 7, 7, 7, 7, 7, 7, 7, 7, 7, 7, 7, 7, 7, 7, 7, 7, 7, 7, 7, 7, 7, 7, 7, 7, 7, 7, 7, 7, 7, 7, 7, 7, 7, 7, 7, 7, 7, 7, 7, 7, 7, 7, 7, 7, 7, 7, 7, 7, 7, 7, 8, 8, 8, 8, 8, 8, 8, 8, 8, 8, 8, 8, 8, 8, 8, 8, 8, 8, 8, 8, 8, 8, 8, 8, 8, 8, 8, 8, 8, 8, 8, 8, 8, 8, 8, 8, 8, 8, 8, 8, 8, 8, 8, 8, 8, 8, 8, 8, 8, 8, 8, 8, 8, 8, 8, 8, 8, 8, 8, 8, 8, 8, 8, 8, 8, 8, 8, 8, 8, 8, 8, 8, 8, 8, 8, 8, 8, 8, 8, 8, 8, 8, 8, 8, 8, 8, 8, 8, 8, 8, 8, 8, 8, 8, 8, 8, 8, 8, 8, 8, 8, 8, 8, 8, 8, 8, 8, 8, 8, 8, 8, 8, 8, 8, 8, 8, 8, 8, 8, 8, 8, 8, 8, 8, 8, 8, 8, 8]⟩ : ByteArray) (IntKind.u8.wrap x0)))))))] ?_
        refine bK ?_
        obtain rfl := oI h0
        exact aG (Q_r hO)
      refine aT aD 2 [] [(14, (aE (decide ((256 : Int) ≤ x0))))] ?_
      refine bF h0 (fun h0 => ?_) (fun h0 => ?_)
      · refine aN ?_
        refine aV aD 3 ?_
        obtain ⟨c3, h0⟩ := aU h0
        refine nF [0 ≤ (8 : Int)] ⟨c3, trivial⟩ ?_
        refine bI [(0, (cV .u64 (Int.fdiv x0 (2 ^ (min (Int.toNat (8 : Int)) 64))))), (2, (eI n2))] ?_
        refine aV aD 3 ?_
        refine bB ?_
        exact aG (aF (⟨rfl, _, _, .eq (by kernel_rfl), hO, h0⟩))
      refine bG ?_
      exact aG (aF (⟨rfl, _, _, .eq (by kernel_rfl), hO, h0⟩))
    refine aT aD 2 [] [(8, (aE (decide ((65536 : Int) ≤ x0))))] ?_
    refine bF h0 (fun h0 => ?_) (fun h0 => ?_)
    · refine aN ?_
      refine aV aD 3 ?_
      obtain ⟨c5, h0⟩ := aU h0
      refine nF [0 ≤ (16 : Int)] ⟨c5, trivial⟩ ?_
      refine bI [(0, (cV .u64 (Int.fdiv x0 (2 ^ (min (Int.toNat (16 : Int)) 64))))), (2, (eI n2))] ?_
      refine aV aD 3 ?_
      refine bB ?_
      exact aG (aF (⟨rfl, _, _, .eq (by kernel_rfl), hO, h0⟩))
    refine bG ?_
    exact aG (aF (⟨rfl, _, _, .eq (by kernel_rfl), hO, h0⟩))
  refine aT aD 2 [] [(4, (aE (decide ((4294967296 : Int) ≤ x0))))] ?_
  refine bF h0 (fun h0 => ?_) (fun h0 => ?_)
  · refine aN ?_
    refine aV aD 3 ?_
    obtain ⟨c7, h0⟩ := aU h0
    refine nF [0 ≤ (32 : Int)] ⟨c7, trivial⟩ ?_
    refine bI [(0, (cV .u64 (Int.fdiv x0 (2 ^ (min (Int.toNat (32 : Int)) 64)))))] ?_
    refine aV aD 1 ?_
    refine bB ?_
    exact aG (aF (⟨rfl, _, _, .eq (by kernel_rfl), hO, h0⟩))
  refine bG ?_
  exact aG (aF (⟨rfl, _, _, .eq (by kernel_rfl), hO, h0⟩))

theorem zP (x0 : Int) (r : Int) (h0 : jO x0 = some r) : dL Try.prog 61 [(cV .u64 x0)] (eI r) := by
  intro H0
  refine dG Try.func61 ?_
  have hO := aJ.start H0
  unfold jO at h0
  refine aT aD 1 [] [] ?_
  refine aN ?_
  refine mA (false) (fun hc1 => ?_) (fun hc1 => ?_)
  · cases hc1
  · refine bG ?_
    refine aG (aF ?_)
    refine aN ?_
    refine aV aD 3 ?_
    refine bU 1 ?_
    obtain ⟨x2, hx3, h0⟩ := aX h0
    refine dR (ES x0 _ hx3) hO ?_
    intro H hO
    refine bB ?_
    refine bI [(2, (eI x2))] ?_
    refine bK ?_
    obtain rfl := oI h0
    exact aG (Q_r hO)

theorem fO (x0 : Int) (y1 : Int) (r : Bool) (h0 : dB x0 y1 = some r) : dL Try.prog 70 [(eI x0), (eI y1)] (aE r) := by
  intro H0
  refine dG Try.func70 ?_
  have hO := aJ.start H0
  unfold dB at h0
  refine aT aD 1 [] [] ?_
  refine aN ?_
  refine aV aD 13 ?_
  refine bU 1 ?_
  obtain ⟨x1, hx2, h0⟩ := aX h0
  refine dR (rY x0 _ hx2) hO ?_
  intro H hO
  refine bU 4 ?_
  obtain ⟨x4, hx5, h0⟩ := aX h0
  refine pR [(7, true)] 95 [(eI y1)] (aE x4) x1 (by kernel_rfl) (by kernel_rfl) (by kernel_rfl) (fun hb6 => (rY y1 _ (jG hx5 hb6))) hO ?_
  intro H hO
  refine bB ?_
  refine bI [(4, (aE ((x1 && (!x4)) || (decide (x0 < y1)))))] ?_
  refine bK ?_
  obtain rfl := oI h0
  exact aG (Q_r hO)

theorem tW (lo0p : Nat) (aA : (List Int)) (a1 : Int) (b2 : Int) (r : List Int) (h0 : gE aA a1 b2 = some r) : mJ Try.prog 79 lo0p 1 (List.map (eI) aA) (List.map (eI) r) [(.msl 1 lo0p 0 (List.length aA)), (eI a1), (eI b2)] (.tup []) := by
  intro H0 hl0
  refine dG Try.func79 ?_
  have hO := aJ.sW hl0
  clear hl0
  obtain ⟨N0, hN0⟩ : ∃ n, n = List.length aA := ⟨_, rfl⟩
  have hN : List.length aA = N0 := hN0.symm
  unfold gE at h0
  refine aT aD 3 [] [(6, (eI (wR (a1 + (1 : Int)))))] ?_
  refine cA 0 ?_
  refine eU [(0, (.msl 1 lo0p 0 (List.length aA))), (1, (eI a1)), (2, (eI b2)), (6, (eI (wR (a1 + (1 : Int)))))] ?_
  refine dS (fun T H => ∃ aA : List Int, ∃ i6 : Int, Has T [(0, (.msl 1 lo0p 0 (List.length aA))), (1, (eI a1)), (2, (eI b2)), (6, (eI i6))] ∧ aJ ⟨H0, [lo0p], []⟩ H [(lo0p, 1, List.map (eI) aA)] ∧ List.length aA = N0 ∧ iQ aA a1 b2 i6 = some r) ?_ ⟨aA, wR (a1 + (1 : Int)), .eq (by kernel_rfl), hO, hN, h0⟩
  clear hO hN h0
  rintro T H ⟨aA, i6, hT, hO, hN, h0⟩
  refine aY hT ?_
  clear hT
  unfold iQ at h0
  obtain ⟨rr0, hl0, h0⟩ := aX h0
  refine cS (by kernel_rfl) (fun (s : List Int × Int) T H => Has T [(0, (.msl 1 lo0p 0 (List.length s.1))), (1, (eI a1)), (2, (eI b2)), (6, (eI s.2))] ∧ aJ ⟨H0, [lo0p], []⟩ H [(lo0p, 1, List.map (eI) s.1)] ∧ List.length s.1 = N0) hl0 ⟨.eq (by kernel_rfl), hO, hN⟩ ?_
  clear hO hN
  rintro k0 s out1 T H ⟨hT, hO, hN⟩ h1 ho0
  obtain ⟨aA, i6⟩ := s
  replace h1 : dF a1 b2 aA i6 = some out1 := h1
  try dsimp only at hT
  refine aY hT ?_
  clear hT
  unfold dF at h1
  refine aN ?_
  refine aT aD 3 [] [(12, (aE (decide (i6 < b2))))] ?_
  refine bF h1 (fun h1 => ?_) (fun h1 => ?_)
  · refine bG ?_
    refine bI [(0, (.msl 1 lo0p 0 (List.length aA))), (1, (eI a1)), (2, (eI b2)), (6, (eI i6))] ?_
    refine dN (fun T H => ∃ aA : List Int, Has T [(0, (.msl 1 lo0p 0 (List.length aA))), (1, (eI a1)), (2, (eI b2)), (6, (eI i6))] ∧ aJ ⟨H0, [lo0p], []⟩ H [(lo0p, 1, List.map (eI) aA)] ∧ List.length aA = N0 ∧ fU aA a1 b2 i6 = some out1) ?_ ?_
    · clear hO hN h1
      rintro T H ⟨aA, hT, hO, hN, h1⟩
      refine aY hT ?_
      clear hT
      unfold fU at h1
      refine aV aD 3 ?_
      refine bB ?_
      exact aG (aF (⟨rfl, _, (oI h1).symm, .eq (by kernel_rfl), hO, hN⟩))
    refine cA 1 ?_
    refine aT aD 2 [] [(7, (eI i6))] ?_
    refine cA 2 ?_
    refine eU [(0, (.msl 1 lo0p 0 (List.length aA))), (1, (eI a1)), (2, (eI b2)), (6, (eI i6)), (7, (eI i6))] ?_
    refine dS (fun T H => ∃ aA : List Int, ∃ j7 : Int, Has T [(0, (.msl 1 lo0p 0 (List.length aA))), (1, (eI a1)), (2, (eI b2)), (6, (eI i6)), (7, (eI j7))] ∧ aJ ⟨H0, [lo0p], []⟩ H [(lo0p, 1, List.map (eI) aA)] ∧ List.length aA = N0 ∧ iS aA a1 b2 i6 j7 = some out1) ?_ ⟨aA, i6, .eq (by kernel_rfl), hO, hN, h1⟩
    clear hO hN h1
    rintro T H ⟨aA, j7, hT, hO, hN, h1⟩
    refine aY hT ?_
    clear hT
    unfold iS at h1
    obtain ⟨rr1, hl1, h1⟩ := aX h1
    refine cS (by kernel_rfl) (fun (s : List Int × Int) T H => Has T [(0, (.msl 1 lo0p 0 (List.length s.1))), (1, (eI a1)), (2, (eI b2)), (6, (eI i6)), (7, (eI s.2))] ∧ aJ ⟨H0, [lo0p], []⟩ H [(lo0p, 1, List.map (eI) s.1)] ∧ List.length s.1 = N0) hl1 ⟨.eq (by kernel_rfl), hO, hN⟩ ?_
    clear hO hN
    rintro k1 s out2 T H ⟨hT, hO, hN⟩ h2 ho1
    obtain ⟨aA, j7⟩ := s
    replace h2 : eS a1 b2 i6 aA j7 = some out2 := h2
    try dsimp only at hT
    refine aY hT ?_
    clear hT
    unfold eS at h2
    refine aN ?_
    refine aN ?_
    obtain ⟨c2, h2⟩ := aU h2
    obtain ⟨c3, h2⟩ := aU h2
    obtain ⟨x4, hx5, h2⟩ := aX h2
    refine fD (fC []) aD 15 ?_
    refine lZ (K := fun T H => Has (lift T) [(0, (.msl 1 lo0p 0 (List.length aA))), (1, (eI a1)), (2, (eI b2)), (6, (eI i6)), (7, (eI j7)), (30, (aE ((decide (a1 < j7)) && x4)))] ∧ aJ ⟨H0, [lo0p], []⟩ H [(lo0p, 1, List.map (eI) aA)]) ?_ ?_
    · refine mZ 4 ?_
      refine kP (t := 19) (e := decide (a1 < j7)) (by kernel_rfl) (fun hg6 => ?_) (fun hg6 => ?_)
      · refine cH 7 [0 ≤ j7 ∧ j7 < (lN aA)] ⟨(c2 hg6), trivial⟩ ?_
        refine jA 0 lo0p 1 (0 + Int.toNat j7) (eI (gD aA j7)) (eI (gD aA j7)) (List.map (eI) aA) (by kernel_rfl) (by kernel_rfl) (by kernel_rfl) hO (by kernel_rfl) (cD (c2 hg6)) ?_
        refine cH 12 [0 ≤ (wR (j7 - (1 : Int))) ∧ (wR (j7 - (1 : Int))) < (lN aA)] ⟨(c3 hg6), trivial⟩ ?_
        refine jA 0 lo0p 1 (0 + Int.toNat (wR (j7 - (1 : Int)))) (eI (gD aA (wR (j7 - (1 : Int))))) (eI (gD aA (wR (j7 - (1 : Int))))) (List.map (eI) aA) (by kernel_rfl) (by kernel_rfl) (by kernel_rfl) hO (by kernel_rfl) (cD (c3 hg6)) ?_
        refine lO 70 [(eI (gD aA j7)), (eI (gD aA (wR (j7 - (1 : Int)))))] (aE x4) (by kernel_rfl) (by kernel_rfl) (fO (gD aA j7) (gD aA (wR (j7 - (1 : Int)))) _ (jG hx5 hg6)) hO ?_
        intro H hO
        refine iF ?_
        exact ⟨⟨[(0, (.msl 1 lo0p 0 (List.length aA))), (1, (eI a1)), (2, (eI b2)), (6, (eI i6)), (7, (eI j7)), (30, (aE x4))], by kernel_rfl, rfl, ⟨aO.refl _, aO.refl _, aO.refl _, aO.refl _, aO.refl _, aO.eq (congrArg aE (jH hg6 rfl).symm), trivial⟩⟩, hO⟩
      refine iF ?_
      exact ⟨⟨[(0, (.msl 1 lo0p 0 (List.length aA))), (1, (eI a1)), (2, (eI b2)), (6, (eI i6)), (7, (eI j7)), (30, (aE false))], by kernel_rfl, rfl, ⟨aO.refl _, aO.refl _, aO.refl _, aO.refl _, aO.refl _, aO.eq (congrArg aE (jH hg6 rfl).symm), trivial⟩⟩, hO⟩
    · rintro T H ⟨hT, hO⟩
      refine cX hT ?_
      clear hT
      refine aG (aF ?_)
      refine bF h2 (fun h2 => ?_) (fun h2 => ?_)
      · refine bG ?_
        refine bI [(0, (.msl 1 lo0p 0 (List.length aA))), (1, (eI a1)), (2, (eI b2)), (6, (eI i6)), (7, (eI j7))] ?_
        refine aN ?_
        refine cA 3 ?_
        refine fD (fC []) aD 18 ?_
        obtain ⟨c8, h2⟩ := aU h2
        refine cH 9 [0 ≤ (wR (j7 - (1 : Int))) ∧ (wR (j7 - (1 : Int))) < (lN aA)] ⟨c8, trivial⟩ ?_
        refine gY 0 lo0p 1 (0 + Int.toNat (wR (j7 - (1 : Int)))) (eI (gD aA (wR (j7 - (1 : Int))))) (eI (gD aA (wR (j7 - (1 : Int))))) (List.map (eI) aA) hO (cD c8) ?_
        obtain ⟨c9, h2⟩ := aU h2
        refine cH 13 [0 ≤ j7 ∧ j7 < (lN aA)] ⟨c9, trivial⟩ ?_
        refine gY 0 lo0p 1 (0 + Int.toNat j7) (eI (gD aA j7)) (eI (gD aA j7)) (List.map (eI) aA) hO (cD c9) ?_
        obtain ⟨c10, h2⟩ := aU h2
        refine cH 15 [0 ≤ j7 ∧ j7 < (lN aA)] ⟨c10, trivial⟩ ?_
        refine kG 0 lo0p 1 (0 + Int.toNat j7) (eI (gD aA j7)) (eI (gD aA (wR (j7 - (1 : Int))))) (List.map (eI) aA) [(lo0p, 1, List.map (eI) (List.set aA (Int.toNat j7) (gD aA (wR (j7 - (1 : Int))))))] hO (cD c10) (by simp only [List.set, gV]) ?_
        intro H hO
        replace hN : List.length (List.set aA (Int.toNat j7) (gD aA (wR (j7 - (1 : Int))))) = N0 := by simpa using hN
        obtain ⟨c11, h2⟩ := aU h2
        refine cH 17 [0 ≤ (wR (j7 - (1 : Int))) ∧ (wR (j7 - (1 : Int))) < (lN aA)] ⟨c11, trivial⟩ ?_
        refine kG 0 lo0p 1 (0 + Int.toNat (wR (j7 - (1 : Int)))) (eI (gD (List.set aA (Int.toNat j7) (gD aA (wR (j7 - (1 : Int))))) (wR (j7 - (1 : Int))))) (eI (gD aA j7)) (List.map (eI) (List.set aA (Int.toNat j7) (gD aA (wR (j7 - (1 : Int)))))) [(lo0p, 1, List.map (eI) (List.set (List.set aA (Int.toNat j7) (gD aA (wR (j7 - (1 : Int))))) (Int.toNat (wR (j7 - (1 : Int)))) (gD aA j7)))] hO (mF c11 (by simp [])) (by simp only [List.set, gV]) ?_
        intro H hO
        replace hN : List.length (List.set (List.set aA (Int.toNat j7) (gD aA (wR (j7 - (1 : Int))))) (Int.toNat (wR (j7 - (1 : Int)))) (gD aA j7)) = N0 := by simpa using hN
        refine mR (by kernel_rfl) ?_
        refine cX (l := [(0, (.msl 1 lo0p 0 (List.length (List.set (List.set aA (Int.toNat j7) (gD aA (wR (j7 - (1 : Int))))) (Int.toNat (wR (j7 - (1 : Int)))) (gD aA j7))))), (1, (eI a1)), (2, (eI b2)), (6, (eI i6)), (7, (eI j7))]) ⟨[(0, (.msl 1 lo0p 0 (List.length aA))), (1, (eI a1)), (2, (eI b2)), (6, (eI i6)), (7, (eI j7))], by kernel_rfl, rfl, ⟨aO.eq (by simp []), aO.refl _, aO.refl _, aO.refl _, aO.refl _, trivial⟩⟩ ?_
        refine aG (aW (aF (?_)))
        refine aV aD 3 ?_
        refine bB ?_
        exact aG (aF (⟨rfl, _, (oI h2).symm, .eq (by kernel_rfl), hO, hN⟩))
      refine eX 2 ?_
      obtain rfl := oI h2
      obtain rfl : _ = rr1 := ho1
      replace h1 : fU aA a1 b2 i6 = some out1 := h1
      exact aG (aR (aR (bQ (aW (aF (⟨rfl, _, .eq (by kernel_rfl), hO, hN, h1⟩))))))
  refine eX 0 ?_
  obtain rfl := oI h1
  obtain rfl : _ = rr0 := ho0
  replace h0 : some aA = some r := h0
  obtain rfl := oI h0
  exact aG (aR (aR (bQ (zK (x := (.tup [])) (by kernel_rfl) (aO.refl _) ⟨rfl, hO.ext, hO.at 0 (by kernel_rfl), by first | rfl | (simp only [List.length_map]; exact hN.trans hN0)⟩))))

theorem pN (lo0p : Nat) (aA : (List Int)) (lo1 : Int) (hi2 : Int) (bJ : Int) (r : List Int) (h0 : fB aA lo1 hi2 bJ = some r) : mJ Try.prog 105 lo0p 1 (List.map (eI) aA) (List.map (eI) r) [(.msl 1 lo0p 0 (List.length aA)), (eI lo1), (eI hi2), (eI bJ)] (.tup []) := by
  intro H0 hl0
  refine dG Try.func105 ?_
  have hO := aJ.sW hl0
  clear hl0
  obtain ⟨N0, hN0⟩ : ∃ n, n = List.length aA := ⟨_, rfl⟩
  have hN : List.length aA = N0 := hN0.symm
  unfold fB at h0
  refine aT aD 2 [1] [(8, (eI lo1))] ?_
  refine cA 0 ?_
  refine eU [(0, (.msl 1 lo0p 0 (List.length aA))), (2, (eI hi2)), (3, (eI bJ)), (8, (eI lo1))] ?_
  refine dS (fun T H => ∃ aA : List Int, ∃ cF : Int, Has T [(0, (.msl 1 lo0p 0 (List.length aA))), (2, (eI hi2)), (3, (eI bJ)), (8, (eI cF))] ∧ aJ ⟨H0, [lo0p], []⟩ H [(lo0p, 1, List.map (eI) aA)] ∧ List.length aA = N0 ∧ jY aA hi2 bJ cF = some r) ?_ ⟨aA, lo1, .eq (by kernel_rfl), hO, hN, h0⟩
  clear hO hN h0
  rintro T H ⟨aA, cF, hT, hO, hN, h0⟩
  refine aY hT ?_
  clear hT
  unfold jY at h0
  obtain ⟨rr0, hl0, h0⟩ := aX h0
  refine cS (by kernel_rfl) (fun (s : List Int × Int) T H => Has T [(0, (.msl 1 lo0p 0 (List.length s.1))), (2, (eI hi2)), (3, (eI bJ)), (8, (eI s.2))] ∧ aJ ⟨H0, [lo0p], []⟩ H [(lo0p, 1, List.map (eI) s.1)] ∧ List.length s.1 = N0) hl0 ⟨.eq (by kernel_rfl), hO, hN⟩ ?_
  clear hO hN
  rintro k0 s out1 T H ⟨hT, hO, hN⟩ h1 ho0
  obtain ⟨aA, cF⟩ := s
  replace h1 : cZ hi2 bJ aA cF = some out1 := h1
  try dsimp only at hT
  refine aY hT ?_
  clear hT
  unfold cZ at h1
  refine cA 1 ?_
  refine aT aD 4 [] [(9, (eI (wR ((wR ((2 : Int) * cF)) + (1 : Int)))))] ?_
  refine aN ?_
  refine aT aD 3 [] [(16, (aE (decide (hi2 ≤ (wR ((wR ((2 : Int) * cF)) + (1 : Int)))))))] ?_
  refine bF h1 (fun h1 => ?_) (fun h1 => ?_)
  · refine eX 0 ?_
    obtain rfl := oI h1
    obtain rfl : _ = rr0 := ho0
    replace h0 : some aA = some r := h0
    obtain rfl := oI h0
    exact aG (aR (rP (by kernel_rfl) (aR (bQ (zK (x := (.tup [])) (by kernel_rfl) (aO.refl _) ⟨rfl, hO.ext, hO.at 0 (by kernel_rfl), by first | rfl | (simp only [List.length_map]; exact hN.trans hN0)⟩)))))
  refine bG ?_
  refine bI [(0, (.msl 1 lo0p 0 (List.length aA))), (2, (eI hi2)), (3, (eI bJ)), (8, (eI cF)), (9, (eI (wR ((wR ((2 : Int) * cF)) + (1 : Int)))))] ?_
  refine dN (fun T H => ∃ aA : List Int, ∃ dX : Int, Has T [(0, (.msl 1 lo0p 0 (List.length aA))), (2, (eI hi2)), (3, (eI bJ)), (8, (eI cF)), (9, (eI dX))] ∧ aJ ⟨H0, [lo0p], []⟩ H [(lo0p, 1, List.map (eI) aA)] ∧ List.length aA = N0 ∧ fW aA hi2 bJ cF dX = some out1) ?_ ?_
  · clear hO hN h1
    rintro T H ⟨aA, dX, hT, hO, hN, h1⟩
    refine aY hT ?_
    clear hT
    unfold fW at h1
    refine aN ?_
    refine aN ?_
    refine fD (fC [51]) aD 14 ?_
    obtain ⟨c2, h1⟩ := aU h1
    refine cH 5 [0 ≤ (wR (bJ + cF)) ∧ (wR (bJ + cF)) < (lN aA)] ⟨c2, trivial⟩ ?_
    refine gY 0 lo0p 1 (0 + Int.toNat (wR (bJ + cF))) (eI (gD aA (wR (bJ + cF)))) (eI (gD aA (wR (bJ + cF)))) (List.map (eI) aA) hO (cD c2) ?_
    obtain ⟨c3, h1⟩ := aU h1
    refine cH 11 [0 ≤ (wR (bJ + dX)) ∧ (wR (bJ + dX)) < (lN aA)] ⟨c3, trivial⟩ ?_
    refine gY 0 lo0p 1 (0 + Int.toNat (wR (bJ + dX))) (eI (gD aA (wR (bJ + dX)))) (eI (gD aA (wR (bJ + dX)))) (List.map (eI) aA) hO (cD c3) ?_
    obtain ⟨x4, hx5, h1⟩ := aX h1
    refine CE (fO (gD aA (wR (bJ + cF))) (gD aA (wR (bJ + dX))) _ hx5) hO ?_
    intro H hO
    refine iF ?_
    refine bT [] [(52, (aE (!x4)))] ?_
    refine bF h1 (fun h1 => ?_) (fun h1 => ?_)
    · refine bK ?_
      obtain rfl := oI h1
      obtain rfl : _ = rr0 := ho0
      replace h0 : some aA = some r := h0
      obtain rfl := oI h0
      exact aG (aP (bE (aP (bE (mK (x := (.tup [])) (by kernel_rfl) (aO.refl _) ⟨rfl, hO.ext, hO.at 0 (by kernel_rfl), by first | rfl | (simp only [List.length_map]; exact hN.trans hN0)⟩)))))
    refine bG ?_
    refine bI [(0, (.msl 1 lo0p 0 (List.length aA))), (2, (eI hi2)), (3, (eI bJ)), (8, (eI cF)), (9, (eI dX))] ?_
    refine aN ?_
    refine fD (fC []) aD 24 ?_
    obtain ⟨c8, h1⟩ := aU h1
    refine cH 13 [0 ≤ (wR (bJ + dX)) ∧ (wR (bJ + dX)) < (lN aA)] ⟨c8, trivial⟩ ?_
    refine gY 0 lo0p 1 (0 + Int.toNat (wR (bJ + dX))) (eI (gD aA (wR (bJ + dX)))) (eI (gD aA (wR (bJ + dX)))) (List.map (eI) aA) hO (cD c8) ?_
    obtain ⟨c9, h1⟩ := aU h1
    refine cH 19 [0 ≤ (wR (bJ + cF)) ∧ (wR (bJ + cF)) < (lN aA)] ⟨c9, trivial⟩ ?_
    refine gY 0 lo0p 1 (0 + Int.toNat (wR (bJ + cF))) (eI (gD aA (wR (bJ + cF)))) (eI (gD aA (wR (bJ + cF)))) (List.map (eI) aA) hO (cD c9) ?_
    obtain ⟨c10, h1⟩ := aU h1
    refine cH 21 [0 ≤ (wR (bJ + cF)) ∧ (wR (bJ + cF)) < (lN aA)] ⟨c10, trivial⟩ ?_
    refine kG 0 lo0p 1 (0 + Int.toNat (wR (bJ + cF))) (eI (gD aA (wR (bJ + cF)))) (eI (gD aA (wR (bJ + dX)))) (List.map (eI) aA) [(lo0p, 1, List.map (eI) (List.set aA (Int.toNat (wR (bJ + cF))) (gD aA (wR (bJ + dX)))))] hO (cD c10) (by simp only [List.set, gV]) ?_
    intro H hO
    replace hN : List.length (List.set aA (Int.toNat (wR (bJ + cF))) (gD aA (wR (bJ + dX)))) = N0 := by simpa using hN
    obtain ⟨c11, h1⟩ := aU h1
    refine cH 23 [0 ≤ (wR (bJ + dX)) ∧ (wR (bJ + dX)) < (lN aA)] ⟨c11, trivial⟩ ?_
    refine kG 0 lo0p 1 (0 + Int.toNat (wR (bJ + dX))) (eI (gD (List.set aA (Int.toNat (wR (bJ + cF))) (gD aA (wR (bJ + dX)))) (wR (bJ + dX)))) (eI (gD aA (wR (bJ + cF)))) (List.map (eI) (List.set aA (Int.toNat (wR (bJ + cF))) (gD aA (wR (bJ + dX))))) [(lo0p, 1, List.map (eI) (List.set (List.set aA (Int.toNat (wR (bJ + cF))) (gD aA (wR (bJ + dX)))) (Int.toNat (wR (bJ + dX))) (gD aA (wR (bJ + cF)))))] hO (mF c11 (by simp [])) (by simp only [List.set, gV]) ?_
    intro H hO
    replace hN : List.length (List.set (List.set aA (Int.toNat (wR (bJ + cF))) (gD aA (wR (bJ + dX)))) (Int.toNat (wR (bJ + dX))) (gD aA (wR (bJ + cF)))) = N0 := by simpa using hN
    refine mR (by kernel_rfl) ?_
    refine cX (l := [(0, (.msl 1 lo0p 0 (List.length (List.set (List.set aA (Int.toNat (wR (bJ + cF))) (gD aA (wR (bJ + dX)))) (Int.toNat (wR (bJ + dX))) (gD aA (wR (bJ + cF))))))), (2, (eI hi2)), (3, (eI bJ)), (9, (eI dX))]) ⟨[(0, (.msl 1 lo0p 0 (List.length aA))), (2, (eI hi2)), (3, (eI bJ)), (9, (eI dX))], by kernel_rfl, rfl, ⟨aO.eq (by simp []), aO.refl _, aO.refl _, aO.refl _, trivial⟩⟩ ?_
    refine aG (aF (?_))
    refine aV aD 2 ?_
    refine bB ?_
    exact aG (aW (aF (⟨rfl, _, (oI h1).symm, .eq (by kernel_rfl), hO, hN⟩)))
  refine aN ?_
  obtain ⟨c12, h1⟩ := aU h1
  obtain ⟨c13, h1⟩ := aU h1
  obtain ⟨x14, hx15, h1⟩ := aX h1
  refine fD (fC []) aD 20 ?_
  refine lZ (K := fun T H => Has (lift T) [(0, (.msl 1 lo0p 0 (List.length aA))), (2, (eI hi2)), (3, (eI bJ)), (8, (eI cF)), (9, (eI (wR ((wR ((2 : Int) * cF)) + (1 : Int))))), (36, (aE ((decide ((wR ((wR ((wR ((2 : Int) * cF)) + (1 : Int))) + (1 : Int))) < hi2)) && x14)))] ∧ aJ ⟨H0, [lo0p], []⟩ H [(lo0p, 1, List.map (eI) aA)]) ?_ ?_
  · refine mZ 5 ?_
    refine kP (t := 21) (e := decide ((wR ((wR ((wR ((2 : Int) * cF)) + (1 : Int))) + (1 : Int))) < hi2)) (by kernel_rfl) (fun hg16 => ?_) (fun hg16 => ?_)
    · refine cH 10 [0 ≤ (wR (bJ + (wR ((wR ((2 : Int) * cF)) + (1 : Int))))) ∧ (wR (bJ + (wR ((wR ((2 : Int) * cF)) + (1 : Int))))) < (lN aA)] ⟨(c12 hg16), trivial⟩ ?_
      refine jA 0 lo0p 1 (0 + Int.toNat (wR (bJ + (wR ((wR ((2 : Int) * cF)) + (1 : Int)))))) (eI (gD aA (wR (bJ + (wR ((wR ((2 : Int) * cF)) + (1 : Int))))))) (eI (gD aA (wR (bJ + (wR ((wR ((2 : Int) * cF)) + (1 : Int))))))) (List.map (eI) aA) (by kernel_rfl) (by kernel_rfl) (by kernel_rfl) hO (by kernel_rfl) (cD (c12 hg16)) ?_
      refine cH 17 [0 ≤ (wR ((wR (bJ + (wR ((wR ((2 : Int) * cF)) + (1 : Int))))) + (1 : Int))) ∧ (wR ((wR (bJ + (wR ((wR ((2 : Int) * cF)) + (1 : Int))))) + (1 : Int))) < (lN aA)] ⟨(c13 hg16), trivial⟩ ?_
      refine jA 0 lo0p 1 (0 + Int.toNat (wR ((wR (bJ + (wR ((wR ((2 : Int) * cF)) + (1 : Int))))) + (1 : Int)))) (eI (gD aA (wR ((wR (bJ + (wR ((wR ((2 : Int) * cF)) + (1 : Int))))) + (1 : Int))))) (eI (gD aA (wR ((wR (bJ + (wR ((wR ((2 : Int) * cF)) + (1 : Int))))) + (1 : Int))))) (List.map (eI) aA) (by kernel_rfl) (by kernel_rfl) (by kernel_rfl) hO (by kernel_rfl) (cD (c13 hg16)) ?_
      refine lO 70 [(eI (gD aA (wR (bJ + (wR ((wR ((2 : Int) * cF)) + (1 : Int))))))), (eI (gD aA (wR ((wR (bJ + (wR ((wR ((2 : Int) * cF)) + (1 : Int))))) + (1 : Int)))))] (aE x14) (by kernel_rfl) (by kernel_rfl) (fO (gD aA (wR (bJ + (wR ((wR ((2 : Int) * cF)) + (1 : Int)))))) (gD aA (wR ((wR (bJ + (wR ((wR ((2 : Int) * cF)) + (1 : Int))))) + (1 : Int)))) _ (jG hx15 hg16)) hO ?_
      intro H hO
      refine iF ?_
      exact ⟨⟨[(0, (.msl 1 lo0p 0 (List.length aA))), (2, (eI hi2)), (3, (eI bJ)), (8, (eI cF)), (9, (eI (wR ((wR ((2 : Int) * cF)) + (1 : Int))))), (36, (aE x14))], by kernel_rfl, rfl, ⟨aO.refl _, aO.refl _, aO.refl _, aO.refl _, aO.refl _, aO.eq (congrArg aE (jH hg16 rfl).symm), trivial⟩⟩, hO⟩
    refine iF ?_
    exact ⟨⟨[(0, (.msl 1 lo0p 0 (List.length aA))), (2, (eI hi2)), (3, (eI bJ)), (8, (eI cF)), (9, (eI (wR ((wR ((2 : Int) * cF)) + (1 : Int))))), (36, (aE false))], by kernel_rfl, rfl, ⟨aO.refl _, aO.refl _, aO.refl _, aO.refl _, aO.refl _, aO.eq (congrArg aE (jH hg16 rfl).symm), trivial⟩⟩, hO⟩
  · rintro T H ⟨hT, hO⟩
    refine cX hT ?_
    clear hT
    refine aG (aF ?_)
    refine bF h1 (fun h1 => ?_) (fun h1 => ?_)
    · refine aV aD 3 ?_
      refine bB ?_
      exact aG (aF (⟨rfl, _, _, .eq (by kernel_rfl), hO, hN, h1⟩))
    refine bG ?_
    exact aG (aF (⟨rfl, _, _, .eq (by kernel_rfl), hO, hN, h1⟩))

theorem wY (lo0p : Nat) (aA : (List Int)) (a1 : Int) (b2 : Int) (r : List Int) (h0 : iW aA a1 b2 = some r) : mJ Try.prog 80 lo0p 1 (List.map (eI) aA) (List.map (eI) r) [(.msl 1 lo0p 0 (List.length aA)), (eI a1), (eI b2)] (.tup []) := by
  intro H0 hl0
  refine dG Try.func80 ?_
  have hO := aJ.sW hl0
  clear hl0
  obtain ⟨N0, hN0⟩ : ∃ n, n = List.length aA := ⟨_, rfl⟩
  have hN : List.length aA = N0 := hN0.symm
  unfold iW at h0
  refine aT aD 2 [] [(6, (eI a1))] ?_
  refine aT aD 1 [] [(7, (eI (0 : Int)))] ?_
  refine aT aD 4 [1, 2] [(8, (eI (wR (b2 - a1))))] ?_
  refine dN (fun T H => ∃ aA : List Int, ∃ bP : Int, ∃ lo7 : Int, ∃ hi8 : Int, Has T [(0, (.msl 1 lo0p 0 (List.length aA))), (6, (eI bP)), (7, (eI lo7)), (8, (eI hi8))] ∧ aJ ⟨H0, [lo0p], []⟩ H [(lo0p, 1, List.map (eI) aA)] ∧ List.length aA = N0 ∧ iO aA bP lo7 hi8 = some r) ?_ ?_
  · clear hO hN h0
    rintro T H ⟨aA, bP, lo7, hi8, hT, hO, hN, h0⟩
    refine aY hT ?_
    clear hT
    unfold iO at h0
    refine aT aD 3 [8] [(10, (eI (wR (hi8 - (1 : Int)))))] ?_
    refine cA 2 ?_
    refine eU [(0, (.msl 1 lo0p 0 (List.length aA))), (6, (eI bP)), (7, (eI lo7)), (10, (eI (wR (hi8 - (1 : Int)))))] ?_
    refine dS (fun T H => ∃ aA : List Int, ∃ i10 : Int, Has T [(0, (.msl 1 lo0p 0 (List.length aA))), (6, (eI bP)), (7, (eI lo7)), (10, (eI i10))] ∧ aJ ⟨H0, [lo0p], []⟩ H [(lo0p, 1, List.map (eI) aA)] ∧ List.length aA = N0 ∧ jX aA bP lo7 i10 = some r) ?_ ⟨aA, wR (hi8 - (1 : Int)), .eq (by kernel_rfl), hO, hN, h0⟩
    clear hO hN h0
    rintro T H ⟨aA, i10, hT, hO, hN, h0⟩
    refine aY hT ?_
    clear hT
    unfold jX at h0
    obtain ⟨rr0, hl0, h0⟩ := aX h0
    refine cS (by kernel_rfl) (fun (s : List Int × Int) T H => Has T [(0, (.msl 1 lo0p 0 (List.length s.1))), (6, (eI bP)), (7, (eI lo7)), (10, (eI s.2))] ∧ aJ ⟨H0, [lo0p], []⟩ H [(lo0p, 1, List.map (eI) s.1)] ∧ List.length s.1 = N0) hl0 ⟨.eq (by kernel_rfl), hO, hN⟩ ?_
    clear hO hN
    rintro k0 s out1 T H ⟨hT, hO, hN⟩ h1 ho0
    obtain ⟨aA, i10⟩ := s
    replace h1 : dZ bP lo7 aA i10 = some out1 := h1
    try dsimp only at hT
    refine aY hT ?_
    clear hT
    unfold dZ at h1
    refine aN ?_
    refine aT aD 2 [] [(30, (aE (decide ((0 : Int) ≤ i10))))] ?_
    refine bF h1 (fun h1 => ?_) (fun h1 => ?_)
    · refine bG ?_
      refine bI [(0, (.msl 1 lo0p 0 (List.length aA))), (6, (eI bP)), (7, (eI lo7)), (10, (eI i10))] ?_
      refine aN ?_
      refine cA 3 ?_
      refine aN ?_
      refine fD (fC []) aD 20 ?_
      obtain ⟨c2, h1⟩ := aU h1
      refine cH 11 [0 ≤ (wR (bP + i10)) ∧ (wR (bP + i10)) < (lN aA)] ⟨c2, trivial⟩ ?_
      refine gY 0 lo0p 1 (0 + Int.toNat (wR (bP + i10))) (eI (gD aA (wR (bP + i10)))) (eI (gD aA (wR (bP + i10)))) (List.map (eI) aA) hO (cD c2) ?_
      obtain ⟨c3, h1⟩ := aU h1
      refine cH 15 [0 ≤ bP ∧ bP < (lN aA)] ⟨c3, trivial⟩ ?_
      refine gY 0 lo0p 1 (0 + Int.toNat bP) (eI (gD aA bP)) (eI (gD aA bP)) (List.map (eI) aA) hO (cD c3) ?_
      obtain ⟨c4, h1⟩ := aU h1
      refine cH 17 [0 ≤ bP ∧ bP < (lN aA)] ⟨c4, trivial⟩ ?_
      refine kG 0 lo0p 1 (0 + Int.toNat bP) (eI (gD aA bP)) (eI (gD aA (wR (bP + i10)))) (List.map (eI) aA) [(lo0p, 1, List.map (eI) (List.set aA (Int.toNat bP) (gD aA (wR (bP + i10)))))] hO (cD c4) (by simp only [List.set, gV]) ?_
      intro H hO
      replace hN : List.length (List.set aA (Int.toNat bP) (gD aA (wR (bP + i10)))) = N0 := by simpa using hN
      obtain ⟨c5, h1⟩ := aU h1
      refine cH 19 [0 ≤ (wR (bP + i10)) ∧ (wR (bP + i10)) < (lN aA)] ⟨c5, trivial⟩ ?_
      refine kG 0 lo0p 1 (0 + Int.toNat (wR (bP + i10))) (eI (gD (List.set aA (Int.toNat bP) (gD aA (wR (bP + i10)))) (wR (bP + i10)))) (eI (gD aA bP)) (List.map (eI) (List.set aA (Int.toNat bP) (gD aA (wR (bP + i10))))) [(lo0p, 1, List.map (eI) (List.set (List.set aA (Int.toNat bP) (gD aA (wR (bP + i10)))) (Int.toNat (wR (bP + i10))) (gD aA bP)))] hO (mF c5 (by simp [])) (by simp only [List.set, gV]) ?_
      intro H hO
      replace hN : List.length (List.set (List.set aA (Int.toNat bP) (gD aA (wR (bP + i10)))) (Int.toNat (wR (bP + i10))) (gD aA bP)) = N0 := by simpa using hN
      refine mR (by kernel_rfl) ?_
      refine cX (l := [(0, (.msl 1 lo0p 0 (List.length (List.set (List.set aA (Int.toNat bP) (gD aA (wR (bP + i10)))) (Int.toNat (wR (bP + i10))) (gD aA bP))))), (6, (eI bP)), (7, (eI lo7)), (10, (eI i10))]) ⟨[(0, (.msl 1 lo0p 0 (List.length aA))), (6, (eI bP)), (7, (eI lo7)), (10, (eI i10))], by kernel_rfl, rfl, ⟨aO.eq (by simp []), aO.refl _, aO.refl _, aO.refl _, trivial⟩⟩ ?_
      refine aG (aF (?_))
      refine aV aD 5 ?_
      refine bU 4 ?_
      obtain ⟨x6, hx7, h1⟩ := aX h1
      refine wS [(lo0p, 1, List.map (eI) x6)] 0 (pN lo0p (List.set (List.set aA (Int.toNat bP) (gD aA (wR (bP + i10)))) (Int.toNat (wR (bP + i10))) (gD aA bP)) lo7 i10 bP _ hx7) hO ?_
      intro H hO hl8
      simp only [List.length_map] at hl8
      replace hN := hl8.trans hN
      refine iP ?_
      refine cX (l := [(0, (.msl 1 lo0p 0 (List.length x6))), (6, (eI bP)), (7, (eI lo7)), (10, (eI i10))]) ⟨[(0, (.msl 1 lo0p 0 (List.length (List.set (List.set aA (Int.toNat bP) (gD aA (wR (bP + i10)))) (Int.toNat (wR (bP + i10))) (gD aA bP))))), (6, (eI bP)), (7, (eI lo7)), (10, (eI i10))], by kernel_rfl, rfl, ⟨aO.eq (by simp [hl8]), aO.refl _, aO.refl _, aO.refl _, trivial⟩⟩ ?_
      refine aG (aW (aF (?_)))
      refine aV aD 3 ?_
      refine bB ?_
      exact aG (aF (⟨rfl, _, (oI h1).symm, .eq (by kernel_rfl), hO, hN⟩))
    refine eX 2 ?_
    obtain rfl := oI h1
    obtain rfl : _ = rr0 := ho0
    replace h0 : some aA = some r := h0
    obtain rfl := oI h0
    exact aG (aR (aR (bQ (zK (x := (.tup [])) (by kernel_rfl) (aO.refl _) ⟨rfl, hO.ext, hO.at 0 (by kernel_rfl), by first | rfl | (simp only [List.length_map]; exact hN.trans hN0)⟩))))
  refine aN ?_
  refine aV aD 4 ?_
  obtain ⟨c9, h0⟩ := aU h0
  refine nF [(2 : Int) ≠ 0] ⟨c9, trivial⟩ ?_
  refine bT [] [(9, (eI (wR (Int.tdiv (wR ((wR (b2 - a1)) - (1 : Int))) (2 : Int)))))] ?_
  refine cA 0 ?_
  refine eU [(0, (.msl 1 lo0p 0 (List.length aA))), (6, (eI a1)), (7, (eI (0 : Int))), (8, (eI (wR (b2 - a1)))), (9, (eI (wR (Int.tdiv (wR ((wR (b2 - a1)) - (1 : Int))) (2 : Int)))))] ?_
  refine dS (fun T H => ∃ aA : List Int, ∃ bP : Int, ∃ lo7 : Int, ∃ hi8 : Int, ∃ i9 : Int, Has T [(0, (.msl 1 lo0p 0 (List.length aA))), (6, (eI bP)), (7, (eI lo7)), (8, (eI hi8)), (9, (eI i9))] ∧ aJ ⟨H0, [lo0p], []⟩ H [(lo0p, 1, List.map (eI) aA)] ∧ List.length aA = N0 ∧ jW aA bP lo7 hi8 i9 = some r) ?_ ⟨aA, a1, (0 : Int), wR (b2 - a1), wR (Int.tdiv (wR ((wR (b2 - a1)) - (1 : Int))) (2 : Int)), .eq (by kernel_rfl), hO, hN, h0⟩
  clear hO hN h0
  rintro T H ⟨aA, bP, lo7, hi8, i9, hT, hO, hN, h0⟩
  refine aY hT ?_
  clear hT
  unfold jW at h0
  obtain ⟨rr0, hl0, h0⟩ := aX h0
  refine cS (by kernel_rfl) (fun (s : List Int × Int) T H => Has T [(0, (.msl 1 lo0p 0 (List.length s.1))), (6, (eI bP)), (7, (eI lo7)), (8, (eI hi8)), (9, (eI s.2))] ∧ aJ ⟨H0, [lo0p], []⟩ H [(lo0p, 1, List.map (eI) s.1)] ∧ List.length s.1 = N0) hl0 ⟨.eq (by kernel_rfl), hO, hN⟩ ?_
  clear hO hN
  rintro k0 s out1 T H ⟨hT, hO, hN⟩ h1 ho0
  obtain ⟨aA, i9⟩ := s
  replace h1 : dY bP lo7 hi8 aA i9 = some out1 := h1
  try dsimp only at hT
  refine aY hT ?_
  clear hT
  unfold dY at h1
  refine aN ?_
  refine aT aD 2 [] [(19, (aE (decide ((0 : Int) ≤ i9))))] ?_
  refine bF h1 (fun h1 => ?_) (fun h1 => ?_)
  · refine bG ?_
    refine bI [(0, (.msl 1 lo0p 0 (List.length aA))), (6, (eI bP)), (7, (eI lo7)), (8, (eI hi8)), (9, (eI i9))] ?_
    refine aN ?_
    refine cA 1 ?_
    refine aV aD 5 ?_
    refine bU 4 ?_
    obtain ⟨x11, hx12, h1⟩ := aX h1
    refine wS [(lo0p, 1, List.map (eI) x11)] 0 (pN lo0p aA i9 hi8 bP _ hx12) hO ?_
    intro H hO hl13
    simp only [List.length_map] at hl13
    replace hN := hl13.trans hN
    refine iP ?_
    refine cX (l := [(0, (.msl 1 lo0p 0 (List.length x11))), (6, (eI bP)), (7, (eI lo7)), (8, (eI hi8)), (9, (eI i9))]) ⟨[(0, (.msl 1 lo0p 0 (List.length aA))), (6, (eI bP)), (7, (eI lo7)), (8, (eI hi8)), (9, (eI i9))], by kernel_rfl, rfl, ⟨aO.eq (by simp [hl13]), aO.refl _, aO.refl _, aO.refl _, aO.refl _, trivial⟩⟩ ?_
    refine aG (aW (aF (?_)))
    refine aV aD 3 ?_
    refine bB ?_
    exact aG (aF (⟨rfl, _, (oI h1).symm, .eq (by kernel_rfl), hO, hN⟩))
  refine eX 0 ?_
  obtain rfl := oI h1
  obtain rfl : _ = rr0 := ho0
  replace h0 : iO aA bP lo7 hi8 = some r := h0
  exact aG (aR (aR (bQ (aF (⟨rfl, _, _, _, _, .eq (by kernel_rfl), hO, hN, h0⟩)))))

theorem zF (AX : Int) (r : Int) (h0 : kI AX = some r) : dL Try.prog 106 [(eI AX)] (cV .u64 r) := by
  intro H0
  refine dG Try.func106 ?_
  have hO := aJ.start H0
  unfold kI at h0
  refine aT aD 1 [] [] ?_
  refine aN ?_
  refine aV aD 5 ?_
  refine bU 2 ?_
  obtain ⟨x1, hx2, h0⟩ := aX h0
  refine dR (zP (IntKind.u64.wrap AX) _ hx2) hO ?_
  intro H hO
  obtain ⟨c4, h0⟩ := aU h0
  refine nF [0 ≤ x1] ⟨c4, trivial⟩ ?_
  refine bI [(2, (cV .u64 (IntKind.u64.wrap ((1 : Int) * 2 ^ (min (Int.toNat x1) 64)))))] ?_
  refine bK ?_
  obtain rfl := oI h0
  exact aG (Q_r hO)

theorem AN (lo0p : Nat) (r0 : Int) (r : (Int × Int)) (h0 : kQ r0 = some r) : xY Try.prog 107 [(.lp lo0p 0 0)] [(lo0p, 1, [(cV .u64 r0)])] (fun x L => x = (cV .u64 r.1) ∧ L = [(lo0p, 1, [(cV .u64 r.2)])]) := by
  intro F H0 hO
  obtain ⟨Fh, Fe, Fg⟩ := F
  refine dG Try.func107 ?_
  unfold kQ at h0
  refine aT aD 1 [] [] ?_
  refine aN ?_
  refine fD (fC []) aD 10 ?_
  refine mZ 2 ?_
  refine gY 0 lo0p 1 0 (cV .u64 r0) (cV .u64 r0) [(cV .u64 r0)] hO rfl ?_
  refine mZ 5 ?_
  refine gY 0 lo0p 1 0 (cV .u64 r0) (cV .u64 r0) [(cV .u64 r0)] hO rfl ?_
  obtain ⟨c1, h0⟩ := aU h0
  refine cH 9 [0 ≤ (13 : Int)] ⟨c1, trivial⟩ ?_
  refine kG 0 lo0p 1 0 (cV .u64 r0) (cV .u64 (bO .xor .u64 r0 (IntKind.u64.wrap (r0 * 2 ^ (min (Int.toNat (13 : Int)) 64))))) [(cV .u64 r0)] [(lo0p, 1, [(cV .u64 (bO .xor .u64 r0 (IntKind.u64.wrap (r0 * 2 ^ (min (Int.toNat (13 : Int)) 64)))))])] hO rfl (by kernel_rfl) ?_
  intro H hO
  refine mR (by kernel_rfl) ?_
  refine bT [] [] ?_
  refine aN ?_
  refine fD (fC []) aD 10 ?_
  refine mZ 2 ?_
  refine gY 0 lo0p 1 0 (cV .u64 (bO .xor .u64 r0 (IntKind.u64.wrap (r0 * 2 ^ (min (Int.toNat (13 : Int)) 64))))) (cV .u64 (bO .xor .u64 r0 (IntKind.u64.wrap (r0 * 2 ^ (min (Int.toNat (13 : Int)) 64))))) [(cV .u64 (bO .xor .u64 r0 (IntKind.u64.wrap (r0 * 2 ^ (min (Int.toNat (13 : Int)) 64)))))] hO rfl ?_
  refine mZ 5 ?_
  refine gY 0 lo0p 1 0 (cV .u64 (bO .xor .u64 r0 (IntKind.u64.wrap (r0 * 2 ^ (min (Int.toNat (13 : Int)) 64))))) (cV .u64 (bO .xor .u64 r0 (IntKind.u64.wrap (r0 * 2 ^ (min (Int.toNat (13 : Int)) 64))))) [(cV .u64 (bO .xor .u64 r0 (IntKind.u64.wrap (r0 * 2 ^ (min (Int.toNat (13 : Int)) 64)))))] hO rfl ?_
  obtain ⟨c2, h0⟩ := aU h0
  refine cH 9 [0 ≤ (7 : Int)] ⟨c2, trivial⟩ ?_
  refine kG 0 lo0p 1 0 (cV .u64 (bO .xor .u64 r0 (IntKind.u64.wrap (r0 * 2 ^ (min (Int.toNat (13 : Int)) 64))))) (cV .u64 (bO .xor .u64 (bO .xor .u64 r0 (IntKind.u64.wrap (r0 * 2 ^ (min (Int.toNat (13 : Int)) 64)))) (Int.fdiv (bO .xor .u64 r0 (IntKind.u64.wrap (r0 * 2 ^ (min (Int.toNat (13 : Int)) 64)))) (2 ^ (min (Int.toNat (7 : Int)) 64))))) [(cV .u64 (bO .xor .u64 r0 (IntKind.u64.wrap (r0 * 2 ^ (min (Int.toNat (13 : Int)) 64)))))] [(lo0p, 1, [(cV .u64 (bO .xor .u64 (bO .xor .u64 r0 (IntKind.u64.wrap (r0 * 2 ^ (min (Int.toNat (13 : Int)) 64)))) (Int.fdiv (bO .xor .u64 r0 (IntKind.u64.wrap (r0 * 2 ^ (min (Int.toNat (13 : Int)) 64)))) (2 ^ (min (Int.toNat (7 : Int)) 64)))))])] hO rfl (by kernel_rfl) ?_
  intro H hO
  refine mR (by kernel_rfl) ?_
  refine bT [] [] ?_
  refine aN ?_
  refine fD (fC []) aD 10 ?_
  refine mZ 2 ?_
  refine gY 0 lo0p 1 0 (cV .u64 (bO .xor .u64 (bO .xor .u64 r0 (IntKind.u64.wrap (r0 * 2 ^ (min (Int.toNat (13 : Int)) 64)))) (Int.fdiv (bO .xor .u64 r0 (IntKind.u64.wrap (r0 * 2 ^ (min (Int.toNat (13 : Int)) 64)))) (2 ^ (min (Int.toNat (7 : Int)) 64))))) (cV .u64 (bO .xor .u64 (bO .xor .u64 r0 (IntKind.u64.wrap (r0 * 2 ^ (min (Int.toNat (13 : Int)) 64)))) (Int.fdiv (bO .xor .u64 r0 (IntKind.u64.wrap (r0 * 2 ^ (min (Int.toNat (13 : Int)) 64)))) (2 ^ (min (Int.toNat (7 : Int)) 64))))) [(cV .u64 (bO .xor .u64 (bO .xor .u64 r0 (IntKind.u64.wrap (r0 * 2 ^ (min (Int.toNat (13 : Int)) 64)))) (Int.fdiv (bO .xor .u64 r0 (IntKind.u64.wrap (r0 * 2 ^ (min (Int.toNat (13 : Int)) 64)))) (2 ^ (min (Int.toNat (7 : Int)) 64)))))] hO rfl ?_
  refine mZ 5 ?_
  refine gY 0 lo0p 1 0 (cV .u64 (bO .xor .u64 (bO .xor .u64 r0 (IntKind.u64.wrap (r0 * 2 ^ (min (Int.toNat (13 : Int)) 64)))) (Int.fdiv (bO .xor .u64 r0 (IntKind.u64.wrap (r0 * 2 ^ (min (Int.toNat (13 : Int)) 64)))) (2 ^ (min (Int.toNat (7 : Int)) 64))))) (cV .u64 (bO .xor .u64 (bO .xor .u64 r0 (IntKind.u64.wrap (r0 * 2 ^ (min (Int.toNat (13 : Int)) 64)))) (Int.fdiv (bO .xor .u64 r0 (IntKind.u64.wrap (r0 * 2 ^ (min (Int.toNat (13 : Int)) 64)))) (2 ^ (min (Int.toNat (7 : Int)) 64))))) [(cV .u64 (bO .xor .u64 (bO .xor .u64 r0 (IntKind.u64.wrap (r0 * 2 ^ (min (Int.toNat (13 : Int)) 64)))) (Int.fdiv (bO .xor .u64 r0 (IntKind.u64.wrap (r0 * 2 ^ (min (Int.toNat (13 : Int)) 64)))) (2 ^ (min (Int.toNat (7 : Int)) 64)))))] hO rfl ?_
  obtain ⟨c3, h0⟩ := aU h0
  refine cH 9 [0 ≤ (17 : Int)] ⟨c3, trivial⟩ ?_
  refine kG 0 lo0p 1 0 (cV .u64 (bO .xor .u64 (bO .xor .u64 r0 (IntKind.u64.wrap (r0 * 2 ^ (min (Int.toNat (13 : Int)) 64)))) (Int.fdiv (bO .xor .u64 r0 (IntKind.u64.wrap (r0 * 2 ^ (min (Int.toNat (13 : Int)) 64)))) (2 ^ (min (Int.toNat (7 : Int)) 64))))) (cV .u64 (bO .xor .u64 (bO .xor .u64 (bO .xor .u64 r0 (IntKind.u64.wrap (r0 * 2 ^ (min (Int.toNat (13 : Int)) 64)))) (Int.fdiv (bO .xor .u64 r0 (IntKind.u64.wrap (r0 * 2 ^ (min (Int.toNat (13 : Int)) 64)))) (2 ^ (min (Int.toNat (7 : Int)) 64)))) (IntKind.u64.wrap ((bO .xor .u64 (bO .xor .u64 r0 (IntKind.u64.wrap (r0 * 2 ^ (min (Int.toNat (13 : Int)) 64)))) (Int.fdiv (bO .xor .u64 r0 (IntKind.u64.wrap (r0 * 2 ^ (min (Int.toNat (13 : Int)) 64)))) (2 ^ (min (Int.toNat (7 : Int)) 64)))) * 2 ^ (min (Int.toNat (17 : Int)) 64))))) [(cV .u64 (bO .xor .u64 (bO .xor .u64 r0 (IntKind.u64.wrap (r0 * 2 ^ (min (Int.toNat (13 : Int)) 64)))) (Int.fdiv (bO .xor .u64 r0 (IntKind.u64.wrap (r0 * 2 ^ (min (Int.toNat (13 : Int)) 64)))) (2 ^ (min (Int.toNat (7 : Int)) 64)))))] [(lo0p, 1, [(cV .u64 (bO .xor .u64 (bO .xor .u64 (bO .xor .u64 r0 (IntKind.u64.wrap (r0 * 2 ^ (min (Int.toNat (13 : Int)) 64)))) (Int.fdiv (bO .xor .u64 r0 (IntKind.u64.wrap (r0 * 2 ^ (min (Int.toNat (13 : Int)) 64)))) (2 ^ (min (Int.toNat (7 : Int)) 64)))) (IntKind.u64.wrap ((bO .xor .u64 (bO .xor .u64 r0 (IntKind.u64.wrap (r0 * 2 ^ (min (Int.toNat (13 : Int)) 64)))) (Int.fdiv (bO .xor .u64 r0 (IntKind.u64.wrap (r0 * 2 ^ (min (Int.toNat (13 : Int)) 64)))) (2 ^ (min (Int.toNat (7 : Int)) 64)))) * 2 ^ (min (Int.toNat (17 : Int)) 64)))))])] hO rfl (by kernel_rfl) ?_
  intro H hO
  refine mR (by kernel_rfl) ?_
  refine bT [] [] ?_
  refine aN ?_
  refine aV aD 4 ?_
  refine bU 2 ?_
  refine tT 0 lo0p 1 0 (cV .u64 (bO .xor .u64 (bO .xor .u64 (bO .xor .u64 r0 (IntKind.u64.wrap (r0 * 2 ^ (min (Int.toNat (13 : Int)) 64)))) (Int.fdiv (bO .xor .u64 r0 (IntKind.u64.wrap (r0 * 2 ^ (min (Int.toNat (13 : Int)) 64)))) (2 ^ (min (Int.toNat (7 : Int)) 64)))) (IntKind.u64.wrap ((bO .xor .u64 (bO .xor .u64 r0 (IntKind.u64.wrap (r0 * 2 ^ (min (Int.toNat (13 : Int)) 64)))) (Int.fdiv (bO .xor .u64 r0 (IntKind.u64.wrap (r0 * 2 ^ (min (Int.toNat (13 : Int)) 64)))) (2 ^ (min (Int.toNat (7 : Int)) 64)))) * 2 ^ (min (Int.toNat (17 : Int)) 64))))) (cV .u64 (bO .xor .u64 (bO .xor .u64 (bO .xor .u64 r0 (IntKind.u64.wrap (r0 * 2 ^ (min (Int.toNat (13 : Int)) 64)))) (Int.fdiv (bO .xor .u64 r0 (IntKind.u64.wrap (r0 * 2 ^ (min (Int.toNat (13 : Int)) 64)))) (2 ^ (min (Int.toNat (7 : Int)) 64)))) (IntKind.u64.wrap ((bO .xor .u64 (bO .xor .u64 r0 (IntKind.u64.wrap (r0 * 2 ^ (min (Int.toNat (13 : Int)) 64)))) (Int.fdiv (bO .xor .u64 r0 (IntKind.u64.wrap (r0 * 2 ^ (min (Int.toNat (13 : Int)) 64)))) (2 ^ (min (Int.toNat (7 : Int)) 64)))) * 2 ^ (min (Int.toNat (17 : Int)) 64))))) [(cV .u64 (bO .xor .u64 (bO .xor .u64 (bO .xor .u64 r0 (IntKind.u64.wrap (r0 * 2 ^ (min (Int.toNat (13 : Int)) 64)))) (Int.fdiv (bO .xor .u64 r0 (IntKind.u64.wrap (r0 * 2 ^ (min (Int.toNat (13 : Int)) 64)))) (2 ^ (min (Int.toNat (7 : Int)) 64)))) (IntKind.u64.wrap ((bO .xor .u64 (bO .xor .u64 r0 (IntKind.u64.wrap (r0 * 2 ^ (min (Int.toNat (13 : Int)) 64)))) (Int.fdiv (bO .xor .u64 r0 (IntKind.u64.wrap (r0 * 2 ^ (min (Int.toNat (13 : Int)) 64)))) (2 ^ (min (Int.toNat (7 : Int)) 64)))) * 2 ^ (min (Int.toNat (17 : Int)) 64)))))] hO rfl ?_
  refine bB ?_
  refine bI [(0, (.lp lo0p 0 0)), (2, (cV .u64 (bO .xor .u64 (bO .xor .u64 (bO .xor .u64 r0 (IntKind.u64.wrap (r0 * 2 ^ (min (Int.toNat (13 : Int)) 64)))) (Int.fdiv (bO .xor .u64 r0 (IntKind.u64.wrap (r0 * 2 ^ (min (Int.toNat (13 : Int)) 64)))) (2 ^ (min (Int.toNat (7 : Int)) 64)))) (IntKind.u64.wrap ((bO .xor .u64 (bO .xor .u64 r0 (IntKind.u64.wrap (r0 * 2 ^ (min (Int.toNat (13 : Int)) 64)))) (Int.fdiv (bO .xor .u64 r0 (IntKind.u64.wrap (r0 * 2 ^ (min (Int.toNat (13 : Int)) 64)))) (2 ^ (min (Int.toNat (7 : Int)) 64)))) * 2 ^ (min (Int.toNat (17 : Int)) 64))))))] ?_
  refine bK ?_
  obtain rfl := oI h0
  exact aG (CW hO ⟨rfl, rfl⟩)

theorem uA (lo0p : Nat) (aA : (List Int)) (a1 : Int) (b2 : Int) (r : List Int) (h0 : gC aA a1 b2 = some r) : mJ Try.prog 81 lo0p 1 (List.map (eI) aA) (List.map (eI) r) [(.msl 1 lo0p 0 (List.length aA)), (eI a1), (eI b2)] (.tup []) := by
  intro H0 hl0
  refine dG Try.func81 ?_
  have hO := aJ.sW hl0
  clear hl0
  obtain ⟨N0, hN0⟩ : ∃ n, n = List.length aA := ⟨_, rfl⟩
  have hN : List.length aA = N0 := hN0.symm
  unfold gC at h0
  refine aT aD 4 [2] [(6, (eI (wR (b2 - a1))))] ?_
  refine aT aD 2 [] [(15, (aE (decide ((8 : Int) ≤ (wR (b2 - a1))))))] ?_
  refine bF h0 (fun h0 => ?_) (fun h0 => ?_)
  · refine aN ?_
    refine aV aD 4 ?_
    refine bU 2 ?_
    refine sF 1 (cV .u64 0) (by kernel_rfl) (by kernel_rfl) hO ?_
    intro lo2 H hO
    refine rW 1 lo2 1 0 (cV .u64 0) (cV .u64 (IntKind.u64.wrap (wR (b2 - a1)))) [(cV .u64 0)] [(lo0p, 1, List.map (eI) aA), (lo2, 1, [(cV .u64 (IntKind.u64.wrap (wR (b2 - a1))))])] hO rfl (by kernel_rfl) ?_
    intro H hO
    refine iP ?_
    refine bT [15] [(7, (.lp lo2 0 0))] ?_
    refine aN ?_
    refine aV aD 3 ?_
    refine bU 1 ?_
    obtain ⟨x3, hx4, h0⟩ := aX h0
    refine dR (zF (wR (b2 - a1)) _ hx4) hO ?_
    intro H hO
    refine bB ?_
    refine bT [] [(8, (cV .u64 x3))] ?_
    refine aN ?_
    refine aV aD 7 ?_
    obtain ⟨c6, h0⟩ := aU h0
    refine nF [(4 : Int) ≠ 0] ⟨c6, trivial⟩ ?_
    refine bI [(0, (.msl 1 lo0p 0 (List.length aA))), (1, (eI a1)), (6, (eI (wR (b2 - a1)))), (7, (.lp lo2 0 0)), (8, (cV .u64 x3)), (9, (eI (wR ((wR (a1 + (wR ((wR (Int.tdiv (wR (b2 - a1)) (4 : Int))) * (2 : Int))))) - (1 : Int)))))] ?_
    refine cA 0 ?_
    refine eU [(0, (.msl 1 lo0p 0 (List.length aA))), (1, (eI a1)), (6, (eI (wR (b2 - a1)))), (7, (.lp lo2 0 0)), (8, (cV .u64 x3)), (9, (eI (wR ((wR (a1 + (wR ((wR (Int.tdiv (wR (b2 - a1)) (4 : Int))) * (2 : Int))))) - (1 : Int)))))] ?_
    refine dS (fun T H => ∃ aA : List Int, ∃ jK : Int, ∃ kO : Int, ∃ iI : Int, ∃ idx9 : Int, Has T [(0, (.msl 1 lo0p 0 (List.length aA))), (1, (eI a1)), (6, (eI jK)), (7, (.lp lo2 0 0)), (8, (cV .u64 iI)), (9, (eI idx9))] ∧ aJ ⟨H0, [lo0p], []⟩ H [(lo0p, 1, List.map (eI) aA), (lo2, 1, [(cV .u64 kO)])] ∧ List.length aA = N0 ∧ iT aA a1 jK kO iI idx9 = some r) ?_ ⟨aA, wR (b2 - a1), IntKind.u64.wrap (wR (b2 - a1)), x3, wR ((wR (a1 + (wR ((wR (Int.tdiv (wR (b2 - a1)) (4 : Int))) * (2 : Int))))) - (1 : Int)), .eq (by kernel_rfl), hO, hN, h0⟩
    clear hO hN h0
    rintro T H ⟨aA, jK, kO, iI, idx9, hT, hO, hN, h0⟩
    refine aY hT ?_
    clear hT
    unfold iT at h0
    obtain ⟨rr0, hl0, h0⟩ := aX h0
    refine cS (by kernel_rfl) (fun (s : List Int × Int × Int) T H => Has T [(0, (.msl 1 lo0p 0 (List.length s.1))), (1, (eI a1)), (6, (eI jK)), (7, (.lp lo2 0 0)), (8, (cV .u64 iI)), (9, (eI s.2.2))] ∧ aJ ⟨H0, [lo0p], []⟩ H [(lo0p, 1, List.map (eI) s.1), (lo2, 1, [(cV .u64 s.2.1)])] ∧ List.length s.1 = N0) hl0 ⟨.eq (by kernel_rfl), hO, hN⟩ ?_
    clear hO hN
    rintro k0 s out1 T H ⟨hT, hO, hN⟩ h1 ho0
    obtain ⟨aA, kO, idx9⟩ := s
    replace h1 : cW a1 jK iI aA kO idx9 = some out1 := h1
    try dsimp only at hT
    refine aY hT ?_
    clear hT
    unfold cW at h1
    refine aN ?_
    refine aN ?_
    refine aV aD 8 ?_
    obtain ⟨c7, h1⟩ := aU h1
    refine nF [(4 : Int) ≠ 0] ⟨c7, trivial⟩ ?_
    refine bT [] [(33, (aE (decide (idx9 ≤ (wR ((wR (a1 + (wR ((wR (Int.tdiv jK (4 : Int))) * (2 : Int))))) + (1 : Int)))))))] ?_
    refine bF h1 (fun h1 => ?_) (fun h1 => ?_)
    · refine bG ?_
      refine bI [(0, (.msl 1 lo0p 0 (List.length aA))), (1, (eI a1)), (6, (eI jK)), (7, (.lp lo2 0 0)), (8, (cV .u64 iI)), (9, (eI idx9))] ?_
      refine aN ?_
      refine cA 1 ?_
      refine aN ?_
      refine aV aD 6 ?_
      obtain ⟨x9, hx10, h1⟩ := aX h1
      refine AL [(lo0p, 1, List.map (eI) aA)] [1, 0] (AN lo2 kO _ hx10) hO ?_
      intro r11 L12 H hP13 hO
      obtain ⟨rfl, rfl⟩ := hP13
      replace hO : aJ ⟨H0, [lo0p], []⟩ H [(lo2, 1, [(cV .u64 x9.2)]), (lo0p, 1, List.map (eI) aA)] := hO
      refine bB ?_
      replace hO := hO.pick (L' := [(lo0p, 1, List.map (eI) aA), (lo2, 1, [(cV .u64 x9.2)])]) [1, 0] (by decide) (by kernel_rfl)
      refine bT [] [(10, (eI (wR (bO .and .u64 x9.1 (IntKind.u64.wrap (iI - (1 : Int)))))))] ?_
      refine dN (fun T H => ∃ aA : List Int, ∃ kO : Int, ∃ fH : Int, Has T [(0, (.msl 1 lo0p 0 (List.length aA))), (1, (eI a1)), (6, (eI jK)), (7, (.lp lo2 0 0)), (8, (cV .u64 iI)), (9, (eI idx9)), (10, (eI fH))] ∧ aJ ⟨H0, [lo0p], []⟩ H [(lo0p, 1, List.map (eI) aA), (lo2, 1, [(cV .u64 kO)])] ∧ List.length aA = N0 ∧ eR aA a1 jK kO iI idx9 fH = some out1) ?_ ?_
      · clear hO hN h1
        rintro T H ⟨aA, kO, fH, hT, hO, hN, h1⟩
        refine aY hT ?_
        clear hT
        unfold eR at h1
        refine fD (fC []) aD 20 ?_
        obtain ⟨c14, h1⟩ := aU h1
        refine cH 11 [0 ≤ (wR (a1 + fH)) ∧ (wR (a1 + fH)) < (lN aA)] ⟨c14, trivial⟩ ?_
        refine gY 0 lo0p 1 (0 + Int.toNat (wR (a1 + fH))) (eI (gD aA (wR (a1 + fH)))) (eI (gD aA (wR (a1 + fH)))) (List.map (eI) aA) hO (cD c14) ?_
        obtain ⟨c15, h1⟩ := aU h1
        refine cH 15 [0 ≤ idx9 ∧ idx9 < (lN aA)] ⟨c15, trivial⟩ ?_
        refine gY 0 lo0p 1 (0 + Int.toNat idx9) (eI (gD aA idx9)) (eI (gD aA idx9)) (List.map (eI) aA) hO (cD c15) ?_
        obtain ⟨c16, h1⟩ := aU h1
        refine cH 17 [0 ≤ idx9 ∧ idx9 < (lN aA)] ⟨c16, trivial⟩ ?_
        refine kG 0 lo0p 1 (0 + Int.toNat idx9) (eI (gD aA idx9)) (eI (gD aA (wR (a1 + fH)))) (List.map (eI) aA) [(lo0p, 1, List.map (eI) (List.set aA (Int.toNat idx9) (gD aA (wR (a1 + fH))))), (lo2, 1, [(cV .u64 kO)])] hO (cD c16) (by simp only [List.set, gV]) ?_
        intro H hO
        replace hN : List.length (List.set aA (Int.toNat idx9) (gD aA (wR (a1 + fH)))) = N0 := by simpa using hN
        obtain ⟨c17, h1⟩ := aU h1
        refine cH 19 [0 ≤ (wR (a1 + fH)) ∧ (wR (a1 + fH)) < (lN aA)] ⟨c17, trivial⟩ ?_
        refine kG 0 lo0p 1 (0 + Int.toNat (wR (a1 + fH))) (eI (gD (List.set aA (Int.toNat idx9) (gD aA (wR (a1 + fH)))) (wR (a1 + fH)))) (eI (gD aA idx9)) (List.map (eI) (List.set aA (Int.toNat idx9) (gD aA (wR (a1 + fH))))) [(lo0p, 1, List.map (eI) (List.set (List.set aA (Int.toNat idx9) (gD aA (wR (a1 + fH)))) (Int.toNat (wR (a1 + fH))) (gD aA idx9))), (lo2, 1, [(cV .u64 kO)])] hO (mF c17 (by simp [])) (by simp only [List.set, gV]) ?_
        intro H hO
        replace hN : List.length (List.set (List.set aA (Int.toNat idx9) (gD aA (wR (a1 + fH)))) (Int.toNat (wR (a1 + fH))) (gD aA idx9)) = N0 := by simpa using hN
        refine mR (by kernel_rfl) ?_
        refine cX (l := [(0, (.msl 1 lo0p 0 (List.length (List.set (List.set aA (Int.toNat idx9) (gD aA (wR (a1 + fH)))) (Int.toNat (wR (a1 + fH))) (gD aA idx9))))), (1, (eI a1)), (6, (eI jK)), (7, (.lp lo2 0 0)), (8, (cV .u64 iI)), (9, (eI idx9))]) ⟨[(0, (.msl 1 lo0p 0 (List.length aA))), (1, (eI a1)), (6, (eI jK)), (7, (.lp lo2 0 0)), (8, (cV .u64 iI)), (9, (eI idx9))], by kernel_rfl, rfl, ⟨aO.eq (by simp []), aO.refl _, aO.refl _, aO.refl _, aO.refl _, aO.refl _, trivial⟩⟩ ?_
        refine aG (aW (aF (?_)))
        refine aV aD 3 ?_
        refine bB ?_
        exact aG (aF (⟨rfl, _, (oI h1).symm, .eq (by kernel_rfl), hO, hN⟩))
      refine aT aD 3 [] [(43, (aE (decide (jK ≤ (wR (bO .and .u64 x9.1 (IntKind.u64.wrap (iI - (1 : Int)))))))))] ?_
      refine bF h1 (fun h1 => ?_) (fun h1 => ?_)
      · refine aV aD 4 ?_
        refine bB ?_
        exact aG (aF (⟨rfl, _, _, _, .eq (by kernel_rfl), hO, hN, h1⟩))
      refine bG ?_
      exact aG (aF (⟨rfl, _, _, _, .eq (by kernel_rfl), hO, hN, h1⟩))
    refine eX 0 ?_
    replace hO := hO.pick (L' := [(lo0p, 1, List.map (eI) aA)]) [0] (by decide) (by kernel_rfl)
    obtain rfl := oI h1
    obtain rfl : _ = rr0 := ho0
    replace h0 : some aA = some r := h0
    obtain rfl := oI h0
    exact aG (aR (aR (bQ (zK (x := (.tup [])) (by kernel_rfl) (aO.refl _) ⟨rfl, hO.ext, hO.at 0 (by kernel_rfl), by first | rfl | (simp only [List.length_map]; exact hN.trans hN0)⟩))))
  refine bG ?_
  obtain rfl := oI h0
  exact aG (zK (x := (.tup [])) (by kernel_rfl) (aO.refl _) ⟨rfl, hO.ext, hO.at 0 (by kernel_rfl), by first | rfl | (simp only [List.length_map]; exact hN.trans hN0)⟩)

theorem mW (lo0p : Nat) (aA : (List Int)) (a1 : Int) (b2 : Int) (lo3p : Nat) (rI : Int) (r : ((Int × Int) × Int)) (h0 : fP aA a1 b2 rI = some r) : xY Try.prog 113 [(.msl 1 lo0p 0 (List.length aA)), (eI a1), (eI b2), (.lp lo3p 0 0)] [(lo0p, 1, List.map (eI) aA), (lo3p, 1, [(eI rI)])] (fun x L => x = (.tup [(eI r.1.1), (eI r.1.2)]) ∧ L = [(lo0p, 1, List.map (eI) aA), (lo3p, 1, [(eI r.2)])]) := by
  intro F H0 hO
  obtain ⟨Fh, Fe, Fg⟩ := F
  refine dG Try.func113 ?_
  unfold fP at h0
  refine aT aD 2 [] [] ?_
  refine aN ?_
  refine aN ?_
  refine fD (fC [18]) aD 9 ?_
  obtain ⟨c1, h0⟩ := aU h0
  refine cH 3 [0 ≤ b2 ∧ b2 < (lN aA)] ⟨c1, trivial⟩ ?_
  refine gY 0 lo0p 1 (0 + Int.toNat b2) (eI (gD aA b2)) (eI (gD aA b2)) (List.map (eI) aA) hO (cD c1) ?_
  obtain ⟨c2, h0⟩ := aU h0
  refine cH 7 [0 ≤ a1 ∧ a1 < (lN aA)] ⟨c2, trivial⟩ ?_
  refine gY 0 lo0p 1 (0 + Int.toNat a1) (eI (gD aA a1)) (eI (gD aA a1)) (List.map (eI) aA) hO (cD c2) ?_
  obtain ⟨x3, hx4, h0⟩ := aX h0
  refine CE (fO (gD aA b2) (gD aA a1) _ hx4) hO ?_
  intro H hO
  refine mR (by kernel_rfl) ?_
  refine bT [] [(18, (aE x3))] ?_
  refine bF h0 (fun h0 => ?_) (fun h0 => ?_)
  · refine aN ?_
    refine aV aD 6 ?_
    refine bU 2 ?_
    refine tT 1 lo3p 1 0 (eI rI) (eI rI) [(eI rI)] hO rfl ?_
    refine bU 5 ?_
    refine rW 1 lo3p 1 0 (eI rI) (eI (wR (rI + (1 : Int)))) [(eI rI)] [(lo0p, 1, List.map (eI) aA), (lo3p, 1, [(eI (wR (rI + (1 : Int))))])] hO rfl (by kernel_rfl) ?_
    intro H hO
    refine iP ?_
    refine bT [18] [] ?_
    refine aT aD 4 [1, 2] [(8, (eI b2)), (9, (eI a1))] ?_
    refine bK ?_
    obtain rfl := oI h0
    exact aG (aP (CW hO ⟨rfl, rfl⟩))
  refine bG ?_
  refine bI [(0, (.msl 1 lo0p 0 (List.length aA))), (1, (eI a1)), (2, (eI b2)), (3, (.lp lo3p 0 0))] ?_
  refine aT aD 4 [1, 2] [(8, (eI a1)), (9, (eI b2))] ?_
  refine bK ?_
  obtain rfl := oI h0
  exact aG (CW hO ⟨rfl, rfl⟩)

theorem qX (lo0p : Nat) (aA : (List Int)) (a1 : Int) (b2 : Int) (c3 : Int) (lo4p : Nat) (DP : Int) (r : (Int × Int)) (h0 : gZ aA a1 b2 c3 DP = some r) : xY Try.prog 109 [(.msl 1 lo0p 0 (List.length aA)), (eI a1), (eI b2), (eI c3), (.lp lo4p 0 0)] [(lo0p, 1, List.map (eI) aA), (lo4p, 1, [(eI DP)])] (fun x L => x = (eI r.1) ∧ L = [(lo0p, 1, List.map (eI) aA), (lo4p, 1, [(eI r.2)])]) := by
  intro F H0 hO
  obtain ⟨Fh, Fe, Fg⟩ := F
  refine dG Try.func109 ?_
  unfold gZ at h0
  refine aT aD 1 [] [] ?_
  refine aN ?_
  refine aV aD 10 ?_
  refine bU 4 ?_
  obtain ⟨x1, hx2, h0⟩ := aX h0
  refine AL [] [0, 1] (mW lo0p aA a1 b2 lo4p DP _ hx2) hO ?_
  intro r3 L4 H hP5 hO
  obtain ⟨rfl, rfl⟩ := hP5
  replace hO : aJ ⟨Fh, Fe, Fg⟩ H [(lo0p, 1, List.map (eI) aA), (lo4p, 1, [(eI x1.2)])] := hO
  refine bB ?_
  refine bT [1, 2] [(1, (eI x1.1.1)), (2, (eI x1.1.2))] ?_
  refine aN ?_
  refine aV aD 10 ?_
  refine bU 4 ?_
  obtain ⟨x6, hx7, h0⟩ := aX h0
  refine AL [] [0, 1] (mW lo0p aA x1.1.2 c3 lo4p x1.2 _ hx7) hO ?_
  intro r8 L9 H hP10 hO
  obtain ⟨rfl, rfl⟩ := hP10
  replace hO : aJ ⟨Fh, Fe, Fg⟩ H [(lo0p, 1, List.map (eI) aA), (lo4p, 1, [(eI x6.2)])] := hO
  refine bB ?_
  refine bT [2, 3] [(2, (eI x6.1.1))] ?_
  refine aN ?_
  refine aV aD 10 ?_
  refine bU 4 ?_
  obtain ⟨x11, hx12, h0⟩ := aX h0
  refine AL [] [0, 1] (mW lo0p aA x1.1.1 x6.1.1 lo4p x6.2 _ hx12) hO ?_
  intro r13 L14 H hP15 hO
  obtain ⟨rfl, rfl⟩ := hP15
  replace hO : aJ ⟨Fh, Fe, Fg⟩ H [(lo0p, 1, List.map (eI) aA), (lo4p, 1, [(eI x11.2)])] := hO
  refine bB ?_
  refine bT [1, 2] [(2, (eI x11.1.2))] ?_
  refine bS aD 2 [(0, (.msl 1 lo0p 0 (List.length aA))), (4, (.lp lo4p 0 0)), (10, (eI x11.1.2))] ?_
  refine bK ?_
  obtain rfl := oI h0
  exact aG (CW hO ⟨rfl, rfl⟩)

theorem kJ (lo0p : Nat) (aA : (List Int)) (a1 : Int) (lo2p : Nat) (CN : Int) (r : (Int × Int)) (h0 : dV aA a1 CN = some r) : xY Try.prog 108 [(.msl 1 lo0p 0 (List.length aA)), (eI a1), (.lp lo2p 0 0)] [(lo0p, 1, List.map (eI) aA), (lo2p, 1, [(eI CN)])] (fun x L => x = (eI r.1) ∧ L = [(lo0p, 1, List.map (eI) aA), (lo2p, 1, [(eI r.2)])]) := by
  intro F H0 hO
  obtain ⟨Fh, Fe, Fg⟩ := F
  refine dG Try.func108 ?_
  unfold dV at h0
  refine aT aD 1 [] [] ?_
  refine aN ?_
  refine aV aD 9 ?_
  refine bU 7 ?_
  obtain ⟨x1, hx2, h0⟩ := aX h0
  refine AL [] [0, 1] (qX lo0p aA (wR (a1 - (1 : Int))) a1 (wR (a1 + (1 : Int))) lo2p CN _ hx2) hO ?_
  intro r3 L4 H hP5 hO
  obtain ⟨rfl, rfl⟩ := hP5
  replace hO : aJ ⟨Fh, Fe, Fg⟩ H [(lo0p, 1, List.map (eI) aA), (lo2p, 1, [(eI x1.2)])] := hO
  refine bB ?_
  refine bT [1] [(6, (eI x1.1))] ?_
  refine bK ?_
  obtain rfl := oI h0
  exact aG (CW hO ⟨rfl, rfl⟩)

theorem vE (lo0p : Nat) (aA : (List Int)) (a1 : Int) (b2 : Int) (r : (Int × Int)) (h0 : gU aA a1 b2 = some r) : xY Try.prog 82 [(.msl 1 lo0p 0 (List.length aA)), (eI a1), (eI b2)] [(lo0p, 1, List.map (eI) aA)] (fun x L => x = (.tup [(eI r.1), (eI r.2)]) ∧ L = [(lo0p, 1, List.map (eI) aA)]) := by
  intro F H0 hO
  obtain ⟨Fh, Fe, Fg⟩ := F
  refine dG Try.func82 ?_
  unfold gU at h0
  refine aT aD 2 [] [] ?_
  refine aT aD 4 [2] [(8, (eI (wR (b2 - a1))))] ?_
  refine aN ?_
  refine aV aD 1 ?_
  refine sF 1 (eI 0) (by kernel_rfl) (by kernel_rfl) hO ?_
  intro lo1 H hO
  refine iP ?_
  refine bT [] [(9, (.lp lo1 0 0))] ?_
  refine aN ?_
  refine aV aD 6 ?_
  obtain ⟨c2, h0⟩ := aU h0
  refine nF [(4 : Int) ≠ 0] ⟨c2, trivial⟩ ?_
  refine bT [] [(10, (eI (wR (a1 + (wR ((wR (Int.tdiv (wR (b2 - a1)) (4 : Int))) * (1 : Int)))))))] ?_
  refine aN ?_
  refine aV aD 6 ?_
  obtain ⟨c3, h0⟩ := aU h0
  refine nF [(4 : Int) ≠ 0] ⟨c3, trivial⟩ ?_
  refine bI [(0, (.msl 1 lo0p 0 (List.length aA))), (1, (eI a1)), (8, (eI (wR (b2 - a1)))), (9, (.lp lo1 0 0)), (10, (eI (wR (a1 + (wR ((wR (Int.tdiv (wR (b2 - a1)) (4 : Int))) * (1 : Int))))))), (11, (eI (wR (a1 + (wR ((wR (Int.tdiv (wR (b2 - a1)) (4 : Int))) * (2 : Int)))))))] ?_
  refine aN ?_
  refine aV aD 6 ?_
  obtain ⟨c4, h0⟩ := aU h0
  refine nF [(4 : Int) ≠ 0] ⟨c4, trivial⟩ ?_
  refine bT [1] [(12, (eI (wR (a1 + (wR ((wR (Int.tdiv (wR (b2 - a1)) (4 : Int))) * (3 : Int)))))))] ?_
  refine dN (fun T H => ∃ lK : Int, ∃ j11 : Int, Has T [(0, (.msl 1 lo0p 0 (List.length aA))), (9, (.lp lo1 0 0)), (11, (eI j11))] ∧ aJ ⟨Fh, Fe, Fg⟩ H [(lo0p, 1, List.map (eI) aA), (lo1, 1, [(eI lK)])] ∧ fA aA lK j11 = some r) ?_ ?_
  · clear hO h0
    rintro T H ⟨lK, j11, hT, hO, h0⟩
    refine aY hT ?_
    clear hT
    unfold fA at h0
    refine aN ?_
    refine aV aD 1 ?_
    refine tT 1 lo1 1 0 (eI lK) (eI lK) [(eI lK)] hO rfl ?_
    refine iP ?_
    replace hO := hO.pick (L' := [(lo0p, 1, List.map (eI) aA)]) [0] (by decide) (by kernel_rfl)
    refine bT [9] [(49, (eI lK))] ?_
    refine cA 0 ?_
    refine aT aD 2 [] [(51, (aE (decide (lK = (0 : Int)))))] ?_
    refine bF h0 (fun h0 => ?_) (fun h0 => ?_)
    · refine aT aD 3 [11, 49, 51] [(6, (eI j11)), (7, (eI (1 : Int)))] ?_
      refine bK ?_
      obtain rfl := oI h0
      exact aG (bE (CW hO ⟨rfl, rfl⟩))
    refine aT aD 2 [49, 51] [(54, (aE (decide (lK = (12 : Int)))))] ?_
    refine bF h0 (fun h0 => ?_) (fun h0 => ?_)
    · refine aT aD 3 [11, 54] [(6, (eI j11)), (7, (eI (2 : Int)))] ?_
      refine bK ?_
      obtain rfl := oI h0
      exact aG (bE (CW hO ⟨rfl, rfl⟩))
    refine aT aD 3 [11, 54] [(6, (eI j11)), (7, (eI (0 : Int)))] ?_
    refine bK ?_
    obtain rfl := oI h0
    exact aG (bE (CW hO ⟨rfl, rfl⟩))
  refine aT aD 2 [] [(32, (aE (decide ((8 : Int) ≤ (wR (b2 - a1))))))] ?_
  refine bF h0 (fun h0 => ?_) (fun h0 => ?_)
  · refine dN (fun T H => ∃ lK : Int, ∃ i10 : Int, ∃ j11 : Int, ∃ k12 : Int, Has T [(0, (.msl 1 lo0p 0 (List.length aA))), (9, (.lp lo1 0 0)), (10, (eI i10)), (11, (eI j11)), (12, (eI k12))] ∧ aJ ⟨Fh, Fe, Fg⟩ H [(lo0p, 1, List.map (eI) aA), (lo1, 1, [(eI lK)])] ∧ fE aA lK i10 j11 k12 = some r) ?_ ?_
    · clear hO h0
      rintro T H ⟨lK, i10, j11, k12, hT, hO, h0⟩
      refine aY hT ?_
      clear hT
      unfold fE at h0
      refine aV aD 6 ?_
      refine bU 4 ?_
      obtain ⟨x8, hx9, h0⟩ := aX h0
      refine AL [] [0, 1] (qX lo0p aA i10 j11 k12 lo1 lK _ hx9) hO ?_
      intro r10 L11 H hP12 hO
      obtain ⟨rfl, rfl⟩ := hP12
      replace hO : aJ ⟨Fh, Fe, Fg⟩ H [(lo0p, 1, List.map (eI) aA), (lo1, 1, [(eI x8.2)])] := hO
      refine bB ?_
      exact aG (aF (⟨rfl, _, _, .eq (by kernel_rfl), hO, h0⟩))
    refine aT aD 2 [8, 32] [(34, (aE (decide ((50 : Int) ≤ (wR (b2 - a1))))))] ?_
    refine bF h0 (fun h0 => ?_) (fun h0 => ?_)
    · refine aN ?_
      refine aV aD 4 ?_
      refine bU 2 ?_
      obtain ⟨x14, hx15, h0⟩ := aX h0
      refine AL [] [0, 1] (kJ lo0p aA (wR (a1 + (wR ((wR (Int.tdiv (wR (b2 - a1)) (4 : Int))) * (1 : Int))))) lo1 0 _ hx15) hO ?_
      intro r16 L17 H hP18 hO
      obtain ⟨rfl, rfl⟩ := hP18
      replace hO : aJ ⟨Fh, Fe, Fg⟩ H [(lo0p, 1, List.map (eI) aA), (lo1, 1, [(eI x14.2)])] := hO
      refine bB ?_
      refine bT [10, 34] [(10, (eI x14.1))] ?_
      refine aN ?_
      refine aV aD 4 ?_
      refine bU 2 ?_
      obtain ⟨x19, hx20, h0⟩ := aX h0
      refine AL [] [0, 1] (kJ lo0p aA (wR (a1 + (wR ((wR (Int.tdiv (wR (b2 - a1)) (4 : Int))) * (2 : Int))))) lo1 x14.2 _ hx20) hO ?_
      intro r21 L22 H hP23 hO
      obtain ⟨rfl, rfl⟩ := hP23
      replace hO : aJ ⟨Fh, Fe, Fg⟩ H [(lo0p, 1, List.map (eI) aA), (lo1, 1, [(eI x19.2)])] := hO
      refine bB ?_
      refine bI [(0, (.msl 1 lo0p 0 (List.length aA))), (9, (.lp lo1 0 0)), (10, (eI x14.1)), (11, (eI x19.1)), (12, (eI (wR (a1 + (wR ((wR (Int.tdiv (wR (b2 - a1)) (4 : Int))) * (3 : Int)))))))] ?_
      refine aV aD 4 ?_
      refine bU 2 ?_
      obtain ⟨x24, hx25, h0⟩ := aX h0
      refine AL [] [0, 1] (kJ lo0p aA (wR (a1 + (wR ((wR (Int.tdiv (wR (b2 - a1)) (4 : Int))) * (3 : Int))))) lo1 x19.2 _ hx25) hO ?_
      intro r26 L27 H hP28 hO
      obtain ⟨rfl, rfl⟩ := hP28
      replace hO : aJ ⟨Fh, Fe, Fg⟩ H [(lo0p, 1, List.map (eI) aA), (lo1, 1, [(eI x24.2)])] := hO
      refine bB ?_
      exact aG (aF (⟨rfl, _, _, _, _, .eq (by kernel_rfl), hO, h0⟩))
    refine bG ?_
    exact aG (aF (⟨rfl, _, _, _, _, .eq (by kernel_rfl), hO, h0⟩))
  refine bG ?_
  exact aG (aF (⟨rfl, _, _, .eq (by kernel_rfl), hO, h0⟩))

theorem uZ (lo0p : Nat) (aA : (List Int)) (a1 : Int) (b2 : Int) (r : List Int) (h0 : gP aA a1 b2 = some r) : mJ Try.prog 83 lo0p 1 (List.map (eI) aA) (List.map (eI) r) [(.msl 1 lo0p 0 (List.length aA)), (eI a1), (eI b2)] (.tup []) := by
  intro H0 hl0
  refine dG Try.func83 ?_
  have hO := aJ.sW hl0
  clear hl0
  obtain ⟨N0, hN0⟩ : ∃ n, n = List.length aA := ⟨_, rfl⟩
  have hN : List.length aA = N0 := hN0.symm
  unfold gP at h0
  refine aT aD 2 [1] [(6, (eI a1))] ?_
  refine aT aD 3 [2] [(7, (eI (wR (b2 - (1 : Int)))))] ?_
  refine cA 0 ?_
  refine eU [(0, (.msl 1 lo0p 0 (List.length aA))), (6, (eI a1)), (7, (eI (wR (b2 - (1 : Int)))))] ?_
  refine dS (fun T H => ∃ aA : List Int, ∃ i6 : Int, ∃ j7 : Int, Has T [(0, (.msl 1 lo0p 0 (List.length aA))), (6, (eI i6)), (7, (eI j7))] ∧ aJ ⟨H0, [lo0p], []⟩ H [(lo0p, 1, List.map (eI) aA)] ∧ List.length aA = N0 ∧ iY aA i6 j7 = some r) ?_ ⟨aA, a1, wR (b2 - (1 : Int)), .eq (by kernel_rfl), hO, hN, h0⟩
  clear hO hN h0
  rintro T H ⟨aA, i6, j7, hT, hO, hN, h0⟩
  refine aY hT ?_
  clear hT
  unfold iY at h0
  obtain ⟨rr0, hl0, h0⟩ := aX h0
  refine cS (by kernel_rfl) (fun (s : List Int × Int × Int) T H => Has T [(0, (.msl 1 lo0p 0 (List.length s.1))), (6, (eI s.2.1)), (7, (eI s.2.2))] ∧ aJ ⟨H0, [lo0p], []⟩ H [(lo0p, 1, List.map (eI) s.1)] ∧ List.length s.1 = N0) hl0 ⟨.eq (by kernel_rfl), hO, hN⟩ ?_
  clear hO hN
  rintro k0 s out1 T H ⟨hT, hO, hN⟩ h1 ho0
  obtain ⟨aA, i6, j7⟩ := s
  replace h1 : dJ aA i6 j7 = some out1 := h1
  try dsimp only at hT
  refine aY hT ?_
  clear hT
  unfold dJ at h1
  refine aN ?_
  refine aT aD 3 [] [(13, (aE (decide (i6 < j7))))] ?_
  refine bF h1 (fun h1 => ?_) (fun h1 => ?_)
  · refine bG ?_
    refine bI [(0, (.msl 1 lo0p 0 (List.length aA))), (6, (eI i6)), (7, (eI j7))] ?_
    refine cA 1 ?_
    refine aN ?_
    refine fD (fC []) aD 16 ?_
    obtain ⟨c2, h1⟩ := aU h1
    refine cH 7 [0 ≤ j7 ∧ j7 < (lN aA)] ⟨c2, trivial⟩ ?_
    refine gY 0 lo0p 1 (0 + Int.toNat j7) (eI (gD aA j7)) (eI (gD aA j7)) (List.map (eI) aA) hO (cD c2) ?_
    obtain ⟨c3, h1⟩ := aU h1
    refine cH 11 [0 ≤ i6 ∧ i6 < (lN aA)] ⟨c3, trivial⟩ ?_
    refine gY 0 lo0p 1 (0 + Int.toNat i6) (eI (gD aA i6)) (eI (gD aA i6)) (List.map (eI) aA) hO (cD c3) ?_
    obtain ⟨c4, h1⟩ := aU h1
    refine cH 13 [0 ≤ i6 ∧ i6 < (lN aA)] ⟨c4, trivial⟩ ?_
    refine kG 0 lo0p 1 (0 + Int.toNat i6) (eI (gD aA i6)) (eI (gD aA j7)) (List.map (eI) aA) [(lo0p, 1, List.map (eI) (List.set aA (Int.toNat i6) (gD aA j7)))] hO (cD c4) (by simp only [List.set, gV]) ?_
    intro H hO
    replace hN : List.length (List.set aA (Int.toNat i6) (gD aA j7)) = N0 := by simpa using hN
    obtain ⟨c5, h1⟩ := aU h1
    refine cH 15 [0 ≤ j7 ∧ j7 < (lN aA)] ⟨c5, trivial⟩ ?_
    refine kG 0 lo0p 1 (0 + Int.toNat j7) (eI (gD (List.set aA (Int.toNat i6) (gD aA j7)) j7)) (eI (gD aA i6)) (List.map (eI) (List.set aA (Int.toNat i6) (gD aA j7))) [(lo0p, 1, List.map (eI) (List.set (List.set aA (Int.toNat i6) (gD aA j7)) (Int.toNat j7) (gD aA i6)))] hO (mF c5 (by simp [])) (by simp only [List.set, gV]) ?_
    intro H hO
    replace hN : List.length (List.set (List.set aA (Int.toNat i6) (gD aA j7)) (Int.toNat j7) (gD aA i6)) = N0 := by simpa using hN
    refine mR (by kernel_rfl) ?_
    refine cX (l := [(0, (.msl 1 lo0p 0 (List.length (List.set (List.set aA (Int.toNat i6) (gD aA j7)) (Int.toNat j7) (gD aA i6))))), (6, (eI i6)), (7, (eI j7))]) ⟨[(0, (.msl 1 lo0p 0 (List.length aA))), (6, (eI i6)), (7, (eI j7))], by kernel_rfl, rfl, ⟨aO.eq (by simp []), aO.refl _, aO.refl _, trivial⟩⟩ ?_
    refine aG (aF (?_))
    refine aT aD 3 [6] [(6, (eI (wR (i6 + (1 : Int)))))] ?_
    refine aV aD 3 ?_
    refine bB ?_
    exact aG (aW (aF (⟨rfl, _, (oI h1).symm, .eq (by kernel_rfl), hO, hN⟩)))
  refine eX 0 ?_
  obtain rfl := oI h1
  obtain rfl : _ = rr0 := ho0
  replace h0 : some aA = some r := h0
  obtain rfl := oI h0
  exact aG (aR (aR (bQ (zK (x := (.tup [])) (by kernel_rfl) (aO.refl _) ⟨rfl, hO.ext, hO.at 0 (by kernel_rfl), by first | rfl | (simp only [List.length_map]; exact hN.trans hN0)⟩))))

theorem qI (lo0p : Nat) (aA : (List Int)) (a1 : Int) (b2 : Int) (r : (Bool × List Int)) (h0 : eK aA a1 b2 = some r) : mJ Try.prog 84 lo0p 1 (List.map (eI) aA) (List.map (eI) r.2) [(.msl 1 lo0p 0 (List.length aA)), (eI a1), (eI b2)] (aE r.1) := by
  intro H0 hl0
  refine dG Try.func84 ?_
  have hO := aJ.sW hl0
  clear hl0
  obtain ⟨N0, hN0⟩ : ∃ n, n = List.length aA := ⟨_, rfl⟩
  have hN : List.length aA = N0 := hN0.symm
  unfold eK at h0
  refine aT aD 1 [] [] ?_
  refine aT aD 3 [] [(7, (eI (wR (a1 + (1 : Int)))))] ?_
  refine dN (fun T H => ∃ aA : List Int, Has T [(0, (.msl 1 lo0p 0 (List.length aA)))] ∧ aJ ⟨H0, [lo0p], []⟩ H [(lo0p, 1, List.map (eI) aA)] ∧ List.length aA = N0 ∧ eG aA = some r) ?_ ?_
  · clear hO hN h0
    rintro T H ⟨aA, hT, hO, hN, h0⟩
    refine aY hT ?_
    clear hT
    unfold eG at h0
    refine aT aD 1 [] [(6, (aE false))] ?_
    refine bK ?_
    obtain rfl := oI h0
    exact aG (mK (x := (aE false)) (by kernel_rfl) (aO.refl _) ⟨rfl, hO.ext, hO.at 0 (by kernel_rfl), by first | rfl | (simp only [List.length_map]; exact hN.trans hN0)⟩)
  refine aT aD 1 [] [(8, (eI (0 : Int)))] ?_
  refine cA 0 ?_
  refine eU [(0, (.msl 1 lo0p 0 (List.length aA))), (1, (eI a1)), (2, (eI b2)), (7, (eI (wR (a1 + (1 : Int))))), (8, (eI (0 : Int)))] ?_
  refine dS (fun T H => ∃ aA : List Int, ∃ i7 : Int, ∃ j8 : Int, Has T [(0, (.msl 1 lo0p 0 (List.length aA))), (1, (eI a1)), (2, (eI b2)), (7, (eI i7)), (8, (eI j8))] ∧ aJ ⟨H0, [lo0p], []⟩ H [(lo0p, 1, List.map (eI) aA)] ∧ List.length aA = N0 ∧ fS aA a1 b2 i7 j8 = some r) ?_ ⟨aA, wR (a1 + (1 : Int)), (0 : Int), .eq (by kernel_rfl), hO, hN, h0⟩
  clear hO hN h0
  rintro T H ⟨aA, i7, j8, hT, hO, hN, h0⟩
  refine aY hT ?_
  clear hT
  unfold fS at h0
  obtain ⟨rr0, hl0, h0⟩ := aX h0
  refine cS (by kernel_rfl) (fun (s : List Int × Int × Int) T H => Has T [(0, (.msl 1 lo0p 0 (List.length s.1))), (1, (eI a1)), (2, (eI b2)), (7, (eI s.2.1)), (8, (eI s.2.2))] ∧ aJ ⟨H0, [lo0p], []⟩ H [(lo0p, 1, List.map (eI) s.1)] ∧ List.length s.1 = N0) hl0 ⟨.eq (by kernel_rfl), hO, hN⟩ ?_
  clear hO hN
  rintro k0 s out1 T H ⟨hT, hO, hN⟩ h1 ho0
  obtain ⟨aA, i7, j8⟩ := s
  replace h1 : bX a1 b2 aA i7 j8 = some out1 := h1
  try dsimp only at hT
  refine aY hT ?_
  clear hT
  unfold bX at h1
  refine aN ?_
  refine aT aD 2 [] [(14, (aE (decide (j8 < (5 : Int)))))] ?_
  refine bF h1 (fun h1 => ?_) (fun h1 => ?_)
  · refine bG ?_
    refine bI [(0, (.msl 1 lo0p 0 (List.length aA))), (1, (eI a1)), (2, (eI b2)), (7, (eI i7)), (8, (eI j8))] ?_
    refine dN (fun T H => ∃ aA : List Int, ∃ i7 : Int, Has T [(0, (.msl 1 lo0p 0 (List.length aA))), (1, (eI a1)), (2, (eI b2)), (7, (eI i7)), (8, (eI j8))] ∧ aJ ⟨H0, [lo0p], []⟩ H [(lo0p, 1, List.map (eI) aA)] ∧ List.length aA = N0 ∧ dM aA a1 b2 i7 j8 = some out1) ?_ ?_
    · clear hO hN h1
      rintro T H ⟨aA, i7, hT, hO, hN, h1⟩
      refine aY hT ?_
      clear hT
      unfold dM at h1
      refine aV aD 3 ?_
      refine bB ?_
      exact aG (aF (⟨rfl, _, (oI h1).symm, .eq (by kernel_rfl), hO, hN⟩))
    refine cA 1 ?_
    refine dN (fun T H => ∃ aA : List Int, ∃ i7 : Int, Has T [(0, (.msl 1 lo0p 0 (List.length aA))), (1, (eI a1)), (2, (eI b2)), (7, (eI i7)), (8, (eI j8))] ∧ aJ ⟨H0, [lo0p], []⟩ H [(lo0p, 1, List.map (eI) aA)] ∧ List.length aA = N0 ∧ eF aA a1 b2 i7 j8 = some out1) ?_ ?_
    · clear hO hN h1
      rintro T H ⟨aA, i7, hT, hO, hN, h1⟩
      refine aY hT ?_
      clear hT
      unfold eF at h1
      refine aN ?_
      refine aT aD 3 [] [(37, (aE (decide (i7 = b2))))] ?_
      refine bF h1 (fun h1 => ?_) (fun h1 => ?_)
      · refine aT aD 1 [1, 2, 7, 8, 37] [(6, (aE true))] ?_
        refine bK ?_
        obtain rfl := oI h1
        obtain rfl : _ = rr0 := ho0
        replace h0 : some (true, aA) = some r := h0
        obtain rfl := oI h0
        exact aG (aP (bE (aP (aP (bE (aP (mK (x := (aE true)) (by kernel_rfl) (aO.refl _) ⟨rfl, hO.ext, hO.at 0 (by kernel_rfl), by first | rfl | (simp only [List.length_map]; exact hN.trans hN0)⟩)))))))
      refine bG ?_
      refine bI [(0, (.msl 1 lo0p 0 (List.length aA))), (1, (eI a1)), (2, (eI b2)), (7, (eI i7)), (8, (eI j8))] ?_
      refine aN ?_
      refine aT aD 4 [] [(41, (aE (decide ((wR (b2 - a1)) < (50 : Int)))))] ?_
      refine bF h1 (fun h1 => ?_) (fun h1 => ?_)
      · refine aT aD 1 [1, 2, 7, 8, 41] [(6, (aE false))] ?_
        refine bK ?_
        obtain rfl := oI h1
        obtain rfl : _ = rr0 := ho0
        replace h0 : some (false, aA) = some r := h0
        obtain rfl := oI h0
        exact aG (aP (bE (aP (aP (bE (aP (mK (x := (aE false)) (by kernel_rfl) (aO.refl _) ⟨rfl, hO.ext, hO.at 0 (by kernel_rfl), by first | rfl | (simp only [List.length_map]; exact hN.trans hN0)⟩)))))))
      refine bG ?_
      refine bI [(0, (.msl 1 lo0p 0 (List.length aA))), (1, (eI a1)), (2, (eI b2)), (7, (eI i7)), (8, (eI j8))] ?_
      refine aN ?_
      refine fD (fC []) aD 18 ?_
      obtain ⟨c4, h1⟩ := aU h1
      refine cH 9 [0 ≤ (wR (i7 - (1 : Int))) ∧ (wR (i7 - (1 : Int))) < (lN aA)] ⟨c4, trivial⟩ ?_
      refine gY 0 lo0p 1 (0 + Int.toNat (wR (i7 - (1 : Int)))) (eI (gD aA (wR (i7 - (1 : Int))))) (eI (gD aA (wR (i7 - (1 : Int))))) (List.map (eI) aA) hO (cD c4) ?_
      obtain ⟨c5, h1⟩ := aU h1
      refine cH 13 [0 ≤ i7 ∧ i7 < (lN aA)] ⟨c5, trivial⟩ ?_
      refine gY 0 lo0p 1 (0 + Int.toNat i7) (eI (gD aA i7)) (eI (gD aA i7)) (List.map (eI) aA) hO (cD c5) ?_
      obtain ⟨c6, h1⟩ := aU h1
      refine cH 15 [0 ≤ i7 ∧ i7 < (lN aA)] ⟨c6, trivial⟩ ?_
      refine kG 0 lo0p 1 (0 + Int.toNat i7) (eI (gD aA i7)) (eI (gD aA (wR (i7 - (1 : Int))))) (List.map (eI) aA) [(lo0p, 1, List.map (eI) (List.set aA (Int.toNat i7) (gD aA (wR (i7 - (1 : Int))))))] hO (cD c6) (by simp only [List.set, gV]) ?_
      intro H hO
      replace hN : List.length (List.set aA (Int.toNat i7) (gD aA (wR (i7 - (1 : Int))))) = N0 := by simpa using hN
      obtain ⟨c7, h1⟩ := aU h1
      refine cH 17 [0 ≤ (wR (i7 - (1 : Int))) ∧ (wR (i7 - (1 : Int))) < (lN aA)] ⟨c7, trivial⟩ ?_
      refine kG 0 lo0p 1 (0 + Int.toNat (wR (i7 - (1 : Int)))) (eI (gD (List.set aA (Int.toNat i7) (gD aA (wR (i7 - (1 : Int))))) (wR (i7 - (1 : Int))))) (eI (gD aA i7)) (List.map (eI) (List.set aA (Int.toNat i7) (gD aA (wR (i7 - (1 : Int)))))) [(lo0p, 1, List.map (eI) (List.set (List.set aA (Int.toNat i7) (gD aA (wR (i7 - (1 : Int))))) (Int.toNat (wR (i7 - (1 : Int)))) (gD aA i7)))] hO (mF c7 (by simp [])) (by simp only [List.set, gV]) ?_
      intro H hO
      replace hN : List.length (List.set (List.set aA (Int.toNat i7) (gD aA (wR (i7 - (1 : Int))))) (Int.toNat (wR (i7 - (1 : Int)))) (gD aA i7)) = N0 := by simpa using hN
      refine mR (by kernel_rfl) ?_
      refine cX (l := [(0, (.msl 1 lo0p 0 (List.length (List.set (List.set aA (Int.toNat i7) (gD aA (wR (i7 - (1 : Int))))) (Int.toNat (wR (i7 - (1 : Int)))) (gD aA i7))))), (1, (eI a1)), (2, (eI b2)), (7, (eI i7)), (8, (eI j8))]) ⟨[(0, (.msl 1 lo0p 0 (List.length aA))), (1, (eI a1)), (2, (eI b2)), (7, (eI i7)), (8, (eI j8))], by kernel_rfl, rfl, ⟨aO.eq (by simp []), aO.refl _, aO.refl _, aO.refl _, aO.refl _, trivial⟩⟩ ?_
      refine aG (aF (?_))
      refine dN (fun T H => ∃ aA : List Int, Has T [(0, (.msl 1 lo0p 0 (List.length aA))), (1, (eI a1)), (2, (eI b2)), (7, (eI i7)), (8, (eI j8))] ∧ aJ ⟨H0, [lo0p], []⟩ H [(lo0p, 1, List.map (eI) aA)] ∧ List.length aA = N0 ∧ cJ aA a1 b2 i7 j8 = some out1) ?_ ?_
      · clear hO hN h1
        rintro T H ⟨aA, hT, hO, hN, h1⟩
        refine aY hT ?_
        clear hT
        unfold cJ at h1
        refine aT aD 4 [] [(98, (aE (decide ((2 : Int) ≤ (wR (b2 - i7))))))] ?_
        refine bF h1 (fun h1 => ?_) (fun h1 => ?_)
        · refine aT aD 3 [98] [(10, (eI (wR (i7 + (1 : Int)))))] ?_
          refine cA 6 ?_
          refine eU [(0, (.msl 1 lo0p 0 (List.length aA))), (1, (eI a1)), (2, (eI b2)), (7, (eI i7)), (8, (eI j8)), (10, (eI (wR (i7 + (1 : Int)))))] ?_
          refine dS (fun T H => ∃ aA : List Int, ∃ j10 : Int, Has T [(0, (.msl 1 lo0p 0 (List.length aA))), (1, (eI a1)), (2, (eI b2)), (7, (eI i7)), (8, (eI j8)), (10, (eI j10))] ∧ aJ ⟨H0, [lo0p], []⟩ H [(lo0p, 1, List.map (eI) aA)] ∧ List.length aA = N0 ∧ fR aA a1 b2 i7 j8 j10 = some out1) ?_ ⟨aA, wR (i7 + (1 : Int)), .eq (by kernel_rfl), hO, hN, h1⟩
          clear hO hN h1
          rintro T H ⟨aA, j10, hT, hO, hN, h1⟩
          refine aY hT ?_
          clear hT
          unfold fR at h1
          obtain ⟨rr1, hl1, h1⟩ := aX h1
          refine cS (by kernel_rfl) (fun (s : List Int × Int) T H => Has T [(0, (.msl 1 lo0p 0 (List.length s.1))), (1, (eI a1)), (2, (eI b2)), (7, (eI i7)), (8, (eI j8)), (10, (eI s.2))] ∧ aJ ⟨H0, [lo0p], []⟩ H [(lo0p, 1, List.map (eI) s.1)] ∧ List.length s.1 = N0) hl1 ⟨.eq (by kernel_rfl), hO, hN⟩ ?_
          clear hO hN
          rintro k1 s out2 T H ⟨hT, hO, hN⟩ h2 ho1
          obtain ⟨aA, j10⟩ := s
          replace h2 : cO a1 b2 i7 j8 aA j10 = some out2 := h2
          try dsimp only at hT
          refine aY hT ?_
          clear hT
          unfold cO at h2
          refine aN ?_
          refine aT aD 3 [] [(103, (aE (decide (j10 < b2))))] ?_
          refine bF h2 (fun h2 => ?_) (fun h2 => ?_)
          · refine bG ?_
            refine bI [(0, (.msl 1 lo0p 0 (List.length aA))), (1, (eI a1)), (2, (eI b2)), (7, (eI i7)), (8, (eI j8)), (10, (eI j10))] ?_
            refine aN ?_
            refine cA 7 ?_
            refine aN ?_
            refine aN ?_
            refine fD (fC [115]) aD 11 ?_
            obtain ⟨c10, h2⟩ := aU h2
            refine cH 3 [0 ≤ j10 ∧ j10 < (lN aA)] ⟨c10, trivial⟩ ?_
            refine gY 0 lo0p 1 (0 + Int.toNat j10) (eI (gD aA j10)) (eI (gD aA j10)) (List.map (eI) aA) hO (cD c10) ?_
            obtain ⟨c11, h2⟩ := aU h2
            refine cH 8 [0 ≤ (wR (j10 - (1 : Int))) ∧ (wR (j10 - (1 : Int))) < (lN aA)] ⟨c11, trivial⟩ ?_
            refine gY 0 lo0p 1 (0 + Int.toNat (wR (j10 - (1 : Int)))) (eI (gD aA (wR (j10 - (1 : Int))))) (eI (gD aA (wR (j10 - (1 : Int))))) (List.map (eI) aA) hO (cD c11) ?_
            obtain ⟨x12, hx13, h2⟩ := aX h2
            refine CE (fO (gD aA j10) (gD aA (wR (j10 - (1 : Int)))) _ hx13) hO ?_
            intro H hO
            refine iF ?_
            refine bT [] [(116, (aE (!x12)))] ?_
            refine bF h2 (fun h2 => ?_) (fun h2 => ?_)
            · refine eX 6 ?_
              obtain rfl := oI h2
              obtain rfl : _ = rr1 := ho1
              replace h1 : dM aA a1 b2 i7 j8 = some out1 := h1
              exact aG (aR (rP (by kernel_rfl) (aR (aR (bQ (aW (aF (⟨rfl, _, _, .eq (by kernel_rfl), hO, hN, h1⟩))))))))
            refine bG ?_
            refine bI [(0, (.msl 1 lo0p 0 (List.length aA))), (1, (eI a1)), (2, (eI b2)), (7, (eI i7)), (8, (eI j8)), (10, (eI j10))] ?_
            refine fD (fC []) aD 18 ?_
            obtain ⟨c16, h2⟩ := aU h2
            refine cH 9 [0 ≤ (wR (j10 - (1 : Int))) ∧ (wR (j10 - (1 : Int))) < (lN aA)] ⟨c16, trivial⟩ ?_
            refine gY 0 lo0p 1 (0 + Int.toNat (wR (j10 - (1 : Int)))) (eI (gD aA (wR (j10 - (1 : Int))))) (eI (gD aA (wR (j10 - (1 : Int))))) (List.map (eI) aA) hO (cD c16) ?_
            obtain ⟨c17, h2⟩ := aU h2
            refine cH 13 [0 ≤ j10 ∧ j10 < (lN aA)] ⟨c17, trivial⟩ ?_
            refine gY 0 lo0p 1 (0 + Int.toNat j10) (eI (gD aA j10)) (eI (gD aA j10)) (List.map (eI) aA) hO (cD c17) ?_
            obtain ⟨c18, h2⟩ := aU h2
            refine cH 15 [0 ≤ j10 ∧ j10 < (lN aA)] ⟨c18, trivial⟩ ?_
            refine kG 0 lo0p 1 (0 + Int.toNat j10) (eI (gD aA j10)) (eI (gD aA (wR (j10 - (1 : Int))))) (List.map (eI) aA) [(lo0p, 1, List.map (eI) (List.set aA (Int.toNat j10) (gD aA (wR (j10 - (1 : Int))))))] hO (cD c18) (by simp only [List.set, gV]) ?_
            intro H hO
            replace hN : List.length (List.set aA (Int.toNat j10) (gD aA (wR (j10 - (1 : Int))))) = N0 := by simpa using hN
            obtain ⟨c19, h2⟩ := aU h2
            refine cH 17 [0 ≤ (wR (j10 - (1 : Int))) ∧ (wR (j10 - (1 : Int))) < (lN aA)] ⟨c19, trivial⟩ ?_
            refine kG 0 lo0p 1 (0 + Int.toNat (wR (j10 - (1 : Int)))) (eI (gD (List.set aA (Int.toNat j10) (gD aA (wR (j10 - (1 : Int))))) (wR (j10 - (1 : Int))))) (eI (gD aA j10)) (List.map (eI) (List.set aA (Int.toNat j10) (gD aA (wR (j10 - (1 : Int)))))) [(lo0p, 1, List.map (eI) (List.set (List.set aA (Int.toNat j10) (gD aA (wR (j10 - (1 : Int))))) (Int.toNat (wR (j10 - (1 : Int)))) (gD aA j10)))] hO (mF c19 (by simp [])) (by simp only [List.set, gV]) ?_
            intro H hO
            replace hN : List.length (List.set (List.set aA (Int.toNat j10) (gD aA (wR (j10 - (1 : Int))))) (Int.toNat (wR (j10 - (1 : Int)))) (gD aA j10)) = N0 := by simpa using hN
            refine mR (by kernel_rfl) ?_
            refine cX (l := [(0, (.msl 1 lo0p 0 (List.length (List.set (List.set aA (Int.toNat j10) (gD aA (wR (j10 - (1 : Int))))) (Int.toNat (wR (j10 - (1 : Int)))) (gD aA j10))))), (1, (eI a1)), (2, (eI b2)), (7, (eI i7)), (8, (eI j8)), (10, (eI j10))]) ⟨[(0, (.msl 1 lo0p 0 (List.length aA))), (1, (eI a1)), (2, (eI b2)), (7, (eI i7)), (8, (eI j8)), (10, (eI j10))], by kernel_rfl, rfl, ⟨aO.eq (by simp []), aO.refl _, aO.refl _, aO.refl _, aO.refl _, aO.refl _, trivial⟩⟩ ?_
            refine aG (aW (aF (?_)))
            refine aV aD 3 ?_
            refine bB ?_
            exact aG (aF (⟨rfl, _, (oI h2).symm, .eq (by kernel_rfl), hO, hN⟩))
          refine eX 6 ?_
          obtain rfl := oI h2
          obtain rfl : _ = rr1 := ho1
          replace h1 : dM aA a1 b2 i7 j8 = some out1 := h1
          exact aG (aR (aR (bQ (aW (aF (⟨rfl, _, _, .eq (by kernel_rfl), hO, hN, h1⟩))))))
        refine bG ?_
        exact aG (aW (aF (⟨rfl, _, _, .eq (by kernel_rfl), hO, hN, h1⟩)))
      refine aT aD 4 [] [(61, (aE (decide ((2 : Int) ≤ (wR (i7 - a1))))))] ?_
      refine bF h1 (fun h1 => ?_) (fun h1 => ?_)
      · refine aT aD 3 [61] [(9, (eI (wR (i7 - (1 : Int)))))] ?_
        refine cA 4 ?_
        refine eU [(0, (.msl 1 lo0p 0 (List.length (List.set (List.set aA (Int.toNat i7) (gD aA (wR (i7 - (1 : Int))))) (Int.toNat (wR (i7 - (1 : Int)))) (gD aA i7))))), (1, (eI a1)), (2, (eI b2)), (7, (eI i7)), (8, (eI j8)), (9, (eI (wR (i7 - (1 : Int)))))] ?_
        refine dS (fun T H => ∃ aA : List Int, ∃ j9 : Int, Has T [(0, (.msl 1 lo0p 0 (List.length aA))), (1, (eI a1)), (2, (eI b2)), (7, (eI i7)), (8, (eI j8)), (9, (eI j9))] ∧ aJ ⟨H0, [lo0p], []⟩ H [(lo0p, 1, List.map (eI) aA)] ∧ List.length aA = N0 ∧ fT aA a1 b2 i7 j8 j9 = some out1) ?_ ⟨List.set (List.set aA (Int.toNat i7) (gD aA (wR (i7 - (1 : Int))))) (Int.toNat (wR (i7 - (1 : Int)))) (gD aA i7), wR (i7 - (1 : Int)), .eq (by kernel_rfl), hO, hN, h1⟩
        clear hO hN h1
        rintro T H ⟨aA, j9, hT, hO, hN, h1⟩
        refine aY hT ?_
        clear hT
        unfold fT at h1
        obtain ⟨rr1, hl1, h1⟩ := aX h1
        refine cS (by kernel_rfl) (fun (s : List Int × Int) T H => Has T [(0, (.msl 1 lo0p 0 (List.length s.1))), (1, (eI a1)), (2, (eI b2)), (7, (eI i7)), (8, (eI j8)), (9, (eI s.2))] ∧ aJ ⟨H0, [lo0p], []⟩ H [(lo0p, 1, List.map (eI) s.1)] ∧ List.length s.1 = N0) hl1 ⟨.eq (by kernel_rfl), hO, hN⟩ ?_
        clear hO hN
        rintro k1 s out2 T H ⟨hT, hO, hN⟩ h2 ho1
        obtain ⟨aA, j9⟩ := s
        replace h2 : cK a1 b2 i7 j8 aA j9 = some out2 := h2
        try dsimp only at hT
        refine aY hT ?_
        clear hT
        unfold cK at h2
        refine aN ?_
        refine aT aD 2 [] [(65, (aE (decide ((1 : Int) ≤ j9))))] ?_
        refine bF h2 (fun h2 => ?_) (fun h2 => ?_)
        · refine bG ?_
          refine bI [(0, (.msl 1 lo0p 0 (List.length aA))), (1, (eI a1)), (2, (eI b2)), (7, (eI i7)), (8, (eI j8)), (9, (eI j9))] ?_
          refine aN ?_
          refine cA 5 ?_
          refine aN ?_
          refine aN ?_
          refine fD (fC [77]) aD 11 ?_
          obtain ⟨c22, h2⟩ := aU h2
          refine cH 3 [0 ≤ j9 ∧ j9 < (lN aA)] ⟨c22, trivial⟩ ?_
          refine gY 0 lo0p 1 (0 + Int.toNat j9) (eI (gD aA j9)) (eI (gD aA j9)) (List.map (eI) aA) hO (cD c22) ?_
          obtain ⟨c23, h2⟩ := aU h2
          refine cH 8 [0 ≤ (wR (j9 - (1 : Int))) ∧ (wR (j9 - (1 : Int))) < (lN aA)] ⟨c23, trivial⟩ ?_
          refine gY 0 lo0p 1 (0 + Int.toNat (wR (j9 - (1 : Int)))) (eI (gD aA (wR (j9 - (1 : Int))))) (eI (gD aA (wR (j9 - (1 : Int))))) (List.map (eI) aA) hO (cD c23) ?_
          obtain ⟨x24, hx25, h2⟩ := aX h2
          refine CE (fO (gD aA j9) (gD aA (wR (j9 - (1 : Int)))) _ hx25) hO ?_
          intro H hO
          refine iF ?_
          refine bT [] [(78, (aE (!x24)))] ?_
          refine bF h2 (fun h2 => ?_) (fun h2 => ?_)
          · refine eX 4 ?_
            obtain rfl := oI h2
            obtain rfl : _ = rr1 := ho1
            replace h1 : cJ aA a1 b2 i7 j8 = some out1 := h1
            exact aG (aR (rP (by kernel_rfl) (aR (aR (bQ (aF (⟨rfl, _, .eq (by kernel_rfl), hO, hN, h1⟩)))))))
          refine bG ?_
          refine bI [(0, (.msl 1 lo0p 0 (List.length aA))), (1, (eI a1)), (2, (eI b2)), (7, (eI i7)), (8, (eI j8)), (9, (eI j9))] ?_
          refine fD (fC []) aD 18 ?_
          obtain ⟨c28, h2⟩ := aU h2
          refine cH 9 [0 ≤ (wR (j9 - (1 : Int))) ∧ (wR (j9 - (1 : Int))) < (lN aA)] ⟨c28, trivial⟩ ?_
          refine gY 0 lo0p 1 (0 + Int.toNat (wR (j9 - (1 : Int)))) (eI (gD aA (wR (j9 - (1 : Int))))) (eI (gD aA (wR (j9 - (1 : Int))))) (List.map (eI) aA) hO (cD c28) ?_
          obtain ⟨c29, h2⟩ := aU h2
          refine cH 13 [0 ≤ j9 ∧ j9 < (lN aA)] ⟨c29, trivial⟩ ?_
          refine gY 0 lo0p 1 (0 + Int.toNat j9) (eI (gD aA j9)) (eI (gD aA j9)) (List.map (eI) aA) hO (cD c29) ?_
          obtain ⟨c30, h2⟩ := aU h2
          refine cH 15 [0 ≤ j9 ∧ j9 < (lN aA)] ⟨c30, trivial⟩ ?_
          refine kG 0 lo0p 1 (0 + Int.toNat j9) (eI (gD aA j9)) (eI (gD aA (wR (j9 - (1 : Int))))) (List.map (eI) aA) [(lo0p, 1, List.map (eI) (List.set aA (Int.toNat j9) (gD aA (wR (j9 - (1 : Int))))))] hO (cD c30) (by simp only [List.set, gV]) ?_
          intro H hO
          replace hN : List.length (List.set aA (Int.toNat j9) (gD aA (wR (j9 - (1 : Int))))) = N0 := by simpa using hN
          obtain ⟨c31, h2⟩ := aU h2
          refine cH 17 [0 ≤ (wR (j9 - (1 : Int))) ∧ (wR (j9 - (1 : Int))) < (lN aA)] ⟨c31, trivial⟩ ?_
          refine kG 0 lo0p 1 (0 + Int.toNat (wR (j9 - (1 : Int)))) (eI (gD (List.set aA (Int.toNat j9) (gD aA (wR (j9 - (1 : Int))))) (wR (j9 - (1 : Int))))) (eI (gD aA j9)) (List.map (eI) (List.set aA (Int.toNat j9) (gD aA (wR (j9 - (1 : Int)))))) [(lo0p, 1, List.map (eI) (List.set (List.set aA (Int.toNat j9) (gD aA (wR (j9 - (1 : Int))))) (Int.toNat (wR (j9 - (1 : Int)))) (gD aA j9)))] hO (mF c31 (by simp [])) (by simp only [List.set, gV]) ?_
          intro H hO
          replace hN : List.length (List.set (List.set aA (Int.toNat j9) (gD aA (wR (j9 - (1 : Int))))) (Int.toNat (wR (j9 - (1 : Int)))) (gD aA j9)) = N0 := by simpa using hN
          refine mR (by kernel_rfl) ?_
          refine cX (l := [(0, (.msl 1 lo0p 0 (List.length (List.set (List.set aA (Int.toNat j9) (gD aA (wR (j9 - (1 : Int))))) (Int.toNat (wR (j9 - (1 : Int)))) (gD aA j9))))), (1, (eI a1)), (2, (eI b2)), (7, (eI i7)), (8, (eI j8)), (9, (eI j9))]) ⟨[(0, (.msl 1 lo0p 0 (List.length aA))), (1, (eI a1)), (2, (eI b2)), (7, (eI i7)), (8, (eI j8)), (9, (eI j9))], by kernel_rfl, rfl, ⟨aO.eq (by simp []), aO.refl _, aO.refl _, aO.refl _, aO.refl _, aO.refl _, trivial⟩⟩ ?_
          refine aG (aW (aF (?_)))
          refine aV aD 3 ?_
          refine bB ?_
          exact aG (aF (⟨rfl, _, (oI h2).symm, .eq (by kernel_rfl), hO, hN⟩))
        refine eX 4 ?_
        obtain rfl := oI h2
        obtain rfl : _ = rr1 := ho1
        replace h1 : cJ aA a1 b2 i7 j8 = some out1 := h1
        exact aG (aR (aR (bQ (aF (⟨rfl, _, .eq (by kernel_rfl), hO, hN, h1⟩)))))
      refine bG ?_
      exact aG (aF (⟨rfl, _, .eq (by kernel_rfl), hO, hN, h1⟩))
    refine cA 2 ?_
    refine eU [(0, (.msl 1 lo0p 0 (List.length aA))), (1, (eI a1)), (2, (eI b2)), (7, (eI i7)), (8, (eI j8))] ?_
    refine dS (fun T H => ∃ aA : List Int, ∃ i7 : Int, Has T [(0, (.msl 1 lo0p 0 (List.length aA))), (1, (eI a1)), (2, (eI b2)), (7, (eI i7)), (8, (eI j8))] ∧ aJ ⟨H0, [lo0p], []⟩ H [(lo0p, 1, List.map (eI) aA)] ∧ List.length aA = N0 ∧ cY aA a1 b2 i7 j8 = some out1) ?_ ⟨aA, i7, .eq (by kernel_rfl), hO, hN, h1⟩
    clear hO hN h1
    rintro T H ⟨aA, i7, hT, hO, hN, h1⟩
    refine aY hT ?_
    clear hT
    unfold cY at h1
    obtain ⟨rr1, hl1, h1⟩ := aX h1
    refine cS (by kernel_rfl) (fun (s : List Int × Int) T H => Has T [(0, (.msl 1 lo0p 0 (List.length s.1))), (1, (eI a1)), (2, (eI b2)), (7, (eI s.2)), (8, (eI j8))] ∧ aJ ⟨H0, [lo0p], []⟩ H [(lo0p, 1, List.map (eI) s.1)] ∧ List.length s.1 = N0) hl1 ⟨.eq (by kernel_rfl), hO, hN⟩ ?_
    clear hO hN
    rintro k1 s out2 T H ⟨hT, hO, hN⟩ h2 ho1
    obtain ⟨aA, i7⟩ := s
    replace h2 : cN a1 b2 j8 aA i7 = some out2 := h2
    try dsimp only at hT
    refine aY hT ?_
    clear hT
    unfold cN at h2
    refine aN ?_
    refine aN ?_
    obtain ⟨c32, h2⟩ := aU h2
    obtain ⟨c33, h2⟩ := aU h2
    obtain ⟨x34, hx35, h2⟩ := aX h2
    refine fD (fC []) aD 16 ?_
    refine lZ (K := fun T H => Has (lift T) [(0, (.msl 1 lo0p 0 (List.length aA))), (1, (eI a1)), (2, (eI b2)), (7, (eI i7)), (8, (eI j8)), (32, (aE ((decide (i7 < b2)) && (!x34))))] ∧ aJ ⟨H0, [lo0p], []⟩ H [(lo0p, 1, List.map (eI) aA)]) ?_ ?_
    · refine mZ 4 ?_
      refine kP (t := 20) (e := decide (i7 < b2)) (by kernel_rfl) (fun hg36 => ?_) (fun hg36 => ?_)
      · refine cH 7 [0 ≤ i7 ∧ i7 < (lN aA)] ⟨(c32 hg36), trivial⟩ ?_
        refine jA 0 lo0p 1 (0 + Int.toNat i7) (eI (gD aA i7)) (eI (gD aA i7)) (List.map (eI) aA) (by kernel_rfl) (by kernel_rfl) (by kernel_rfl) hO (by kernel_rfl) (cD (c32 hg36)) ?_
        refine cH 12 [0 ≤ (wR (i7 - (1 : Int))) ∧ (wR (i7 - (1 : Int))) < (lN aA)] ⟨(c33 hg36), trivial⟩ ?_
        refine jA 0 lo0p 1 (0 + Int.toNat (wR (i7 - (1 : Int)))) (eI (gD aA (wR (i7 - (1 : Int))))) (eI (gD aA (wR (i7 - (1 : Int))))) (List.map (eI) aA) (by kernel_rfl) (by kernel_rfl) (by kernel_rfl) hO (by kernel_rfl) (cD (c33 hg36)) ?_
        refine lO 70 [(eI (gD aA i7)), (eI (gD aA (wR (i7 - (1 : Int)))))] (aE x34) (by kernel_rfl) (by kernel_rfl) (fO (gD aA i7) (gD aA (wR (i7 - (1 : Int)))) _ (jG hx35 hg36)) hO ?_
        intro H hO
        refine iF ?_
        exact ⟨⟨[(0, (.msl 1 lo0p 0 (List.length aA))), (1, (eI a1)), (2, (eI b2)), (7, (eI i7)), (8, (eI j8)), (32, (aE (!x34)))], by kernel_rfl, rfl, ⟨aO.refl _, aO.refl _, aO.refl _, aO.refl _, aO.refl _, aO.eq (congrArg aE (jH hg36 rfl).symm), trivial⟩⟩, hO⟩
      refine iF ?_
      exact ⟨⟨[(0, (.msl 1 lo0p 0 (List.length aA))), (1, (eI a1)), (2, (eI b2)), (7, (eI i7)), (8, (eI j8)), (32, (aE false))], by kernel_rfl, rfl, ⟨aO.refl _, aO.refl _, aO.refl _, aO.refl _, aO.refl _, aO.eq (congrArg aE (jH hg36 rfl).symm), trivial⟩⟩, hO⟩
    · rintro T H ⟨hT, hO⟩
      refine cX hT ?_
      clear hT
      refine aG (aF ?_)
      refine bF h2 (fun h2 => ?_) (fun h2 => ?_)
      · refine bG ?_
        refine bI [(0, (.msl 1 lo0p 0 (List.length aA))), (1, (eI a1)), (2, (eI b2)), (7, (eI i7)), (8, (eI j8))] ?_
        refine cA 3 ?_
        refine aV aD 3 ?_
        refine bB ?_
        exact aG (aW (aF (⟨rfl, _, (oI h2).symm, .eq (by kernel_rfl), hO, hN⟩)))
      refine eX 2 ?_
      obtain rfl := oI h2
      obtain rfl : _ = rr1 := ho1
      replace h1 : eF aA a1 b2 i7 j8 = some out1 := h1
      exact aG (aR (aR (bQ (aF (⟨rfl, _, _, .eq (by kernel_rfl), hO, hN, h1⟩)))))
  refine eX 0 ?_
  obtain rfl := oI h1
  obtain rfl : _ = rr0 := ho0
  replace h0 : eG aA = some r := h0
  exact aG (aR (aR (bQ (aF (⟨rfl, _, .eq (by kernel_rfl), hO, hN, h0⟩)))))

theorem tS (lo0p : Nat) (aA : (List Int)) (a1 : Int) (b2 : Int) (cL : Int) (r : (Int × List Int)) (h0 : eT aA a1 b2 cL = some r) : mJ Try.prog 85 lo0p 1 (List.map (eI) aA) (List.map (eI) r.2) [(.msl 1 lo0p 0 (List.length aA)), (eI a1), (eI b2), (eI cL)] (eI r.1) := by
  intro H0 hl0
  refine dG Try.func85 ?_
  have hO := aJ.sW hl0
  clear hl0
  obtain ⟨N0, hN0⟩ : ∃ n, n = List.length aA := ⟨_, rfl⟩
  have hN : List.length aA = N0 := hN0.symm
  unfold eT at h0
  refine aT aD 1 [] [] ?_
  refine aN ?_
  refine fD (fC []) aD 16 ?_
  obtain ⟨c1, h0⟩ := aU h0
  refine cH 7 [0 ≤ cL ∧ cL < (lN aA)] ⟨c1, trivial⟩ ?_
  refine gY 0 lo0p 1 (0 + Int.toNat cL) (eI (gD aA cL)) (eI (gD aA cL)) (List.map (eI) aA) hO (cD c1) ?_
  obtain ⟨c2, h0⟩ := aU h0
  refine cH 11 [0 ≤ a1 ∧ a1 < (lN aA)] ⟨c2, trivial⟩ ?_
  refine gY 0 lo0p 1 (0 + Int.toNat a1) (eI (gD aA a1)) (eI (gD aA a1)) (List.map (eI) aA) hO (cD c2) ?_
  obtain ⟨c3, h0⟩ := aU h0
  refine cH 13 [0 ≤ a1 ∧ a1 < (lN aA)] ⟨c3, trivial⟩ ?_
  refine kG 0 lo0p 1 (0 + Int.toNat a1) (eI (gD aA a1)) (eI (gD aA cL)) (List.map (eI) aA) [(lo0p, 1, List.map (eI) (List.set aA (Int.toNat a1) (gD aA cL)))] hO (cD c3) (by simp only [List.set, gV]) ?_
  intro H hO
  replace hN : List.length (List.set aA (Int.toNat a1) (gD aA cL)) = N0 := by simpa using hN
  obtain ⟨c4, h0⟩ := aU h0
  refine cH 15 [0 ≤ cL ∧ cL < (lN aA)] ⟨c4, trivial⟩ ?_
  refine kG 0 lo0p 1 (0 + Int.toNat cL) (eI (gD (List.set aA (Int.toNat a1) (gD aA cL)) cL)) (eI (gD aA a1)) (List.map (eI) (List.set aA (Int.toNat a1) (gD aA cL))) [(lo0p, 1, List.map (eI) (List.set (List.set aA (Int.toNat a1) (gD aA cL)) (Int.toNat cL) (gD aA a1)))] hO (mF c4 (by simp [])) (by simp only [List.set, gV]) ?_
  intro H hO
  replace hN : List.length (List.set (List.set aA (Int.toNat a1) (gD aA cL)) (Int.toNat cL) (gD aA a1)) = N0 := by simpa using hN
  refine mR (by kernel_rfl) ?_
  refine cX (l := [(0, (.msl 1 lo0p 0 (List.length (List.set (List.set aA (Int.toNat a1) (gD aA cL)) (Int.toNat cL) (gD aA a1))))), (1, (eI a1)), (2, (eI b2))]) ⟨[(0, (.msl 1 lo0p 0 (List.length aA))), (1, (eI a1)), (2, (eI b2))], by kernel_rfl, rfl, ⟨aO.eq (by simp []), aO.refl _, aO.refl _, trivial⟩⟩ ?_
  refine aG (aF (?_))
  refine aT aD 6 [2] [(9, (eI (wR (a1 + (1 : Int))))), (10, (eI (wR (b2 - (1 : Int)))))] ?_
  refine dN (fun T H => ∃ aA : List Int, ∃ i9 : Int, Has T [(0, (.msl 1 lo0p 0 (List.length aA))), (9, (eI i9))] ∧ aJ ⟨H0, [lo0p], []⟩ H [(lo0p, 1, List.map (eI) aA)] ∧ List.length aA = N0 ∧ iN aA i9 = some r) ?_ ?_
  · clear hO hN h0
    rintro T H ⟨aA, i9, hT, hO, hN, h0⟩
    refine aY hT ?_
    clear hT
    unfold iN at h0
    refine aT aD 2 [9] [(8, (eI i9))] ?_
    refine bK ?_
    obtain rfl := oI h0
    exact aG (mK (x := (eI i9)) (by kernel_rfl) (aO.refl _) ⟨rfl, hO.ext, hO.at 0 (by kernel_rfl), by first | rfl | (simp only [List.length_map]; exact hN.trans hN0)⟩)
  refine cA 0 ?_
  refine eU [(0, (.msl 1 lo0p 0 (List.length (List.set (List.set aA (Int.toNat a1) (gD aA cL)) (Int.toNat cL) (gD aA a1))))), (1, (eI a1)), (9, (eI (wR (a1 + (1 : Int))))), (10, (eI (wR (b2 - (1 : Int)))))] ?_
  refine dS (fun T H => ∃ aA : List Int, ∃ i9 : Int, ∃ j10 : Int, Has T [(0, (.msl 1 lo0p 0 (List.length aA))), (1, (eI a1)), (9, (eI i9)), (10, (eI j10))] ∧ aJ ⟨H0, [lo0p], []⟩ H [(lo0p, 1, List.map (eI) aA)] ∧ List.length aA = N0 ∧ iL aA a1 i9 j10 = some r) ?_ ⟨List.set (List.set aA (Int.toNat a1) (gD aA cL)) (Int.toNat cL) (gD aA a1), wR (a1 + (1 : Int)), wR (b2 - (1 : Int)), .eq (by kernel_rfl), hO, hN, h0⟩
  clear hO hN h0
  rintro T H ⟨aA, i9, j10, hT, hO, hN, h0⟩
  refine aY hT ?_
  clear hT
  unfold iL at h0
  obtain ⟨rr0, hl0, h0⟩ := aX h0
  refine cS (by kernel_rfl) (fun (s : List Int × Int × Int) T H => Has T [(0, (.msl 1 lo0p 0 (List.length s.1))), (1, (eI a1)), (9, (eI s.2.1)), (10, (eI s.2.2))] ∧ aJ ⟨H0, [lo0p], []⟩ H [(lo0p, 1, List.map (eI) s.1)] ∧ List.length s.1 = N0) hl0 ⟨.eq (by kernel_rfl), hO, hN⟩ ?_
  clear hO hN
  rintro k0 s out1 T H ⟨hT, hO, hN⟩ h1 ho0
  obtain ⟨aA, i9, j10⟩ := s
  replace h1 : cU a1 aA i9 j10 = some out1 := h1
  try dsimp only at hT
  refine aY hT ?_
  clear hT
  unfold cU at h1
  refine cA 1 ?_
  refine dN (fun T H => ∃ aA : List Int, ∃ i9 : Int, Has T [(0, (.msl 1 lo0p 0 (List.length aA))), (1, (eI a1)), (9, (eI i9)), (10, (eI j10))] ∧ aJ ⟨H0, [lo0p], []⟩ H [(lo0p, 1, List.map (eI) aA)] ∧ List.length aA = N0 ∧ fL aA a1 i9 j10 = some out1) ?_ ?_
  · clear hO hN h1
    rintro T H ⟨aA, i9, hT, hO, hN, h1⟩
    refine aY hT ?_
    clear hT
    unfold fL at h1
    refine dN (fun T H => ∃ aA : List Int, ∃ j10 : Int, Has T [(0, (.msl 1 lo0p 0 (List.length aA))), (1, (eI a1)), (9, (eI i9)), (10, (eI j10))] ∧ aJ ⟨H0, [lo0p], []⟩ H [(lo0p, 1, List.map (eI) aA)] ∧ List.length aA = N0 ∧ dP aA a1 i9 j10 = some out1) ?_ ?_
    · clear hO hN h1
      rintro T H ⟨aA, j10, hT, hO, hN, h1⟩
      refine aY hT ?_
      clear hT
      unfold dP at h1
      refine aN ?_
      refine aT aD 3 [] [(64, (aE (decide (j10 < i9))))] ?_
      refine bF h1 (fun h1 => ?_) (fun h1 => ?_)
      · refine eX 0 ?_
        obtain rfl := oI h1
        obtain rfl : _ = rr0 := ho0
        replace h0 : iN aA i9 = some r := h0
        exact aG (aR (rP (by kernel_rfl) (aR (bQ (aF (⟨rfl, _, _, .eq (by kernel_rfl), hO, hN, h0⟩))))))
      refine bG ?_
      refine bI [(0, (.msl 1 lo0p 0 (List.length aA))), (1, (eI a1)), (9, (eI i9)), (10, (eI j10))] ?_
      refine aN ?_
      refine fD (fC []) aD 16 ?_
      obtain ⟨c6, h1⟩ := aU h1
      refine cH 7 [0 ≤ j10 ∧ j10 < (lN aA)] ⟨c6, trivial⟩ ?_
      refine gY 0 lo0p 1 (0 + Int.toNat j10) (eI (gD aA j10)) (eI (gD aA j10)) (List.map (eI) aA) hO (cD c6) ?_
      obtain ⟨c7, h1⟩ := aU h1
      refine cH 11 [0 ≤ i9 ∧ i9 < (lN aA)] ⟨c7, trivial⟩ ?_
      refine gY 0 lo0p 1 (0 + Int.toNat i9) (eI (gD aA i9)) (eI (gD aA i9)) (List.map (eI) aA) hO (cD c7) ?_
      obtain ⟨c8, h1⟩ := aU h1
      refine cH 13 [0 ≤ i9 ∧ i9 < (lN aA)] ⟨c8, trivial⟩ ?_
      refine kG 0 lo0p 1 (0 + Int.toNat i9) (eI (gD aA i9)) (eI (gD aA j10)) (List.map (eI) aA) [(lo0p, 1, List.map (eI) (List.set aA (Int.toNat i9) (gD aA j10)))] hO (cD c8) (by simp only [List.set, gV]) ?_
      intro H hO
      replace hN : List.length (List.set aA (Int.toNat i9) (gD aA j10)) = N0 := by simpa using hN
      obtain ⟨c9, h1⟩ := aU h1
      refine cH 15 [0 ≤ j10 ∧ j10 < (lN aA)] ⟨c9, trivial⟩ ?_
      refine kG 0 lo0p 1 (0 + Int.toNat j10) (eI (gD (List.set aA (Int.toNat i9) (gD aA j10)) j10)) (eI (gD aA i9)) (List.map (eI) (List.set aA (Int.toNat i9) (gD aA j10))) [(lo0p, 1, List.map (eI) (List.set (List.set aA (Int.toNat i9) (gD aA j10)) (Int.toNat j10) (gD aA i9)))] hO (mF c9 (by simp [])) (by simp only [List.set, gV]) ?_
      intro H hO
      replace hN : List.length (List.set (List.set aA (Int.toNat i9) (gD aA j10)) (Int.toNat j10) (gD aA i9)) = N0 := by simpa using hN
      refine mR (by kernel_rfl) ?_
      refine cX (l := [(0, (.msl 1 lo0p 0 (List.length (List.set (List.set aA (Int.toNat i9) (gD aA j10)) (Int.toNat j10) (gD aA i9))))), (1, (eI a1)), (9, (eI i9)), (10, (eI j10))]) ⟨[(0, (.msl 1 lo0p 0 (List.length aA))), (1, (eI a1)), (9, (eI i9)), (10, (eI j10))], by kernel_rfl, rfl, ⟨aO.eq (by simp []), aO.refl _, aO.refl _, aO.refl _, trivial⟩⟩ ?_
      refine aG (aF (?_))
      refine aT aD 3 [9] [(9, (eI (wR (i9 + (1 : Int)))))] ?_
      refine aV aD 3 ?_
      refine bB ?_
      exact aG (aW (aF (⟨rfl, _, (oI h1).symm, .eq (by kernel_rfl), hO, hN⟩)))
    refine cA 4 ?_
    refine eU [(0, (.msl 1 lo0p 0 (List.length aA))), (1, (eI a1)), (9, (eI i9)), (10, (eI j10))] ?_
    refine dS (fun T H => ∃ aA : List Int, ∃ j10 : Int, Has T [(0, (.msl 1 lo0p 0 (List.length aA))), (1, (eI a1)), (9, (eI i9)), (10, (eI j10))] ∧ aJ ⟨H0, [lo0p], []⟩ H [(lo0p, 1, List.map (eI) aA)] ∧ List.length aA = N0 ∧ iM aA a1 i9 j10 = some out1) ?_ ⟨aA, j10, .eq (by kernel_rfl), hO, hN, h1⟩
    clear hO hN h1
    rintro T H ⟨aA, j10, hT, hO, hN, h1⟩
    refine aY hT ?_
    clear hT
    unfold iM at h1
    obtain ⟨rr1, hl1, h1⟩ := aX h1
    refine cS (by kernel_rfl) (fun (s : List Int × Int) T H => Has T [(0, (.msl 1 lo0p 0 (List.length s.1))), (1, (eI a1)), (9, (eI i9)), (10, (eI s.2))] ∧ aJ ⟨H0, [lo0p], []⟩ H [(lo0p, 1, List.map (eI) s.1)] ∧ List.length s.1 = N0) hl1 ⟨.eq (by kernel_rfl), hO, hN⟩ ?_
    clear hO hN
    rintro k1 s out2 T H ⟨hT, hO, hN⟩ h2 ho1
    obtain ⟨aA, j10⟩ := s
    replace h2 : dO a1 i9 aA j10 = some out2 := h2
    try dsimp only at hT
    refine aY hT ?_
    clear hT
    unfold dO at h2
    refine aN ?_
    refine aN ?_
    obtain ⟨c10, h2⟩ := aU h2
    obtain ⟨c11, h2⟩ := aU h2
    obtain ⟨x12, hx13, h2⟩ := aX h2
    refine fD (fC []) aD 14 ?_
    refine lZ (K := fun T H => Has (lift T) [(0, (.msl 1 lo0p 0 (List.length aA))), (1, (eI a1)), (9, (eI i9)), (10, (eI j10)), (59, (aE ((decide (i9 ≤ j10)) && x12)))] ∧ aJ ⟨H0, [lo0p], []⟩ H [(lo0p, 1, List.map (eI) aA)]) ?_ ?_
    · refine mZ 4 ?_
      refine kP (t := 49) (e := decide (i9 ≤ j10)) (by kernel_rfl) (fun hg14 => ?_) (fun hg14 => ?_)
      · refine cH 7 [0 ≤ a1 ∧ a1 < (lN aA)] ⟨(c10 hg14), trivial⟩ ?_
        refine jA 0 lo0p 1 (0 + Int.toNat a1) (eI (gD aA a1)) (eI (gD aA a1)) (List.map (eI) aA) (by kernel_rfl) (by kernel_rfl) (by kernel_rfl) hO (by kernel_rfl) (cD (c10 hg14)) ?_
        refine cH 11 [0 ≤ j10 ∧ j10 < (lN aA)] ⟨(c11 hg14), trivial⟩ ?_
        refine jA 0 lo0p 1 (0 + Int.toNat j10) (eI (gD aA j10)) (eI (gD aA j10)) (List.map (eI) aA) (by kernel_rfl) (by kernel_rfl) (by kernel_rfl) hO (by kernel_rfl) (cD (c11 hg14)) ?_
        refine lO 70 [(eI (gD aA a1)), (eI (gD aA j10))] (aE x12) (by kernel_rfl) (by kernel_rfl) (fO (gD aA a1) (gD aA j10) _ (jG hx13 hg14)) hO ?_
        intro H hO
        refine iF ?_
        exact ⟨⟨[(0, (.msl 1 lo0p 0 (List.length aA))), (1, (eI a1)), (9, (eI i9)), (10, (eI j10)), (59, (aE x12))], by kernel_rfl, rfl, ⟨aO.refl _, aO.refl _, aO.refl _, aO.refl _, aO.eq (congrArg aE (jH hg14 rfl).symm), trivial⟩⟩, hO⟩
      refine iF ?_
      exact ⟨⟨[(0, (.msl 1 lo0p 0 (List.length aA))), (1, (eI a1)), (9, (eI i9)), (10, (eI j10)), (59, (aE false))], by kernel_rfl, rfl, ⟨aO.refl _, aO.refl _, aO.refl _, aO.refl _, aO.eq (congrArg aE (jH hg14 rfl).symm), trivial⟩⟩, hO⟩
    · rintro T H ⟨hT, hO⟩
      refine cX hT ?_
      clear hT
      refine aG (aF ?_)
      refine bF h2 (fun h2 => ?_) (fun h2 => ?_)
      · refine bG ?_
        refine bI [(0, (.msl 1 lo0p 0 (List.length aA))), (1, (eI a1)), (9, (eI i9)), (10, (eI j10))] ?_
        refine cA 5 ?_
        refine aV aD 3 ?_
        refine bB ?_
        exact aG (aW (aF (⟨rfl, _, (oI h2).symm, .eq (by kernel_rfl), hO, hN⟩)))
      refine eX 4 ?_
      obtain rfl := oI h2
      obtain rfl : _ = rr1 := ho1
      replace h1 : dP aA a1 i9 j10 = some out1 := h1
      exact aG (aR (aR (bQ (aF (⟨rfl, _, _, .eq (by kernel_rfl), hO, hN, h1⟩)))))
  refine cA 2 ?_
  refine eU [(0, (.msl 1 lo0p 0 (List.length aA))), (1, (eI a1)), (9, (eI i9)), (10, (eI j10))] ?_
  refine dS (fun T H => ∃ aA : List Int, ∃ i9 : Int, Has T [(0, (.msl 1 lo0p 0 (List.length aA))), (1, (eI a1)), (9, (eI i9)), (10, (eI j10))] ∧ aJ ⟨H0, [lo0p], []⟩ H [(lo0p, 1, List.map (eI) aA)] ∧ List.length aA = N0 ∧ iJ aA a1 i9 j10 = some out1) ?_ ⟨aA, i9, .eq (by kernel_rfl), hO, hN, h1⟩
  clear hO hN h1
  rintro T H ⟨aA, i9, hT, hO, hN, h1⟩
  refine aY hT ?_
  clear hT
  unfold iJ at h1
  obtain ⟨rr1, hl1, h1⟩ := aX h1
  refine cS (by kernel_rfl) (fun (s : List Int × Int) T H => Has T [(0, (.msl 1 lo0p 0 (List.length s.1))), (1, (eI a1)), (9, (eI s.2)), (10, (eI j10))] ∧ aJ ⟨H0, [lo0p], []⟩ H [(lo0p, 1, List.map (eI) s.1)] ∧ List.length s.1 = N0) hl1 ⟨.eq (by kernel_rfl), hO, hN⟩ ?_
  clear hO hN
  rintro k1 s out2 T H ⟨hT, hO, hN⟩ h2 ho1
  obtain ⟨aA, i9⟩ := s
  replace h2 : dQ a1 j10 aA i9 = some out2 := h2
  try dsimp only at hT
  refine aY hT ?_
  clear hT
  unfold dQ at h2
  refine aN ?_
  refine aN ?_
  obtain ⟨c16, h2⟩ := aU h2
  obtain ⟨c17, h2⟩ := aU h2
  obtain ⟨x18, hx19, h2⟩ := aX h2
  refine fD (fC []) aD 15 ?_
  refine lZ (K := fun T H => Has (lift T) [(0, (.msl 1 lo0p 0 (List.length aA))), (1, (eI a1)), (9, (eI i9)), (10, (eI j10)), (43, (aE ((decide (i9 ≤ j10)) && (!x18))))] ∧ aJ ⟨H0, [lo0p], []⟩ H [(lo0p, 1, List.map (eI) aA)]) ?_ ?_
  · refine mZ 4 ?_
    refine kP (t := 32) (e := decide (i9 ≤ j10)) (by kernel_rfl) (fun hg20 => ?_) (fun hg20 => ?_)
    · refine cH 7 [0 ≤ a1 ∧ a1 < (lN aA)] ⟨(c16 hg20), trivial⟩ ?_
      refine jA 0 lo0p 1 (0 + Int.toNat a1) (eI (gD aA a1)) (eI (gD aA a1)) (List.map (eI) aA) (by kernel_rfl) (by kernel_rfl) (by kernel_rfl) hO (by kernel_rfl) (cD (c16 hg20)) ?_
      refine cH 11 [0 ≤ i9 ∧ i9 < (lN aA)] ⟨(c17 hg20), trivial⟩ ?_
      refine jA 0 lo0p 1 (0 + Int.toNat i9) (eI (gD aA i9)) (eI (gD aA i9)) (List.map (eI) aA) (by kernel_rfl) (by kernel_rfl) (by kernel_rfl) hO (by kernel_rfl) (cD (c17 hg20)) ?_
      refine lO 70 [(eI (gD aA a1)), (eI (gD aA i9))] (aE x18) (by kernel_rfl) (by kernel_rfl) (fO (gD aA a1) (gD aA i9) _ (jG hx19 hg20)) hO ?_
      intro H hO
      refine iF ?_
      exact ⟨⟨[(0, (.msl 1 lo0p 0 (List.length aA))), (1, (eI a1)), (9, (eI i9)), (10, (eI j10)), (43, (aE (!x18)))], by kernel_rfl, rfl, ⟨aO.refl _, aO.refl _, aO.refl _, aO.refl _, aO.eq (congrArg aE (jH hg20 rfl).symm), trivial⟩⟩, hO⟩
    refine iF ?_
    exact ⟨⟨[(0, (.msl 1 lo0p 0 (List.length aA))), (1, (eI a1)), (9, (eI i9)), (10, (eI j10)), (43, (aE false))], by kernel_rfl, rfl, ⟨aO.refl _, aO.refl _, aO.refl _, aO.refl _, aO.eq (congrArg aE (jH hg20 rfl).symm), trivial⟩⟩, hO⟩
  · rintro T H ⟨hT, hO⟩
    refine cX hT ?_
    clear hT
    refine aG (aF ?_)
    refine bF h2 (fun h2 => ?_) (fun h2 => ?_)
    · refine bG ?_
      refine bI [(0, (.msl 1 lo0p 0 (List.length aA))), (1, (eI a1)), (9, (eI i9)), (10, (eI j10))] ?_
      refine cA 3 ?_
      refine aV aD 3 ?_
      refine bB ?_
      exact aG (aW (aF (⟨rfl, _, (oI h2).symm, .eq (by kernel_rfl), hO, hN⟩)))
    refine eX 2 ?_
    obtain rfl := oI h2
    obtain rfl : _ = rr1 := ho1
    replace h1 : fL aA a1 i9 j10 = some out1 := h1
    exact aG (aR (aR (bQ (aF (⟨rfl, _, _, .eq (by kernel_rfl), hO, hN, h1⟩)))))

end Go.Abs
