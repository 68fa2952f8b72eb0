/- What the law SnapCuts stands on: the framework, the given functions as plain functions, their walks, and the plain laws; part 3. -/
import Derived.Test.YtfhaegpflbcmgaaSnapCutsZ2
set_option linter.unusedSimpArgs false
set_option linter.unusedVariables false
namespace Go.Abs
open Go
noncomputable def cR (a1 : Int) (jG : Int) (iB : Int) (aA : List Int) (kJ : Int) (idx9 : Int) : Option ((List Int × Int × Int) ⊕ ((List Int))) :=
  aZ ((4 : Int) ≠ 0) <|
  cond (decide (idx9 ≤ (IntKind.i64.wrap ((IntKind.i64.wrap (a1 + (IntKind.i64.wrap ((IntKind.i64.wrap (Int.tdiv jG (4 : Int))) * (2 : Int))))) + (1 : Int)))))
  ((kL kJ).bind fun x9 =>
  cond (decide (jG ≤ (IntKind.i64.wrap (bL .and .u64 x9.1 (IntKind.u64.wrap (iB - (1 : Int)))))))
  (eO aA a1 jG x9.2 iB idx9 (IntKind.i64.wrap ((IntKind.i64.wrap (bL .and .u64 x9.1 (IntKind.u64.wrap (iB - (1 : Int))))) - jG)))
  (eO aA a1 jG x9.2 iB idx9 (IntKind.i64.wrap (bL .and .u64 x9.1 (IntKind.u64.wrap (iB - (1 : Int)))))))
  (some (.inr aA))

noncomputable def iR (aA : List Int) (a1 : Int) (jG : Int) (kJ : Int) (iB : Int) (idx9 : Int) : Option (List Int) :=
  (lp (fun s => cR a1 jG iB s.1 s.2.1 s.2.2) (aA, kJ, idx9)).bind (fun rr => some rr)

noncomputable def fX (aA : (List Int)) (a1 : Int) (b2 : Int) : Option (List Int) :=
  cond (decide ((8 : Int) ≤ (IntKind.i64.wrap (b2 - a1))))
  ((kD (IntKind.i64.wrap (b2 - a1))).bind fun x3 =>
  aZ ((4 : Int) ≠ 0) <|
  iR aA a1 (IntKind.i64.wrap (b2 - a1)) (IntKind.u64.wrap (IntKind.i64.wrap (b2 - a1))) x3 (IntKind.i64.wrap ((IntKind.i64.wrap (a1 + (IntKind.i64.wrap ((IntKind.i64.wrap (Int.tdiv (IntKind.i64.wrap (b2 - a1)) (4 : Int))) * (2 : Int))))) - (1 : Int))))
  (some aA)

noncomputable def fO (aA : (List Int)) (a1 : Int) (b2 : Int) (qA : Int) : Option ((Int × Int) × Int) :=
  aZ (0 ≤ b2 ∧ b2 < ((List.length aA : Nat) : Int)) <|
  aZ (0 ≤ a1 ∧ a1 < ((List.length aA : Nat) : Int)) <|
  (cW (List.getD aA (Int.toNat b2) default) (List.getD aA (Int.toNat a1) default)).bind fun x3 =>
  cond x3
  (some ((b2, a1), IntKind.i64.wrap (qA + (1 : Int))))
  (some ((a1, b2), qA))

noncomputable def gV (aA : (List Int)) (a1 : Int) (b2 : Int) (c3 : Int) (CG : Int) : Option (Int × Int) :=
  (fO aA a1 b2 CG).bind fun x1 =>
  (fO aA x1.1.2 c3 x1.2).bind fun x6 =>
  (fO aA x1.1.1 x6.1.1 x6.2).bind fun x11 =>
  some (x11.1.2, x11.2)

noncomputable def dL (aA : (List Int)) (a1 : Int) (BG : Int) : Option (Int × Int) :=
  (gV aA (IntKind.i64.wrap (a1 - (1 : Int))) a1 (IntKind.i64.wrap (a1 + (1 : Int))) BG).bind fun x1 =>
  some (x1.1, x1.2)

noncomputable def eW (aA : List Int) (kY : Int) (j11 : Int) : Option (Int × Int) :=
  cond (decide (kY = (0 : Int)))
  (some (j11, (1 : Int)))
  (cond (decide (kY = (12 : Int)))
  (some (j11, (2 : Int)))
  (some (j11, (0 : Int))))

noncomputable def eX (aA : List Int) (kY : Int) (i10 : Int) (j11 : Int) (k12 : Int) : Option (Int × Int) :=
  (gV aA i10 j11 k12 kY).bind fun x8 =>
  eW aA x8.2 x8.1

noncomputable def gP (aA : (List Int)) (a1 : Int) (b2 : Int) : Option (Int × Int) :=
  aZ ((4 : Int) ≠ 0) <|
  aZ ((4 : Int) ≠ 0) <|
  aZ ((4 : Int) ≠ 0) <|
  cond (decide ((8 : Int) ≤ (IntKind.i64.wrap (b2 - a1))))
  (cond (decide ((50 : Int) ≤ (IntKind.i64.wrap (b2 - a1))))
  ((dL aA (IntKind.i64.wrap (a1 + (IntKind.i64.wrap ((IntKind.i64.wrap (Int.tdiv (IntKind.i64.wrap (b2 - a1)) (4 : Int))) * (1 : Int))))) 0).bind fun x14 =>
  (dL aA (IntKind.i64.wrap (a1 + (IntKind.i64.wrap ((IntKind.i64.wrap (Int.tdiv (IntKind.i64.wrap (b2 - a1)) (4 : Int))) * (2 : Int))))) x14.2).bind fun x19 =>
  (dL aA (IntKind.i64.wrap (a1 + (IntKind.i64.wrap ((IntKind.i64.wrap (Int.tdiv (IntKind.i64.wrap (b2 - a1)) (4 : Int))) * (3 : Int))))) x19.2).bind fun x24 =>
  eX aA x24.2 x14.1 x19.1 x24.1)
  (eX aA 0 (IntKind.i64.wrap (a1 + (IntKind.i64.wrap ((IntKind.i64.wrap (Int.tdiv (IntKind.i64.wrap (b2 - a1)) (4 : Int))) * (1 : Int))))) (IntKind.i64.wrap (a1 + (IntKind.i64.wrap ((IntKind.i64.wrap (Int.tdiv (IntKind.i64.wrap (b2 - a1)) (4 : Int))) * (2 : Int))))) (IntKind.i64.wrap (a1 + (IntKind.i64.wrap ((IntKind.i64.wrap (Int.tdiv (IntKind.i64.wrap (b2 - a1)) (4 : Int))) * (3 : Int)))))))
  (eW aA 0 (IntKind.i64.wrap (a1 + (IntKind.i64.wrap ((IntKind.i64.wrap (Int.tdiv (IntKind.i64.wrap (b2 - a1)) (4 : Int))) * (2 : Int))))))

noncomputable def dA  (aA : List Int) (i6 : Int) (j7 : Int) : Option ((List Int × Int × Int) ⊕ ((List Int))) :=
  cond (decide (i6 < j7))
  (aZ (0 ≤ j7 ∧ j7 < ((List.length aA : Nat) : Int)) <|
  aZ (0 ≤ i6 ∧ i6 < ((List.length aA : Nat) : Int)) <|
  aZ (0 ≤ i6 ∧ i6 < ((List.length aA : Nat) : Int)) <|
  aZ (0 ≤ j7 ∧ j7 < ((List.length aA : Nat) : Int)) <|
  some (.inl (List.set (List.set aA (Int.toNat i6) (List.getD aA (Int.toNat j7) default)) (Int.toNat j7) (List.getD aA (Int.toNat i6) default), IntKind.i64.wrap (i6 + (1 : Int)), IntKind.i64.wrap (j7 - (1 : Int)))))
  (some (.inr aA))

noncomputable def iW (aA : List Int) (i6 : Int) (j7 : Int) : Option (List Int) :=
  (lp (fun s => dA s.1 s.2.1 s.2.2) (aA, i6, j7)).bind (fun rr => some rr)

noncomputable def gJ (aA : (List Int)) (a1 : Int) (b2 : Int) : Option (List Int) :=
  iW aA a1 (IntKind.i64.wrap (b2 - (1 : Int)))

noncomputable def eD (aA : List Int) : Option (Bool × List Int) :=
  some (false, aA)

noncomputable def dD (aA : List Int) (a1 : Int) (b2 : Int) (i7 : Int) (j8 : Int) : Option ((List Int × Int × Int) ⊕ ((List Int) ⊕ (Bool × (List Int)))) :=
  some (.inl (aA, i7, IntKind.i64.wrap (j8 + (1 : Int))))

noncomputable def cJ (a1 : Int) (b2 : Int) (i7 : Int) (j8 : Int) (aA : List Int) (j10 : Int) : Option ((List Int × Int) ⊕ ((List Int))) :=
  cond (decide (j10 < b2))
  (aZ (0 ≤ j10 ∧ j10 < ((List.length aA : Nat) : Int)) <|
  aZ (0 ≤ (IntKind.i64.wrap (j10 - (1 : Int))) ∧ (IntKind.i64.wrap (j10 - (1 : Int))) < ((List.length aA : Nat) : Int)) <|
  (cW (List.getD aA (Int.toNat j10) default) (List.getD aA (Int.toNat (IntKind.i64.wrap (j10 - (1 : Int)))) default)).bind fun x12 =>
  cond (!x12)
  (some (.inr aA))
  (aZ (0 ≤ (IntKind.i64.wrap (j10 - (1 : Int))) ∧ (IntKind.i64.wrap (j10 - (1 : Int))) < ((List.length aA : Nat) : Int)) <|
  aZ (0 ≤ j10 ∧ j10 < ((List.length aA : Nat) : Int)) <|
  aZ (0 ≤ j10 ∧ j10 < ((List.length aA : Nat) : Int)) <|
  aZ (0 ≤ (IntKind.i64.wrap (j10 - (1 : Int))) ∧ (IntKind.i64.wrap (j10 - (1 : Int))) < ((List.length aA : Nat) : Int)) <|
  some (.inl (List.set (List.set aA (Int.toNat j10) (List.getD aA (Int.toNat (IntKind.i64.wrap (j10 - (1 : Int)))) default)) (Int.toNat (IntKind.i64.wrap (j10 - (1 : Int)))) (List.getD aA (Int.toNat j10) default), IntKind.i64.wrap (j10 + (1 : Int))))))
  (some (.inr aA))

noncomputable def fP (aA : List Int) (a1 : Int) (b2 : Int) (i7 : Int) (j8 : Int) (j10 : Int) : Option ((List Int × Int × Int) ⊕ ((List Int) ⊕ (Bool × (List Int)))) :=
  (lp (fun s => cJ a1 b2 i7 j8 s.1 s.2) (aA, j10)).bind (fun rr => dD rr a1 b2 i7 j8)

noncomputable def cE (aA : List Int) (a1 : Int) (b2 : Int) (i7 : Int) (j8 : Int) : Option ((List Int × Int × Int) ⊕ ((List Int) ⊕ (Bool × (List Int)))) :=
  cond (decide ((2 : Int) ≤ (IntKind.i64.wrap (b2 - i7))))
  (fP aA a1 b2 i7 j8 (IntKind.i64.wrap (i7 + (1 : Int))))
  (dD aA a1 b2 i7 j8)

noncomputable def cF (a1 : Int) (b2 : Int) (i7 : Int) (j8 : Int) (aA : List Int) (j9 : Int) : Option ((List Int × Int) ⊕ ((List Int))) :=
  cond (decide ((1 : Int) ≤ j9))
  (aZ (0 ≤ j9 ∧ j9 < ((List.length aA : Nat) : Int)) <|
  aZ (0 ≤ (IntKind.i64.wrap (j9 - (1 : Int))) ∧ (IntKind.i64.wrap (j9 - (1 : Int))) < ((List.length aA : Nat) : Int)) <|
  (cW (List.getD aA (Int.toNat j9) default) (List.getD aA (Int.toNat (IntKind.i64.wrap (j9 - (1 : Int)))) default)).bind fun x24 =>
  cond (!x24)
  (some (.inr aA))
  (aZ (0 ≤ (IntKind.i64.wrap (j9 - (1 : Int))) ∧ (IntKind.i64.wrap (j9 - (1 : Int))) < ((List.length aA : Nat) : Int)) <|
  aZ (0 ≤ j9 ∧ j9 < ((List.length aA : Nat) : Int)) <|
  aZ (0 ≤ j9 ∧ j9 < ((List.length aA : Nat) : Int)) <|
  aZ (0 ≤ (IntKind.i64.wrap (j9 - (1 : Int))) ∧ (IntKind.i64.wrap (j9 - (1 : Int))) < ((List.length aA : Nat) : Int)) <|
  some (.inl (List.set (List.set aA (Int.toNat j9) (List.getD aA (Int.toNat (IntKind.i64.wrap (j9 - (1 : Int)))) default)) (Int.toNat (IntKind.i64.wrap (j9 - (1 : Int)))) (List.getD aA (Int.toNat j9) default), IntKind.i64.wrap (j9 - (1 : Int))))))
  (some (.inr aA))

noncomputable def fQ (aA : List Int) (a1 : Int) (b2 : Int) (i7 : Int) (j8 : Int) (j9 : Int) : Option ((List Int × Int × Int) ⊕ ((List Int) ⊕ (Bool × (List Int)))) :=
  (lp (fun s => cF a1 b2 i7 j8 s.1 s.2) (aA, j9)).bind (fun rr => cE rr a1 b2 i7 j8)

noncomputable def eC (aA : List Int) (a1 : Int) (b2 : Int) (i7 : Int) (j8 : Int) : Option ((List Int × Int × Int) ⊕ ((List Int) ⊕ (Bool × (List Int)))) :=
  cond (decide (i7 = b2))
  (some (.inr (.inr (true, aA))))
  (cond (decide ((IntKind.i64.wrap (b2 - a1)) < (50 : Int)))
  (some (.inr (.inr (false, aA))))
  (aZ (0 ≤ (IntKind.i64.wrap (i7 - (1 : Int))) ∧ (IntKind.i64.wrap (i7 - (1 : Int))) < ((List.length aA : Nat) : Int)) <|
  aZ (0 ≤ i7 ∧ i7 < ((List.length aA : Nat) : Int)) <|
  aZ (0 ≤ i7 ∧ i7 < ((List.length aA : Nat) : Int)) <|
  aZ (0 ≤ (IntKind.i64.wrap (i7 - (1 : Int))) ∧ (IntKind.i64.wrap (i7 - (1 : Int))) < ((List.length aA : Nat) : Int)) <|
  cond (decide ((2 : Int) ≤ (IntKind.i64.wrap (i7 - a1))))
  (fQ (List.set (List.set aA (Int.toNat i7) (List.getD aA (Int.toNat (IntKind.i64.wrap (i7 - (1 : Int)))) default)) (Int.toNat (IntKind.i64.wrap (i7 - (1 : Int)))) (List.getD aA (Int.toNat i7) default)) a1 b2 i7 j8 (IntKind.i64.wrap (i7 - (1 : Int))))
  (cE (List.set (List.set aA (Int.toNat i7) (List.getD aA (Int.toNat (IntKind.i64.wrap (i7 - (1 : Int)))) default)) (Int.toNat (IntKind.i64.wrap (i7 - (1 : Int)))) (List.getD aA (Int.toNat i7) default)) a1 b2 i7 j8)))

noncomputable def cI (a1 : Int) (b2 : Int) (j8 : Int) (aA : List Int) (i7 : Int) : Option ((List Int × Int) ⊕ ((List Int × Int))) :=
  aZ ((((decide (i7 < b2))) = true → 0 ≤ i7 ∧ i7 < ((List.length aA : Nat) : Int))) <|
  aZ ((((decide (i7 < b2))) = true → 0 ≤ (IntKind.i64.wrap (i7 - (1 : Int))) ∧ (IntKind.i64.wrap (i7 - (1 : Int))) < ((List.length aA : Nat) : Int))) <|
  (dF (decide (i7 < b2)) (cW (List.getD aA (Int.toNat i7) default) (List.getD aA (Int.toNat (IntKind.i64.wrap (i7 - (1 : Int)))) default))).bind fun x34 =>
  cond ((decide (i7 < b2)) && (!x34))
  (some (.inl (aA, IntKind.i64.wrap (i7 + (1 : Int)))))
  (some (.inr (aA, i7)))

noncomputable def cT (aA : List Int) (a1 : Int) (b2 : Int) (i7 : Int) (j8 : Int) : Option ((List Int × Int × Int) ⊕ ((List Int) ⊕ (Bool × (List Int)))) :=
  (lp (fun s => cI a1 b2 j8 s.1 s.2) (aA, i7)).bind (fun rr => eC rr.1 a1 b2 rr.2 j8)

noncomputable def bT (a1 : Int) (b2 : Int) (aA : List Int) (i7 : Int) (j8 : Int) : Option ((List Int × Int × Int) ⊕ ((List Int) ⊕ (Bool × (List Int)))) :=
  cond (decide (j8 < (5 : Int)))
  (cT aA a1 b2 i7 j8)
  (some (.inr (.inl aA)))

noncomputable def fS (aA : List Int) (a1 : Int) (b2 : Int) (i7 : Int) (j8 : Int) : Option (Bool × List Int) :=
  (lp (fun s => bT a1 b2 s.1 s.2.1 s.2.2) (aA, i7, j8)).bind (Sum.elim (fun rr => eD rr) (fun rr => some (rr.1, rr.2)))

noncomputable def eF (aA : (List Int)) (a1 : Int) (b2 : Int) : Option (Bool × List Int) :=
  fS aA a1 b2 (IntKind.i64.wrap (a1 + (1 : Int))) (0 : Int)

noncomputable def iK (aA : List Int) (i9 : Int) : Option (Int × List Int) :=
  some (i9, aA)

noncomputable def dJ (aA : List Int) (a1 : Int) (i9 : Int) (j10 : Int) : Option ((List Int × Int × Int) ⊕ ((List Int × Int))) :=
  cond (decide (j10 < i9))
  (some (.inr (aA, i9)))
  (aZ (0 ≤ j10 ∧ j10 < ((List.length aA : Nat) : Int)) <|
  aZ (0 ≤ i9 ∧ i9 < ((List.length aA : Nat) : Int)) <|
  aZ (0 ≤ i9 ∧ i9 < ((List.length aA : Nat) : Int)) <|
  aZ (0 ≤ j10 ∧ j10 < ((List.length aA : Nat) : Int)) <|
  some (.inl (List.set (List.set aA (Int.toNat i9) (List.getD aA (Int.toNat j10) default)) (Int.toNat j10) (List.getD aA (Int.toNat i9) default), IntKind.i64.wrap (i9 + (1 : Int)), IntKind.i64.wrap (j10 - (1 : Int)))))

noncomputable def dK (a1 : Int) (i9 : Int) (aA : List Int) (j10 : Int) : Option ((List Int × Int) ⊕ ((List Int × Int))) :=
  aZ ((((decide (i9 ≤ j10))) = true → 0 ≤ a1 ∧ a1 < ((List.length aA : Nat) : Int))) <|
  aZ ((((decide (i9 ≤ j10))) = true → 0 ≤ j10 ∧ j10 < ((List.length aA : Nat) : Int))) <|
  (dF (decide (i9 ≤ j10)) (cW (List.getD aA (Int.toNat a1) default) (List.getD aA (Int.toNat j10) default))).bind fun x12 =>
  cond ((decide (i9 ≤ j10)) && x12)
  (some (.inl (aA, IntKind.i64.wrap (j10 - (1 : Int)))))
  (some (.inr (aA, j10)))

noncomputable def iI (aA : List Int) (a1 : Int) (i9 : Int) (j10 : Int) : Option ((List Int × Int × Int) ⊕ ((List Int × Int))) :=
  (lp (fun s => dK a1 i9 s.1 s.2) (aA, j10)).bind (fun rr => dJ rr.1 a1 i9 rr.2)

noncomputable def fL (aA : List Int) (a1 : Int) (i9 : Int) (j10 : Int) : Option ((List Int × Int × Int) ⊕ ((List Int × Int))) :=
  iI aA a1 i9 j10

noncomputable def dH (a1 : Int) (j10 : Int) (aA : List Int) (i9 : Int) : Option ((List Int × Int) ⊕ ((List Int × Int))) :=
  aZ ((((decide (i9 ≤ j10))) = true → 0 ≤ a1 ∧ a1 < ((List.length aA : Nat) : Int))) <|
  aZ ((((decide (i9 ≤ j10))) = true → 0 ≤ i9 ∧ i9 < ((List.length aA : Nat) : Int))) <|
  (dF (decide (i9 ≤ j10)) (cW (List.getD aA (Int.toNat a1) default) (List.getD aA (Int.toNat i9) default))).bind fun x18 =>
  cond ((decide (i9 ≤ j10)) && (!x18))
  (some (.inl (aA, IntKind.i64.wrap (i9 + (1 : Int)))))
  (some (.inr (aA, i9)))

noncomputable def iL (aA : List Int) (a1 : Int) (i9 : Int) (j10 : Int) : Option ((List Int × Int × Int) ⊕ ((List Int × Int))) :=
  (lp (fun s => dH a1 j10 s.1 s.2) (aA, i9)).bind (fun rr => fL rr.1 a1 rr.2 j10)

noncomputable def cP (a1 : Int) (aA : List Int) (i9 : Int) (j10 : Int) : Option ((List Int × Int × Int) ⊕ ((List Int × Int))) :=
  iL aA a1 i9 j10

noncomputable def iG (aA : List Int) (a1 : Int) (i9 : Int) (j10 : Int) : Option (Int × List Int) :=
  (lp (fun s => cP a1 s.1 s.2.1 s.2.2) (aA, i9, j10)).bind (fun rr => iK rr.1 rr.2)

noncomputable def eP (aA : (List Int)) (a1 : Int) (b2 : Int) (cG : Int) : Option (Int × List Int) :=
  aZ (0 ≤ cG ∧ cG < ((List.length aA : Nat) : Int)) <|
  aZ (0 ≤ a1 ∧ a1 < ((List.length aA : Nat) : Int)) <|
  aZ (0 ≤ a1 ∧ a1 < ((List.length aA : Nat) : Int)) <|
  aZ (0 ≤ cG ∧ cG < ((List.length aA : Nat) : Int)) <|
  iG (List.set (List.set aA (Int.toNat a1) (List.getD aA (Int.toNat cG) default)) (Int.toNat cG) (List.getD aA (Int.toNat a1) default)) a1 (IntKind.i64.wrap (a1 + (1 : Int))) (IntKind.i64.wrap (b2 - (1 : Int)))

noncomputable def gZ (aA : List Int) (a1 : Int) (j11 : Int) : Option ((Int × Bool) × List Int) :=
  aZ (0 ≤ a1 ∧ a1 < ((List.length aA : Nat) : Int)) <|
  aZ (0 ≤ j11 ∧ j11 < ((List.length aA : Nat) : Int)) <|
  aZ (0 ≤ j11 ∧ j11 < ((List.length aA : Nat) : Int)) <|
  aZ (0 ≤ a1 ∧ a1 < ((List.length aA : Nat) : Int)) <|
  some ((j11, false), (List.set (List.set aA (Int.toNat j11) (List.getD aA (Int.toNat a1) default)) (Int.toNat a1) (List.getD aA (Int.toNat j11) default)))

noncomputable def eJ (aA : List Int) (a1 : Int) (i10 : Int) (j11 : Int) : Option ((List Int × Int × Int) ⊕ ((List Int × Int))) :=
  cond (decide (j11 < i10))
  (some (.inr (aA, j11)))
  (aZ (0 ≤ j11 ∧ j11 < ((List.length aA : Nat) : Int)) <|
  aZ (0 ≤ i10 ∧ i10 < ((List.length aA : Nat) : Int)) <|
  aZ (0 ≤ i10 ∧ i10 < ((List.length aA : Nat) : Int)) <|
  aZ (0 ≤ j11 ∧ j11 < ((List.length aA : Nat) : Int)) <|
  some (.inl (List.set (List.set aA (Int.toNat i10) (List.getD aA (Int.toNat j11) default)) (Int.toNat j11) (List.getD aA (Int.toNat i10) default), IntKind.i64.wrap (i10 + (1 : Int)), IntKind.i64.wrap (j11 - (1 : Int)))))

noncomputable def eE (a1 : Int) (i10 : Int) (aA : List Int) (j11 : Int) : Option ((List Int × Int) ⊕ ((List Int × Int))) :=
  aZ ((((decide (i10 ≤ j11))) = true → 0 ≤ j11 ∧ j11 < ((List.length aA : Nat) : Int))) <|
  aZ ((((decide (i10 ≤ j11))) = true → 0 ≤ a1 ∧ a1 < ((List.length aA : Nat) : Int))) <|
  (dF (decide (i10 ≤ j11)) (cW (List.getD aA (Int.toNat j11) default) (List.getD aA (Int.toNat a1) default))).bind fun x25 =>
  cond ((decide (i10 ≤ j11)) && (!x25))
  (some (.inl (aA, IntKind.i64.wrap (j11 - (1 : Int)))))
  (some (.inr (aA, j11)))

noncomputable def jP (aA : List Int) (a1 : Int) (i10 : Int) (j11 : Int) : Option ((List Int × Int × Int) ⊕ ((List Int × Int))) :=
  (lp (fun s => eE a1 i10 s.1 s.2) (aA, j11)).bind (fun rr => eJ rr.1 a1 i10 rr.2)

noncomputable def gY (aA : List Int) (a1 : Int) (i10 : Int) (j11 : Int) : Option ((List Int × Int × Int) ⊕ ((List Int × Int))) :=
  jP aA a1 i10 j11

noncomputable def eH (a1 : Int) (j11 : Int) (aA : List Int) (i10 : Int) : Option ((List Int × Int) ⊕ ((List Int × Int))) :=
  aZ ((((decide (i10 ≤ j11))) = true → 0 ≤ i10 ∧ i10 < ((List.length aA : Nat) : Int))) <|
  aZ ((((decide (i10 ≤ j11))) = true → 0 ≤ a1 ∧ a1 < ((List.length aA : Nat) : Int))) <|
  (dF (decide (i10 ≤ j11)) (cW (List.getD aA (Int.toNat i10) default) (List.getD aA (Int.toNat a1) default))).bind fun x31 =>
  cond ((decide (i10 ≤ j11)) && x31)
  (some (.inl (aA, IntKind.i64.wrap (i10 + (1 : Int)))))
  (some (.inr (aA, i10)))

noncomputable def jN (aA : List Int) (a1 : Int) (i10 : Int) (j11 : Int) : Option ((List Int × Int × Int) ⊕ ((List Int × Int))) :=
  (lp (fun s => eH a1 j11 s.1 s.2) (aA, i10)).bind (fun rr => gY rr.1 a1 rr.2 j11)

noncomputable def cZ (a1 : Int) (aA : List Int) (i10 : Int) (j11 : Int) : Option ((List Int × Int × Int) ⊕ ((List Int × Int))) :=
  jN aA a1 i10 j11

noncomputable def jQ (aA : List Int) (a1 : Int) (i10 : Int) (j11 : Int) : Option ((Int × Bool) × List Int) :=
  (lp (fun s => cZ a1 s.1 s.2.1 s.2.2) (aA, i10, j11)).bind (fun rr => gZ rr.1 a1 rr.2)

noncomputable def eG (aA : List Int) (a1 : Int) (i10 : Int) (j11 : Int) : Option ((Int × Bool) × List Int) :=
  cond (decide (j11 < i10))
  (aZ (0 ≤ a1 ∧ a1 < ((List.length aA : Nat) : Int)) <|
  aZ (0 ≤ j11 ∧ j11 < ((List.length aA : Nat) : Int)) <|
  aZ (0 ≤ j11 ∧ j11 < ((List.length aA : Nat) : Int)) <|
  aZ (0 ≤ a1 ∧ a1 < ((List.length aA : Nat) : Int)) <|
  some ((j11, true), (List.set (List.set aA (Int.toNat j11) (List.getD aA (Int.toNat a1) default)) (Int.toNat a1) (List.getD aA (Int.toNat j11) default))))
  (aZ (0 ≤ j11 ∧ j11 < ((List.length aA : Nat) : Int)) <|
  aZ (0 ≤ i10 ∧ i10 < ((List.length aA : Nat) : Int)) <|
  aZ (0 ≤ i10 ∧ i10 < ((List.length aA : Nat) : Int)) <|
  aZ (0 ≤ j11 ∧ j11 < ((List.length aA : Nat) : Int)) <|
  jQ (List.set (List.set aA (Int.toNat i10) (List.getD aA (Int.toNat j11) default)) (Int.toNat j11) (List.getD aA (Int.toNat i10) default)) a1 (IntKind.i64.wrap (i10 + (1 : Int))) (IntKind.i64.wrap (j11 - (1 : Int))))

noncomputable def eM (a1 : Int) (i10 : Int) (aA : List Int) (j11 : Int) : Option ((List Int × Int) ⊕ ((List Int × Int))) :=
  aZ ((((decide (i10 ≤ j11))) = true → 0 ≤ j11 ∧ j11 < ((List.length aA : Nat) : Int))) <|
  aZ ((((decide (i10 ≤ j11))) = true → 0 ≤ a1 ∧ a1 < ((List.length aA : Nat) : Int))) <|
  (dF (decide (i10 ≤ j11)) (cW (List.getD aA (Int.toNat j11) default) (List.getD aA (Int.toNat a1) default))).bind fun x37 =>
  cond ((decide (i10 ≤ j11)) && (!x37))
  (some (.inl (aA, IntKind.i64.wrap (j11 - (1 : Int)))))
  (some (.inr (aA, j11)))

noncomputable def jM (aA : List Int) (a1 : Int) (i10 : Int) (j11 : Int) : Option ((Int × Bool) × List Int) :=
  (lp (fun s => eM a1 i10 s.1 s.2) (aA, j11)).bind (fun rr => eG rr.1 a1 i10 rr.2)

noncomputable def hU (aA : List Int) (a1 : Int) (i10 : Int) (j11 : Int) : Option ((Int × Bool) × List Int) :=
  jM aA a1 i10 j11

noncomputable def eB (a1 : Int) (j11 : Int) (aA : List Int) (i10 : Int) : Option ((List Int × Int) ⊕ ((List Int × Int))) :=
  aZ ((((decide (i10 ≤ j11))) = true → 0 ≤ i10 ∧ i10 < ((List.length aA : Nat) : Int))) <|
  aZ ((((decide (i10 ≤ j11))) = true → 0 ≤ a1 ∧ a1 < ((List.length aA : Nat) : Int))) <|
  (dF (decide (i10 ≤ j11)) (cW (List.getD aA (Int.toNat i10) default) (List.getD aA (Int.toNat a1) default))).bind fun x43 =>
  cond ((decide (i10 ≤ j11)) && x43)
  (some (.inl (aA, IntKind.i64.wrap (i10 + (1 : Int)))))
  (some (.inr (aA, i10)))

noncomputable def fD (aA : List Int) (a1 : Int) (i10 : Int) (j11 : Int) : Option ((Int × Bool) × List Int) :=
  (lp (fun s => eB a1 j11 s.1 s.2) (aA, i10)).bind (fun rr => hU rr.1 a1 rr.2 j11)

noncomputable def fU (aA : (List Int)) (a1 : Int) (b2 : Int) (cG : Int) : Option ((Int × Bool) × List Int) :=
  aZ (0 ≤ cG ∧ cG < ((List.length aA : Nat) : Int)) <|
  aZ (0 ≤ a1 ∧ a1 < ((List.length aA : Nat) : Int)) <|
  aZ (0 ≤ a1 ∧ a1 < ((List.length aA : Nat) : Int)) <|
  aZ (0 ≤ cG ∧ cG < ((List.length aA : Nat) : Int)) <|
  fD (List.set (List.set aA (Int.toNat a1) (List.getD aA (Int.toNat cG) default)) (Int.toNat cG) (List.getD aA (Int.toNat a1) default)) a1 (IntKind.i64.wrap (a1 + (1 : Int))) (IntKind.i64.wrap (b2 - (1 : Int)))

noncomputable def gE (rec : (List Int) → Int → Int → Int → Option (List Int)) (aA : List Int) (a1 : Int) (b2 : Int) (bW : Int) (bR : Bool) (bK : Bool) (dM : Int) (fI : Int) : Option ((List Int × Int × Int × Int × Bool × Bool) ⊕ ((List Int))) :=
  aZ ((((decide ((0 : Int) < a1))) = true → 0 ≤ (IntKind.i64.wrap (a1 - (1 : Int))) ∧ (IntKind.i64.wrap (a1 - (1 : Int))) < ((List.length aA : Nat) : Int))) <|
  aZ ((((decide ((0 : Int) < a1))) = true → 0 ≤ fI ∧ fI < ((List.length aA : Nat) : Int))) <|
  (dF (decide ((0 : Int) < a1)) (cW (List.getD aA (Int.toNat (IntKind.i64.wrap (a1 - (1 : Int)))) default) (List.getD aA (Int.toNat fI) default))).bind fun x16 =>
  cond ((decide ((0 : Int) < a1)) && (!x16))
  ((eP aA a1 b2 fI).bind fun x20 =>
  some (.inl (x20.2, x20.1, b2, bW, bR, bK)))
  ((fU aA a1 b2 fI).bind fun x23 =>
  aZ ((8 : Int) ≠ 0) <|
  cond (decide ((IntKind.i64.wrap (x23.1.1 - a1)) < (IntKind.i64.wrap (b2 - x23.1.1))))
  ((rec x23.2 a1 x23.1.1 bW).bind fun x28 =>
  some (.inl (x28, IntKind.i64.wrap (x23.1.1 + (1 : Int)), b2, bW, decide ((IntKind.i64.wrap (Int.tdiv dM (8 : Int))) ≤ (IntKind.i64.wrap (x23.1.1 - a1))), x23.1.2)))
  ((rec x23.2 (IntKind.i64.wrap (x23.1.1 + (1 : Int))) b2 bW).bind fun x31 =>
  some (.inl (x31, a1, x23.1.1, bW, decide ((IntKind.i64.wrap (Int.tdiv dM (8 : Int))) ≤ (IntKind.i64.wrap (b2 - x23.1.1))), x23.1.2))))

noncomputable def gF (rec : (List Int) → Int → Int → Int → Option (List Int)) (aA : List Int) (a1 : Int) (b2 : Int) (bW : Int) (bR : Bool) (bK : Bool) (dM : Int) (fI : Int) (zW : Int) : Option ((List Int × Int × Int × Int × Bool × Bool) ⊕ ((List Int))) :=
  cond ((bR && bK) && (decide (zW = (1 : Int))))
  ((eF aA a1 b2).bind fun x35 =>
  cond x35.1
  (some (.inr x35.2))
  (gE rec x35.2 a1 b2 bW bR bK dM fI))
  (gE rec aA a1 b2 bW bR bK dM fI)

noncomputable def gG (rec : (List Int) → Int → Int → Int → Option (List Int)) (aA : List Int) (a1 : Int) (b2 : Int) (bW : Int) (bR : Bool) (bK : Bool) (dM : Int) : Option ((List Int × Int × Int × Int × Bool × Bool) ⊕ ((List Int))) :=
  (gP aA a1 b2).bind fun x9 =>
  cond (decide (x9.2 = (2 : Int)))
  ((gJ aA a1 b2).bind fun x40 =>
  gF rec x40 a1 b2 bW bR bK dM (IntKind.i64.wrap ((IntKind.i64.wrap (b2 - (1 : Int))) - (IntKind.i64.wrap (x9.1 - a1)))) (1 : Int))
  (gF rec aA a1 b2 bW bR bK dM x9.1 x9.2)

noncomputable def dZ (rec : (List Int) → Int → Int → Int → Option (List Int))  (aA : List Int) (a1 : Int) (b2 : Int) (bW : Int) (bR : Bool) (bK : Bool) : Option ((List Int × Int × Int × Int × Bool × Bool) ⊕ ((List Int))) :=
  cond (decide ((IntKind.i64.wrap (b2 - a1)) ≤ (12 : Int)))
  ((fZ aA a1 b2).bind fun x2 =>
  some (.inr x2))
  (cond (decide (bW = (0 : Int)))
  ((iU aA a1 b2).bind fun x6 =>
  some (.inr x6))
  (cond (!bR)
  ((fX aA a1 b2).bind fun x44 =>
  gG rec x44 a1 b2 (IntKind.i64.wrap (bW - (1 : Int))) bR bK (IntKind.i64.wrap (b2 - a1)))
  (gG rec aA a1 b2 bW bR bK (IntKind.i64.wrap (b2 - a1)))))

noncomputable def kC (rec : (List Int) → Int → Int → Int → Option (List Int)) (aA : List Int) (a1 : Int) (b2 : Int) (bW : Int) (bR : Bool) (bK : Bool) : Option (List Int) :=
  (lp (fun s => dZ rec s.1 s.2.1 s.2.2.1 s.2.2.2.1 s.2.2.2.2.1 s.2.2.2.2.2) (aA, a1, b2, bW, bR, bK)).bind (fun rr => some rr)

noncomputable def fJ (rec : (List Int) → Int → Int → Int → Option (List Int)) (aA : (List Int)) (a1 : Int) (b2 : Int) (bW : Int) : Option (List Int) :=
  kC rec aA a1 b2 bW true true

noncomputable def cX  : Nat → (List Int) → Int → Int → Int → Option (List Int)
  | 0 => fun _ _ _ _ => none
  | k + 1 => fJ (cX k)

noncomputable def iX (aA : (List Int)) (a1 : Int) (b2 : Int) (bW : Int) : Option (List Int) := MO (fun k => cX k aA a1 b2 bW)

noncomputable def jS (x0 : (List Int)) : Option (List Int) :=
  (jL (IntKind.u64.wrap ((List.length x0 : Nat) : Int))).bind fun x1 =>
  (iX x0 (0 : Int) ((List.length x0 : Nat) : Int) x1).bind fun x4 =>
  some x4

noncomputable def uN (out9 : List Int) : Option ((List Int) × Int) :=
  (jS out9).bind fun x16 =>
  some (x16, (0 : Int))

noncomputable def oM (t50 : (List (Int × Int))) (out9 : List Int) (mk : Int) (mv : Int) : Option (List Int) :=
  aZ ((List.length out9 + List.length ([mk])) * 8 ≤ 140737488355328 ∧ List.length out9 + List.length ([mk]) ≤ 9223372036854775807) <|
  some (out9 ++ ([mk]))

noncomputable def uU (t50 : (List (Int × Int))) (out9 : List Int) : Option ((List Int) × Int) :=
  uN out9

noncomputable def vC (out9 : List Int) (t50 : (List (Int × Int))) : Option ((List Int) × Int) :=
  vW t50 (fun q => (oH (fun (s : List Int) (x : Int × Int) => oM t50 s x.1 x.2) out9 q).bind (fun (s : List Int) => uU t50 s))

noncomputable def rU (jO : (List (Int × Int))) : Option ((List Int) × Int) :=
  aZ (0 ≤ ((List.length jO : Nat) : Int) ∧ (8 : Int) * ((List.length jO : Nat) : Int) ≤ 281474976710656 ∧ ((List.length jO : Nat) : Int) ≤ 9223372036854775807) <|
  vC ([] : List Int) jO

noncomputable def pF (cC : Int) (jO : (List (Int × Int))) (t32 : (List aL)) (t33 : Int) (t34 : Int) : Option (((List (Int × Int)) × Int) ⊕ ((List (Int × Int)))) :=
  some (.inl (jO, IntKind.i64.wrap (t34 + (1 : Int))))

noncomputable def mC (cC : Int) (t32 : (List aL)) (t33 : Int) (jO : (List (Int × Int))) (t34 : Int) : Option (((List (Int × Int)) × Int) ⊕ ((List (Int × Int)))) :=
  cond (decide (t34 < t33))
  (aZ (0 ≤ t34 ∧ t34 < ((List.length t32 : Nat) : Int)) <|
  cond (decide (cC < ((List.getD t32 (Int.toNat t34) default).At)))
  (pF cC (pU jO ((List.getD t32 (Int.toNat t34) default).At) (1 : Int)) t32 t33 t34)
  (pF cC jO t32 t33 t34))
  (some (.inr jO))

noncomputable def vG (cC : Int) (jO : (List (Int × Int))) (t32 : (List aL)) (t33 : Int) (t34 : Int) : Option ((List Int) × Int) :=
  (lp (fun s => mC cC t32 t33 s.1 s.2) (jO, t34)).bind (fun rr => rU rr)

noncomputable def oB (l0 : (List aL)) (cC : Int) : Option ((List Int) × Int) :=
  (sS l0).bind fun x1 =>
  cond (!x1)
  (some ([], (2 : Int)))
  ((rP l0).bind fun x5 =>
  cond (!x5)
  (some ([], (20 : Int)))
  (cond ((decide (cC < (0 : Int))) || (decide ((1125899906842624 : Int) < cC)))
  (some ([], (13 : Int)))
  (cond (decide (cC = (1125899906842624 : Int)))
  (some ([], (0 : Int)))
  (vG cC (pU ([] : (List (Int × Int))) cC (1 : Int)) l0 ((List.length l0 : Nat) : Int) (0 : Int)))))

noncomputable def tT (l0 : (List aL)) : Option ((List aL)) :=
  some l0

noncomputable def kA {σ : Type} (fY : σ → (List aB) → (List aI) → Option (σ × Bool)) (t9c0 : (List aL)) (sg : σ) (t10 : (List aB)) (t11 : (List aI)) : Option ((σ) ⊕ (σ)) :=
  (fY sg t10 t11).bind fun x7 =>
  cond (!x7.2)
  (some (.inr x7.1))
  (some (.inl x7.1))

noncomputable def nV {σ : Type} (fY : σ → (List aB) → (List aI) → Option (σ × Bool)) (sg : σ) (t9c0 : (List aL)) : Option σ :=
  (mI (fun st t10 t11 => rnd (fun (s : σ) => kA fY t9c0 s t10 t11) st) t9c0 (.inl sg)).bind (Sum.elim (fun (s : σ) =>
  (some s))
  (fun (s : σ) =>
  (some s)))

noncomputable def mP {σ : Type} (fY : σ → (List aB) → (List aI) → Option (σ × Bool)) (t1 : (List aL)) (sg0 : σ) : Option σ :=
  (sS t1).bind fun x1 =>
  cond (!x1)
  (some sg0)
  ((qT t1).bind fun x5 =>
  nV fY sg0 x5)

noncomputable def sV (v5 : Int) : Option Int :=
  some v5

noncomputable def lY (t1 : Int) (t11 : (List aI)) (t12 : Int) (v5 : Int) (t13 : Int) : Option ((Int × Int) ⊕ (Int)) :=
  cond (decide (t13 < t12))
  (aZ (0 ≤ t13 ∧ t13 < ((List.length t11 : Nat) : Int)) <|
  cond (decide (t1 < ((List.getD t11 (Int.toNat t13) default).At)))
  (some (.inr v5))
  (some (.inl (IntKind.i64.wrap (v5 + ((List.getD t11 (Int.toNat t13) default).Net)), IntKind.i64.wrap (t13 + (1 : Int))))))
  (some (.inr v5))

noncomputable def xB (t1 : Int) (v5 : Int) (t11 : (List aI)) (t12 : Int) (t13 : Int) : Option Int :=
  (lp (fun s => lY t1 t11 t12 s.1 s.2) (v5, t13)).bind (fun rr => sV rr)

noncomputable def wK (f0 : (List aI)) (t1 : Int) : Option Int :=
  (mY f0).bind fun x1 =>
  cond (!x1)
  (some (0 : Int))
  (xB t1 (0 : Int) f0 ((List.length f0 : Nat) : Int) (0 : Int))

noncomputable def gK (s0 : (List aB)) : Option (List aB) :=
  aZ (List.length s0 * 32 ≤ 140737488355328 ∧ List.length s0 ≤ 9223372036854775807) <|
  some s0

noncomputable def rK (out4 : List dB) : Option (List dB) :=
  some out4

noncomputable def mF (t0 : Int) (out4 : List dB) (t9 : (List bU)) (t10 : Int) (t11 : Int) : Option ((List dB × Int) ⊕ ((List dB))) :=
  some (.inl (out4, IntKind.i64.wrap (t11 + (1 : Int))))

noncomputable def kZ (t0 : Int) (t9 : (List bU)) (t10 : Int) (out4 : List dB) (t11 : Int) : Option ((List dB × Int) ⊕ ((List dB))) :=
  cond (decide (t11 < t10))
  (aZ (0 ≤ t11 ∧ t11 < ((List.length t9 : Nat) : Int)) <|
  (wK ((List.getD t9 (Int.toNat t11) default).jumps) t0).bind fun x9 =>
  cond (decide ((0 : Int) < x9))
  ((gK ((List.getD t9 (Int.toNat t11) default).row)).bind fun x16 =>
  aZ ((List.length out4 + List.length ([dB.mk x16 x9])) * 32 ≤ 140737488355328 ∧ List.length out4 + List.length ([dB.mk x16 x9]) ≤ 9223372036854775807) <|
  mF t0 (out4 ++ ([dB.mk x16 x9])) t9 t10 t11)
  (mF t0 out4 t9 t10 t11))
  (some (.inr out4))

noncomputable def rH (t0 : Int) (out4 : List dB) (t9 : (List bU)) (t10 : Int) (t11 : Int) : Option (List dB) :=
  (lp (fun s => kZ t0 t9 t10 s.1 s.2) (out4, t11)).bind (fun rr => rK rr)

noncomputable def pG (t0 : Int) (t1 : (List bU)) : Option (List dB) :=
  rH t0 ([] : List dB) t1 ((List.length t1 : Nat) : Int) (0 : Int)

noncomputable def lJ (dX : (List Int)) (sI : (List aL)) (all8 : List bU) (t29 : (List aB)) (t30 : (List aI)) : Option ((List bU) ⊕ (List bU)) :=
  aZ ((List.length all8 + List.length ([bU.mk t29 t30])) * 48 ≤ 140737488355328 ∧ List.length all8 + List.length ([bU.mk t29 t30]) ≤ 9223372036854775807) <|
  some (.inl (all8 ++ ([bU.mk t29 t30])))

noncomputable def tS (dV : List cM) : Option ((List cM) × Int) :=
  some (dV, (0 : Int))

noncomputable def qO (dX : (List Int)) (fH : (List bU)) (dV : List cM) (t39 : (List Int)) (t40 : Int) (t41 : Int) : Option ((List cM × Int) ⊕ ((List cM) ⊕ ((List cM) × Int))) :=
  some (.inl (dV, IntKind.i64.wrap (t41 + (1 : Int))))

noncomputable def qF (dX : (List Int)) (fH : (List bU)) (dV : List cM) (t14 : Int) (pI : (List dB)) (uQ : Int) (t39 : (List Int)) (t40 : Int) (t41 : Int) : Option ((List cM × Int) ⊕ ((List cM) ⊕ ((List cM) × Int))) :=
  aZ ((List.length dV + List.length ([cM.mk (jK.mk t14 uQ) pI])) * 40 ≤ 140737488355328 ∧ List.length dV + List.length ([cM.mk (jK.mk t14 uQ) pI]) ≤ 9223372036854775807) <|
  qO dX fH (dV ++ ([cM.mk (jK.mk t14 uQ) pI])) t39 t40 t41

noncomputable def lM (dX : (List Int)) (fH : (List bU)) (t39 : (List Int)) (t40 : Int) (dV : List cM) (t41 : Int) : Option ((List cM × Int) ⊕ ((List cM) ⊕ ((List cM) × Int))) :=
  cond (decide (t41 < t40))
  (aZ (0 ≤ t41 ∧ t41 < ((List.length t39 : Nat) : Int)) <|
  (pG (List.getD t39 (Int.toNat t41) default) fH).bind fun x20 =>
  cond (decide (((List.length x20 : Nat) : Int) = (0 : Int)))
  (qO dX fH dV t39 t40 t41)
  (cond (decide (((List.length dV : Nat) : Int) = (1024 : Int)))
  (some (.inr (.inr ([], (7 : Int)))))
  (cond (decide ((IntKind.i64.wrap (t41 + (1 : Int))) < ((List.length dX : Nat) : Int)))
  (aZ (0 ≤ (IntKind.i64.wrap (t41 + (1 : Int))) ∧ (IntKind.i64.wrap (t41 + (1 : Int))) < ((List.length dX : Nat) : Int)) <|
  qF dX fH dV (List.getD t39 (Int.toNat t41) default) x20 (List.getD dX (Int.toNat (IntKind.i64.wrap (t41 + (1 : Int)))) default) t39 t40 t41)
  (qF dX fH dV (List.getD t39 (Int.toNat t41) default) x20 (1125899906842624 : Int) t39 t40 t41))))
  (some (.inr (.inl dV)))

noncomputable def qB (dX : (List Int)) (fH : (List bU)) (dV : List cM) (t39 : (List Int)) (t40 : Int) (t41 : Int) : Option ((List cM) × Int) :=
  (lp (fun s => lM dX fH t39 t40 s.1 s.2) (dV, t41)).bind (Sum.elim (fun rr => tS rr) (fun rr => some (rr.1, rr.2)))

noncomputable def tQ (dX : (List Int)) (all8 : List bU) (sI : (List aL)) : Option ((List cM) × Int) :=
  (mP (fun st t29 t30 => rnd (fun (s : List bU) => lJ dX sI s t29 t30) st) sI (.inl all8)).bind (Sum.elim (fun (s : List bU) =>
  (qB dX s ([] : List cM) dX ((List.length dX : Nat) : Int) (0 : Int)))
  (fun (s : List bU) =>
  (none)))

noncomputable def rN (l0 : (List aL)) (cC : Int) : Option ((List cM) × Int) :=
  (oB l0 cC).bind fun x1 =>
  cond (!decide (x1.2 = (0 : Int)))
  (some ([], x1.2))
  ((tT l0).bind fun x7 =>
  tQ x1.1 ([] : List bU) x7)

noncomputable def oX  : Option Bool :=
  (oB ([aL.mk ([aB.mk (1 : Int) (1 : Int) ByteArray.empty]) (2 : Int) (1 : Int), aL.mk ([aB.mk (1 : Int) (1 : Int) ByteArray.empty]) (9 : Int) (-1 : Int), aL.mk ([aB.mk (1 : Int) (2 : Int) ByteArray.empty]) (5 : Int) (1 : Int), aL.mk ([aB.mk (1 : Int) (2 : Int) ByteArray.empty]) (7 : Int) (-1 : Int)]) (0 : Int)).bind fun x1 =>
  (rN ([aL.mk ([aB.mk (1 : Int) (1 : Int) ByteArray.empty]) (2 : Int) (1 : Int), aL.mk ([aB.mk (1 : Int) (1 : Int) ByteArray.empty]) (9 : Int) (-1 : Int), aL.mk ([aB.mk (1 : Int) (2 : Int) ByteArray.empty]) (5 : Int) (1 : Int), aL.mk ([aB.mk (1 : Int) (2 : Int) ByteArray.empty]) (7 : Int) (-1 : Int)]) (0 : Int)).bind fun x4 =>
  aZ ((((((decide (x1.2 = (0 : Int))) && (decide (x4.2 = (0 : Int)))) && (decide (((List.length x1.1 : Nat) : Int) = (5 : Int))))) = true → 0 ≤ (2 : Int) ∧ (2 : Int) < ((List.length x1.1 : Nat) : Int))) <|
  aZ ((((((((decide (x1.2 = (0 : Int))) && (decide (x4.2 = (0 : Int)))) && (decide (((List.length x1.1 : Nat) : Int) = (5 : Int)))) && (decide ((List.getD x1.1 (Int.toNat (2 : Int)) default) = (5 : Int)))) && (decide (((List.length x4.1 : Nat) : Int) = (3 : Int))))) = true → 0 ≤ (1 : Int) ∧ (1 : Int) < ((List.length x4.1 : Nat) : Int))) <|
  aZ (((((((((decide (x1.2 = (0 : Int))) && (decide (x4.2 = (0 : Int)))) && (decide (((List.length x1.1 : Nat) : Int) = (5 : Int)))) && (decide ((List.getD x1.1 (Int.toNat (2 : Int)) default) = (5 : Int)))) && (decide (((List.length x4.1 : Nat) : Int) = (3 : Int)))) && ((decide ((((List.getD x4.1 (Int.toNat (1 : Int)) default).Span).From) = ((jK.mk (5 : Int) (7 : Int)).From))) && ((decide ((((List.getD x4.1 (Int.toNat (1 : Int)) default).Span).To) = ((jK.mk (5 : Int) (7 : Int)).To))) && true)))) = true → 0 ≤ (1 : Int) ∧ (1 : Int) < ((List.length x4.1 : Nat) : Int))) <|
  some (((((((decide (x1.2 = (0 : Int))) && (decide (x4.2 = (0 : Int)))) && (decide (((List.length x1.1 : Nat) : Int) = (5 : Int)))) && (decide ((List.getD x1.1 (Int.toNat (2 : Int)) default) = (5 : Int)))) && (decide (((List.length x4.1 : Nat) : Int) = (3 : Int)))) && ((decide ((((List.getD x4.1 (Int.toNat (1 : Int)) default).Span).From) = ((jK.mk (5 : Int) (7 : Int)).From))) && ((decide ((((List.getD x4.1 (Int.toNat (1 : Int)) default).Span).To) = ((jK.mk (5 : Int) (7 : Int)).To))) && true))) && (decide (((List.length ((List.getD x4.1 (Int.toNat (1 : Int)) default).Rows) : Nat) : Int) = (2 : Int))))

noncomputable def oD (v0 : aB) : Option Bool :=
  cond (decide (v0.Kind = (1 : Int)))
  (some (lX v0.Text (⟨#[]⟩ : ByteArray)))
  (some (((decide (v0.Kind = (2 : Int))) && (decide (v0.Num = (0 : Int)))) && (decide (((ByteArray.size v0.Text : Nat) : Int) ≤ (64 : Int)))))

noncomputable def oW (r0 : (List aB)) : Option Bool :=
  some (decide (((List.length r0 : Nat) : Int) ≤ (8 : Int)))

noncomputable def nJ (r0 : (List aB)) (i3 : Int) : Option ((Int) ⊕ (Unit ⊕ Bool)) :=
  cond ((decide (i3 < ((List.length r0 : Nat) : Int))) && (decide (i3 < (9 : Int))))
  (aZ (0 ≤ i3 ∧ i3 < ((List.length r0 : Nat) : Int)) <|
  (oD (List.getD r0 (Int.toNat i3) default)).bind fun x3 =>
  cond (!x3)
  (some (.inr (.inr false)))
  (some (.inl (IntKind.i64.wrap (i3 + (1 : Int))))))
  (some (.inr (.inl ())))

noncomputable def vA (r0 : (List aB)) (i3 : Int) : Option Bool :=
  (lp (fun s => nJ r0 s) i3).bind (Sum.elim (fun rr => oW r0) (fun rr => some rr))

noncomputable def oG (r0 : (List aB)) : Option Bool :=
  vA r0 (0 : Int)

noncomputable def rY  : Option Bool :=
  some true

noncomputable def kK (f0 : (List aI)) (i3 : Int) : Option ((Int) ⊕ (Unit ⊕ Bool)) :=
  cond (decide (i3 < ((List.length f0 : Nat) : Int)))
  (aZ (0 ≤ i3 ∧ i3 < ((List.length f0 : Nat) : Int)) <|
  aZ ((((!(decide (((List.getD f0 (Int.toNat i3) default).At) < (-1 : Int))))) = true → 0 ≤ i3 ∧ i3 < ((List.length f0 : Nat) : Int))) <|
  aZ ((((!((decide (((List.getD f0 (Int.toNat i3) default).At) < (-1 : Int))) || (decide ((1125899906842624 : Int) ≤ ((List.getD f0 (Int.toNat i3) default).At)))))) = true → 0 ≤ i3 ∧ i3 < ((List.length f0 : Nat) : Int))) <|
  aZ ((((!(((decide (((List.getD f0 (Int.toNat i3) default).At) < (-1 : Int))) || (decide ((1125899906842624 : Int) ≤ ((List.getD f0 (Int.toNat i3) default).At)))) || (decide (((List.getD f0 (Int.toNat i3) default).Net) = (0 : Int)))))) = true → 0 ≤ i3 ∧ i3 < ((List.length f0 : Nat) : Int))) <|
  aZ ((((!((((decide (((List.getD f0 (Int.toNat i3) default).At) < (-1 : Int))) || (decide ((1125899906842624 : Int) ≤ ((List.getD f0 (Int.toNat i3) default).At)))) || (decide (((List.getD f0 (Int.toNat i3) default).Net) = (0 : Int)))) || (decide ((1048576 : Int) < ((List.getD f0 (Int.toNat i3) default).Net)))))) = true → 0 ≤ i3 ∧ i3 < ((List.length f0 : Nat) : Int))) <|
  cond (((((decide (((List.getD f0 (Int.toNat i3) default).At) < (-1 : Int))) || (decide ((1125899906842624 : Int) ≤ ((List.getD f0 (Int.toNat i3) default).At)))) || (decide (((List.getD f0 (Int.toNat i3) default).Net) = (0 : Int)))) || (decide ((1048576 : Int) < ((List.getD f0 (Int.toNat i3) default).Net)))) || (decide (((List.getD f0 (Int.toNat i3) default).Net) < (-1048576 : Int))))
  (some (.inr (.inr false)))
  (aZ ((((decide ((0 : Int) < i3))) = true → 0 ≤ i3 ∧ i3 < ((List.length f0 : Nat) : Int))) <|
  aZ ((((decide ((0 : Int) < i3))) = true → 0 ≤ (IntKind.i64.wrap (i3 - (1 : Int))) ∧ (IntKind.i64.wrap (i3 - (1 : Int))) < ((List.length f0 : Nat) : Int))) <|
  cond ((decide ((0 : Int) < i3)) && (decide (((List.getD f0 (Int.toNat i3) default).At) ≤ ((List.getD f0 (Int.toNat (IntKind.i64.wrap (i3 - (1 : Int)))) default).At))))
  (some (.inr (.inr false)))
  (some (.inl (IntKind.i64.wrap (i3 + (1 : Int)))))))
  (some (.inr (.inl ())))

noncomputable def uR (f0 : (List aI)) (i3 : Int) : Option Bool :=
  (lp (fun s => kK f0 s) i3).bind (Sum.elim (fun rr => rY ) (fun rr => some rr))

noncomputable def oC (f0 : (List aI)) : Option Bool :=
  cond (decide ((1024 : Int) < ((List.length f0 : Nat) : Int)))
  (some false)
  (uR f0 (0 : Int))

noncomputable def nH (a2 : aB) (b3 : aB) : Option Int :=
  cond (!decide (((ByteArray.size a2.Text : Nat) : Int) = ((ByteArray.size b3.Text : Nat) : Int)))
  (cond (decide (((ByteArray.size a2.Text : Nat) : Int) < ((ByteArray.size b3.Text : Nat) : Int)))
  (some (-1 : Int))
  (some (1 : Int)))
  (some (0 : Int))

noncomputable def iA (a2 : aB) (b3 : aB) (i5 : Int) : Option ((Int) ⊕ (Unit ⊕ Int)) :=
  cond ((decide (i5 < ((ByteArray.size a2.Text : Nat) : Int))) && (decide (i5 < ((ByteArray.size b3.Text : Nat) : Int))))
  (aZ (0 ≤ i5 ∧ i5 < ((ByteArray.size a2.Text : Nat) : Int)) <|
  aZ (0 ≤ i5 ∧ i5 < ((ByteArray.size b3.Text : Nat) : Int)) <|
  cond (!decide ((bt a2.Text i5) = (bt b3.Text i5)))
  (aZ (0 ≤ i5 ∧ i5 < ((ByteArray.size a2.Text : Nat) : Int)) <|
  aZ (0 ≤ i5 ∧ i5 < ((ByteArray.size b3.Text : Nat) : Int)) <|
  cond (decide ((bt a2.Text i5) < (bt b3.Text i5)))
  (some (.inr (.inr (-1 : Int))))
  (some (.inr (.inr (1 : Int)))))
  (some (.inl (IntKind.i64.wrap (i5 + (1 : Int))))))
  (some (.inr (.inl ())))

noncomputable def pM (a2 : aB) (b3 : aB) (i5 : Int) : Option Int :=
  (lp (fun s => iA a2 b3 s) i5).bind (Sum.elim (fun rr => nH a2 b3) (fun rr => some rr))

noncomputable def nW (a0 : aB) (b1 : aB) : Option Int :=
  (oD a0).bind fun x1 =>
  (dF (!(!x1)) (oD b1)).bind fun x4 =>
  cond ((!x1) || (!x4))
  (some (0 : Int))
  (cond (!decide (a0.Kind = b1.Kind))
  (cond (decide (a0.Kind = (1 : Int)))
  (some (-1 : Int))
  (some (1 : Int)))
  (cond (!decide (a0.Num = b1.Num))
  (cond (decide (a0.Num < b1.Num))
  (some (-1 : Int))
  (some (1 : Int)))
  (pM a0 b1 (0 : Int))))

noncomputable def nF (a0 : (List aB)) (b1 : (List aB)) : Option Int :=
  cond (decide (((List.length a0 : Nat) : Int) < ((List.length b1 : Nat) : Int)))
  (some (-1 : Int))
  (cond (decide (((List.length b1 : Nat) : Int) < ((List.length a0 : Nat) : Int)))
  (some (1 : Int))
  (some (0 : Int)))

noncomputable def iF (a0 : (List aB)) (b1 : (List aB)) (i5 : Int) : Option ((Int) ⊕ (Unit ⊕ Int)) :=
  cond ((decide (i5 < ((List.length a0 : Nat) : Int))) && (decide (i5 < ((List.length b1 : Nat) : Int))))
  (aZ (0 ≤ i5 ∧ i5 < ((List.length a0 : Nat) : Int)) <|
  aZ (0 ≤ i5 ∧ i5 < ((List.length b1 : Nat) : Int)) <|
  (nW (List.getD a0 (Int.toNat i5) default) (List.getD b1 (Int.toNat i5) default)).bind fun x13 =>
  cond (!decide (x13 = (0 : Int)))
  (some (.inr (.inr x13)))
  (some (.inl (IntKind.i64.wrap (i5 + (1 : Int))))))
  (some (.inr (.inl ())))

noncomputable def pP (a0 : (List aB)) (b1 : (List aB)) (i5 : Int) : Option Int :=
  (lp (fun s => iF a0 b1 s) i5).bind (Sum.elim (fun rr => nF a0 b1) (fun rr => some rr))

noncomputable def mE (a0 : (List aB)) (b1 : (List aB)) : Option Int :=
  (oG a0).bind fun x1 =>
  (dF (!(!x1)) (oG b1)).bind fun x4 =>
  cond ((!x1) || (!x4))
  (some (0 : Int))
  (pP a0 b1 (0 : Int))

noncomputable def qE  : Option Bool :=
  some true

noncomputable def nR (a0 : (List aB)) (b1 : (List aB)) (i5 : Int) : Option ((Int) ⊕ (Unit ⊕ Bool)) :=
  cond (decide (i5 < ((List.length a0 : Nat) : Int)))
  (aZ (0 ≤ i5 ∧ i5 < ((List.length a0 : Nat) : Int)) <|
  aZ (0 ≤ i5 ∧ i5 < ((List.length b1 : Nat) : Int)) <|
  cond (!((decide (((List.getD a0 (Int.toNat i5) default).Kind) = ((List.getD b1 (Int.toNat i5) default).Kind))) && ((decide (((List.getD a0 (Int.toNat i5) default).Num) = ((List.getD b1 (Int.toNat i5) default).Num))) && ((lX ((List.getD a0 (Int.toNat i5) default).Text) ((List.getD b1 (Int.toNat i5) default).Text)) && true))))
  (some (.inr (.inr false)))
  (some (.inl (IntKind.i64.wrap (i5 + (1 : Int))))))
  (some (.inr (.inl ())))

noncomputable def uA (a0 : (List aB)) (b1 : (List aB)) (i5 : Int) : Option Bool :=
  (lp (fun s => nR a0 b1 s) i5).bind (Sum.elim (fun rr => qE ) (fun rr => some rr))

noncomputable def oP (a0 : (List aB)) (b1 : (List aB)) : Option Bool :=
  cond (!decide (((List.length a0 : Nat) : Int) = ((List.length b1 : Nat) : Int)))
  (some false)
  (uA a0 b1 (0 : Int))

noncomputable def tN (bC : List (List aB)) : Option (List (List aB)) :=
  some bC

noncomputable def qI (l0 : (List aL)) (bC : List (List aB)) (i4 : Int) : Option ((List (List aB) × Int) ⊕ ((List (List aB)))) :=
  some (.inl (bC, IntKind.i64.wrap (i4 + (1 : Int))))

noncomputable def qN (l0 : (List aL)) (bC : List (List aB)) (i4 : Int) (at5 : Int) : Option ((List (List aB) × Int) ⊕ ((List (List aB)))) :=
  aZ ((((decide (at5 < ((List.length bC : Nat) : Int)))) = true → 0 ≤ at5 ∧ at5 < ((List.length bC : Nat) : Int))) <|
  aZ ((((decide (at5 < ((List.length bC : Nat) : Int)))) = true → 0 ≤ i4 ∧ i4 < ((List.length l0 : Nat) : Int))) <|
  (dF (decide (at5 < ((List.length bC : Nat) : Int))) (oP (List.getD bC (Int.toNat at5) default) ((List.getD l0 (Int.toNat i4) default).Row))).bind fun x10 =>
  cond ((decide (at5 < ((List.length bC : Nat) : Int))) && x10)
  (qI l0 bC i4)
  (aZ (0 ≤ at5 ∧ at5 ≤ ((List.length bC : Nat) : Int)) <|
  aZ (List.length (List.take (Int.toNat at5) bC) * 24 ≤ 140737488355328 ∧ List.length (List.take (Int.toNat at5) bC) ≤ 9223372036854775807) <|
  aZ (0 ≤ i4 ∧ i4 < ((List.length l0 : Nat) : Int)) <|
  aZ ((List.length (List.take (Int.toNat at5) bC) + List.length ([(List.getD l0 (Int.toNat i4) default).Row])) * 24 ≤ 140737488355328 ∧ List.length (List.take (Int.toNat at5) bC) + List.length ([(List.getD l0 (Int.toNat i4) default).Row]) ≤ 9223372036854775807) <|
  aZ (0 ≤ at5 ∧ at5 ≤ ((List.length bC : Nat) : Int)) <|
  aZ ((List.length ((List.take (Int.toNat at5) bC) ++ ([(List.getD l0 (Int.toNat i4) default).Row])) + List.length (List.drop (Int.toNat at5) bC)) * 24 ≤ 140737488355328 ∧ List.length ((List.take (Int.toNat at5) bC) ++ ([(List.getD l0 (Int.toNat i4) default).Row])) + List.length (List.drop (Int.toNat at5) bC) ≤ 9223372036854775807) <|
  qI l0 (((List.take (Int.toNat at5) bC) ++ ([(List.getD l0 (Int.toNat i4) default).Row])) ++ (List.drop (Int.toNat at5) bC)) i4)

noncomputable def kM (l0 : (List aL)) (i4 : Int) (bC : List (List aB)) (at5 : Int) : Option ((List (List aB) × Int) ⊕ ((List (List aB) × Int))) :=
  aZ ((((decide (at5 < ((List.length bC : Nat) : Int)))) = true → 0 ≤ at5 ∧ at5 < ((List.length bC : Nat) : Int))) <|
  aZ ((((decide (at5 < ((List.length bC : Nat) : Int)))) = true → 0 ≤ i4 ∧ i4 < ((List.length l0 : Nat) : Int))) <|
  (dF (decide (at5 < ((List.length bC : Nat) : Int))) (mE (List.getD bC (Int.toNat at5) default) ((List.getD l0 (Int.toNat i4) default).Row))).bind fun x27 =>
  cond ((decide (at5 < ((List.length bC : Nat) : Int))) && (decide (x27 < (0 : Int))))
  (some (.inl (bC, IntKind.i64.wrap (at5 + (1 : Int)))))
  (some (.inr (bC, at5)))

noncomputable def tU (l0 : (List aL)) (bC : List (List aB)) (i4 : Int) (at5 : Int) : Option ((List (List aB) × Int) ⊕ ((List (List aB)))) :=
  (lp (fun s => kM l0 i4 s.1 s.2) (bC, at5)).bind (fun rr => qN l0 rr.1 i4 rr.2)

noncomputable def lH (l0 : (List aL)) (bC : List (List aB)) (i4 : Int) : Option ((List (List aB) × Int) ⊕ ((List (List aB)))) :=
  cond (decide (i4 < ((List.length l0 : Nat) : Int)))
  (tU l0 bC i4 (0 : Int))
  (some (.inr bC))

noncomputable def tY (l0 : (List aL)) (bC : List (List aB)) (i4 : Int) : Option (List (List aB)) :=
  (lp (fun s => lH l0 s.1 s.2) (bC, i4)).bind (fun rr => tN rr)

noncomputable def oT (l0 : (List aL)) : Option (List (List aB)) :=
  tY l0 ([] : List (List aB)) (0 : Int)

noncomputable def sW (f5 : List aI) : Option (List aI) :=
  some f5

noncomputable def pJ (l0 : (List aL)) (r1 : (List aB)) (f5 : List aI) (i6 : Int) : Option ((List aI × Int) ⊕ ((List aI))) :=
  some (.inl (f5, IntKind.i64.wrap (i6 + (1 : Int))))

noncomputable def kS (l0 : (List aL)) (r1 : (List aB)) (f5 : List aI) (i6 : Int) : Option ((List aI × Int) ⊕ ((List aI))) :=
  cond (decide (i6 < ((List.length l0 : Nat) : Int)))
  (aZ (0 ≤ i6 ∧ i6 < ((List.length l0 : Nat) : Int)) <|
  (oP ((List.getD l0 (Int.toNat i6) default).Row) r1).bind fun x8 =>
  cond x8
  (aZ (0 ≤ i6 ∧ i6 < ((List.length l0 : Nat) : Int)) <|
  aZ (0 ≤ i6 ∧ i6 < ((List.length l0 : Nat) : Int)) <|
  aZ ((List.length f5 + List.length ([aI.mk ((List.getD l0 (Int.toNat i6) default).At) ((List.getD l0 (Int.toNat i6) default).Net)])) * 16 ≤ 140737488355328 ∧ List.length f5 + List.length ([aI.mk ((List.getD l0 (Int.toNat i6) default).At) ((List.getD l0 (Int.toNat i6) default).Net)]) ≤ 9223372036854775807) <|
  pJ l0 r1 (f5 ++ ([aI.mk ((List.getD l0 (Int.toNat i6) default).At) ((List.getD l0 (Int.toNat i6) default).Net)])) i6)
  (pJ l0 r1 f5 i6))
  (some (.inr f5))

noncomputable def sP (l0 : (List aL)) (r1 : (List aB)) (f5 : List aI) (i6 : Int) : Option (List aI) :=
  (lp (fun s => kS l0 r1 s.1 s.2) (f5, i6)).bind (fun rr => sW rr)

noncomputable def nP (l0 : (List aL)) (r1 : (List aB)) : Option (List aI) :=
  sP l0 r1 ([] : List aI) (0 : Int)

noncomputable def vH  : Option Bool :=
  some true

noncomputable def nG (l0 : (List aL)) (oL : (List (List aB))) (i6 : Int) : Option ((Int) ⊕ (Unit ⊕ Bool)) :=
  cond (decide (i6 < ((List.length oL : Nat) : Int)))
  (aZ (0 ≤ i6 ∧ i6 < ((List.length oL : Nat) : Int)) <|
  (nP l0 (List.getD oL (Int.toNat i6) default)).bind fun x7 =>
  cond (decide ((1024 : Int) < ((List.length x7 : Nat) : Int)))
  (some (.inr (.inr false)))
  (some (.inl (IntKind.i64.wrap (i6 + (1 : Int))))))
  (some (.inr (.inl ())))

noncomputable def uW (l0 : (List aL)) (oL : (List (List aB))) (i6 : Int) : Option Bool :=
  (lp (fun s => nG l0 oL s) i6).bind (Sum.elim (fun rr => vH ) (fun rr => some rr))

noncomputable def rZ (l0 : (List aL)) : Option Bool :=
  (oT l0).bind fun x2 =>
  uW l0 x2 (0 : Int)

noncomputable def oY (l0 : (List aL)) (i3 : Int) : Option ((Int) ⊕ (Unit ⊕ Bool)) :=
  some (.inl (IntKind.i64.wrap (i3 + (1 : Int))))

noncomputable def mD (l0 : (List aL)) (i3 : Int) : Option ((Int) ⊕ (Unit ⊕ Bool)) :=
  cond (decide (i3 < ((List.length l0 : Nat) : Int)))
  (aZ (0 ≤ i3 ∧ i3 < ((List.length l0 : Nat) : Int)) <|
  (oG ((List.getD l0 (Int.toNat i3) default).Row)).bind fun x13 =>
  aZ ((((!(!x13))) = true → 0 ≤ i3 ∧ i3 < ((List.length l0 : Nat) : Int))) <|
  aZ ((((!(!x13))) = true → 0 ≤ i3 ∧ i3 < ((List.length l0 : Nat) : Int))) <|
  (dF (!(!x13)) (oC ([aI.mk ((List.getD l0 (Int.toNat i3) default).At) ((List.getD l0 (Int.toNat i3) default).Net)]))).bind fun x17 =>
  cond ((!x13) || (!x17))
  (some (.inr (.inr false)))
  (cond (decide (i3 = (0 : Int)))
  (oY l0 i3)
  (aZ (0 ≤ (IntKind.i64.wrap (i3 - (1 : Int))) ∧ (IntKind.i64.wrap (i3 - (1 : Int))) < ((List.length l0 : Nat) : Int)) <|
  aZ (0 ≤ i3 ∧ i3 < ((List.length l0 : Nat) : Int)) <|
  (mE ((List.getD l0 (Int.toNat (IntKind.i64.wrap (i3 - (1 : Int)))) default).Row) ((List.getD l0 (Int.toNat i3) default).Row)).bind fun x24 =>
  aZ ((((decide (x24 = (0 : Int))) && (!(decide ((0 : Int) < x24)))) = true → 0 ≤ (IntKind.i64.wrap (i3 - (1 : Int))) ∧ (IntKind.i64.wrap (i3 - (1 : Int))) < ((List.length l0 : Nat) : Int))) <|
  aZ ((((decide (x24 = (0 : Int))) && (!(decide ((0 : Int) < x24)))) = true → 0 ≤ i3 ∧ i3 < ((List.length l0 : Nat) : Int))) <|
  cond ((decide ((0 : Int) < x24)) || ((decide (x24 = (0 : Int))) && (decide (((List.getD l0 (Int.toNat i3) default).At) ≤ ((List.getD l0 (Int.toNat (IntKind.i64.wrap (i3 - (1 : Int)))) default).At)))))
  (some (.inr (.inr false)))
  (oY l0 i3))))
  (some (.inr (.inl ())))

noncomputable def uL (l0 : (List aL)) (i3 : Int) : Option Bool :=
  (lp (fun s => mD l0 s) i3).bind (Sum.elim (fun rr => rZ l0) (fun rr => some rr))

noncomputable def qY (l0 : (List aL)) : Option Bool :=
  cond (decide ((4096 : Int) < ((List.length l0 : Nat) : Int)))
  (some false)
  (uL l0 (0 : Int))

noncomputable def oS (v5 : Int) : Option Int :=
  some v5

noncomputable def nB (f0 : (List aI)) (t1 : Int) (v5 : Int) (i6 : Int) : Option ((Int × Int) ⊕ (Int)) :=
  some (.inl (v5, IntKind.i64.wrap (i6 + (1 : Int))))

noncomputable def jF (f0 : (List aI)) (t1 : Int) (v5 : Int) (i6 : Int) : Option ((Int × Int) ⊕ (Int)) :=
  cond (decide (i6 < ((List.length f0 : Nat) : Int)))
  (aZ (0 ≤ i6 ∧ i6 < ((List.length f0 : Nat) : Int)) <|
  cond (decide (((List.getD f0 (Int.toNat i6) default).At) ≤ t1))
  (aZ (0 ≤ i6 ∧ i6 < ((List.length f0 : Nat) : Int)) <|
  nB f0 t1 (IntKind.i64.wrap (v5 + ((List.getD f0 (Int.toNat i6) default).Net))) i6)
  (nB f0 t1 v5 i6))
  (some (.inr v5))

noncomputable def sN (f0 : (List aI)) (t1 : Int) (v5 : Int) (i6 : Int) : Option Int :=
  (lp (fun s => jF f0 t1 s.1 s.2) (v5, i6)).bind (fun rr => oS rr)

noncomputable def lG (f0 : (List aI)) (t1 : Int) : Option Int :=
  sN f0 t1 (0 : Int) (0 : Int)

noncomputable def pE (m3 : Int) : Option Int :=
  some m3

noncomputable def oU (f0 : (List aI)) (m3 : Int) (i4 : Int) : Option ((Int × Int) ⊕ (Int)) :=
  some (.inl (m3, IntKind.i64.wrap (i4 + (1 : Int))))

noncomputable def kT (f0 : (List aI)) (m3 : Int) (i4 : Int) : Option ((Int × Int) ⊕ (Int)) :=
  cond (decide (i4 < ((List.length f0 : Nat) : Int)))
  (aZ (0 ≤ i4 ∧ i4 < ((List.length f0 : Nat) : Int)) <|
  (lG f0 ((List.getD f0 (Int.toNat i4) default).At)).bind fun x10 =>
  cond (decide (x10 < m3))
  (aZ (0 ≤ i4 ∧ i4 < ((List.length f0 : Nat) : Int)) <|
  (lG f0 ((List.getD f0 (Int.toNat i4) default).At)).bind fun x15 =>
  oU f0 x15 i4)
  (oU f0 m3 i4))
  (some (.inr m3))

noncomputable def sQ (f0 : (List aI)) (m3 : Int) (i4 : Int) : Option Int :=
  (lp (fun s => kT f0 s.1 s.2) (m3, i4)).bind (fun rr => pE rr)

noncomputable def qM (f0 : (List aI)) : Option Int :=
  (oC f0).bind fun x1 =>
  cond (!x1)
  (some (0 : Int))
  ((lG f0 (-1 : Int)).bind fun x5 =>
  sQ f0 x5 (0 : Int))

noncomputable def sU  : Option Bool :=
  some true

noncomputable def lS (l0 : (List aL)) (bC : (List (List aB))) (i4 : Int) : Option ((Int) ⊕ (Unit ⊕ Bool)) :=
  cond (decide (i4 < ((List.length bC : Nat) : Int)))
  (aZ (0 ≤ i4 ∧ i4 < ((List.length bC : Nat) : Int)) <|
  (nP l0 (List.getD bC (Int.toNat i4) default)).bind fun x10 =>
  (qM x10).bind fun x13 =>
  cond (decide (x13 < (0 : Int)))
  (some (.inr (.inr false)))
  (some (.inl (IntKind.i64.wrap (i4 + (1 : Int))))))
  (some (.inr (.inl ())))

noncomputable def sO (l0 : (List aL)) (bC : (List (List aB))) (i4 : Int) : Option Bool :=
  (lp (fun s => lS l0 bC s) i4).bind (Sum.elim (fun rr => sU ) (fun rr => some rr))

noncomputable def qC (l0 : (List aL)) : Option Bool :=
  (qY l0).bind fun x1 =>
  cond (!x1)
  (some false)
  ((oT l0).bind fun x5 =>
  sO l0 x5 (0 : Int))

noncomputable def vF (t0 : Int) : Option Bool :=
  some ((decide ((0 : Int) ≤ t0)) && (decide (t0 ≤ (1125899906842624 : Int))))

noncomputable def nO (out5 : List Int) : Option (List Int) :=
  some out5

noncomputable def nT (t1 : Int) (out5 : List Int) (put6 : Bool) : Option (List Int) :=
  cond (!put6)
  (aZ ((List.length out5 + List.length ([t1])) * 8 ≤ 140737488355328 ∧ List.length out5 + List.length ([t1]) ≤ 9223372036854775807) <|
  nO (out5 ++ ([t1])))
  (nO out5)

noncomputable def qH (l0 : (List Int)) (t1 : Int) (out5 : List Int) (put6 : Bool) (i7 : Int) : Option ((List Int × Bool × Int) ⊕ ((List Int × Bool) ⊕ (List Int))) :=
  aZ (0 ≤ i7 ∧ i7 < ((List.length l0 : Nat) : Int)) <|
  aZ ((List.length out5 + List.length ([List.getD l0 (Int.toNat i7) default])) * 8 ≤ 140737488355328 ∧ List.length out5 + List.length ([List.getD l0 (Int.toNat i7) default]) ≤ 9223372036854775807) <|
  some (.inl (out5 ++ ([List.getD l0 (Int.toNat i7) default]), put6, IntKind.i64.wrap (i7 + (1 : Int))))

noncomputable def iS (l0 : (List Int)) (t1 : Int) (out5 : List Int) (put6 : Bool) (i7 : Int) : Option ((List Int × Bool × Int) ⊕ ((List Int × Bool) ⊕ (List Int))) :=
  cond (decide (i7 < ((List.length l0 : Nat) : Int)))
  (aZ (0 ≤ i7 ∧ i7 < ((List.length l0 : Nat) : Int)) <|
  cond (decide ((List.getD l0 (Int.toNat i7) default) = t1))
  (some (.inr (.inr l0)))
  (aZ (0 ≤ i7 ∧ i7 < ((List.length l0 : Nat) : Int)) <|
  cond ((decide (t1 < (List.getD l0 (Int.toNat i7) default))) && (!put6))
  (aZ ((List.length out5 + List.length ([t1])) * 8 ≤ 140737488355328 ∧ List.length out5 + List.length ([t1]) ≤ 9223372036854775807) <|
  qH l0 t1 (out5 ++ ([t1])) true i7)
  (qH l0 t1 out5 put6 i7)))
  (some (.inr (.inl (out5, put6))))

noncomputable def tX (l0 : (List Int)) (t1 : Int) (out5 : List Int) (put6 : Bool) (i7 : Int) : Option (List Int) :=
  (lp (fun s => iS l0 t1 s.1 s.2.1 s.2.2) (out5, put6, i7)).bind (Sum.elim (fun rr => nT t1 rr.1 rr.2) (fun rr => some rr))

noncomputable def rV (l0 : (List Int)) (t1 : Int) : Option (List Int) :=
  tX l0 t1 ([] : List Int) false (0 : Int)

noncomputable def tR (out6 : (List Int)) : Option ((List Int) × Int) :=
  some (out6, (0 : Int))

noncomputable def nU (l0 : (List aL)) (cC : Int) (out6 : (List Int)) (i7 : Int) : Option (((List Int) × Int) ⊕ ((List Int))) :=
  some (.inl (out6, IntKind.i64.wrap (i7 + (1 : Int))))

noncomputable def lF (l0 : (List aL)) (cC : Int) (out6 : (List Int)) (i7 : Int) : Option (((List Int) × Int) ⊕ ((List Int))) :=
  cond (decide (i7 < ((List.length l0 : Nat) : Int)))
  (aZ (0 ≤ i7 ∧ i7 < ((List.length l0 : Nat) : Int)) <|
  cond (decide (cC < ((List.getD l0 (Int.toNat i7) default).At)))
  (aZ (0 ≤ i7 ∧ i7 < ((List.length l0 : Nat) : Int)) <|
  (rV out6 ((List.getD l0 (Int.toNat i7) default).At)).bind fun x18 =>
  nU l0 cC x18 i7)
  (nU l0 cC out6 i7))
  (some (.inr out6))

noncomputable def tV (l0 : (List aL)) (cC : Int) (out6 : (List Int)) (i7 : Int) : Option ((List Int) × Int) :=
  (lp (fun s => lF l0 cC s.1 s.2) (out6, i7)).bind (fun rr => tR rr)

noncomputable def rS (l0 : (List aL)) (cC : Int) : Option ((List Int) × Int) :=
  (qY l0).bind fun x1 =>
  cond (!x1)
  (some ([], (2 : Int)))
  ((qC l0).bind fun x5 =>
  cond (!x5)
  (some ([], (20 : Int)))
  ((vF cC).bind fun x9 =>
  cond (!x9)
  (some ([], (13 : Int)))
  (cond (decide (cC = (1125899906842624 : Int)))
  (some ([], (0 : Int)))
  (tV l0 cC ([cC]) (0 : Int)))))

noncomputable def mO  : Option Bool :=
  (oX ).bind fun x15 =>
  some x15

noncomputable def lC (a5 : (List Int)) (b7 : (List Int)) (i9 : Int) : Option ((Int) ⊕ (Unit ⊕ Bool)) :=
  cond (decide (i9 < ((List.length a5 : Nat) : Int)))
  (aZ (0 ≤ i9 ∧ i9 < ((List.length a5 : Nat) : Int)) <|
  aZ (0 ≤ i9 ∧ i9 < ((List.length b7 : Nat) : Int)) <|
  cond (!decide ((List.getD a5 (Int.toNat i9) default) = (List.getD b7 (Int.toNat i9) default)))
  (some (.inr (.inr false)))
  (some (.inl (IntKind.i64.wrap (i9 + (1 : Int))))))
  (some (.inr (.inl ())))

noncomputable def oK (a5 : (List Int)) (b7 : (List Int)) (i9 : Int) : Option Bool :=
  (lp (fun s => lC a5 b7 s) i9).bind (Sum.elim (fun rr => mO ) (fun rr => some rr))

noncomputable def pX (l0 : (List aL)) (cC : Int) : Option Bool :=
  (wA l0).bind fun x1 =>
  cond (!x1)
  ((oX ).bind fun x5 =>
  some x5)
  ((oB l0 cC).bind fun x8 =>
  (rS l0 cC).bind fun x11 =>
  cond ((!decide (x8.2 = x11.2)) || (!decide (((List.length x8.1 : Nat) : Int) = ((List.length x11.1 : Nat) : Int))))
  (some false)
  (oK x8.1 x11.1 (0 : Int)))

end Go.Abs
namespace Go.Abs
open Go Go.RowKit
def xY (x : aB) : Prop := wT x.Kind ∧ wT x.Num ∧ (fun s => s.size ≤ maxLen) x.Text ∧ True

def tE (x : aL) : Prop := (fun l => (∀ a ∈ l, xY a) ∧ l.length * 32 ≤ 140737488351232) x.Row ∧ wT x.At ∧ wT x.Net ∧ True

end Go.Abs
namespace Go.Abs
open Go Go.RowKit Go.Proofs
noncomputable def tt : TT := ⟨QF Try.prog, LL Try.prog⟩

theorem aD : gH Try.prog tt := gH.of Try.prog

theorem NX (l0 : (List aL)) (r : Bool) (h0 : wA l0 = some r) : dN Try.prog 10 [(eL aM l0)] (aE r) := by
  intro H0
  refine dG Try.func10 ?_
  have hO := aJ.start H0
  unfold wA at h0
  refine aT aD 1 [] [] ?_
  refine bO aD 4 [(2, (aE (decide ((lN l0) ≤ (60 : Int)))))] ?_
  refine bJ ?_
  obtain rfl := oI h0
  exact aG (Q_r hO)

theorem DS (l0 : (List aL)) (r : (List aL)) (h0 : qT l0 = some r) : dN Try.prog 67 [(eL aM l0)] (.fn (.func 91) [] [(.rp (eL aM r))]) := by
  intro H0
  refine dG Try.func67 ?_
  have hO := aJ.start H0
  unfold qT at h0
  refine aN ?_
  refine aU aD 2 ?_
  refine nY 1 (eL aM l0) (by kernel_rfl) (by kernel_rfl) ?_
  refine bA ?_
  refine bG [(1, (.rp (eL aM l0)))] ?_
  refine bO aD 2 [(2, (.fn (.func 91) [] [(.rp (eL aM l0))]))] ?_
  refine bJ ?_
  obtain rfl := oI h0
  exact aG (lW (x := (.fn (.func 91) [] [(.rp (eL aM l0))])) (by kernel_rfl) (aO.refl _) ⟨rfl, hO.out⟩)

theorem uD (s10 : (List aB)) (s21 : (List aB)) (r : Bool) (h0 : jA s10 s21 = some r) : dN Try.prog 72 [(eL aC s10), (eL aC s21)] (aE r) := by
  intro H0
  refine dG Try.func72 ?_
  have hO := aJ.start H0
  unfold jA at h0
  refine aT aD 1 [] [] ?_
  refine aN ?_
  refine aT aD 5 [] [(10, (aE (!decide ((lN s10) = (lN s21)))))] ?_
  refine bH h0 (fun h0 => ?_) (fun h0 => ?_)
  · refine bO aD 1 [(4, (aE false))] ?_
    refine bJ ?_
    obtain rfl := oI h0
    exact aG (aP (Q_r hO))
  refine bI ?_
  refine bG [(0, (eL aC s10)), (1, (eL aC s21))] ?_
  refine dS (fun T H => Has T [] ∧ aJ ⟨H0, [], []⟩ H [] ∧ fW  = some r) ?_ ?_
  · clear hO h0
    rintro T H ⟨hT, hO, h0⟩
    refine aY hT ?_
    clear hT
    unfold fW at h0
    refine bO aD 1 [(4, (aE true))] ?_
    refine bJ ?_
    obtain rfl := oI h0
    exact aG (Q_r hO)
  refine aT aD 3 [] [(12, (eI (lN s10))), (13, (eI (0 : Int)))] ?_
  refine bY 0 ?_
  refine eU [(0, (eL aC s10)), (1, (eL aC s21)), (12, (eI (lN s10))), (13, (eI (0 : Int)))] ?_
  refine dU (fun T H => ∃ t12 : Int, ∃ t13 : Int, Has T [(0, (eL aC s10)), (1, (eL aC s21)), (12, (eI t12)), (13, (eI t13))] ∧ aJ ⟨H0, [], []⟩ H [] ∧ iV s10 s21 t12 t13 = some r) ?_ ⟨(lN s10), (0 : Int), .eq (by kernel_rfl), hO, h0⟩
  clear hO h0
  rintro T H ⟨t12, t13, hT, hO, h0⟩
  refine aY hT ?_
  clear hT
  unfold iV at h0
  obtain ⟨rr0, hl0, h0⟩ := aX h0
  refine cS (by kernel_rfl) (fun (s : Int) T H => Has T [(0, (eL aC s10)), (1, (eL aC s21)), (12, (eI t12)), (13, (eI s))] ∧ aJ ⟨H0, [], []⟩ H []) hl0 ⟨.eq (by kernel_rfl), hO⟩ ?_
  clear hO
  rintro k0 s out1 T H ⟨hT, hO⟩ h1 ho0
  obtain ⟨t13, rfl⟩ : ∃ x, x = s := ⟨_, rfl⟩
  replace h1 : eT s10 s21 t12 t13 = some out1 := h1
  refine aY hT ?_
  clear hT
  unfold eT at h1
  refine aT aD 1 [] [(14, (aE (decide (t13 < t12))))] ?_
  refine aN ?_
  refine bH h1 (fun h1 => ?_) (fun h1 => ?_)
  · refine bI ?_
    refine bG [(0, (eL aC s10)), (1, (eL aC s21)), (12, (eI t12)), (13, (eI t13))] ?_
    refine aN ?_
    refine bY 1 ?_
    refine aT aD 2 [] [(5, (eI t13))] ?_
    refine aN ?_
    refine fF (fG [19, 23]) aD 9 ?_
    obtain ⟨c3, h1⟩ := aV h1
    obtain ⟨c4, h1⟩ := aV h1
    refine xC (Ds := [0 ≤ t13 ∧ t13 < (lN s10), 0 ≤ t13 ∧ t13 < (lN s21)]) (by kernel_rfl) ⟨c3, c4, trivial⟩ ?_
    refine bP [5] [(24, (aE (!((decide (((gD s10 t13).Kind) = ((gD s21 t13).Kind))) && ((decide (((gD s10 t13).Num) = ((gD s21 t13).Num))) && ((lX ((gD s10 t13).Text) ((gD s21 t13).Text)) && true))))))] ?_
    refine bH h1 (fun h1 => ?_) (fun h1 => ?_)
    · refine bO aD 1 [(4, (aE false))] ?_
      refine bJ ?_
      obtain rfl := oI h1
      obtain rfl : _ = rr0 := ho0
      replace h0 : some false = some r := h0
      obtain rfl := oI h0
      exact aG (bD (aP (aP (bD (aP (Q_r hO))))))
    refine bI ?_
    refine iD [(0, (eL aC s10)), (1, (eL aC s21)), (12, (eI t12)), (13, (eI t13))] ?_
    refine aG (aW (aF (?_)))
    refine aU aD 2 ?_
    refine bA ?_
    exact aG (aF (⟨rfl, _, (oI h1).symm, .eq (by kernel_rfl), hO⟩))
  refine fA 0 ?_
  obtain rfl := oI h1
  obtain rfl : _ = rr0 := ho0
  replace h0 : fW  = some r := h0
  exact aG (aS (aS (bN (aF (⟨rfl, .eq (by kernel_rfl), hO, h0⟩)))))

theorem RQ (a0 : (List aB)) (b1 : (List aB)) (r : Bool) (h0 : uT a0 b1 = some r) : dN Try.prog 92 [(eL aC a0), (eL aC b1)] (aE r) := by
  intro H0
  refine dG Try.func92 ?_
  have hO := aJ.start H0
  unfold uT at h0
  refine aT aD 1 [] [] ?_
  refine aN ?_
  refine aU aD 4 ?_
  refine bS 2 ?_
  obtain ⟨x1, hx2, h0⟩ := aX h0
  refine dW (uD a0 b1 _ hx2) hO ?_
  intro H hO
  refine bA ?_
  refine bG [(4, (aE x1))] ?_
  refine bJ ?_
  obtain rfl := oI h0
  exact aG (Q_r hO)

theorem QV (r0 : (List aB)) (r : (List aB)) (h0 : uX r0 = some r) : dN Try.prog 93 [(eL aC r0)] (eL aC r) := by
  intro H0
  refine dG Try.func93 ?_
  have hO := aJ.start H0
  unfold uX at h0
  refine aT aD 1 [] [] ?_
  refine aN ?_
  refine aU aD 6 ?_
  refine bS 2 ?_
  obtain ⟨c1, h0⟩ := aV h0
  refine PN 3 32 (lN r0) (by kernel_rfl) (by kernel_rfl) c1 hO ?_
  intro lo2 H hO
  refine bS 4 ?_
  obtain ⟨c4, h0⟩ := aV h0
  refine qU (e := aC) ([] : List aB) r0 0 lo2 3 32 (eL aC r0) (fun lo3 => [(lo3, 3, List.map aC (([] : List aB) ++ r0))]) (by kernel_rfl) (by kernel_rfl) hO (by kernel_rfl) (OQ (fun _ => by kernel_rfl)) c4 (fun _ => by kernel_rfl) ?_
  intro lo3 H hO
  refine bA ?_
  refine bG [(2, (.msl 3 lo3 0 (List.length (([] : List aB) ++ r0))))] ?_
  refine bJ ?_
  refine iD [(2, (.msl 3 lo3 0 (List.length (([] : List aB) ++ r0))))] ?_
  refine sE (en := aC) (([] : List aB) ++ r0) 0 0 2 3 lo3 (List.length (([] : List aB) ++ r0)) hO (by kernel_rfl) (by kernel_rfl) (by kernel_rfl) (L' := []) (by kernel_rfl) ?_
  intro H5 hO
  obtain rfl := oI h0
  exact aG (Q_r hO)

theorem yJ {σ : Type} (I : σ → Gs → Prop) (yield0_b : Nat) (fY : σ → (List aB) → (List aI) → Option (σ × Bool)) (yield0_h : ∀ st a0 a1 st2 r, fY st a0 a1 = some (st2, r) → DG Try.prog (yv yield0_b) I st [(eL aC a0), (eL aQ a1)] st2 (aE r)) (t1 : (List aL)) (sg0 : σ) (r : σ) (h0 : mI fY t1 sg0 = some r) : xA Try.prog 91 I sg0 [(yv yield0_b), (.rp (eL aM t1))] r (.tup []) := by
  intro H0 G0 hI hg
  refine dG Try.func91 ?_
  obtain ⟨G, hO, hI⟩ : ∃ G, aJ ⟨H0, List.map (fun p : Nat × dO => p.1) G0, G⟩ H0 [] ∧ I sg0 G := ⟨G0, aJ.GL hg, hI⟩
  clear hg
  unfold mI at h0
  refine aT aD 1 [] [(3, (eI (0 : Int)))] ?_
  refine bY 0 ?_
  refine eU [(0, (yv yield0_b)), (1, (.rp (eL aM t1))), (3, (eI (0 : Int)))] ?_
  refine dU (fun T H => ∃ sg : σ, ∃ i3 : Int, ∃ G : Gs, Has T [(0, (yv yield0_b)), (1, (.rp (eL aM t1))), (3, (eI i3))] ∧ aJ ⟨H0, List.map (fun p : Nat × dO => p.1) G0, G⟩ H [] ∧ I sg G ∧ pW fY sg t1 i3 = some r) ?_ ⟨sg0, (0 : Int), G, .eq (by kernel_rfl), hO, hI, h0⟩
  clear hO hI h0
  rintro T H ⟨sg, i3, G, hT, hO, hI, h0⟩
  refine aY hT ?_
  clear hT
  unfold pW at h0
  obtain ⟨rr0, hl0, h0⟩ := aX h0
  refine cS (by kernel_rfl) (fun (s : σ × Int) T H => ∃ G : Gs, Has T [(0, (yv yield0_b)), (1, (.rp (eL aM t1))), (3, (eI s.2))] ∧ aJ ⟨H0, List.map (fun p : Nat × dO => p.1) G0, G⟩ H [] ∧ I s.1 G) hl0 ⟨G, .eq (by kernel_rfl), hO, hI⟩ ?_
  clear hO hI
  rintro k0 s out1 T H ⟨G, hT, hO, hI⟩ h1 ho0
  obtain ⟨sg, i3⟩ := s
  replace h1 : iE fY t1 sg i3 = some out1 := h1
  try dsimp only at hT
  refine aY hT ?_
  clear hT
  unfold iE at h1
  refine aN ?_
  refine aT aD 4 [] [(9, (aE (decide (i3 < (lN t1)))))] ?_
  refine bH h1 (fun h1 => ?_) (fun h1 => ?_)
  · refine bI ?_
    refine bG [(0, (yv yield0_b)), (1, (.rp (eL aM t1))), (3, (eI i3))] ?_
    refine bY 1 ?_
    refine aN ?_
    refine aU aD 6 ?_
    obtain ⟨c2, h1⟩ := aV h1
    refine mU [0 ≤ i3 ∧ i3 < (lN t1)] ⟨c2, trivial⟩ ?_
    refine bP [] [(4, (eL aC ((gD t1 i3).Row)))] ?_
    refine aN ?_
    refine aU aD 2 ?_
    refine lV (xs := []) (k := 2) (by kernel_rfl) (by kernel_rfl) ?_
    refine bA ?_
    refine bP [] [(5, (.sl true 0 (fun _ => .bad)))] ?_
    refine dS (fun T H => ∃ sg : σ, ∃ i3 : Int, ∃ r4 : (List aB), ∃ f5 : List aI, ∃ lo3 : Nat, ∃ G : Gs, Has T [(0, (yv yield0_b)), (1, (.rp (eL aM t1))), (3, (eI i3)), (4, (eL aC r4)), (5, (.msl 2 lo3 0 (List.length f5)))] ∧ aJ ⟨H0, List.map (fun p : Nat × dO => p.1) G0, G⟩ H [(lo3, 2, List.map aQ f5)] ∧ I sg G ∧ nI fY sg t1 i3 r4 f5 = some out1) ?_ ?_
    · clear hO hI h1
      rintro T H ⟨sg, i3, r4, f5, lo3, G, hT, hO, hI, h1⟩
      refine aY hT ?_
      clear hT
      unfold nI at h1
      refine aN ?_
      refine aU aD 6 ?_
      refine IN (e := aQ) f5 0 5 2 lo3 (List.length f5) [] (by kernel_rfl) hO (by kernel_rfl) (by kernel_rfl) (by kernel_rfl) (by kernel_rfl) ?_
      intro H hO
      refine bS 2 ?_
      obtain ⟨x7, hx8, h1⟩ := aX h1
      refine dW (QV r4 _ hx8) hO ?_
      intro H hO
      refine bS 4 ?_
      obtain ⟨x10, hx11, h1⟩ := aX h1
      refine OY (I := I) (yv yield0_b) [(eL aC x7), (eL aQ f5)] (aE x10.2) (by kernel_rfl) (by kernel_rfl) (yield0_h _ x7 f5 x10.1 x10.2 hx11) hO hI ?_
      intro G H hO hI
      refine bA ?_
      refine bP [4, 5] [(50, (aE (!x10.2)))] ?_
      refine bH h1 (fun h1 => ?_) (fun h1 => ?_)
      · refine bJ ?_
        obtain rfl := oI h1
        obtain rfl : _ = rr0 := ho0
        replace h0 : some x10.1 = some r := h0
        obtain rfl := oI h0
        exact aG (bD (aP (bD (lW (x := (.tup [])) (by kernel_rfl) (aO.refl _) ⟨rfl, G, hI, hO.CJ⟩))))
      refine bI ?_
      exact aG (aW (aF (⟨rfl, _, (oI h1).symm, _, .eq (by kernel_rfl), hO, hI⟩)))
    refine bY 2 ?_
    refine eU [(0, (yv yield0_b)), (1, (.rp (eL aM t1))), (3, (eI i3)), (4, (eL aC ((gD t1 i3).Row))), (5, (.sl true 0 (fun _ => .bad)))] ?_
    refine zZ (el := (fun _ => .bad)) 4 5 2 hO (by kernel_rfl) ?_
    intro lo24 H25 hO
    refine dU (fun T H => ∃ sg : σ, ∃ i3 : Int, ∃ r4 : (List aB), ∃ f5 : List aI, ∃ lo14 : Nat, ∃ G : Gs, Has T [(0, (yv yield0_b)), (1, (.rp (eL aM t1))), (3, (eI i3)), (4, (eL aC r4)), (5, (.msl 2 lo14 0 (List.length f5)))] ∧ aJ ⟨H0, List.map (fun p : Nat × dO => p.1) G0, G⟩ H [(lo14, 2, List.map aQ f5)] ∧ I sg G ∧ pV fY sg t1 i3 r4 f5 = some out1) ?_ ⟨sg, i3, (gD t1 i3).Row, ([] : List aI), lo24, G, .eq (by kernel_rfl), hO, hI, h1⟩
    clear hO hI h1
    rintro T H ⟨sg, i3, r4, f5, lo14, G, hT, hO, hI, h1⟩
    refine aY hT ?_
    clear hT
    unfold pV at h1
    obtain ⟨rr1, hl1, h1⟩ := aX h1
    refine cS (by kernel_rfl) (fun (s : σ × Int × List aI) T H => ∃ lo14 : Nat, ∃ G : Gs, Has T [(0, (yv yield0_b)), (1, (.rp (eL aM t1))), (3, (eI s.2.1)), (4, (eL aC r4)), (5, (.msl 2 lo14 0 (List.length s.2.2)))] ∧ aJ ⟨H0, List.map (fun p : Nat × dO => p.1) G0, G⟩ H [(lo14, 2, List.map aQ s.2.2)] ∧ I s.1 G) hl1 ⟨lo14, G, .eq (by kernel_rfl), hO, hI⟩ ?_
    clear hO hI
    rintro k1 s out2 T H ⟨lo14, G, hT, hO, hI⟩ h2 ho1
    obtain ⟨sg, i3, f5⟩ := s
    replace h2 : jC fY t1 r4 sg i3 f5 = some out2 := h2
    try dsimp only at hT
    refine aY hT ?_
    clear hT
    unfold jC at h2
    refine aN ?_
    refine aN ?_
    refine aU aD 13 ?_
    obtain ⟨c15, h2⟩ := aV h2
    refine pN 11 [(((decide (i3 < (lN t1)))) = true → 0 ≤ i3 ∧ i3 < (lN t1))] ⟨c15, trivial⟩ ?_
    obtain ⟨x16, hx17, h2⟩ := aX h2
    refine rA [(20, true)] 92 [(eL aC ((gD t1 i3).Row)), (eL aC r4)] (aE x16) (decide (i3 < (lN t1))) (by kernel_rfl) (by kernel_rfl) (by kernel_rfl) (fun hb18 => (RQ ((gD t1 i3).Row) r4 _ (kE hx17 hb18))) hO ?_
    intro H hO
    refine bA ?_
    refine bP [] [(28, (aE ((decide (i3 < (lN t1))) && x16)))] ?_
    refine bH h2 (fun h2 => ?_) (fun h2 => ?_)
    · refine bI ?_
      refine bG [(0, (yv yield0_b)), (1, (.rp (eL aM t1))), (3, (eI i3)), (4, (eL aC r4)), (5, (.msl 2 lo14 0 (List.length f5)))] ?_
      refine aN ?_
      refine bY 3 ?_
      refine fF (fG [32, 36, 37, 41, 43]) aD 15 ?_
      obtain ⟨c20, h2⟩ := aV h2
      obtain ⟨c21, h2⟩ := aV h2
      refine cD 12 [0 ≤ i3 ∧ i3 < (lN t1), 0 ≤ i3 ∧ i3 < (lN t1)] ⟨c20, c21, trivial⟩ ?_
      refine XA (xs := [(aQ (aI.mk ((gD t1 i3).At) ((gD t1 i3).Net)))]) (k := 2) (by kernel_rfl) (by kernel_rfl) ?_
      obtain ⟨c23, h2⟩ := aV h2
      refine OV (e := aQ) f5 ([aI.mk ((gD t1 i3).At) ((gD t1 i3).Net)]) 0 lo14 2 16 (iC [(aQ (aI.mk ((gD t1 i3).At) ((gD t1 i3).Net)))]) (fun lo22 => [(lo22, 2, List.map aQ (f5 ++ ([aI.mk ((gD t1 i3).At) ((gD t1 i3).Net)])))]) (by kernel_rfl) (by kernel_rfl) hO (by kernel_rfl) (by kernel_rfl) c23 (fun _ => by kernel_rfl) ?_
      intro lo22 H hO
      refine jB ?_
      refine iD [(0, (yv yield0_b)), (1, (.rp (eL aM t1))), (3, (eI i3)), (4, (eL aC r4)), (5, (.msl 2 lo22 0 (List.length (f5 ++ ([aI.mk ((gD t1 i3).At) ((gD t1 i3).Net)])))))] ?_
      refine aG (aW (aF (?_)))
      refine aU aD 3 ?_
      refine bA ?_
      exact aG (aF (⟨rfl, _, (oI h2).symm, _, _, .eq (by kernel_rfl), hO, hI⟩))
    refine fA 2 ?_
    obtain rfl := oI h2
    obtain rfl : _ = rr1 := ho1
    replace h1 : nI fY sg t1 i3 r4 f5 = some out1 := h1
    exact aG (aS (aS (bN (aF (⟨rfl, _, _, _, _, _, _, .eq (by kernel_rfl), hO, hI, h1⟩)))))
  refine fA 0 ?_
  obtain rfl := oI h1
  obtain rfl : _ = rr0 := ho0
  replace h0 : some sg = some r := h0
  obtain rfl := oI h0
  exact aG (aS (aS (bN (yL (x := (.tup [])) (by kernel_rfl) (aO.refl _) ⟨rfl, G, hI, hO.CJ⟩))))

theorem rR (s0 : (List aB)) (f1_f : Nat) (f1_a f1_c : List V) (f1 : aB → Option Bool) (f1_h : ∀ a0 r, f1 a0 = some r → dN Try.prog f1_f (f1_a ++ [(aC a0)] ++ f1_c) (aE r)) (r : Int) (h0 : gX s0 f1 = some r) : dN Try.prog 100 [(eL aC s0), (.fn (.func f1_f) f1_a f1_c)] (eI r) := by
  intro H0
  refine dG Try.func100 ?_
  have hO := aJ.start H0
  unfold gX at h0
  refine aT aD 1 [] [] ?_
  refine dS (fun T H => Has T [] ∧ aJ ⟨H0, [], []⟩ H [] ∧ eY f1  = some r) ?_ ?_
  · clear hO h0
    rintro T H ⟨hT, hO, h0⟩
    refine aY hT ?_
    clear hT
    unfold eY at h0
    refine bO aD 1 [(4, (eI (-1 : Int)))] ?_
    refine bJ ?_
    obtain rfl := oI h0
    exact aG (Q_r hO)
  refine aT aD 3 [] [(7, (eI (lN s0))), (8, (eI (0 : Int)))] ?_
  refine bY 0 ?_
  refine eU [(0, (eL aC s0)), (1, (.fn (.func f1_f) f1_a f1_c)), (7, (eI (lN s0))), (8, (eI (0 : Int)))] ?_
  refine dU (fun T H => ∃ t7 : Int, ∃ t8 : Int, Has T [(0, (eL aC s0)), (1, (.fn (.func f1_f) f1_a f1_c)), (7, (eI t7)), (8, (eI t8))] ∧ aJ ⟨H0, [], []⟩ H [] ∧ gT f1 s0 t7 t8 = some r) ?_ ⟨(lN s0), (0 : Int), .eq (by kernel_rfl), hO, h0⟩
  clear hO h0
  rintro T H ⟨t7, t8, hT, hO, h0⟩
  refine aY hT ?_
  clear hT
  unfold gT at h0
  obtain ⟨rr0, hl0, h0⟩ := aX h0
  refine cS (by kernel_rfl) (fun (s : Int) T H => Has T [(0, (eL aC s0)), (1, (.fn (.func f1_f) f1_a f1_c)), (7, (eI t7)), (8, (eI s))] ∧ aJ ⟨H0, [], []⟩ H []) hl0 ⟨.eq (by kernel_rfl), hO⟩ ?_
  clear hO
  rintro k0 s out1 T H ⟨hT, hO⟩ h1 ho0
  obtain ⟨t8, rfl⟩ : ∃ x, x = s := ⟨_, rfl⟩
  replace h1 : gS f1 s0 t7 t8 = some out1 := h1
  refine aY hT ?_
  clear hT
  unfold gS at h1
  refine aT aD 1 [] [(9, (aE (decide (t8 < t7))))] ?_
  refine aN ?_
  refine bH h1 (fun h1 => ?_) (fun h1 => ?_)
  · refine bI ?_
    refine bG [(0, (eL aC s0)), (1, (.fn (.func f1_f) f1_a f1_c)), (7, (eI t7)), (8, (eI t8))] ?_
    refine aN ?_
    refine bY 1 ?_
    refine aT aD 2 [] [(5, (eI t8))] ?_
    refine aN ?_
    refine aU aD 6 ?_
    obtain ⟨c2, h1⟩ := aV h1
    refine pN 5 [0 ≤ t8 ∧ t8 < (lN s0)] ⟨c2, trivial⟩ ?_
    obtain ⟨x3, hx4, h1⟩ := aX h1
    refine dW (f1_h (gD s0 t8) _ hx4) hO ?_
    intro H hO
    refine iT ?_
    refine bP [] [(16, (aE x3))] ?_
    refine bH h1 (fun h1 => ?_) (fun h1 => ?_)
    · refine bO aD 2 [(4, (eI t8))] ?_
      refine bJ ?_
      obtain rfl := oI h1
      obtain rfl : _ = rr0 := ho0
      replace h0 : some t8 = some r := h0
      obtain rfl := oI h0
      exact aG (bD (aP (aP (bD (aP (Q_r hO))))))
    refine bI ?_
    refine iD [(0, (eL aC s0)), (1, (.fn (.func f1_f) f1_a f1_c)), (7, (eI t7)), (8, (eI t8))] ?_
    refine aG (aW (aF (?_)))
    refine aU aD 2 ?_
    refine bA ?_
    exact aG (aF (⟨rfl, _, (oI h1).symm, .eq (by kernel_rfl), hO⟩))
  refine fA 0 ?_
  obtain rfl := oI h1
  obtain rfl : _ = rr0 := ho0
  replace h0 : eY f1  = some r := h0
  exact aG (aS (aS (bN (aF (⟨rfl, .eq (by kernel_rfl), hO, h0⟩)))))

theorem qP (s0 : (List aB)) (f1_f : Nat) (f1_a f1_c : List V) (f1 : aB → Option Bool) (f1_h : ∀ a0 r, f1 a0 = some r → dN Try.prog f1_f (f1_a ++ [(aC a0)] ++ f1_c) (aE r)) (r : Bool) (h0 : eS s0 f1 = some r) : dN Try.prog 97 [(eL aC s0), (.fn (.func f1_f) f1_a f1_c)] (aE r) := by
  intro H0
  refine dG Try.func97 ?_
  have hO := aJ.start H0
  unfold eS at h0
  refine aT aD 1 [] [] ?_
  refine aN ?_
  refine aU aD 5 ?_
  refine bS 2 ?_
  obtain ⟨x1, hx2, h0⟩ := aX h0
  refine dW (rR s0 f1_f f1_a f1_c f1 f1_h _ hx2) hO ?_
  intro H hO
  refine bA ?_
  refine bG [(4, (aE (decide ((0 : Int) ≤ x1))))] ?_
  refine bJ ?_
  obtain rfl := oI h0
  exact aG (Q_r hO)

theorem uS (v0 : aB) (r : (bF × Bool)) (h0 : kN v0 = some r) : dN Try.prog 110 [(aC v0)] (.tup [(bB r.1), (aE r.2)]) := by
  intro H0
  refine dG Try.func110 ?_
  have hO := aJ.start H0
  unfold kN at h0
  refine aN ?_
  refine aU aD 3 ?_
  refine nY 3 (aC v0) (by kernel_rfl) (by kernel_rfl) ?_
  refine bA ?_
  refine bG [(1, (.rp (aC v0)))] ?_
  refine aN ?_
  refine bY 0 ?_
  refine aT aD 9 [] [(4, (aE ((decide (v0.Kind = (1 : Int))) && (lX v0.Text (⟨#[]⟩ : ByteArray)))))] ?_
  refine bH h0 (fun h0 => ?_) (fun h0 => ?_)
  · refine bO aD 5 [(2, (bB (bF.k_number v0.Num))), (3, (aE true))] ?_
    refine bJ ?_
    obtain rfl := oI h0
    exact aG (bD (aP (Q_r hO)))
  refine aT aD 15 [4] [(16, (aE (((decide (v0.Kind = (2 : Int))) && (decide (v0.Num = (0 : Int)))) && (decide (((ByteArray.size v0.Text : Nat) : Int) ≤ (64 : Int))))))] ?_
  refine bH h0 (fun h0 => ?_) (fun h0 => ?_)
  · refine bO aD 5 [(2, (bB (bF.k_words v0.Text))), (3, (aE true))] ?_
    refine bJ ?_
    obtain rfl := oI h0
    exact aG (bD (aP (Q_r hO)))
  refine bI ?_
  refine iD [] ?_
  refine aG (aW (aF (?_)))
  refine bO aD 2 [(2, (bB bF.none_)), (3, (aE false))] ?_
  refine bJ ?_
  obtain rfl := oI h0
  exact aG (Q_r hO)

theorem NL (v0 : aB) (r : Bool) (h0 : tC v0 = some r) : dN Try.prog 99 [(aC v0)] (aE r) := by
  intro H0
  refine dG Try.func99 ?_
  have hO := aJ.start H0
  unfold tC at h0
  refine aN ?_
  refine aU aD 2 ?_
  refine nY 3 (aC v0) (by kernel_rfl) (by kernel_rfl) ?_
  refine bA ?_
  refine bG [(1, (.rp (aC v0)))] ?_
  refine aN ?_
  refine aU aD 7 ?_
  refine bS 1 ?_
  obtain ⟨⟨x1_0, x1_1⟩, hx2, h0⟩ := aX h0
  refine dW (uS v0 _ hx2) hO ?_
  intro H hO
  rcases x1_0 with _ | y4 | y5
  · replace h0 : (some x1_1) = some r := h0
    refine bA ?_
    refine bG [(4, (aE x1_1))] ?_
    refine bO aD 2 [(2, (aE x1_1))] ?_
    refine bJ ?_
    obtain rfl := oI h0
    exact aG (Q_r hO)
  · replace h0 : (some x1_1) = some r := h0
    refine bA ?_
    refine bG [(4, (aE x1_1))] ?_
    refine bO aD 2 [(2, (aE x1_1))] ?_
    refine bJ ?_
    obtain rfl := oI h0
    exact aG (Q_r hO)
  · replace h0 : (some x1_1) = some r := h0
    refine bA ?_
    refine bG [(4, (aE x1_1))] ?_
    refine bO aD 2 [(2, (aE x1_1))] ?_
    refine bJ ?_
    obtain rfl := oI h0
    exact aG (Q_r hO)

theorem NK (v0 : aB) (r : Bool) (h0 : tM v0 = some r) : dN Try.prog 98 [(aC v0)] (aE r) := by
  intro H0
  refine dG Try.func98 ?_
  have hO := aJ.start H0
  unfold tM at h0
  refine aN ?_
  refine aU aD 2 ?_
  refine nY 3 (aC v0) (by kernel_rfl) (by kernel_rfl) ?_
  refine bA ?_
  refine bG [(1, (.rp (aC v0)))] ?_
  refine aN ?_
  refine aU aD 4 ?_
  refine bS 1 ?_
  obtain ⟨x1, hx2, h0⟩ := aX h0
  refine dW (NL v0 _ hx2) hO ?_
  intro H hO
  refine bA ?_
  refine bG [(2, (aE (!x1)))] ?_
  refine bJ ?_
  obtain rfl := oI h0
  exact aG (Q_r hO)

theorem BY (r0 : (List aB)) (r : Bool) (h0 : sF r0 = some r) : dN Try.prog 76 [(eL aC r0)] (aE r) := by
  intro H0
  refine dG Try.func76 ?_
  have hO := aJ.start H0
  unfold sF at h0
  refine aT aD 1 [] [] ?_
  refine aN ?_
  refine aT aD 3 [] [(5, (aE (decide ((8 : Int) < (lN r0)))))] ?_
  refine bH h0 (fun h0 => ?_) (fun h0 => ?_)
  · refine bO aD 1 [(2, (aE false))] ?_
    refine bJ ?_
    obtain rfl := oI h0
    exact aG (aP (Q_r hO))
  refine bI ?_
  refine bG [(0, (eL aC r0))] ?_
  refine aN ?_
  refine aU aD 4 ?_
  refine bS 1 ?_
  obtain ⟨x2, hx3, h0⟩ := aX h0
  refine dW (qP r0 98 [] [] (fun y0 => tM y0) (fun y0 r h => NK y0 r h) _ hx3) hO ?_
  intro H hO
  refine bA ?_
  refine bG [(2, (aE (!x2)))] ?_
  refine bJ ?_
  obtain rfl := oI h0
  exact aG (Q_r hO)

theorem FM (t0 : (List aB)) (r : (Int × (List aB))) (h0 : rF t0 = some r) : yW Try.prog 101 [(.rp (eL aC t0))] (fun lo => (.fn (.func 102) [] [(.lp lo 0 0), (.rp (eL aC r.2))])) 1 [(eI r.1)] := by
  intro H0
  refine dG Try.func101 ?_
  have hO := aJ.start H0
  unfold rF at h0
  refine aT aD 1 [] [] ?_
  refine aN ?_
  refine aU aD 2 ?_
  refine sD 1 (eI 0) (by kernel_rfl) (by kernel_rfl) hO ?_
  intro lo1 H hO
  refine rQ 0 lo1 1 0 (eI 0) (eI (-1 : Int)) [(eI 0)] [(lo1, 1, [(eI (-1 : Int))])] hO rfl (by kernel_rfl) ?_
  intro H hO
  refine iT ?_
  refine bP [] [(2, (.lp lo1 0 0))] ?_
  refine aT aD 2 [0] [(1, (.fn (.func 102) [] [(.lp lo1 0 0), (.rp (eL aC t0))]))] ?_
  refine bJ ?_
  obtain rfl := oI h0
  exact aG (lW (x := (.fn (.func 102) [] [(.lp lo1 0 0), (.rp (eL aC t0))])) (by kernel_rfl) (aO.refl _) ⟨lo1, rfl, hO⟩)

theorem rD {σ : Type} (I : σ → Gs → Prop) (s0 : (List aB)) (f1_v : V) (f1 : σ → aB → Option (σ × Bool)) (f1_h : ∀ st a0 st2 r, f1 st a0 = some (st2, r) → DG Try.prog f1_v I st [(aC a0)] st2 (aE r)) (sg0 : σ) (r : (σ × Int)) (h0 : gL s0 f1 sg0 = some r) : xA Try.prog 100 I sg0 [(eL aC s0), f1_v] r.1 (eI r.2) := by
  intro H0 G0 hI hg
  refine dG Try.func100 ?_
  obtain ⟨G, hO, hI⟩ : ∃ G, aJ ⟨H0, List.map (fun p : Nat × dO => p.1) G0, G⟩ H0 [] ∧ I sg0 G := ⟨G0, aJ.GL hg, hI⟩
  clear hg
  unfold gL at h0
  refine aT aD 1 [] [] ?_
  refine dS (fun T H => ∃ sg : σ, ∃ G : Gs, Has T [] ∧ aJ ⟨H0, List.map (fun p : Nat × dO => p.1) G0, G⟩ H [] ∧ I sg G ∧ eR f1 sg = some r) ?_ ?_
  · clear hO hI h0
    rintro T H ⟨sg, G, hT, hO, hI, h0⟩
    refine aY hT ?_
    clear hT
    unfold eR at h0
    refine bO aD 1 [(4, (eI (-1 : Int)))] ?_
    refine bJ ?_
    obtain rfl := oI h0
    exact aG (lW (x := (eI (-1 : Int))) (by kernel_rfl) (aO.refl _) ⟨rfl, G, hI, hO.CJ⟩)
  refine aT aD 3 [] [(7, (eI (lN s0))), (8, (eI (0 : Int)))] ?_
  refine bY 0 ?_
  refine eU [(0, (eL aC s0)), (1, f1_v), (7, (eI (lN s0))), (8, (eI (0 : Int)))] ?_
  refine dU (fun T H => ∃ sg : σ, ∃ t7 : Int, ∃ t8 : Int, ∃ G : Gs, Has T [(0, (eL aC s0)), (1, f1_v), (7, (eI t7)), (8, (eI t8))] ∧ aJ ⟨H0, List.map (fun p : Nat × dO => p.1) G0, G⟩ H [] ∧ I sg G ∧ gI f1 sg s0 t7 t8 = some r) ?_ ⟨sg0, (lN s0), (0 : Int), G, .eq (by kernel_rfl), hO, hI, h0⟩
  clear hO hI h0
  rintro T H ⟨sg, t7, t8, G, hT, hO, hI, h0⟩
  refine aY hT ?_
  clear hT
  unfold gI at h0
  obtain ⟨rr0, hl0, h0⟩ := aX h0
  refine cS (by kernel_rfl) (fun (s : σ × Int) T H => ∃ G : Gs, Has T [(0, (eL aC s0)), (1, f1_v), (7, (eI t7)), (8, (eI s.2))] ∧ aJ ⟨H0, List.map (fun p : Nat × dO => p.1) G0, G⟩ H [] ∧ I s.1 G) hl0 ⟨G, .eq (by kernel_rfl), hO, hI⟩ ?_
  clear hO hI
  rintro k0 s out1 T H ⟨G, hT, hO, hI⟩ h1 ho0
  obtain ⟨sg, t8⟩ := s
  replace h1 : cB f1 s0 t7 sg t8 = some out1 := h1
  try dsimp only at hT
  refine aY hT ?_
  clear hT
  unfold cB at h1
  refine aT aD 1 [] [(9, (aE (decide (t8 < t7))))] ?_
  refine aN ?_
  refine bH h1 (fun h1 => ?_) (fun h1 => ?_)
  · refine bI ?_
    refine bG [(0, (eL aC s0)), (1, f1_v), (7, (eI t7)), (8, (eI t8))] ?_
    refine aN ?_
    refine bY 1 ?_
    refine aT aD 2 [] [(5, (eI t8))] ?_
    refine aN ?_
    refine aU aD 6 ?_
    obtain ⟨c2, h1⟩ := aV h1
    refine pN 5 [0 ≤ t8 ∧ t8 < (lN s0)] ⟨c2, trivial⟩ ?_
    obtain ⟨x3, hx4, h1⟩ := aX h1
    refine OY (I := I) f1_v [(aC (gD s0 t8))] (aE x3.2) (by kernel_rfl) (by kernel_rfl) (f1_h _ (gD s0 t8) x3.1 x3.2 hx4) hO hI ?_
    intro G H hO hI
    refine iT ?_
    refine bP [] [(16, (aE x3.2))] ?_
    refine bH h1 (fun h1 => ?_) (fun h1 => ?_)
    · refine bO aD 2 [(4, (eI t8))] ?_
      refine bJ ?_
      obtain rfl := oI h1
      obtain rfl : _ = rr0 := ho0
      replace h0 : some (x3.1, t8) = some r := h0
      obtain rfl := oI h0
      exact aG (bD (aP (aP (bD (aP (lW (x := (eI t8)) (by kernel_rfl) (aO.refl _) ⟨rfl, G, hI, hO.CJ⟩))))))
    refine bI ?_
    refine iD [(0, (eL aC s0)), (1, f1_v), (7, (eI t7)), (8, (eI t8))] ?_
    refine aG (aW (aF (?_)))
    refine aU aD 2 ?_
    refine bA ?_
    exact aG (aF (⟨rfl, _, (oI h1).symm, _, .eq (by kernel_rfl), hO, hI⟩))
  refine fA 0 ?_
  obtain rfl := oI h1
  obtain rfl : _ = rr0 := ho0
  replace h0 : eR f1 sg = some r := h0
  exact aG (aS (aS (bN (aF (⟨rfl, _, _, .eq (by kernel_rfl), hO, hI, h0⟩)))))

theorem DJ (v0 : aB) (lo1p : Nat) (t1 : Int) (t2 : (List aB)) (r : (Bool × Int)) (h0 : jI v0 t1 t2 = some r) : mA Try.prog 102 lo1p 1 [(eI t1)] [(eI r.2)] [(aC v0), (.lp lo1p 0 0), (.rp (eL aC t2))] (aE r.1) := by
  intro H0 hl0
  refine dG Try.func102 ?_
  have hO := aJ.sH hl0
  clear hl0
  unfold jI at h0
  refine aN ?_
  refine aU aD 2 ?_
  refine nY 3 (aC v0) (by kernel_rfl) (by kernel_rfl) ?_
  refine bA ?_
  refine bP [0] [(3, (.rp (aC v0)))] ?_
  refine aN ?_
  refine aU aD 3 ?_
  refine uM 0 lo1p 1 0 (eI t1) (eI t1) [(eI t1)] hO rfl ?_
  refine bS 2 ?_
  refine rQ 0 lo1p 1 0 (eI t1) (eI (wR (t1 + (1 : Int)))) [(eI t1)] [(lo1p, 1, [(eI (wR (t1 + (1 : Int))))])] hO rfl (by kernel_rfl) ?_
  intro H hO
  refine iT ?_
  refine bP [] [] ?_
  refine aN ?_
  refine fF (fG [7, 8, 11]) aD 7 ?_
  refine mX 2 ?_
  refine gU 0 lo1p 1 0 (eI (wR (t1 + (1 : Int)))) (eI (wR (t1 + (1 : Int)))) [(eI (wR (t1 + (1 : Int))))] hO rfl ?_
  obtain ⟨c1, h0⟩ := aV h0
  refine xC (Ds := [0 ≤ (wR (t1 + (1 : Int))) ∧ (wR (t1 + (1 : Int))) < (lN t2)]) (by kernel_rfl) ⟨c1, trivial⟩ ?_
  refine bG [(1, (.lp lo1p 0 0)), (4, (aE (!((decide (v0.Kind = ((gD t2 (wR (t1 + (1 : Int)))).Kind))) && ((decide (v0.Num = ((gD t2 (wR (t1 + (1 : Int)))).Num))) && ((lX v0.Text ((gD t2 (wR (t1 + (1 : Int)))).Text)) && true))))))] ?_
  refine bJ ?_
  obtain rfl := oI h0
  exact aG (lW (x := (aE (!((decide (v0.Kind = ((gD t2 (wR (t1 + (1 : Int)))).Kind))) && ((decide (v0.Num = ((gD t2 (wR (t1 + (1 : Int)))).Num))) && ((lX v0.Text ((gD t2 (wR (t1 + (1 : Int)))).Text)) && true)))))) (by kernel_rfl) (aO.refl _) ⟨rfl, hO.ext, hO.at 0 (by kernel_rfl), rfl⟩)

theorem rJ (x0 : Int) (r : Bool) (h0 : kI x0 = some r) : dN Try.prog 95 [(eI x0)] (aE r) := by
  intro H0
  refine dG Try.func95 ?_
  have hO := aJ.start H0
  unfold kI at h0
  refine aT aD 1 [] [] ?_
  refine bO aD 4 [(2, (aE (!decide (x0 = x0))))] ?_
  refine bJ ?_
  obtain rfl := oI h0
  exact aG (Q_r hO)

theorem DN (x0 : Int) (y1 : Int) (r : Int) (h0 : mQ x0 y1 = some r) : dN Try.prog 103 [(eI x0), (eI y1)] (eI r) := by
  intro H0
  refine dG Try.func103 ?_
  have hO := aJ.start H0
  unfold mQ at h0
  refine aT aD 1 [] [] ?_
  refine aN ?_
  refine aU aD 3 ?_
  refine bS 1 ?_
  obtain ⟨x1, hx2, h0⟩ := aX h0
  refine dW (rJ x0 _ hx2) hO ?_
  intro H hO
  refine bA ?_
  refine bP [] [(5, (aE x1))] ?_
  refine aN ?_
  refine aU aD 3 ?_
  refine bS 1 ?_
  obtain ⟨x4, hx5, h0⟩ := aX h0
  refine dW (rJ y1 _ hx5) hO ?_
  intro H hO
  refine bA ?_
  refine bP [] [(6, (aE x4))] ?_
  refine aN ?_
  refine aT aD 1 [5] [(11, (aE x1))] ?_
  refine bH h0 (fun h0 => ?_) (fun h0 => ?_)
  · refine aN ?_
    refine bO aD 1 [(12, (aE x4))] ?_
    refine bH h0 (fun h0 => ?_) (fun h0 => ?_)
    · refine bO aD 1 [(4, (eI (0 : Int)))] ?_
      refine bJ ?_
      obtain rfl := oI h0
      exact aG (aP (aP (Q_r hO)))
    refine bI ?_
    refine bG [] ?_
    refine bO aD 1 [(4, (eI (-1 : Int)))] ?_
    refine bJ ?_
    obtain rfl := oI h0
    exact aG (aP (Q_r hO))
  refine bI ?_
  refine bG [(0, (eI x0)), (1, (eI y1)), (6, (aE x4))] ?_
  refine aN ?_
  refine aT aD 1 [6] [(13, (aE x4))] ?_
  refine bH h0 (fun h0 => ?_) (fun h0 => ?_)
  · refine bO aD 1 [(4, (eI (1 : Int)))] ?_
    refine bJ ?_
    obtain rfl := oI h0
    exact aG (aP (Q_r hO))
  refine bI ?_
  refine bG [(0, (eI x0)), (1, (eI y1))] ?_
  refine aN ?_
  refine aT aD 3 [] [(16, (aE (decide (x0 < y1))))] ?_
  refine bH h0 (fun h0 => ?_) (fun h0 => ?_)
  · refine bO aD 1 [(4, (eI (-1 : Int)))] ?_
    refine bJ ?_
    obtain rfl := oI h0
    exact aG (aP (Q_r hO))
  refine bI ?_
  refine bG [(0, (eI x0)), (1, (eI y1))] ?_
  refine aN ?_
  refine bO aD 3 [(19, (aE (decide (y1 < x0))))] ?_
  refine bH h0 (fun h0 => ?_) (fun h0 => ?_)
  · refine bO aD 1 [(4, (eI (1 : Int)))] ?_
    refine bJ ?_
    obtain rfl := oI h0
    exact aG (aP (Q_r hO))
  refine bI ?_
  refine bG [] ?_
  refine bO aD 1 [(4, (eI (0 : Int)))] ?_
  refine bJ ?_
  obtain rfl := oI h0
  exact aG (Q_r hO)

theorem rX (x0 : Int) (r : Bool) (h0 : jZ x0 = some r) : dN Try.prog 114 [(eI x0)] (aE r) := by
  intro H0
  refine dG Try.func114 ?_
  have hO := aJ.start H0
  unfold jZ at h0
  refine aT aD 1 [] [] ?_
  refine bO aD 4 [(2, (aE (!decide (x0 = x0))))] ?_
  refine bJ ?_
  obtain rfl := oI h0
  exact aG (Q_r hO)

theorem wQ (x0 : Int) (y1 : Int) (r : Int) (h0 : fN x0 y1 = some r) : dN Try.prog 111 [(eI x0), (eI y1)] (eI r) := by
  intro H0
  refine dG Try.func111 ?_
  have hO := aJ.start H0
  unfold fN at h0
  refine aT aD 1 [] [] ?_
  refine aN ?_
  refine aU aD 3 ?_
  refine bS 1 ?_
  obtain ⟨x1, hx2, h0⟩ := aX h0
  refine dW (rX x0 _ hx2) hO ?_
  intro H hO
  refine bA ?_
  refine bP [] [(5, (aE x1))] ?_
  refine aN ?_
  refine aU aD 3 ?_
  refine bS 1 ?_
  obtain ⟨x4, hx5, h0⟩ := aX h0
  refine dW (rX y1 _ hx5) hO ?_
  intro H hO
  refine bA ?_
  refine bP [] [(6, (aE x4))] ?_
  refine aN ?_
  refine aT aD 1 [5] [(11, (aE x1))] ?_
  refine bH h0 (fun h0 => ?_) (fun h0 => ?_)
  · refine aN ?_
    refine bO aD 1 [(12, (aE x4))] ?_
    refine bH h0 (fun h0 => ?_) (fun h0 => ?_)
    · refine bO aD 1 [(4, (eI (0 : Int)))] ?_
      refine bJ ?_
      obtain rfl := oI h0
      exact aG (aP (aP (Q_r hO)))
    refine bI ?_
    refine bG [] ?_
    refine bO aD 1 [(4, (eI (-1 : Int)))] ?_
    refine bJ ?_
    obtain rfl := oI h0
    exact aG (aP (Q_r hO))
  refine bI ?_
  refine bG [(0, (eI x0)), (1, (eI y1)), (6, (aE x4))] ?_
  refine aN ?_
  refine aT aD 1 [6] [(13, (aE x4))] ?_
  refine bH h0 (fun h0 => ?_) (fun h0 => ?_)
  · refine bO aD 1 [(4, (eI (1 : Int)))] ?_
    refine bJ ?_
    obtain rfl := oI h0
    exact aG (aP (Q_r hO))
  refine bI ?_
  refine bG [(0, (eI x0)), (1, (eI y1))] ?_
  refine aN ?_
  refine aT aD 3 [] [(16, (aE (decide (x0 < y1))))] ?_
  refine bH h0 (fun h0 => ?_) (fun h0 => ?_)
  · refine bO aD 1 [(4, (eI (-1 : Int)))] ?_
    refine bJ ?_
    obtain rfl := oI h0
    exact aG (aP (Q_r hO))
  refine bI ?_
  refine bG [(0, (eI x0)), (1, (eI y1))] ?_
  refine aN ?_
  refine bO aD 3 [(19, (aE (decide (y1 < x0))))] ?_
  refine bH h0 (fun h0 => ?_) (fun h0 => ?_)
  · refine bO aD 1 [(4, (eI (1 : Int)))] ?_
    refine bJ ?_
    obtain rfl := oI h0
    exact aG (aP (Q_r hO))
  refine bI ?_
  refine bG [] ?_
  refine bO aD 1 [(4, (eI (0 : Int)))] ?_
  refine bJ ?_
  obtain rfl := oI h0
  exact aG (Q_r hO)

theorem uI (a0 : ByteArray) (b1 : ByteArray) (r : Int) (h0 : iZ a0 b1 = some r) : dN Try.prog 115 [(vU a0), (vU b1)] (eI r) := by
  intro H0
  refine dG Try.func115 ?_
  have hO := aJ.start H0
  unfold iZ at h0
  refine aT aD 1 [] [] ?_
  refine aN ?_
  refine aU aD 4 ?_
  refine bS 2 ?_
  refine YW 116 [(vU a0), (vU b1)] (eI (HK a0 b1)) (by kernel_rfl) (by kernel_rfl) (VG Try.func116 (by kernel_rfl) (by kernel_rfl) (by kernel_rfl) (by kernel_rfl) a0 b1) hO ?_
  intro H hO
  refine bA ?_
  refine bG [(4, (eI (HK a0 b1)))] ?_
  refine bJ ?_
  obtain rfl := oI h0
  exact aG (Q_r hO)

theorem DI (a0 : ByteArray) (b1 : ByteArray) (r : Int) (h0 : lE a0 b1 = some r) : dN Try.prog 112 [(vU a0), (vU b1)] (eI r) := by
  intro H0
  refine dG Try.func112 ?_
  have hO := aJ.start H0
  unfold lE at h0
  refine aT aD 1 [] [] ?_
  refine aN ?_
  refine aU aD 4 ?_
  refine bS 2 ?_
  obtain ⟨x1, hx2, h0⟩ := aX h0
  refine dW (uI a0 b1 _ hx2) hO ?_
  intro H hO
  refine bA ?_
  refine bG [(4, (eI x1))] ?_
  refine bJ ?_
  obtain rfl := oI h0
  exact aG (Q_r hO)

theorem GG (a0 : aB) (b1 : aB) (r : Int) (h0 : oA a0 b1 = some r) : dN Try.prog 104 [(aC a0), (aC b1)] (eI r) := by
  intro H0
  refine dG Try.func104 ?_
  have hO := aJ.start H0
  unfold oA at h0
  refine aN ?_
  refine aU aD 3 ?_
  refine nY 3 (aC a0) (by kernel_rfl) (by kernel_rfl) ?_
  refine nY 3 (aC b1) (by kernel_rfl) (by kernel_rfl) ?_
  refine bA ?_
  refine bG [(2, (.rp (aC a0))), (3, (.rp (aC b1)))] ?_
  refine aN ?_
  refine aU aD 7 ?_
  refine bS 1 ?_
  obtain ⟨⟨x1_0, x1_1⟩, hx2, h0⟩ := aX h0
  refine dW (uS a0 _ hx2) hO ?_
  intro H hO
  rcases x1_0 with _ | y4 | y5
  · replace h0 : ((kN b1).bind fun (x6_0, x6_1) => match x6_0 with | .none_ => (cond ((!x1_1) || (!x6_1)) (some (0 : Int)) (none)) | .k_number y9 => (cond ((!x1_1) || (!x6_1)) (some (0 : Int)) (some (1 : Int))) | .k_words y10 => (cond ((!x1_1) || (!x6_1)) (some (0 : Int)) (none))) = some r := h0
    refine bA ?_
    refine bP [2] [(5, (bB bF.none_)), (6, (aE x1_1))] ?_
    refine aN ?_
    refine aU aD 7 ?_
    refine bS 1 ?_
    obtain ⟨⟨x6_0, x6_1⟩, hx7, h0⟩ := aX h0
    refine dW (uS b1 _ hx7) hO ?_
    intro H hO
    rcases x6_0 with _ | y9 | y10
    · replace h0 : (cond ((!x1_1) || (!x6_1)) (some (0 : Int)) (none)) = some r := h0
      refine bA ?_
      refine bP [3] [(7, (bB bF.none_)), (8, (aE x6_1))] ?_
      refine aN ?_
      refine aT aD 6 [6, 8] [(28, (aE ((!x1_1) || (!x6_1))))] ?_
      refine bH h0 (fun h0 => ?_) (fun h0 => ?_)
      · refine bO aD 1 [(4, (eI (0 : Int)))] ?_
        refine bJ ?_
        obtain rfl := oI h0
        exact aG (aP (Q_r hO))
      refine bI ?_
      refine bG [(5, (bB bF.none_)), (7, (bB bF.none_))] ?_
      refine aT aD 7 [] [(9, (eI 0)), (10, (aE false))] ?_
      refine aT aD 7 [] [(11, (eI 0)), (12, (aE false))] ?_
      refine aN ?_
      refine bY 0 ?_
      refine aT aD 5 [] [(39, (aE false))] ?_
      refine lQ (false) (fun hc12 => ?_) (fun hc12 => ?_)
      · cases hc12
      · refine aT aD 2 [9, 10, 11, 39] [(47, (aE false))] ?_
        refine lQ (false) (fun hc13 => ?_) (fun hc13 => ?_)
        · cases hc13
        · refine bO aD 2 [(5, (bB bF.none_)), (7, (bB bF.none_)), (49, (aE false))] ?_
          refine lQ (false) (fun hc14 => ?_) (fun hc14 => ?_)
          · cases hc14
          · refine bI ?_
            refine iD [(5, (bB bF.none_)), (7, (bB bF.none_))] ?_
            refine aG (aW (aF (?_)))
            refine aN ?_
            refine fF (fG []) aD 6 ?_
            cases h0
    · replace h0 : (cond ((!x1_1) || (!x6_1)) (some (0 : Int)) (some (1 : Int))) = some r := h0
      refine bA ?_
      refine bP [3] [(7, (bB (bF.k_number y9))), (8, (aE x6_1))] ?_
      refine aN ?_
      refine aT aD 6 [6, 8] [(28, (aE ((!x1_1) || (!x6_1))))] ?_
      refine bH h0 (fun h0 => ?_) (fun h0 => ?_)
      · refine bO aD 1 [(4, (eI (0 : Int)))] ?_
        refine bJ ?_
        obtain rfl := oI h0
        exact aG (aP (Q_r hO))
      refine bI ?_
      refine bG [(5, (bB bF.none_)), (7, (bB (bF.k_number y9)))] ?_
      refine aT aD 7 [] [(9, (eI 0)), (10, (aE false))] ?_
      refine aT aD 7 [] [(11, (eI y9)), (12, (aE true))] ?_
      refine aN ?_
      refine bY 0 ?_
      refine aT aD 5 [] [(39, (aE false))] ?_
      refine lQ (false) (fun hc16 => ?_) (fun hc16 => ?_)
      · cases hc16
      · refine aT aD 2 [9, 10, 11, 39] [(47, (aE false))] ?_
        refine lQ (false) (fun hc17 => ?_) (fun hc17 => ?_)
        · cases hc17
        · refine bO aD 2 [(5, (bB bF.none_)), (7, (bB (bF.k_number y9))), (49, (aE true))] ?_
          refine lQ (true) (fun hc18 => ?_) (fun hc18 => ?_)
          · refine bO aD 1 [(4, (eI (1 : Int)))] ?_
            refine bJ ?_
            obtain rfl := oI h0
            exact aG (bD (aP (Q_r hO)))
          · cases hc18
    · replace h0 : (cond ((!x1_1) || (!x6_1)) (some (0 : Int)) (none)) = some r := h0
      refine bA ?_
      refine bP [3] [(7, (bB (bF.k_words y10))), (8, (aE x6_1))] ?_
      refine aN ?_
      refine aT aD 6 [6, 8] [(28, (aE ((!x1_1) || (!x6_1))))] ?_
      refine bH h0 (fun h0 => ?_) (fun h0 => ?_)
      · refine bO aD 1 [(4, (eI (0 : Int)))] ?_
        refine bJ ?_
        obtain rfl := oI h0
        exact aG (aP (Q_r hO))
      refine bI ?_
      refine bG [(5, (bB bF.none_)), (7, (bB (bF.k_words y10)))] ?_
      refine aT aD 7 [] [(9, (eI 0)), (10, (aE false))] ?_
      refine aT aD 7 [] [(11, (eI 0)), (12, (aE false))] ?_
      refine aN ?_
      refine bY 0 ?_
      refine aT aD 5 [] [(39, (aE false))] ?_
      refine lQ (false) (fun hc20 => ?_) (fun hc20 => ?_)
      · cases hc20
      · refine aT aD 2 [9, 10, 11, 39] [(47, (aE false))] ?_
        refine lQ (false) (fun hc21 => ?_) (fun hc21 => ?_)
        · cases hc21
        · refine bO aD 2 [(5, (bB bF.none_)), (7, (bB (bF.k_words y10))), (49, (aE false))] ?_
          refine lQ (false) (fun hc22 => ?_) (fun hc22 => ?_)
          · cases hc22
          · refine bI ?_
            refine iD [(5, (bB bF.none_)), (7, (bB (bF.k_words y10)))] ?_
            refine aG (aW (aF (?_)))
            refine aN ?_
            refine fF (fG []) aD 6 ?_
            cases h0
  · replace h0 : ((kN b1).bind fun (x23_0, x23_1) => match x23_0 with | .none_ => (cond ((!x1_1) || (!x23_1)) (some (0 : Int)) (some (-1 : Int))) | .k_number y26 => (cond ((!x1_1) || (!x23_1)) (some (0 : Int)) ((fN y4 y26).bind fun x33 => some x33)) | .k_words y27 => (cond ((!x1_1) || (!x23_1)) (some (0 : Int)) (some (-1 : Int)))) = some r := h0
    refine bA ?_
    refine bP [2] [(5, (bB (bF.k_number y4))), (6, (aE x1_1))] ?_
    refine aN ?_
    refine aU aD 7 ?_
    refine bS 1 ?_
    obtain ⟨⟨x23_0, x23_1⟩, hx24, h0⟩ := aX h0
    refine dW (uS b1 _ hx24) hO ?_
    intro H hO
    rcases x23_0 with _ | y26 | y27
    · replace h0 : (cond ((!x1_1) || (!x23_1)) (some (0 : Int)) (some (-1 : Int))) = some r := h0
      refine bA ?_
      refine bP [3] [(7, (bB bF.none_)), (8, (aE x23_1))] ?_
      refine aN ?_
      refine aT aD 6 [6, 8] [(28, (aE ((!x1_1) || (!x23_1))))] ?_
      refine bH h0 (fun h0 => ?_) (fun h0 => ?_)
      · refine bO aD 1 [(4, (eI (0 : Int)))] ?_
        refine bJ ?_
        obtain rfl := oI h0
        exact aG (aP (Q_r hO))
      refine bI ?_
      refine bG [(5, (bB (bF.k_number y4))), (7, (bB bF.none_))] ?_
      refine aT aD 7 [] [(9, (eI y4)), (10, (aE true))] ?_
      refine aT aD 7 [] [(11, (eI 0)), (12, (aE false))] ?_
      refine aN ?_
      refine bY 0 ?_
      refine aT aD 5 [] [(39, (aE false))] ?_
      refine lQ (false) (fun hc29 => ?_) (fun hc29 => ?_)
      · cases hc29
      · refine aT aD 2 [9, 10, 11, 39] [(47, (aE true))] ?_
        refine lQ (true) (fun hc30 => ?_) (fun hc30 => ?_)
        · refine bO aD 1 [(4, (eI (-1 : Int)))] ?_
          refine bJ ?_
          obtain rfl := oI h0
          exact aG (bD (aP (Q_r hO)))
        · cases hc30
    · replace h0 : (cond ((!x1_1) || (!x23_1)) (some (0 : Int)) ((fN y4 y26).bind fun x33 => some x33)) = some r := h0
      refine bA ?_
      refine bP [3] [(7, (bB (bF.k_number y26))), (8, (aE x23_1))] ?_
      refine aN ?_
      refine aT aD 6 [6, 8] [(28, (aE ((!x1_1) || (!x23_1))))] ?_
      refine bH h0 (fun h0 => ?_) (fun h0 => ?_)
      · refine bO aD 1 [(4, (eI (0 : Int)))] ?_
        refine bJ ?_
        obtain rfl := oI h0
        exact aG (aP (Q_r hO))
      refine bI ?_
      refine bG [(5, (bB (bF.k_number y4))), (7, (bB (bF.k_number y26)))] ?_
      refine aT aD 7 [] [(9, (eI y4)), (10, (aE true))] ?_
      refine aT aD 7 [] [(11, (eI y26)), (12, (aE true))] ?_
      refine aN ?_
      refine bY 0 ?_
      refine aT aD 5 [] [(39, (aE true))] ?_
      refine lQ (true) (fun hc32 => ?_) (fun hc32 => ?_)
      · refine aN ?_
        refine aU aD 4 ?_
        refine bS 2 ?_
        obtain ⟨x33, hx34, h0⟩ := aX h0
        refine dW (wQ y4 y26 _ hx34) hO ?_
        intro H hO
        refine bA ?_
        refine bG [(4, (eI x33))] ?_
        refine bJ ?_
        obtain rfl := oI h0
        exact aG (bD (aP (Q_r hO)))
      · cases hc32
    · replace h0 : (cond ((!x1_1) || (!x23_1)) (some (0 : Int)) (some (-1 : Int))) = some r := h0
      refine bA ?_
      refine bP [3] [(7, (bB (bF.k_words y27))), (8, (aE x23_1))] ?_
      refine aN ?_
      refine aT aD 6 [6, 8] [(28, (aE ((!x1_1) || (!x23_1))))] ?_
      refine bH h0 (fun h0 => ?_) (fun h0 => ?_)
      · refine bO aD 1 [(4, (eI (0 : Int)))] ?_
        refine bJ ?_
        obtain rfl := oI h0
        exact aG (aP (Q_r hO))
      refine bI ?_
      refine bG [(5, (bB (bF.k_number y4))), (7, (bB (bF.k_words y27)))] ?_
      refine aT aD 7 [] [(9, (eI y4)), (10, (aE true))] ?_
      refine aT aD 7 [] [(11, (eI 0)), (12, (aE false))] ?_
      refine aN ?_
      refine bY 0 ?_
      refine aT aD 5 [] [(39, (aE false))] ?_
      refine lQ (false) (fun hc37 => ?_) (fun hc37 => ?_)
      · cases hc37
      · refine aT aD 2 [9, 10, 11, 39] [(47, (aE true))] ?_
        refine lQ (true) (fun hc38 => ?_) (fun hc38 => ?_)
        · refine bO aD 1 [(4, (eI (-1 : Int)))] ?_
          refine bJ ?_
          obtain rfl := oI h0
          exact aG (bD (aP (Q_r hO)))
        · cases hc38
  · replace h0 : ((kN b1).bind fun (x39_0, x39_1) => match x39_0 with | .none_ => (cond ((!x1_1) || (!x39_1)) (some (0 : Int)) (none)) | .k_number y42 => (cond ((!x1_1) || (!x39_1)) (some (0 : Int)) (some (1 : Int))) | .k_words y43 => (cond ((!x1_1) || (!x39_1)) (some (0 : Int)) ((lE y5 y43).bind fun x56 => some x56))) = some r := h0
    refine bA ?_
    refine bP [2] [(5, (bB (bF.k_words y5))), (6, (aE x1_1))] ?_
    refine aN ?_
    refine aU aD 7 ?_
    refine bS 1 ?_
    obtain ⟨⟨x39_0, x39_1⟩, hx40, h0⟩ := aX h0
    refine dW (uS b1 _ hx40) hO ?_
    intro H hO
    rcases x39_0 with _ | y42 | y43
    · replace h0 : (cond ((!x1_1) || (!x39_1)) (some (0 : Int)) (none)) = some r := h0
      refine bA ?_
      refine bP [3] [(7, (bB bF.none_)), (8, (aE x39_1))] ?_
      refine aN ?_
      refine aT aD 6 [6, 8] [(28, (aE ((!x1_1) || (!x39_1))))] ?_
      refine bH h0 (fun h0 => ?_) (fun h0 => ?_)
      · refine bO aD 1 [(4, (eI (0 : Int)))] ?_
        refine bJ ?_
        obtain rfl := oI h0
        exact aG (aP (Q_r hO))
      refine bI ?_
      refine bG [(5, (bB (bF.k_words y5))), (7, (bB bF.none_))] ?_
      refine aT aD 7 [] [(9, (eI 0)), (10, (aE false))] ?_
      refine aT aD 7 [] [(11, (eI 0)), (12, (aE false))] ?_
      refine aN ?_
      refine bY 0 ?_
      refine aT aD 5 [] [(39, (aE false))] ?_
      refine lQ (false) (fun hc45 => ?_) (fun hc45 => ?_)
      · cases hc45
      · refine aT aD 2 [9, 10, 11, 39] [(47, (aE false))] ?_
        refine lQ (false) (fun hc46 => ?_) (fun hc46 => ?_)
        · cases hc46
        · refine bO aD 2 [(5, (bB (bF.k_words y5))), (7, (bB bF.none_)), (49, (aE false))] ?_
          refine lQ (false) (fun hc47 => ?_) (fun hc47 => ?_)
          · cases hc47
          · refine bI ?_
            refine iD [(5, (bB (bF.k_words y5))), (7, (bB bF.none_))] ?_
            refine aG (aW (aF (?_)))
            refine aN ?_
            refine fF (fG []) aD 6 ?_
            cases h0
    · replace h0 : (cond ((!x1_1) || (!x39_1)) (some (0 : Int)) (some (1 : Int))) = some r := h0
      refine bA ?_
      refine bP [3] [(7, (bB (bF.k_number y42))), (8, (aE x39_1))] ?_
      refine aN ?_
      refine aT aD 6 [6, 8] [(28, (aE ((!x1_1) || (!x39_1))))] ?_
      refine bH h0 (fun h0 => ?_) (fun h0 => ?_)
      · refine bO aD 1 [(4, (eI (0 : Int)))] ?_
        refine bJ ?_
        obtain rfl := oI h0
        exact aG (aP (Q_r hO))
      refine bI ?_
      refine bG [(5, (bB (bF.k_words y5))), (7, (bB (bF.k_number y42)))] ?_
      refine aT aD 7 [] [(9, (eI 0)), (10, (aE false))] ?_
      refine aT aD 7 [] [(11, (eI y42)), (12, (aE true))] ?_
      refine aN ?_
      refine bY 0 ?_
      refine aT aD 5 [] [(39, (aE false))] ?_
      refine lQ (false) (fun hc49 => ?_) (fun hc49 => ?_)
      · cases hc49
      · refine aT aD 2 [9, 10, 11, 39] [(47, (aE false))] ?_
        refine lQ (false) (fun hc50 => ?_) (fun hc50 => ?_)
        · cases hc50
        · refine bO aD 2 [(5, (bB (bF.k_words y5))), (7, (bB (bF.k_number y42))), (49, (aE true))] ?_
          refine lQ (true) (fun hc51 => ?_) (fun hc51 => ?_)
          · refine bO aD 1 [(4, (eI (1 : Int)))] ?_
            refine bJ ?_
            obtain rfl := oI h0
            exact aG (bD (aP (Q_r hO)))
          · cases hc51
    · replace h0 : (cond ((!x1_1) || (!x39_1)) (some (0 : Int)) ((lE y5 y43).bind fun x56 => some x56)) = some r := h0
      refine bA ?_
      refine bP [3] [(7, (bB (bF.k_words y43))), (8, (aE x39_1))] ?_
      refine aN ?_
      refine aT aD 6 [6, 8] [(28, (aE ((!x1_1) || (!x39_1))))] ?_
      refine bH h0 (fun h0 => ?_) (fun h0 => ?_)
      · refine bO aD 1 [(4, (eI (0 : Int)))] ?_
        refine bJ ?_
        obtain rfl := oI h0
        exact aG (aP (Q_r hO))
      refine bI ?_
      refine bG [(5, (bB (bF.k_words y5))), (7, (bB (bF.k_words y43)))] ?_
      refine aT aD 7 [] [(9, (eI 0)), (10, (aE false))] ?_
      refine aT aD 7 [] [(11, (eI 0)), (12, (aE false))] ?_
      refine aN ?_
      refine bY 0 ?_
      refine aT aD 5 [] [(39, (aE false))] ?_
      refine lQ (false) (fun hc53 => ?_) (fun hc53 => ?_)
      · cases hc53
      · refine aT aD 2 [9, 10, 11, 39] [(47, (aE false))] ?_
        refine lQ (false) (fun hc54 => ?_) (fun hc54 => ?_)
        · cases hc54
        · refine bO aD 2 [(5, (bB (bF.k_words y5))), (7, (bB (bF.k_words y43))), (49, (aE false))] ?_
          refine lQ (false) (fun hc55 => ?_) (fun hc55 => ?_)
          · cases hc55
          · refine bI ?_
            refine iD [(5, (bB (bF.k_words y5))), (7, (bB (bF.k_words y43)))] ?_
            refine aG (aW (aF (?_)))
            refine aN ?_
            refine fF (fG []) aD 6 ?_
            refine mX 4 ?_
            obtain ⟨x56, hx57, h0⟩ := aX h0
            refine CO (DI y5 y43 _ hx57) hO ?_
            intro H hO
            refine jB ?_
            refine bG [(4, (eI x56))] ?_
            refine bJ ?_
            obtain rfl := oI h0
            exact aG (Q_r hO)

theorem JH (a0 : (List aB)) (b1 : (List aB)) (r : Int) (h0 : qK a0 b1 = some r) : dN Try.prog 77 [(eL aC a0), (eL aC b1)] (eI r) := by
  intro H0
  refine dG Try.func77 ?_
  have hO := aJ.start H0
  unfold qK at h0
  refine aN ?_
  refine aU aD 2 ?_
  refine nY 1 (eL aC b1) (by kernel_rfl) (by kernel_rfl) ?_
  refine bA ?_
  refine bP [1] [(3, (.rp (eL aC b1)))] ?_
  refine aN ?_
  refine aN ?_
  refine aU aD 8 ?_
  refine bS 1 ?_
  obtain ⟨x1, hx2, h0⟩ := aX h0
  refine dW (BY a0 _ hx2) hO ?_
  intro H hO
  refine bS 5 ?_
  obtain ⟨x4, hx5, h0⟩ := aX h0
  refine rA [(10, false)] 76 [(eL aC b1)] (aE x4) (!(!x1)) (by kernel_rfl) (by kernel_rfl) (by kernel_rfl) (fun hb6 => (BY b1 _ (kE hx5 hb6))) hO ?_
  intro H hO
  refine bA ?_
  refine bP [] [(14, (aE ((!x1) || (!x4))))] ?_
  refine bH h0 (fun h0 => ?_) (fun h0 => ?_)
  · refine bO aD 1 [(4, (eI (0 : Int)))] ?_
    refine bJ ?_
    obtain rfl := oI h0
    exact aG (aP (Q_r hO))
  refine bI ?_
  refine bG [(0, (eL aC a0)), (3, (.rp (eL aC b1)))] ?_
  refine aT aD 6 [] [(5, (eI (if (lN b1) < (lN a0) then (lN b1) else (lN a0))))] ?_
  refine aN ?_
  refine fF (fG []) aD 7 ?_
  obtain ⟨c8, h0⟩ := aV h0
  refine cD 4 [0 ≤ (if (lN b1) < (lN a0) then (lN b1) else (lN a0)) ∧ (if (lN b1) < (lN a0) then (lN b1) else (lN a0)) ≤ (lN a0)] ⟨c8, trivial⟩ ?_
  obtain ⟨x9, hx10, h0⟩ := aX h0
  refine YI (L' := fun lo11 => [(lo11, 1, [(eI x9.1)])]) 1 [(eI x9.1)] 101 [(.rp (eL aC b1))] (fun lo11 => (.fn (.func 102) [] [(.lp lo11 0 0), (.rp (eL aC x9.2))])) (by kernel_rfl) (by kernel_rfl) (FM b1 _ hx10) hO (fun _ => by kernel_rfl) ?_
  intro lo11 H hO
  obtain ⟨x12, hx13, h0⟩ := aX h0
  refine XO (fun st G' => G' = up [(lo11, 1, [(eI st)])] ++ []) [(lo11, 1, [(eI x12.1)])] x9.1 x12.1 100 [(.sl false (Int.toNat (if (lN b1) < (lN a0) then (lN b1) else (lN a0))) (fun i => aC (List.getD a0 i default))), (.fn (.func 102) [] [(.lp lo11 0 0), (.rp (eL aC x9.2))])] (eI x12.2) (by kernel_rfl) (by kernel_rfl) (xA.sub (as0' := [(eL aC (List.take (Int.toNat (if (lN b1) < (lN a0) then (lN b1) else (lN a0))) a0)), (.fn (.func 102) [] [(.lp lo11 0 0), (.rp (eL aC x9.2))])]) (rD _ (List.take (Int.toNat (if (lN b1) < (lN a0) then (lN b1) else (lN a0))) a0) (.fn (.func 102) [] [(.lp lo11 0 0), (.rp (eL aC x9.2))]) (fun st y0 => (jI y0 st x9.2).bind fun o => some (o.2, o.1)) (fun st y0 st2 rr hr => (DJ y0 lo11 st x9.2 _ (aAq hr)).toV (ys := []) (zs := [(aC y0)]) (cs := [(.lp lo11 0 0), (.rp (eL aC x9.2))]) (fun Gx hG => ⟨up [], up [] ++ [], hG, rfl⟩)) _ _ hx13) ⟨XR (Int.toNat_le.2 (And.right c8)), aO.refl _, trivial⟩) hO rfl (fun _ h => h) ?_
  intro H hO
  refine jB ?_
  replace hO := hO.pick (L' := []) [] (by decide) (by kernel_rfl)
  refine bP [5] [(6, (eI x12.2))] ?_
  refine aN ?_
  refine aT aD 2 [] [(27, (aE (decide (x12.2 < (0 : Int)))))] ?_
  refine bH h0 (fun h0 => ?_) (fun h0 => ?_)
  · refine aN ?_
    refine aU aD 6 ?_
    refine bS 4 ?_
    obtain ⟨x15, hx16, h0⟩ := aX h0
    refine dW (DN (lN a0) (lN b1) _ hx16) hO ?_
    intro H hO
    refine bA ?_
    refine bG [(4, (eI x15))] ?_
    refine bJ ?_
    obtain rfl := oI h0
    exact aG (aP (Q_r hO))
  refine bI ?_
  refine bG [(0, (eL aC a0)), (3, (.rp (eL aC b1))), (6, (eI x12.2))] ?_
  refine aN ?_
  refine fF (fG [36, 37, 40, 41]) aD 10 ?_
  obtain ⟨c18, h0⟩ := aV h0
  obtain ⟨c19, h0⟩ := aV h0
  refine cD 8 [0 ≤ x12.2 ∧ x12.2 < (lN a0), 0 ≤ x12.2 ∧ x12.2 < (lN b1)] ⟨c18, c19, trivial⟩ ?_
  obtain ⟨x20, hx21, h0⟩ := aX h0
  refine CO (GG (gD a0 x12.2) (gD b1 x12.2) _ hx21) hO ?_
  intro H hO
  refine jB ?_
  refine bG [(4, (eI x20))] ?_
  refine bJ ?_
  obtain rfl := oI h0
  exact aG (Q_r hO)

theorem DW (l0 : (List aL)) (holds1_f : Nat) (holds1_a holds1_c : List V) (rO : (List aI) → Option Bool) (holds1_h : ∀ a0 r, rO a0 = some r → dN Try.prog holds1_f (holds1_a ++ [(eL aQ a0)] ++ holds1_c) (aE r)) (r : Bool) (h0 : qV l0 rO = some r) : dN Try.prog 56 [(eL aM l0), (.fn (.func holds1_f) holds1_a holds1_c)] (aE r) := by
  intro H0
  refine HO aD Try.func56 (by kernel_rfl) (by kernel_rfl) (by kernel_rfl) ?_
  have hO := aJ.start H0
  unfold qV at h0
  refine aN ?_
  refine aU aD 2 ?_
  refine nY 1 (.fn (.func holds1_f) holds1_a holds1_c) (by kernel_rfl) (by kernel_rfl) ?_
  refine sD 1 (aE false) (by kernel_rfl) (by kernel_rfl) hO ?_
  intro lo1 H hO
  refine iT ?_
  refine bP [1] [(3, (.rp (.fn (.func holds1_f) holds1_a holds1_c))), (4, (.lp lo1 0 0))] ?_
  refine aN ?_
  refine aT aD 3 [] [(11, (aE (decide ((4096 : Int) < (lN l0)))))] ?_
  refine bH h0 (fun h0 => ?_) (fun h0 => ?_)
  · refine aN ?_
    refine aU aD 1 ?_
    refine rQ 0 lo1 1 0 (aE false) (aE false) [(aE false)] [(lo1, 1, [(aE false)])] hO rfl (by kernel_rfl) ?_
    intro H hO
    refine iT ?_
    refine bG [(4, (.lp lo1 0 0))] ?_
    refine bJ ?_
    obtain rfl := oI h0
    exact aG (aP (QM0 (.inr rfl) (rs := [.cell 4 4]) (xs := [(aE false)]) (x := (aE false)) (by kernel_rfl) (HJ (lo := lo1) (k := 1) (y := (aE false)) (x := (aE false)) 0 hO (by kernel_rfl) (by kernel_rfl) (by kernel_rfl) (by kernel_rfl) uZ) (by kernel_rfl) ⟨rfl, hO.out⟩))
  refine bI ?_
  refine bG [(0, (eL aM l0)), (3, (.rp (.fn (.func holds1_f) holds1_a holds1_c))), (4, (.lp lo1 0 0))] ?_
  refine aN ?_
  refine aU aD 1 ?_
  refine AE 1 (.sl true 0 (fun _ => .bad)) (eL aC ([])) (by kernel_rfl) (by kernel_rfl) (by kernel_rfl) (lT) (by kernel_rfl) (by kernel_rfl) hO ?_
  intro lo3 H hO
  refine iT ?_
  refine bP [] [(5, (.lp lo3 0 0))] ?_
  refine aN ?_
  refine aU aD 2 ?_
  refine sD 1 (aE false) (by kernel_rfl) (by kernel_rfl) hO ?_
  intro lo4 H hO
  refine rQ 2 lo4 1 0 (aE false) (aE false) [(aE false)] [(lo1, 1, [(aE false)]), (lo3, 1, [(eL aC ([]))]), (lo4, 1, [(aE false)])] hO rfl (by kernel_rfl) ?_
  intro H hO
  refine iT ?_
  refine bP [] [(6, (.lp lo4 0 0))] ?_
  refine aN ?_
  refine aN ?_
  refine aU aD 2 ?_
  refine bS 1 ?_
  obtain ⟨x5, hx6, h0⟩ := aX h0
  refine dW (DS l0 _ hx6) hO ?_
  intro H hO
  refine iT ?_
  refine bP [0] [(13, (.fn (.func 91) [] [(.rp (eL aM x5))]))] ?_
  refine bY 0 ?_
  refine eU [(3, (.rp (.fn (.func holds1_f) holds1_a holds1_c))), (4, (.lp lo1 0 0)), (5, (.lp lo3 0 0)), (6, (.lp lo4 0 0)), (13, (.fn (.func 91) [] [(.rp (eL aM x5))]))] ?_
  refine dU (fun T H => ∃ t4 : Bool, ∃ mV : (List aB), ∃ jR : Bool, ∃ sR : (List aL), Has T [(3, (.rp (.fn (.func holds1_f) holds1_a holds1_c))), (4, (.lp lo1 0 0)), (5, (.lp lo3 0 0)), (6, (.lp lo4 0 0)), (13, (.fn (.func 91) [] [(.rp (eL aM sR))]))] ∧ aJ ⟨H0, [], []⟩ H [(lo1, 1, [(aE t4)]), (lo3, 1, [(eL aC mV)]), (lo4, 1, [(aE jR)])] ∧ vJ rO t4 mV jR sR = some r) ?_ ⟨false, [], false, x5, .eq (by kernel_rfl), hO, h0⟩
  clear hO h0
  rintro T H ⟨t4, mV, jR, sR, hT, hO, h0⟩
  refine aY (l := [(3, (.rp (.fn (.func holds1_f) holds1_a holds1_c))), (4, (.lp lo1 0 0)), (5, (.lp lo3 0 0)), (6, (.lp lo4 0 0)), (13, (.fn (.func 91) [] [(.rp (eL aM sR))]))]) hT ?_
  clear hT
  unfold vJ at h0
  obtain ⟨o0, hl0, h0⟩ := aX h0
  refine EC (fid := 91) (ys := []) (cs := [(.rp (eL aM sR))]) #[14, 15] (fun (A : yG) (b lL : Nat) (st : (Bool × (List aB) × Bool) ⊕ (Bool × (List aB) × Bool)) (G' : Gs) => Sum.elim (fun (s : Bool × (List aB) × Bool) => G' = (lL, .raw (kV b A .ready none)) :: (up [(lo1, 1, [(aE s.1)]), (lo3, 1, [(eL aC s.2.1)]), (lo4, 1, [(aE s.2.2)])] ++ [])) (fun (s : Bool × (List aB) × Bool) => G' = (lL, .raw (kV b A .done (some .ret))) :: (up [(lo1, 1, [(aE s.1)]), (lo3, 1, [(eL aC s.2.1)]), (lo4, 1, [(aE s.2.2)])] ++ [])) st) (.inl (t4, mV, jR)) o0 (.tup []) (by kernel_rfl) (by kernel_rfl) (by kernel_rfl) hO (fun _ _ => rfl) ?_ ?_
  · intro b lL
    clear hO h0
    refine yJ _ b (fun st t14 t15 => rnd (fun (s : Bool × (List aB) × Bool) => nD rO sR s.1 s.2.1 s.2.2 t14 t15) st) ?_ sR _ _ hl0
    intro st t14 t15 out1 rr hr
    obtain ⟨s, rfl, h1, rfl⟩ := VQ hr
    clear hr
    intro Hr Gr hi hg
    obtain ⟨t4, mV, jR⟩ := s
    dsimp only [Sum.elim_inl] at hi
    obtain rfl := hi
    replace h1 : nD rO sR t4 mV jR t14 t15 = some out1 := h1
    unfold nD at h1
    obtain ⟨E1, hE, hO⟩ := zA hg
    refine zO (EG (hO.gm 0 _ rfl).2 (by kernel_rfl) (by kernel_rfl) ?_)
    refine eU [(3, (.rp (.fn (.func holds1_f) holds1_a holds1_c))), (4, (.lp lo1 0 0)), (5, (.lp lo3 0 0)), (6, (.lp lo4 0 0)), (13, (.fn (.func 91) [] [(.rp (eL aM sR))])), (14, (eL aC t14)), (15, (eL aQ t15))] ?_
    refine aT aD 1 [13, 14] [(7, (eL aC t14))] ?_
    refine aU aD 1 ?_
    refine bA ?_
    refine iD [(3, (.rp (.fn (.func holds1_f) holds1_a holds1_c))), (4, (.lp lo1 0 0)), (5, (.lp lo3 0 0)), (6, (.lp lo4 0 0)), (7, (eL aC t14)), (8, (eL aQ t15))] ?_
    refine aG (⟨rfl, rfl, (hO.gm 0 _ rfl).2, ?_⟩)
    intro o1 ho1
    replace hO := hO.vB o1
    refine bY 1 ?_
    refine aN ?_
    refine aN ?_
    refine aU aD 18 ?_
    refine bS 1 ?_
    obtain ⟨x7, hx8, h1⟩ := aX h1
    refine dW (BY t14 _ hx8) hO ?_
    intro H hO
    refine bS 4 ?_
    refine xM [(19, false)] 2 lo4 1 0 (aE jR) (aE jR) [(aE jR)] (by kernel_rfl) (by kernel_rfl) hO (by kernel_rfl) (!(!x7)) (by kernel_rfl) (fun hb10 => rfl) ?_
    refine bS 6 ?_
    refine xM [(21, true), (19, false)] 1 lo3 1 0 (eL aC mV) (eL aC mV) [(eL aC mV)] (by kernel_rfl) (by kernel_rfl) hO (by kernel_rfl) (jR && (!(!x7))) (by kernel_rfl) (fun hb11 => rfl) ?_
    refine bS 8 ?_
    obtain ⟨x12, hx13, h1⟩ := aX h1
    refine rA [(21, true), (19, false)] 77 [(eL aC mV), (eL aC t14)] (eI x12) (jR && (!(!x7))) (by kernel_rfl) (by kernel_rfl) (by kernel_rfl) (fun hb14 => (JH mV t14 _ (kE hx13 hb14))) hO ?_
    intro H hO
    refine bS 15 ?_
    obtain ⟨x15, hx16, h1⟩ := aX h1
    refine rA [(28, false)] holds1_f (holds1_a ++ [(eL aQ t15)] ++ holds1_c) (aE x15) (!((!x7) || (jR && (decide ((0 : Int) ≤ x12))))) (by kernel_rfl) (by kernel_rfl) (by kernel_rfl) (fun hb17 => (holds1_h t15 _ (kE hx16 hb17))) hO ?_
    intro H hO
    refine bA ?_
    refine bP [3, 8] [(33, (aE (((!x7) || (jR && (decide ((0 : Int) ≤ x12)))) || (!x15))))] ?_
    refine bH h1 (fun h1 => ?_) (fun h1 => ?_)
    · refine aN ?_
      refine aU aD 1 ?_
      refine rQ 0 lo1 1 0 (aE t4) (aE false) [(aE t4)] [(lo1, 1, [(aE false)]), (lo3, 1, [(eL aC mV)]), (lo4, 1, [(aE jR)])] hO rfl (by kernel_rfl) ?_
      intro H hO
      refine iT ?_
      refine bP [7, 33] [] ?_
      refine bJ ?_
      refine iD [(4, (.lp lo1 0 0)), (5, (.lp lo3 0 0)), (6, (.lp lo4 0 0))] ?_
      obtain rfl := oI h1
      exact aG (aP (bD (⟨(nA hO hE ho1 .dead).1, rfl, _, rfl, (nA hO hE ho1 _).2⟩)))
    refine bI ?_
    refine bG [(4, (.lp lo1 0 0)), (5, (.lp lo3 0 0)), (6, (.lp lo4 0 0)), (7, (eL aC t14))] ?_
    refine aU aD 3 ?_
    refine bS 1 ?_
    refine rQ 1 lo3 1 0 (eL aC mV) (eL aC t14) [(eL aC mV)] [(lo1, 1, [(aE t4)]), (lo3, 1, [(eL aC t14)]), (lo4, 1, [(aE jR)])] hO rfl (by kernel_rfl) ?_
    intro H hO
    refine rQ 2 lo4 1 0 (aE jR) (aE true) [(aE jR)] [(lo1, 1, [(aE t4)]), (lo3, 1, [(eL aC t14)]), (lo4, 1, [(aE true)])] hO rfl (by kernel_rfl) ?_
    intro H hO
    refine iT ?_
    refine iD [(4, (.lp lo1 0 0)), (5, (.lp lo3 0 0)), (6, (.lp lo4 0 0))] ?_
    obtain rfl := oI h1
    exact aG (aW (⟨(nA hO hE ho1 .dead).1, rfl, _, rfl, (nA hO hE ho1 _).2⟩))
  · intro b lD19 lL H' G' hi hO
    rcases o0 with s | s
    · dsimp only [Sum.elim_inl] at hi
      obtain rfl := hi
      replace h0 : (some true) = some r := h0
      obtain ⟨hlL, hO⟩ := uY hO
      refine ⟨_, _, hlL, (by intro e; cases e), ?_⟩
      refine iD [(4, (.lp lo1 0 0))] ?_
      replace hO := hO.pick (L' := [(lo1, 1, [(aE s.1)])]) [0] (by decide) (by kernel_rfl)
      refine aG (aW (aF (?_)))
      refine aN ?_
      refine aU aD 1 ?_
      refine rQ 0 lo1 1 0 (aE s.1) (aE true) [(aE s.1)] [(lo1, 1, [(aE true)])] hO rfl (by kernel_rfl) ?_
      intro H hO
      refine iT ?_
      refine bG [(4, (.lp lo1 0 0))] ?_
      refine bJ ?_
      obtain rfl := oI h0
      have hD := (hO.gm 0 _ rfl).2
      replace hO := (hO.vB .dead).tZ
      exact aG (QM1 (.inr rfl) hD (rs := [.cell 4 4]) (xs := [(aE true)]) (x := (aE true)) (by kernel_rfl) (HJ (lo := lo1) (k := 1) (y := (aE true)) (x := (aE true)) 0 hO (by kernel_rfl) (by kernel_rfl) (by kernel_rfl) (by kernel_rfl) uZ) (by kernel_rfl) ⟨rfl, hO.out⟩)
    · dsimp only [Sum.elim_inr] at hi
      obtain rfl := hi
      replace h0 : (some s.1) = some r := h0
      obtain ⟨hlL, hO⟩ := uY hO
      refine ⟨_, _, hlL, (by intro e; cases e), ?_⟩
      refine bJ ?_
      replace hO := hO.pick (L' := [(lo1, 1, [(aE s.1)])]) [0] (by decide) (by kernel_rfl)
      obtain rfl := oI h0
      have hD := (hO.gm 0 _ rfl).2
      replace hO := (hO.vB .dead).tZ
      exact aG (bD (aP (QM1 (.inr rfl) hD (rs := [.cell 4 4]) (xs := [(aE s.1)]) (x := (aE s.1)) (by kernel_rfl) (HJ (lo := lo1) (k := 1) (y := (aE s.1)) (x := (aE s.1)) 0 hO (by kernel_rfl) (by kernel_rfl) (by kernel_rfl) (by kernel_rfl) uZ) (by kernel_rfl) ⟨rfl, hO.out⟩)))

theorem NM (n0 : Int) (r : Bool) (h0 : wC n0 = some r) : dN Try.prog 78 [(eI n0)] (aE r) := by
  intro H0
  refine dG Try.func78 ?_
  have hO := aJ.start H0
  unfold wC at h0
  refine aT aD 1 [] [] ?_
  refine bO aD 7 [(2, (aE ((decide (n0 ≤ (1048576 : Int))) && (decide ((-1048576 : Int) ≤ n0)))))] ?_
  refine bJ ?_
  obtain rfl := oI h0
  exact aG (Q_r hO)

theorem xD (f0 : (List aI)) (r : Bool) (h0 : mY f0 = some r) : dN Try.prog 57 [(eL aQ f0)] (aE r) := by
  intro H0
  refine dG Try.func57 ?_
  have hO := aJ.start H0
  unfold mY at h0
  refine aT aD 1 [] [] ?_
  refine aN ?_
  refine aT aD 3 [] [(8, (aE (decide ((1024 : Int) < (lN f0)))))] ?_
  refine bH h0 (fun h0 => ?_) (fun h0 => ?_)
  · refine bO aD 1 [(2, (aE false))] ?_
    refine bJ ?_
    obtain rfl := oI h0
    exact aG (aP (Q_r hO))
  refine bI ?_
  refine bG [(0, (eL aQ f0))] ?_
  refine aT aD 1 [] [(3, (eI (-2 : Int)))] ?_
  refine dS (fun T H => Has T [] ∧ aJ ⟨H0, [], []⟩ H [] ∧ tF  = some r) ?_ ?_
  · clear hO h0
    rintro T H ⟨hT, hO, h0⟩
    refine aY hT ?_
    clear hT
    unfold tF at h0
    refine bO aD 1 [(2, (aE true))] ?_
    refine bJ ?_
    obtain rfl := oI h0
    exact aG (Q_r hO)
  refine aT aD 3 [0] [(9, (eL aQ f0)), (10, (eI (lN f0))), (11, (eI (0 : Int)))] ?_
  refine bY 0 ?_
  refine eU [(3, (eI (-2 : Int))), (9, (eL aQ f0)), (10, (eI (lN f0))), (11, (eI (0 : Int)))] ?_
  refine dU (fun T H => ∃ oJ : Int, ∃ t9 : (List aI), ∃ t10 : Int, ∃ t11 : Int, Has T [(3, (eI oJ)), (9, (eL aQ t9)), (10, (eI t10)), (11, (eI t11))] ∧ aJ ⟨H0, [], []⟩ H [] ∧ wB oJ t9 t10 t11 = some r) ?_ ⟨(-2 : Int), f0, (lN f0), (0 : Int), .eq (by kernel_rfl), hO, h0⟩
  clear hO h0
  rintro T H ⟨oJ, t9, t10, t11, hT, hO, h0⟩
  refine aY hT ?_
  clear hT
  unfold wB at h0
  obtain ⟨rr0, hl0, h0⟩ := aX h0
  refine cS (by kernel_rfl) (fun (s : Int × Int) T H => Has T [(3, (eI s.1)), (9, (eL aQ t9)), (10, (eI t10)), (11, (eI s.2))] ∧ aJ ⟨H0, [], []⟩ H []) hl0 ⟨.eq (by kernel_rfl), hO⟩ ?_
  clear hO
  rintro k0 s out1 T H ⟨hT, hO⟩ h1 ho0
  obtain ⟨oJ, t11⟩ := s
  replace h1 : kX t9 t10 oJ t11 = some out1 := h1
  try dsimp only at hT
  refine aY hT ?_
  clear hT
  unfold kX at h1
  refine aT aD 1 [] [(12, (aE (decide (t11 < t10))))] ?_
  refine aN ?_
  refine bH h1 (fun h1 => ?_) (fun h1 => ?_)
  · refine bI ?_
    refine bG [(3, (eI oJ)), (9, (eL aQ t9)), (10, (eI t10)), (11, (eI t11))] ?_
    refine aN ?_
    refine bY 1 ?_
    refine aN ?_
    refine aU aD 4 ?_
    obtain ⟨c3, h1⟩ := aV h1
    refine pN 2 [0 ≤ t11 ∧ t11 < (lN t9)] ⟨c3, trivial⟩ ?_
    refine sD 2 (aQ (aI.mk 0 0)) (by kernel_rfl) (by kernel_rfl) hO ?_
    intro lo4 H hO
    refine rQ 0 lo4 2 0 (aQ (aI.mk 0 0)) (aQ (gD t9 t11)) [(aQ (aI.mk 0 0))] [(lo4, 2, [(aQ (gD t9 t11))])] hO rfl (by kernel_rfl) ?_
    intro H hO
    refine iT ?_
    refine bP [] [(5, (.lp lo4 0 0))] ?_
    refine aN ?_
    refine aN ?_
    refine aU aD 20 ?_
    refine bS 1 ?_
    refine uM 0 lo4 2 0 (aQ (gD t9 t11)) (eI ((gD t9 t11).At)) [(aQ (gD t9 t11))] hO rfl ?_
    refine bS 6 ?_
    refine xM [(19, false)] 0 lo4 2 0 (aQ (gD t9 t11)) (eI ((gD t9 t11).At)) [(aQ (gD t9 t11))] (by kernel_rfl) (by kernel_rfl) hO (by kernel_rfl) (!(decide (((gD t9 t11).At) ≤ oJ))) (by kernel_rfl) (fun hb5 => rfl) ?_
    refine bS 11 ?_
    refine xM [(24, false)] 0 lo4 2 0 (aQ (gD t9 t11)) (eI ((gD t9 t11).Net)) [(aQ (gD t9 t11))] (by kernel_rfl) (by kernel_rfl) hO (by kernel_rfl) (!((decide (((gD t9 t11).At) ≤ oJ)) || (decide ((1125899906842624 : Int) ≤ ((gD t9 t11).At))))) (by kernel_rfl) (fun hb6 => rfl) ?_
    refine bS 16 ?_
    refine xM [(29, false)] 0 lo4 2 0 (aQ (gD t9 t11)) (eI ((gD t9 t11).Net)) [(aQ (gD t9 t11))] (by kernel_rfl) (by kernel_rfl) hO (by kernel_rfl) (!(((decide (((gD t9 t11).At) ≤ oJ)) || (decide ((1125899906842624 : Int) ≤ ((gD t9 t11).At)))) || (decide (((gD t9 t11).Net) = (0 : Int))))) (by kernel_rfl) (fun hb7 => rfl) ?_
    obtain ⟨x8, hx9, h1⟩ := aX h1
    refine rA [(29, false)] 78 [(eI ((gD t9 t11).Net))] (aE x8) (!(((decide (((gD t9 t11).At) ≤ oJ)) || (decide ((1125899906842624 : Int) ≤ ((gD t9 t11).At)))) || (decide (((gD t9 t11).Net) = (0 : Int))))) (by kernel_rfl) (by kernel_rfl) (by kernel_rfl) (fun hb10 => (NM ((gD t9 t11).Net) _ (kE hx9 hb10))) hO ?_
    intro H hO
    refine bA ?_
    refine bP [3] [(34, (aE ((((decide (((gD t9 t11).At) ≤ oJ)) || (decide ((1125899906842624 : Int) ≤ ((gD t9 t11).At)))) || (decide (((gD t9 t11).Net) = (0 : Int)))) || (!x8))))] ?_
    refine bH h1 (fun h1 => ?_) (fun h1 => ?_)
    · refine aN ?_
      refine aU aD 1 ?_
      refine bA ?_
      refine iD [(2, (aE false))] ?_
      replace hO := hO.pick (L' := []) [] (by decide) (by kernel_rfl)
      refine aG (aF (?_))
      refine bJ ?_
      obtain rfl := oI h1
      obtain rfl : _ = rr0 := ho0
      replace h0 : some false = some r := h0
      obtain rfl := oI h0
      exact aG (aP (bD (aP (aP (bD (aP (Q_r hO)))))))
    refine bI ?_
    refine bG [(5, (.lp lo4 0 0)), (9, (eL aQ t9)), (10, (eI t10)), (11, (eI t11))] ?_
    refine aU aD 3 ?_
    refine bS 1 ?_
    refine uM 0 lo4 2 0 (aQ (gD t9 t11)) (eI ((gD t9 t11).At)) [(aQ (gD t9 t11))] hO rfl ?_
    refine bA ?_
    refine iD [(3, (eI ((gD t9 t11).At))), (9, (eL aQ t9)), (10, (eI t10)), (11, (eI t11))] ?_
    replace hO := hO.pick (L' := []) [] (by decide) (by kernel_rfl)
    refine aG (aW (aF (?_)))
    refine aU aD 2 ?_
    refine bA ?_
    exact aG (aF (⟨rfl, _, (oI h1).symm, .eq (by kernel_rfl), hO⟩))
  refine fA 0 ?_
  obtain rfl := oI h1
  obtain rfl : _ = rr0 := ho0
  replace h0 : tF  = some r := h0
  exact aG (aS (aS (bN (aF (⟨rfl, .eq (by kernel_rfl), hO, h0⟩)))))

theorem GJ (l0 : (List aL)) (r : Bool) (h0 : sS l0 = some r) : dN Try.prog 31 [(eL aM l0)] (aE r) := by
  intro H0
  refine dG Try.func31 ?_
  have hO := aJ.start H0
  unfold sS at h0
  refine aT aD 1 [] [] ?_
  refine aN ?_
  refine aU aD 3 ?_
  refine bS 1 ?_
  obtain ⟨x1, hx2, h0⟩ := aX h0
  refine dW (DW l0 57 [] [] (fun y0 => mY y0) (fun y0 r h => xD y0 r h) _ hx2) hO ?_
  intro H hO
  refine bA ?_
  refine bG [(2, (aE x1))] ?_
  refine bJ ?_
  obtain rfl := oI h0
  exact aG (Q_r hO)

theorem KC (f0 : (List aI)) (r : Int) (h0 : sC f0 = some r) : dN Try.prog 59 [(eL aQ f0)] (eI r) := by
  intro H0
  refine dG Try.func59 ?_
  have hO := aJ.start H0
  unfold sC at h0
  refine aT aD 1 [] [] ?_
  refine aN ?_
  refine aN ?_
  refine aU aD 8 ?_
  refine bS 1 ?_
  obtain ⟨x1, hx2, h0⟩ := aX h0
  refine dW (xD f0 _ hx2) hO ?_
  intro H hO
  refine bA ?_
  refine bP [] [(14, (aE ((!x1) || (decide ((lN f0) = (0 : Int))))))] ?_
  refine bH h0 (fun h0 => ?_) (fun h0 => ?_)
  · refine bO aD 1 [(2, (eI (0 : Int)))] ?_
    refine bJ ?_
    obtain rfl := oI h0
    exact aG (aP (Q_r hO))
  refine bI ?_
  refine bG [(0, (eL aQ f0))] ?_
  refine aT aD 2 [] [(3, (eI (0 : Int))), (4, (eI (0 : Int)))] ?_
  refine dS (fun T H => ∃ v3 : Int, ∃ gR : Int, Has T [(0, (eL aQ f0)), (3, (eI v3)), (4, (eI gR))] ∧ aJ ⟨H0, [], []⟩ H [] ∧ nQ f0 v3 gR = some r) ?_ ?_
  · clear hO h0
    rintro T H ⟨v3, gR, hT, hO, h0⟩
    refine aY hT ?_
    clear hT
    unfold nQ at h0
    refine dS (fun T H => ∃ gR : Int, Has T [(4, (eI gR))] ∧ aJ ⟨H0, [], []⟩ H [] ∧ pZ gR = some r) ?_ ?_
    · clear hO h0
      rintro T H ⟨gR, hT, hO, h0⟩
      refine aY hT ?_
      clear hT
      unfold pZ at h0
      refine bO aD 2 [(2, (eI gR))] ?_
      refine bJ ?_
      obtain rfl := oI h0
      exact aG (Q_r hO)
    refine aT aD 3 [0] [(24, (eL aQ f0)), (25, (eI (lN f0))), (26, (eI (0 : Int)))] ?_
    refine bY 0 ?_
    refine eU [(3, (eI v3)), (4, (eI gR)), (24, (eL aQ f0)), (25, (eI (lN f0))), (26, (eI (0 : Int)))] ?_
    refine dU (fun T H => ∃ v3 : Int, ∃ gR : Int, ∃ t24 : (List aI), ∃ t25 : Int, ∃ t26 : Int, Has T [(3, (eI v3)), (4, (eI gR)), (24, (eL aQ t24)), (25, (eI t25)), (26, (eI t26))] ∧ aJ ⟨H0, [], []⟩ H [] ∧ qG v3 gR t24 t25 t26 = some r) ?_ ⟨v3, gR, f0, (lN f0), (0 : Int), .eq (by kernel_rfl), hO, h0⟩
    clear hO h0
    rintro T H ⟨v3, gR, t24, t25, t26, hT, hO, h0⟩
    refine aY hT ?_
    clear hT
    unfold qG at h0
    obtain ⟨rr0, hl0, h0⟩ := aX h0
    refine cS (by kernel_rfl) (fun (s : Int × Int × Int) T H => Has T [(3, (eI s.1)), (4, (eI s.2.1)), (24, (eL aQ t24)), (25, (eI t25)), (26, (eI s.2.2))] ∧ aJ ⟨H0, [], []⟩ H []) hl0 ⟨.eq (by kernel_rfl), hO⟩ ?_
    clear hO
    rintro k0 s out1 T H ⟨hT, hO⟩ h1 ho0
    obtain ⟨v3, gR, t26⟩ := s
    replace h1 : lI t24 t25 v3 gR t26 = some out1 := h1
    try dsimp only at hT
    refine aY hT ?_
    clear hT
    unfold lI at h1
    refine aT aD 1 [] [(27, (aE (decide (t26 < t25))))] ?_
    refine aN ?_
    refine bH h1 (fun h1 => ?_) (fun h1 => ?_)
    · refine bI ?_
      refine bG [(3, (eI v3)), (4, (eI gR)), (24, (eL aQ t24)), (25, (eI t25)), (26, (eI t26))] ?_
      refine aN ?_
      refine bY 1 ?_
      refine aN ?_
      refine aU aD 4 ?_
      obtain ⟨c6, h1⟩ := aV h1
      refine pN 2 [0 ≤ t26 ∧ t26 < (lN t24)] ⟨c6, trivial⟩ ?_
      refine sD 2 (aQ (aI.mk 0 0)) (by kernel_rfl) (by kernel_rfl) hO ?_
      intro lo7 H hO
      refine rQ 0 lo7 2 0 (aQ (aI.mk 0 0)) (aQ (gD t24 t26)) [(aQ (aI.mk 0 0))] [(lo7, 2, [(aQ (gD t24 t26))])] hO rfl (by kernel_rfl) ?_
      intro H hO
      refine iT ?_
      refine bP [] [(6, (.lp lo7 0 0))] ?_
      refine aN ?_
      refine aU aD 5 ?_
      refine bS 2 ?_
      refine uM 0 lo7 2 0 (aQ (gD t24 t26)) (eI ((gD t24 t26).Net)) [(aQ (gD t24 t26))] hO rfl ?_
      refine bA ?_
      replace hO := hO.pick (L' := []) [] (by decide) (by kernel_rfl)
      refine bP [3, 6] [(3, (eI (wR (v3 + ((gD t24 t26).Net)))))] ?_
      refine aU aD 4 ?_
      refine bA ?_
      refine iD [(3, (eI (wR (v3 + ((gD t24 t26).Net))))), (4, (eI (if (wR (v3 + ((gD t24 t26).Net))) < gR then (wR (v3 + ((gD t24 t26).Net))) else gR))), (24, (eL aQ t24)), (25, (eI t25)), (26, (eI t26))] ?_
      refine aG (aW (aF (?_)))
      refine aU aD 2 ?_
      refine bA ?_
      exact aG (aF (⟨rfl, _, (oI h1).symm, .eq (by kernel_rfl), hO⟩))
    refine fA 0 ?_
    obtain rfl := oI h1
    obtain rfl : _ = rr0 := ho0
    replace h0 : pZ gR = some r := h0
    exact aG (aS (aS (bN (aF (⟨rfl, _, .eq (by kernel_rfl), hO, h0⟩)))))
  refine aN ?_
  refine aU aD 5 ?_
  obtain ⟨c8, h0⟩ := aV h0
  refine mU [0 ≤ (0 : Int) ∧ (0 : Int) < (lN f0)] ⟨c8, trivial⟩ ?_
  refine bP [] [(19, (aE (decide (((gD f0 (0 : Int)).At) = (-1 : Int)))))] ?_
  refine bH h0 (fun h0 => ?_) (fun h0 => ?_)
  · refine aU aD 5 ?_
    obtain ⟨c10, h0⟩ := aV h0
    refine mU [0 ≤ (0 : Int) ∧ (0 : Int) < (lN f0)] ⟨c10, trivial⟩ ?_
    exact aG (aF (⟨rfl, _, _, .eq (by kernel_rfl), hO, h0⟩))
  refine bI ?_
  exact aG (aF (⟨rfl, _, _, .eq (by kernel_rfl), hO, h0⟩))

theorem HY (f0 : (List aI)) (r : Bool) (h0 : oO f0 = some r) : dN Try.prog 58 [(eL aQ f0)] (aE r) := by
  intro H0
  refine dG Try.func58 ?_
  have hO := aJ.start H0
  unfold oO at h0
  refine aT aD 1 [] [] ?_
  refine aN ?_
  refine aU aD 8 ?_
  refine bS 1 ?_
  obtain ⟨x1, hx2, h0⟩ := aX h0
  refine dW (xD f0 _ hx2) hO ?_
  intro H hO
  refine bS 4 ?_
  obtain ⟨x4, hx5, h0⟩ := aX h0
  refine rA [(5, true)] 59 [(eL aQ f0)] (eI x4) x1 (by kernel_rfl) (by kernel_rfl) (by kernel_rfl) (fun hb6 => (KC f0 _ (kE hx5 hb6))) hO ?_
  intro H hO
  refine bA ?_
  refine bG [(2, (aE (x1 && (decide ((0 : Int) ≤ x4)))))] ?_
  refine bJ ?_
  obtain rfl := oI h0
  exact aG (Q_r hO)

theorem NB (l0 : (List aL)) (r : Bool) (h0 : rP l0 = some r) : dN Try.prog 32 [(eL aM l0)] (aE r) := by
  intro H0
  refine dG Try.func32 ?_
  have hO := aJ.start H0
  unfold rP at h0
  refine aT aD 1 [] [] ?_
  refine aN ?_
  refine aU aD 3 ?_
  refine bS 1 ?_
  obtain ⟨x1, hx2, h0⟩ := aX h0
  refine dW (DW l0 58 [] [] (fun y0 => oO y0) (fun y0 r h => HY y0 r h) _ hx2) hO ?_
  intro H hO
  refine bA ?_
  refine bG [(2, (aE x1))] ?_
  refine bJ ?_
  obtain rfl := oI h0
  exact aG (Q_r hO)

theorem DL (x0 : Int) (r : Int) (h0 : mR x0 = some r) : dN Try.prog 88 [(cQ .u64 x0)] (eI r) := by
  intro H0
  refine dG Try.func88 ?_
  have hO := aJ.start H0
  unfold mR at h0
  refine aT aD 1 [] [(2, (eI (0 : Int)))] ?_
  refine dS (fun T H => ∃ x0 : Int, ∃ n2 : Int, Has T [(0, (cQ .u64 x0)), (2, (eI n2))] ∧ aJ ⟨H0, [], []⟩ H [] ∧ jY x0 n2 = some r) ?_ ?_
  · clear hO h0
    rintro T H ⟨x0, n2, hT, hO, h0⟩
    refine aY hT ?_
    clear hT
    unfold jY at h0
    refine dS (fun T H => ∃ x0 : Int, ∃ n2 : Int, Has T [(0, (cQ .u64 x0)), (2, (eI n2))] ∧ aJ ⟨H0, [], []⟩ H [] ∧ jX x0 n2 = some r) ?_ ?_
    · clear hO h0
      rintro T H ⟨x0, n2, hT, hO, h0⟩
      refine aY hT ?_
      clear hT
      unfold jX at h0
      refine dS (fun T H => ∃ x0 : Int, ∃ n2 : Int, Has T [(0, (cQ .u64 x0)), (2, (eI n2))] ∧ aJ ⟨H0, [], []⟩ H [] ∧ kU x0 n2 = some r) ?_ ?_
      · clear hO h0
        rintro T H ⟨x0, n2, hT, hO, h0⟩
        refine aY hT ?_
        clear hT
        unfold kU at h0
        refine aN ?_
        refine aU aD 7 ?_
        obtain ⟨c1, h0⟩ := aV h0
        refine mU [0 ≤ (IntKind.u8.wrap x0) ∧ (IntKind.u8.wrap x0) < ((ByteArray.size (⟨#[0, 1, 2, 2, 3, 3, 3, 3, 4, 4, 4, 4, 4, 4, 4, 4, 5, 5, 5, 5, 5, 5, 5, 5, 5, 5, 5, 5, 5, 5, 5, 5, 6, 6, 6, 6, 6, 6, 6, 6, 6, 6, 6, 6, 6, 6, 6, 6, 6, 6, 6, 6, 6, 6, 6, 6, 6, 6, 6, 6, 6, 6, 6, 6, 7, 7, 7, 7, 7, 7, 7, 7, 7, 7, 7, 7, 7, 7, 7, 7, 7, 7, 7, 7, 7, 7, 7, 7, 7, 7, 7, 7, 7, 7, 7, 7, 7, 7, 7, 7, 7, 7, 7, 7, 7, 7, 7, 7, 7, 7, 7, 7, 7, 7, 7, 7, 7, 7, 7, 7, 7, 7, 7, 7, 7, 7, 7, 7, 8, 8, 8, 8, 8, 8, 8, 8, 8, 8, 8, 8, 8, 8, 8, 8, 8, 8, 8, 8, 8, 8, 8, 8, 8, 8, 8, 8, 8, 8, 8, 8, 8, 8, 8, 8, 8, 8, 8, 8, 8, 8, 8, 8, 8, 8, 8, 8, 8, 8, 8, 8, 8, 8, 8, 8, 8, 8, 8, 8, 8, 8, 8, 8, 8, 8, 8, 8, 8, 8, 8, 8, 8, 8, 8, 8, 8, 8, 8, 8, 8, 8, 8, 8, 8, 8, 8, 8, 8, 8, 8, 8, 8, 8, 8, 8, 8, 8, 8, 8, 8, 8, 8, 8, 8, 8, 8, 8, 8, 8, 8, 8, 8, 8, 8, 8, 8, 8, 8, 8, 8, 8, 8, 8, 8, 8, 8, 8]⟩ : ByteArray) : Nat) : Int)] ⟨c1, trivial⟩ ?_
        refine bG [(2, (eI (wR (n2 + (wR (bt (⟨#[0, 1, 2, 2, 3, 3, 3, 3, 4, 4, 4, 4, 4, 4, 4, 4, 5, 5, 5, 5, 5, 5, 5, 5, 5, 5, 5, 5, 5, 5, 5, 5, 6, 6, 6, 6, 6, 6, 6, 6, 6, 6, 6, 6, 6, 6, 6, 6, 6, 6, 6, 6, 6, 6, 6, 6, 6, 6, 6, 6, 6, 6, 6, 6, 7, 7, 7, 7, 7, 7, 7, 7, 7, 7, 7, 7, 7, 7, 7, 7, 7, 7, 7, 7, 7, 7, 7, 7, 7, 7, 7, 7, 7, 7, 7, 7, 7, 7, 7, 7, 7, 7, 7, 7, 7, 7, 7, 7, 7, 7, 7, 7, 7, 7, 7, 7, 7, 7, 7, 7, 7, 7, 7, 7, 7, 7, 7, 7, 8, 8, 8, 8, 8, 8, 8, 8, 8, 8, 8, 8, 8, 8, 8, 8, 8, 8, 8, 8, 8, 8, 8, 8, 8, 8, 8, 8, 8, 8, 8, 8, 8, 8, 8, 8, 8, 8, 8, 8, 8, 8, 8, 8, 8, 8, 8, 8, 8, 8, 8, 8, 8, 8, 8, 8, 8, 8, 8, 8, 8, 8, 8, 8, 8, 8, 8, 8, 8, 8, 8, 8, 8, 8, 8, 8, 8, 8, 8, 8, 8, 8, 8, 8, 8, 8, 8, 8, 8, 8, 8, 8, 8, 8, 8, 8, 8, 8, 8, 8, 8, 8, 8, 8, 8, 8, 8, 8, 8, 8, 8, 8, 8, 8, 8, 8, 8, 8, 8, 8, 8, 8, 8, 8, 8, 8, 8, 8]⟩ : ByteArray) (IntKind.u8.wrap x0)))))))] ?_
        refine bJ ?_
        obtain rfl := oI h0
        exact aG (Q_r hO)
      refine aT aD 2 [] [(14, (aE (decide ((256 : Int) ≤ x0))))] ?_
      refine bH h0 (fun h0 => ?_) (fun h0 => ?_)
      · refine aN ?_
        refine aU aD 3 ?_
        obtain ⟨c3, h0⟩ := aV h0
        refine mU [0 ≤ (8 : Int)] ⟨c3, trivial⟩ ?_
        refine bG [(0, (cQ .u64 (Int.fdiv x0 (2 ^ (min (Int.toNat (8 : Int)) 64))))), (2, (eI n2))] ?_
        refine aU aD 3 ?_
        refine bA ?_
        exact aG (aF (⟨rfl, _, _, .eq (by kernel_rfl), hO, h0⟩))
      refine bI ?_
      exact aG (aF (⟨rfl, _, _, .eq (by kernel_rfl), hO, h0⟩))
    refine aT aD 2 [] [(8, (aE (decide ((65536 : Int) ≤ x0))))] ?_
    refine bH h0 (fun h0 => ?_) (fun h0 => ?_)
    · refine aN ?_
      refine aU aD 3 ?_
      obtain ⟨c5, h0⟩ := aV h0
      refine mU [0 ≤ (16 : Int)] ⟨c5, trivial⟩ ?_
      refine bG [(0, (cQ .u64 (Int.fdiv x0 (2 ^ (min (Int.toNat (16 : Int)) 64))))), (2, (eI n2))] ?_
      refine aU aD 3 ?_
      refine bA ?_
      exact aG (aF (⟨rfl, _, _, .eq (by kernel_rfl), hO, h0⟩))
    refine bI ?_
    exact aG (aF (⟨rfl, _, _, .eq (by kernel_rfl), hO, h0⟩))
  refine aT aD 2 [] [(4, (aE (decide ((4294967296 : Int) ≤ x0))))] ?_
  refine bH h0 (fun h0 => ?_) (fun h0 => ?_)
  · refine aN ?_
    refine aU aD 3 ?_
    obtain ⟨c7, h0⟩ := aV h0
    refine mU [0 ≤ (32 : Int)] ⟨c7, trivial⟩ ?_
    refine bG [(0, (cQ .u64 (Int.fdiv x0 (2 ^ (min (Int.toNat (32 : Int)) 64)))))] ?_
    refine aU aD 1 ?_
    refine bA ?_
    exact aG (aF (⟨rfl, _, _, .eq (by kernel_rfl), hO, h0⟩))
  refine bI ?_
  exact aG (aF (⟨rfl, _, _, .eq (by kernel_rfl), hO, h0⟩))

theorem yP (x0 : Int) (r : Int) (h0 : jL x0 = some r) : dN Try.prog 61 [(cQ .u64 x0)] (eI r) := by
  intro H0
  refine dG Try.func61 ?_
  have hO := aJ.start H0
  unfold jL at h0
  refine aT aD 1 [] [] ?_
  refine aN ?_
  refine lQ (false) (fun hc1 => ?_) (fun hc1 => ?_)
  · cases hc1
  · refine bI ?_
    refine aG (aF ?_)
    refine aN ?_
    refine aU aD 3 ?_
    refine bS 1 ?_
    obtain ⟨x2, hx3, h0⟩ := aX h0
    refine dW (DL x0 _ hx3) hO ?_
    intro H hO
    refine bA ?_
    refine bG [(2, (eI x2))] ?_
    refine bJ ?_
    obtain rfl := oI h0
    exact aG (Q_r hO)

theorem fM (x0 : Int) (y1 : Int) (r : Bool) (h0 : cW x0 y1 = some r) : dN Try.prog 70 [(eI x0), (eI y1)] (aE r) := by
  intro H0
  refine dG Try.func70 ?_
  have hO := aJ.start H0
  unfold cW at h0
  refine aT aD 1 [] [] ?_
  refine aN ?_
  refine aU aD 13 ?_
  refine bS 1 ?_
  obtain ⟨x1, hx2, h0⟩ := aX h0
  refine dW (rJ x0 _ hx2) hO ?_
  intro H hO
  refine bS 4 ?_
  obtain ⟨x4, hx5, h0⟩ := aX h0
  refine rA [(7, true)] 95 [(eI y1)] (aE x4) x1 (by kernel_rfl) (by kernel_rfl) (by kernel_rfl) (fun hb6 => (rJ y1 _ (kE hx5 hb6))) hO ?_
  intro H hO
  refine bA ?_
  refine bG [(4, (aE ((x1 && (!x4)) || (decide (x0 < y1)))))] ?_
  refine bJ ?_
  obtain rfl := oI h0
  exact aG (Q_r hO)

theorem tG (lo0p : Nat) (aA : (List Int)) (a1 : Int) (b2 : Int) (r : List Int) (h0 : fZ aA a1 b2 = some r) : mA Try.prog 79 lo0p 1 (List.map (eI) aA) (List.map (eI) r) [(.msl 1 lo0p 0 (List.length aA)), (eI a1), (eI b2)] (.tup []) := by
  intro H0 hl0
  refine dG Try.func79 ?_
  have hO := aJ.sH hl0
  clear hl0
  obtain ⟨N0, hN0⟩ : ∃ n, n = List.length aA := ⟨_, rfl⟩
  have hN : List.length aA = N0 := hN0.symm
  unfold fZ at h0
  refine aT aD 3 [] [(6, (eI (wR (a1 + (1 : Int)))))] ?_
  refine bY 0 ?_
  refine eU [(0, (.msl 1 lo0p 0 (List.length aA))), (1, (eI a1)), (2, (eI b2)), (6, (eI (wR (a1 + (1 : Int)))))] ?_
  refine dU (fun T H => ∃ aA : List Int, ∃ i6 : Int, Has T [(0, (.msl 1 lo0p 0 (List.length aA))), (1, (eI a1)), (2, (eI b2)), (6, (eI i6))] ∧ aJ ⟨H0, [lo0p], []⟩ H [(lo0p, 1, List.map (eI) aA)] ∧ List.length aA = N0 ∧ iN aA a1 b2 i6 = some r) ?_ ⟨aA, wR (a1 + (1 : Int)), .eq (by kernel_rfl), hO, hN, h0⟩
  clear hO hN h0
  rintro T H ⟨aA, i6, hT, hO, hN, h0⟩
  refine aY hT ?_
  clear hT
  unfold iN at h0
  obtain ⟨rr0, hl0, h0⟩ := aX h0
  refine cS (by kernel_rfl) (fun (s : List Int × Int) T H => Has T [(0, (.msl 1 lo0p 0 (List.length s.1))), (1, (eI a1)), (2, (eI b2)), (6, (eI s.2))] ∧ aJ ⟨H0, [lo0p], []⟩ H [(lo0p, 1, List.map (eI) s.1)] ∧ List.length s.1 = N0) hl0 ⟨.eq (by kernel_rfl), hO, hN⟩ ?_
  clear hO hN
  rintro k0 s out1 T H ⟨hT, hO, hN⟩ h1 ho0
  obtain ⟨aA, i6⟩ := s
  replace h1 : cY a1 b2 aA i6 = some out1 := h1
  try dsimp only at hT
  refine aY hT ?_
  clear hT
  unfold cY at h1
  refine aN ?_
  refine aT aD 3 [] [(12, (aE (decide (i6 < b2))))] ?_
  refine bH h1 (fun h1 => ?_) (fun h1 => ?_)
  · refine bI ?_
    refine bG [(0, (.msl 1 lo0p 0 (List.length aA))), (1, (eI a1)), (2, (eI b2)), (6, (eI i6))] ?_
    refine dS (fun T H => ∃ aA : List Int, Has T [(0, (.msl 1 lo0p 0 (List.length aA))), (1, (eI a1)), (2, (eI b2)), (6, (eI i6))] ∧ aJ ⟨H0, [lo0p], []⟩ H [(lo0p, 1, List.map (eI) aA)] ∧ List.length aA = N0 ∧ fT aA a1 b2 i6 = some out1) ?_ ?_
    · clear hO hN h1
      rintro T H ⟨aA, hT, hO, hN, h1⟩
      refine aY hT ?_
      clear hT
      unfold fT at h1
      refine aU aD 3 ?_
      refine bA ?_
      exact aG (aF (⟨rfl, _, (oI h1).symm, .eq (by kernel_rfl), hO, hN⟩))
    refine bY 1 ?_
    refine aT aD 2 [] [(7, (eI i6))] ?_
    refine bY 2 ?_
    refine eU [(0, (.msl 1 lo0p 0 (List.length aA))), (1, (eI a1)), (2, (eI b2)), (6, (eI i6)), (7, (eI i6))] ?_
    refine dU (fun T H => ∃ aA : List Int, ∃ j7 : Int, Has T [(0, (.msl 1 lo0p 0 (List.length aA))), (1, (eI a1)), (2, (eI b2)), (6, (eI i6)), (7, (eI j7))] ∧ aJ ⟨H0, [lo0p], []⟩ H [(lo0p, 1, List.map (eI) aA)] ∧ List.length aA = N0 ∧ iQ aA a1 b2 i6 j7 = some out1) ?_ ⟨aA, i6, .eq (by kernel_rfl), hO, hN, h1⟩
    clear hO hN h1
    rintro T H ⟨aA, j7, hT, hO, hN, h1⟩
    refine aY hT ?_
    clear hT
    unfold iQ at h1
    obtain ⟨rr1, hl1, h1⟩ := aX h1
    refine cS (by kernel_rfl) (fun (s : List Int × Int) T H => Has T [(0, (.msl 1 lo0p 0 (List.length s.1))), (1, (eI a1)), (2, (eI b2)), (6, (eI i6)), (7, (eI s.2))] ∧ aJ ⟨H0, [lo0p], []⟩ H [(lo0p, 1, List.map (eI) s.1)] ∧ List.length s.1 = N0) hl1 ⟨.eq (by kernel_rfl), hO, hN⟩ ?_
    clear hO hN
    rintro k1 s out2 T H ⟨hT, hO, hN⟩ h2 ho1
    obtain ⟨aA, j7⟩ := s
    replace h2 : eN a1 b2 i6 aA j7 = some out2 := h2
    try dsimp only at hT
    refine aY hT ?_
    clear hT
    unfold eN at h2
    refine aN ?_
    refine aN ?_
    obtain ⟨c2, h2⟩ := aV h2
    obtain ⟨c3, h2⟩ := aV h2
    obtain ⟨x4, hx5, h2⟩ := aX h2
    refine fF (fG []) aD 15 ?_
    refine mT (K := fun T H => Has (lift T) [(0, (.msl 1 lo0p 0 (List.length aA))), (1, (eI a1)), (2, (eI b2)), (6, (eI i6)), (7, (eI j7)), (30, (aE ((decide (a1 < j7)) && x4)))] ∧ aJ ⟨H0, [lo0p], []⟩ H [(lo0p, 1, List.map (eI) aA)]) ?_ ?_
    · refine mX 4 ?_
      refine lB (t := 19) (e := decide (a1 < j7)) (by kernel_rfl) (fun hg6 => ?_) (fun hg6 => ?_)
      · refine cD 7 [0 ≤ j7 ∧ j7 < (lN aA)] ⟨(c2 hg6), trivial⟩ ?_
        refine iY 0 lo0p 1 (0 + Int.toNat j7) (eI (gD aA j7)) (eI (gD aA j7)) (List.map (eI) aA) (by kernel_rfl) (by kernel_rfl) (by kernel_rfl) hO (by kernel_rfl) (bX (c2 hg6)) ?_
        refine cD 12 [0 ≤ (wR (j7 - (1 : Int))) ∧ (wR (j7 - (1 : Int))) < (lN aA)] ⟨(c3 hg6), trivial⟩ ?_
        refine iY 0 lo0p 1 (0 + Int.toNat (wR (j7 - (1 : Int)))) (eI (gD aA (wR (j7 - (1 : Int))))) (eI (gD aA (wR (j7 - (1 : Int))))) (List.map (eI) aA) (by kernel_rfl) (by kernel_rfl) (by kernel_rfl) hO (by kernel_rfl) (bX (c3 hg6)) ?_
        refine mJ 70 [(eI (gD aA j7)), (eI (gD aA (wR (j7 - (1 : Int)))))] (aE x4) (by kernel_rfl) (by kernel_rfl) (fM (gD aA j7) (gD aA (wR (j7 - (1 : Int)))) _ (kE hx5 hg6)) hO ?_
        intro H hO
        refine jB ?_
        exact ⟨⟨[(0, (.msl 1 lo0p 0 (List.length aA))), (1, (eI a1)), (2, (eI b2)), (6, (eI i6)), (7, (eI j7)), (30, (aE x4))], by kernel_rfl, rfl, ⟨aO.refl _, aO.refl _, aO.refl _, aO.refl _, aO.refl _, aO.eq (congrArg aE (jD hg6 rfl).symm), trivial⟩⟩, hO⟩
      refine jB ?_
      exact ⟨⟨[(0, (.msl 1 lo0p 0 (List.length aA))), (1, (eI a1)), (2, (eI b2)), (6, (eI i6)), (7, (eI j7)), (30, (aE false))], by kernel_rfl, rfl, ⟨aO.refl _, aO.refl _, aO.refl _, aO.refl _, aO.refl _, aO.eq (congrArg aE (jD hg6 rfl).symm), trivial⟩⟩, hO⟩
    · rintro T H ⟨hT, hO⟩
      refine cV hT ?_
      clear hT
      refine aG (aF ?_)
      refine bH h2 (fun h2 => ?_) (fun h2 => ?_)
      · refine bI ?_
        refine bG [(0, (.msl 1 lo0p 0 (List.length aA))), (1, (eI a1)), (2, (eI b2)), (6, (eI i6)), (7, (eI j7))] ?_
        refine aN ?_
        refine bY 3 ?_
        refine fF (fG []) aD 18 ?_
        obtain ⟨c8, h2⟩ := aV h2
        refine cD 9 [0 ≤ (wR (j7 - (1 : Int))) ∧ (wR (j7 - (1 : Int))) < (lN aA)] ⟨c8, trivial⟩ ?_
        refine gU 0 lo0p 1 (0 + Int.toNat (wR (j7 - (1 : Int)))) (eI (gD aA (wR (j7 - (1 : Int))))) (eI (gD aA (wR (j7 - (1 : Int))))) (List.map (eI) aA) hO (bX c8) ?_
        obtain ⟨c9, h2⟩ := aV h2
        refine cD 13 [0 ≤ j7 ∧ j7 < (lN aA)] ⟨c9, trivial⟩ ?_
        refine gU 0 lo0p 1 (0 + Int.toNat j7) (eI (gD aA j7)) (eI (gD aA j7)) (List.map (eI) aA) hO (bX c9) ?_
        obtain ⟨c10, h2⟩ := aV h2
        refine cD 15 [0 ≤ j7 ∧ j7 < (lN aA)] ⟨c10, trivial⟩ ?_
        refine kH 0 lo0p 1 (0 + Int.toNat j7) (eI (gD aA j7)) (eI (gD aA (wR (j7 - (1 : Int))))) (List.map (eI) aA) [(lo0p, 1, List.map (eI) (List.set aA (Int.toNat j7) (gD aA (wR (j7 - (1 : Int))))))] hO (bX c10) (by simp only [List.set, gQ]) ?_
        intro H hO
        replace hN : List.length (List.set aA (Int.toNat j7) (gD aA (wR (j7 - (1 : Int))))) = N0 := by simpa using hN
        obtain ⟨c11, h2⟩ := aV h2
        refine cD 17 [0 ≤ (wR (j7 - (1 : Int))) ∧ (wR (j7 - (1 : Int))) < (lN aA)] ⟨c11, trivial⟩ ?_
        refine kH 0 lo0p 1 (0 + Int.toNat (wR (j7 - (1 : Int)))) (eI (gD (List.set aA (Int.toNat j7) (gD aA (wR (j7 - (1 : Int))))) (wR (j7 - (1 : Int))))) (eI (gD aA j7)) (List.map (eI) (List.set aA (Int.toNat j7) (gD aA (wR (j7 - (1 : Int)))))) [(lo0p, 1, List.map (eI) (List.set (List.set aA (Int.toNat j7) (gD aA (wR (j7 - (1 : Int))))) (Int.toNat (wR (j7 - (1 : Int)))) (gD aA j7)))] hO (lP c11 (by simp [])) (by simp only [List.set, gQ]) ?_
        intro H hO
        replace hN : List.length (List.set (List.set aA (Int.toNat j7) (gD aA (wR (j7 - (1 : Int))))) (Int.toNat (wR (j7 - (1 : Int)))) (gD aA j7)) = N0 := by simpa using hN
        refine mW (by kernel_rfl) ?_
        refine cV (l := [(0, (.msl 1 lo0p 0 (List.length (List.set (List.set aA (Int.toNat j7) (gD aA (wR (j7 - (1 : Int))))) (Int.toNat (wR (j7 - (1 : Int)))) (gD aA j7))))), (1, (eI a1)), (2, (eI b2)), (6, (eI i6)), (7, (eI j7))]) ⟨[(0, (.msl 1 lo0p 0 (List.length aA))), (1, (eI a1)), (2, (eI b2)), (6, (eI i6)), (7, (eI j7))], by kernel_rfl, rfl, ⟨aO.eq (by simp []), aO.refl _, aO.refl _, aO.refl _, aO.refl _, trivial⟩⟩ ?_
        refine aG (aW (aF (?_)))
        refine aU aD 3 ?_
        refine bA ?_
        exact aG (aF (⟨rfl, _, (oI h2).symm, .eq (by kernel_rfl), hO, hN⟩))
      refine fA 2 ?_
      obtain rfl := oI h2
      obtain rfl : _ = rr1 := ho1
      replace h1 : fT aA a1 b2 i6 = some out1 := h1
      exact aG (aS (aS (bN (aW (aF (⟨rfl, _, .eq (by kernel_rfl), hO, hN, h1⟩))))))
  refine fA 0 ?_
  obtain rfl := oI h1
  obtain rfl : _ = rr0 := ho0
  replace h0 : some aA = some r := h0
  obtain rfl := oI h0
  exact aG (aS (aS (bN (yL (x := (.tup [])) (by kernel_rfl) (aO.refl _) ⟨rfl, hO.ext, hO.at 0 (by kernel_rfl), by first | rfl | (simp only [List.length_map]; exact hN.trans hN0)⟩))))

theorem pH (lo0p : Nat) (aA : (List Int)) (lo1 : Int) (hi2 : Int) (bE : Int) (r : List Int) (h0 : eV aA lo1 hi2 bE = some r) : mA Try.prog 105 lo0p 1 (List.map (eI) aA) (List.map (eI) r) [(.msl 1 lo0p 0 (List.length aA)), (eI lo1), (eI hi2), (eI bE)] (.tup []) := by
  intro H0 hl0
  refine dG Try.func105 ?_
  have hO := aJ.sH hl0
  clear hl0
  obtain ⟨N0, hN0⟩ : ∃ n, n = List.length aA := ⟨_, rfl⟩
  have hN : List.length aA = N0 := hN0.symm
  unfold eV at h0
  refine aT aD 2 [1] [(8, (eI lo1))] ?_
  refine bY 0 ?_
  refine eU [(0, (.msl 1 lo0p 0 (List.length aA))), (2, (eI hi2)), (3, (eI bE)), (8, (eI lo1))] ?_
  refine dU (fun T H => ∃ aA : List Int, ∃ bZ : Int, Has T [(0, (.msl 1 lo0p 0 (List.length aA))), (2, (eI hi2)), (3, (eI bE)), (8, (eI bZ))] ∧ aJ ⟨H0, [lo0p], []⟩ H [(lo0p, 1, List.map (eI) aA)] ∧ List.length aA = N0 ∧ jU aA hi2 bE bZ = some r) ?_ ⟨aA, lo1, .eq (by kernel_rfl), hO, hN, h0⟩
  clear hO hN h0
  rintro T H ⟨aA, bZ, hT, hO, hN, h0⟩
  refine aY hT ?_
  clear hT
  unfold jU at h0
  obtain ⟨rr0, hl0, h0⟩ := aX h0
  refine cS (by kernel_rfl) (fun (s : List Int × Int) T H => Has T [(0, (.msl 1 lo0p 0 (List.length s.1))), (2, (eI hi2)), (3, (eI bE)), (8, (eI s.2))] ∧ aJ ⟨H0, [lo0p], []⟩ H [(lo0p, 1, List.map (eI) s.1)] ∧ List.length s.1 = N0) hl0 ⟨.eq (by kernel_rfl), hO, hN⟩ ?_
  clear hO hN
  rintro k0 s out1 T H ⟨hT, hO, hN⟩ h1 ho0
  obtain ⟨aA, bZ⟩ := s
  replace h1 : cU hi2 bE aA bZ = some out1 := h1
  try dsimp only at hT
  refine aY hT ?_
  clear hT
  unfold cU at h1
  refine bY 1 ?_
  refine aT aD 4 [] [(9, (eI (wR ((wR ((2 : Int) * bZ)) + (1 : Int)))))] ?_
  refine aN ?_
  refine aT aD 3 [] [(16, (aE (decide (hi2 ≤ (wR ((wR ((2 : Int) * bZ)) + (1 : Int)))))))] ?_
  refine bH h1 (fun h1 => ?_) (fun h1 => ?_)
  · refine fA 0 ?_
    obtain rfl := oI h1
    obtain rfl : _ = rr0 := ho0
    replace h0 : some aA = some r := h0
    obtain rfl := oI h0
    exact aG (aS (qZ (by kernel_rfl) (aS (bN (yL (x := (.tup [])) (by kernel_rfl) (aO.refl _) ⟨rfl, hO.ext, hO.at 0 (by kernel_rfl), by first | rfl | (simp only [List.length_map]; exact hN.trans hN0)⟩)))))
  refine bI ?_
  refine bG [(0, (.msl 1 lo0p 0 (List.length aA))), (2, (eI hi2)), (3, (eI bE)), (8, (eI bZ)), (9, (eI (wR ((wR ((2 : Int) * bZ)) + (1 : Int)))))] ?_
  refine dS (fun T H => ∃ aA : List Int, ∃ dP : Int, Has T [(0, (.msl 1 lo0p 0 (List.length aA))), (2, (eI hi2)), (3, (eI bE)), (8, (eI bZ)), (9, (eI dP))] ∧ aJ ⟨H0, [lo0p], []⟩ H [(lo0p, 1, List.map (eI) aA)] ∧ List.length aA = N0 ∧ fV aA hi2 bE bZ dP = some out1) ?_ ?_
  · clear hO hN h1
    rintro T H ⟨aA, dP, hT, hO, hN, h1⟩
    refine aY hT ?_
    clear hT
    unfold fV at h1
    refine aN ?_
    refine aN ?_
    refine fF (fG [51]) aD 14 ?_
    obtain ⟨c2, h1⟩ := aV h1
    refine cD 5 [0 ≤ (wR (bE + bZ)) ∧ (wR (bE + bZ)) < (lN aA)] ⟨c2, trivial⟩ ?_
    refine gU 0 lo0p 1 (0 + Int.toNat (wR (bE + bZ))) (eI (gD aA (wR (bE + bZ)))) (eI (gD aA (wR (bE + bZ)))) (List.map (eI) aA) hO (bX c2) ?_
    obtain ⟨c3, h1⟩ := aV h1
    refine cD 11 [0 ≤ (wR (bE + dP)) ∧ (wR (bE + dP)) < (lN aA)] ⟨c3, trivial⟩ ?_
    refine gU 0 lo0p 1 (0 + Int.toNat (wR (bE + dP))) (eI (gD aA (wR (bE + dP)))) (eI (gD aA (wR (bE + dP)))) (List.map (eI) aA) hO (bX c3) ?_
    obtain ⟨x4, hx5, h1⟩ := aX h1
    refine CO (fM (gD aA (wR (bE + bZ))) (gD aA (wR (bE + dP))) _ hx5) hO ?_
    intro H hO
    refine jB ?_
    refine bP [] [(52, (aE (!x4)))] ?_
    refine bH h1 (fun h1 => ?_) (fun h1 => ?_)
    · refine bJ ?_
      obtain rfl := oI h1
      obtain rfl : _ = rr0 := ho0
      replace h0 : some aA = some r := h0
      obtain rfl := oI h0
      exact aG (aP (bD (aP (bD (lW (x := (.tup [])) (by kernel_rfl) (aO.refl _) ⟨rfl, hO.ext, hO.at 0 (by kernel_rfl), by first | rfl | (simp only [List.length_map]; exact hN.trans hN0)⟩)))))
    refine bI ?_
    refine bG [(0, (.msl 1 lo0p 0 (List.length aA))), (2, (eI hi2)), (3, (eI bE)), (8, (eI bZ)), (9, (eI dP))] ?_
    refine aN ?_
    refine fF (fG []) aD 24 ?_
    obtain ⟨c8, h1⟩ := aV h1
    refine cD 13 [0 ≤ (wR (bE + dP)) ∧ (wR (bE + dP)) < (lN aA)] ⟨c8, trivial⟩ ?_
    refine gU 0 lo0p 1 (0 + Int.toNat (wR (bE + dP))) (eI (gD aA (wR (bE + dP)))) (eI (gD aA (wR (bE + dP)))) (List.map (eI) aA) hO (bX c8) ?_
    obtain ⟨c9, h1⟩ := aV h1
    refine cD 19 [0 ≤ (wR (bE + bZ)) ∧ (wR (bE + bZ)) < (lN aA)] ⟨c9, trivial⟩ ?_
    refine gU 0 lo0p 1 (0 + Int.toNat (wR (bE + bZ))) (eI (gD aA (wR (bE + bZ)))) (eI (gD aA (wR (bE + bZ)))) (List.map (eI) aA) hO (bX c9) ?_
    obtain ⟨c10, h1⟩ := aV h1
    refine cD 21 [0 ≤ (wR (bE + bZ)) ∧ (wR (bE + bZ)) < (lN aA)] ⟨c10, trivial⟩ ?_
    refine kH 0 lo0p 1 (0 + Int.toNat (wR (bE + bZ))) (eI (gD aA (wR (bE + bZ)))) (eI (gD aA (wR (bE + dP)))) (List.map (eI) aA) [(lo0p, 1, List.map (eI) (List.set aA (Int.toNat (wR (bE + bZ))) (gD aA (wR (bE + dP)))))] hO (bX c10) (by simp only [List.set, gQ]) ?_
    intro H hO
    replace hN : List.length (List.set aA (Int.toNat (wR (bE + bZ))) (gD aA (wR (bE + dP)))) = N0 := by simpa using hN
    obtain ⟨c11, h1⟩ := aV h1
    refine cD 23 [0 ≤ (wR (bE + dP)) ∧ (wR (bE + dP)) < (lN aA)] ⟨c11, trivial⟩ ?_
    refine kH 0 lo0p 1 (0 + Int.toNat (wR (bE + dP))) (eI (gD (List.set aA (Int.toNat (wR (bE + bZ))) (gD aA (wR (bE + dP)))) (wR (bE + dP)))) (eI (gD aA (wR (bE + bZ)))) (List.map (eI) (List.set aA (Int.toNat (wR (bE + bZ))) (gD aA (wR (bE + dP))))) [(lo0p, 1, List.map (eI) (List.set (List.set aA (Int.toNat (wR (bE + bZ))) (gD aA (wR (bE + dP)))) (Int.toNat (wR (bE + dP))) (gD aA (wR (bE + bZ)))))] hO (lP c11 (by simp [])) (by simp only [List.set, gQ]) ?_
    intro H hO
    replace hN : List.length (List.set (List.set aA (Int.toNat (wR (bE + bZ))) (gD aA (wR (bE + dP)))) (Int.toNat (wR (bE + dP))) (gD aA (wR (bE + bZ)))) = N0 := by simpa using hN
    refine mW (by kernel_rfl) ?_
    refine cV (l := [(0, (.msl 1 lo0p 0 (List.length (List.set (List.set aA (Int.toNat (wR (bE + bZ))) (gD aA (wR (bE + dP)))) (Int.toNat (wR (bE + dP))) (gD aA (wR (bE + bZ))))))), (2, (eI hi2)), (3, (eI bE)), (9, (eI dP))]) ⟨[(0, (.msl 1 lo0p 0 (List.length aA))), (2, (eI hi2)), (3, (eI bE)), (9, (eI dP))], by kernel_rfl, rfl, ⟨aO.eq (by simp []), aO.refl _, aO.refl _, aO.refl _, trivial⟩⟩ ?_
    refine aG (aF (?_))
    refine aU aD 2 ?_
    refine bA ?_
    exact aG (aW (aF (⟨rfl, _, (oI h1).symm, .eq (by kernel_rfl), hO, hN⟩)))
  refine aN ?_
  obtain ⟨c12, h1⟩ := aV h1
  obtain ⟨c13, h1⟩ := aV h1
  obtain ⟨x14, hx15, h1⟩ := aX h1
  refine fF (fG []) aD 20 ?_
  refine mT (K := fun T H => Has (lift T) [(0, (.msl 1 lo0p 0 (List.length aA))), (2, (eI hi2)), (3, (eI bE)), (8, (eI bZ)), (9, (eI (wR ((wR ((2 : Int) * bZ)) + (1 : Int))))), (36, (aE ((decide ((wR ((wR ((wR ((2 : Int) * bZ)) + (1 : Int))) + (1 : Int))) < hi2)) && x14)))] ∧ aJ ⟨H0, [lo0p], []⟩ H [(lo0p, 1, List.map (eI) aA)]) ?_ ?_
  · refine mX 5 ?_
    refine lB (t := 21) (e := decide ((wR ((wR ((wR ((2 : Int) * bZ)) + (1 : Int))) + (1 : Int))) < hi2)) (by kernel_rfl) (fun hg16 => ?_) (fun hg16 => ?_)
    · refine cD 10 [0 ≤ (wR (bE + (wR ((wR ((2 : Int) * bZ)) + (1 : Int))))) ∧ (wR (bE + (wR ((wR ((2 : Int) * bZ)) + (1 : Int))))) < (lN aA)] ⟨(c12 hg16), trivial⟩ ?_
      refine iY 0 lo0p 1 (0 + Int.toNat (wR (bE + (wR ((wR ((2 : Int) * bZ)) + (1 : Int)))))) (eI (gD aA (wR (bE + (wR ((wR ((2 : Int) * bZ)) + (1 : Int))))))) (eI (gD aA (wR (bE + (wR ((wR ((2 : Int) * bZ)) + (1 : Int))))))) (List.map (eI) aA) (by kernel_rfl) (by kernel_rfl) (by kernel_rfl) hO (by kernel_rfl) (bX (c12 hg16)) ?_
      refine cD 17 [0 ≤ (wR ((wR (bE + (wR ((wR ((2 : Int) * bZ)) + (1 : Int))))) + (1 : Int))) ∧ (wR ((wR (bE + (wR ((wR ((2 : Int) * bZ)) + (1 : Int))))) + (1 : Int))) < (lN aA)] ⟨(c13 hg16), trivial⟩ ?_
      refine iY 0 lo0p 1 (0 + Int.toNat (wR ((wR (bE + (wR ((wR ((2 : Int) * bZ)) + (1 : Int))))) + (1 : Int)))) (eI (gD aA (wR ((wR (bE + (wR ((wR ((2 : Int) * bZ)) + (1 : Int))))) + (1 : Int))))) (eI (gD aA (wR ((wR (bE + (wR ((wR ((2 : Int) * bZ)) + (1 : Int))))) + (1 : Int))))) (List.map (eI) aA) (by kernel_rfl) (by kernel_rfl) (by kernel_rfl) hO (by kernel_rfl) (bX (c13 hg16)) ?_
      refine mJ 70 [(eI (gD aA (wR (bE + (wR ((wR ((2 : Int) * bZ)) + (1 : Int))))))), (eI (gD aA (wR ((wR (bE + (wR ((wR ((2 : Int) * bZ)) + (1 : Int))))) + (1 : Int)))))] (aE x14) (by kernel_rfl) (by kernel_rfl) (fM (gD aA (wR (bE + (wR ((wR ((2 : Int) * bZ)) + (1 : Int)))))) (gD aA (wR ((wR (bE + (wR ((wR ((2 : Int) * bZ)) + (1 : Int))))) + (1 : Int)))) _ (kE hx15 hg16)) hO ?_
      intro H hO
      refine jB ?_
      exact ⟨⟨[(0, (.msl 1 lo0p 0 (List.length aA))), (2, (eI hi2)), (3, (eI bE)), (8, (eI bZ)), (9, (eI (wR ((wR ((2 : Int) * bZ)) + (1 : Int))))), (36, (aE x14))], by kernel_rfl, rfl, ⟨aO.refl _, aO.refl _, aO.refl _, aO.refl _, aO.refl _, aO.eq (congrArg aE (jD hg16 rfl).symm), trivial⟩⟩, hO⟩
    refine jB ?_
    exact ⟨⟨[(0, (.msl 1 lo0p 0 (List.length aA))), (2, (eI hi2)), (3, (eI bE)), (8, (eI bZ)), (9, (eI (wR ((wR ((2 : Int) * bZ)) + (1 : Int))))), (36, (aE false))], by kernel_rfl, rfl, ⟨aO.refl _, aO.refl _, aO.refl _, aO.refl _, aO.refl _, aO.eq (congrArg aE (jD hg16 rfl).symm), trivial⟩⟩, hO⟩
  · rintro T H ⟨hT, hO⟩
    refine cV hT ?_
    clear hT
    refine aG (aF ?_)
    refine bH h1 (fun h1 => ?_) (fun h1 => ?_)
    · refine aU aD 3 ?_
      refine bA ?_
      exact aG (aF (⟨rfl, _, _, .eq (by kernel_rfl), hO, hN, h1⟩))
    refine bI ?_
    exact aG (aF (⟨rfl, _, _, .eq (by kernel_rfl), hO, hN, h1⟩))

theorem vQ (lo0p : Nat) (aA : (List Int)) (a1 : Int) (b2 : Int) (r : List Int) (h0 : iU aA a1 b2 = some r) : mA Try.prog 80 lo0p 1 (List.map (eI) aA) (List.map (eI) r) [(.msl 1 lo0p 0 (List.length aA)), (eI a1), (eI b2)] (.tup []) := by
  intro H0 hl0
  refine dG Try.func80 ?_
  have hO := aJ.sH hl0
  clear hl0
  obtain ⟨N0, hN0⟩ : ∃ n, n = List.length aA := ⟨_, rfl⟩
  have hN : List.length aA = N0 := hN0.symm
  unfold iU at h0
  refine aT aD 2 [] [(6, (eI a1))] ?_
  refine aT aD 1 [] [(7, (eI (0 : Int)))] ?_
  refine aT aD 4 [1, 2] [(8, (eI (wR (b2 - a1))))] ?_
  refine dS (fun T H => ∃ aA : List Int, ∃ bM : Int, ∃ lo7 : Int, ∃ hi8 : Int, Has T [(0, (.msl 1 lo0p 0 (List.length aA))), (6, (eI bM)), (7, (eI lo7)), (8, (eI hi8))] ∧ aJ ⟨H0, [lo0p], []⟩ H [(lo0p, 1, List.map (eI) aA)] ∧ List.length aA = N0 ∧ iM aA bM lo7 hi8 = some r) ?_ ?_
  · clear hO hN h0
    rintro T H ⟨aA, bM, lo7, hi8, hT, hO, hN, h0⟩
    refine aY hT ?_
    clear hT
    unfold iM at h0
    refine aT aD 3 [8] [(10, (eI (wR (hi8 - (1 : Int)))))] ?_
    refine bY 2 ?_
    refine eU [(0, (.msl 1 lo0p 0 (List.length aA))), (6, (eI bM)), (7, (eI lo7)), (10, (eI (wR (hi8 - (1 : Int)))))] ?_
    refine dU (fun T H => ∃ aA : List Int, ∃ i10 : Int, Has T [(0, (.msl 1 lo0p 0 (List.length aA))), (6, (eI bM)), (7, (eI lo7)), (10, (eI i10))] ∧ aJ ⟨H0, [lo0p], []⟩ H [(lo0p, 1, List.map (eI) aA)] ∧ List.length aA = N0 ∧ jV aA bM lo7 i10 = some r) ?_ ⟨aA, wR (hi8 - (1 : Int)), .eq (by kernel_rfl), hO, hN, h0⟩
    clear hO hN h0
    rintro T H ⟨aA, i10, hT, hO, hN, h0⟩
    refine aY hT ?_
    clear hT
    unfold jV at h0
    obtain ⟨rr0, hl0, h0⟩ := aX h0
    refine cS (by kernel_rfl) (fun (s : List Int × Int) T H => Has T [(0, (.msl 1 lo0p 0 (List.length s.1))), (6, (eI bM)), (7, (eI lo7)), (10, (eI s.2))] ∧ aJ ⟨H0, [lo0p], []⟩ H [(lo0p, 1, List.map (eI) s.1)] ∧ List.length s.1 = N0) hl0 ⟨.eq (by kernel_rfl), hO, hN⟩ ?_
    clear hO hN
    rintro k0 s out1 T H ⟨hT, hO, hN⟩ h1 ho0
    obtain ⟨aA, i10⟩ := s
    replace h1 : dQ bM lo7 aA i10 = some out1 := h1
    try dsimp only at hT
    refine aY hT ?_
    clear hT
    unfold dQ at h1
    refine aN ?_
    refine aT aD 2 [] [(30, (aE (decide ((0 : Int) ≤ i10))))] ?_
    refine bH h1 (fun h1 => ?_) (fun h1 => ?_)
    · refine bI ?_
      refine bG [(0, (.msl 1 lo0p 0 (List.length aA))), (6, (eI bM)), (7, (eI lo7)), (10, (eI i10))] ?_
      refine aN ?_
      refine bY 3 ?_
      refine aN ?_
      refine fF (fG []) aD 20 ?_
      obtain ⟨c2, h1⟩ := aV h1
      refine cD 11 [0 ≤ (wR (bM + i10)) ∧ (wR (bM + i10)) < (lN aA)] ⟨c2, trivial⟩ ?_
      refine gU 0 lo0p 1 (0 + Int.toNat (wR (bM + i10))) (eI (gD aA (wR (bM + i10)))) (eI (gD aA (wR (bM + i10)))) (List.map (eI) aA) hO (bX c2) ?_
      obtain ⟨c3, h1⟩ := aV h1
      refine cD 15 [0 ≤ bM ∧ bM < (lN aA)] ⟨c3, trivial⟩ ?_
      refine gU 0 lo0p 1 (0 + Int.toNat bM) (eI (gD aA bM)) (eI (gD aA bM)) (List.map (eI) aA) hO (bX c3) ?_
      obtain ⟨c4, h1⟩ := aV h1
      refine cD 17 [0 ≤ bM ∧ bM < (lN aA)] ⟨c4, trivial⟩ ?_
      refine kH 0 lo0p 1 (0 + Int.toNat bM) (eI (gD aA bM)) (eI (gD aA (wR (bM + i10)))) (List.map (eI) aA) [(lo0p, 1, List.map (eI) (List.set aA (Int.toNat bM) (gD aA (wR (bM + i10)))))] hO (bX c4) (by simp only [List.set, gQ]) ?_
      intro H hO
      replace hN : List.length (List.set aA (Int.toNat bM) (gD aA (wR (bM + i10)))) = N0 := by simpa using hN
      obtain ⟨c5, h1⟩ := aV h1
      refine cD 19 [0 ≤ (wR (bM + i10)) ∧ (wR (bM + i10)) < (lN aA)] ⟨c5, trivial⟩ ?_
      refine kH 0 lo0p 1 (0 + Int.toNat (wR (bM + i10))) (eI (gD (List.set aA (Int.toNat bM) (gD aA (wR (bM + i10)))) (wR (bM + i10)))) (eI (gD aA bM)) (List.map (eI) (List.set aA (Int.toNat bM) (gD aA (wR (bM + i10))))) [(lo0p, 1, List.map (eI) (List.set (List.set aA (Int.toNat bM) (gD aA (wR (bM + i10)))) (Int.toNat (wR (bM + i10))) (gD aA bM)))] hO (lP c5 (by simp [])) (by simp only [List.set, gQ]) ?_
      intro H hO
      replace hN : List.length (List.set (List.set aA (Int.toNat bM) (gD aA (wR (bM + i10)))) (Int.toNat (wR (bM + i10))) (gD aA bM)) = N0 := by simpa using hN
      refine mW (by kernel_rfl) ?_
      refine cV (l := [(0, (.msl 1 lo0p 0 (List.length (List.set (List.set aA (Int.toNat bM) (gD aA (wR (bM + i10)))) (Int.toNat (wR (bM + i10))) (gD aA bM))))), (6, (eI bM)), (7, (eI lo7)), (10, (eI i10))]) ⟨[(0, (.msl 1 lo0p 0 (List.length aA))), (6, (eI bM)), (7, (eI lo7)), (10, (eI i10))], by kernel_rfl, rfl, ⟨aO.eq (by simp []), aO.refl _, aO.refl _, aO.refl _, trivial⟩⟩ ?_
      refine aG (aF (?_))
      refine aU aD 5 ?_
      refine bS 4 ?_
      obtain ⟨x6, hx7, h1⟩ := aX h1
      refine vS [(lo0p, 1, List.map (eI) x6)] 0 (pH lo0p (List.set (List.set aA (Int.toNat bM) (gD aA (wR (bM + i10)))) (Int.toNat (wR (bM + i10))) (gD aA bM)) lo7 i10 bM _ hx7) hO ?_
      intro H hO hl8
      simp only [List.length_map] at hl8
      replace hN := hl8.trans hN
      refine iT ?_
      refine cV (l := [(0, (.msl 1 lo0p 0 (List.length x6))), (6, (eI bM)), (7, (eI lo7)), (10, (eI i10))]) ⟨[(0, (.msl 1 lo0p 0 (List.length (List.set (List.set aA (Int.toNat bM) (gD aA (wR (bM + i10)))) (Int.toNat (wR (bM + i10))) (gD aA bM))))), (6, (eI bM)), (7, (eI lo7)), (10, (eI i10))], by kernel_rfl, rfl, ⟨aO.eq (by simp [hl8]), aO.refl _, aO.refl _, aO.refl _, trivial⟩⟩ ?_
      refine aG (aW (aF (?_)))
      refine aU aD 3 ?_
      refine bA ?_
      exact aG (aF (⟨rfl, _, (oI h1).symm, .eq (by kernel_rfl), hO, hN⟩))
    refine fA 2 ?_
    obtain rfl := oI h1
    obtain rfl : _ = rr0 := ho0
    replace h0 : some aA = some r := h0
    obtain rfl := oI h0
    exact aG (aS (aS (bN (yL (x := (.tup [])) (by kernel_rfl) (aO.refl _) ⟨rfl, hO.ext, hO.at 0 (by kernel_rfl), by first | rfl | (simp only [List.length_map]; exact hN.trans hN0)⟩))))
  refine aN ?_
  refine aU aD 4 ?_
  obtain ⟨c9, h0⟩ := aV h0
  refine mU [(2 : Int) ≠ 0] ⟨c9, trivial⟩ ?_
  refine bP [] [(9, (eI (wR (Int.tdiv (wR ((wR (b2 - a1)) - (1 : Int))) (2 : Int)))))] ?_
  refine bY 0 ?_
  refine eU [(0, (.msl 1 lo0p 0 (List.length aA))), (6, (eI a1)), (7, (eI (0 : Int))), (8, (eI (wR (b2 - a1)))), (9, (eI (wR (Int.tdiv (wR ((wR (b2 - a1)) - (1 : Int))) (2 : Int)))))] ?_
  refine dU (fun T H => ∃ aA : List Int, ∃ bM : Int, ∃ lo7 : Int, ∃ hi8 : Int, ∃ i9 : Int, Has T [(0, (.msl 1 lo0p 0 (List.length aA))), (6, (eI bM)), (7, (eI lo7)), (8, (eI hi8)), (9, (eI i9))] ∧ aJ ⟨H0, [lo0p], []⟩ H [(lo0p, 1, List.map (eI) aA)] ∧ List.length aA = N0 ∧ jT aA bM lo7 hi8 i9 = some r) ?_ ⟨aA, a1, (0 : Int), wR (b2 - a1), wR (Int.tdiv (wR ((wR (b2 - a1)) - (1 : Int))) (2 : Int)), .eq (by kernel_rfl), hO, hN, h0⟩
  clear hO hN h0
  rintro T H ⟨aA, bM, lo7, hi8, i9, hT, hO, hN, h0⟩
  refine aY hT ?_
  clear hT
  unfold jT at h0
  obtain ⟨rr0, hl0, h0⟩ := aX h0
  refine cS (by kernel_rfl) (fun (s : List Int × Int) T H => Has T [(0, (.msl 1 lo0p 0 (List.length s.1))), (6, (eI bM)), (7, (eI lo7)), (8, (eI hi8)), (9, (eI s.2))] ∧ aJ ⟨H0, [lo0p], []⟩ H [(lo0p, 1, List.map (eI) s.1)] ∧ List.length s.1 = N0) hl0 ⟨.eq (by kernel_rfl), hO, hN⟩ ?_
  clear hO hN
  rintro k0 s out1 T H ⟨hT, hO, hN⟩ h1 ho0
  obtain ⟨aA, i9⟩ := s
  replace h1 : dR bM lo7 hi8 aA i9 = some out1 := h1
  try dsimp only at hT
  refine aY hT ?_
  clear hT
  unfold dR at h1
  refine aN ?_
  refine aT aD 2 [] [(19, (aE (decide ((0 : Int) ≤ i9))))] ?_
  refine bH h1 (fun h1 => ?_) (fun h1 => ?_)
  · refine bI ?_
    refine bG [(0, (.msl 1 lo0p 0 (List.length aA))), (6, (eI bM)), (7, (eI lo7)), (8, (eI hi8)), (9, (eI i9))] ?_
    refine aN ?_
    refine bY 1 ?_
    refine aU aD 5 ?_
    refine bS 4 ?_
    obtain ⟨x11, hx12, h1⟩ := aX h1
    refine vS [(lo0p, 1, List.map (eI) x11)] 0 (pH lo0p aA i9 hi8 bM _ hx12) hO ?_
    intro H hO hl13
    simp only [List.length_map] at hl13
    replace hN := hl13.trans hN
    refine iT ?_
    refine cV (l := [(0, (.msl 1 lo0p 0 (List.length x11))), (6, (eI bM)), (7, (eI lo7)), (8, (eI hi8)), (9, (eI i9))]) ⟨[(0, (.msl 1 lo0p 0 (List.length aA))), (6, (eI bM)), (7, (eI lo7)), (8, (eI hi8)), (9, (eI i9))], by kernel_rfl, rfl, ⟨aO.eq (by simp [hl13]), aO.refl _, aO.refl _, aO.refl _, aO.refl _, trivial⟩⟩ ?_
    refine aG (aW (aF (?_)))
    refine aU aD 3 ?_
    refine bA ?_
    exact aG (aF (⟨rfl, _, (oI h1).symm, .eq (by kernel_rfl), hO, hN⟩))
  refine fA 0 ?_
  obtain rfl := oI h1
  obtain rfl : _ = rr0 := ho0
  replace h0 : iM aA bM lo7 hi8 = some r := h0
  exact aG (aS (aS (bN (aF (⟨rfl, _, _, _, _, .eq (by kernel_rfl), hO, hN, h0⟩)))))

theorem yD (zX : Int) (r : Int) (h0 : kD zX = some r) : dN Try.prog 106 [(eI zX)] (cQ .u64 r) := by
  intro H0
  refine dG Try.func106 ?_
  have hO := aJ.start H0
  unfold kD at h0
  refine aT aD 1 [] [] ?_
  refine aN ?_
  refine aU aD 5 ?_
  refine bS 2 ?_
  obtain ⟨x1, hx2, h0⟩ := aX h0
  refine dW (yP (IntKind.u64.wrap zX) _ hx2) hO ?_
  intro H hO
  obtain ⟨c4, h0⟩ := aV h0
  refine mU [0 ≤ x1] ⟨c4, trivial⟩ ?_
  refine bG [(2, (cQ .u64 (IntKind.u64.wrap ((1 : Int) * 2 ^ (min (Int.toNat x1) 64)))))] ?_
  refine bJ ?_
  obtain rfl := oI h0
  exact aG (Q_r hO)

theorem zJ (lo0p : Nat) (r0 : Int) (r : (Int × Int)) (h0 : kL r0 = some r) : xJ Try.prog 107 [(.lp lo0p 0 0)] [(lo0p, 1, [(cQ .u64 r0)])] (fun x L => x = (cQ .u64 r.1) ∧ L = [(lo0p, 1, [(cQ .u64 r.2)])]) := by
  intro F H0 hO
  obtain ⟨Fh, Fe, Fg⟩ := F
  refine dG Try.func107 ?_
  unfold kL at h0
  refine aT aD 1 [] [] ?_
  refine aN ?_
  refine fF (fG []) aD 10 ?_
  refine mX 2 ?_
  refine gU 0 lo0p 1 0 (cQ .u64 r0) (cQ .u64 r0) [(cQ .u64 r0)] hO rfl ?_
  refine mX 5 ?_
  refine gU 0 lo0p 1 0 (cQ .u64 r0) (cQ .u64 r0) [(cQ .u64 r0)] hO rfl ?_
  obtain ⟨c1, h0⟩ := aV h0
  refine cD 9 [0 ≤ (13 : Int)] ⟨c1, trivial⟩ ?_
  refine kH 0 lo0p 1 0 (cQ .u64 r0) (cQ .u64 (bL .xor .u64 r0 (IntKind.u64.wrap (r0 * 2 ^ (min (Int.toNat (13 : Int)) 64))))) [(cQ .u64 r0)] [(lo0p, 1, [(cQ .u64 (bL .xor .u64 r0 (IntKind.u64.wrap (r0 * 2 ^ (min (Int.toNat (13 : Int)) 64)))))])] hO rfl (by kernel_rfl) ?_
  intro H hO
  refine mW (by kernel_rfl) ?_
  refine bP [] [] ?_
  refine aN ?_
  refine fF (fG []) aD 10 ?_
  refine mX 2 ?_
  refine gU 0 lo0p 1 0 (cQ .u64 (bL .xor .u64 r0 (IntKind.u64.wrap (r0 * 2 ^ (min (Int.toNat (13 : Int)) 64))))) (cQ .u64 (bL .xor .u64 r0 (IntKind.u64.wrap (r0 * 2 ^ (min (Int.toNat (13 : Int)) 64))))) [(cQ .u64 (bL .xor .u64 r0 (IntKind.u64.wrap (r0 * 2 ^ (min (Int.toNat (13 : Int)) 64)))))] hO rfl ?_
  refine mX 5 ?_
  refine gU 0 lo0p 1 0 (cQ .u64 (bL .xor .u64 r0 (IntKind.u64.wrap (r0 * 2 ^ (min (Int.toNat (13 : Int)) 64))))) (cQ .u64 (bL .xor .u64 r0 (IntKind.u64.wrap (r0 * 2 ^ (min (Int.toNat (13 : Int)) 64))))) [(cQ .u64 (bL .xor .u64 r0 (IntKind.u64.wrap (r0 * 2 ^ (min (Int.toNat (13 : Int)) 64)))))] hO rfl ?_
  obtain ⟨c2, h0⟩ := aV h0
  refine cD 9 [0 ≤ (7 : Int)] ⟨c2, trivial⟩ ?_
  refine kH 0 lo0p 1 0 (cQ .u64 (bL .xor .u64 r0 (IntKind.u64.wrap (r0 * 2 ^ (min (Int.toNat (13 : Int)) 64))))) (cQ .u64 (bL .xor .u64 (bL .xor .u64 r0 (IntKind.u64.wrap (r0 * 2 ^ (min (Int.toNat (13 : Int)) 64)))) (Int.fdiv (bL .xor .u64 r0 (IntKind.u64.wrap (r0 * 2 ^ (min (Int.toNat (13 : Int)) 64)))) (2 ^ (min (Int.toNat (7 : Int)) 64))))) [(cQ .u64 (bL .xor .u64 r0 (IntKind.u64.wrap (r0 * 2 ^ (min (Int.toNat (13 : Int)) 64)))))] [(lo0p, 1, [(cQ .u64 (bL .xor .u64 (bL .xor .u64 r0 (IntKind.u64.wrap (r0 * 2 ^ (min (Int.toNat (13 : Int)) 64)))) (Int.fdiv (bL .xor .u64 r0 (IntKind.u64.wrap (r0 * 2 ^ (min (Int.toNat (13 : Int)) 64)))) (2 ^ (min (Int.toNat (7 : Int)) 64)))))])] hO rfl (by kernel_rfl) ?_
  intro H hO
  refine mW (by kernel_rfl) ?_
  refine bP [] [] ?_
  refine aN ?_
  refine fF (fG []) aD 10 ?_
  refine mX 2 ?_
  refine gU 0 lo0p 1 0 (cQ .u64 (bL .xor .u64 (bL .xor .u64 r0 (IntKind.u64.wrap (r0 * 2 ^ (min (Int.toNat (13 : Int)) 64)))) (Int.fdiv (bL .xor .u64 r0 (IntKind.u64.wrap (r0 * 2 ^ (min (Int.toNat (13 : Int)) 64)))) (2 ^ (min (Int.toNat (7 : Int)) 64))))) (cQ .u64 (bL .xor .u64 (bL .xor .u64 r0 (IntKind.u64.wrap (r0 * 2 ^ (min (Int.toNat (13 : Int)) 64)))) (Int.fdiv (bL .xor .u64 r0 (IntKind.u64.wrap (r0 * 2 ^ (min (Int.toNat (13 : Int)) 64)))) (2 ^ (min (Int.toNat (7 : Int)) 64))))) [(cQ .u64 (bL .xor .u64 (bL .xor .u64 r0 (IntKind.u64.wrap (r0 * 2 ^ (min (Int.toNat (13 : Int)) 64)))) (Int.fdiv (bL .xor .u64 r0 (IntKind.u64.wrap (r0 * 2 ^ (min (Int.toNat (13 : Int)) 64)))) (2 ^ (min (Int.toNat (7 : Int)) 64)))))] hO rfl ?_
  refine mX 5 ?_
  refine gU 0 lo0p 1 0 (cQ .u64 (bL .xor .u64 (bL .xor .u64 r0 (IntKind.u64.wrap (r0 * 2 ^ (min (Int.toNat (13 : Int)) 64)))) (Int.fdiv (bL .xor .u64 r0 (IntKind.u64.wrap (r0 * 2 ^ (min (Int.toNat (13 : Int)) 64)))) (2 ^ (min (Int.toNat (7 : Int)) 64))))) (cQ .u64 (bL .xor .u64 (bL .xor .u64 r0 (IntKind.u64.wrap (r0 * 2 ^ (min (Int.toNat (13 : Int)) 64)))) (Int.fdiv (bL .xor .u64 r0 (IntKind.u64.wrap (r0 * 2 ^ (min (Int.toNat (13 : Int)) 64)))) (2 ^ (min (Int.toNat (7 : Int)) 64))))) [(cQ .u64 (bL .xor .u64 (bL .xor .u64 r0 (IntKind.u64.wrap (r0 * 2 ^ (min (Int.toNat (13 : Int)) 64)))) (Int.fdiv (bL .xor .u64 r0 (IntKind.u64.wrap (r0 * 2 ^ (min (Int.toNat (13 : Int)) 64)))) (2 ^ (min (Int.toNat (7 : Int)) 64)))))] hO rfl ?_
  obtain ⟨c3, h0⟩ := aV h0
  refine cD 9 [0 ≤ (17 : Int)] ⟨c3, trivial⟩ ?_
  refine kH 0 lo0p 1 0 (cQ .u64 (bL .xor .u64 (bL .xor .u64 r0 (IntKind.u64.wrap (r0 * 2 ^ (min (Int.toNat (13 : Int)) 64)))) (Int.fdiv (bL .xor .u64 r0 (IntKind.u64.wrap (r0 * 2 ^ (min (Int.toNat (13 : Int)) 64)))) (2 ^ (min (Int.toNat (7 : Int)) 64))))) (cQ .u64 (bL .xor .u64 (bL .xor .u64 (bL .xor .u64 r0 (IntKind.u64.wrap (r0 * 2 ^ (min (Int.toNat (13 : Int)) 64)))) (Int.fdiv (bL .xor .u64 r0 (IntKind.u64.wrap (r0 * 2 ^ (min (Int.toNat (13 : Int)) 64)))) (2 ^ (min (Int.toNat (7 : Int)) 64)))) (IntKind.u64.wrap ((bL .xor .u64 (bL .xor .u64 r0 (IntKind.u64.wrap (r0 * 2 ^ (min (Int.toNat (13 : Int)) 64)))) (Int.fdiv (bL .xor .u64 r0 (IntKind.u64.wrap (r0 * 2 ^ (min (Int.toNat (13 : Int)) 64)))) (2 ^ (min (Int.toNat (7 : Int)) 64)))) * 2 ^ (min (Int.toNat (17 : Int)) 64))))) [(cQ .u64 (bL .xor .u64 (bL .xor .u64 r0 (IntKind.u64.wrap (r0 * 2 ^ (min (Int.toNat (13 : Int)) 64)))) (Int.fdiv (bL .xor .u64 r0 (IntKind.u64.wrap (r0 * 2 ^ (min (Int.toNat (13 : Int)) 64)))) (2 ^ (min (Int.toNat (7 : Int)) 64)))))] [(lo0p, 1, [(cQ .u64 (bL .xor .u64 (bL .xor .u64 (bL .xor .u64 r0 (IntKind.u64.wrap (r0 * 2 ^ (min (Int.toNat (13 : Int)) 64)))) (Int.fdiv (bL .xor .u64 r0 (IntKind.u64.wrap (r0 * 2 ^ (min (Int.toNat (13 : Int)) 64)))) (2 ^ (min (Int.toNat (7 : Int)) 64)))) (IntKind.u64.wrap ((bL .xor .u64 (bL .xor .u64 r0 (IntKind.u64.wrap (r0 * 2 ^ (min (Int.toNat (13 : Int)) 64)))) (Int.fdiv (bL .xor .u64 r0 (IntKind.u64.wrap (r0 * 2 ^ (min (Int.toNat (13 : Int)) 64)))) (2 ^ (min (Int.toNat (7 : Int)) 64)))) * 2 ^ (min (Int.toNat (17 : Int)) 64)))))])] hO rfl (by kernel_rfl) ?_
  intro H hO
  refine mW (by kernel_rfl) ?_
  refine bP [] [] ?_
  refine aN ?_
  refine aU aD 4 ?_
  refine bS 2 ?_
  refine uM 0 lo0p 1 0 (cQ .u64 (bL .xor .u64 (bL .xor .u64 (bL .xor .u64 r0 (IntKind.u64.wrap (r0 * 2 ^ (min (Int.toNat (13 : Int)) 64)))) (Int.fdiv (bL .xor .u64 r0 (IntKind.u64.wrap (r0 * 2 ^ (min (Int.toNat (13 : Int)) 64)))) (2 ^ (min (Int.toNat (7 : Int)) 64)))) (IntKind.u64.wrap ((bL .xor .u64 (bL .xor .u64 r0 (IntKind.u64.wrap (r0 * 2 ^ (min (Int.toNat (13 : Int)) 64)))) (Int.fdiv (bL .xor .u64 r0 (IntKind.u64.wrap (r0 * 2 ^ (min (Int.toNat (13 : Int)) 64)))) (2 ^ (min (Int.toNat (7 : Int)) 64)))) * 2 ^ (min (Int.toNat (17 : Int)) 64))))) (cQ .u64 (bL .xor .u64 (bL .xor .u64 (bL .xor .u64 r0 (IntKind.u64.wrap (r0 * 2 ^ (min (Int.toNat (13 : Int)) 64)))) (Int.fdiv (bL .xor .u64 r0 (IntKind.u64.wrap (r0 * 2 ^ (min (Int.toNat (13 : Int)) 64)))) (2 ^ (min (Int.toNat (7 : Int)) 64)))) (IntKind.u64.wrap ((bL .xor .u64 (bL .xor .u64 r0 (IntKind.u64.wrap (r0 * 2 ^ (min (Int.toNat (13 : Int)) 64)))) (Int.fdiv (bL .xor .u64 r0 (IntKind.u64.wrap (r0 * 2 ^ (min (Int.toNat (13 : Int)) 64)))) (2 ^ (min (Int.toNat (7 : Int)) 64)))) * 2 ^ (min (Int.toNat (17 : Int)) 64))))) [(cQ .u64 (bL .xor .u64 (bL .xor .u64 (bL .xor .u64 r0 (IntKind.u64.wrap (r0 * 2 ^ (min (Int.toNat (13 : Int)) 64)))) (Int.fdiv (bL .xor .u64 r0 (IntKind.u64.wrap (r0 * 2 ^ (min (Int.toNat (13 : Int)) 64)))) (2 ^ (min (Int.toNat (7 : Int)) 64)))) (IntKind.u64.wrap ((bL .xor .u64 (bL .xor .u64 r0 (IntKind.u64.wrap (r0 * 2 ^ (min (Int.toNat (13 : Int)) 64)))) (Int.fdiv (bL .xor .u64 r0 (IntKind.u64.wrap (r0 * 2 ^ (min (Int.toNat (13 : Int)) 64)))) (2 ^ (min (Int.toNat (7 : Int)) 64)))) * 2 ^ (min (Int.toNat (17 : Int)) 64)))))] hO rfl ?_
  refine bA ?_
  refine bG [(0, (.lp lo0p 0 0)), (2, (cQ .u64 (bL .xor .u64 (bL .xor .u64 (bL .xor .u64 r0 (IntKind.u64.wrap (r0 * 2 ^ (min (Int.toNat (13 : Int)) 64)))) (Int.fdiv (bL .xor .u64 r0 (IntKind.u64.wrap (r0 * 2 ^ (min (Int.toNat (13 : Int)) 64)))) (2 ^ (min (Int.toNat (7 : Int)) 64)))) (IntKind.u64.wrap ((bL .xor .u64 (bL .xor .u64 r0 (IntKind.u64.wrap (r0 * 2 ^ (min (Int.toNat (13 : Int)) 64)))) (Int.fdiv (bL .xor .u64 r0 (IntKind.u64.wrap (r0 * 2 ^ (min (Int.toNat (13 : Int)) 64)))) (2 ^ (min (Int.toNat (7 : Int)) 64)))) * 2 ^ (min (Int.toNat (17 : Int)) 64))))))] ?_
  refine bJ ?_
  obtain rfl := oI h0
  exact aG (BP hO ⟨rfl, rfl⟩)

theorem tK (lo0p : Nat) (aA : (List Int)) (a1 : Int) (b2 : Int) (r : List Int) (h0 : fX aA a1 b2 = some r) : mA Try.prog 81 lo0p 1 (List.map (eI) aA) (List.map (eI) r) [(.msl 1 lo0p 0 (List.length aA)), (eI a1), (eI b2)] (.tup []) := by
  intro H0 hl0
  refine dG Try.func81 ?_
  have hO := aJ.sH hl0
  clear hl0
  obtain ⟨N0, hN0⟩ : ∃ n, n = List.length aA := ⟨_, rfl⟩
  have hN : List.length aA = N0 := hN0.symm
  unfold fX at h0
  refine aT aD 4 [2] [(6, (eI (wR (b2 - a1))))] ?_
  refine aT aD 2 [] [(15, (aE (decide ((8 : Int) ≤ (wR (b2 - a1))))))] ?_
  refine bH h0 (fun h0 => ?_) (fun h0 => ?_)
  · refine aN ?_
    refine aU aD 4 ?_
    refine bS 2 ?_
    refine sD 1 (cQ .u64 0) (by kernel_rfl) (by kernel_rfl) hO ?_
    intro lo2 H hO
    refine rQ 1 lo2 1 0 (cQ .u64 0) (cQ .u64 (IntKind.u64.wrap (wR (b2 - a1)))) [(cQ .u64 0)] [(lo0p, 1, List.map (eI) aA), (lo2, 1, [(cQ .u64 (IntKind.u64.wrap (wR (b2 - a1))))])] hO rfl (by kernel_rfl) ?_
    intro H hO
    refine iT ?_
    refine bP [15] [(7, (.lp lo2 0 0))] ?_
    refine aN ?_
    refine aU aD 3 ?_
    refine bS 1 ?_
    obtain ⟨x3, hx4, h0⟩ := aX h0
    refine dW (yD (wR (b2 - a1)) _ hx4) hO ?_
    intro H hO
    refine bA ?_
    refine bP [] [(8, (cQ .u64 x3))] ?_
    refine aN ?_
    refine aU aD 7 ?_
    obtain ⟨c6, h0⟩ := aV h0
    refine mU [(4 : Int) ≠ 0] ⟨c6, trivial⟩ ?_
    refine bG [(0, (.msl 1 lo0p 0 (List.length aA))), (1, (eI a1)), (6, (eI (wR (b2 - a1)))), (7, (.lp lo2 0 0)), (8, (cQ .u64 x3)), (9, (eI (wR ((wR (a1 + (wR ((wR (Int.tdiv (wR (b2 - a1)) (4 : Int))) * (2 : Int))))) - (1 : Int)))))] ?_
    refine bY 0 ?_
    refine eU [(0, (.msl 1 lo0p 0 (List.length aA))), (1, (eI a1)), (6, (eI (wR (b2 - a1)))), (7, (.lp lo2 0 0)), (8, (cQ .u64 x3)), (9, (eI (wR ((wR (a1 + (wR ((wR (Int.tdiv (wR (b2 - a1)) (4 : Int))) * (2 : Int))))) - (1 : Int)))))] ?_
    refine dU (fun T H => ∃ aA : List Int, ∃ jG : Int, ∃ kJ : Int, ∃ iB : Int, ∃ idx9 : Int, Has T [(0, (.msl 1 lo0p 0 (List.length aA))), (1, (eI a1)), (6, (eI jG)), (7, (.lp lo2 0 0)), (8, (cQ .u64 iB)), (9, (eI idx9))] ∧ aJ ⟨H0, [lo0p], []⟩ H [(lo0p, 1, List.map (eI) aA), (lo2, 1, [(cQ .u64 kJ)])] ∧ List.length aA = N0 ∧ iR aA a1 jG kJ iB idx9 = some r) ?_ ⟨aA, wR (b2 - a1), IntKind.u64.wrap (wR (b2 - a1)), x3, wR ((wR (a1 + (wR ((wR (Int.tdiv (wR (b2 - a1)) (4 : Int))) * (2 : Int))))) - (1 : Int)), .eq (by kernel_rfl), hO, hN, h0⟩
    clear hO hN h0
    rintro T H ⟨aA, jG, kJ, iB, idx9, hT, hO, hN, h0⟩
    refine aY hT ?_
    clear hT
    unfold iR at h0
    obtain ⟨rr0, hl0, h0⟩ := aX h0
    refine cS (by kernel_rfl) (fun (s : List Int × Int × Int) T H => Has T [(0, (.msl 1 lo0p 0 (List.length s.1))), (1, (eI a1)), (6, (eI jG)), (7, (.lp lo2 0 0)), (8, (cQ .u64 iB)), (9, (eI s.2.2))] ∧ aJ ⟨H0, [lo0p], []⟩ H [(lo0p, 1, List.map (eI) s.1), (lo2, 1, [(cQ .u64 s.2.1)])] ∧ List.length s.1 = N0) hl0 ⟨.eq (by kernel_rfl), hO, hN⟩ ?_
    clear hO hN
    rintro k0 s out1 T H ⟨hT, hO, hN⟩ h1 ho0
    obtain ⟨aA, kJ, idx9⟩ := s
    replace h1 : cR a1 jG iB aA kJ idx9 = some out1 := h1
    try dsimp only at hT
    refine aY hT ?_
    clear hT
    unfold cR at h1
    refine aN ?_
    refine aN ?_
    refine aU aD 8 ?_
    obtain ⟨c7, h1⟩ := aV h1
    refine mU [(4 : Int) ≠ 0] ⟨c7, trivial⟩ ?_
    refine bP [] [(33, (aE (decide (idx9 ≤ (wR ((wR (a1 + (wR ((wR (Int.tdiv jG (4 : Int))) * (2 : Int))))) + (1 : Int)))))))] ?_
    refine bH h1 (fun h1 => ?_) (fun h1 => ?_)
    · refine bI ?_
      refine bG [(0, (.msl 1 lo0p 0 (List.length aA))), (1, (eI a1)), (6, (eI jG)), (7, (.lp lo2 0 0)), (8, (cQ .u64 iB)), (9, (eI idx9))] ?_
      refine aN ?_
      refine bY 1 ?_
      refine aN ?_
      refine aU aD 6 ?_
      obtain ⟨x9, hx10, h1⟩ := aX h1
      refine zG [(lo0p, 1, List.map (eI) aA)] [1, 0] (zJ lo2 kJ _ hx10) hO ?_
      intro r11 L12 H hP13 hO
      obtain ⟨rfl, rfl⟩ := hP13
      replace hO : aJ ⟨H0, [lo0p], []⟩ H [(lo2, 1, [(cQ .u64 x9.2)]), (lo0p, 1, List.map (eI) aA)] := hO
      refine bA ?_
      replace hO := hO.pick (L' := [(lo0p, 1, List.map (eI) aA), (lo2, 1, [(cQ .u64 x9.2)])]) [1, 0] (by decide) (by kernel_rfl)
      refine bP [] [(10, (eI (wR (bL .and .u64 x9.1 (IntKind.u64.wrap (iB - (1 : Int)))))))] ?_
      refine dS (fun T H => ∃ aA : List Int, ∃ kJ : Int, ∃ fC : Int, Has T [(0, (.msl 1 lo0p 0 (List.length aA))), (1, (eI a1)), (6, (eI jG)), (7, (.lp lo2 0 0)), (8, (cQ .u64 iB)), (9, (eI idx9)), (10, (eI fC))] ∧ aJ ⟨H0, [lo0p], []⟩ H [(lo0p, 1, List.map (eI) aA), (lo2, 1, [(cQ .u64 kJ)])] ∧ List.length aA = N0 ∧ eO aA a1 jG kJ iB idx9 fC = some out1) ?_ ?_
      · clear hO hN h1
        rintro T H ⟨aA, kJ, fC, hT, hO, hN, h1⟩
        refine aY hT ?_
        clear hT
        unfold eO at h1
        refine fF (fG []) aD 20 ?_
        obtain ⟨c14, h1⟩ := aV h1
        refine cD 11 [0 ≤ (wR (a1 + fC)) ∧ (wR (a1 + fC)) < (lN aA)] ⟨c14, trivial⟩ ?_
        refine gU 0 lo0p 1 (0 + Int.toNat (wR (a1 + fC))) (eI (gD aA (wR (a1 + fC)))) (eI (gD aA (wR (a1 + fC)))) (List.map (eI) aA) hO (bX c14) ?_
        obtain ⟨c15, h1⟩ := aV h1
        refine cD 15 [0 ≤ idx9 ∧ idx9 < (lN aA)] ⟨c15, trivial⟩ ?_
        refine gU 0 lo0p 1 (0 + Int.toNat idx9) (eI (gD aA idx9)) (eI (gD aA idx9)) (List.map (eI) aA) hO (bX c15) ?_
        obtain ⟨c16, h1⟩ := aV h1
        refine cD 17 [0 ≤ idx9 ∧ idx9 < (lN aA)] ⟨c16, trivial⟩ ?_
        refine kH 0 lo0p 1 (0 + Int.toNat idx9) (eI (gD aA idx9)) (eI (gD aA (wR (a1 + fC)))) (List.map (eI) aA) [(lo0p, 1, List.map (eI) (List.set aA (Int.toNat idx9) (gD aA (wR (a1 + fC))))), (lo2, 1, [(cQ .u64 kJ)])] hO (bX c16) (by simp only [List.set, gQ]) ?_
        intro H hO
        replace hN : List.length (List.set aA (Int.toNat idx9) (gD aA (wR (a1 + fC)))) = N0 := by simpa using hN
        obtain ⟨c17, h1⟩ := aV h1
        refine cD 19 [0 ≤ (wR (a1 + fC)) ∧ (wR (a1 + fC)) < (lN aA)] ⟨c17, trivial⟩ ?_
        refine kH 0 lo0p 1 (0 + Int.toNat (wR (a1 + fC))) (eI (gD (List.set aA (Int.toNat idx9) (gD aA (wR (a1 + fC)))) (wR (a1 + fC)))) (eI (gD aA idx9)) (List.map (eI) (List.set aA (Int.toNat idx9) (gD aA (wR (a1 + fC))))) [(lo0p, 1, List.map (eI) (List.set (List.set aA (Int.toNat idx9) (gD aA (wR (a1 + fC)))) (Int.toNat (wR (a1 + fC))) (gD aA idx9))), (lo2, 1, [(cQ .u64 kJ)])] hO (lP c17 (by simp [])) (by simp only [List.set, gQ]) ?_
        intro H hO
        replace hN : List.length (List.set (List.set aA (Int.toNat idx9) (gD aA (wR (a1 + fC)))) (Int.toNat (wR (a1 + fC))) (gD aA idx9)) = N0 := by simpa using hN
        refine mW (by kernel_rfl) ?_
        refine cV (l := [(0, (.msl 1 lo0p 0 (List.length (List.set (List.set aA (Int.toNat idx9) (gD aA (wR (a1 + fC)))) (Int.toNat (wR (a1 + fC))) (gD aA idx9))))), (1, (eI a1)), (6, (eI jG)), (7, (.lp lo2 0 0)), (8, (cQ .u64 iB)), (9, (eI idx9))]) ⟨[(0, (.msl 1 lo0p 0 (List.length aA))), (1, (eI a1)), (6, (eI jG)), (7, (.lp lo2 0 0)), (8, (cQ .u64 iB)), (9, (eI idx9))], by kernel_rfl, rfl, ⟨aO.eq (by simp []), aO.refl _, aO.refl _, aO.refl _, aO.refl _, aO.refl _, trivial⟩⟩ ?_
        refine aG (aW (aF (?_)))
        refine aU aD 3 ?_
        refine bA ?_
        exact aG (aF (⟨rfl, _, (oI h1).symm, .eq (by kernel_rfl), hO, hN⟩))
      refine aT aD 3 [] [(43, (aE (decide (jG ≤ (wR (bL .and .u64 x9.1 (IntKind.u64.wrap (iB - (1 : Int)))))))))] ?_
      refine bH h1 (fun h1 => ?_) (fun h1 => ?_)
      · refine aU aD 4 ?_
        refine bA ?_
        exact aG (aF (⟨rfl, _, _, _, .eq (by kernel_rfl), hO, hN, h1⟩))
      refine bI ?_
      exact aG (aF (⟨rfl, _, _, _, .eq (by kernel_rfl), hO, hN, h1⟩))
    refine fA 0 ?_
    replace hO := hO.pick (L' := [(lo0p, 1, List.map (eI) aA)]) [0] (by decide) (by kernel_rfl)
    obtain rfl := oI h1
    obtain rfl : _ = rr0 := ho0
    replace h0 : some aA = some r := h0
    obtain rfl := oI h0
    exact aG (aS (aS (bN (yL (x := (.tup [])) (by kernel_rfl) (aO.refl _) ⟨rfl, hO.ext, hO.at 0 (by kernel_rfl), by first | rfl | (simp only [List.length_map]; exact hN.trans hN0)⟩))))
  refine bI ?_
  obtain rfl := oI h0
  exact aG (yL (x := (.tup [])) (by kernel_rfl) (aO.refl _) ⟨rfl, hO.ext, hO.at 0 (by kernel_rfl), by first | rfl | (simp only [List.length_map]; exact hN.trans hN0)⟩)

theorem mM (lo0p : Nat) (aA : (List Int)) (a1 : Int) (b2 : Int) (lo3p : Nat) (qA : Int) (r : ((Int × Int) × Int)) (h0 : fO aA a1 b2 qA = some r) : xJ Try.prog 113 [(.msl 1 lo0p 0 (List.length aA)), (eI a1), (eI b2), (.lp lo3p 0 0)] [(lo0p, 1, List.map (eI) aA), (lo3p, 1, [(eI qA)])] (fun x L => x = (.tup [(eI r.1.1), (eI r.1.2)]) ∧ L = [(lo0p, 1, List.map (eI) aA), (lo3p, 1, [(eI r.2)])]) := by
  intro F H0 hO
  obtain ⟨Fh, Fe, Fg⟩ := F
  refine dG Try.func113 ?_
  unfold fO at h0
  refine aT aD 2 [] [] ?_
  refine aN ?_
  refine aN ?_
  refine fF (fG [18]) aD 9 ?_
  obtain ⟨c1, h0⟩ := aV h0
  refine cD 3 [0 ≤ b2 ∧ b2 < (lN aA)] ⟨c1, trivial⟩ ?_
  refine gU 0 lo0p 1 (0 + Int.toNat b2) (eI (gD aA b2)) (eI (gD aA b2)) (List.map (eI) aA) hO (bX c1) ?_
  obtain ⟨c2, h0⟩ := aV h0
  refine cD 7 [0 ≤ a1 ∧ a1 < (lN aA)] ⟨c2, trivial⟩ ?_
  refine gU 0 lo0p 1 (0 + Int.toNat a1) (eI (gD aA a1)) (eI (gD aA a1)) (List.map (eI) aA) hO (bX c2) ?_
  obtain ⟨x3, hx4, h0⟩ := aX h0
  refine CO (fM (gD aA b2) (gD aA a1) _ hx4) hO ?_
  intro H hO
  refine mW (by kernel_rfl) ?_
  refine bP [] [(18, (aE x3))] ?_
  refine bH h0 (fun h0 => ?_) (fun h0 => ?_)
  · refine aN ?_
    refine aU aD 6 ?_
    refine bS 2 ?_
    refine uM 1 lo3p 1 0 (eI qA) (eI qA) [(eI qA)] hO rfl ?_
    refine bS 5 ?_
    refine rQ 1 lo3p 1 0 (eI qA) (eI (wR (qA + (1 : Int)))) [(eI qA)] [(lo0p, 1, List.map (eI) aA), (lo3p, 1, [(eI (wR (qA + (1 : Int))))])] hO rfl (by kernel_rfl) ?_
    intro H hO
    refine iT ?_
    refine bP [18] [] ?_
    refine aT aD 4 [1, 2] [(8, (eI b2)), (9, (eI a1))] ?_
    refine bJ ?_
    obtain rfl := oI h0
    exact aG (aP (BP hO ⟨rfl, rfl⟩))
  refine bI ?_
  refine bG [(0, (.msl 1 lo0p 0 (List.length aA))), (1, (eI a1)), (2, (eI b2)), (3, (.lp lo3p 0 0))] ?_
  refine aT aD 4 [1, 2] [(8, (eI a1)), (9, (eI b2))] ?_
  refine bJ ?_
  obtain rfl := oI h0
  exact aG (BP hO ⟨rfl, rfl⟩)

theorem pY (lo0p : Nat) (aA : (List Int)) (a1 : Int) (b2 : Int) (c3 : Int) (lo4p : Nat) (CG : Int) (r : (Int × Int)) (h0 : gV aA a1 b2 c3 CG = some r) : xJ Try.prog 109 [(.msl 1 lo0p 0 (List.length aA)), (eI a1), (eI b2), (eI c3), (.lp lo4p 0 0)] [(lo0p, 1, List.map (eI) aA), (lo4p, 1, [(eI CG)])] (fun x L => x = (eI r.1) ∧ L = [(lo0p, 1, List.map (eI) aA), (lo4p, 1, [(eI r.2)])]) := by
  intro F H0 hO
  obtain ⟨Fh, Fe, Fg⟩ := F
  refine dG Try.func109 ?_
  unfold gV at h0
  refine aT aD 1 [] [] ?_
  refine aN ?_
  refine aU aD 10 ?_
  refine bS 4 ?_
  obtain ⟨x1, hx2, h0⟩ := aX h0
  refine zG [] [0, 1] (mM lo0p aA a1 b2 lo4p CG _ hx2) hO ?_
  intro r3 L4 H hP5 hO
  obtain ⟨rfl, rfl⟩ := hP5
  replace hO : aJ ⟨Fh, Fe, Fg⟩ H [(lo0p, 1, List.map (eI) aA), (lo4p, 1, [(eI x1.2)])] := hO
  refine bA ?_
  refine bP [1, 2] [(1, (eI x1.1.1)), (2, (eI x1.1.2))] ?_
  refine aN ?_
  refine aU aD 10 ?_
  refine bS 4 ?_
  obtain ⟨x6, hx7, h0⟩ := aX h0
  refine zG [] [0, 1] (mM lo0p aA x1.1.2 c3 lo4p x1.2 _ hx7) hO ?_
  intro r8 L9 H hP10 hO
  obtain ⟨rfl, rfl⟩ := hP10
  replace hO : aJ ⟨Fh, Fe, Fg⟩ H [(lo0p, 1, List.map (eI) aA), (lo4p, 1, [(eI x6.2)])] := hO
  refine bA ?_
  refine bP [2, 3] [(2, (eI x6.1.1))] ?_
  refine aN ?_
  refine aU aD 10 ?_
  refine bS 4 ?_
  obtain ⟨x11, hx12, h0⟩ := aX h0
  refine zG [] [0, 1] (mM lo0p aA x1.1.1 x6.1.1 lo4p x6.2 _ hx12) hO ?_
  intro r13 L14 H hP15 hO
  obtain ⟨rfl, rfl⟩ := hP15
  replace hO : aJ ⟨Fh, Fe, Fg⟩ H [(lo0p, 1, List.map (eI) aA), (lo4p, 1, [(eI x11.2)])] := hO
  refine bA ?_
  refine bP [1, 2] [(2, (eI x11.1.2))] ?_
  refine bO aD 2 [(0, (.msl 1 lo0p 0 (List.length aA))), (4, (.lp lo4p 0 0)), (10, (eI x11.1.2))] ?_
  refine bJ ?_
  obtain rfl := oI h0
  exact aG (BP hO ⟨rfl, rfl⟩)

theorem kG (lo0p : Nat) (aA : (List Int)) (a1 : Int) (lo2p : Nat) (BG : Int) (r : (Int × Int)) (h0 : dL aA a1 BG = some r) : xJ Try.prog 108 [(.msl 1 lo0p 0 (List.length aA)), (eI a1), (.lp lo2p 0 0)] [(lo0p, 1, List.map (eI) aA), (lo2p, 1, [(eI BG)])] (fun x L => x = (eI r.1) ∧ L = [(lo0p, 1, List.map (eI) aA), (lo2p, 1, [(eI r.2)])]) := by
  intro F H0 hO
  obtain ⟨Fh, Fe, Fg⟩ := F
  refine dG Try.func108 ?_
  unfold dL at h0
  refine aT aD 1 [] [] ?_
  refine aN ?_
  refine aU aD 9 ?_
  refine bS 7 ?_
  obtain ⟨x1, hx2, h0⟩ := aX h0
  refine zG [] [0, 1] (pY lo0p aA (wR (a1 - (1 : Int))) a1 (wR (a1 + (1 : Int))) lo2p BG _ hx2) hO ?_
  intro r3 L4 H hP5 hO
  obtain ⟨rfl, rfl⟩ := hP5
  replace hO : aJ ⟨Fh, Fe, Fg⟩ H [(lo0p, 1, List.map (eI) aA), (lo2p, 1, [(eI x1.2)])] := hO
  refine bA ?_
  refine bP [1] [(6, (eI x1.1))] ?_
  refine bJ ?_
  obtain rfl := oI h0
  exact aG (BP hO ⟨rfl, rfl⟩)

theorem uK (lo0p : Nat) (aA : (List Int)) (a1 : Int) (b2 : Int) (r : (Int × Int)) (h0 : gP aA a1 b2 = some r) : xJ Try.prog 82 [(.msl 1 lo0p 0 (List.length aA)), (eI a1), (eI b2)] [(lo0p, 1, List.map (eI) aA)] (fun x L => x = (.tup [(eI r.1), (eI r.2)]) ∧ L = [(lo0p, 1, List.map (eI) aA)]) := by
  intro F H0 hO
  obtain ⟨Fh, Fe, Fg⟩ := F
  refine dG Try.func82 ?_
  unfold gP at h0
  refine aT aD 2 [] [] ?_
  refine aT aD 4 [2] [(8, (eI (wR (b2 - a1))))] ?_
  refine aN ?_
  refine aU aD 1 ?_
  refine sD 1 (eI 0) (by kernel_rfl) (by kernel_rfl) hO ?_
  intro lo1 H hO
  refine iT ?_
  refine bP [] [(9, (.lp lo1 0 0))] ?_
  refine aN ?_
  refine aU aD 6 ?_
  obtain ⟨c2, h0⟩ := aV h0
  refine mU [(4 : Int) ≠ 0] ⟨c2, trivial⟩ ?_
  refine bP [] [(10, (eI (wR (a1 + (wR ((wR (Int.tdiv (wR (b2 - a1)) (4 : Int))) * (1 : Int)))))))] ?_
  refine aN ?_
  refine aU aD 6 ?_
  obtain ⟨c3, h0⟩ := aV h0
  refine mU [(4 : Int) ≠ 0] ⟨c3, trivial⟩ ?_
  refine bG [(0, (.msl 1 lo0p 0 (List.length aA))), (1, (eI a1)), (8, (eI (wR (b2 - a1)))), (9, (.lp lo1 0 0)), (10, (eI (wR (a1 + (wR ((wR (Int.tdiv (wR (b2 - a1)) (4 : Int))) * (1 : Int))))))), (11, (eI (wR (a1 + (wR ((wR (Int.tdiv (wR (b2 - a1)) (4 : Int))) * (2 : Int)))))))] ?_
  refine aN ?_
  refine aU aD 6 ?_
  obtain ⟨c4, h0⟩ := aV h0
  refine mU [(4 : Int) ≠ 0] ⟨c4, trivial⟩ ?_
  refine bP [1] [(12, (eI (wR (a1 + (wR ((wR (Int.tdiv (wR (b2 - a1)) (4 : Int))) * (3 : Int)))))))] ?_
  refine dS (fun T H => ∃ kY : Int, ∃ j11 : Int, Has T [(0, (.msl 1 lo0p 0 (List.length aA))), (9, (.lp lo1 0 0)), (11, (eI j11))] ∧ aJ ⟨Fh, Fe, Fg⟩ H [(lo0p, 1, List.map (eI) aA), (lo1, 1, [(eI kY)])] ∧ eW aA kY j11 = some r) ?_ ?_
  · clear hO h0
    rintro T H ⟨kY, j11, hT, hO, h0⟩
    refine aY hT ?_
    clear hT
    unfold eW at h0
    refine aN ?_
    refine aU aD 1 ?_
    refine uM 1 lo1 1 0 (eI kY) (eI kY) [(eI kY)] hO rfl ?_
    refine iT ?_
    replace hO := hO.pick (L' := [(lo0p, 1, List.map (eI) aA)]) [0] (by decide) (by kernel_rfl)
    refine bP [9] [(49, (eI kY))] ?_
    refine bY 0 ?_
    refine aT aD 2 [] [(51, (aE (decide (kY = (0 : Int)))))] ?_
    refine bH h0 (fun h0 => ?_) (fun h0 => ?_)
    · refine aT aD 3 [11, 49, 51] [(6, (eI j11)), (7, (eI (1 : Int)))] ?_
      refine bJ ?_
      obtain rfl := oI h0
      exact aG (bD (BP hO ⟨rfl, rfl⟩))
    refine aT aD 2 [49, 51] [(54, (aE (decide (kY = (12 : Int)))))] ?_
    refine bH h0 (fun h0 => ?_) (fun h0 => ?_)
    · refine aT aD 3 [11, 54] [(6, (eI j11)), (7, (eI (2 : Int)))] ?_
      refine bJ ?_
      obtain rfl := oI h0
      exact aG (bD (BP hO ⟨rfl, rfl⟩))
    refine aT aD 3 [11, 54] [(6, (eI j11)), (7, (eI (0 : Int)))] ?_
    refine bJ ?_
    obtain rfl := oI h0
    exact aG (bD (BP hO ⟨rfl, rfl⟩))
  refine aT aD 2 [] [(32, (aE (decide ((8 : Int) ≤ (wR (b2 - a1))))))] ?_
  refine bH h0 (fun h0 => ?_) (fun h0 => ?_)
  · refine dS (fun T H => ∃ kY : Int, ∃ i10 : Int, ∃ j11 : Int, ∃ k12 : Int, Has T [(0, (.msl 1 lo0p 0 (List.length aA))), (9, (.lp lo1 0 0)), (10, (eI i10)), (11, (eI j11)), (12, (eI k12))] ∧ aJ ⟨Fh, Fe, Fg⟩ H [(lo0p, 1, List.map (eI) aA), (lo1, 1, [(eI kY)])] ∧ eX aA kY i10 j11 k12 = some r) ?_ ?_
    · clear hO h0
      rintro T H ⟨kY, i10, j11, k12, hT, hO, h0⟩
      refine aY hT ?_
      clear hT
      unfold eX at h0
      refine aU aD 6 ?_
      refine bS 4 ?_
      obtain ⟨x8, hx9, h0⟩ := aX h0
      refine zG [] [0, 1] (pY lo0p aA i10 j11 k12 lo1 kY _ hx9) hO ?_
      intro r10 L11 H hP12 hO
      obtain ⟨rfl, rfl⟩ := hP12
      replace hO : aJ ⟨Fh, Fe, Fg⟩ H [(lo0p, 1, List.map (eI) aA), (lo1, 1, [(eI x8.2)])] := hO
      refine bA ?_
      exact aG (aF (⟨rfl, _, _, .eq (by kernel_rfl), hO, h0⟩))
    refine aT aD 2 [8, 32] [(34, (aE (decide ((50 : Int) ≤ (wR (b2 - a1))))))] ?_
    refine bH h0 (fun h0 => ?_) (fun h0 => ?_)
    · refine aN ?_
      refine aU aD 4 ?_
      refine bS 2 ?_
      obtain ⟨x14, hx15, h0⟩ := aX h0
      refine zG [] [0, 1] (kG lo0p aA (wR (a1 + (wR ((wR (Int.tdiv (wR (b2 - a1)) (4 : Int))) * (1 : Int))))) lo1 0 _ hx15) hO ?_
      intro r16 L17 H hP18 hO
      obtain ⟨rfl, rfl⟩ := hP18
      replace hO : aJ ⟨Fh, Fe, Fg⟩ H [(lo0p, 1, List.map (eI) aA), (lo1, 1, [(eI x14.2)])] := hO
      refine bA ?_
      refine bP [10, 34] [(10, (eI x14.1))] ?_
      refine aN ?_
      refine aU aD 4 ?_
      refine bS 2 ?_
      obtain ⟨x19, hx20, h0⟩ := aX h0
      refine zG [] [0, 1] (kG lo0p aA (wR (a1 + (wR ((wR (Int.tdiv (wR (b2 - a1)) (4 : Int))) * (2 : Int))))) lo1 x14.2 _ hx20) hO ?_
      intro r21 L22 H hP23 hO
      obtain ⟨rfl, rfl⟩ := hP23
      replace hO : aJ ⟨Fh, Fe, Fg⟩ H [(lo0p, 1, List.map (eI) aA), (lo1, 1, [(eI x19.2)])] := hO
      refine bA ?_
      refine bG [(0, (.msl 1 lo0p 0 (List.length aA))), (9, (.lp lo1 0 0)), (10, (eI x14.1)), (11, (eI x19.1)), (12, (eI (wR (a1 + (wR ((wR (Int.tdiv (wR (b2 - a1)) (4 : Int))) * (3 : Int)))))))] ?_
      refine aU aD 4 ?_
      refine bS 2 ?_
      obtain ⟨x24, hx25, h0⟩ := aX h0
      refine zG [] [0, 1] (kG lo0p aA (wR (a1 + (wR ((wR (Int.tdiv (wR (b2 - a1)) (4 : Int))) * (3 : Int))))) lo1 x19.2 _ hx25) hO ?_
      intro r26 L27 H hP28 hO
      obtain ⟨rfl, rfl⟩ := hP28
      replace hO : aJ ⟨Fh, Fe, Fg⟩ H [(lo0p, 1, List.map (eI) aA), (lo1, 1, [(eI x24.2)])] := hO
      refine bA ?_
      exact aG (aF (⟨rfl, _, _, _, _, .eq (by kernel_rfl), hO, h0⟩))
    refine bI ?_
    exact aG (aF (⟨rfl, _, _, _, _, .eq (by kernel_rfl), hO, h0⟩))
  refine bI ?_
  exact aG (aF (⟨rfl, _, _, .eq (by kernel_rfl), hO, h0⟩))

theorem uH (lo0p : Nat) (aA : (List Int)) (a1 : Int) (b2 : Int) (r : List Int) (h0 : gJ aA a1 b2 = some r) : mA Try.prog 83 lo0p 1 (List.map (eI) aA) (List.map (eI) r) [(.msl 1 lo0p 0 (List.length aA)), (eI a1), (eI b2)] (.tup []) := by
  intro H0 hl0
  refine dG Try.func83 ?_
  have hO := aJ.sH hl0
  clear hl0
  obtain ⟨N0, hN0⟩ : ∃ n, n = List.length aA := ⟨_, rfl⟩
  have hN : List.length aA = N0 := hN0.symm
  unfold gJ at h0
  refine aT aD 2 [1] [(6, (eI a1))] ?_
  refine aT aD 3 [2] [(7, (eI (wR (b2 - (1 : Int)))))] ?_
  refine bY 0 ?_
  refine eU [(0, (.msl 1 lo0p 0 (List.length aA))), (6, (eI a1)), (7, (eI (wR (b2 - (1 : Int)))))] ?_
  refine dU (fun T H => ∃ aA : List Int, ∃ i6 : Int, ∃ j7 : Int, Has T [(0, (.msl 1 lo0p 0 (List.length aA))), (6, (eI i6)), (7, (eI j7))] ∧ aJ ⟨H0, [lo0p], []⟩ H [(lo0p, 1, List.map (eI) aA)] ∧ List.length aA = N0 ∧ iW aA i6 j7 = some r) ?_ ⟨aA, a1, wR (b2 - (1 : Int)), .eq (by kernel_rfl), hO, hN, h0⟩
  clear hO hN h0
  rintro T H ⟨aA, i6, j7, hT, hO, hN, h0⟩
  refine aY hT ?_
  clear hT
  unfold iW at h0
  obtain ⟨rr0, hl0, h0⟩ := aX h0
  refine cS (by kernel_rfl) (fun (s : List Int × Int × Int) T H => Has T [(0, (.msl 1 lo0p 0 (List.length s.1))), (6, (eI s.2.1)), (7, (eI s.2.2))] ∧ aJ ⟨H0, [lo0p], []⟩ H [(lo0p, 1, List.map (eI) s.1)] ∧ List.length s.1 = N0) hl0 ⟨.eq (by kernel_rfl), hO, hN⟩ ?_
  clear hO hN
  rintro k0 s out1 T H ⟨hT, hO, hN⟩ h1 ho0
  obtain ⟨aA, i6, j7⟩ := s
  replace h1 : dA aA i6 j7 = some out1 := h1
  try dsimp only at hT
  refine aY hT ?_
  clear hT
  unfold dA at h1
  refine aN ?_
  refine aT aD 3 [] [(13, (aE (decide (i6 < j7))))] ?_
  refine bH h1 (fun h1 => ?_) (fun h1 => ?_)
  · refine bI ?_
    refine bG [(0, (.msl 1 lo0p 0 (List.length aA))), (6, (eI i6)), (7, (eI j7))] ?_
    refine bY 1 ?_
    refine aN ?_
    refine fF (fG []) aD 16 ?_
    obtain ⟨c2, h1⟩ := aV h1
    refine cD 7 [0 ≤ j7 ∧ j7 < (lN aA)] ⟨c2, trivial⟩ ?_
    refine gU 0 lo0p 1 (0 + Int.toNat j7) (eI (gD aA j7)) (eI (gD aA j7)) (List.map (eI) aA) hO (bX c2) ?_
    obtain ⟨c3, h1⟩ := aV h1
    refine cD 11 [0 ≤ i6 ∧ i6 < (lN aA)] ⟨c3, trivial⟩ ?_
    refine gU 0 lo0p 1 (0 + Int.toNat i6) (eI (gD aA i6)) (eI (gD aA i6)) (List.map (eI) aA) hO (bX c3) ?_
    obtain ⟨c4, h1⟩ := aV h1
    refine cD 13 [0 ≤ i6 ∧ i6 < (lN aA)] ⟨c4, trivial⟩ ?_
    refine kH 0 lo0p 1 (0 + Int.toNat i6) (eI (gD aA i6)) (eI (gD aA j7)) (List.map (eI) aA) [(lo0p, 1, List.map (eI) (List.set aA (Int.toNat i6) (gD aA j7)))] hO (bX c4) (by simp only [List.set, gQ]) ?_
    intro H hO
    replace hN : List.length (List.set aA (Int.toNat i6) (gD aA j7)) = N0 := by simpa using hN
    obtain ⟨c5, h1⟩ := aV h1
    refine cD 15 [0 ≤ j7 ∧ j7 < (lN aA)] ⟨c5, trivial⟩ ?_
    refine kH 0 lo0p 1 (0 + Int.toNat j7) (eI (gD (List.set aA (Int.toNat i6) (gD aA j7)) j7)) (eI (gD aA i6)) (List.map (eI) (List.set aA (Int.toNat i6) (gD aA j7))) [(lo0p, 1, List.map (eI) (List.set (List.set aA (Int.toNat i6) (gD aA j7)) (Int.toNat j7) (gD aA i6)))] hO (lP c5 (by simp [])) (by simp only [List.set, gQ]) ?_
    intro H hO
    replace hN : List.length (List.set (List.set aA (Int.toNat i6) (gD aA j7)) (Int.toNat j7) (gD aA i6)) = N0 := by simpa using hN
    refine mW (by kernel_rfl) ?_
    refine cV (l := [(0, (.msl 1 lo0p 0 (List.length (List.set (List.set aA (Int.toNat i6) (gD aA j7)) (Int.toNat j7) (gD aA i6))))), (6, (eI i6)), (7, (eI j7))]) ⟨[(0, (.msl 1 lo0p 0 (List.length aA))), (6, (eI i6)), (7, (eI j7))], by kernel_rfl, rfl, ⟨aO.eq (by simp []), aO.refl _, aO.refl _, trivial⟩⟩ ?_
    refine aG (aF (?_))
    refine aT aD 3 [6] [(6, (eI (wR (i6 + (1 : Int)))))] ?_
    refine aU aD 3 ?_
    refine bA ?_
    exact aG (aW (aF (⟨rfl, _, (oI h1).symm, .eq (by kernel_rfl), hO, hN⟩)))
  refine fA 0 ?_
  obtain rfl := oI h1
  obtain rfl : _ = rr0 := ho0
  replace h0 : some aA = some r := h0
  obtain rfl := oI h0
  exact aG (aS (aS (bN (yL (x := (.tup [])) (by kernel_rfl) (aO.refl _) ⟨rfl, hO.ext, hO.at 0 (by kernel_rfl), by first | rfl | (simp only [List.length_map]; exact hN.trans hN0)⟩))))

theorem pK (lo0p : Nat) (aA : (List Int)) (a1 : Int) (b2 : Int) (r : (Bool × List Int)) (h0 : eF aA a1 b2 = some r) : mA Try.prog 84 lo0p 1 (List.map (eI) aA) (List.map (eI) r.2) [(.msl 1 lo0p 0 (List.length aA)), (eI a1), (eI b2)] (aE r.1) := by
  intro H0 hl0
  refine dG Try.func84 ?_
  have hO := aJ.sH hl0
  clear hl0
  obtain ⟨N0, hN0⟩ : ∃ n, n = List.length aA := ⟨_, rfl⟩
  have hN : List.length aA = N0 := hN0.symm
  unfold eF at h0
  refine aT aD 1 [] [] ?_
  refine aT aD 3 [] [(7, (eI (wR (a1 + (1 : Int)))))] ?_
  refine dS (fun T H => ∃ aA : List Int, Has T [(0, (.msl 1 lo0p 0 (List.length aA)))] ∧ aJ ⟨H0, [lo0p], []⟩ H [(lo0p, 1, List.map (eI) aA)] ∧ List.length aA = N0 ∧ eD aA = some r) ?_ ?_
  · clear hO hN h0
    rintro T H ⟨aA, hT, hO, hN, h0⟩
    refine aY hT ?_
    clear hT
    unfold eD at h0
    refine aT aD 1 [] [(6, (aE false))] ?_
    refine bJ ?_
    obtain rfl := oI h0
    exact aG (lW (x := (aE false)) (by kernel_rfl) (aO.refl _) ⟨rfl, hO.ext, hO.at 0 (by kernel_rfl), by first | rfl | (simp only [List.length_map]; exact hN.trans hN0)⟩)
  refine aT aD 1 [] [(8, (eI (0 : Int)))] ?_
  refine bY 0 ?_
  refine eU [(0, (.msl 1 lo0p 0 (List.length aA))), (1, (eI a1)), (2, (eI b2)), (7, (eI (wR (a1 + (1 : Int))))), (8, (eI (0 : Int)))] ?_
  refine dU (fun T H => ∃ aA : List Int, ∃ i7 : Int, ∃ j8 : Int, Has T [(0, (.msl 1 lo0p 0 (List.length aA))), (1, (eI a1)), (2, (eI b2)), (7, (eI i7)), (8, (eI j8))] ∧ aJ ⟨H0, [lo0p], []⟩ H [(lo0p, 1, List.map (eI) aA)] ∧ List.length aA = N0 ∧ fS aA a1 b2 i7 j8 = some r) ?_ ⟨aA, wR (a1 + (1 : Int)), (0 : Int), .eq (by kernel_rfl), hO, hN, h0⟩
  clear hO hN h0
  rintro T H ⟨aA, i7, j8, hT, hO, hN, h0⟩
  refine aY hT ?_
  clear hT
  unfold fS at h0
  obtain ⟨rr0, hl0, h0⟩ := aX h0
  refine cS (by kernel_rfl) (fun (s : List Int × Int × Int) T H => Has T [(0, (.msl 1 lo0p 0 (List.length s.1))), (1, (eI a1)), (2, (eI b2)), (7, (eI s.2.1)), (8, (eI s.2.2))] ∧ aJ ⟨H0, [lo0p], []⟩ H [(lo0p, 1, List.map (eI) s.1)] ∧ List.length s.1 = N0) hl0 ⟨.eq (by kernel_rfl), hO, hN⟩ ?_
  clear hO hN
  rintro k0 s out1 T H ⟨hT, hO, hN⟩ h1 ho0
  obtain ⟨aA, i7, j8⟩ := s
  replace h1 : bT a1 b2 aA i7 j8 = some out1 := h1
  try dsimp only at hT
  refine aY hT ?_
  clear hT
  unfold bT at h1
  refine aN ?_
  refine aT aD 2 [] [(14, (aE (decide (j8 < (5 : Int)))))] ?_
  refine bH h1 (fun h1 => ?_) (fun h1 => ?_)
  · refine bI ?_
    refine bG [(0, (.msl 1 lo0p 0 (List.length aA))), (1, (eI a1)), (2, (eI b2)), (7, (eI i7)), (8, (eI j8))] ?_
    refine dS (fun T H => ∃ aA : List Int, ∃ i7 : Int, Has T [(0, (.msl 1 lo0p 0 (List.length aA))), (1, (eI a1)), (2, (eI b2)), (7, (eI i7)), (8, (eI j8))] ∧ aJ ⟨H0, [lo0p], []⟩ H [(lo0p, 1, List.map (eI) aA)] ∧ List.length aA = N0 ∧ dD aA a1 b2 i7 j8 = some out1) ?_ ?_
    · clear hO hN h1
      rintro T H ⟨aA, i7, hT, hO, hN, h1⟩
      refine aY hT ?_
      clear hT
      unfold dD at h1
      refine aU aD 3 ?_
      refine bA ?_
      exact aG (aF (⟨rfl, _, (oI h1).symm, .eq (by kernel_rfl), hO, hN⟩))
    refine bY 1 ?_
    refine dS (fun T H => ∃ aA : List Int, ∃ i7 : Int, Has T [(0, (.msl 1 lo0p 0 (List.length aA))), (1, (eI a1)), (2, (eI b2)), (7, (eI i7)), (8, (eI j8))] ∧ aJ ⟨H0, [lo0p], []⟩ H [(lo0p, 1, List.map (eI) aA)] ∧ List.length aA = N0 ∧ eC aA a1 b2 i7 j8 = some out1) ?_ ?_
    · clear hO hN h1
      rintro T H ⟨aA, i7, hT, hO, hN, h1⟩
      refine aY hT ?_
      clear hT
      unfold eC at h1
      refine aN ?_
      refine aT aD 3 [] [(37, (aE (decide (i7 = b2))))] ?_
      refine bH h1 (fun h1 => ?_) (fun h1 => ?_)
      · refine aT aD 1 [1, 2, 7, 8, 37] [(6, (aE true))] ?_
        refine bJ ?_
        obtain rfl := oI h1
        obtain rfl : _ = rr0 := ho0
        replace h0 : some (true, aA) = some r := h0
        obtain rfl := oI h0
        exact aG (aP (bD (aP (aP (bD (aP (lW (x := (aE true)) (by kernel_rfl) (aO.refl _) ⟨rfl, hO.ext, hO.at 0 (by kernel_rfl), by first | rfl | (simp only [List.length_map]; exact hN.trans hN0)⟩)))))))
      refine bI ?_
      refine bG [(0, (.msl 1 lo0p 0 (List.length aA))), (1, (eI a1)), (2, (eI b2)), (7, (eI i7)), (8, (eI j8))] ?_
      refine aN ?_
      refine aT aD 4 [] [(41, (aE (decide ((wR (b2 - a1)) < (50 : Int)))))] ?_
      refine bH h1 (fun h1 => ?_) (fun h1 => ?_)
      · refine aT aD 1 [1, 2, 7, 8, 41] [(6, (aE false))] ?_
        refine bJ ?_
        obtain rfl := oI h1
        obtain rfl : _ = rr0 := ho0
        replace h0 : some (false, aA) = some r := h0
        obtain rfl := oI h0
        exact aG (aP (bD (aP (aP (bD (aP (lW (x := (aE false)) (by kernel_rfl) (aO.refl _) ⟨rfl, hO.ext, hO.at 0 (by kernel_rfl), by first | rfl | (simp only [List.length_map]; exact hN.trans hN0)⟩)))))))
      refine bI ?_
      refine bG [(0, (.msl 1 lo0p 0 (List.length aA))), (1, (eI a1)), (2, (eI b2)), (7, (eI i7)), (8, (eI j8))] ?_
      refine aN ?_
      refine fF (fG []) aD 18 ?_
      obtain ⟨c4, h1⟩ := aV h1
      refine cD 9 [0 ≤ (wR (i7 - (1 : Int))) ∧ (wR (i7 - (1 : Int))) < (lN aA)] ⟨c4, trivial⟩ ?_
      refine gU 0 lo0p 1 (0 + Int.toNat (wR (i7 - (1 : Int)))) (eI (gD aA (wR (i7 - (1 : Int))))) (eI (gD aA (wR (i7 - (1 : Int))))) (List.map (eI) aA) hO (bX c4) ?_
      obtain ⟨c5, h1⟩ := aV h1
      refine cD 13 [0 ≤ i7 ∧ i7 < (lN aA)] ⟨c5, trivial⟩ ?_
      refine gU 0 lo0p 1 (0 + Int.toNat i7) (eI (gD aA i7)) (eI (gD aA i7)) (List.map (eI) aA) hO (bX c5) ?_
      obtain ⟨c6, h1⟩ := aV h1
      refine cD 15 [0 ≤ i7 ∧ i7 < (lN aA)] ⟨c6, trivial⟩ ?_
      refine kH 0 lo0p 1 (0 + Int.toNat i7) (eI (gD aA i7)) (eI (gD aA (wR (i7 - (1 : Int))))) (List.map (eI) aA) [(lo0p, 1, List.map (eI) (List.set aA (Int.toNat i7) (gD aA (wR (i7 - (1 : Int))))))] hO (bX c6) (by simp only [List.set, gQ]) ?_
      intro H hO
      replace hN : List.length (List.set aA (Int.toNat i7) (gD aA (wR (i7 - (1 : Int))))) = N0 := by simpa using hN
      obtain ⟨c7, h1⟩ := aV h1
      refine cD 17 [0 ≤ (wR (i7 - (1 : Int))) ∧ (wR (i7 - (1 : Int))) < (lN aA)] ⟨c7, trivial⟩ ?_
      refine kH 0 lo0p 1 (0 + Int.toNat (wR (i7 - (1 : Int)))) (eI (gD (List.set aA (Int.toNat i7) (gD aA (wR (i7 - (1 : Int))))) (wR (i7 - (1 : Int))))) (eI (gD aA i7)) (List.map (eI) (List.set aA (Int.toNat i7) (gD aA (wR (i7 - (1 : Int)))))) [(lo0p, 1, List.map (eI) (List.set (List.set aA (Int.toNat i7) (gD aA (wR (i7 - (1 : Int))))) (Int.toNat (wR (i7 - (1 : Int)))) (gD aA i7)))] hO (lP c7 (by simp [])) (by simp only [List.set, gQ]) ?_
      intro H hO
      replace hN : List.length (List.set (List.set aA (Int.toNat i7) (gD aA (wR (i7 - (1 : Int))))) (Int.toNat (wR (i7 - (1 : Int)))) (gD aA i7)) = N0 := by simpa using hN
      refine mW (by kernel_rfl) ?_
      refine cV (l := [(0, (.msl 1 lo0p 0 (List.length (List.set (List.set aA (Int.toNat i7) (gD aA (wR (i7 - (1 : Int))))) (Int.toNat (wR (i7 - (1 : Int)))) (gD aA i7))))), (1, (eI a1)), (2, (eI b2)), (7, (eI i7)), (8, (eI j8))]) ⟨[(0, (.msl 1 lo0p 0 (List.length aA))), (1, (eI a1)), (2, (eI b2)), (7, (eI i7)), (8, (eI j8))], by kernel_rfl, rfl, ⟨aO.eq (by simp []), aO.refl _, aO.refl _, aO.refl _, aO.refl _, trivial⟩⟩ ?_
      refine aG (aF (?_))
      refine dS (fun T H => ∃ aA : List Int, Has T [(0, (.msl 1 lo0p 0 (List.length aA))), (1, (eI a1)), (2, (eI b2)), (7, (eI i7)), (8, (eI j8))] ∧ aJ ⟨H0, [lo0p], []⟩ H [(lo0p, 1, List.map (eI) aA)] ∧ List.length aA = N0 ∧ cE aA a1 b2 i7 j8 = some out1) ?_ ?_
      · clear hO hN h1
        rintro T H ⟨aA, hT, hO, hN, h1⟩
        refine aY hT ?_
        clear hT
        unfold cE at h1
        refine aT aD 4 [] [(98, (aE (decide ((2 : Int) ≤ (wR (b2 - i7))))))] ?_
        refine bH h1 (fun h1 => ?_) (fun h1 => ?_)
        · refine aT aD 3 [98] [(10, (eI (wR (i7 + (1 : Int)))))] ?_
          refine bY 6 ?_
          refine eU [(0, (.msl 1 lo0p 0 (List.length aA))), (1, (eI a1)), (2, (eI b2)), (7, (eI i7)), (8, (eI j8)), (10, (eI (wR (i7 + (1 : Int)))))] ?_
          refine dU (fun T H => ∃ aA : List Int, ∃ j10 : Int, Has T [(0, (.msl 1 lo0p 0 (List.length aA))), (1, (eI a1)), (2, (eI b2)), (7, (eI i7)), (8, (eI j8)), (10, (eI j10))] ∧ aJ ⟨H0, [lo0p], []⟩ H [(lo0p, 1, List.map (eI) aA)] ∧ List.length aA = N0 ∧ fP aA a1 b2 i7 j8 j10 = some out1) ?_ ⟨aA, wR (i7 + (1 : Int)), .eq (by kernel_rfl), hO, hN, h1⟩
          clear hO hN h1
          rintro T H ⟨aA, j10, hT, hO, hN, h1⟩
          refine aY hT ?_
          clear hT
          unfold fP at h1
          obtain ⟨rr1, hl1, h1⟩ := aX h1
          refine cS (by kernel_rfl) (fun (s : List Int × Int) T H => Has T [(0, (.msl 1 lo0p 0 (List.length s.1))), (1, (eI a1)), (2, (eI b2)), (7, (eI i7)), (8, (eI j8)), (10, (eI s.2))] ∧ aJ ⟨H0, [lo0p], []⟩ H [(lo0p, 1, List.map (eI) s.1)] ∧ List.length s.1 = N0) hl1 ⟨.eq (by kernel_rfl), hO, hN⟩ ?_
          clear hO hN
          rintro k1 s out2 T H ⟨hT, hO, hN⟩ h2 ho1
          obtain ⟨aA, j10⟩ := s
          replace h2 : cJ a1 b2 i7 j8 aA j10 = some out2 := h2
          try dsimp only at hT
          refine aY hT ?_
          clear hT
          unfold cJ at h2
          refine aN ?_
          refine aT aD 3 [] [(103, (aE (decide (j10 < b2))))] ?_
          refine bH h2 (fun h2 => ?_) (fun h2 => ?_)
          · refine bI ?_
            refine bG [(0, (.msl 1 lo0p 0 (List.length aA))), (1, (eI a1)), (2, (eI b2)), (7, (eI i7)), (8, (eI j8)), (10, (eI j10))] ?_
            refine aN ?_
            refine bY 7 ?_
            refine aN ?_
            refine aN ?_
            refine fF (fG [115]) aD 11 ?_
            obtain ⟨c10, h2⟩ := aV h2
            refine cD 3 [0 ≤ j10 ∧ j10 < (lN aA)] ⟨c10, trivial⟩ ?_
            refine gU 0 lo0p 1 (0 + Int.toNat j10) (eI (gD aA j10)) (eI (gD aA j10)) (List.map (eI) aA) hO (bX c10) ?_
            obtain ⟨c11, h2⟩ := aV h2
            refine cD 8 [0 ≤ (wR (j10 - (1 : Int))) ∧ (wR (j10 - (1 : Int))) < (lN aA)] ⟨c11, trivial⟩ ?_
            refine gU 0 lo0p 1 (0 + Int.toNat (wR (j10 - (1 : Int)))) (eI (gD aA (wR (j10 - (1 : Int))))) (eI (gD aA (wR (j10 - (1 : Int))))) (List.map (eI) aA) hO (bX c11) ?_
            obtain ⟨x12, hx13, h2⟩ := aX h2
            refine CO (fM (gD aA j10) (gD aA (wR (j10 - (1 : Int)))) _ hx13) hO ?_
            intro H hO
            refine jB ?_
            refine bP [] [(116, (aE (!x12)))] ?_
            refine bH h2 (fun h2 => ?_) (fun h2 => ?_)
            · refine fA 6 ?_
              obtain rfl := oI h2
              obtain rfl : _ = rr1 := ho1
              replace h1 : dD aA a1 b2 i7 j8 = some out1 := h1
              exact aG (aS (qZ (by kernel_rfl) (aS (aS (bN (aW (aF (⟨rfl, _, _, .eq (by kernel_rfl), hO, hN, h1⟩))))))))
            refine bI ?_
            refine bG [(0, (.msl 1 lo0p 0 (List.length aA))), (1, (eI a1)), (2, (eI b2)), (7, (eI i7)), (8, (eI j8)), (10, (eI j10))] ?_
            refine fF (fG []) aD 18 ?_
            obtain ⟨c16, h2⟩ := aV h2
            refine cD 9 [0 ≤ (wR (j10 - (1 : Int))) ∧ (wR (j10 - (1 : Int))) < (lN aA)] ⟨c16, trivial⟩ ?_
            refine gU 0 lo0p 1 (0 + Int.toNat (wR (j10 - (1 : Int)))) (eI (gD aA (wR (j10 - (1 : Int))))) (eI (gD aA (wR (j10 - (1 : Int))))) (List.map (eI) aA) hO (bX c16) ?_
            obtain ⟨c17, h2⟩ := aV h2
            refine cD 13 [0 ≤ j10 ∧ j10 < (lN aA)] ⟨c17, trivial⟩ ?_
            refine gU 0 lo0p 1 (0 + Int.toNat j10) (eI (gD aA j10)) (eI (gD aA j10)) (List.map (eI) aA) hO (bX c17) ?_
            obtain ⟨c18, h2⟩ := aV h2
            refine cD 15 [0 ≤ j10 ∧ j10 < (lN aA)] ⟨c18, trivial⟩ ?_
            refine kH 0 lo0p 1 (0 + Int.toNat j10) (eI (gD aA j10)) (eI (gD aA (wR (j10 - (1 : Int))))) (List.map (eI) aA) [(lo0p, 1, List.map (eI) (List.set aA (Int.toNat j10) (gD aA (wR (j10 - (1 : Int))))))] hO (bX c18) (by simp only [List.set, gQ]) ?_
            intro H hO
            replace hN : List.length (List.set aA (Int.toNat j10) (gD aA (wR (j10 - (1 : Int))))) = N0 := by simpa using hN
            obtain ⟨c19, h2⟩ := aV h2
            refine cD 17 [0 ≤ (wR (j10 - (1 : Int))) ∧ (wR (j10 - (1 : Int))) < (lN aA)] ⟨c19, trivial⟩ ?_
            refine kH 0 lo0p 1 (0 + Int.toNat (wR (j10 - (1 : Int)))) (eI (gD (List.set aA (Int.toNat j10) (gD aA (wR (j10 - (1 : Int))))) (wR (j10 - (1 : Int))))) (eI (gD aA j10)) (List.map (eI) (List.set aA (Int.toNat j10) (gD aA (wR (j10 - (1 : Int)))))) [(lo0p, 1, List.map (eI) (List.set (List.set aA (Int.toNat j10) (gD aA (wR (j10 - (1 : Int))))) (Int.toNat (wR (j10 - (1 : Int)))) (gD aA j10)))] hO (lP c19 (by simp [])) (by simp only [List.set, gQ]) ?_
            intro H hO
            replace hN : List.length (List.set (List.set aA (Int.toNat j10) (gD aA (wR (j10 - (1 : Int))))) (Int.toNat (wR (j10 - (1 : Int)))) (gD aA j10)) = N0 := by simpa using hN
            refine mW (by kernel_rfl) ?_
            refine cV (l := [(0, (.msl 1 lo0p 0 (List.length (List.set (List.set aA (Int.toNat j10) (gD aA (wR (j10 - (1 : Int))))) (Int.toNat (wR (j10 - (1 : Int)))) (gD aA j10))))), (1, (eI a1)), (2, (eI b2)), (7, (eI i7)), (8, (eI j8)), (10, (eI j10))]) ⟨[(0, (.msl 1 lo0p 0 (List.length aA))), (1, (eI a1)), (2, (eI b2)), (7, (eI i7)), (8, (eI j8)), (10, (eI j10))], by kernel_rfl, rfl, ⟨aO.eq (by simp []), aO.refl _, aO.refl _, aO.refl _, aO.refl _, aO.refl _, trivial⟩⟩ ?_
            refine aG (aW (aF (?_)))
            refine aU aD 3 ?_
            refine bA ?_
            exact aG (aF (⟨rfl, _, (oI h2).symm, .eq (by kernel_rfl), hO, hN⟩))
          refine fA 6 ?_
          obtain rfl := oI h2
          obtain rfl : _ = rr1 := ho1
          replace h1 : dD aA a1 b2 i7 j8 = some out1 := h1
          exact aG (aS (aS (bN (aW (aF (⟨rfl, _, _, .eq (by kernel_rfl), hO, hN, h1⟩))))))
        refine bI ?_
        exact aG (aW (aF (⟨rfl, _, _, .eq (by kernel_rfl), hO, hN, h1⟩)))
      refine aT aD 4 [] [(61, (aE (decide ((2 : Int) ≤ (wR (i7 - a1))))))] ?_
      refine bH h1 (fun h1 => ?_) (fun h1 => ?_)
      · refine aT aD 3 [61] [(9, (eI (wR (i7 - (1 : Int)))))] ?_
        refine bY 4 ?_
        refine eU [(0, (.msl 1 lo0p 0 (List.length (List.set (List.set aA (Int.toNat i7) (gD aA (wR (i7 - (1 : Int))))) (Int.toNat (wR (i7 - (1 : Int)))) (gD aA i7))))), (1, (eI a1)), (2, (eI b2)), (7, (eI i7)), (8, (eI j8)), (9, (eI (wR (i7 - (1 : Int)))))] ?_
        refine dU (fun T H => ∃ aA : List Int, ∃ j9 : Int, Has T [(0, (.msl 1 lo0p 0 (List.length aA))), (1, (eI a1)), (2, (eI b2)), (7, (eI i7)), (8, (eI j8)), (9, (eI j9))] ∧ aJ ⟨H0, [lo0p], []⟩ H [(lo0p, 1, List.map (eI) aA)] ∧ List.length aA = N0 ∧ fQ aA a1 b2 i7 j8 j9 = some out1) ?_ ⟨List.set (List.set aA (Int.toNat i7) (gD aA (wR (i7 - (1 : Int))))) (Int.toNat (wR (i7 - (1 : Int)))) (gD aA i7), wR (i7 - (1 : Int)), .eq (by kernel_rfl), hO, hN, h1⟩
        clear hO hN h1
        rintro T H ⟨aA, j9, hT, hO, hN, h1⟩
        refine aY hT ?_
        clear hT
        unfold fQ at h1
        obtain ⟨rr1, hl1, h1⟩ := aX h1
        refine cS (by kernel_rfl) (fun (s : List Int × Int) T H => Has T [(0, (.msl 1 lo0p 0 (List.length s.1))), (1, (eI a1)), (2, (eI b2)), (7, (eI i7)), (8, (eI j8)), (9, (eI s.2))] ∧ aJ ⟨H0, [lo0p], []⟩ H [(lo0p, 1, List.map (eI) s.1)] ∧ List.length s.1 = N0) hl1 ⟨.eq (by kernel_rfl), hO, hN⟩ ?_
        clear hO hN
        rintro k1 s out2 T H ⟨hT, hO, hN⟩ h2 ho1
        obtain ⟨aA, j9⟩ := s
        replace h2 : cF a1 b2 i7 j8 aA j9 = some out2 := h2
        try dsimp only at hT
        refine aY hT ?_
        clear hT
        unfold cF at h2
        refine aN ?_
        refine aT aD 2 [] [(65, (aE (decide ((1 : Int) ≤ j9))))] ?_
        refine bH h2 (fun h2 => ?_) (fun h2 => ?_)
        · refine bI ?_
          refine bG [(0, (.msl 1 lo0p 0 (List.length aA))), (1, (eI a1)), (2, (eI b2)), (7, (eI i7)), (8, (eI j8)), (9, (eI j9))] ?_
          refine aN ?_
          refine bY 5 ?_
          refine aN ?_
          refine aN ?_
          refine fF (fG [77]) aD 11 ?_
          obtain ⟨c22, h2⟩ := aV h2
          refine cD 3 [0 ≤ j9 ∧ j9 < (lN aA)] ⟨c22, trivial⟩ ?_
          refine gU 0 lo0p 1 (0 + Int.toNat j9) (eI (gD aA j9)) (eI (gD aA j9)) (List.map (eI) aA) hO (bX c22) ?_
          obtain ⟨c23, h2⟩ := aV h2
          refine cD 8 [0 ≤ (wR (j9 - (1 : Int))) ∧ (wR (j9 - (1 : Int))) < (lN aA)] ⟨c23, trivial⟩ ?_
          refine gU 0 lo0p 1 (0 + Int.toNat (wR (j9 - (1 : Int)))) (eI (gD aA (wR (j9 - (1 : Int))))) (eI (gD aA (wR (j9 - (1 : Int))))) (List.map (eI) aA) hO (bX c23) ?_
          obtain ⟨x24, hx25, h2⟩ := aX h2
          refine CO (fM (gD aA j9) (gD aA (wR (j9 - (1 : Int)))) _ hx25) hO ?_
          intro H hO
          refine jB ?_
          refine bP [] [(78, (aE (!x24)))] ?_
          refine bH h2 (fun h2 => ?_) (fun h2 => ?_)
          · refine fA 4 ?_
            obtain rfl := oI h2
            obtain rfl : _ = rr1 := ho1
            replace h1 : cE aA a1 b2 i7 j8 = some out1 := h1
            exact aG (aS (qZ (by kernel_rfl) (aS (aS (bN (aF (⟨rfl, _, .eq (by kernel_rfl), hO, hN, h1⟩)))))))
          refine bI ?_
          refine bG [(0, (.msl 1 lo0p 0 (List.length aA))), (1, (eI a1)), (2, (eI b2)), (7, (eI i7)), (8, (eI j8)), (9, (eI j9))] ?_
          refine fF (fG []) aD 18 ?_
          obtain ⟨c28, h2⟩ := aV h2
          refine cD 9 [0 ≤ (wR (j9 - (1 : Int))) ∧ (wR (j9 - (1 : Int))) < (lN aA)] ⟨c28, trivial⟩ ?_
          refine gU 0 lo0p 1 (0 + Int.toNat (wR (j9 - (1 : Int)))) (eI (gD aA (wR (j9 - (1 : Int))))) (eI (gD aA (wR (j9 - (1 : Int))))) (List.map (eI) aA) hO (bX c28) ?_
          obtain ⟨c29, h2⟩ := aV h2
          refine cD 13 [0 ≤ j9 ∧ j9 < (lN aA)] ⟨c29, trivial⟩ ?_
          refine gU 0 lo0p 1 (0 + Int.toNat j9) (eI (gD aA j9)) (eI (gD aA j9)) (List.map (eI) aA) hO (bX c29) ?_
          obtain ⟨c30, h2⟩ := aV h2
          refine cD 15 [0 ≤ j9 ∧ j9 < (lN aA)] ⟨c30, trivial⟩ ?_
          refine kH 0 lo0p 1 (0 + Int.toNat j9) (eI (gD aA j9)) (eI (gD aA (wR (j9 - (1 : Int))))) (List.map (eI) aA) [(lo0p, 1, List.map (eI) (List.set aA (Int.toNat j9) (gD aA (wR (j9 - (1 : Int))))))] hO (bX c30) (by simp only [List.set, gQ]) ?_
          intro H hO
          replace hN : List.length (List.set aA (Int.toNat j9) (gD aA (wR (j9 - (1 : Int))))) = N0 := by simpa using hN
          obtain ⟨c31, h2⟩ := aV h2
          refine cD 17 [0 ≤ (wR (j9 - (1 : Int))) ∧ (wR (j9 - (1 : Int))) < (lN aA)] ⟨c31, trivial⟩ ?_
          refine kH 0 lo0p 1 (0 + Int.toNat (wR (j9 - (1 : Int)))) (eI (gD (List.set aA (Int.toNat j9) (gD aA (wR (j9 - (1 : Int))))) (wR (j9 - (1 : Int))))) (eI (gD aA j9)) (List.map (eI) (List.set aA (Int.toNat j9) (gD aA (wR (j9 - (1 : Int)))))) [(lo0p, 1, List.map (eI) (List.set (List.set aA (Int.toNat j9) (gD aA (wR (j9 - (1 : Int))))) (Int.toNat (wR (j9 - (1 : Int)))) (gD aA j9)))] hO (lP c31 (by simp [])) (by simp only [List.set, gQ]) ?_
          intro H hO
          replace hN : List.length (List.set (List.set aA (Int.toNat j9) (gD aA (wR (j9 - (1 : Int))))) (Int.toNat (wR (j9 - (1 : Int)))) (gD aA j9)) = N0 := by simpa using hN
          refine mW (by kernel_rfl) ?_
          refine cV (l := [(0, (.msl 1 lo0p 0 (List.length (List.set (List.set aA (Int.toNat j9) (gD aA (wR (j9 - (1 : Int))))) (Int.toNat (wR (j9 - (1 : Int)))) (gD aA j9))))), (1, (eI a1)), (2, (eI b2)), (7, (eI i7)), (8, (eI j8)), (9, (eI j9))]) ⟨[(0, (.msl 1 lo0p 0 (List.length aA))), (1, (eI a1)), (2, (eI b2)), (7, (eI i7)), (8, (eI j8)), (9, (eI j9))], by kernel_rfl, rfl, ⟨aO.eq (by simp []), aO.refl _, aO.refl _, aO.refl _, aO.refl _, aO.refl _, trivial⟩⟩ ?_
          refine aG (aW (aF (?_)))
          refine aU aD 3 ?_
          refine bA ?_
          exact aG (aF (⟨rfl, _, (oI h2).symm, .eq (by kernel_rfl), hO, hN⟩))
        refine fA 4 ?_
        obtain rfl := oI h2
        obtain rfl : _ = rr1 := ho1
        replace h1 : cE aA a1 b2 i7 j8 = some out1 := h1
        exact aG (aS (aS (bN (aF (⟨rfl, _, .eq (by kernel_rfl), hO, hN, h1⟩)))))
      refine bI ?_
      exact aG (aF (⟨rfl, _, .eq (by kernel_rfl), hO, hN, h1⟩))
    refine bY 2 ?_
    refine eU [(0, (.msl 1 lo0p 0 (List.length aA))), (1, (eI a1)), (2, (eI b2)), (7, (eI i7)), (8, (eI j8))] ?_
    refine dU (fun T H => ∃ aA : List Int, ∃ i7 : Int, Has T [(0, (.msl 1 lo0p 0 (List.length aA))), (1, (eI a1)), (2, (eI b2)), (7, (eI i7)), (8, (eI j8))] ∧ aJ ⟨H0, [lo0p], []⟩ H [(lo0p, 1, List.map (eI) aA)] ∧ List.length aA = N0 ∧ cT aA a1 b2 i7 j8 = some out1) ?_ ⟨aA, i7, .eq (by kernel_rfl), hO, hN, h1⟩
    clear hO hN h1
    rintro T H ⟨aA, i7, hT, hO, hN, h1⟩
    refine aY hT ?_
    clear hT
    unfold cT at h1
    obtain ⟨rr1, hl1, h1⟩ := aX h1
    refine cS (by kernel_rfl) (fun (s : List Int × Int) T H => Has T [(0, (.msl 1 lo0p 0 (List.length s.1))), (1, (eI a1)), (2, (eI b2)), (7, (eI s.2)), (8, (eI j8))] ∧ aJ ⟨H0, [lo0p], []⟩ H [(lo0p, 1, List.map (eI) s.1)] ∧ List.length s.1 = N0) hl1 ⟨.eq (by kernel_rfl), hO, hN⟩ ?_
    clear hO hN
    rintro k1 s out2 T H ⟨hT, hO, hN⟩ h2 ho1
    obtain ⟨aA, i7⟩ := s
    replace h2 : cI a1 b2 j8 aA i7 = some out2 := h2
    try dsimp only at hT
    refine aY hT ?_
    clear hT
    unfold cI at h2
    refine aN ?_
    refine aN ?_
    obtain ⟨c32, h2⟩ := aV h2
    obtain ⟨c33, h2⟩ := aV h2
    obtain ⟨x34, hx35, h2⟩ := aX h2
    refine fF (fG []) aD 16 ?_
    refine mT (K := fun T H => Has (lift T) [(0, (.msl 1 lo0p 0 (List.length aA))), (1, (eI a1)), (2, (eI b2)), (7, (eI i7)), (8, (eI j8)), (32, (aE ((decide (i7 < b2)) && (!x34))))] ∧ aJ ⟨H0, [lo0p], []⟩ H [(lo0p, 1, List.map (eI) aA)]) ?_ ?_
    · refine mX 4 ?_
      refine lB (t := 20) (e := decide (i7 < b2)) (by kernel_rfl) (fun hg36 => ?_) (fun hg36 => ?_)
      · refine cD 7 [0 ≤ i7 ∧ i7 < (lN aA)] ⟨(c32 hg36), trivial⟩ ?_
        refine iY 0 lo0p 1 (0 + Int.toNat i7) (eI (gD aA i7)) (eI (gD aA i7)) (List.map (eI) aA) (by kernel_rfl) (by kernel_rfl) (by kernel_rfl) hO (by kernel_rfl) (bX (c32 hg36)) ?_
        refine cD 12 [0 ≤ (wR (i7 - (1 : Int))) ∧ (wR (i7 - (1 : Int))) < (lN aA)] ⟨(c33 hg36), trivial⟩ ?_
        refine iY 0 lo0p 1 (0 + Int.toNat (wR (i7 - (1 : Int)))) (eI (gD aA (wR (i7 - (1 : Int))))) (eI (gD aA (wR (i7 - (1 : Int))))) (List.map (eI) aA) (by kernel_rfl) (by kernel_rfl) (by kernel_rfl) hO (by kernel_rfl) (bX (c33 hg36)) ?_
        refine mJ 70 [(eI (gD aA i7)), (eI (gD aA (wR (i7 - (1 : Int)))))] (aE x34) (by kernel_rfl) (by kernel_rfl) (fM (gD aA i7) (gD aA (wR (i7 - (1 : Int)))) _ (kE hx35 hg36)) hO ?_
        intro H hO
        refine jB ?_
        exact ⟨⟨[(0, (.msl 1 lo0p 0 (List.length aA))), (1, (eI a1)), (2, (eI b2)), (7, (eI i7)), (8, (eI j8)), (32, (aE (!x34)))], by kernel_rfl, rfl, ⟨aO.refl _, aO.refl _, aO.refl _, aO.refl _, aO.refl _, aO.eq (congrArg aE (jD hg36 rfl).symm), trivial⟩⟩, hO⟩
      refine jB ?_
      exact ⟨⟨[(0, (.msl 1 lo0p 0 (List.length aA))), (1, (eI a1)), (2, (eI b2)), (7, (eI i7)), (8, (eI j8)), (32, (aE false))], by kernel_rfl, rfl, ⟨aO.refl _, aO.refl _, aO.refl _, aO.refl _, aO.refl _, aO.eq (congrArg aE (jD hg36 rfl).symm), trivial⟩⟩, hO⟩
    · rintro T H ⟨hT, hO⟩
      refine cV hT ?_
      clear hT
      refine aG (aF ?_)
      refine bH h2 (fun h2 => ?_) (fun h2 => ?_)
      · refine bI ?_
        refine bG [(0, (.msl 1 lo0p 0 (List.length aA))), (1, (eI a1)), (2, (eI b2)), (7, (eI i7)), (8, (eI j8))] ?_
        refine bY 3 ?_
        refine aU aD 3 ?_
        refine bA ?_
        exact aG (aW (aF (⟨rfl, _, (oI h2).symm, .eq (by kernel_rfl), hO, hN⟩)))
      refine fA 2 ?_
      obtain rfl := oI h2
      obtain rfl : _ = rr1 := ho1
      replace h1 : eC aA a1 b2 i7 j8 = some out1 := h1
      exact aG (aS (aS (bN (aF (⟨rfl, _, _, .eq (by kernel_rfl), hO, hN, h1⟩)))))
  refine fA 0 ?_
  obtain rfl := oI h1
  obtain rfl : _ = rr0 := ho0
  replace h0 : eD aA = some r := h0
  exact aG (aS (aS (bN (aF (⟨rfl, _, .eq (by kernel_rfl), hO, hN, h0⟩)))))

theorem sX (lo0p : Nat) (aA : (List Int)) (a1 : Int) (b2 : Int) (cG : Int) (r : (Int × List Int)) (h0 : eP aA a1 b2 cG = some r) : mA Try.prog 85 lo0p 1 (List.map (eI) aA) (List.map (eI) r.2) [(.msl 1 lo0p 0 (List.length aA)), (eI a1), (eI b2), (eI cG)] (eI r.1) := by
  intro H0 hl0
  refine dG Try.func85 ?_
  have hO := aJ.sH hl0
  clear hl0
  obtain ⟨N0, hN0⟩ : ∃ n, n = List.length aA := ⟨_, rfl⟩
  have hN : List.length aA = N0 := hN0.symm
  unfold eP at h0
  refine aT aD 1 [] [] ?_
  refine aN ?_
  refine fF (fG []) aD 16 ?_
  obtain ⟨c1, h0⟩ := aV h0
  refine cD 7 [0 ≤ cG ∧ cG < (lN aA)] ⟨c1, trivial⟩ ?_
  refine gU 0 lo0p 1 (0 + Int.toNat cG) (eI (gD aA cG)) (eI (gD aA cG)) (List.map (eI) aA) hO (bX c1) ?_
  obtain ⟨c2, h0⟩ := aV h0
  refine cD 11 [0 ≤ a1 ∧ a1 < (lN aA)] ⟨c2, trivial⟩ ?_
  refine gU 0 lo0p 1 (0 + Int.toNat a1) (eI (gD aA a1)) (eI (gD aA a1)) (List.map (eI) aA) hO (bX c2) ?_
  obtain ⟨c3, h0⟩ := aV h0
  refine cD 13 [0 ≤ a1 ∧ a1 < (lN aA)] ⟨c3, trivial⟩ ?_
  refine kH 0 lo0p 1 (0 + Int.toNat a1) (eI (gD aA a1)) (eI (gD aA cG)) (List.map (eI) aA) [(lo0p, 1, List.map (eI) (List.set aA (Int.toNat a1) (gD aA cG)))] hO (bX c3) (by simp only [List.set, gQ]) ?_
  intro H hO
  replace hN : List.length (List.set aA (Int.toNat a1) (gD aA cG)) = N0 := by simpa using hN
  obtain ⟨c4, h0⟩ := aV h0
  refine cD 15 [0 ≤ cG ∧ cG < (lN aA)] ⟨c4, trivial⟩ ?_
  refine kH 0 lo0p 1 (0 + Int.toNat cG) (eI (gD (List.set aA (Int.toNat a1) (gD aA cG)) cG)) (eI (gD aA a1)) (List.map (eI) (List.set aA (Int.toNat a1) (gD aA cG))) [(lo0p, 1, List.map (eI) (List.set (List.set aA (Int.toNat a1) (gD aA cG)) (Int.toNat cG) (gD aA a1)))] hO (lP c4 (by simp [])) (by simp only [List.set, gQ]) ?_
  intro H hO
  replace hN : List.length (List.set (List.set aA (Int.toNat a1) (gD aA cG)) (Int.toNat cG) (gD aA a1)) = N0 := by simpa using hN
  refine mW (by kernel_rfl) ?_
  refine cV (l := [(0, (.msl 1 lo0p 0 (List.length (List.set (List.set aA (Int.toNat a1) (gD aA cG)) (Int.toNat cG) (gD aA a1))))), (1, (eI a1)), (2, (eI b2))]) ⟨[(0, (.msl 1 lo0p 0 (List.length aA))), (1, (eI a1)), (2, (eI b2))], by kernel_rfl, rfl, ⟨aO.eq (by simp []), aO.refl _, aO.refl _, trivial⟩⟩ ?_
  refine aG (aF (?_))
  refine aT aD 6 [2] [(9, (eI (wR (a1 + (1 : Int))))), (10, (eI (wR (b2 - (1 : Int)))))] ?_
  refine dS (fun T H => ∃ aA : List Int, ∃ i9 : Int, Has T [(0, (.msl 1 lo0p 0 (List.length aA))), (9, (eI i9))] ∧ aJ ⟨H0, [lo0p], []⟩ H [(lo0p, 1, List.map (eI) aA)] ∧ List.length aA = N0 ∧ iK aA i9 = some r) ?_ ?_
  · clear hO hN h0
    rintro T H ⟨aA, i9, hT, hO, hN, h0⟩
    refine aY hT ?_
    clear hT
    unfold iK at h0
    refine aT aD 2 [9] [(8, (eI i9))] ?_
    refine bJ ?_
    obtain rfl := oI h0
    exact aG (lW (x := (eI i9)) (by kernel_rfl) (aO.refl _) ⟨rfl, hO.ext, hO.at 0 (by kernel_rfl), by first | rfl | (simp only [List.length_map]; exact hN.trans hN0)⟩)
  refine bY 0 ?_
  refine eU [(0, (.msl 1 lo0p 0 (List.length (List.set (List.set aA (Int.toNat a1) (gD aA cG)) (Int.toNat cG) (gD aA a1))))), (1, (eI a1)), (9, (eI (wR (a1 + (1 : Int))))), (10, (eI (wR (b2 - (1 : Int)))))] ?_
  refine dU (fun T H => ∃ aA : List Int, ∃ i9 : Int, ∃ j10 : Int, Has T [(0, (.msl 1 lo0p 0 (List.length aA))), (1, (eI a1)), (9, (eI i9)), (10, (eI j10))] ∧ aJ ⟨H0, [lo0p], []⟩ H [(lo0p, 1, List.map (eI) aA)] ∧ List.length aA = N0 ∧ iG aA a1 i9 j10 = some r) ?_ ⟨List.set (List.set aA (Int.toNat a1) (gD aA cG)) (Int.toNat cG) (gD aA a1), wR (a1 + (1 : Int)), wR (b2 - (1 : Int)), .eq (by kernel_rfl), hO, hN, h0⟩
  clear hO hN h0
  rintro T H ⟨aA, i9, j10, hT, hO, hN, h0⟩
  refine aY hT ?_
  clear hT
  unfold iG at h0
  obtain ⟨rr0, hl0, h0⟩ := aX h0
  refine cS (by kernel_rfl) (fun (s : List Int × Int × Int) T H => Has T [(0, (.msl 1 lo0p 0 (List.length s.1))), (1, (eI a1)), (9, (eI s.2.1)), (10, (eI s.2.2))] ∧ aJ ⟨H0, [lo0p], []⟩ H [(lo0p, 1, List.map (eI) s.1)] ∧ List.length s.1 = N0) hl0 ⟨.eq (by kernel_rfl), hO, hN⟩ ?_
  clear hO hN
  rintro k0 s out1 T H ⟨hT, hO, hN⟩ h1 ho0
  obtain ⟨aA, i9, j10⟩ := s
  replace h1 : cP a1 aA i9 j10 = some out1 := h1
  try dsimp only at hT
  refine aY hT ?_
  clear hT
  unfold cP at h1
  refine bY 1 ?_
  refine dS (fun T H => ∃ aA : List Int, ∃ i9 : Int, Has T [(0, (.msl 1 lo0p 0 (List.length aA))), (1, (eI a1)), (9, (eI i9)), (10, (eI j10))] ∧ aJ ⟨H0, [lo0p], []⟩ H [(lo0p, 1, List.map (eI) aA)] ∧ List.length aA = N0 ∧ fL aA a1 i9 j10 = some out1) ?_ ?_
  · clear hO hN h1
    rintro T H ⟨aA, i9, hT, hO, hN, h1⟩
    refine aY hT ?_
    clear hT
    unfold fL at h1
    refine dS (fun T H => ∃ aA : List Int, ∃ j10 : Int, Has T [(0, (.msl 1 lo0p 0 (List.length aA))), (1, (eI a1)), (9, (eI i9)), (10, (eI j10))] ∧ aJ ⟨H0, [lo0p], []⟩ H [(lo0p, 1, List.map (eI) aA)] ∧ List.length aA = N0 ∧ dJ aA a1 i9 j10 = some out1) ?_ ?_
    · clear hO hN h1
      rintro T H ⟨aA, j10, hT, hO, hN, h1⟩
      refine aY hT ?_
      clear hT
      unfold dJ at h1
      refine aN ?_
      refine aT aD 3 [] [(64, (aE (decide (j10 < i9))))] ?_
      refine bH h1 (fun h1 => ?_) (fun h1 => ?_)
      · refine fA 0 ?_
        obtain rfl := oI h1
        obtain rfl : _ = rr0 := ho0
        replace h0 : iK aA i9 = some r := h0
        exact aG (aS (qZ (by kernel_rfl) (aS (bN (aF (⟨rfl, _, _, .eq (by kernel_rfl), hO, hN, h0⟩))))))
      refine bI ?_
      refine bG [(0, (.msl 1 lo0p 0 (List.length aA))), (1, (eI a1)), (9, (eI i9)), (10, (eI j10))] ?_
      refine aN ?_
      refine fF (fG []) aD 16 ?_
      obtain ⟨c6, h1⟩ := aV h1
      refine cD 7 [0 ≤ j10 ∧ j10 < (lN aA)] ⟨c6, trivial⟩ ?_
      refine gU 0 lo0p 1 (0 + Int.toNat j10) (eI (gD aA j10)) (eI (gD aA j10)) (List.map (eI) aA) hO (bX c6) ?_
      obtain ⟨c7, h1⟩ := aV h1
      refine cD 11 [0 ≤ i9 ∧ i9 < (lN aA)] ⟨c7, trivial⟩ ?_
      refine gU 0 lo0p 1 (0 + Int.toNat i9) (eI (gD aA i9)) (eI (gD aA i9)) (List.map (eI) aA) hO (bX c7) ?_
      obtain ⟨c8, h1⟩ := aV h1
      refine cD 13 [0 ≤ i9 ∧ i9 < (lN aA)] ⟨c8, trivial⟩ ?_
      refine kH 0 lo0p 1 (0 + Int.toNat i9) (eI (gD aA i9)) (eI (gD aA j10)) (List.map (eI) aA) [(lo0p, 1, List.map (eI) (List.set aA (Int.toNat i9) (gD aA j10)))] hO (bX c8) (by simp only [List.set, gQ]) ?_
      intro H hO
      replace hN : List.length (List.set aA (Int.toNat i9) (gD aA j10)) = N0 := by simpa using hN
      obtain ⟨c9, h1⟩ := aV h1
      refine cD 15 [0 ≤ j10 ∧ j10 < (lN aA)] ⟨c9, trivial⟩ ?_
      refine kH 0 lo0p 1 (0 + Int.toNat j10) (eI (gD (List.set aA (Int.toNat i9) (gD aA j10)) j10)) (eI (gD aA i9)) (List.map (eI) (List.set aA (Int.toNat i9) (gD aA j10))) [(lo0p, 1, List.map (eI) (List.set (List.set aA (Int.toNat i9) (gD aA j10)) (Int.toNat j10) (gD aA i9)))] hO (lP c9 (by simp [])) (by simp only [List.set, gQ]) ?_
      intro H hO
      replace hN : List.length (List.set (List.set aA (Int.toNat i9) (gD aA j10)) (Int.toNat j10) (gD aA i9)) = N0 := by simpa using hN
      refine mW (by kernel_rfl) ?_
      refine cV (l := [(0, (.msl 1 lo0p 0 (List.length (List.set (List.set aA (Int.toNat i9) (gD aA j10)) (Int.toNat j10) (gD aA i9))))), (1, (eI a1)), (9, (eI i9)), (10, (eI j10))]) ⟨[(0, (.msl 1 lo0p 0 (List.length aA))), (1, (eI a1)), (9, (eI i9)), (10, (eI j10))], by kernel_rfl, rfl, ⟨aO.eq (by simp []), aO.refl _, aO.refl _, aO.refl _, trivial⟩⟩ ?_
      refine aG (aF (?_))
      refine aT aD 3 [9] [(9, (eI (wR (i9 + (1 : Int)))))] ?_
      refine aU aD 3 ?_
      refine bA ?_
      exact aG (aW (aF (⟨rfl, _, (oI h1).symm, .eq (by kernel_rfl), hO, hN⟩)))
    refine bY 4 ?_
    refine eU [(0, (.msl 1 lo0p 0 (List.length aA))), (1, (eI a1)), (9, (eI i9)), (10, (eI j10))] ?_
    refine dU (fun T H => ∃ aA : List Int, ∃ j10 : Int, Has T [(0, (.msl 1 lo0p 0 (List.length aA))), (1, (eI a1)), (9, (eI i9)), (10, (eI j10))] ∧ aJ ⟨H0, [lo0p], []⟩ H [(lo0p, 1, List.map (eI) aA)] ∧ List.length aA = N0 ∧ iI aA a1 i9 j10 = some out1) ?_ ⟨aA, j10, .eq (by kernel_rfl), hO, hN, h1⟩
    clear hO hN h1
    rintro T H ⟨aA, j10, hT, hO, hN, h1⟩
    refine aY hT ?_
    clear hT
    unfold iI at h1
    obtain ⟨rr1, hl1, h1⟩ := aX h1
    refine cS (by kernel_rfl) (fun (s : List Int × Int) T H => Has T [(0, (.msl 1 lo0p 0 (List.length s.1))), (1, (eI a1)), (9, (eI i9)), (10, (eI s.2))] ∧ aJ ⟨H0, [lo0p], []⟩ H [(lo0p, 1, List.map (eI) s.1)] ∧ List.length s.1 = N0) hl1 ⟨.eq (by kernel_rfl), hO, hN⟩ ?_
    clear hO hN
    rintro k1 s out2 T H ⟨hT, hO, hN⟩ h2 ho1
    obtain ⟨aA, j10⟩ := s
    replace h2 : dK a1 i9 aA j10 = some out2 := h2
    try dsimp only at hT
    refine aY hT ?_
    clear hT
    unfold dK at h2
    refine aN ?_
    refine aN ?_
    obtain ⟨c10, h2⟩ := aV h2
    obtain ⟨c11, h2⟩ := aV h2
    obtain ⟨x12, hx13, h2⟩ := aX h2
    refine fF (fG []) aD 14 ?_
    refine mT (K := fun T H => Has (lift T) [(0, (.msl 1 lo0p 0 (List.length aA))), (1, (eI a1)), (9, (eI i9)), (10, (eI j10)), (59, (aE ((decide (i9 ≤ j10)) && x12)))] ∧ aJ ⟨H0, [lo0p], []⟩ H [(lo0p, 1, List.map (eI) aA)]) ?_ ?_
    · refine mX 4 ?_
      refine lB (t := 49) (e := decide (i9 ≤ j10)) (by kernel_rfl) (fun hg14 => ?_) (fun hg14 => ?_)
      · refine cD 7 [0 ≤ a1 ∧ a1 < (lN aA)] ⟨(c10 hg14), trivial⟩ ?_
        refine iY 0 lo0p 1 (0 + Int.toNat a1) (eI (gD aA a1)) (eI (gD aA a1)) (List.map (eI) aA) (by kernel_rfl) (by kernel_rfl) (by kernel_rfl) hO (by kernel_rfl) (bX (c10 hg14)) ?_
        refine cD 11 [0 ≤ j10 ∧ j10 < (lN aA)] ⟨(c11 hg14), trivial⟩ ?_
        refine iY 0 lo0p 1 (0 + Int.toNat j10) (eI (gD aA j10)) (eI (gD aA j10)) (List.map (eI) aA) (by kernel_rfl) (by kernel_rfl) (by kernel_rfl) hO (by kernel_rfl) (bX (c11 hg14)) ?_
        refine mJ 70 [(eI (gD aA a1)), (eI (gD aA j10))] (aE x12) (by kernel_rfl) (by kernel_rfl) (fM (gD aA a1) (gD aA j10) _ (kE hx13 hg14)) hO ?_
        intro H hO
        refine jB ?_
        exact ⟨⟨[(0, (.msl 1 lo0p 0 (List.length aA))), (1, (eI a1)), (9, (eI i9)), (10, (eI j10)), (59, (aE x12))], by kernel_rfl, rfl, ⟨aO.refl _, aO.refl _, aO.refl _, aO.refl _, aO.eq (congrArg aE (jD hg14 rfl).symm), trivial⟩⟩, hO⟩
      refine jB ?_
      exact ⟨⟨[(0, (.msl 1 lo0p 0 (List.length aA))), (1, (eI a1)), (9, (eI i9)), (10, (eI j10)), (59, (aE false))], by kernel_rfl, rfl, ⟨aO.refl _, aO.refl _, aO.refl _, aO.refl _, aO.eq (congrArg aE (jD hg14 rfl).symm), trivial⟩⟩, hO⟩
    · rintro T H ⟨hT, hO⟩
      refine cV hT ?_
      clear hT
      refine aG (aF ?_)
      refine bH h2 (fun h2 => ?_) (fun h2 => ?_)
      · refine bI ?_
        refine bG [(0, (.msl 1 lo0p 0 (List.length aA))), (1, (eI a1)), (9, (eI i9)), (10, (eI j10))] ?_
        refine bY 5 ?_
        refine aU aD 3 ?_
        refine bA ?_
        exact aG (aW (aF (⟨rfl, _, (oI h2).symm, .eq (by kernel_rfl), hO, hN⟩)))
      refine fA 4 ?_
      obtain rfl := oI h2
      obtain rfl : _ = rr1 := ho1
      replace h1 : dJ aA a1 i9 j10 = some out1 := h1
      exact aG (aS (aS (bN (aF (⟨rfl, _, _, .eq (by kernel_rfl), hO, hN, h1⟩)))))
  refine bY 2 ?_
  refine eU [(0, (.msl 1 lo0p 0 (List.length aA))), (1, (eI a1)), (9, (eI i9)), (10, (eI j10))] ?_
  refine dU (fun T H => ∃ aA : List Int, ∃ i9 : Int, Has T [(0, (.msl 1 lo0p 0 (List.length aA))), (1, (eI a1)), (9, (eI i9)), (10, (eI j10))] ∧ aJ ⟨H0, [lo0p], []⟩ H [(lo0p, 1, List.map (eI) aA)] ∧ List.length aA = N0 ∧ iL aA a1 i9 j10 = some out1) ?_ ⟨aA, i9, .eq (by kernel_rfl), hO, hN, h1⟩
  clear hO hN h1
  rintro T H ⟨aA, i9, hT, hO, hN, h1⟩
  refine aY hT ?_
  clear hT
  unfold iL at h1
  obtain ⟨rr1, hl1, h1⟩ := aX h1
  refine cS (by kernel_rfl) (fun (s : List Int × Int) T H => Has T [(0, (.msl 1 lo0p 0 (List.length s.1))), (1, (eI a1)), (9, (eI s.2)), (10, (eI j10))] ∧ aJ ⟨H0, [lo0p], []⟩ H [(lo0p, 1, List.map (eI) s.1)] ∧ List.length s.1 = N0) hl1 ⟨.eq (by kernel_rfl), hO, hN⟩ ?_
  clear hO hN
  rintro k1 s out2 T H ⟨hT, hO, hN⟩ h2 ho1
  obtain ⟨aA, i9⟩ := s
  replace h2 : dH a1 j10 aA i9 = some out2 := h2
  try dsimp only at hT
  refine aY hT ?_
  clear hT
  unfold dH at h2
  refine aN ?_
  refine aN ?_
  obtain ⟨c16, h2⟩ := aV h2
  obtain ⟨c17, h2⟩ := aV h2
  obtain ⟨x18, hx19, h2⟩ := aX h2
  refine fF (fG []) aD 15 ?_
  refine mT (K := fun T H => Has (lift T) [(0, (.msl 1 lo0p 0 (List.length aA))), (1, (eI a1)), (9, (eI i9)), (10, (eI j10)), (43, (aE ((decide (i9 ≤ j10)) && (!x18))))] ∧ aJ ⟨H0, [lo0p], []⟩ H [(lo0p, 1, List.map (eI) aA)]) ?_ ?_
  · refine mX 4 ?_
    refine lB (t := 32) (e := decide (i9 ≤ j10)) (by kernel_rfl) (fun hg20 => ?_) (fun hg20 => ?_)
    · refine cD 7 [0 ≤ a1 ∧ a1 < (lN aA)] ⟨(c16 hg20), trivial⟩ ?_
      refine iY 0 lo0p 1 (0 + Int.toNat a1) (eI (gD aA a1)) (eI (gD aA a1)) (List.map (eI) aA) (by kernel_rfl) (by kernel_rfl) (by kernel_rfl) hO (by kernel_rfl) (bX (c16 hg20)) ?_
      refine cD 11 [0 ≤ i9 ∧ i9 < (lN aA)] ⟨(c17 hg20), trivial⟩ ?_
      refine iY 0 lo0p 1 (0 + Int.toNat i9) (eI (gD aA i9)) (eI (gD aA i9)) (List.map (eI) aA) (by kernel_rfl) (by kernel_rfl) (by kernel_rfl) hO (by kernel_rfl) (bX (c17 hg20)) ?_
      refine mJ 70 [(eI (gD aA a1)), (eI (gD aA i9))] (aE x18) (by kernel_rfl) (by kernel_rfl) (fM (gD aA a1) (gD aA i9) _ (kE hx19 hg20)) hO ?_
      intro H hO
      refine jB ?_
      exact ⟨⟨[(0, (.msl 1 lo0p 0 (List.length aA))), (1, (eI a1)), (9, (eI i9)), (10, (eI j10)), (43, (aE (!x18)))], by kernel_rfl, rfl, ⟨aO.refl _, aO.refl _, aO.refl _, aO.refl _, aO.eq (congrArg aE (jD hg20 rfl).symm), trivial⟩⟩, hO⟩
    refine jB ?_
    exact ⟨⟨[(0, (.msl 1 lo0p 0 (List.length aA))), (1, (eI a1)), (9, (eI i9)), (10, (eI j10)), (43, (aE false))], by kernel_rfl, rfl, ⟨aO.refl _, aO.refl _, aO.refl _, aO.refl _, aO.eq (congrArg aE (jD hg20 rfl).symm), trivial⟩⟩, hO⟩
  · rintro T H ⟨hT, hO⟩
    refine cV hT ?_
    clear hT
    refine aG (aF ?_)
    refine bH h2 (fun h2 => ?_) (fun h2 => ?_)
    · refine bI ?_
      refine bG [(0, (.msl 1 lo0p 0 (List.length aA))), (1, (eI a1)), (9, (eI i9)), (10, (eI j10))] ?_
      refine bY 3 ?_
      refine aU aD 3 ?_
      refine bA ?_
      exact aG (aW (aF (⟨rfl, _, (oI h2).symm, .eq (by kernel_rfl), hO, hN⟩)))
    refine fA 2 ?_
    obtain rfl := oI h2
    obtain rfl : _ = rr1 := ho1
    replace h1 : fL aA a1 i9 j10 = some out1 := h1
    exact aG (aS (aS (bN (aF (⟨rfl, _, _, .eq (by kernel_rfl), hO, hN, h1⟩)))))

end Go.Abs
