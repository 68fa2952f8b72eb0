/- What the law SnapTicks stands on: the framework, the given functions as plain functions, their walks, and the plain laws; part 3. -/
import Derived.Test.YtfhaegpflbcmgaaSnapTicksZ2
set_option linter.unusedSimpArgs false
set_option linter.unusedVariables false
namespace Go.Abs
open Go
noncomputable def fU (aA : (List Int)) (a1 : Int) (b2 : Int) : Option (List Int) :=
  cond (decide ((8 : Int) ≤ (IntKind.i64.wrap (b2 - a1))))
  ((kG (IntKind.i64.wrap (b2 - a1))).bind fun x3 =>
  aZ ((4 : Int) ≠ 0) <|
  iN aA a1 (IntKind.i64.wrap (b2 - a1)) (IntKind.u64.wrap (IntKind.i64.wrap (b2 - a1))) x3 (IntKind.i64.wrap ((IntKind.i64.wrap (a1 + (IntKind.i64.wrap ((IntKind.i64.wrap (Int.tdiv (IntKind.i64.wrap (b2 - a1)) (4 : Int))) * (2 : Int))))) - (1 : Int))))
  (some aA)

noncomputable def fI (aA : (List Int)) (a1 : Int) (b2 : Int) (pV : Int) : Option ((Int × Int) × Int) :=
  aZ (0 ≤ b2 ∧ b2 < ((List.length aA : Nat) : Int)) <|
  aZ (0 ≤ a1 ∧ a1 < ((List.length aA : Nat) : Int)) <|
  (cW (List.getD aA (Int.toNat b2) default) (List.getD aA (Int.toNat a1) default)).bind fun x3 =>
  cond x3
  (some ((b2, a1), IntKind.i64.wrap (pV + (1 : Int))))
  (some ((a1, b2), pV))

noncomputable def gU (aA : (List Int)) (a1 : Int) (b2 : Int) (c3 : Int) (AW : Int) : Option (Int × Int) :=
  (fI aA a1 b2 AW).bind fun x1 =>
  (fI aA x1.1.2 c3 x1.2).bind fun x6 =>
  (fI aA x1.1.1 x6.1.1 x6.2).bind fun x11 =>
  some (x11.1.2, x11.2)

noncomputable def dM (aA : (List Int)) (a1 : Int) (AG : Int) : Option (Int × Int) :=
  (gU aA (IntKind.i64.wrap (a1 - (1 : Int))) a1 (IntKind.i64.wrap (a1 + (1 : Int))) AG).bind fun x1 =>
  some (x1.1, x1.2)

noncomputable def eW (aA : List Int) (lC : Int) (j11 : Int) : Option (Int × Int) :=
  cond (decide (lC = (0 : Int)))
  (some (j11, (1 : Int)))
  (cond (decide (lC = (12 : Int)))
  (some (j11, (2 : Int)))
  (some (j11, (0 : Int))))

noncomputable def eV (aA : List Int) (lC : Int) (i10 : Int) (j11 : Int) (k12 : Int) : Option (Int × Int) :=
  (gU aA i10 j11 k12 lC).bind fun x8 =>
  eW aA x8.2 x8.1

noncomputable def gO (aA : (List Int)) (a1 : Int) (b2 : Int) : Option (Int × Int) :=
  aZ ((4 : Int) ≠ 0) <|
  aZ ((4 : Int) ≠ 0) <|
  aZ ((4 : Int) ≠ 0) <|
  cond (decide ((8 : Int) ≤ (IntKind.i64.wrap (b2 - a1))))
  (cond (decide ((50 : Int) ≤ (IntKind.i64.wrap (b2 - a1))))
  ((dM aA (IntKind.i64.wrap (a1 + (IntKind.i64.wrap ((IntKind.i64.wrap (Int.tdiv (IntKind.i64.wrap (b2 - a1)) (4 : Int))) * (1 : Int))))) 0).bind fun x14 =>
  (dM aA (IntKind.i64.wrap (a1 + (IntKind.i64.wrap ((IntKind.i64.wrap (Int.tdiv (IntKind.i64.wrap (b2 - a1)) (4 : Int))) * (2 : Int))))) x14.2).bind fun x19 =>
  (dM aA (IntKind.i64.wrap (a1 + (IntKind.i64.wrap ((IntKind.i64.wrap (Int.tdiv (IntKind.i64.wrap (b2 - a1)) (4 : Int))) * (3 : Int))))) x19.2).bind fun x24 =>
  eV aA x24.2 x14.1 x19.1 x24.1)
  (eV aA 0 (IntKind.i64.wrap (a1 + (IntKind.i64.wrap ((IntKind.i64.wrap (Int.tdiv (IntKind.i64.wrap (b2 - a1)) (4 : Int))) * (1 : Int))))) (IntKind.i64.wrap (a1 + (IntKind.i64.wrap ((IntKind.i64.wrap (Int.tdiv (IntKind.i64.wrap (b2 - a1)) (4 : Int))) * (2 : Int))))) (IntKind.i64.wrap (a1 + (IntKind.i64.wrap ((IntKind.i64.wrap (Int.tdiv (IntKind.i64.wrap (b2 - a1)) (4 : Int))) * (3 : Int)))))))
  (eW aA 0 (IntKind.i64.wrap (a1 + (IntKind.i64.wrap ((IntKind.i64.wrap (Int.tdiv (IntKind.i64.wrap (b2 - a1)) (4 : Int))) * (2 : Int))))))

noncomputable def dB  (aA : List Int) (i6 : Int) (j7 : Int) : Option ((List Int × Int × Int) ⊕ ((List Int))) :=
  cond (decide (i6 < j7))
  (aZ (0 ≤ j7 ∧ j7 < ((List.length aA : Nat) : Int)) <|
  aZ (0 ≤ i6 ∧ i6 < ((List.length aA : Nat) : Int)) <|
  aZ (0 ≤ i6 ∧ i6 < ((List.length aA : Nat) : Int)) <|
  aZ (0 ≤ j7 ∧ j7 < ((List.length aA : Nat) : Int)) <|
  some (.inl (List.set (List.set aA (Int.toNat i6) (List.getD aA (Int.toNat j7) default)) (Int.toNat j7) (List.getD aA (Int.toNat i6) default), IntKind.i64.wrap (i6 + (1 : Int)), IntKind.i64.wrap (j7 - (1 : Int)))))
  (some (.inr aA))

noncomputable def iQ (aA : List Int) (i6 : Int) (j7 : Int) : Option (List Int) :=
  (lp (fun s => dB s.1 s.2.1 s.2.2) (aA, i6, j7)).bind (fun rr => some rr)

noncomputable def gI (aA : (List Int)) (a1 : Int) (b2 : Int) : Option (List Int) :=
  iQ aA a1 (IntKind.i64.wrap (b2 - (1 : Int)))

noncomputable def eA (aA : List Int) : Option (Bool × List Int) :=
  some (false, aA)

noncomputable def dF (aA : List Int) (a1 : Int) (b2 : Int) (i7 : Int) (j8 : Int) : Option ((List Int × Int × Int) ⊕ ((List Int) ⊕ (Bool × (List Int)))) :=
  some (.inl (aA, i7, IntKind.i64.wrap (j8 + (1 : Int))))

noncomputable def cL (a1 : Int) (b2 : Int) (i7 : Int) (j8 : Int) (aA : List Int) (j10 : Int) : Option ((List Int × Int) ⊕ ((List Int))) :=
  cond (decide (j10 < b2))
  (aZ (0 ≤ j10 ∧ j10 < ((List.length aA : Nat) : Int)) <|
  aZ (0 ≤ (IntKind.i64.wrap (j10 - (1 : Int))) ∧ (IntKind.i64.wrap (j10 - (1 : Int))) < ((List.length aA : Nat) : Int)) <|
  (cW (List.getD aA (Int.toNat j10) default) (List.getD aA (Int.toNat (IntKind.i64.wrap (j10 - (1 : Int)))) default)).bind fun x12 =>
  cond (!x12)
  (some (.inr aA))
  (aZ (0 ≤ (IntKind.i64.wrap (j10 - (1 : Int))) ∧ (IntKind.i64.wrap (j10 - (1 : Int))) < ((List.length aA : Nat) : Int)) <|
  aZ (0 ≤ j10 ∧ j10 < ((List.length aA : Nat) : Int)) <|
  aZ (0 ≤ j10 ∧ j10 < ((List.length aA : Nat) : Int)) <|
  aZ (0 ≤ (IntKind.i64.wrap (j10 - (1 : Int))) ∧ (IntKind.i64.wrap (j10 - (1 : Int))) < ((List.length aA : Nat) : Int)) <|
  some (.inl (List.set (List.set aA (Int.toNat j10) (List.getD aA (Int.toNat (IntKind.i64.wrap (j10 - (1 : Int)))) default)) (Int.toNat (IntKind.i64.wrap (j10 - (1 : Int)))) (List.getD aA (Int.toNat j10) default), IntKind.i64.wrap (j10 + (1 : Int))))))
  (some (.inr aA))

noncomputable def fN (aA : List Int) (a1 : Int) (b2 : Int) (i7 : Int) (j8 : Int) (j10 : Int) : Option ((List Int × Int × Int) ⊕ ((List Int) ⊕ (Bool × (List Int)))) :=
  (lp (fun s => cL a1 b2 i7 j8 s.1 s.2) (aA, j10)).bind (fun rr => dF rr a1 b2 i7 j8)

noncomputable def cG (aA : List Int) (a1 : Int) (b2 : Int) (i7 : Int) (j8 : Int) : Option ((List Int × Int × Int) ⊕ ((List Int) ⊕ (Bool × (List Int)))) :=
  cond (decide ((2 : Int) ≤ (IntKind.i64.wrap (b2 - i7))))
  (fN aA a1 b2 i7 j8 (IntKind.i64.wrap (i7 + (1 : Int))))
  (dF aA a1 b2 i7 j8)

noncomputable def cH (a1 : Int) (b2 : Int) (i7 : Int) (j8 : Int) (aA : List Int) (j9 : Int) : Option ((List Int × Int) ⊕ ((List Int))) :=
  cond (decide ((1 : Int) ≤ j9))
  (aZ (0 ≤ j9 ∧ j9 < ((List.length aA : Nat) : Int)) <|
  aZ (0 ≤ (IntKind.i64.wrap (j9 - (1 : Int))) ∧ (IntKind.i64.wrap (j9 - (1 : Int))) < ((List.length aA : Nat) : Int)) <|
  (cW (List.getD aA (Int.toNat j9) default) (List.getD aA (Int.toNat (IntKind.i64.wrap (j9 - (1 : Int)))) default)).bind fun x24 =>
  cond (!x24)
  (some (.inr aA))
  (aZ (0 ≤ (IntKind.i64.wrap (j9 - (1 : Int))) ∧ (IntKind.i64.wrap (j9 - (1 : Int))) < ((List.length aA : Nat) : Int)) <|
  aZ (0 ≤ j9 ∧ j9 < ((List.length aA : Nat) : Int)) <|
  aZ (0 ≤ j9 ∧ j9 < ((List.length aA : Nat) : Int)) <|
  aZ (0 ≤ (IntKind.i64.wrap (j9 - (1 : Int))) ∧ (IntKind.i64.wrap (j9 - (1 : Int))) < ((List.length aA : Nat) : Int)) <|
  some (.inl (List.set (List.set aA (Int.toNat j9) (List.getD aA (Int.toNat (IntKind.i64.wrap (j9 - (1 : Int)))) default)) (Int.toNat (IntKind.i64.wrap (j9 - (1 : Int)))) (List.getD aA (Int.toNat j9) default), IntKind.i64.wrap (j9 - (1 : Int))))))
  (some (.inr aA))

noncomputable def fM (aA : List Int) (a1 : Int) (b2 : Int) (i7 : Int) (j8 : Int) (j9 : Int) : Option ((List Int × Int × Int) ⊕ ((List Int) ⊕ (Bool × (List Int)))) :=
  (lp (fun s => cH a1 b2 i7 j8 s.1 s.2) (aA, j9)).bind (fun rr => cG rr a1 b2 i7 j8)

noncomputable def dZ (aA : List Int) (a1 : Int) (b2 : Int) (i7 : Int) (j8 : Int) : Option ((List Int × Int × Int) ⊕ ((List Int) ⊕ (Bool × (List Int)))) :=
  cond (decide (i7 = b2))
  (some (.inr (.inr (true, aA))))
  (cond (decide ((IntKind.i64.wrap (b2 - a1)) < (50 : Int)))
  (some (.inr (.inr (false, aA))))
  (aZ (0 ≤ (IntKind.i64.wrap (i7 - (1 : Int))) ∧ (IntKind.i64.wrap (i7 - (1 : Int))) < ((List.length aA : Nat) : Int)) <|
  aZ (0 ≤ i7 ∧ i7 < ((List.length aA : Nat) : Int)) <|
  aZ (0 ≤ i7 ∧ i7 < ((List.length aA : Nat) : Int)) <|
  aZ (0 ≤ (IntKind.i64.wrap (i7 - (1 : Int))) ∧ (IntKind.i64.wrap (i7 - (1 : Int))) < ((List.length aA : Nat) : Int)) <|
  cond (decide ((2 : Int) ≤ (IntKind.i64.wrap (i7 - a1))))
  (fM (List.set (List.set aA (Int.toNat i7) (List.getD aA (Int.toNat (IntKind.i64.wrap (i7 - (1 : Int)))) default)) (Int.toNat (IntKind.i64.wrap (i7 - (1 : Int)))) (List.getD aA (Int.toNat i7) default)) a1 b2 i7 j8 (IntKind.i64.wrap (i7 - (1 : Int))))
  (cG (List.set (List.set aA (Int.toNat i7) (List.getD aA (Int.toNat (IntKind.i64.wrap (i7 - (1 : Int)))) default)) (Int.toNat (IntKind.i64.wrap (i7 - (1 : Int)))) (List.getD aA (Int.toNat i7) default)) a1 b2 i7 j8)))

noncomputable def cK (a1 : Int) (b2 : Int) (j8 : Int) (aA : List Int) (i7 : Int) : Option ((List Int × Int) ⊕ ((List Int × Int))) :=
  aZ ((((decide (i7 < b2))) = true → 0 ≤ i7 ∧ i7 < ((List.length aA : Nat) : Int))) <|
  aZ ((((decide (i7 < b2))) = true → 0 ≤ (IntKind.i64.wrap (i7 - (1 : Int))) ∧ (IntKind.i64.wrap (i7 - (1 : Int))) < ((List.length aA : Nat) : Int))) <|
  (dD (decide (i7 < b2)) (cW (List.getD aA (Int.toNat i7) default) (List.getD aA (Int.toNat (IntKind.i64.wrap (i7 - (1 : Int)))) default))).bind fun x34 =>
  cond ((decide (i7 < b2)) && (!x34))
  (some (.inl (aA, IntKind.i64.wrap (i7 + (1 : Int)))))
  (some (.inr (aA, i7)))

noncomputable def cT (aA : List Int) (a1 : Int) (b2 : Int) (i7 : Int) (j8 : Int) : Option ((List Int × Int × Int) ⊕ ((List Int) ⊕ (Bool × (List Int)))) :=
  (lp (fun s => cK a1 b2 j8 s.1 s.2) (aA, i7)).bind (fun rr => dZ rr.1 a1 b2 rr.2 j8)

noncomputable def bR (a1 : Int) (b2 : Int) (aA : List Int) (i7 : Int) (j8 : Int) : Option ((List Int × Int × Int) ⊕ ((List Int) ⊕ (Bool × (List Int)))) :=
  cond (decide (j8 < (5 : Int)))
  (cT aA a1 b2 i7 j8)
  (some (.inr (.inl aA)))

noncomputable def fL (aA : List Int) (a1 : Int) (b2 : Int) (i7 : Int) (j8 : Int) : Option (Bool × List Int) :=
  (lp (fun s => bR a1 b2 s.1 s.2.1 s.2.2) (aA, i7, j8)).bind (Sum.elim (fun rr => eA rr) (fun rr => some (rr.1, rr.2)))

noncomputable def eC (aA : (List Int)) (a1 : Int) (b2 : Int) : Option (Bool × List Int) :=
  fL aA a1 b2 (IntKind.i64.wrap (a1 + (1 : Int))) (0 : Int)

noncomputable def iD (aA : List Int) (i9 : Int) : Option (Int × List Int) :=
  some (i9, aA)

noncomputable def dK (aA : List Int) (a1 : Int) (i9 : Int) (j10 : Int) : Option ((List Int × Int × Int) ⊕ ((List Int × Int))) :=
  cond (decide (j10 < i9))
  (some (.inr (aA, i9)))
  (aZ (0 ≤ j10 ∧ j10 < ((List.length aA : Nat) : Int)) <|
  aZ (0 ≤ i9 ∧ i9 < ((List.length aA : Nat) : Int)) <|
  aZ (0 ≤ i9 ∧ i9 < ((List.length aA : Nat) : Int)) <|
  aZ (0 ≤ j10 ∧ j10 < ((List.length aA : Nat) : Int)) <|
  some (.inl (List.set (List.set aA (Int.toNat i9) (List.getD aA (Int.toNat j10) default)) (Int.toNat j10) (List.getD aA (Int.toNat i9) default), IntKind.i64.wrap (i9 + (1 : Int)), IntKind.i64.wrap (j10 - (1 : Int)))))

noncomputable def dH (a1 : Int) (i9 : Int) (aA : List Int) (j10 : Int) : Option ((List Int × Int) ⊕ ((List Int × Int))) :=
  aZ ((((decide (i9 ≤ j10))) = true → 0 ≤ a1 ∧ a1 < ((List.length aA : Nat) : Int))) <|
  aZ ((((decide (i9 ≤ j10))) = true → 0 ≤ j10 ∧ j10 < ((List.length aA : Nat) : Int))) <|
  (dD (decide (i9 ≤ j10)) (cW (List.getD aA (Int.toNat a1) default) (List.getD aA (Int.toNat j10) default))).bind fun x12 =>
  cond ((decide (i9 ≤ j10)) && x12)
  (some (.inl (aA, IntKind.i64.wrap (j10 - (1 : Int)))))
  (some (.inr (aA, j10)))

noncomputable def iB (aA : List Int) (a1 : Int) (i9 : Int) (j10 : Int) : Option ((List Int × Int × Int) ⊕ ((List Int × Int))) :=
  (lp (fun s => dH a1 i9 s.1 s.2) (aA, j10)).bind (fun rr => dK rr.1 a1 i9 rr.2)

noncomputable def fF (aA : List Int) (a1 : Int) (i9 : Int) (j10 : Int) : Option ((List Int × Int × Int) ⊕ ((List Int × Int))) :=
  iB aA a1 i9 j10

noncomputable def dJ (a1 : Int) (j10 : Int) (aA : List Int) (i9 : Int) : Option ((List Int × Int) ⊕ ((List Int × Int))) :=
  aZ ((((decide (i9 ≤ j10))) = true → 0 ≤ a1 ∧ a1 < ((List.length aA : Nat) : Int))) <|
  aZ ((((decide (i9 ≤ j10))) = true → 0 ≤ i9 ∧ i9 < ((List.length aA : Nat) : Int))) <|
  (dD (decide (i9 ≤ j10)) (cW (List.getD aA (Int.toNat a1) default) (List.getD aA (Int.toNat i9) default))).bind fun x18 =>
  cond ((decide (i9 ≤ j10)) && (!x18))
  (some (.inl (aA, IntKind.i64.wrap (i9 + (1 : Int)))))
  (some (.inr (aA, i9)))

noncomputable def iF (aA : List Int) (a1 : Int) (i9 : Int) (j10 : Int) : Option ((List Int × Int × Int) ⊕ ((List Int × Int))) :=
  (lp (fun s => dJ a1 j10 s.1 s.2) (aA, i9)).bind (fun rr => fF rr.1 a1 rr.2 j10)

noncomputable def cN (a1 : Int) (aA : List Int) (i9 : Int) (j10 : Int) : Option ((List Int × Int × Int) ⊕ ((List Int × Int))) :=
  iF aA a1 i9 j10

noncomputable def iE (aA : List Int) (a1 : Int) (i9 : Int) (j10 : Int) : Option (Int × List Int) :=
  (lp (fun s => cN a1 s.1 s.2.1 s.2.2) (aA, i9, j10)).bind (fun rr => iD rr.1 rr.2)

noncomputable def eJ (aA : (List Int)) (a1 : Int) (b2 : Int) (cI : Int) : Option (Int × List Int) :=
  aZ (0 ≤ cI ∧ cI < ((List.length aA : Nat) : Int)) <|
  aZ (0 ≤ a1 ∧ a1 < ((List.length aA : Nat) : Int)) <|
  aZ (0 ≤ a1 ∧ a1 < ((List.length aA : Nat) : Int)) <|
  aZ (0 ≤ cI ∧ cI < ((List.length aA : Nat) : Int)) <|
  iE (List.set (List.set aA (Int.toNat a1) (List.getD aA (Int.toNat cI) default)) (Int.toNat cI) (List.getD aA (Int.toNat a1) default)) a1 (IntKind.i64.wrap (a1 + (1 : Int))) (IntKind.i64.wrap (b2 - (1 : Int)))

noncomputable def gX (aA : List Int) (a1 : Int) (j11 : Int) : Option ((Int × Bool) × List Int) :=
  aZ (0 ≤ a1 ∧ a1 < ((List.length aA : Nat) : Int)) <|
  aZ (0 ≤ j11 ∧ j11 < ((List.length aA : Nat) : Int)) <|
  aZ (0 ≤ j11 ∧ j11 < ((List.length aA : Nat) : Int)) <|
  aZ (0 ≤ a1 ∧ a1 < ((List.length aA : Nat) : Int)) <|
  some ((j11, false), (List.set (List.set aA (Int.toNat j11) (List.getD aA (Int.toNat a1) default)) (Int.toNat a1) (List.getD aA (Int.toNat j11) default)))

noncomputable def eH (aA : List Int) (a1 : Int) (i10 : Int) (j11 : Int) : Option ((List Int × Int × Int) ⊕ ((List Int × Int))) :=
  cond (decide (j11 < i10))
  (some (.inr (aA, j11)))
  (aZ (0 ≤ j11 ∧ j11 < ((List.length aA : Nat) : Int)) <|
  aZ (0 ≤ i10 ∧ i10 < ((List.length aA : Nat) : Int)) <|
  aZ (0 ≤ i10 ∧ i10 < ((List.length aA : Nat) : Int)) <|
  aZ (0 ≤ j11 ∧ j11 < ((List.length aA : Nat) : Int)) <|
  some (.inl (List.set (List.set aA (Int.toNat i10) (List.getD aA (Int.toNat j11) default)) (Int.toNat j11) (List.getD aA (Int.toNat i10) default), IntKind.i64.wrap (i10 + (1 : Int)), IntKind.i64.wrap (j11 - (1 : Int)))))

noncomputable def eF (a1 : Int) (i10 : Int) (aA : List Int) (j11 : Int) : Option ((List Int × Int) ⊕ ((List Int × Int))) :=
  aZ ((((decide (i10 ≤ j11))) = true → 0 ≤ j11 ∧ j11 < ((List.length aA : Nat) : Int))) <|
  aZ ((((decide (i10 ≤ j11))) = true → 0 ≤ a1 ∧ a1 < ((List.length aA : Nat) : Int))) <|
  (dD (decide (i10 ≤ j11)) (cW (List.getD aA (Int.toNat j11) default) (List.getD aA (Int.toNat a1) default))).bind fun x25 =>
  cond ((decide (i10 ≤ j11)) && (!x25))
  (some (.inl (aA, IntKind.i64.wrap (j11 - (1 : Int)))))
  (some (.inr (aA, j11)))

noncomputable def jP (aA : List Int) (a1 : Int) (i10 : Int) (j11 : Int) : Option ((List Int × Int × Int) ⊕ ((List Int × Int))) :=
  (lp (fun s => eF a1 i10 s.1 s.2) (aA, j11)).bind (fun rr => eH rr.1 a1 i10 rr.2)

noncomputable def gY (aA : List Int) (a1 : Int) (i10 : Int) (j11 : Int) : Option ((List Int × Int × Int) ⊕ ((List Int × Int))) :=
  jP aA a1 i10 j11

noncomputable def eG (a1 : Int) (j11 : Int) (aA : List Int) (i10 : Int) : Option ((List Int × Int) ⊕ ((List Int × Int))) :=
  aZ ((((decide (i10 ≤ j11))) = true → 0 ≤ i10 ∧ i10 < ((List.length aA : Nat) : Int))) <|
  aZ ((((decide (i10 ≤ j11))) = true → 0 ≤ a1 ∧ a1 < ((List.length aA : Nat) : Int))) <|
  (dD (decide (i10 ≤ j11)) (cW (List.getD aA (Int.toNat i10) default) (List.getD aA (Int.toNat a1) default))).bind fun x31 =>
  cond ((decide (i10 ≤ j11)) && x31)
  (some (.inl (aA, IntKind.i64.wrap (i10 + (1 : Int)))))
  (some (.inr (aA, i10)))

noncomputable def jN (aA : List Int) (a1 : Int) (i10 : Int) (j11 : Int) : Option ((List Int × Int × Int) ⊕ ((List Int × Int))) :=
  (lp (fun s => eG a1 j11 s.1 s.2) (aA, i10)).bind (fun rr => gY rr.1 a1 rr.2 j11)

noncomputable def dA (a1 : Int) (aA : List Int) (i10 : Int) (j11 : Int) : Option ((List Int × Int × Int) ⊕ ((List Int × Int))) :=
  jN aA a1 i10 j11

noncomputable def jJ (aA : List Int) (a1 : Int) (i10 : Int) (j11 : Int) : Option ((Int × Bool) × List Int) :=
  (lp (fun s => dA a1 s.1 s.2.1 s.2.2) (aA, i10, j11)).bind (fun rr => gX rr.1 a1 rr.2)

noncomputable def eD (aA : List Int) (a1 : Int) (i10 : Int) (j11 : Int) : Option ((Int × Bool) × List Int) :=
  cond (decide (j11 < i10))
  (aZ (0 ≤ a1 ∧ a1 < ((List.length aA : Nat) : Int)) <|
  aZ (0 ≤ j11 ∧ j11 < ((List.length aA : Nat) : Int)) <|
  aZ (0 ≤ j11 ∧ j11 < ((List.length aA : Nat) : Int)) <|
  aZ (0 ≤ a1 ∧ a1 < ((List.length aA : Nat) : Int)) <|
  some ((j11, true), (List.set (List.set aA (Int.toNat j11) (List.getD aA (Int.toNat a1) default)) (Int.toNat a1) (List.getD aA (Int.toNat j11) default))))
  (aZ (0 ≤ j11 ∧ j11 < ((List.length aA : Nat) : Int)) <|
  aZ (0 ≤ i10 ∧ i10 < ((List.length aA : Nat) : Int)) <|
  aZ (0 ≤ i10 ∧ i10 < ((List.length aA : Nat) : Int)) <|
  aZ (0 ≤ j11 ∧ j11 < ((List.length aA : Nat) : Int)) <|
  jJ (List.set (List.set aA (Int.toNat i10) (List.getD aA (Int.toNat j11) default)) (Int.toNat j11) (List.getD aA (Int.toNat i10) default)) a1 (IntKind.i64.wrap (i10 + (1 : Int))) (IntKind.i64.wrap (j11 - (1 : Int))))

noncomputable def eE (a1 : Int) (i10 : Int) (aA : List Int) (j11 : Int) : Option ((List Int × Int) ⊕ ((List Int × Int))) :=
  aZ ((((decide (i10 ≤ j11))) = true → 0 ≤ j11 ∧ j11 < ((List.length aA : Nat) : Int))) <|
  aZ ((((decide (i10 ≤ j11))) = true → 0 ≤ a1 ∧ a1 < ((List.length aA : Nat) : Int))) <|
  (dD (decide (i10 ≤ j11)) (cW (List.getD aA (Int.toNat j11) default) (List.getD aA (Int.toNat a1) default))).bind fun x37 =>
  cond ((decide (i10 ≤ j11)) && (!x37))
  (some (.inl (aA, IntKind.i64.wrap (j11 - (1 : Int)))))
  (some (.inr (aA, j11)))

noncomputable def jO (aA : List Int) (a1 : Int) (i10 : Int) (j11 : Int) : Option ((Int × Bool) × List Int) :=
  (lp (fun s => eE a1 i10 s.1 s.2) (aA, j11)).bind (fun rr => eD rr.1 a1 i10 rr.2)

noncomputable def gW (aA : List Int) (a1 : Int) (i10 : Int) (j11 : Int) : Option ((Int × Bool) × List Int) :=
  jO aA a1 i10 j11

noncomputable def dW (a1 : Int) (j11 : Int) (aA : List Int) (i10 : Int) : Option ((List Int × Int) ⊕ ((List Int × Int))) :=
  aZ ((((decide (i10 ≤ j11))) = true → 0 ≤ i10 ∧ i10 < ((List.length aA : Nat) : Int))) <|
  aZ ((((decide (i10 ≤ j11))) = true → 0 ≤ a1 ∧ a1 < ((List.length aA : Nat) : Int))) <|
  (dD (decide (i10 ≤ j11)) (cW (List.getD aA (Int.toNat i10) default) (List.getD aA (Int.toNat a1) default))).bind fun x43 =>
  cond ((decide (i10 ≤ j11)) && x43)
  (some (.inl (aA, IntKind.i64.wrap (i10 + (1 : Int)))))
  (some (.inr (aA, i10)))

noncomputable def fA (aA : List Int) (a1 : Int) (i10 : Int) (j11 : Int) : Option ((Int × Bool) × List Int) :=
  (lp (fun s => dW a1 j11 s.1 s.2) (aA, i10)).bind (fun rr => gW rr.1 a1 rr.2 j11)

noncomputable def fQ (aA : (List Int)) (a1 : Int) (b2 : Int) (cI : Int) : Option ((Int × Bool) × List Int) :=
  aZ (0 ≤ cI ∧ cI < ((List.length aA : Nat) : Int)) <|
  aZ (0 ≤ a1 ∧ a1 < ((List.length aA : Nat) : Int)) <|
  aZ (0 ≤ a1 ∧ a1 < ((List.length aA : Nat) : Int)) <|
  aZ (0 ≤ cI ∧ cI < ((List.length aA : Nat) : Int)) <|
  fA (List.set (List.set aA (Int.toNat a1) (List.getD aA (Int.toNat cI) default)) (Int.toNat cI) (List.getD aA (Int.toNat a1) default)) a1 (IntKind.i64.wrap (a1 + (1 : Int))) (IntKind.i64.wrap (b2 - (1 : Int)))

noncomputable def fY (rec : (List Int) → Int → Int → Int → Option (List Int)) (aA : List Int) (a1 : Int) (b2 : Int) (bV : Int) (bQ : Bool) (bI : Bool) (dL : Int) (fD : Int) : Option ((List Int × Int × Int × Int × Bool × Bool) ⊕ ((List Int))) :=
  aZ ((((decide ((0 : Int) < a1))) = true → 0 ≤ (IntKind.i64.wrap (a1 - (1 : Int))) ∧ (IntKind.i64.wrap (a1 - (1 : Int))) < ((List.length aA : Nat) : Int))) <|
  aZ ((((decide ((0 : Int) < a1))) = true → 0 ≤ fD ∧ fD < ((List.length aA : Nat) : Int))) <|
  (dD (decide ((0 : Int) < a1)) (cW (List.getD aA (Int.toNat (IntKind.i64.wrap (a1 - (1 : Int)))) default) (List.getD aA (Int.toNat fD) default))).bind fun x16 =>
  cond ((decide ((0 : Int) < a1)) && (!x16))
  ((eJ aA a1 b2 fD).bind fun x20 =>
  some (.inl (x20.2, x20.1, b2, bV, bQ, bI)))
  ((fQ aA a1 b2 fD).bind fun x23 =>
  aZ ((8 : Int) ≠ 0) <|
  cond (decide ((IntKind.i64.wrap (x23.1.1 - a1)) < (IntKind.i64.wrap (b2 - x23.1.1))))
  ((rec x23.2 a1 x23.1.1 bV).bind fun x28 =>
  some (.inl (x28, IntKind.i64.wrap (x23.1.1 + (1 : Int)), b2, bV, decide ((IntKind.i64.wrap (Int.tdiv dL (8 : Int))) ≤ (IntKind.i64.wrap (x23.1.1 - a1))), x23.1.2)))
  ((rec x23.2 (IntKind.i64.wrap (x23.1.1 + (1 : Int))) b2 bV).bind fun x31 =>
  some (.inl (x31, a1, x23.1.1, bV, decide ((IntKind.i64.wrap (Int.tdiv dL (8 : Int))) ≤ (IntKind.i64.wrap (b2 - x23.1.1))), x23.1.2))))

noncomputable def gF (rec : (List Int) → Int → Int → Int → Option (List Int)) (aA : List Int) (a1 : Int) (b2 : Int) (bV : Int) (bQ : Bool) (bI : Bool) (dL : Int) (fD : Int) (yM : Int) : Option ((List Int × Int × Int × Int × Bool × Bool) ⊕ ((List Int))) :=
  cond ((bQ && bI) && (decide (yM = (1 : Int))))
  ((eC aA a1 b2).bind fun x35 =>
  cond x35.1
  (some (.inr x35.2))
  (fY rec x35.2 a1 b2 bV bQ bI dL fD))
  (fY rec aA a1 b2 bV bQ bI dL fD)

noncomputable def gE (rec : (List Int) → Int → Int → Int → Option (List Int)) (aA : List Int) (a1 : Int) (b2 : Int) (bV : Int) (bQ : Bool) (bI : Bool) (dL : Int) : Option ((List Int × Int × Int × Int × Bool × Bool) ⊕ ((List Int))) :=
  (gO aA a1 b2).bind fun x9 =>
  cond (decide (x9.2 = (2 : Int)))
  ((gI aA a1 b2).bind fun x40 =>
  gF rec x40 a1 b2 bV bQ bI dL (IntKind.i64.wrap ((IntKind.i64.wrap (b2 - (1 : Int))) - (IntKind.i64.wrap (x9.1 - a1)))) (1 : Int))
  (gF rec aA a1 b2 bV bQ bI dL x9.1 x9.2)

noncomputable def dV (rec : (List Int) → Int → Int → Int → Option (List Int))  (aA : List Int) (a1 : Int) (b2 : Int) (bV : Int) (bQ : Bool) (bI : Bool) : Option ((List Int × Int × Int × Int × Bool × Bool) ⊕ ((List Int))) :=
  cond (decide ((IntKind.i64.wrap (b2 - a1)) ≤ (12 : Int)))
  ((fX aA a1 b2).bind fun x2 =>
  some (.inr x2))
  (cond (decide (bV = (0 : Int)))
  ((iO aA a1 b2).bind fun x6 =>
  some (.inr x6))
  (cond (!bQ)
  ((fU aA a1 b2).bind fun x44 =>
  gE rec x44 a1 b2 (IntKind.i64.wrap (bV - (1 : Int))) bQ bI (IntKind.i64.wrap (b2 - a1)))
  (gE rec aA a1 b2 bV bQ bI (IntKind.i64.wrap (b2 - a1)))))

noncomputable def kF (rec : (List Int) → Int → Int → Int → Option (List Int)) (aA : List Int) (a1 : Int) (b2 : Int) (bV : Int) (bQ : Bool) (bI : Bool) : Option (List Int) :=
  (lp (fun s => dV rec s.1 s.2.1 s.2.2.1 s.2.2.2.1 s.2.2.2.2.1 s.2.2.2.2.2) (aA, a1, b2, bV, bQ, bI)).bind (fun rr => some rr)

noncomputable def fE (rec : (List Int) → Int → Int → Int → Option (List Int)) (aA : (List Int)) (a1 : Int) (b2 : Int) (bV : Int) : Option (List Int) :=
  kF rec aA a1 b2 bV true true

noncomputable def cX  : Nat → (List Int) → Int → Int → Int → Option (List Int)
  | 0 => fun _ _ _ _ => none
  | k + 1 => fE (cX k)

noncomputable def iU (aA : (List Int)) (a1 : Int) (b2 : Int) (bV : Int) : Option (List Int) := JW (fun k => cX k aA a1 b2 bV)

noncomputable def jS (x0 : (List Int)) : Option (List Int) :=
  (jL (IntKind.u64.wrap ((List.length x0 : Nat) : Int))).bind fun x1 =>
  (iU x0 (0 : Int) ((List.length x0 : Nat) : Int) x1).bind fun x4 =>
  some x4

noncomputable def tU (out9 : List Int) : Option ((List Int) × Int) :=
  (jS out9).bind fun x16 =>
  some (x16, (0 : Int))

noncomputable def oJ (t50 : (List (Int × Int))) (out9 : List Int) (mk : Int) (mv : Int) : Option (List Int) :=
  aZ ((List.length out9 + List.length ([mk])) * 8 ≤ 140737488355328 ∧ List.length out9 + List.length ([mk]) ≤ 9223372036854775807) <|
  some (out9 ++ ([mk]))

noncomputable def uJ (t50 : (List (Int × Int))) (out9 : List Int) : Option ((List Int) × Int) :=
  tU out9

noncomputable def uD (out9 : List Int) (t50 : (List (Int × Int))) : Option ((List Int) × Int) :=
  vA t50 (fun q => (oF (fun (s : List Int) (x : Int × Int) => oJ t50 s x.1 x.2) out9 q).bind (fun (s : List Int) => uJ t50 s))

noncomputable def rM (jQ : (List (Int × Int))) : Option ((List Int) × Int) :=
  aZ (0 ≤ ((List.length jQ : Nat) : Int) ∧ (8 : Int) * ((List.length jQ : Nat) : Int) ≤ 281474976710656 ∧ ((List.length jQ : Nat) : Int) ≤ 9223372036854775807) <|
  uD ([] : List Int) jQ

noncomputable def oU (eN : Int) (jQ : (List (Int × Int))) (t32 : (List aL)) (t33 : Int) (t34 : Int) : Option (((List (Int × Int)) × Int) ⊕ ((List (Int × Int)))) :=
  some (.inl (jQ, IntKind.i64.wrap (t34 + (1 : Int))))

noncomputable def lY (eN : Int) (t32 : (List aL)) (t33 : Int) (jQ : (List (Int × Int))) (t34 : Int) : Option (((List (Int × Int)) × Int) ⊕ ((List (Int × Int)))) :=
  cond (decide (t34 < t33))
  (aZ (0 ≤ t34 ∧ t34 < ((List.length t32 : Nat) : Int)) <|
  cond (decide (eN < ((List.getD t32 (Int.toNat t34) default).At)))
  (oU eN (oW jQ ((List.getD t32 (Int.toNat t34) default).At) (1 : Int)) t32 t33 t34)
  (oU eN jQ t32 t33 t34))
  (some (.inr jQ))

noncomputable def uK (eN : Int) (jQ : (List (Int × Int))) (t32 : (List aL)) (t33 : Int) (t34 : Int) : Option ((List Int) × Int) :=
  (lp (fun s => lY eN t32 t33 s.1 s.2) (jQ, t34)).bind (fun rr => rM rr)

noncomputable def qI (l0 : (List aL)) (eN : Int) : Option ((List Int) × Int) :=
  (sA l0).bind fun x1 =>
  cond (!x1)
  (some ([], (2 : Int)))
  ((rF l0).bind fun x5 =>
  cond (!x5)
  (some ([], (20 : Int)))
  (cond ((decide (eN < (0 : Int))) || (decide ((1125899906842624 : Int) < eN)))
  (some ([], (13 : Int)))
  (cond (decide (eN = (1125899906842624 : Int)))
  (some ([], (0 : Int)))
  (uK eN (oW ([] : (List (Int × Int))) eN (1 : Int)) l0 ((List.length l0 : Nat) : Int) (0 : Int)))))

noncomputable def tD (l0 : (List aL)) : Option ((List aL)) :=
  some l0

noncomputable def kC {σ : Type} (fV : σ → (List aB) → (List aI) → Option (σ × Bool)) (t9c0 : (List aL)) (sg : σ) (t10 : (List aB)) (t11 : (List aI)) : Option ((σ) ⊕ (σ)) :=
  (fV sg t10 t11).bind fun x7 =>
  cond (!x7.2)
  (some (.inr x7.1))
  (some (.inl x7.1))

noncomputable def nW {σ : Type} (fV : σ → (List aB) → (List aI) → Option (σ × Bool)) (sg : σ) (t9c0 : (List aL)) : Option σ :=
  (mD (fun st t10 t11 => rnd (fun (s : σ) => kC fV t9c0 s t10 t11) st) t9c0 (.inl sg)).bind (Sum.elim (fun (s : σ) =>
  (some s))
  (fun (s : σ) =>
  (some s)))

noncomputable def mL {σ : Type} (fV : σ → (List aB) → (List aI) → Option (σ × Bool)) (t1 : (List aL)) (sg0 : σ) : Option σ :=
  (sA t1).bind fun x1 =>
  cond (!x1)
  (some sg0)
  ((qG t1).bind fun x5 =>
  nW fV sg0 x5)

noncomputable def rU (v5 : Int) : Option Int :=
  some v5

noncomputable def lV (t1 : Int) (t11 : (List aI)) (t12 : Int) (v5 : Int) (t13 : Int) : Option ((Int × Int) ⊕ (Int)) :=
  cond (decide (t13 < t12))
  (aZ (0 ≤ t13 ∧ t13 < ((List.length t11 : Nat) : Int)) <|
  cond (decide (t1 < ((List.getD t11 (Int.toNat t13) default).At)))
  (some (.inr v5))
  (some (.inl (IntKind.i64.wrap (v5 + ((List.getD t11 (Int.toNat t13) default).Net)), IntKind.i64.wrap (t13 + (1 : Int))))))
  (some (.inr v5))

noncomputable def wC (t1 : Int) (v5 : Int) (t11 : (List aI)) (t12 : Int) (t13 : Int) : Option Int :=
  (lp (fun s => lV t1 t11 t12 s.1 s.2) (v5, t13)).bind (fun rr => rU rr)

noncomputable def vK (f0 : (List aI)) (t1 : Int) : Option Int :=
  (mR f0).bind fun x1 =>
  cond (!x1)
  (some (0 : Int))
  (wC t1 (0 : Int) f0 ((List.length f0 : Nat) : Int) (0 : Int))

noncomputable def gJ (s0 : (List aB)) : Option (List aB) :=
  aZ (List.length s0 * 32 ≤ 140737488355328 ∧ List.length s0 ≤ 9223372036854775807) <|
  some s0

noncomputable def qT (out4 : List aY) : Option (List aY) :=
  some out4

noncomputable def mF (t0 : Int) (out4 : List aY) (t9 : (List bT)) (t10 : Int) (t11 : Int) : Option ((List aY × Int) ⊕ ((List aY))) :=
  some (.inl (out4, IntKind.i64.wrap (t11 + (1 : Int))))

noncomputable def lA (t0 : Int) (t9 : (List bT)) (t10 : Int) (out4 : List aY) (t11 : Int) : Option ((List aY × Int) ⊕ ((List aY))) :=
  cond (decide (t11 < t10))
  (aZ (0 ≤ t11 ∧ t11 < ((List.length t9 : Nat) : Int)) <|
  (vK ((List.getD t9 (Int.toNat t11) default).jumps) t0).bind fun x9 =>
  cond (decide ((0 : Int) < x9))
  ((gJ ((List.getD t9 (Int.toNat t11) default).row)).bind fun x16 =>
  aZ ((List.length out4 + List.length ([aY.mk x16 x9])) * 32 ≤ 140737488355328 ∧ List.length out4 + List.length ([aY.mk x16 x9]) ≤ 9223372036854775807) <|
  mF t0 (out4 ++ ([aY.mk x16 x9])) t9 t10 t11)
  (mF t0 out4 t9 t10 t11))
  (some (.inr out4))

noncomputable def qQ (t0 : Int) (out4 : List aY) (t9 : (List bT)) (t10 : Int) (t11 : Int) : Option (List aY) :=
  (lp (fun s => lA t0 t9 t10 s.1 s.2) (out4, t11)).bind (fun rr => qT rr)

noncomputable def oM (t0 : Int) (t1 : (List bT)) : Option (List aY) :=
  qQ t0 ([] : List aY) t1 ((List.length t1 : Nat) : Int) (0 : Int)

noncomputable def lH (dU : (List Int)) (rW : (List aL)) (all8 : List bT) (t29 : (List aB)) (t30 : (List aI)) : Option ((List bT) ⊕ (List bT)) :=
  aZ ((List.length all8 + List.length ([bT.mk t29 t30])) * 48 ≤ 140737488355328 ∧ List.length all8 + List.length ([bT.mk t29 t30]) ≤ 9223372036854775807) <|
  some (.inl (all8 ++ ([bT.mk t29 t30])))

noncomputable def tB (dS : List cD) : Option ((List cD) × Int) :=
  some (dS, (0 : Int))

noncomputable def pN (dU : (List Int)) (fB : (List bT)) (dS : List cD) (t39 : (List Int)) (t40 : Int) (t41 : Int) : Option ((List cD × Int) ⊕ ((List cD) ⊕ ((List cD) × Int))) :=
  some (.inl (dS, IntKind.i64.wrap (t41 + (1 : Int))))

noncomputable def qA (dU : (List Int)) (fB : (List bT)) (dS : List cD) (t14 : Int) (oH : (List aY)) (tT : Int) (t39 : (List Int)) (t40 : Int) (t41 : Int) : Option ((List cD × Int) ⊕ ((List cD) ⊕ ((List cD) × Int))) :=
  aZ ((List.length dS + List.length ([cD.mk (jI.mk t14 tT) oH])) * 40 ≤ 140737488355328 ∧ List.length dS + List.length ([cD.mk (jI.mk t14 tT) oH]) ≤ 9223372036854775807) <|
  pN dU fB (dS ++ ([cD.mk (jI.mk t14 tT) oH])) t39 t40 t41

noncomputable def lI (dU : (List Int)) (fB : (List bT)) (t39 : (List Int)) (t40 : Int) (dS : List cD) (t41 : Int) : Option ((List cD × Int) ⊕ ((List cD) ⊕ ((List cD) × Int))) :=
  cond (decide (t41 < t40))
  (aZ (0 ≤ t41 ∧ t41 < ((List.length t39 : Nat) : Int)) <|
  (oM (List.getD t39 (Int.toNat t41) default) fB).bind fun x20 =>
  cond (decide (((List.length x20 : Nat) : Int) = (0 : Int)))
  (pN dU fB dS t39 t40 t41)
  (cond (decide (((List.length dS : Nat) : Int) = (1024 : Int)))
  (some (.inr (.inr ([], (7 : Int)))))
  (cond (decide ((IntKind.i64.wrap (t41 + (1 : Int))) < ((List.length dU : Nat) : Int)))
  (aZ (0 ≤ (IntKind.i64.wrap (t41 + (1 : Int))) ∧ (IntKind.i64.wrap (t41 + (1 : Int))) < ((List.length dU : Nat) : Int)) <|
  qA dU fB dS (List.getD t39 (Int.toNat t41) default) x20 (List.getD dU (Int.toNat (IntKind.i64.wrap (t41 + (1 : Int)))) default) t39 t40 t41)
  (qA dU fB dS (List.getD t39 (Int.toNat t41) default) x20 (1125899906842624 : Int) t39 t40 t41))))
  (some (.inr (.inl dS)))

noncomputable def pY (dU : (List Int)) (fB : (List bT)) (dS : List cD) (t39 : (List Int)) (t40 : Int) (t41 : Int) : Option ((List cD) × Int) :=
  (lp (fun s => lI dU fB t39 t40 s.1 s.2) (dS, t41)).bind (Sum.elim (fun rr => tB rr) (fun rr => some (rr.1, rr.2)))

noncomputable def tE (dU : (List Int)) (all8 : List bT) (rW : (List aL)) : Option ((List cD) × Int) :=
  (mL (fun st t29 t30 => rnd (fun (s : List bT) => lH dU rW s t29 t30) st) rW (.inl all8)).bind (Sum.elim (fun (s : List bT) =>
  (pY dU s ([] : List cD) dU ((List.length dU : Nat) : Int) (0 : Int)))
  (fun (s : List bT) =>
  (none)))

noncomputable def oS (l0 : (List aL)) (eN : Int) : Option ((List cD) × Int) :=
  (qI l0 eN).bind fun x1 =>
  cond (!decide (x1.2 = (0 : Int)))
  (some ([], x1.2))
  ((tD l0).bind fun x7 =>
  tE x1.1 ([] : List bT) x7)

noncomputable def nD  : Option Bool :=
  (qI ([aL.mk ([aB.mk (1 : Int) (1 : Int) ByteArray.empty]) (2 : Int) (1 : Int), aL.mk ([aB.mk (1 : Int) (1 : Int) ByteArray.empty]) (9 : Int) (-1 : Int), aL.mk ([aB.mk (1 : Int) (2 : Int) ByteArray.empty]) (5 : Int) (1 : Int), aL.mk ([aB.mk (1 : Int) (2 : Int) ByteArray.empty]) (7 : Int) (-1 : Int)]) (0 : Int)).bind fun x1 =>
  (oS ([aL.mk ([aB.mk (1 : Int) (1 : Int) ByteArray.empty]) (2 : Int) (1 : Int), aL.mk ([aB.mk (1 : Int) (1 : Int) ByteArray.empty]) (9 : Int) (-1 : Int), aL.mk ([aB.mk (1 : Int) (2 : Int) ByteArray.empty]) (5 : Int) (1 : Int), aL.mk ([aB.mk (1 : Int) (2 : Int) ByteArray.empty]) (7 : Int) (-1 : Int)]) (0 : Int)).bind fun x4 =>
  aZ ((((((decide (x1.2 = (0 : Int))) && (decide (x4.2 = (0 : Int)))) && (decide (((List.length x1.1 : Nat) : Int) = (5 : Int))))) = true → 0 ≤ (2 : Int) ∧ (2 : Int) < ((List.length x1.1 : Nat) : Int))) <|
  aZ ((((((((decide (x1.2 = (0 : Int))) && (decide (x4.2 = (0 : Int)))) && (decide (((List.length x1.1 : Nat) : Int) = (5 : Int)))) && (decide ((List.getD x1.1 (Int.toNat (2 : Int)) default) = (5 : Int)))) && (decide (((List.length x4.1 : Nat) : Int) = (3 : Int))))) = true → 0 ≤ (1 : Int) ∧ (1 : Int) < ((List.length x4.1 : Nat) : Int))) <|
  aZ (((((((((decide (x1.2 = (0 : Int))) && (decide (x4.2 = (0 : Int)))) && (decide (((List.length x1.1 : Nat) : Int) = (5 : Int)))) && (decide ((List.getD x1.1 (Int.toNat (2 : Int)) default) = (5 : Int)))) && (decide (((List.length x4.1 : Nat) : Int) = (3 : Int)))) && ((decide ((((List.getD x4.1 (Int.toNat (1 : Int)) default).Span).From) = ((jI.mk (5 : Int) (7 : Int)).From))) && ((decide ((((List.getD x4.1 (Int.toNat (1 : Int)) default).Span).To) = ((jI.mk (5 : Int) (7 : Int)).To))) && true)))) = true → 0 ≤ (1 : Int) ∧ (1 : Int) < ((List.length x4.1 : Nat) : Int))) <|
  some (((((((decide (x1.2 = (0 : Int))) && (decide (x4.2 = (0 : Int)))) && (decide (((List.length x1.1 : Nat) : Int) = (5 : Int)))) && (decide ((List.getD x1.1 (Int.toNat (2 : Int)) default) = (5 : Int)))) && (decide (((List.length x4.1 : Nat) : Int) = (3 : Int)))) && ((decide ((((List.getD x4.1 (Int.toNat (1 : Int)) default).Span).From) = ((jI.mk (5 : Int) (7 : Int)).From))) && ((decide ((((List.getD x4.1 (Int.toNat (1 : Int)) default).Span).To) = ((jI.mk (5 : Int) (7 : Int)).To))) && true))) && (decide (((List.length ((List.getD x4.1 (Int.toNat (1 : Int)) default).Rows) : Nat) : Int) = (2 : Int))))

noncomputable def oD (v0 : aB) : Option Bool :=
  cond (decide (v0.Kind = (1 : Int)))
  (some (lX v0.Text (⟨#[]⟩ : ByteArray)))
  (some (((decide (v0.Kind = (2 : Int))) && (decide (v0.Num = (0 : Int)))) && (decide (((ByteArray.size v0.Text : Nat) : Int) ≤ (64 : Int)))))

noncomputable def oP (r0 : (List aB)) : Option Bool :=
  some (decide (((List.length r0 : Nat) : Int) ≤ (8 : Int)))

noncomputable def mZ (r0 : (List aB)) (i3 : Int) : Option ((Int) ⊕ (Unit ⊕ Bool)) :=
  cond ((decide (i3 < ((List.length r0 : Nat) : Int))) && (decide (i3 < (9 : Int))))
  (aZ (0 ≤ i3 ∧ i3 < ((List.length r0 : Nat) : Int)) <|
  (oD (List.getD r0 (Int.toNat i3) default)).bind fun x3 =>
  cond (!x3)
  (some (.inr (.inr false)))
  (some (.inl (IntKind.i64.wrap (i3 + (1 : Int))))))
  (some (.inr (.inl ())))

noncomputable def uM (r0 : (List aB)) (i3 : Int) : Option Bool :=
  (lp (fun s => mZ r0 s) i3).bind (Sum.elim (fun rr => oP r0) (fun rr => some rr))

noncomputable def qK (r0 : (List aB)) : Option Bool :=
  uM r0 (0 : Int)

noncomputable def nF (a2 : aB) (b3 : aB) : Option Int :=
  cond (!decide (((ByteArray.size a2.Text : Nat) : Int) = ((ByteArray.size b3.Text : Nat) : Int)))
  (cond (decide (((ByteArray.size a2.Text : Nat) : Int) < ((ByteArray.size b3.Text : Nat) : Int)))
  (some (-1 : Int))
  (some (1 : Int)))
  (some (0 : Int))

noncomputable def iA (a2 : aB) (b3 : aB) (i5 : Int) : Option ((Int) ⊕ (Unit ⊕ Int)) :=
  cond ((decide (i5 < ((ByteArray.size a2.Text : Nat) : Int))) && (decide (i5 < ((ByteArray.size b3.Text : Nat) : Int))))
  (aZ (0 ≤ i5 ∧ i5 < ((ByteArray.size a2.Text : Nat) : Int)) <|
  aZ (0 ≤ i5 ∧ i5 < ((ByteArray.size b3.Text : Nat) : Int)) <|
  cond (!decide ((bt a2.Text i5) = (bt b3.Text i5)))
  (aZ (0 ≤ i5 ∧ i5 < ((ByteArray.size a2.Text : Nat) : Int)) <|
  aZ (0 ≤ i5 ∧ i5 < ((ByteArray.size b3.Text : Nat) : Int)) <|
  cond (decide ((bt a2.Text i5) < (bt b3.Text i5)))
  (some (.inr (.inr (-1 : Int))))
  (some (.inr (.inr (1 : Int)))))
  (some (.inl (IntKind.i64.wrap (i5 + (1 : Int))))))
  (some (.inr (.inl ())))

noncomputable def oY (a2 : aB) (b3 : aB) (i5 : Int) : Option Int :=
  (lp (fun s => iA a2 b3 s) i5).bind (Sum.elim (fun rr => nF a2 b3) (fun rr => some rr))

noncomputable def nX (a0 : aB) (b1 : aB) : Option Int :=
  (oD a0).bind fun x1 =>
  (dD (!(!x1)) (oD b1)).bind fun x4 =>
  cond ((!x1) || (!x4))
  (some (0 : Int))
  (cond (!decide (a0.Kind = b1.Kind))
  (cond (decide (a0.Kind = (1 : Int)))
  (some (-1 : Int))
  (some (1 : Int)))
  (cond (!decide (a0.Num = b1.Num))
  (cond (decide (a0.Num < b1.Num))
  (some (-1 : Int))
  (some (1 : Int)))
  (oY a0 b1 (0 : Int))))

noncomputable def nB (a0 : (List aB)) (b1 : (List aB)) : Option Int :=
  cond (decide (((List.length a0 : Nat) : Int) < ((List.length b1 : Nat) : Int)))
  (some (-1 : Int))
  (cond (decide (((List.length b1 : Nat) : Int) < ((List.length a0 : Nat) : Int)))
  (some (1 : Int))
  (some (0 : Int)))

noncomputable def hU (a0 : (List aB)) (b1 : (List aB)) (i5 : Int) : Option ((Int) ⊕ (Unit ⊕ Int)) :=
  cond ((decide (i5 < ((List.length a0 : Nat) : Int))) && (decide (i5 < ((List.length b1 : Nat) : Int))))
  (aZ (0 ≤ i5 ∧ i5 < ((List.length a0 : Nat) : Int)) <|
  aZ (0 ≤ i5 ∧ i5 < ((List.length b1 : Nat) : Int)) <|
  (nX (List.getD a0 (Int.toNat i5) default) (List.getD b1 (Int.toNat i5) default)).bind fun x13 =>
  cond (!decide (x13 = (0 : Int)))
  (some (.inr (.inr x13)))
  (some (.inl (IntKind.i64.wrap (i5 + (1 : Int))))))
  (some (.inr (.inl ())))

noncomputable def pF (a0 : (List aB)) (b1 : (List aB)) (i5 : Int) : Option Int :=
  (lp (fun s => hU a0 b1 s) i5).bind (Sum.elim (fun rr => nB a0 b1) (fun rr => some rr))

noncomputable def nV (a0 : (List aB)) (b1 : (List aB)) : Option Int :=
  (qK a0).bind fun x1 =>
  (dD (!(!x1)) (qK b1)).bind fun x4 =>
  cond ((!x1) || (!x4))
  (some (0 : Int))
  (pF a0 b1 (0 : Int))

noncomputable def pP  : Option Bool :=
  some true

noncomputable def nS (a0 : (List aB)) (b1 : (List aB)) (i5 : Int) : Option ((Int) ⊕ (Unit ⊕ Bool)) :=
  cond (decide (i5 < ((List.length a0 : Nat) : Int)))
  (aZ (0 ≤ i5 ∧ i5 < ((List.length a0 : Nat) : Int)) <|
  aZ (0 ≤ i5 ∧ i5 < ((List.length b1 : Nat) : Int)) <|
  cond (!((decide (((List.getD a0 (Int.toNat i5) default).Kind) = ((List.getD b1 (Int.toNat i5) default).Kind))) && ((decide (((List.getD a0 (Int.toNat i5) default).Num) = ((List.getD b1 (Int.toNat i5) default).Num))) && ((lX ((List.getD a0 (Int.toNat i5) default).Text) ((List.getD b1 (Int.toNat i5) default).Text)) && true))))
  (some (.inr (.inr false)))
  (some (.inl (IntKind.i64.wrap (i5 + (1 : Int))))))
  (some (.inr (.inl ())))

noncomputable def sU (a0 : (List aB)) (b1 : (List aB)) (i5 : Int) : Option Bool :=
  (lp (fun s => nS a0 b1 s) i5).bind (Sum.elim (fun rr => pP ) (fun rr => some rr))

noncomputable def nE (a0 : (List aB)) (b1 : (List aB)) : Option Bool :=
  cond (!decide (((List.length a0 : Nat) : Int) = ((List.length b1 : Nat) : Int)))
  (some false)
  (sU a0 b1 (0 : Int))

noncomputable def tC (bF : List (List aB)) : Option (List (List aB)) :=
  some bF

noncomputable def pS (l0 : (List aL)) (bF : List (List aB)) (i4 : Int) : Option ((List (List aB) × Int) ⊕ ((List (List aB)))) :=
  some (.inl (bF, IntKind.i64.wrap (i4 + (1 : Int))))

noncomputable def pQ (l0 : (List aL)) (bF : List (List aB)) (i4 : Int) (at5 : Int) : Option ((List (List aB) × Int) ⊕ ((List (List aB)))) :=
  aZ ((((decide (at5 < ((List.length bF : Nat) : Int)))) = true → 0 ≤ at5 ∧ at5 < ((List.length bF : Nat) : Int))) <|
  aZ ((((decide (at5 < ((List.length bF : Nat) : Int)))) = true → 0 ≤ i4 ∧ i4 < ((List.length l0 : Nat) : Int))) <|
  (dD (decide (at5 < ((List.length bF : Nat) : Int))) (nE (List.getD bF (Int.toNat at5) default) ((List.getD l0 (Int.toNat i4) default).Row))).bind fun x10 =>
  cond ((decide (at5 < ((List.length bF : Nat) : Int))) && x10)
  (pS l0 bF i4)
  (aZ (0 ≤ at5 ∧ at5 ≤ ((List.length bF : Nat) : Int)) <|
  aZ (List.length (List.take (Int.toNat at5) bF) * 24 ≤ 140737488355328 ∧ List.length (List.take (Int.toNat at5) bF) ≤ 9223372036854775807) <|
  aZ (0 ≤ i4 ∧ i4 < ((List.length l0 : Nat) : Int)) <|
  aZ ((List.length (List.take (Int.toNat at5) bF) + List.length ([(List.getD l0 (Int.toNat i4) default).Row])) * 24 ≤ 140737488355328 ∧ List.length (List.take (Int.toNat at5) bF) + List.length ([(List.getD l0 (Int.toNat i4) default).Row]) ≤ 9223372036854775807) <|
  aZ (0 ≤ at5 ∧ at5 ≤ ((List.length bF : Nat) : Int)) <|
  aZ ((List.length ((List.take (Int.toNat at5) bF) ++ ([(List.getD l0 (Int.toNat i4) default).Row])) + List.length (List.drop (Int.toNat at5) bF)) * 24 ≤ 140737488355328 ∧ List.length ((List.take (Int.toNat at5) bF) ++ ([(List.getD l0 (Int.toNat i4) default).Row])) + List.length (List.drop (Int.toNat at5) bF) ≤ 9223372036854775807) <|
  pS l0 (((List.take (Int.toNat at5) bF) ++ ([(List.getD l0 (Int.toNat i4) default).Row])) ++ (List.drop (Int.toNat at5) bF)) i4)

noncomputable def kQ (l0 : (List aL)) (i4 : Int) (bF : List (List aB)) (at5 : Int) : Option ((List (List aB) × Int) ⊕ ((List (List aB) × Int))) :=
  aZ ((((decide (at5 < ((List.length bF : Nat) : Int)))) = true → 0 ≤ at5 ∧ at5 < ((List.length bF : Nat) : Int))) <|
  aZ ((((decide (at5 < ((List.length bF : Nat) : Int)))) = true → 0 ≤ i4 ∧ i4 < ((List.length l0 : Nat) : Int))) <|
  (dD (decide (at5 < ((List.length bF : Nat) : Int))) (nV (List.getD bF (Int.toNat at5) default) ((List.getD l0 (Int.toNat i4) default).Row))).bind fun x27 =>
  cond ((decide (at5 < ((List.length bF : Nat) : Int))) && (decide (x27 < (0 : Int))))
  (some (.inl (bF, IntKind.i64.wrap (at5 + (1 : Int)))))
  (some (.inr (bF, at5)))

noncomputable def sV (l0 : (List aL)) (bF : List (List aB)) (i4 : Int) (at5 : Int) : Option ((List (List aB) × Int) ⊕ ((List (List aB)))) :=
  (lp (fun s => kQ l0 i4 s.1 s.2) (bF, at5)).bind (fun rr => pQ l0 rr.1 i4 rr.2)

noncomputable def lK (l0 : (List aL)) (bF : List (List aB)) (i4 : Int) : Option ((List (List aB) × Int) ⊕ ((List (List aB)))) :=
  cond (decide (i4 < ((List.length l0 : Nat) : Int)))
  (sV l0 bF i4 (0 : Int))
  (some (.inr bF))

noncomputable def sZ (l0 : (List aL)) (bF : List (List aB)) (i4 : Int) : Option (List (List aB)) :=
  (lp (fun s => lK l0 s.1 s.2) (bF, i4)).bind (fun rr => tC rr)

noncomputable def qZ (l0 : (List aL)) : Option (List (List aB)) :=
  sZ l0 ([] : List (List aB)) (0 : Int)

noncomputable def rR (f5 : List aI) : Option (List aI) :=
  some f5

noncomputable def oV (l0 : (List aL)) (r1 : (List aB)) (f5 : List aI) (i6 : Int) : Option ((List aI × Int) ⊕ ((List aI))) :=
  some (.inl (f5, IntKind.i64.wrap (i6 + (1 : Int))))

noncomputable def kT (l0 : (List aL)) (r1 : (List aB)) (f5 : List aI) (i6 : Int) : Option ((List aI × Int) ⊕ ((List aI))) :=
  cond (decide (i6 < ((List.length l0 : Nat) : Int)))
  (aZ (0 ≤ i6 ∧ i6 < ((List.length l0 : Nat) : Int)) <|
  (nE ((List.getD l0 (Int.toNat i6) default).Row) r1).bind fun x8 =>
  cond x8
  (aZ (0 ≤ i6 ∧ i6 < ((List.length l0 : Nat) : Int)) <|
  aZ (0 ≤ i6 ∧ i6 < ((List.length l0 : Nat) : Int)) <|
  aZ ((List.length f5 + List.length ([aI.mk ((List.getD l0 (Int.toNat i6) default).At) ((List.getD l0 (Int.toNat i6) default).Net)])) * 16 ≤ 140737488355328 ∧ List.length f5 + List.length ([aI.mk ((List.getD l0 (Int.toNat i6) default).At) ((List.getD l0 (Int.toNat i6) default).Net)]) ≤ 9223372036854775807) <|
  oV l0 r1 (f5 ++ ([aI.mk ((List.getD l0 (Int.toNat i6) default).At) ((List.getD l0 (Int.toNat i6) default).Net)])) i6)
  (oV l0 r1 f5 i6))
  (some (.inr f5))

noncomputable def rT (l0 : (List aL)) (r1 : (List aB)) (f5 : List aI) (i6 : Int) : Option (List aI) :=
  (lp (fun s => kT l0 r1 s.1 s.2) (f5, i6)).bind (fun rr => rR rr)

noncomputable def pT (l0 : (List aL)) (r1 : (List aB)) : Option (List aI) :=
  rT l0 r1 ([] : List aI) (0 : Int)

noncomputable def oO (v5 : Int) : Option Int :=
  some v5

noncomputable def mY (f0 : (List aI)) (t1 : Int) (v5 : Int) (i6 : Int) : Option ((Int × Int) ⊕ (Int)) :=
  some (.inl (v5, IntKind.i64.wrap (i6 + (1 : Int))))

noncomputable def jF (f0 : (List aI)) (t1 : Int) (v5 : Int) (i6 : Int) : Option ((Int × Int) ⊕ (Int)) :=
  cond (decide (i6 < ((List.length f0 : Nat) : Int)))
  (aZ (0 ≤ i6 ∧ i6 < ((List.length f0 : Nat) : Int)) <|
  cond (decide (((List.getD f0 (Int.toNat i6) default).At) ≤ t1))
  (aZ (0 ≤ i6 ∧ i6 < ((List.length f0 : Nat) : Int)) <|
  mY f0 t1 (IntKind.i64.wrap (v5 + ((List.getD f0 (Int.toNat i6) default).Net))) i6)
  (mY f0 t1 v5 i6))
  (some (.inr v5))

noncomputable def sB (f0 : (List aI)) (t1 : Int) (v5 : Int) (i6 : Int) : Option Int :=
  (lp (fun s => jF f0 t1 s.1 s.2) (v5, i6)).bind (fun rr => oO rr)

noncomputable def nP (f0 : (List aI)) (t1 : Int) : Option Int :=
  sB f0 t1 (0 : Int) (0 : Int)

noncomputable def rS (out5 : List aY) : Option (List aY) :=
  some out5

noncomputable def mV (l0 : (List aL)) (t1 : Int) (out5 : List aY) (jK : (List (List aB))) (i7 : Int) : Option ((List aY × Int) ⊕ ((List aY))) :=
  some (.inl (out5, IntKind.i64.wrap (i7 + (1 : Int))))

noncomputable def lP (l0 : (List aL)) (t1 : Int) (jK : (List (List aB))) (out5 : List aY) (i7 : Int) : Option ((List aY × Int) ⊕ ((List aY))) :=
  cond (decide (i7 < ((List.length jK : Nat) : Int)))
  (aZ (0 ≤ i7 ∧ i7 < ((List.length jK : Nat) : Int)) <|
  (pT l0 (List.getD jK (Int.toNat i7) default)).bind fun x11 =>
  (nP x11 t1).bind fun x14 =>
  cond (decide ((0 : Int) < x14))
  (aZ (0 ≤ i7 ∧ i7 < ((List.length jK : Nat) : Int)) <|
  aZ ((List.length out5 + List.length ([aY.mk (List.getD jK (Int.toNat i7) default) x14])) * 32 ≤ 140737488355328 ∧ List.length out5 + List.length ([aY.mk (List.getD jK (Int.toNat i7) default) x14]) ≤ 9223372036854775807) <|
  mV l0 t1 (out5 ++ ([aY.mk (List.getD jK (Int.toNat i7) default) x14])) jK i7)
  (mV l0 t1 out5 jK i7))
  (some (.inr out5))

noncomputable def rY (l0 : (List aL)) (t1 : Int) (out5 : List aY) (jK : (List (List aB))) (i7 : Int) : Option (List aY) :=
  (lp (fun s => lP l0 t1 jK s.1 s.2) (out5, i7)).bind (fun rr => rS rr)

noncomputable def qB (l0 : (List aL)) (t1 : Int) : Option (List aY) :=
  (qZ l0).bind fun x1 =>
  rY l0 t1 ([] : List aY) x1 (0 : Int)

noncomputable def lM  : Option Bool :=
  some true

noncomputable def kM (a0 : (List aY)) (b1 : (List aY)) (i5 : Int) : Option ((Int) ⊕ (Unit ⊕ Bool)) :=
  cond (decide (i5 < ((List.length a0 : Nat) : Int)))
  (aZ (0 ≤ i5 ∧ i5 < ((List.length a0 : Nat) : Int)) <|
  aZ (0 ≤ i5 ∧ i5 < ((List.length b1 : Nat) : Int)) <|
  aZ ((((!(!decide (((List.getD a0 (Int.toNat i5) default).N) = ((List.getD b1 (Int.toNat i5) default).N))))) = true → 0 ≤ i5 ∧ i5 < ((List.length a0 : Nat) : Int))) <|
  aZ ((((!(!decide (((List.getD a0 (Int.toNat i5) default).N) = ((List.getD b1 (Int.toNat i5) default).N))))) = true → 0 ≤ i5 ∧ i5 < ((List.length b1 : Nat) : Int))) <|
  (dD (!(!decide (((List.getD a0 (Int.toNat i5) default).N) = ((List.getD b1 (Int.toNat i5) default).N)))) (nE ((List.getD a0 (Int.toNat i5) default).Row) ((List.getD b1 (Int.toNat i5) default).Row))).bind fun x7 =>
  cond ((!decide (((List.getD a0 (Int.toNat i5) default).N) = ((List.getD b1 (Int.toNat i5) default).N))) || (!x7))
  (some (.inr (.inr false)))
  (some (.inl (IntKind.i64.wrap (i5 + (1 : Int))))))
  (some (.inr (.inl ())))

noncomputable def nJ (a0 : (List aY)) (b1 : (List aY)) (i5 : Int) : Option Bool :=
  (lp (fun s => kM a0 b1 s) i5).bind (Sum.elim (fun rr => lM ) (fun rr => some rr))

noncomputable def mA (a0 : (List aY)) (b1 : (List aY)) : Option Bool :=
  cond (!decide (((List.length a0 : Nat) : Int) = ((List.length b1 : Nat) : Int)))
  (some false)
  (nJ a0 b1 (0 : Int))

noncomputable def mB (l0 : (List aL)) (t2 : Int) (iS : (List aY)) (n10 : Int) : Option Bool :=
  (nD ).bind fun x12 =>
  (dD (x12 && (decide (n10 ≤ (1 : Int)))) (qB l0 t2)).bind fun x15 =>
  (dD (x12 && (decide (n10 ≤ (1 : Int)))) (mA iS x15)).bind fun x18 =>
  some ((x12 && (decide (n10 ≤ (1 : Int)))) && x18)

noncomputable def kU (l0 : (List aL)) (t2 : Int) (p7 : (List cD)) (iS : (List aY)) (n10 : Int) (i11 : Int) : Option (((List aY) × Int × Int) ⊕ (((List aY) × Int))) :=
  some (.inl (iS, n10, IntKind.i64.wrap (i11 + (1 : Int))))

noncomputable def iV (l0 : (List aL)) (t2 : Int) (p7 : (List cD)) (iS : (List aY)) (n10 : Int) (i11 : Int) : Option (((List aY) × Int × Int) ⊕ (((List aY) × Int))) :=
  cond (decide (i11 < ((List.length p7 : Nat) : Int)))
  (aZ (0 ≤ i11 ∧ i11 < ((List.length p7 : Nat) : Int)) <|
  aZ ((((decide ((((List.getD p7 (Int.toNat i11) default).Span).From) ≤ t2))) = true → 0 ≤ i11 ∧ i11 < ((List.length p7 : Nat) : Int))) <|
  cond ((decide ((((List.getD p7 (Int.toNat i11) default).Span).From) ≤ t2)) && (decide (t2 < (((List.getD p7 (Int.toNat i11) default).Span).To))))
  (aZ (0 ≤ i11 ∧ i11 < ((List.length p7 : Nat) : Int)) <|
  kU l0 t2 p7 ((List.getD p7 (Int.toNat i11) default).Rows) (IntKind.i64.wrap (n10 + (1 : Int))) i11)
  (kU l0 t2 p7 iS n10 i11))
  (some (.inr (iS, n10)))

noncomputable def nZ (l0 : (List aL)) (t2 : Int) (p7 : (List cD)) (iS : (List aY)) (n10 : Int) (i11 : Int) : Option Bool :=
  (lp (fun s => iV l0 t2 p7 s.1 s.2.1 s.2.2) (iS, n10, i11)).bind (fun rr => mB l0 t2 rr.1 rr.2)

noncomputable def oG (l0 : (List aL)) (eN : Int) (t2 : Int) : Option Bool :=
  cond (((decide ((200 : Int) < ((List.length l0 : Nat) : Int))) || (decide (t2 < eN))) || (decide ((1125899906842624 : Int) ≤ t2)))
  ((nD ).bind fun x2 =>
  some x2)
  ((oS l0 eN).bind fun x5 =>
  cond (!decide (x5.2 = (0 : Int)))
  ((nD ).bind fun x9 =>
  some (x9 && (decide (((List.length x5.1 : Nat) : Int) = (0 : Int)))))
  (nZ l0 t2 x5.1 ([]) (0 : Int) (0 : Int)))

end Go.Abs
namespace Go.Abs
open Go Go.RowKit
def wV (x : aB) : Prop := uR x.Kind ∧ uR x.Num ∧ (fun s => s.size ≤ maxLen) x.Text ∧ True

def sM (x : aL) : Prop := (fun l => (∀ a ∈ l, wV a) ∧ l.length * 32 ≤ 140737488351232) x.Row ∧ uR x.At ∧ uR x.Net ∧ True

end Go.Abs
namespace Go.Abs
open Go Go.RowKit Go.Proofs
noncomputable def tt : TT := ⟨PN Try.prog, KQ Try.prog⟩

theorem aD : gG Try.prog tt := gG.of Try.prog

theorem CU (l0 : (List aL)) (r : (List aL)) (h0 : qG l0 = some r) : eB Try.prog 67 [(eL aO l0)] (.fn (.func 91) [] [(.rp (eL aO r))]) := by
  intro H0
  refine dR Try.func67 ?_
  have hO := aJ.start H0
  unfold qG at h0
  refine aN ?_
  refine aU aD 2 ?_
  refine nY 1 (eL aO l0) (by kernel_rfl) (by kernel_rfl) ?_
  refine bE ?_
  refine bG [(1, (.rp (eL aO l0)))] ?_
  refine cB aD 2 [(2, (.fn (.func 91) [] [(.rp (eL aO l0))]))] ?_
  refine bN ?_
  obtain rfl := oI h0
  exact aG (lU (x := (.fn (.func 91) [] [(.rp (eL aO l0))])) (by kernel_rfl) (aM.refl _) ⟨rfl, hO.out⟩)

theorem tL (s10 : (List aB)) (s21 : (List aB)) (r : Bool) (h0 : iY s10 s21 = some r) : eB Try.prog 72 [(eL aC s10), (eL aC s21)] (aE r) := by
  intro H0
  refine dR Try.func72 ?_
  have hO := aJ.start H0
  unfold iY at h0
  refine aS aD 1 [] [] ?_
  refine aN ?_
  refine aS aD 5 [] [(10, (aE (!decide ((lN s10) = (lN s21)))))] ?_
  refine bM h0 (fun h0 => ?_) (fun h0 => ?_)
  · refine cB aD 1 [(4, (aE false))] ?_
    refine bN ?_
    obtain rfl := oI h0
    exact aG (aQ (Q_r hO))
  refine bL ?_
  refine bG [(0, (eL aC s10)), (1, (eL aC s21))] ?_
  refine eT (fun T H => Has T [] ∧ aJ ⟨H0, [], []⟩ H [] ∧ fW  = some r) ?_ ?_
  · clear hO h0
    rintro T H ⟨hT, hO, h0⟩
    refine bA hT ?_
    clear hT
    unfold fW at h0
    refine cB aD 1 [(4, (aE true))] ?_
    refine bN ?_
    obtain rfl := oI h0
    exact aG (Q_r hO)
  refine aS aD 3 [] [(12, (eI (lN s10))), (13, (eI (0 : Int)))] ?_
  refine cE 0 ?_
  refine fT [(0, (eL aC s10)), (1, (eL aC s21)), (12, (eI (lN s10))), (13, (eI (0 : Int)))] ?_
  refine eO (fun T H => ∃ t12 : Int, ∃ t13 : Int, Has T [(0, (eL aC s10)), (1, (eL aC s21)), (12, (eI t12)), (13, (eI t13))] ∧ aJ ⟨H0, [], []⟩ H [] ∧ iR s10 s21 t12 t13 = some r) ?_ ⟨(lN s10), (0 : Int), .eq (by kernel_rfl), hO, h0⟩
  clear hO h0
  rintro T H ⟨t12, t13, hT, hO, h0⟩
  refine bA hT ?_
  clear hT
  unfold iR at h0
  obtain ⟨rr0, hl0, h0⟩ := aX h0
  refine cZ (by kernel_rfl) (fun (s : Int) T H => Has T [(0, (eL aC s10)), (1, (eL aC s21)), (12, (eI t12)), (13, (eI s))] ∧ aJ ⟨H0, [], []⟩ H []) hl0 ⟨.eq (by kernel_rfl), hO⟩ ?_
  clear hO
  rintro k0 s out1 T H ⟨hT, hO⟩ h1 ho0
  obtain ⟨t13, rfl⟩ : ∃ x, x = s := ⟨_, rfl⟩
  replace h1 : eS s10 s21 t12 t13 = some out1 := h1
  refine bA hT ?_
  clear hT
  unfold eS at h1
  refine aS aD 1 [] [(14, (aE (decide (t13 < t12))))] ?_
  refine aN ?_
  refine bM h1 (fun h1 => ?_) (fun h1 => ?_)
  · refine bL ?_
    refine bG [(0, (eL aC s10)), (1, (eL aC s21)), (12, (eI t12)), (13, (eI t13))] ?_
    refine aN ?_
    refine cE 1 ?_
    refine aS aD 2 [] [(5, (eI t13))] ?_
    refine aN ?_
    refine fS (fR [19, 23]) aD 9 ?_
    obtain ⟨c3, h1⟩ := aV h1
    obtain ⟨c4, h1⟩ := aV h1
    refine BV (Ds := [0 ≤ t13 ∧ t13 < (lN s10), 0 ≤ t13 ∧ t13 < (lN s21)]) (by kernel_rfl) ⟨c3, c4, trivial⟩ ?_
    refine bY [5] [(24, (aE (!((decide (((gD s10 t13).Kind) = ((gD s21 t13).Kind))) && ((decide (((gD s10 t13).Num) = ((gD s21 t13).Num))) && ((lX ((gD s10 t13).Text) ((gD s21 t13).Text)) && true))))))] ?_
    refine bM h1 (fun h1 => ?_) (fun h1 => ?_)
    · refine cB aD 1 [(4, (aE false))] ?_
      refine bN ?_
      obtain rfl := oI h1
      obtain rfl : _ = rr0 := ho0
      replace h0 : some false = some r := h0
      obtain rfl := oI h0
      exact aG (bO (aQ (aQ (bO (aQ (Q_r hO))))))
    refine bL ?_
    refine jA [(0, (eL aC s10)), (1, (eL aC s21)), (12, (eI t12)), (13, (eI t13))] ?_
    refine aG (aW (aF (?_)))
    refine aU aD 2 ?_
    refine bE ?_
    exact aG (aF (⟨rfl, _, (oI h1).symm, .eq (by kernel_rfl), hO⟩))
  refine gC 0 ?_
  obtain rfl := oI h1
  obtain rfl : _ = rr0 := ho0
  replace h0 : fW  = some r := h0
  exact aG (aT (aT (bS (aF (⟨rfl, .eq (by kernel_rfl), hO, h0⟩)))))

theorem PW (a0 : (List aB)) (b1 : (List aB)) (r : Bool) (h0 : uG a0 b1 = some r) : eB Try.prog 92 [(eL aC a0), (eL aC b1)] (aE r) := by
  intro H0
  refine dR Try.func92 ?_
  have hO := aJ.start H0
  unfold uG at h0
  refine aS aD 1 [] [] ?_
  refine aN ?_
  refine aU aD 4 ?_
  refine bX 2 ?_
  obtain ⟨x1, hx2, h0⟩ := aX h0
  refine fC (tL a0 b1 _ hx2) hO ?_
  intro H hO
  refine bE ?_
  refine bG [(4, (aE x1))] ?_
  refine bN ?_
  obtain rfl := oI h0
  exact aG (Q_r hO)

theorem PZ (r0 : (List aB)) (r : (List aB)) (h0 : tX r0 = some r) : eB Try.prog 93 [(eL aC r0)] (eL aC r) := by
  intro H0
  refine dR Try.func93 ?_
  have hO := aJ.start H0
  unfold tX at h0
  refine aS aD 1 [] [] ?_
  refine aN ?_
  refine aU aD 6 ?_
  refine bX 2 ?_
  obtain ⟨c1, h0⟩ := aV h0
  refine NM 3 32 (lN r0) (by kernel_rfl) (by kernel_rfl) c1 hO ?_
  intro lo2 H hO
  refine bX 4 ?_
  obtain ⟨c4, h0⟩ := aV h0
  refine tO (e := aC) ([] : List aB) r0 0 lo2 3 32 (eL aC r0) (fun lo3 => [(lo3, 3, List.map aC (([] : List aB) ++ r0))]) (by kernel_rfl) (by kernel_rfl) hO (by kernel_rfl) (NJ (fun _ => by kernel_rfl)) c4 (fun _ => by kernel_rfl) ?_
  intro lo3 H hO
  refine bE ?_
  refine bG [(2, (.msl 3 lo3 0 (List.length (([] : List aB) ++ r0))))] ?_
  refine bN ?_
  refine jA [(2, (.msl 3 lo3 0 (List.length (([] : List aB) ++ r0))))] ?_
  refine rO (en := aC) (([] : List aB) ++ r0) 0 0 2 3 lo3 (List.length (([] : List aB) ++ r0)) hO (by kernel_rfl) (by kernel_rfl) (by kernel_rfl) (L' := []) (by kernel_rfl) ?_
  intro H5 hO
  obtain rfl := oI h0
  exact aG (Q_r hO)

theorem xE {σ : Type} (I : σ → Gs → Prop) (yield0_b : Nat) (fV : σ → (List aB) → (List aI) → Option (σ × Bool)) (yield0_h : ∀ st a0 a1 st2 r, fV st a0 a1 = some (st2, r) → BS Try.prog (yv yield0_b) I st [(eL aC a0), (eL aR a1)] st2 (aE r)) (t1 : (List aL)) (sg0 : σ) (r : σ) (h0 : mD fV t1 sg0 = some r) : wG Try.prog 91 I sg0 [(yv yield0_b), (.rp (eL aO t1))] r (.tup []) := by
  intro H0 G0 hI hg
  refine dR Try.func91 ?_
  obtain ⟨G, hO, hI⟩ : ∃ G, aJ ⟨H0, List.map (fun p : Nat × dN => p.1) G0, G⟩ H0 [] ∧ I sg0 G := ⟨G0, aJ.EM hg, hI⟩
  clear hg
  unfold mD at h0
  refine aS aD 1 [] [(3, (eI (0 : Int)))] ?_
  refine cE 0 ?_
  refine fT [(0, (yv yield0_b)), (1, (.rp (eL aO t1))), (3, (eI (0 : Int)))] ?_
  refine eO (fun T H => ∃ sg : σ, ∃ i3 : Int, ∃ G : Gs, Has T [(0, (yv yield0_b)), (1, (.rp (eL aO t1))), (3, (eI i3))] ∧ aJ ⟨H0, List.map (fun p : Nat × dN => p.1) G0, G⟩ H [] ∧ I sg G ∧ pK fV sg t1 i3 = some r) ?_ ⟨sg0, (0 : Int), G, .eq (by kernel_rfl), hO, hI, h0⟩
  clear hO hI h0
  rintro T H ⟨sg, i3, G, hT, hO, hI, h0⟩
  refine bA hT ?_
  clear hT
  unfold pK at h0
  obtain ⟨rr0, hl0, h0⟩ := aX h0
  refine cZ (by kernel_rfl) (fun (s : σ × Int) T H => ∃ G : Gs, Has T [(0, (yv yield0_b)), (1, (.rp (eL aO t1))), (3, (eI s.2))] ∧ aJ ⟨H0, List.map (fun p : Nat × dN => p.1) G0, G⟩ H [] ∧ I s.1 G) hl0 ⟨G, .eq (by kernel_rfl), hO, hI⟩ ?_
  clear hO hI
  rintro k0 s out1 T H ⟨G, hT, hO, hI⟩ h1 ho0
  obtain ⟨sg, i3⟩ := s
  replace h1 : gZ fV t1 sg i3 = some out1 := h1
  try dsimp only at hT
  refine bA hT ?_
  clear hT
  unfold gZ at h1
  refine aN ?_
  refine aS aD 4 [] [(9, (aE (decide (i3 < (lN t1)))))] ?_
  refine bM h1 (fun h1 => ?_) (fun h1 => ?_)
  · refine bL ?_
    refine bG [(0, (yv yield0_b)), (1, (.rp (eL aO t1))), (3, (eI i3))] ?_
    refine cE 1 ?_
    refine aN ?_
    refine aU aD 6 ?_
    obtain ⟨c2, h1⟩ := aV h1
    refine nL [0 ≤ i3 ∧ i3 < (lN t1)] ⟨c2, trivial⟩ ?_
    refine bY [] [(4, (eL aC ((gD t1 i3).Row)))] ?_
    refine aN ?_
    refine aU aD 2 ?_
    refine mP (xs := []) (k := 2) (by kernel_rfl) (by kernel_rfl) ?_
    refine bE ?_
    refine bY [] [(5, (.sl true 0 (fun _ => .bad)))] ?_
    refine eT (fun T H => ∃ sg : σ, ∃ i3 : Int, ∃ r4 : (List aB), ∃ f5 : List aI, ∃ lo3 : Nat, ∃ G : Gs, Has T [(0, (yv yield0_b)), (1, (.rp (eL aO t1))), (3, (eI i3)), (4, (eL aC r4)), (5, (.msl 2 lo3 0 (List.length f5)))] ∧ aJ ⟨H0, List.map (fun p : Nat × dN => p.1) G0, G⟩ H [(lo3, 2, List.map aR f5)] ∧ I sg G ∧ nG fV sg t1 i3 r4 f5 = some out1) ?_ ?_
    · clear hO hI h1
      rintro T H ⟨sg, i3, r4, f5, lo3, G, hT, hO, hI, h1⟩
      refine bA hT ?_
      clear hT
      unfold nG at h1
      refine aN ?_
      refine aU aD 6 ?_
      refine HP (e := aR) f5 0 5 2 lo3 (List.length f5) [] (by kernel_rfl) hO (by kernel_rfl) (by kernel_rfl) (by kernel_rfl) (by kernel_rfl) ?_
      intro H hO
      refine bX 2 ?_
      obtain ⟨x7, hx8, h1⟩ := aX h1
      refine fC (PZ r4 _ hx8) hO ?_
      intro H hO
      refine bX 4 ?_
      obtain ⟨x10, hx11, h1⟩ := aX h1
      refine MZ (I := I) (yv yield0_b) [(eL aC x7), (eL aR f5)] (aE x10.2) (by kernel_rfl) (by kernel_rfl) (yield0_h _ x7 f5 x10.1 x10.2 hx11) hO hI ?_
      intro G H hO hI
      refine bE ?_
      refine bY [4, 5] [(50, (aE (!x10.2)))] ?_
      refine bM h1 (fun h1 => ?_) (fun h1 => ?_)
      · refine bN ?_
        obtain rfl := oI h1
        obtain rfl : _ = rr0 := ho0
        replace h0 : some x10.1 = some r := h0
        obtain rfl := oI h0
        exact aG (bO (aQ (bO (lU (x := (.tup [])) (by kernel_rfl) (aM.refl _) ⟨rfl, G, hI, hO.AF⟩))))
      refine bL ?_
      exact aG (aW (aF (⟨rfl, _, (oI h1).symm, _, .eq (by kernel_rfl), hO, hI⟩)))
    refine cE 2 ?_
    refine fT [(0, (yv yield0_b)), (1, (.rp (eL aO t1))), (3, (eI i3)), (4, (eL aC ((gD t1 i3).Row))), (5, (.sl true 0 (fun _ => .bad)))] ?_
    refine yJ (el := (fun _ => .bad)) 4 5 2 hO (by kernel_rfl) ?_
    intro lo24 H25 hO
    refine eO (fun T H => ∃ sg : σ, ∃ i3 : Int, ∃ r4 : (List aB), ∃ f5 : List aI, ∃ lo14 : Nat, ∃ G : Gs, Has T [(0, (yv yield0_b)), (1, (.rp (eL aO t1))), (3, (eI i3)), (4, (eL aC r4)), (5, (.msl 2 lo14 0 (List.length f5)))] ∧ aJ ⟨H0, List.map (fun p : Nat × dN => p.1) G0, G⟩ H [(lo14, 2, List.map aR f5)] ∧ I sg G ∧ oX fV sg t1 i3 r4 f5 = some out1) ?_ ⟨sg, i3, (gD t1 i3).Row, ([] : List aI), lo24, G, .eq (by kernel_rfl), hO, hI, h1⟩
    clear hO hI h1
    rintro T H ⟨sg, i3, r4, f5, lo14, G, hT, hO, hI, h1⟩
    refine bA hT ?_
    clear hT
    unfold oX at h1
    obtain ⟨rr1, hl1, h1⟩ := aX h1
    refine cZ (by kernel_rfl) (fun (s : σ × Int × List aI) T H => ∃ lo14 : Nat, ∃ G : Gs, Has T [(0, (yv yield0_b)), (1, (.rp (eL aO t1))), (3, (eI s.2.1)), (4, (eL aC r4)), (5, (.msl 2 lo14 0 (List.length s.2.2)))] ∧ aJ ⟨H0, List.map (fun p : Nat × dN => p.1) G0, G⟩ H [(lo14, 2, List.map aR s.2.2)] ∧ I s.1 G) hl1 ⟨lo14, G, .eq (by kernel_rfl), hO, hI⟩ ?_
    clear hO hI
    rintro k1 s out2 T H ⟨lo14, G, hT, hO, hI⟩ h2 ho1
    obtain ⟨sg, i3, f5⟩ := s
    replace h2 : iZ fV t1 r4 sg i3 f5 = some out2 := h2
    try dsimp only at hT
    refine bA hT ?_
    clear hT
    unfold iZ at h2
    refine aN ?_
    refine aN ?_
    refine aU aD 13 ?_
    obtain ⟨c15, h2⟩ := aV h2
    refine tG 11 [(((decide (i3 < (lN t1)))) = true → 0 ≤ i3 ∧ i3 < (lN t1))] ⟨c15, trivial⟩ ?_
    obtain ⟨x16, hx17, h2⟩ := aX h2
    refine nN [(20, true)] 92 [(eL aC ((gD t1 i3).Row)), (eL aC r4)] (aE x16) (decide (i3 < (lN t1))) (by kernel_rfl) (by kernel_rfl) (by kernel_rfl) (fun hb18 => (PW ((gD t1 i3).Row) r4 _ (jR hx17 hb18))) hO ?_
    intro H hO
    refine bE ?_
    refine bY [] [(28, (aE ((decide (i3 < (lN t1))) && x16)))] ?_
    refine bM h2 (fun h2 => ?_) (fun h2 => ?_)
    · refine bL ?_
      refine bG [(0, (yv yield0_b)), (1, (.rp (eL aO t1))), (3, (eI i3)), (4, (eL aC r4)), (5, (.msl 2 lo14 0 (List.length f5)))] ?_
      refine aN ?_
      refine cE 3 ?_
      refine fS (fR [32, 36, 37, 41, 43]) aD 15 ?_
      obtain ⟨c20, h2⟩ := aV h2
      obtain ⟨c21, h2⟩ := aV h2
      refine cF 12 [0 ≤ i3 ∧ i3 < (lN t1), 0 ≤ i3 ∧ i3 < (lN t1)] ⟨c20, c21, trivial⟩ ?_
      refine VY (xs := [(aR (aI.mk ((gD t1 i3).At) ((gD t1 i3).Net)))]) (k := 2) (by kernel_rfl) (by kernel_rfl) ?_
      obtain ⟨c23, h2⟩ := aV h2
      refine NI (e := aR) f5 ([aI.mk ((gD t1 i3).At) ((gD t1 i3).Net)]) 0 lo14 2 16 (kH [(aR (aI.mk ((gD t1 i3).At) ((gD t1 i3).Net)))]) (fun lo22 => [(lo22, 2, List.map aR (f5 ++ ([aI.mk ((gD t1 i3).At) ((gD t1 i3).Net)])))]) (by kernel_rfl) (by kernel_rfl) hO (by kernel_rfl) (by kernel_rfl) c23 (fun _ => by kernel_rfl) ?_
      intro lo22 H hO
      refine jZ ?_
      refine jA [(0, (yv yield0_b)), (1, (.rp (eL aO t1))), (3, (eI i3)), (4, (eL aC r4)), (5, (.msl 2 lo22 0 (List.length (f5 ++ ([aI.mk ((gD t1 i3).At) ((gD t1 i3).Net)])))))] ?_
      refine aG (aW (aF (?_)))
      refine aU aD 3 ?_
      refine bE ?_
      exact aG (aF (⟨rfl, _, (oI h2).symm, _, _, .eq (by kernel_rfl), hO, hI⟩))
    refine gC 2 ?_
    obtain rfl := oI h2
    obtain rfl : _ = rr1 := ho1
    replace h1 : nG fV sg t1 i3 r4 f5 = some out1 := h1
    exact aG (aT (aT (bS (aF (⟨rfl, _, _, _, _, _, _, .eq (by kernel_rfl), hO, hI, h1⟩)))))
  refine gC 0 ?_
  obtain rfl := oI h1
  obtain rfl : _ = rr0 := ho0
  replace h0 : some sg = some r := h0
  obtain rfl := oI h0
  exact aG (aT (aT (bS (xN (x := (.tup [])) (by kernel_rfl) (aM.refl _) ⟨rfl, G, hI, hO.AF⟩))))

theorem rB (s0 : (List aB)) (f1_f : Nat) (f1_a f1_c : List V) (f1 : aB → Option Bool) (f1_h : ∀ a0 r, f1 a0 = some r → eB Try.prog f1_f (f1_a ++ [(aC a0)] ++ f1_c) (aE r)) (r : Int) (h0 : gV s0 f1 = some r) : eB Try.prog 100 [(eL aC s0), (.fn (.func f1_f) f1_a f1_c)] (eI r) := by
  intro H0
  refine dR Try.func100 ?_
  have hO := aJ.start H0
  unfold gV at h0
  refine aS aD 1 [] [] ?_
  refine eT (fun T H => Has T [] ∧ aJ ⟨H0, [], []⟩ H [] ∧ eX f1  = some r) ?_ ?_
  · clear hO h0
    rintro T H ⟨hT, hO, h0⟩
    refine bA hT ?_
    clear hT
    unfold eX at h0
    refine cB aD 1 [(4, (eI (-1 : Int)))] ?_
    refine bN ?_
    obtain rfl := oI h0
    exact aG (Q_r hO)
  refine aS aD 3 [] [(7, (eI (lN s0))), (8, (eI (0 : Int)))] ?_
  refine cE 0 ?_
  refine fT [(0, (eL aC s0)), (1, (.fn (.func f1_f) f1_a f1_c)), (7, (eI (lN s0))), (8, (eI (0 : Int)))] ?_
  refine eO (fun T H => ∃ t7 : Int, ∃ t8 : Int, Has T [(0, (eL aC s0)), (1, (.fn (.func f1_f) f1_a f1_c)), (7, (eI t7)), (8, (eI t8))] ∧ aJ ⟨H0, [], []⟩ H [] ∧ gR f1 s0 t7 t8 = some r) ?_ ⟨(lN s0), (0 : Int), .eq (by kernel_rfl), hO, h0⟩
  clear hO h0
  rintro T H ⟨t7, t8, hT, hO, h0⟩
  refine bA hT ?_
  clear hT
  unfold gR at h0
  obtain ⟨rr0, hl0, h0⟩ := aX h0
  refine cZ (by kernel_rfl) (fun (s : Int) T H => Has T [(0, (eL aC s0)), (1, (.fn (.func f1_f) f1_a f1_c)), (7, (eI t7)), (8, (eI s))] ∧ aJ ⟨H0, [], []⟩ H []) hl0 ⟨.eq (by kernel_rfl), hO⟩ ?_
  clear hO
  rintro k0 s out1 T H ⟨hT, hO⟩ h1 ho0
  obtain ⟨t8, rfl⟩ : ∃ x, x = s := ⟨_, rfl⟩
  replace h1 : gQ f1 s0 t7 t8 = some out1 := h1
  refine bA hT ?_
  clear hT
  unfold gQ at h1
  refine aS aD 1 [] [(9, (aE (decide (t8 < t7))))] ?_
  refine aN ?_
  refine bM h1 (fun h1 => ?_) (fun h1 => ?_)
  · refine bL ?_
    refine bG [(0, (eL aC s0)), (1, (.fn (.func f1_f) f1_a f1_c)), (7, (eI t7)), (8, (eI t8))] ?_
    refine aN ?_
    refine cE 1 ?_
    refine aS aD 2 [] [(5, (eI t8))] ?_
    refine aN ?_
    refine aU aD 6 ?_
    obtain ⟨c2, h1⟩ := aV h1
    refine tG 5 [0 ≤ t8 ∧ t8 < (lN s0)] ⟨c2, trivial⟩ ?_
    obtain ⟨x3, hx4, h1⟩ := aX h1
    refine fC (f1_h (gD s0 t8) _ hx4) hO ?_
    intro H hO
    refine iP ?_
    refine bY [] [(16, (aE x3))] ?_
    refine bM h1 (fun h1 => ?_) (fun h1 => ?_)
    · refine cB aD 2 [(4, (eI t8))] ?_
      refine bN ?_
      obtain rfl := oI h1
      obtain rfl : _ = rr0 := ho0
      replace h0 : some t8 = some r := h0
      obtain rfl := oI h0
      exact aG (bO (aQ (aQ (bO (aQ (Q_r hO))))))
    refine bL ?_
    refine jA [(0, (eL aC s0)), (1, (.fn (.func f1_f) f1_a f1_c)), (7, (eI t7)), (8, (eI t8))] ?_
    refine aG (aW (aF (?_)))
    refine aU aD 2 ?_
    refine bE ?_
    exact aG (aF (⟨rfl, _, (oI h1).symm, .eq (by kernel_rfl), hO⟩))
  refine gC 0 ?_
  obtain rfl := oI h1
  obtain rfl : _ = rr0 := ho0
  replace h0 : eX f1  = some r := h0
  exact aG (aT (aT (bS (aF (⟨rfl, .eq (by kernel_rfl), hO, h0⟩)))))

theorem pM (s0 : (List aB)) (f1_f : Nat) (f1_a f1_c : List V) (f1 : aB → Option Bool) (f1_h : ∀ a0 r, f1 a0 = some r → eB Try.prog f1_f (f1_a ++ [(aC a0)] ++ f1_c) (aE r)) (r : Bool) (h0 : eR s0 f1 = some r) : eB Try.prog 97 [(eL aC s0), (.fn (.func f1_f) f1_a f1_c)] (aE r) := by
  intro H0
  refine dR Try.func97 ?_
  have hO := aJ.start H0
  unfold eR at h0
  refine aS aD 1 [] [] ?_
  refine aN ?_
  refine aU aD 5 ?_
  refine bX 2 ?_
  obtain ⟨x1, hx2, h0⟩ := aX h0
  refine fC (rB s0 f1_f f1_a f1_c f1 f1_h _ hx2) hO ?_
  intro H hO
  refine bE ?_
  refine bG [(4, (aE (decide ((0 : Int) ≤ x1))))] ?_
  refine bN ?_
  obtain rfl := oI h0
  exact aG (Q_r hO)

theorem tY (v0 : aB) (r : (bD × Bool)) (h0 : kP v0 = some r) : eB Try.prog 110 [(aC v0)] (.tup [(bB r.1), (aE r.2)]) := by
  intro H0
  refine dR Try.func110 ?_
  have hO := aJ.start H0
  unfold kP at h0
  refine aN ?_
  refine aU aD 3 ?_
  refine nY 3 (aC v0) (by kernel_rfl) (by kernel_rfl) ?_
  refine bE ?_
  refine bG [(1, (.rp (aC v0)))] ?_
  refine aN ?_
  refine cE 0 ?_
  refine aS aD 9 [] [(4, (aE ((decide (v0.Kind = (1 : Int))) && (lX v0.Text (⟨#[]⟩ : ByteArray)))))] ?_
  refine bM h0 (fun h0 => ?_) (fun h0 => ?_)
  · refine cB aD 5 [(2, (bB (bD.k_number v0.Num))), (3, (aE true))] ?_
    refine bN ?_
    obtain rfl := oI h0
    exact aG (bO (aQ (Q_r hO)))
  refine aS aD 15 [4] [(16, (aE (((decide (v0.Kind = (2 : Int))) && (decide (v0.Num = (0 : Int)))) && (decide (((ByteArray.size v0.Text : Nat) : Int) ≤ (64 : Int))))))] ?_
  refine bM h0 (fun h0 => ?_) (fun h0 => ?_)
  · refine cB aD 5 [(2, (bB (bD.k_words v0.Text))), (3, (aE true))] ?_
    refine bN ?_
    obtain rfl := oI h0
    exact aG (bO (aQ (Q_r hO)))
  refine bL ?_
  refine jA [] ?_
  refine aG (aW (aF (?_)))
  refine cB aD 2 [(2, (bB bD.none_)), (3, (aE false))] ?_
  refine bN ?_
  obtain rfl := oI h0
  exact aG (Q_r hO)

theorem MP (v0 : aB) (r : Bool) (h0 : sQ v0 = some r) : eB Try.prog 99 [(aC v0)] (aE r) := by
  intro H0
  refine dR Try.func99 ?_
  have hO := aJ.start H0
  unfold sQ at h0
  refine aN ?_
  refine aU aD 2 ?_
  refine nY 3 (aC v0) (by kernel_rfl) (by kernel_rfl) ?_
  refine bE ?_
  refine bG [(1, (.rp (aC v0)))] ?_
  refine aN ?_
  refine aU aD 7 ?_
  refine bX 1 ?_
  obtain ⟨⟨x1_0, x1_1⟩, hx2, h0⟩ := aX h0
  refine fC (tY v0 _ hx2) hO ?_
  intro H hO
  rcases x1_0 with _ | y4 | y5
  · replace h0 : (some x1_1) = some r := h0
    refine bE ?_
    refine bG [(4, (aE x1_1))] ?_
    refine cB aD 2 [(2, (aE x1_1))] ?_
    refine bN ?_
    obtain rfl := oI h0
    exact aG (Q_r hO)
  · replace h0 : (some x1_1) = some r := h0
    refine bE ?_
    refine bG [(4, (aE x1_1))] ?_
    refine cB aD 2 [(2, (aE x1_1))] ?_
    refine bN ?_
    obtain rfl := oI h0
    exact aG (Q_r hO)
  · replace h0 : (some x1_1) = some r := h0
    refine bE ?_
    refine bG [(4, (aE x1_1))] ?_
    refine cB aD 2 [(2, (aE x1_1))] ?_
    refine bN ?_
    obtain rfl := oI h0
    exact aG (Q_r hO)

theorem MA (v0 : aB) (r : Bool) (h0 : sO v0 = some r) : eB Try.prog 98 [(aC v0)] (aE r) := by
  intro H0
  refine dR Try.func98 ?_
  have hO := aJ.start H0
  unfold sO at h0
  refine aN ?_
  refine aU aD 2 ?_
  refine nY 3 (aC v0) (by kernel_rfl) (by kernel_rfl) ?_
  refine bE ?_
  refine bG [(1, (.rp (aC v0)))] ?_
  refine aN ?_
  refine aU aD 4 ?_
  refine bX 1 ?_
  obtain ⟨x1, hx2, h0⟩ := aX h0
  refine fC (MP v0 _ hx2) hO ?_
  intro H hO
  refine bE ?_
  refine bG [(2, (aE (!x1)))] ?_
  refine bN ?_
  obtain rfl := oI h0
  exact aG (Q_r hO)

theorem AM (r0 : (List aB)) (r : Bool) (h0 : rL r0 = some r) : eB Try.prog 76 [(eL aC r0)] (aE r) := by
  intro H0
  refine dR Try.func76 ?_
  have hO := aJ.start H0
  unfold rL at h0
  refine aS aD 1 [] [] ?_
  refine aN ?_
  refine aS aD 3 [] [(5, (aE (decide ((8 : Int) < (lN r0)))))] ?_
  refine bM h0 (fun h0 => ?_) (fun h0 => ?_)
  · refine cB aD 1 [(2, (aE false))] ?_
    refine bN ?_
    obtain rfl := oI h0
    exact aG (aQ (Q_r hO))
  refine bL ?_
  refine bG [(0, (eL aC r0))] ?_
  refine aN ?_
  refine aU aD 4 ?_
  refine bX 1 ?_
  obtain ⟨x2, hx3, h0⟩ := aX h0
  refine fC (pM r0 98 [] [] (fun y0 => sO y0) (fun y0 r h => MA y0 r h) _ hx3) hO ?_
  intro H hO
  refine bE ?_
  refine bG [(2, (aE (!x2)))] ?_
  refine bN ?_
  obtain rfl := oI h0
  exact aG (Q_r hO)

theorem EF (t0 : (List aB)) (r : (Int × (List aB))) (h0 : qO t0 = some r) : xV Try.prog 101 [(.rp (eL aC t0))] (fun lo => (.fn (.func 102) [] [(.lp lo 0 0), (.rp (eL aC r.2))])) 1 [(eI r.1)] := by
  intro H0
  refine dR Try.func101 ?_
  have hO := aJ.start H0
  unfold qO at h0
  refine aS aD 1 [] [] ?_
  refine aN ?_
  refine aU aD 2 ?_
  refine rN 1 (eI 0) (by kernel_rfl) (by kernel_rfl) hO ?_
  intro lo1 H hO
  refine qW 0 lo1 1 0 (eI 0) (eI (-1 : Int)) [(eI 0)] [(lo1, 1, [(eI (-1 : Int))])] hO rfl (by kernel_rfl) ?_
  intro H hO
  refine iP ?_
  refine bY [] [(2, (.lp lo1 0 0))] ?_
  refine aS aD 2 [0] [(1, (.fn (.func 102) [] [(.lp lo1 0 0), (.rp (eL aC t0))]))] ?_
  refine bN ?_
  obtain rfl := oI h0
  exact aG (lU (x := (.fn (.func 102) [] [(.lp lo1 0 0), (.rp (eL aC t0))])) (by kernel_rfl) (aM.refl _) ⟨lo1, rfl, hO⟩)

theorem qM {σ : Type} (I : σ → Gs → Prop) (s0 : (List aB)) (f1_v : V) (f1 : σ → aB → Option (σ × Bool)) (f1_h : ∀ st a0 st2 r, f1 st a0 = some (st2, r) → BS Try.prog f1_v I st [(aC a0)] st2 (aE r)) (sg0 : σ) (r : (σ × Int)) (h0 : gK s0 f1 sg0 = some r) : wG Try.prog 100 I sg0 [(eL aC s0), f1_v] r.1 (eI r.2) := by
  intro H0 G0 hI hg
  refine dR Try.func100 ?_
  obtain ⟨G, hO, hI⟩ : ∃ G, aJ ⟨H0, List.map (fun p : Nat × dN => p.1) G0, G⟩ H0 [] ∧ I sg0 G := ⟨G0, aJ.EM hg, hI⟩
  clear hg
  unfold gK at h0
  refine aS aD 1 [] [] ?_
  refine eT (fun T H => ∃ sg : σ, ∃ G : Gs, Has T [] ∧ aJ ⟨H0, List.map (fun p : Nat × dN => p.1) G0, G⟩ H [] ∧ I sg G ∧ eP f1 sg = some r) ?_ ?_
  · clear hO hI h0
    rintro T H ⟨sg, G, hT, hO, hI, h0⟩
    refine bA hT ?_
    clear hT
    unfold eP at h0
    refine cB aD 1 [(4, (eI (-1 : Int)))] ?_
    refine bN ?_
    obtain rfl := oI h0
    exact aG (lU (x := (eI (-1 : Int))) (by kernel_rfl) (aM.refl _) ⟨rfl, G, hI, hO.AF⟩)
  refine aS aD 3 [] [(7, (eI (lN s0))), (8, (eI (0 : Int)))] ?_
  refine cE 0 ?_
  refine fT [(0, (eL aC s0)), (1, f1_v), (7, (eI (lN s0))), (8, (eI (0 : Int)))] ?_
  refine eO (fun T H => ∃ sg : σ, ∃ t7 : Int, ∃ t8 : Int, ∃ G : Gs, Has T [(0, (eL aC s0)), (1, f1_v), (7, (eI t7)), (8, (eI t8))] ∧ aJ ⟨H0, List.map (fun p : Nat × dN => p.1) G0, G⟩ H [] ∧ I sg G ∧ gH f1 sg s0 t7 t8 = some r) ?_ ⟨sg0, (lN s0), (0 : Int), G, .eq (by kernel_rfl), hO, hI, h0⟩
  clear hO hI h0
  rintro T H ⟨sg, t7, t8, G, hT, hO, hI, h0⟩
  refine bA hT ?_
  clear hT
  unfold gH at h0
  obtain ⟨rr0, hl0, h0⟩ := aX h0
  refine cZ (by kernel_rfl) (fun (s : σ × Int) T H => ∃ G : Gs, Has T [(0, (eL aC s0)), (1, f1_v), (7, (eI t7)), (8, (eI s.2))] ∧ aJ ⟨H0, List.map (fun p : Nat × dN => p.1) G0, G⟩ H [] ∧ I s.1 G) hl0 ⟨G, .eq (by kernel_rfl), hO, hI⟩ ?_
  clear hO hI
  rintro k0 s out1 T H ⟨G, hT, hO, hI⟩ h1 ho0
  obtain ⟨sg, t8⟩ := s
  replace h1 : cC f1 s0 t7 sg t8 = some out1 := h1
  try dsimp only at hT
  refine bA hT ?_
  clear hT
  unfold cC at h1
  refine aS aD 1 [] [(9, (aE (decide (t8 < t7))))] ?_
  refine aN ?_
  refine bM h1 (fun h1 => ?_) (fun h1 => ?_)
  · refine bL ?_
    refine bG [(0, (eL aC s0)), (1, f1_v), (7, (eI t7)), (8, (eI t8))] ?_
    refine aN ?_
    refine cE 1 ?_
    refine aS aD 2 [] [(5, (eI t8))] ?_
    refine aN ?_
    refine aU aD 6 ?_
    obtain ⟨c2, h1⟩ := aV h1
    refine tG 5 [0 ≤ t8 ∧ t8 < (lN s0)] ⟨c2, trivial⟩ ?_
    obtain ⟨x3, hx4, h1⟩ := aX h1
    refine MZ (I := I) f1_v [(aC (gD s0 t8))] (aE x3.2) (by kernel_rfl) (by kernel_rfl) (f1_h _ (gD s0 t8) x3.1 x3.2 hx4) hO hI ?_
    intro G H hO hI
    refine iP ?_
    refine bY [] [(16, (aE x3.2))] ?_
    refine bM h1 (fun h1 => ?_) (fun h1 => ?_)
    · refine cB aD 2 [(4, (eI t8))] ?_
      refine bN ?_
      obtain rfl := oI h1
      obtain rfl : _ = rr0 := ho0
      replace h0 : some (x3.1, t8) = some r := h0
      obtain rfl := oI h0
      exact aG (bO (aQ (aQ (bO (aQ (lU (x := (eI t8)) (by kernel_rfl) (aM.refl _) ⟨rfl, G, hI, hO.AF⟩))))))
    refine bL ?_
    refine jA [(0, (eL aC s0)), (1, f1_v), (7, (eI t7)), (8, (eI t8))] ?_
    refine aG (aW (aF (?_)))
    refine aU aD 2 ?_
    refine bE ?_
    exact aG (aF (⟨rfl, _, (oI h1).symm, _, .eq (by kernel_rfl), hO, hI⟩))
  refine gC 0 ?_
  obtain rfl := oI h1
  obtain rfl : _ = rr0 := ho0
  replace h0 : eP f1 sg = some r := h0
  exact aG (aT (aT (bS (aF (⟨rfl, _, _, .eq (by kernel_rfl), hO, hI, h0⟩)))))

theorem CC (v0 : aB) (lo1p : Nat) (t1 : Int) (t2 : (List aB)) (r : (Bool × Int)) (h0 : jH v0 t1 t2 = some r) : lW Try.prog 102 lo1p 1 [(eI t1)] [(eI r.2)] [(aC v0), (.lp lo1p 0 0), (.rp (eL aC t2))] (aE r.1) := by
  intro H0 hl0
  refine dR Try.func102 ?_
  have hO := aJ.rK hl0
  clear hl0
  unfold jH at h0
  refine aN ?_
  refine aU aD 2 ?_
  refine nY 3 (aC v0) (by kernel_rfl) (by kernel_rfl) ?_
  refine bE ?_
  refine bY [0] [(3, (.rp (aC v0)))] ?_
  refine aN ?_
  refine aU aD 3 ?_
  refine uA 0 lo1p 1 0 (eI t1) (eI t1) [(eI t1)] hO rfl ?_
  refine bX 2 ?_
  refine qW 0 lo1p 1 0 (eI t1) (eI (wR (t1 + (1 : Int)))) [(eI t1)] [(lo1p, 1, [(eI (wR (t1 + (1 : Int))))])] hO rfl (by kernel_rfl) ?_
  intro H hO
  refine iP ?_
  refine bY [] [] ?_
  refine aN ?_
  refine fS (fR [7, 8, 11]) aD 7 ?_
  refine oR 2 ?_
  refine gS 0 lo1p 1 0 (eI (wR (t1 + (1 : Int)))) (eI (wR (t1 + (1 : Int)))) [(eI (wR (t1 + (1 : Int))))] hO rfl ?_
  obtain ⟨c1, h0⟩ := aV h0
  refine BV (Ds := [0 ≤ (wR (t1 + (1 : Int))) ∧ (wR (t1 + (1 : Int))) < (lN t2)]) (by kernel_rfl) ⟨c1, trivial⟩ ?_
  refine bG [(1, (.lp lo1p 0 0)), (4, (aE (!((decide (v0.Kind = ((gD t2 (wR (t1 + (1 : Int)))).Kind))) && ((decide (v0.Num = ((gD t2 (wR (t1 + (1 : Int)))).Num))) && ((lX v0.Text ((gD t2 (wR (t1 + (1 : Int)))).Text)) && true))))))] ?_
  refine bN ?_
  obtain rfl := oI h0
  exact aG (lU (x := (aE (!((decide (v0.Kind = ((gD t2 (wR (t1 + (1 : Int)))).Kind))) && ((decide (v0.Num = ((gD t2 (wR (t1 + (1 : Int)))).Num))) && ((lX v0.Text ((gD t2 (wR (t1 + (1 : Int)))).Text)) && true)))))) (by kernel_rfl) (aM.refl _) ⟨rfl, hO.ext, hO.at 0 (by kernel_rfl), rfl⟩)

theorem qR (x0 : Int) (r : Bool) (h0 : kK x0 = some r) : eB Try.prog 95 [(eI x0)] (aE r) := by
  intro H0
  refine dR Try.func95 ?_
  have hO := aJ.start H0
  unfold kK at h0
  refine aS aD 1 [] [] ?_
  refine cB aD 4 [(2, (aE (!decide (x0 = x0))))] ?_
  refine bN ?_
  obtain rfl := oI h0
  exact aG (Q_r hO)

theorem CD (x0 : Int) (y1 : Int) (r : Int) (h0 : mM x0 y1 = some r) : eB Try.prog 103 [(eI x0), (eI y1)] (eI r) := by
  intro H0
  refine dR Try.func103 ?_
  have hO := aJ.start H0
  unfold mM at h0
  refine aS aD 1 [] [] ?_
  refine aN ?_
  refine aU aD 3 ?_
  refine bX 1 ?_
  obtain ⟨x1, hx2, h0⟩ := aX h0
  refine fC (qR x0 _ hx2) hO ?_
  intro H hO
  refine bE ?_
  refine bY [] [(5, (aE x1))] ?_
  refine aN ?_
  refine aU aD 3 ?_
  refine bX 1 ?_
  obtain ⟨x4, hx5, h0⟩ := aX h0
  refine fC (qR y1 _ hx5) hO ?_
  intro H hO
  refine bE ?_
  refine bY [] [(6, (aE x4))] ?_
  refine aN ?_
  refine aS aD 1 [5] [(11, (aE x1))] ?_
  refine bM h0 (fun h0 => ?_) (fun h0 => ?_)
  · refine aN ?_
    refine cB aD 1 [(12, (aE x4))] ?_
    refine bM h0 (fun h0 => ?_) (fun h0 => ?_)
    · refine cB aD 1 [(4, (eI (0 : Int)))] ?_
      refine bN ?_
      obtain rfl := oI h0
      exact aG (aQ (aQ (Q_r hO)))
    refine bL ?_
    refine bG [] ?_
    refine cB aD 1 [(4, (eI (-1 : Int)))] ?_
    refine bN ?_
    obtain rfl := oI h0
    exact aG (aQ (Q_r hO))
  refine bL ?_
  refine bG [(0, (eI x0)), (1, (eI y1)), (6, (aE x4))] ?_
  refine aN ?_
  refine aS aD 1 [6] [(13, (aE x4))] ?_
  refine bM h0 (fun h0 => ?_) (fun h0 => ?_)
  · refine cB aD 1 [(4, (eI (1 : Int)))] ?_
    refine bN ?_
    obtain rfl := oI h0
    exact aG (aQ (Q_r hO))
  refine bL ?_
  refine bG [(0, (eI x0)), (1, (eI y1))] ?_
  refine aN ?_
  refine aS aD 3 [] [(16, (aE (decide (x0 < y1))))] ?_
  refine bM h0 (fun h0 => ?_) (fun h0 => ?_)
  · refine cB aD 1 [(4, (eI (-1 : Int)))] ?_
    refine bN ?_
    obtain rfl := oI h0
    exact aG (aQ (Q_r hO))
  refine bL ?_
  refine bG [(0, (eI x0)), (1, (eI y1))] ?_
  refine aN ?_
  refine cB aD 3 [(19, (aE (decide (y1 < x0))))] ?_
  refine bM h0 (fun h0 => ?_) (fun h0 => ?_)
  · refine cB aD 1 [(4, (eI (1 : Int)))] ?_
    refine bN ?_
    obtain rfl := oI h0
    exact aG (aQ (Q_r hO))
  refine bL ?_
  refine bG [] ?_
  refine cB aD 1 [(4, (eI (0 : Int)))] ?_
  refine bN ?_
  obtain rfl := oI h0
  exact aG (Q_r hO)

theorem rG (x0 : Int) (r : Bool) (h0 : jX x0 = some r) : eB Try.prog 114 [(eI x0)] (aE r) := by
  intro H0
  refine dR Try.func114 ?_
  have hO := aJ.start H0
  unfold jX at h0
  refine aS aD 1 [] [] ?_
  refine cB aD 4 [(2, (aE (!decide (x0 = x0))))] ?_
  refine bN ?_
  obtain rfl := oI h0
  exact aG (Q_r hO)

theorem vP (x0 : Int) (y1 : Int) (r : Int) (h0 : fJ x0 y1 = some r) : eB Try.prog 111 [(eI x0), (eI y1)] (eI r) := by
  intro H0
  refine dR Try.func111 ?_
  have hO := aJ.start H0
  unfold fJ at h0
  refine aS aD 1 [] [] ?_
  refine aN ?_
  refine aU aD 3 ?_
  refine bX 1 ?_
  obtain ⟨x1, hx2, h0⟩ := aX h0
  refine fC (rG x0 _ hx2) hO ?_
  intro H hO
  refine bE ?_
  refine bY [] [(5, (aE x1))] ?_
  refine aN ?_
  refine aU aD 3 ?_
  refine bX 1 ?_
  obtain ⟨x4, hx5, h0⟩ := aX h0
  refine fC (rG y1 _ hx5) hO ?_
  intro H hO
  refine bE ?_
  refine bY [] [(6, (aE x4))] ?_
  refine aN ?_
  refine aS aD 1 [5] [(11, (aE x1))] ?_
  refine bM h0 (fun h0 => ?_) (fun h0 => ?_)
  · refine aN ?_
    refine cB aD 1 [(12, (aE x4))] ?_
    refine bM h0 (fun h0 => ?_) (fun h0 => ?_)
    · refine cB aD 1 [(4, (eI (0 : Int)))] ?_
      refine bN ?_
      obtain rfl := oI h0
      exact aG (aQ (aQ (Q_r hO)))
    refine bL ?_
    refine bG [] ?_
    refine cB aD 1 [(4, (eI (-1 : Int)))] ?_
    refine bN ?_
    obtain rfl := oI h0
    exact aG (aQ (Q_r hO))
  refine bL ?_
  refine bG [(0, (eI x0)), (1, (eI y1)), (6, (aE x4))] ?_
  refine aN ?_
  refine aS aD 1 [6] [(13, (aE x4))] ?_
  refine bM h0 (fun h0 => ?_) (fun h0 => ?_)
  · refine cB aD 1 [(4, (eI (1 : Int)))] ?_
    refine bN ?_
    obtain rfl := oI h0
    exact aG (aQ (Q_r hO))
  refine bL ?_
  refine bG [(0, (eI x0)), (1, (eI y1))] ?_
  refine aN ?_
  refine aS aD 3 [] [(16, (aE (decide (x0 < y1))))] ?_
  refine bM h0 (fun h0 => ?_) (fun h0 => ?_)
  · refine cB aD 1 [(4, (eI (-1 : Int)))] ?_
    refine bN ?_
    obtain rfl := oI h0
    exact aG (aQ (Q_r hO))
  refine bL ?_
  refine bG [(0, (eI x0)), (1, (eI y1))] ?_
  refine aN ?_
  refine cB aD 3 [(19, (aE (decide (y1 < x0))))] ?_
  refine bM h0 (fun h0 => ?_) (fun h0 => ?_)
  · refine cB aD 1 [(4, (eI (1 : Int)))] ?_
    refine bN ?_
    obtain rfl := oI h0
    exact aG (aQ (Q_r hO))
  refine bL ?_
  refine bG [] ?_
  refine cB aD 1 [(4, (eI (0 : Int)))] ?_
  refine bN ?_
  obtain rfl := oI h0
  exact aG (Q_r hO)

theorem tK (a0 : ByteArray) (b1 : ByteArray) (r : Int) (h0 : iX a0 b1 = some r) : eB Try.prog 115 [(uU a0), (uU b1)] (eI r) := by
  intro H0
  refine dR Try.func115 ?_
  have hO := aJ.start H0
  unfold iX at h0
  refine aS aD 1 [] [] ?_
  refine aN ?_
  refine aU aD 4 ?_
  refine bX 2 ?_
  refine XN 116 [(uU a0), (uU b1)] (eI (GL a0 b1)) (by kernel_rfl) (by kernel_rfl) (UN Try.func116 (by kernel_rfl) (by kernel_rfl) (by kernel_rfl) (by kernel_rfl) a0 b1) hO ?_
  intro H hO
  refine bE ?_
  refine bG [(4, (eI (GL a0 b1)))] ?_
  refine bN ?_
  obtain rfl := oI h0
  exact aG (Q_r hO)

theorem CH (a0 : ByteArray) (b1 : ByteArray) (r : Int) (h0 : lF a0 b1 = some r) : eB Try.prog 112 [(uU a0), (uU b1)] (eI r) := by
  intro H0
  refine dR Try.func112 ?_
  have hO := aJ.start H0
  unfold lF at h0
  refine aS aD 1 [] [] ?_
  refine aN ?_
  refine aU aD 4 ?_
  refine bX 2 ?_
  obtain ⟨x1, hx2, h0⟩ := aX h0
  refine fC (tK a0 b1 _ hx2) hO ?_
  intro H hO
  refine bE ?_
  refine bG [(4, (eI x1))] ?_
  refine bN ?_
  obtain rfl := oI h0
  exact aG (Q_r hO)

theorem FB (a0 : aB) (b1 : aB) (r : Int) (h0 : nU a0 b1 = some r) : eB Try.prog 104 [(aC a0), (aC b1)] (eI r) := by
  intro H0
  refine dR Try.func104 ?_
  have hO := aJ.start H0
  unfold nU at h0
  refine aN ?_
  refine aU aD 3 ?_
  refine nY 3 (aC a0) (by kernel_rfl) (by kernel_rfl) ?_
  refine nY 3 (aC b1) (by kernel_rfl) (by kernel_rfl) ?_
  refine bE ?_
  refine bG [(2, (.rp (aC a0))), (3, (.rp (aC b1)))] ?_
  refine aN ?_
  refine aU aD 7 ?_
  refine bX 1 ?_
  obtain ⟨⟨x1_0, x1_1⟩, hx2, h0⟩ := aX h0
  refine fC (tY a0 _ hx2) hO ?_
  intro H hO
  rcases x1_0 with _ | y4 | y5
  · replace h0 : ((kP b1).bind fun (x6_0, x6_1) => match x6_0 with | .none_ => (cond ((!x1_1) || (!x6_1)) (some (0 : Int)) (none)) | .k_number y9 => (cond ((!x1_1) || (!x6_1)) (some (0 : Int)) (some (1 : Int))) | .k_words y10 => (cond ((!x1_1) || (!x6_1)) (some (0 : Int)) (none))) = some r := h0
    refine bE ?_
    refine bY [2] [(5, (bB bD.none_)), (6, (aE x1_1))] ?_
    refine aN ?_
    refine aU aD 7 ?_
    refine bX 1 ?_
    obtain ⟨⟨x6_0, x6_1⟩, hx7, h0⟩ := aX h0
    refine fC (tY b1 _ hx7) hO ?_
    intro H hO
    rcases x6_0 with _ | y9 | y10
    · replace h0 : (cond ((!x1_1) || (!x6_1)) (some (0 : Int)) (none)) = some r := h0
      refine bE ?_
      refine bY [3] [(7, (bB bD.none_)), (8, (aE x6_1))] ?_
      refine aN ?_
      refine aS aD 6 [6, 8] [(28, (aE ((!x1_1) || (!x6_1))))] ?_
      refine bM h0 (fun h0 => ?_) (fun h0 => ?_)
      · refine cB aD 1 [(4, (eI (0 : Int)))] ?_
        refine bN ?_
        obtain rfl := oI h0
        exact aG (aQ (Q_r hO))
      refine bL ?_
      refine bG [(5, (bB bD.none_)), (7, (bB bD.none_))] ?_
      refine aS aD 7 [] [(9, (eI 0)), (10, (aE false))] ?_
      refine aS aD 7 [] [(11, (eI 0)), (12, (aE false))] ?_
      refine aN ?_
      refine cE 0 ?_
      refine aS aD 5 [] [(39, (aE false))] ?_
      refine lR (false) (fun hc12 => ?_) (fun hc12 => ?_)
      · cases hc12
      · refine aS aD 2 [9, 10, 11, 39] [(47, (aE false))] ?_
        refine lR (false) (fun hc13 => ?_) (fun hc13 => ?_)
        · cases hc13
        · refine cB aD 2 [(5, (bB bD.none_)), (7, (bB bD.none_)), (49, (aE false))] ?_
          refine lR (false) (fun hc14 => ?_) (fun hc14 => ?_)
          · cases hc14
          · refine bL ?_
            refine jA [(5, (bB bD.none_)), (7, (bB bD.none_))] ?_
            refine aG (aW (aF (?_)))
            refine aN ?_
            refine fS (fR []) aD 6 ?_
            cases h0
    · replace h0 : (cond ((!x1_1) || (!x6_1)) (some (0 : Int)) (some (1 : Int))) = some r := h0
      refine bE ?_
      refine bY [3] [(7, (bB (bD.k_number y9))), (8, (aE x6_1))] ?_
      refine aN ?_
      refine aS aD 6 [6, 8] [(28, (aE ((!x1_1) || (!x6_1))))] ?_
      refine bM h0 (fun h0 => ?_) (fun h0 => ?_)
      · refine cB aD 1 [(4, (eI (0 : Int)))] ?_
        refine bN ?_
        obtain rfl := oI h0
        exact aG (aQ (Q_r hO))
      refine bL ?_
      refine bG [(5, (bB bD.none_)), (7, (bB (bD.k_number y9)))] ?_
      refine aS aD 7 [] [(9, (eI 0)), (10, (aE false))] ?_
      refine aS aD 7 [] [(11, (eI y9)), (12, (aE true))] ?_
      refine aN ?_
      refine cE 0 ?_
      refine aS aD 5 [] [(39, (aE false))] ?_
      refine lR (false) (fun hc16 => ?_) (fun hc16 => ?_)
      · cases hc16
      · refine aS aD 2 [9, 10, 11, 39] [(47, (aE false))] ?_
        refine lR (false) (fun hc17 => ?_) (fun hc17 => ?_)
        · cases hc17
        · refine cB aD 2 [(5, (bB bD.none_)), (7, (bB (bD.k_number y9))), (49, (aE true))] ?_
          refine lR (true) (fun hc18 => ?_) (fun hc18 => ?_)
          · refine cB aD 1 [(4, (eI (1 : Int)))] ?_
            refine bN ?_
            obtain rfl := oI h0
            exact aG (bO (aQ (Q_r hO)))
          · cases hc18
    · replace h0 : (cond ((!x1_1) || (!x6_1)) (some (0 : Int)) (none)) = some r := h0
      refine bE ?_
      refine bY [3] [(7, (bB (bD.k_words y10))), (8, (aE x6_1))] ?_
      refine aN ?_
      refine aS aD 6 [6, 8] [(28, (aE ((!x1_1) || (!x6_1))))] ?_
      refine bM h0 (fun h0 => ?_) (fun h0 => ?_)
      · refine cB aD 1 [(4, (eI (0 : Int)))] ?_
        refine bN ?_
        obtain rfl := oI h0
        exact aG (aQ (Q_r hO))
      refine bL ?_
      refine bG [(5, (bB bD.none_)), (7, (bB (bD.k_words y10)))] ?_
      refine aS aD 7 [] [(9, (eI 0)), (10, (aE false))] ?_
      refine aS aD 7 [] [(11, (eI 0)), (12, (aE false))] ?_
      refine aN ?_
      refine cE 0 ?_
      refine aS aD 5 [] [(39, (aE false))] ?_
      refine lR (false) (fun hc20 => ?_) (fun hc20 => ?_)
      · cases hc20
      · refine aS aD 2 [9, 10, 11, 39] [(47, (aE false))] ?_
        refine lR (false) (fun hc21 => ?_) (fun hc21 => ?_)
        · cases hc21
        · refine cB aD 2 [(5, (bB bD.none_)), (7, (bB (bD.k_words y10))), (49, (aE false))] ?_
          refine lR (false) (fun hc22 => ?_) (fun hc22 => ?_)
          · cases hc22
          · refine bL ?_
            refine jA [(5, (bB bD.none_)), (7, (bB (bD.k_words y10)))] ?_
            refine aG (aW (aF (?_)))
            refine aN ?_
            refine fS (fR []) aD 6 ?_
            cases h0
  · replace h0 : ((kP b1).bind fun (x23_0, x23_1) => match x23_0 with | .none_ => (cond ((!x1_1) || (!x23_1)) (some (0 : Int)) (some (-1 : Int))) | .k_number y26 => (cond ((!x1_1) || (!x23_1)) (some (0 : Int)) ((fJ y4 y26).bind fun x33 => some x33)) | .k_words y27 => (cond ((!x1_1) || (!x23_1)) (some (0 : Int)) (some (-1 : Int)))) = some r := h0
    refine bE ?_
    refine bY [2] [(5, (bB (bD.k_number y4))), (6, (aE x1_1))] ?_
    refine aN ?_
    refine aU aD 7 ?_
    refine bX 1 ?_
    obtain ⟨⟨x23_0, x23_1⟩, hx24, h0⟩ := aX h0
    refine fC (tY b1 _ hx24) hO ?_
    intro H hO
    rcases x23_0 with _ | y26 | y27
    · replace h0 : (cond ((!x1_1) || (!x23_1)) (some (0 : Int)) (some (-1 : Int))) = some r := h0
      refine bE ?_
      refine bY [3] [(7, (bB bD.none_)), (8, (aE x23_1))] ?_
      refine aN ?_
      refine aS aD 6 [6, 8] [(28, (aE ((!x1_1) || (!x23_1))))] ?_
      refine bM h0 (fun h0 => ?_) (fun h0 => ?_)
      · refine cB aD 1 [(4, (eI (0 : Int)))] ?_
        refine bN ?_
        obtain rfl := oI h0
        exact aG (aQ (Q_r hO))
      refine bL ?_
      refine bG [(5, (bB (bD.k_number y4))), (7, (bB bD.none_))] ?_
      refine aS aD 7 [] [(9, (eI y4)), (10, (aE true))] ?_
      refine aS aD 7 [] [(11, (eI 0)), (12, (aE false))] ?_
      refine aN ?_
      refine cE 0 ?_
      refine aS aD 5 [] [(39, (aE false))] ?_
      refine lR (false) (fun hc29 => ?_) (fun hc29 => ?_)
      · cases hc29
      · refine aS aD 2 [9, 10, 11, 39] [(47, (aE true))] ?_
        refine lR (true) (fun hc30 => ?_) (fun hc30 => ?_)
        · refine cB aD 1 [(4, (eI (-1 : Int)))] ?_
          refine bN ?_
          obtain rfl := oI h0
          exact aG (bO (aQ (Q_r hO)))
        · cases hc30
    · replace h0 : (cond ((!x1_1) || (!x23_1)) (some (0 : Int)) ((fJ y4 y26).bind fun x33 => some x33)) = some r := h0
      refine bE ?_
      refine bY [3] [(7, (bB (bD.k_number y26))), (8, (aE x23_1))] ?_
      refine aN ?_
      refine aS aD 6 [6, 8] [(28, (aE ((!x1_1) || (!x23_1))))] ?_
      refine bM h0 (fun h0 => ?_) (fun h0 => ?_)
      · refine cB aD 1 [(4, (eI (0 : Int)))] ?_
        refine bN ?_
        obtain rfl := oI h0
        exact aG (aQ (Q_r hO))
      refine bL ?_
      refine bG [(5, (bB (bD.k_number y4))), (7, (bB (bD.k_number y26)))] ?_
      refine aS aD 7 [] [(9, (eI y4)), (10, (aE true))] ?_
      refine aS aD 7 [] [(11, (eI y26)), (12, (aE true))] ?_
      refine aN ?_
      refine cE 0 ?_
      refine aS aD 5 [] [(39, (aE true))] ?_
      refine lR (true) (fun hc32 => ?_) (fun hc32 => ?_)
      · refine aN ?_
        refine aU aD 4 ?_
        refine bX 2 ?_
        obtain ⟨x33, hx34, h0⟩ := aX h0
        refine fC (vP y4 y26 _ hx34) hO ?_
        intro H hO
        refine bE ?_
        refine bG [(4, (eI x33))] ?_
        refine bN ?_
        obtain rfl := oI h0
        exact aG (bO (aQ (Q_r hO)))
      · cases hc32
    · replace h0 : (cond ((!x1_1) || (!x23_1)) (some (0 : Int)) (some (-1 : Int))) = some r := h0
      refine bE ?_
      refine bY [3] [(7, (bB (bD.k_words y27))), (8, (aE x23_1))] ?_
      refine aN ?_
      refine aS aD 6 [6, 8] [(28, (aE ((!x1_1) || (!x23_1))))] ?_
      refine bM h0 (fun h0 => ?_) (fun h0 => ?_)
      · refine cB aD 1 [(4, (eI (0 : Int)))] ?_
        refine bN ?_
        obtain rfl := oI h0
        exact aG (aQ (Q_r hO))
      refine bL ?_
      refine bG [(5, (bB (bD.k_number y4))), (7, (bB (bD.k_words y27)))] ?_
      refine aS aD 7 [] [(9, (eI y4)), (10, (aE true))] ?_
      refine aS aD 7 [] [(11, (eI 0)), (12, (aE false))] ?_
      refine aN ?_
      refine cE 0 ?_
      refine aS aD 5 [] [(39, (aE false))] ?_
      refine lR (false) (fun hc37 => ?_) (fun hc37 => ?_)
      · cases hc37
      · refine aS aD 2 [9, 10, 11, 39] [(47, (aE true))] ?_
        refine lR (true) (fun hc38 => ?_) (fun hc38 => ?_)
        · refine cB aD 1 [(4, (eI (-1 : Int)))] ?_
          refine bN ?_
          obtain rfl := oI h0
          exact aG (bO (aQ (Q_r hO)))
        · cases hc38
  · replace h0 : ((kP b1).bind fun (x39_0, x39_1) => match x39_0 with | .none_ => (cond ((!x1_1) || (!x39_1)) (some (0 : Int)) (none)) | .k_number y42 => (cond ((!x1_1) || (!x39_1)) (some (0 : Int)) (some (1 : Int))) | .k_words y43 => (cond ((!x1_1) || (!x39_1)) (some (0 : Int)) ((lF y5 y43).bind fun x56 => some x56))) = some r := h0
    refine bE ?_
    refine bY [2] [(5, (bB (bD.k_words y5))), (6, (aE x1_1))] ?_
    refine aN ?_
    refine aU aD 7 ?_
    refine bX 1 ?_
    obtain ⟨⟨x39_0, x39_1⟩, hx40, h0⟩ := aX h0
    refine fC (tY b1 _ hx40) hO ?_
    intro H hO
    rcases x39_0 with _ | y42 | y43
    · replace h0 : (cond ((!x1_1) || (!x39_1)) (some (0 : Int)) (none)) = some r := h0
      refine bE ?_
      refine bY [3] [(7, (bB bD.none_)), (8, (aE x39_1))] ?_
      refine aN ?_
      refine aS aD 6 [6, 8] [(28, (aE ((!x1_1) || (!x39_1))))] ?_
      refine bM h0 (fun h0 => ?_) (fun h0 => ?_)
      · refine cB aD 1 [(4, (eI (0 : Int)))] ?_
        refine bN ?_
        obtain rfl := oI h0
        exact aG (aQ (Q_r hO))
      refine bL ?_
      refine bG [(5, (bB (bD.k_words y5))), (7, (bB bD.none_))] ?_
      refine aS aD 7 [] [(9, (eI 0)), (10, (aE false))] ?_
      refine aS aD 7 [] [(11, (eI 0)), (12, (aE false))] ?_
      refine aN ?_
      refine cE 0 ?_
      refine aS aD 5 [] [(39, (aE false))] ?_
      refine lR (false) (fun hc45 => ?_) (fun hc45 => ?_)
      · cases hc45
      · refine aS aD 2 [9, 10, 11, 39] [(47, (aE false))] ?_
        refine lR (false) (fun hc46 => ?_) (fun hc46 => ?_)
        · cases hc46
        · refine cB aD 2 [(5, (bB (bD.k_words y5))), (7, (bB bD.none_)), (49, (aE false))] ?_
          refine lR (false) (fun hc47 => ?_) (fun hc47 => ?_)
          · cases hc47
          · refine bL ?_
            refine jA [(5, (bB (bD.k_words y5))), (7, (bB bD.none_))] ?_
            refine aG (aW (aF (?_)))
            refine aN ?_
            refine fS (fR []) aD 6 ?_
            cases h0
    · replace h0 : (cond ((!x1_1) || (!x39_1)) (some (0 : Int)) (some (1 : Int))) = some r := h0
      refine bE ?_
      refine bY [3] [(7, (bB (bD.k_number y42))), (8, (aE x39_1))] ?_
      refine aN ?_
      refine aS aD 6 [6, 8] [(28, (aE ((!x1_1) || (!x39_1))))] ?_
      refine bM h0 (fun h0 => ?_) (fun h0 => ?_)
      · refine cB aD 1 [(4, (eI (0 : Int)))] ?_
        refine bN ?_
        obtain rfl := oI h0
        exact aG (aQ (Q_r hO))
      refine bL ?_
      refine bG [(5, (bB (bD.k_words y5))), (7, (bB (bD.k_number y42)))] ?_
      refine aS aD 7 [] [(9, (eI 0)), (10, (aE false))] ?_
      refine aS aD 7 [] [(11, (eI y42)), (12, (aE true))] ?_
      refine aN ?_
      refine cE 0 ?_
      refine aS aD 5 [] [(39, (aE false))] ?_
      refine lR (false) (fun hc49 => ?_) (fun hc49 => ?_)
      · cases hc49
      · refine aS aD 2 [9, 10, 11, 39] [(47, (aE false))] ?_
        refine lR (false) (fun hc50 => ?_) (fun hc50 => ?_)
        · cases hc50
        · refine cB aD 2 [(5, (bB (bD.k_words y5))), (7, (bB (bD.k_number y42))), (49, (aE true))] ?_
          refine lR (true) (fun hc51 => ?_) (fun hc51 => ?_)
          · refine cB aD 1 [(4, (eI (1 : Int)))] ?_
            refine bN ?_
            obtain rfl := oI h0
            exact aG (bO (aQ (Q_r hO)))
          · cases hc51
    · replace h0 : (cond ((!x1_1) || (!x39_1)) (some (0 : Int)) ((lF y5 y43).bind fun x56 => some x56)) = some r := h0
      refine bE ?_
      refine bY [3] [(7, (bB (bD.k_words y43))), (8, (aE x39_1))] ?_
      refine aN ?_
      refine aS aD 6 [6, 8] [(28, (aE ((!x1_1) || (!x39_1))))] ?_
      refine bM h0 (fun h0 => ?_) (fun h0 => ?_)
      · refine cB aD 1 [(4, (eI (0 : Int)))] ?_
        refine bN ?_
        obtain rfl := oI h0
        exact aG (aQ (Q_r hO))
      refine bL ?_
      refine bG [(5, (bB (bD.k_words y5))), (7, (bB (bD.k_words y43)))] ?_
      refine aS aD 7 [] [(9, (eI 0)), (10, (aE false))] ?_
      refine aS aD 7 [] [(11, (eI 0)), (12, (aE false))] ?_
      refine aN ?_
      refine cE 0 ?_
      refine aS aD 5 [] [(39, (aE false))] ?_
      refine lR (false) (fun hc53 => ?_) (fun hc53 => ?_)
      · cases hc53
      · refine aS aD 2 [9, 10, 11, 39] [(47, (aE false))] ?_
        refine lR (false) (fun hc54 => ?_) (fun hc54 => ?_)
        · cases hc54
        · refine cB aD 2 [(5, (bB (bD.k_words y5))), (7, (bB (bD.k_words y43))), (49, (aE false))] ?_
          refine lR (false) (fun hc55 => ?_) (fun hc55 => ?_)
          · cases hc55
          · refine bL ?_
            refine jA [(5, (bB (bD.k_words y5))), (7, (bB (bD.k_words y43)))] ?_
            refine aG (aW (aF (?_)))
            refine aN ?_
            refine fS (fR []) aD 6 ?_
            refine oR 4 ?_
            obtain ⟨x56, hx57, h0⟩ := aX h0
            refine DD (CH y5 y43 _ hx57) hO ?_
            intro H hO
            refine jZ ?_
            refine bG [(4, (eI x56))] ?_
            refine bN ?_
            obtain rfl := oI h0
            exact aG (Q_r hO)

theorem IM (a0 : (List aB)) (b1 : (List aB)) (r : Int) (h0 : pU a0 b1 = some r) : eB Try.prog 77 [(eL aC a0), (eL aC b1)] (eI r) := by
  intro H0
  refine dR Try.func77 ?_
  have hO := aJ.start H0
  unfold pU at h0
  refine aN ?_
  refine aU aD 2 ?_
  refine nY 1 (eL aC b1) (by kernel_rfl) (by kernel_rfl) ?_
  refine bE ?_
  refine bY [1] [(3, (.rp (eL aC b1)))] ?_
  refine aN ?_
  refine aN ?_
  refine aU aD 8 ?_
  refine bX 1 ?_
  obtain ⟨x1, hx2, h0⟩ := aX h0
  refine fC (AM a0 _ hx2) hO ?_
  intro H hO
  refine bX 5 ?_
  obtain ⟨x4, hx5, h0⟩ := aX h0
  refine nN [(10, false)] 76 [(eL aC b1)] (aE x4) (!(!x1)) (by kernel_rfl) (by kernel_rfl) (by kernel_rfl) (fun hb6 => (AM b1 _ (jR hx5 hb6))) hO ?_
  intro H hO
  refine bE ?_
  refine bY [] [(14, (aE ((!x1) || (!x4))))] ?_
  refine bM h0 (fun h0 => ?_) (fun h0 => ?_)
  · refine cB aD 1 [(4, (eI (0 : Int)))] ?_
    refine bN ?_
    obtain rfl := oI h0
    exact aG (aQ (Q_r hO))
  refine bL ?_
  refine bG [(0, (eL aC a0)), (3, (.rp (eL aC b1)))] ?_
  refine aS aD 6 [] [(5, (eI (if (lN b1) < (lN a0) then (lN b1) else (lN a0))))] ?_
  refine aN ?_
  refine fS (fR []) aD 7 ?_
  obtain ⟨c8, h0⟩ := aV h0
  refine cF 4 [0 ≤ (if (lN b1) < (lN a0) then (lN b1) else (lN a0)) ∧ (if (lN b1) < (lN a0) then (lN b1) else (lN a0)) ≤ (lN a0)] ⟨c8, trivial⟩ ?_
  obtain ⟨x9, hx10, h0⟩ := aX h0
  refine XA (L' := fun lo11 => [(lo11, 1, [(eI x9.1)])]) 1 [(eI x9.1)] 101 [(.rp (eL aC b1))] (fun lo11 => (.fn (.func 102) [] [(.lp lo11 0 0), (.rp (eL aC x9.2))])) (by kernel_rfl) (by kernel_rfl) (EF b1 _ hx10) hO (fun _ => by kernel_rfl) ?_
  intro lo11 H hO
  obtain ⟨x12, hx13, h0⟩ := aX h0
  refine WB (fun st G' => G' = up [(lo11, 1, [(eI st)])] ++ []) [(lo11, 1, [(eI x12.1)])] x9.1 x12.1 100 [(.sl false (Int.toNat (if (lN b1) < (lN a0) then (lN b1) else (lN a0))) (fun i => aC (List.getD a0 i default))), (.fn (.func 102) [] [(.lp lo11 0 0), (.rp (eL aC x9.2))])] (eI x12.2) (by kernel_rfl) (by kernel_rfl) (wG.sub (as0' := [(eL aC (List.take (Int.toNat (if (lN b1) < (lN a0) then (lN b1) else (lN a0))) a0)), (.fn (.func 102) [] [(.lp lo11 0 0), (.rp (eL aC x9.2))])]) (qM _ (List.take (Int.toNat (if (lN b1) < (lN a0) then (lN b1) else (lN a0))) a0) (.fn (.func 102) [] [(.lp lo11 0 0), (.rp (eL aC x9.2))]) (fun st y0 => (jH y0 st x9.2).bind fun o => some (o.2, o.1)) (fun st y0 st2 rr hr => (CC y0 lo11 st x9.2 _ (ZL hr)).toV (ys := []) (zs := [(aC y0)]) (cs := [(.lp lo11 0 0), (.rp (eL aC x9.2))]) (fun Gx hG => ⟨up [], up [] ++ [], hG, rfl⟩)) _ _ hx13) ⟨XI (Int.toNat_le.2 (And.right c8)), aM.refl _, trivial⟩) hO rfl (fun _ h => h) ?_
  intro H hO
  refine jZ ?_
  replace hO := hO.pick (L' := []) [] (by decide) (by kernel_rfl)
  refine bY [5] [(6, (eI x12.2))] ?_
  refine aN ?_
  refine aS aD 2 [] [(27, (aE (decide (x12.2 < (0 : Int)))))] ?_
  refine bM h0 (fun h0 => ?_) (fun h0 => ?_)
  · refine aN ?_
    refine aU aD 6 ?_
    refine bX 4 ?_
    obtain ⟨x15, hx16, h0⟩ := aX h0
    refine fC (CD (lN a0) (lN b1) _ hx16) hO ?_
    intro H hO
    refine bE ?_
    refine bG [(4, (eI x15))] ?_
    refine bN ?_
    obtain rfl := oI h0
    exact aG (aQ (Q_r hO))
  refine bL ?_
  refine bG [(0, (eL aC a0)), (3, (.rp (eL aC b1))), (6, (eI x12.2))] ?_
  refine aN ?_
  refine fS (fR [36, 37, 40, 41]) aD 10 ?_
  obtain ⟨c18, h0⟩ := aV h0
  obtain ⟨c19, h0⟩ := aV h0
  refine cF 8 [0 ≤ x12.2 ∧ x12.2 < (lN a0), 0 ≤ x12.2 ∧ x12.2 < (lN b1)] ⟨c18, c19, trivial⟩ ?_
  obtain ⟨x20, hx21, h0⟩ := aX h0
  refine DD (FB (gD a0 x12.2) (gD b1 x12.2) _ hx21) hO ?_
  intro H hO
  refine jZ ?_
  refine bG [(4, (eI x20))] ?_
  refine bN ?_
  obtain rfl := oI h0
  exact aG (Q_r hO)

theorem CQ (l0 : (List aL)) (holds1_f : Nat) (holds1_a holds1_c : List V) (rH : (List aI) → Option Bool) (holds1_h : ∀ a0 r, rH a0 = some r → eB Try.prog holds1_f (holds1_a ++ [(eL aR a0)] ++ holds1_c) (aE r)) (r : Bool) (h0 : qH l0 rH = some r) : eB Try.prog 56 [(eL aO l0), (.fn (.func holds1_f) holds1_a holds1_c)] (aE r) := by
  intro H0
  refine GS aD Try.func56 (by kernel_rfl) (by kernel_rfl) (by kernel_rfl) ?_
  have hO := aJ.start H0
  unfold qH at h0
  refine aN ?_
  refine aU aD 2 ?_
  refine nY 1 (.fn (.func holds1_f) holds1_a holds1_c) (by kernel_rfl) (by kernel_rfl) ?_
  refine rN 1 (aE false) (by kernel_rfl) (by kernel_rfl) hO ?_
  intro lo1 H hO
  refine iP ?_
  refine bY [1] [(3, (.rp (.fn (.func holds1_f) holds1_a holds1_c))), (4, (.lp lo1 0 0))] ?_
  refine aN ?_
  refine aS aD 3 [] [(11, (aE (decide ((4096 : Int) < (lN l0)))))] ?_
  refine bM h0 (fun h0 => ?_) (fun h0 => ?_)
  · refine aN ?_
    refine aU aD 1 ?_
    refine qW 0 lo1 1 0 (aE false) (aE false) [(aE false)] [(lo1, 1, [(aE false)])] hO rfl (by kernel_rfl) ?_
    intro H hO
    refine iP ?_
    refine bG [(4, (.lp lo1 0 0))] ?_
    refine bN ?_
    obtain rfl := oI h0
    exact aG (aQ (QM0 (.inr rfl) (rs := [.cell 4 4]) (xs := [(aE false)]) (x := (aE false)) (by kernel_rfl) (GU (lo := lo1) (k := 1) (y := (aE false)) (x := (aE false)) 0 hO (by kernel_rfl) (by kernel_rfl) (by kernel_rfl) (by kernel_rfl) uH) (by kernel_rfl) ⟨rfl, hO.out⟩))
  refine bL ?_
  refine bG [(0, (eL aO l0)), (3, (.rp (.fn (.func holds1_f) holds1_a holds1_c))), (4, (.lp lo1 0 0))] ?_
  refine aN ?_
  refine aU aD 1 ?_
  refine zG 1 (.sl true 0 (fun _ => .bad)) (eL aC ([])) (by kernel_rfl) (by kernel_rfl) (by kernel_rfl) (nQ) (by kernel_rfl) (by kernel_rfl) hO ?_
  intro lo3 H hO
  refine iP ?_
  refine bY [] [(5, (.lp lo3 0 0))] ?_
  refine aN ?_
  refine aU aD 2 ?_
  refine rN 1 (aE false) (by kernel_rfl) (by kernel_rfl) hO ?_
  intro lo4 H hO
  refine qW 2 lo4 1 0 (aE false) (aE false) [(aE false)] [(lo1, 1, [(aE false)]), (lo3, 1, [(eL aC ([]))]), (lo4, 1, [(aE false)])] hO rfl (by kernel_rfl) ?_
  intro H hO
  refine iP ?_
  refine bY [] [(6, (.lp lo4 0 0))] ?_
  refine aN ?_
  refine aN ?_
  refine aU aD 2 ?_
  refine bX 1 ?_
  obtain ⟨x5, hx6, h0⟩ := aX h0
  refine fC (CU l0 _ hx6) hO ?_
  intro H hO
  refine iP ?_
  refine bY [0] [(13, (.fn (.func 91) [] [(.rp (eL aO x5))]))] ?_
  refine cE 0 ?_
  refine fT [(3, (.rp (.fn (.func holds1_f) holds1_a holds1_c))), (4, (.lp lo1 0 0)), (5, (.lp lo3 0 0)), (6, (.lp lo4 0 0)), (13, (.fn (.func 91) [] [(.rp (eL aO x5))]))] ?_
  refine eO (fun T H => ∃ t4 : Bool, ∃ mN : (List aB), ∃ jM : Bool, ∃ rQ : (List aL), Has T [(3, (.rp (.fn (.func holds1_f) holds1_a holds1_c))), (4, (.lp lo1 0 0)), (5, (.lp lo3 0 0)), (6, (.lp lo4 0 0)), (13, (.fn (.func 91) [] [(.rp (eL aO rQ))]))] ∧ aJ ⟨H0, [], []⟩ H [(lo1, 1, [(aE t4)]), (lo3, 1, [(eL aC mN)]), (lo4, 1, [(aE jM)])] ∧ uO rH t4 mN jM rQ = some r) ?_ ⟨false, [], false, x5, .eq (by kernel_rfl), hO, h0⟩
  clear hO h0
  rintro T H ⟨t4, mN, jM, rQ, hT, hO, h0⟩
  refine bA (l := [(3, (.rp (.fn (.func holds1_f) holds1_a holds1_c))), (4, (.lp lo1 0 0)), (5, (.lp lo3 0 0)), (6, (.lp lo4 0 0)), (13, (.fn (.func 91) [] [(.rp (eL aO rQ))]))]) hT ?_
  clear hT
  unfold uO at h0
  obtain ⟨o0, hl0, h0⟩ := aX h0
  refine DU (fid := 91) (ys := []) (cs := [(.rp (eL aO rQ))]) #[14, 15] (fun (A : xT) (b lL : Nat) (st : (Bool × (List aB) × Bool) ⊕ (Bool × (List aB) × Bool)) (G' : Gs) => Sum.elim (fun (s : Bool × (List aB) × Bool) => G' = (lL, .raw (kV b A .ready none)) :: (up [(lo1, 1, [(aE s.1)]), (lo3, 1, [(eL aC s.2.1)]), (lo4, 1, [(aE s.2.2)])] ++ [])) (fun (s : Bool × (List aB) × Bool) => G' = (lL, .raw (kV b A .done (some .ret))) :: (up [(lo1, 1, [(aE s.1)]), (lo3, 1, [(eL aC s.2.1)]), (lo4, 1, [(aE s.2.2)])] ++ [])) st) (.inl (t4, mN, jM)) o0 (.tup []) (by kernel_rfl) (by kernel_rfl) (by kernel_rfl) hO (fun _ _ => rfl) ?_ ?_
  · intro b lL
    clear hO h0
    refine xE _ b (fun st t14 t15 => rnd (fun (s : Bool × (List aB) × Bool) => nA rH rQ s.1 s.2.1 s.2.2 t14 t15) st) ?_ rQ _ _ hl0
    intro st t14 t15 out1 rr hr
    obtain ⟨s, rfl, h1, rfl⟩ := US hr
    clear hr
    intro Hr Gr hi hg
    obtain ⟨t4, mN, jM⟩ := s
    dsimp only [Sum.elim_inl] at hi
    obtain rfl := hi
    replace h1 : nA rH rQ t4 mN jM t14 t15 = some out1 := h1
    unfold nA at h1
    obtain ⟨E1, hE, hO⟩ := yH hg
    refine yB (DT (hO.gm 0 _ rfl).2 (by kernel_rfl) (by kernel_rfl) ?_)
    refine fT [(3, (.rp (.fn (.func holds1_f) holds1_a holds1_c))), (4, (.lp lo1 0 0)), (5, (.lp lo3 0 0)), (6, (.lp lo4 0 0)), (13, (.fn (.func 91) [] [(.rp (eL aO rQ))])), (14, (eL aC t14)), (15, (eL aR t15))] ?_
    refine aS aD 1 [13, 14] [(7, (eL aC t14))] ?_
    refine aU aD 1 ?_
    refine bE ?_
    refine jA [(3, (.rp (.fn (.func holds1_f) holds1_a holds1_c))), (4, (.lp lo1 0 0)), (5, (.lp lo3 0 0)), (6, (.lp lo4 0 0)), (7, (eL aC t14)), (8, (eL aR t15))] ?_
    refine aG (⟨rfl, rfl, (hO.gm 0 _ rfl).2, ?_⟩)
    intro o1 ho1
    replace hO := hO.uB o1
    refine cE 1 ?_
    refine aN ?_
    refine aN ?_
    refine aU aD 18 ?_
    refine bX 1 ?_
    obtain ⟨x7, hx8, h1⟩ := aX h1
    refine fC (AM t14 _ hx8) hO ?_
    intro H hO
    refine bX 4 ?_
    refine wM [(19, false)] 2 lo4 1 0 (aE jM) (aE jM) [(aE jM)] (by kernel_rfl) (by kernel_rfl) hO (by kernel_rfl) (!(!x7)) (by kernel_rfl) (fun hb10 => rfl) ?_
    refine bX 6 ?_
    refine wM [(21, true), (19, false)] 1 lo3 1 0 (eL aC mN) (eL aC mN) [(eL aC mN)] (by kernel_rfl) (by kernel_rfl) hO (by kernel_rfl) (jM && (!(!x7))) (by kernel_rfl) (fun hb11 => rfl) ?_
    refine bX 8 ?_
    obtain ⟨x12, hx13, h1⟩ := aX h1
    refine nN [(21, true), (19, false)] 77 [(eL aC mN), (eL aC t14)] (eI x12) (jM && (!(!x7))) (by kernel_rfl) (by kernel_rfl) (by kernel_rfl) (fun hb14 => (IM mN t14 _ (jR hx13 hb14))) hO ?_
    intro H hO
    refine bX 15 ?_
    obtain ⟨x15, hx16, h1⟩ := aX h1
    refine nN [(28, false)] holds1_f (holds1_a ++ [(eL aR t15)] ++ holds1_c) (aE x15) (!((!x7) || (jM && (decide ((0 : Int) ≤ x12))))) (by kernel_rfl) (by kernel_rfl) (by kernel_rfl) (fun hb17 => (holds1_h t15 _ (jR hx16 hb17))) hO ?_
    intro H hO
    refine bE ?_
    refine bY [3, 8] [(33, (aE (((!x7) || (jM && (decide ((0 : Int) ≤ x12)))) || (!x15))))] ?_
    refine bM h1 (fun h1 => ?_) (fun h1 => ?_)
    · refine aN ?_
      refine aU aD 1 ?_
      refine qW 0 lo1 1 0 (aE t4) (aE false) [(aE t4)] [(lo1, 1, [(aE false)]), (lo3, 1, [(eL aC mN)]), (lo4, 1, [(aE jM)])] hO rfl (by kernel_rfl) ?_
      intro H hO
      refine iP ?_
      refine bY [7, 33] [] ?_
      refine bN ?_
      refine jA [(4, (.lp lo1 0 0)), (5, (.lp lo3 0 0)), (6, (.lp lo4 0 0))] ?_
      obtain rfl := oI h1
      exact aG (aQ (bO (⟨(mS hO hE ho1 .dead).1, rfl, _, rfl, (mS hO hE ho1 _).2⟩)))
    refine bL ?_
    refine bG [(4, (.lp lo1 0 0)), (5, (.lp lo3 0 0)), (6, (.lp lo4 0 0)), (7, (eL aC t14))] ?_
    refine aU aD 3 ?_
    refine bX 1 ?_
    refine qW 1 lo3 1 0 (eL aC mN) (eL aC t14) [(eL aC mN)] [(lo1, 1, [(aE t4)]), (lo3, 1, [(eL aC t14)]), (lo4, 1, [(aE jM)])] hO rfl (by kernel_rfl) ?_
    intro H hO
    refine qW 2 lo4 1 0 (aE jM) (aE true) [(aE jM)] [(lo1, 1, [(aE t4)]), (lo3, 1, [(eL aC t14)]), (lo4, 1, [(aE true)])] hO rfl (by kernel_rfl) ?_
    intro H hO
    refine iP ?_
    refine jA [(4, (.lp lo1 0 0)), (5, (.lp lo3 0 0)), (6, (.lp lo4 0 0))] ?_
    obtain rfl := oI h1
    exact aG (aW (⟨(mS hO hE ho1 .dead).1, rfl, _, rfl, (mS hO hE ho1 _).2⟩))
  · intro b lD19 lL H' G' hi hO
    rcases o0 with s | s
    · dsimp only [Sum.elim_inl] at hi
      obtain rfl := hi
      replace h0 : (some true) = some r := h0
      obtain ⟨hlL, hO⟩ := tV hO
      refine ⟨_, _, hlL, (by intro e; cases e), ?_⟩
      refine jA [(4, (.lp lo1 0 0))] ?_
      replace hO := hO.pick (L' := [(lo1, 1, [(aE s.1)])]) [0] (by decide) (by kernel_rfl)
      refine aG (aW (aF (?_)))
      refine aN ?_
      refine aU aD 1 ?_
      refine qW 0 lo1 1 0 (aE s.1) (aE true) [(aE s.1)] [(lo1, 1, [(aE true)])] hO rfl (by kernel_rfl) ?_
      intro H hO
      refine iP ?_
      refine bG [(4, (.lp lo1 0 0))] ?_
      refine bN ?_
      obtain rfl := oI h0
      have hD := (hO.gm 0 _ rfl).2
      replace hO := (hO.uB .dead).sS
      exact aG (QM1 (.inr rfl) hD (rs := [.cell 4 4]) (xs := [(aE true)]) (x := (aE true)) (by kernel_rfl) (GU (lo := lo1) (k := 1) (y := (aE true)) (x := (aE true)) 0 hO (by kernel_rfl) (by kernel_rfl) (by kernel_rfl) (by kernel_rfl) uH) (by kernel_rfl) ⟨rfl, hO.out⟩)
    · dsimp only [Sum.elim_inr] at hi
      obtain rfl := hi
      replace h0 : (some s.1) = some r := h0
      obtain ⟨hlL, hO⟩ := tV hO
      refine ⟨_, _, hlL, (by intro e; cases e), ?_⟩
      refine bN ?_
      replace hO := hO.pick (L' := [(lo1, 1, [(aE s.1)])]) [0] (by decide) (by kernel_rfl)
      obtain rfl := oI h0
      have hD := (hO.gm 0 _ rfl).2
      replace hO := (hO.uB .dead).sS
      exact aG (bO (aQ (QM1 (.inr rfl) hD (rs := [.cell 4 4]) (xs := [(aE s.1)]) (x := (aE s.1)) (by kernel_rfl) (GU (lo := lo1) (k := 1) (y := (aE s.1)) (x := (aE s.1)) 0 hO (by kernel_rfl) (by kernel_rfl) (by kernel_rfl) (by kernel_rfl) uH) (by kernel_rfl) ⟨rfl, hO.out⟩)))

theorem MK (n0 : Int) (r : Bool) (h0 : vG n0 = some r) : eB Try.prog 78 [(eI n0)] (aE r) := by
  intro H0
  refine dR Try.func78 ?_
  have hO := aJ.start H0
  unfold vG at h0
  refine aS aD 1 [] [] ?_
  refine cB aD 7 [(2, (aE ((decide (n0 ≤ (1048576 : Int))) && (decide ((-1048576 : Int) ≤ n0)))))] ?_
  refine bN ?_
  obtain rfl := oI h0
  exact aG (Q_r hO)

theorem wI (f0 : (List aI)) (r : Bool) (h0 : mR f0 = some r) : eB Try.prog 57 [(eL aR f0)] (aE r) := by
  intro H0
  refine dR Try.func57 ?_
  have hO := aJ.start H0
  unfold mR at h0
  refine aS aD 1 [] [] ?_
  refine aN ?_
  refine aS aD 3 [] [(8, (aE (decide ((1024 : Int) < (lN f0)))))] ?_
  refine bM h0 (fun h0 => ?_) (fun h0 => ?_)
  · refine cB aD 1 [(2, (aE false))] ?_
    refine bN ?_
    obtain rfl := oI h0
    exact aG (aQ (Q_r hO))
  refine bL ?_
  refine bG [(0, (eL aR f0))] ?_
  refine aS aD 1 [] [(3, (eI (-2 : Int)))] ?_
  refine eT (fun T H => Has T [] ∧ aJ ⟨H0, [], []⟩ H [] ∧ sI  = some r) ?_ ?_
  · clear hO h0
    rintro T H ⟨hT, hO, h0⟩
    refine bA hT ?_
    clear hT
    unfold sI at h0
    refine cB aD 1 [(2, (aE true))] ?_
    refine bN ?_
    obtain rfl := oI h0
    exact aG (Q_r hO)
  refine aS aD 3 [0] [(9, (eL aR f0)), (10, (eI (lN f0))), (11, (eI (0 : Int)))] ?_
  refine cE 0 ?_
  refine fT [(3, (eI (-2 : Int))), (9, (eL aR f0)), (10, (eI (lN f0))), (11, (eI (0 : Int)))] ?_
  refine eO (fun T H => ∃ oE : Int, ∃ t9 : (List aI), ∃ t10 : Int, ∃ t11 : Int, Has T [(3, (eI oE)), (9, (eL aR t9)), (10, (eI t10)), (11, (eI t11))] ∧ aJ ⟨H0, [], []⟩ H [] ∧ vF oE t9 t10 t11 = some r) ?_ ⟨(-2 : Int), f0, (lN f0), (0 : Int), .eq (by kernel_rfl), hO, h0⟩
  clear hO h0
  rintro T H ⟨oE, t9, t10, t11, hT, hO, h0⟩
  refine bA hT ?_
  clear hT
  unfold vF at h0
  obtain ⟨rr0, hl0, h0⟩ := aX h0
  refine cZ (by kernel_rfl) (fun (s : Int × Int) T H => Has T [(3, (eI s.1)), (9, (eL aR t9)), (10, (eI t10)), (11, (eI s.2))] ∧ aJ ⟨H0, [], []⟩ H []) hl0 ⟨.eq (by kernel_rfl), hO⟩ ?_
  clear hO
  rintro k0 s out1 T H ⟨hT, hO⟩ h1 ho0
  obtain ⟨oE, t11⟩ := s
  replace h1 : kZ t9 t10 oE t11 = some out1 := h1
  try dsimp only at hT
  refine bA hT ?_
  clear hT
  unfold kZ at h1
  refine aS aD 1 [] [(12, (aE (decide (t11 < t10))))] ?_
  refine aN ?_
  refine bM h1 (fun h1 => ?_) (fun h1 => ?_)
  · refine bL ?_
    refine bG [(3, (eI oE)), (9, (eL aR t9)), (10, (eI t10)), (11, (eI t11))] ?_
    refine aN ?_
    refine cE 1 ?_
    refine aN ?_
    refine aU aD 4 ?_
    obtain ⟨c3, h1⟩ := aV h1
    refine tG 2 [0 ≤ t11 ∧ t11 < (lN t9)] ⟨c3, trivial⟩ ?_
    refine rN 2 (aR (aI.mk 0 0)) (by kernel_rfl) (by kernel_rfl) hO ?_
    intro lo4 H hO
    refine qW 0 lo4 2 0 (aR (aI.mk 0 0)) (aR (gD t9 t11)) [(aR (aI.mk 0 0))] [(lo4, 2, [(aR (gD t9 t11))])] hO rfl (by kernel_rfl) ?_
    intro H hO
    refine iP ?_
    refine bY [] [(5, (.lp lo4 0 0))] ?_
    refine aN ?_
    refine aN ?_
    refine aU aD 20 ?_
    refine bX 1 ?_
    refine uA 0 lo4 2 0 (aR (gD t9 t11)) (eI ((gD t9 t11).At)) [(aR (gD t9 t11))] hO rfl ?_
    refine bX 6 ?_
    refine wM [(19, false)] 0 lo4 2 0 (aR (gD t9 t11)) (eI ((gD t9 t11).At)) [(aR (gD t9 t11))] (by kernel_rfl) (by kernel_rfl) hO (by kernel_rfl) (!(decide (((gD t9 t11).At) ≤ oE))) (by kernel_rfl) (fun hb5 => rfl) ?_
    refine bX 11 ?_
    refine wM [(24, false)] 0 lo4 2 0 (aR (gD t9 t11)) (eI ((gD t9 t11).Net)) [(aR (gD t9 t11))] (by kernel_rfl) (by kernel_rfl) hO (by kernel_rfl) (!((decide (((gD t9 t11).At) ≤ oE)) || (decide ((1125899906842624 : Int) ≤ ((gD t9 t11).At))))) (by kernel_rfl) (fun hb6 => rfl) ?_
    refine bX 16 ?_
    refine wM [(29, false)] 0 lo4 2 0 (aR (gD t9 t11)) (eI ((gD t9 t11).Net)) [(aR (gD t9 t11))] (by kernel_rfl) (by kernel_rfl) hO (by kernel_rfl) (!(((decide (((gD t9 t11).At) ≤ oE)) || (decide ((1125899906842624 : Int) ≤ ((gD t9 t11).At)))) || (decide (((gD t9 t11).Net) = (0 : Int))))) (by kernel_rfl) (fun hb7 => rfl) ?_
    obtain ⟨x8, hx9, h1⟩ := aX h1
    refine nN [(29, false)] 78 [(eI ((gD t9 t11).Net))] (aE x8) (!(((decide (((gD t9 t11).At) ≤ oE)) || (decide ((1125899906842624 : Int) ≤ ((gD t9 t11).At)))) || (decide (((gD t9 t11).Net) = (0 : Int))))) (by kernel_rfl) (by kernel_rfl) (by kernel_rfl) (fun hb10 => (MK ((gD t9 t11).Net) _ (jR hx9 hb10))) hO ?_
    intro H hO
    refine bE ?_
    refine bY [3] [(34, (aE ((((decide (((gD t9 t11).At) ≤ oE)) || (decide ((1125899906842624 : Int) ≤ ((gD t9 t11).At)))) || (decide (((gD t9 t11).Net) = (0 : Int)))) || (!x8))))] ?_
    refine bM h1 (fun h1 => ?_) (fun h1 => ?_)
    · refine aN ?_
      refine aU aD 1 ?_
      refine bE ?_
      refine jA [(2, (aE false))] ?_
      replace hO := hO.pick (L' := []) [] (by decide) (by kernel_rfl)
      refine aG (aF (?_))
      refine bN ?_
      obtain rfl := oI h1
      obtain rfl : _ = rr0 := ho0
      replace h0 : some false = some r := h0
      obtain rfl := oI h0
      exact aG (aQ (bO (aQ (aQ (bO (aQ (Q_r hO)))))))
    refine bL ?_
    refine bG [(5, (.lp lo4 0 0)), (9, (eL aR t9)), (10, (eI t10)), (11, (eI t11))] ?_
    refine aU aD 3 ?_
    refine bX 1 ?_
    refine uA 0 lo4 2 0 (aR (gD t9 t11)) (eI ((gD t9 t11).At)) [(aR (gD t9 t11))] hO rfl ?_
    refine bE ?_
    refine jA [(3, (eI ((gD t9 t11).At))), (9, (eL aR t9)), (10, (eI t10)), (11, (eI t11))] ?_
    replace hO := hO.pick (L' := []) [] (by decide) (by kernel_rfl)
    refine aG (aW (aF (?_)))
    refine aU aD 2 ?_
    refine bE ?_
    exact aG (aF (⟨rfl, _, (oI h1).symm, .eq (by kernel_rfl), hO⟩))
  refine gC 0 ?_
  obtain rfl := oI h1
  obtain rfl : _ = rr0 := ho0
  replace h0 : sI  = some r := h0
  exact aG (aT (aT (bS (aF (⟨rfl, .eq (by kernel_rfl), hO, h0⟩)))))

theorem EV (l0 : (List aL)) (r : Bool) (h0 : sA l0 = some r) : eB Try.prog 31 [(eL aO l0)] (aE r) := by
  intro H0
  refine dR Try.func31 ?_
  have hO := aJ.start H0
  unfold sA at h0
  refine aS aD 1 [] [] ?_
  refine aN ?_
  refine aU aD 3 ?_
  refine bX 1 ?_
  obtain ⟨x1, hx2, h0⟩ := aX h0
  refine fC (CQ l0 57 [] [] (fun y0 => mR y0) (fun y0 r h => wI y0 r h) _ hx2) hO ?_
  intro H hO
  refine bE ?_
  refine bG [(2, (aE x1))] ?_
  refine bN ?_
  obtain rfl := oI h0
  exact aG (Q_r hO)

theorem KA (f0 : (List aI)) (r : Int) (h0 : qU f0 = some r) : eB Try.prog 59 [(eL aR f0)] (eI r) := by
  intro H0
  refine dR Try.func59 ?_
  have hO := aJ.start H0
  unfold qU at h0
  refine aS aD 1 [] [] ?_
  refine aN ?_
  refine aN ?_
  refine aU aD 8 ?_
  refine bX 1 ?_
  obtain ⟨x1, hx2, h0⟩ := aX h0
  refine fC (wI f0 _ hx2) hO ?_
  intro H hO
  refine bE ?_
  refine bY [] [(14, (aE ((!x1) || (decide ((lN f0) = (0 : Int))))))] ?_
  refine bM h0 (fun h0 => ?_) (fun h0 => ?_)
  · refine cB aD 1 [(2, (eI (0 : Int)))] ?_
    refine bN ?_
    obtain rfl := oI h0
    exact aG (aQ (Q_r hO))
  refine bL ?_
  refine bG [(0, (eL aR f0))] ?_
  refine aS aD 2 [] [(3, (eI (0 : Int))), (4, (eI (0 : Int)))] ?_
  refine eT (fun T H => ∃ v3 : Int, ∃ gP : Int, Has T [(0, (eL aR f0)), (3, (eI v3)), (4, (eI gP))] ∧ aJ ⟨H0, [], []⟩ H [] ∧ nR f0 v3 gP = some r) ?_ ?_
  · clear hO h0
    rintro T H ⟨v3, gP, hT, hO, h0⟩
    refine bA hT ?_
    clear hT
    unfold nR at h0
    refine eT (fun T H => ∃ gP : Int, Has T [(4, (eI gP))] ∧ aJ ⟨H0, [], []⟩ H [] ∧ pZ gP = some r) ?_ ?_
    · clear hO h0
      rintro T H ⟨gP, hT, hO, h0⟩
      refine bA hT ?_
      clear hT
      unfold pZ at h0
      refine cB aD 2 [(2, (eI gP))] ?_
      refine bN ?_
      obtain rfl := oI h0
      exact aG (Q_r hO)
    refine aS aD 3 [0] [(24, (eL aR f0)), (25, (eI (lN f0))), (26, (eI (0 : Int)))] ?_
    refine cE 0 ?_
    refine fT [(3, (eI v3)), (4, (eI gP)), (24, (eL aR f0)), (25, (eI (lN f0))), (26, (eI (0 : Int)))] ?_
    refine eO (fun T H => ∃ v3 : Int, ∃ gP : Int, ∃ t24 : (List aI), ∃ t25 : Int, ∃ t26 : Int, Has T [(3, (eI v3)), (4, (eI gP)), (24, (eL aR t24)), (25, (eI t25)), (26, (eI t26))] ∧ aJ ⟨H0, [], []⟩ H [] ∧ pO v3 gP t24 t25 t26 = some r) ?_ ⟨v3, gP, f0, (lN f0), (0 : Int), .eq (by kernel_rfl), hO, h0⟩
    clear hO h0
    rintro T H ⟨v3, gP, t24, t25, t26, hT, hO, h0⟩
    refine bA hT ?_
    clear hT
    unfold pO at h0
    obtain ⟨rr0, hl0, h0⟩ := aX h0
    refine cZ (by kernel_rfl) (fun (s : Int × Int × Int) T H => Has T [(3, (eI s.1)), (4, (eI s.2.1)), (24, (eL aR t24)), (25, (eI t25)), (26, (eI s.2.2))] ∧ aJ ⟨H0, [], []⟩ H []) hl0 ⟨.eq (by kernel_rfl), hO⟩ ?_
    clear hO
    rintro k0 s out1 T H ⟨hT, hO⟩ h1 ho0
    obtain ⟨v3, gP, t26⟩ := s
    replace h1 : lJ t24 t25 v3 gP t26 = some out1 := h1
    try dsimp only at hT
    refine bA hT ?_
    clear hT
    unfold lJ at h1
    refine aS aD 1 [] [(27, (aE (decide (t26 < t25))))] ?_
    refine aN ?_
    refine bM h1 (fun h1 => ?_) (fun h1 => ?_)
    · refine bL ?_
      refine bG [(3, (eI v3)), (4, (eI gP)), (24, (eL aR t24)), (25, (eI t25)), (26, (eI t26))] ?_
      refine aN ?_
      refine cE 1 ?_
      refine aN ?_
      refine aU aD 4 ?_
      obtain ⟨c6, h1⟩ := aV h1
      refine tG 2 [0 ≤ t26 ∧ t26 < (lN t24)] ⟨c6, trivial⟩ ?_
      refine rN 2 (aR (aI.mk 0 0)) (by kernel_rfl) (by kernel_rfl) hO ?_
      intro lo7 H hO
      refine qW 0 lo7 2 0 (aR (aI.mk 0 0)) (aR (gD t24 t26)) [(aR (aI.mk 0 0))] [(lo7, 2, [(aR (gD t24 t26))])] hO rfl (by kernel_rfl) ?_
      intro H hO
      refine iP ?_
      refine bY [] [(6, (.lp lo7 0 0))] ?_
      refine aN ?_
      refine aU aD 5 ?_
      refine bX 2 ?_
      refine uA 0 lo7 2 0 (aR (gD t24 t26)) (eI ((gD t24 t26).Net)) [(aR (gD t24 t26))] hO rfl ?_
      refine bE ?_
      replace hO := hO.pick (L' := []) [] (by decide) (by kernel_rfl)
      refine bY [3, 6] [(3, (eI (wR (v3 + ((gD t24 t26).Net)))))] ?_
      refine aU aD 4 ?_
      refine bE ?_
      refine jA [(3, (eI (wR (v3 + ((gD t24 t26).Net))))), (4, (eI (if (wR (v3 + ((gD t24 t26).Net))) < gP then (wR (v3 + ((gD t24 t26).Net))) else gP))), (24, (eL aR t24)), (25, (eI t25)), (26, (eI t26))] ?_
      refine aG (aW (aF (?_)))
      refine aU aD 2 ?_
      refine bE ?_
      exact aG (aF (⟨rfl, _, (oI h1).symm, .eq (by kernel_rfl), hO⟩))
    refine gC 0 ?_
    obtain rfl := oI h1
    obtain rfl : _ = rr0 := ho0
    replace h0 : pZ gP = some r := h0
    exact aG (aT (aT (bS (aF (⟨rfl, _, .eq (by kernel_rfl), hO, h0⟩)))))
  refine aN ?_
  refine aU aD 5 ?_
  obtain ⟨c8, h0⟩ := aV h0
  refine nL [0 ≤ (0 : Int) ∧ (0 : Int) < (lN f0)] ⟨c8, trivial⟩ ?_
  refine bY [] [(19, (aE (decide (((gD f0 (0 : Int)).At) = (-1 : Int)))))] ?_
  refine bM h0 (fun h0 => ?_) (fun h0 => ?_)
  · refine aU aD 5 ?_
    obtain ⟨c10, h0⟩ := aV h0
    refine nL [0 ≤ (0 : Int) ∧ (0 : Int) < (lN f0)] ⟨c10, trivial⟩ ?_
    exact aG (aF (⟨rfl, _, _, .eq (by kernel_rfl), hO, h0⟩))
  refine bL ?_
  exact aG (aF (⟨rfl, _, _, .eq (by kernel_rfl), hO, h0⟩))

theorem GM (f0 : (List aI)) (r : Bool) (h0 : oL f0 = some r) : eB Try.prog 58 [(eL aR f0)] (aE r) := by
  intro H0
  refine dR Try.func58 ?_
  have hO := aJ.start H0
  unfold oL at h0
  refine aS aD 1 [] [] ?_
  refine aN ?_
  refine aU aD 8 ?_
  refine bX 1 ?_
  obtain ⟨x1, hx2, h0⟩ := aX h0
  refine fC (wI f0 _ hx2) hO ?_
  intro H hO
  refine bX 4 ?_
  obtain ⟨x4, hx5, h0⟩ := aX h0
  refine nN [(5, true)] 59 [(eL aR f0)] (eI x4) x1 (by kernel_rfl) (by kernel_rfl) (by kernel_rfl) (fun hb6 => (KA f0 _ (jR hx5 hb6))) hO ?_
  intro H hO
  refine bE ?_
  refine bG [(2, (aE (x1 && (decide ((0 : Int) ≤ x4)))))] ?_
  refine bN ?_
  obtain rfl := oI h0
  exact aG (Q_r hO)

theorem LK (l0 : (List aL)) (r : Bool) (h0 : rF l0 = some r) : eB Try.prog 32 [(eL aO l0)] (aE r) := by
  intro H0
  refine dR Try.func32 ?_
  have hO := aJ.start H0
  unfold rF at h0
  refine aS aD 1 [] [] ?_
  refine aN ?_
  refine aU aD 3 ?_
  refine bX 1 ?_
  obtain ⟨x1, hx2, h0⟩ := aX h0
  refine fC (CQ l0 58 [] [] (fun y0 => oL y0) (fun y0 r h => GM y0 r h) _ hx2) hO ?_
  intro H hO
  refine bE ?_
  refine bG [(2, (aE x1))] ?_
  refine bN ?_
  obtain rfl := oI h0
  exact aG (Q_r hO)

theorem CF (x0 : Int) (r : Int) (h0 : mK x0 = some r) : eB Try.prog 88 [(cQ .u64 x0)] (eI r) := by
  intro H0
  refine dR Try.func88 ?_
  have hO := aJ.start H0
  unfold mK at h0
  refine aS aD 1 [] [(2, (eI (0 : Int)))] ?_
  refine eT (fun T H => ∃ x0 : Int, ∃ n2 : Int, Has T [(0, (cQ .u64 x0)), (2, (eI n2))] ∧ aJ ⟨H0, [], []⟩ H [] ∧ kD x0 n2 = some r) ?_ ?_
  · clear hO h0
    rintro T H ⟨x0, n2, hT, hO, h0⟩
    refine bA hT ?_
    clear hT
    unfold kD at h0
    refine eT (fun T H => ∃ x0 : Int, ∃ n2 : Int, Has T [(0, (cQ .u64 x0)), (2, (eI n2))] ∧ aJ ⟨H0, [], []⟩ H [] ∧ kE x0 n2 = some r) ?_ ?_
    · clear hO h0
      rintro T H ⟨x0, n2, hT, hO, h0⟩
      refine bA hT ?_
      clear hT
      unfold kE at h0
      refine eT (fun T H => ∃ x0 : Int, ∃ n2 : Int, Has T [(0, (cQ .u64 x0)), (2, (eI n2))] ∧ aJ ⟨H0, [], []⟩ H [] ∧ kR x0 n2 = some r) ?_ ?_
      · clear hO h0
        rintro T H ⟨x0, n2, hT, hO, h0⟩
        refine bA hT ?_
        clear hT
        unfold kR at h0
        refine aN ?_
        refine aU aD 7 ?_
        obtain ⟨c1, h0⟩ := aV h0
        refine nL [0 ≤ (IntKind.u8.wrap x0) ∧ (IntKind.u8.wrap x0) < ((ByteArray.size (⟨#[0, 1, 2, 2, 3, 3, 3, 3, 4, 4, 4, 4, 4, 4, 4, 4, 5, 5, 5, 5, 5, 5, 5, 5, 5, 5, 5, 5, 5, 5, 5, 5, 6, 6, 6, 6, 6, 6, 6, 6, 6, 6, 6, 6, 6, 6, 6, 6, 6, 6, 6, 6, 6, 6, 6, 6, 6, 6, 6, 6, 6, 6, 6, 6, 7, 7, 7, 7, 7, 7, 7, 7, 7, 7, 7, 7, 7, 7, 7, 7, 7, 7, 7, 7, 7, 7, 7, 7, 7, 7, 7, 7, 7, 7, 7, 7, 7, 7, 7, 7, 7, 7, 7, 7, 7, 7, 7, 7, 7, 7, 7, 7, 7, 7, 7, 7, 7, 7, 7, 7, 7, 7, 7, 7, 7, 7, 7, 7, 8, 8, 8, 8, 8, 8, 8, 8, 8, 8, 8, 8, 8, 8, 8, 8, 8, 8, 8, 8, 8, 8, 8, 8, 8, 8, 8, 8, 8, 8, 8, 8, 8, 8, 8, 8, 8, 8, 8, 8, 8, 8, 8, 8, 8, 8, 8, 8, 8, 8, 8, 8, 8, 8, 8, 8, 8, 8, 8, 8, 8, 8, 8, 8, 8, 8, 8, 8, 8, 8, 8, 8, 8, 8, 8, 8, 8, 8, 8, 8, 8, 8, 8, 8, 8, 8, 8, 8, 8, 8, 8, 8, 8, 8, 8, 8, 8, 8, 8, 8, 8, 8, 8, 8, 8, 8, 8, 8, 8, 8, 8, 8, 8, 8, 8, 8, 8, 8, 8, 8, 8, 8, 8, 8, 8, 8, 8, 8]⟩ : ByteArray) : Nat) : Int)] ⟨c1, trivial⟩ ?_
        refine bG [(2, (eI (wR (n2 + (wR (bt (⟨#[0, 1, 2, 2, 3, 3, 3, 3, 4, 4, 4, 4, 4, 4, 4, 4, 5, 5, 5, 5, 5, 5, 5, 5, 5, 5, 5, 5, 5, 5, 5, 5, 6, 6, 6, 6, 6, 6, 6, 6, 6, 6, 6, 6, 6, 6, 6, 6, 6, 6, 6, 6, 6, 6, 6, 6, 6, 6, 6, 6, 6, 6, 6, 6, 7, 7, 7, 7, 7, 7, 7, 7, 7, 7, 7, 7, 7, 7, 7, 7, 7, 7, 7, 7, 7, 7, 7, 7, 7, 7, 7, 7, 7, 7, 7, 7, 7, 7, 7, 7, 7, 7, 7, 7, 7, 7, 7, 7, 7, 7, 7, 7, 7, 7, 7, 7, 7, 7, 7, 7, 7, 7, 7, 7, 7, 7, 7, 7, 8, 8, 8, 8, 8, 8, 8, 8, 8, 8, 8, 8, 8, 8, 8, 8, 8, 8, 8, 8, 8, 8, 8, 8, 8, 8, 8, 8, 8, 8, 8, 8, 8, 8, 8, 8, 8, 8, 8, 8, 8, 8, 8, 8, 8, 8, 8, 8, 8, 8, 8, 8, 8, 8, 8, 8, 8, 8, 8, 8, 8, 8, 8, 8, 8, 8, 8, 8, 8, 8, 8, 8, 8, 8, 8, 8, 8, 8, 8, 8, 8, 8, 8, 8, 8, 8, 8, 8, 8, 8, 8, 8, 8, 8, 8, 8, 8, 8, 8, 8, 8, 8, 8, 8, 8, 8, 8, 8, 8, 8, 8, 8, 8, 8, 8, 8, 8, 8, 8, 8, 8, 8, 8, 8, 8, 8, 8, 8]⟩ : ByteArray) (IntKind.u8.wrap x0)))))))] ?_
        refine bN ?_
        obtain rfl := oI h0
        exact aG (Q_r hO)
      refine aS aD 2 [] [(14, (aE (decide ((256 : Int) ≤ x0))))] ?_
      refine bM h0 (fun h0 => ?_) (fun h0 => ?_)
      · refine aN ?_
        refine aU aD 3 ?_
        obtain ⟨c3, h0⟩ := aV h0
        refine nL [0 ≤ (8 : Int)] ⟨c3, trivial⟩ ?_
        refine bG [(0, (cQ .u64 (Int.fdiv x0 (2 ^ (min (Int.toNat (8 : Int)) 64))))), (2, (eI n2))] ?_
        refine aU aD 3 ?_
        refine bE ?_
        exact aG (aF (⟨rfl, _, _, .eq (by kernel_rfl), hO, h0⟩))
      refine bL ?_
      exact aG (aF (⟨rfl, _, _, .eq (by kernel_rfl), hO, h0⟩))
    refine aS aD 2 [] [(8, (aE (decide ((65536 : Int) ≤ x0))))] ?_
    refine bM h0 (fun h0 => ?_) (fun h0 => ?_)
    · refine aN ?_
      refine aU aD 3 ?_
      obtain ⟨c5, h0⟩ := aV h0
      refine nL [0 ≤ (16 : Int)] ⟨c5, trivial⟩ ?_
      refine bG [(0, (cQ .u64 (Int.fdiv x0 (2 ^ (min (Int.toNat (16 : Int)) 64))))), (2, (eI n2))] ?_
      refine aU aD 3 ?_
      refine bE ?_
      exact aG (aF (⟨rfl, _, _, .eq (by kernel_rfl), hO, h0⟩))
    refine bL ?_
    exact aG (aF (⟨rfl, _, _, .eq (by kernel_rfl), hO, h0⟩))
  refine aS aD 2 [] [(4, (aE (decide ((4294967296 : Int) ≤ x0))))] ?_
  refine bM h0 (fun h0 => ?_) (fun h0 => ?_)
  · refine aN ?_
    refine aU aD 3 ?_
    obtain ⟨c7, h0⟩ := aV h0
    refine nL [0 ≤ (32 : Int)] ⟨c7, trivial⟩ ?_
    refine bG [(0, (cQ .u64 (Int.fdiv x0 (2 ^ (min (Int.toNat (32 : Int)) 64)))))] ?_
    refine aU aD 1 ?_
    refine bE ?_
    exact aG (aF (⟨rfl, _, _, .eq (by kernel_rfl), hO, h0⟩))
  refine bL ?_
  exact aG (aF (⟨rfl, _, _, .eq (by kernel_rfl), hO, h0⟩))

theorem xG (x0 : Int) (r : Int) (h0 : jL x0 = some r) : eB Try.prog 61 [(cQ .u64 x0)] (eI r) := by
  intro H0
  refine dR Try.func61 ?_
  have hO := aJ.start H0
  unfold jL at h0
  refine aS aD 1 [] [] ?_
  refine aN ?_
  refine lR (false) (fun hc1 => ?_) (fun hc1 => ?_)
  · cases hc1
  · refine bL ?_
    refine aG (aF ?_)
    refine aN ?_
    refine aU aD 3 ?_
    refine bX 1 ?_
    obtain ⟨x2, hx3, h0⟩ := aX h0
    refine fC (CF x0 _ hx3) hO ?_
    intro H hO
    refine bE ?_
    refine bG [(2, (eI x2))] ?_
    refine bN ?_
    obtain rfl := oI h0
    exact aG (Q_r hO)

theorem fG (x0 : Int) (y1 : Int) (r : Bool) (h0 : cW x0 y1 = some r) : eB Try.prog 70 [(eI x0), (eI y1)] (aE r) := by
  intro H0
  refine dR Try.func70 ?_
  have hO := aJ.start H0
  unfold cW at h0
  refine aS aD 1 [] [] ?_
  refine aN ?_
  refine aU aD 13 ?_
  refine bX 1 ?_
  obtain ⟨x1, hx2, h0⟩ := aX h0
  refine fC (qR x0 _ hx2) hO ?_
  intro H hO
  refine bX 4 ?_
  obtain ⟨x4, hx5, h0⟩ := aX h0
  refine nN [(7, true)] 95 [(eI y1)] (aE x4) x1 (by kernel_rfl) (by kernel_rfl) (by kernel_rfl) (fun hb6 => (qR y1 _ (jR hx5 hb6))) hO ?_
  intro H hO
  refine bE ?_
  refine bG [(4, (aE ((x1 && (!x4)) || (decide (x0 < y1)))))] ?_
  refine bN ?_
  obtain rfl := oI h0
  exact aG (Q_r hO)

theorem sJ (lo0p : Nat) (aA : (List Int)) (a1 : Int) (b2 : Int) (r : List Int) (h0 : fX aA a1 b2 = some r) : lW Try.prog 79 lo0p 1 (List.map (eI) aA) (List.map (eI) r) [(.msl 1 lo0p 0 (List.length aA)), (eI a1), (eI b2)] (.tup []) := by
  intro H0 hl0
  refine dR Try.func79 ?_
  have hO := aJ.rK hl0
  clear hl0
  obtain ⟨N0, hN0⟩ : ∃ n, n = List.length aA := ⟨_, rfl⟩
  have hN : List.length aA = N0 := hN0.symm
  unfold fX at h0
  refine aS aD 3 [] [(6, (eI (wR (a1 + (1 : Int)))))] ?_
  refine cE 0 ?_
  refine fT [(0, (.msl 1 lo0p 0 (List.length aA))), (1, (eI a1)), (2, (eI b2)), (6, (eI (wR (a1 + (1 : Int)))))] ?_
  refine eO (fun T H => ∃ aA : List Int, ∃ i6 : Int, Has T [(0, (.msl 1 lo0p 0 (List.length aA))), (1, (eI a1)), (2, (eI b2)), (6, (eI i6))] ∧ aJ ⟨H0, [lo0p], []⟩ H [(lo0p, 1, List.map (eI) aA)] ∧ List.length aA = N0 ∧ iL aA a1 b2 i6 = some r) ?_ ⟨aA, wR (a1 + (1 : Int)), .eq (by kernel_rfl), hO, hN, h0⟩
  clear hO hN h0
  rintro T H ⟨aA, i6, hT, hO, hN, h0⟩
  refine bA hT ?_
  clear hT
  unfold iL at h0
  obtain ⟨rr0, hl0, h0⟩ := aX h0
  refine cZ (by kernel_rfl) (fun (s : List Int × Int) T H => Has T [(0, (.msl 1 lo0p 0 (List.length s.1))), (1, (eI a1)), (2, (eI b2)), (6, (eI s.2))] ∧ aJ ⟨H0, [lo0p], []⟩ H [(lo0p, 1, List.map (eI) s.1)] ∧ List.length s.1 = N0) hl0 ⟨.eq (by kernel_rfl), hO, hN⟩ ?_
  clear hO hN
  rintro k0 s out1 T H ⟨hT, hO, hN⟩ h1 ho0
  obtain ⟨aA, i6⟩ := s
  replace h1 : cY a1 b2 aA i6 = some out1 := h1
  try dsimp only at hT
  refine bA hT ?_
  clear hT
  unfold cY at h1
  refine aN ?_
  refine aS aD 3 [] [(12, (aE (decide (i6 < b2))))] ?_
  refine bM h1 (fun h1 => ?_) (fun h1 => ?_)
  · refine bL ?_
    refine bG [(0, (.msl 1 lo0p 0 (List.length aA))), (1, (eI a1)), (2, (eI b2)), (6, (eI i6))] ?_
    refine eT (fun T H => ∃ aA : List Int, Has T [(0, (.msl 1 lo0p 0 (List.length aA))), (1, (eI a1)), (2, (eI b2)), (6, (eI i6))] ∧ aJ ⟨H0, [lo0p], []⟩ H [(lo0p, 1, List.map (eI) aA)] ∧ List.length aA = N0 ∧ fO aA a1 b2 i6 = some out1) ?_ ?_
    · clear hO hN h1
      rintro T H ⟨aA, hT, hO, hN, h1⟩
      refine bA hT ?_
      clear hT
      unfold fO at h1
      refine aU aD 3 ?_
      refine bE ?_
      exact aG (aF (⟨rfl, _, (oI h1).symm, .eq (by kernel_rfl), hO, hN⟩))
    refine cE 1 ?_
    refine aS aD 2 [] [(7, (eI i6))] ?_
    refine cE 2 ?_
    refine fT [(0, (.msl 1 lo0p 0 (List.length aA))), (1, (eI a1)), (2, (eI b2)), (6, (eI i6)), (7, (eI i6))] ?_
    refine eO (fun T H => ∃ aA : List Int, ∃ j7 : Int, Has T [(0, (.msl 1 lo0p 0 (List.length aA))), (1, (eI a1)), (2, (eI b2)), (6, (eI i6)), (7, (eI j7))] ∧ aJ ⟨H0, [lo0p], []⟩ H [(lo0p, 1, List.map (eI) aA)] ∧ List.length aA = N0 ∧ iM aA a1 b2 i6 j7 = some out1) ?_ ⟨aA, i6, .eq (by kernel_rfl), hO, hN, h1⟩
    clear hO hN h1
    rintro T H ⟨aA, j7, hT, hO, hN, h1⟩
    refine bA hT ?_
    clear hT
    unfold iM at h1
    obtain ⟨rr1, hl1, h1⟩ := aX h1
    refine cZ (by kernel_rfl) (fun (s : List Int × Int) T H => Has T [(0, (.msl 1 lo0p 0 (List.length s.1))), (1, (eI a1)), (2, (eI b2)), (6, (eI i6)), (7, (eI s.2))] ∧ aJ ⟨H0, [lo0p], []⟩ H [(lo0p, 1, List.map (eI) s.1)] ∧ List.length s.1 = N0) hl1 ⟨.eq (by kernel_rfl), hO, hN⟩ ?_
    clear hO hN
    rintro k1 s out2 T H ⟨hT, hO, hN⟩ h2 ho1
    obtain ⟨aA, j7⟩ := s
    replace h2 : eK a1 b2 i6 aA j7 = some out2 := h2
    try dsimp only at hT
    refine bA hT ?_
    clear hT
    unfold eK at h2
    refine aN ?_
    refine aN ?_
    obtain ⟨c2, h2⟩ := aV h2
    obtain ⟨c3, h2⟩ := aV h2
    obtain ⟨x4, hx5, h2⟩ := aX h2
    refine fS (fR []) aD 15 ?_
    refine nT (K := fun T H => Has (lift T) [(0, (.msl 1 lo0p 0 (List.length aA))), (1, (eI a1)), (2, (eI b2)), (6, (eI i6)), (7, (eI j7)), (30, (aE ((decide (a1 < j7)) && x4)))] ∧ aJ ⟨H0, [lo0p], []⟩ H [(lo0p, 1, List.map (eI) aA)]) ?_ ?_
    · refine oR 4 ?_
      refine mW (t := 19) (e := decide (a1 < j7)) (by kernel_rfl) (fun hg6 => ?_) (fun hg6 => ?_)
      · refine cF 7 [0 ≤ j7 ∧ j7 < (lN aA)] ⟨(c2 hg6), trivial⟩ ?_
        refine iW 0 lo0p 1 (0 + Int.toNat j7) (eI (gD aA j7)) (eI (gD aA j7)) (List.map (eI) aA) (by kernel_rfl) (by kernel_rfl) (by kernel_rfl) hO (by kernel_rfl) (bW (c2 hg6)) ?_
        refine cF 12 [0 ≤ (wR (j7 - (1 : Int))) ∧ (wR (j7 - (1 : Int))) < (lN aA)] ⟨(c3 hg6), trivial⟩ ?_
        refine iW 0 lo0p 1 (0 + Int.toNat (wR (j7 - (1 : Int)))) (eI (gD aA (wR (j7 - (1 : Int))))) (eI (gD aA (wR (j7 - (1 : Int))))) (List.map (eI) aA) (by kernel_rfl) (by kernel_rfl) (by kernel_rfl) hO (by kernel_rfl) (bW (c3 hg6)) ?_
        refine mX 70 [(eI (gD aA j7)), (eI (gD aA (wR (j7 - (1 : Int)))))] (aE x4) (by kernel_rfl) (by kernel_rfl) (fG (gD aA j7) (gD aA (wR (j7 - (1 : Int)))) _ (jR hx5 hg6)) hO ?_
        intro H hO
        refine jZ ?_
        exact ⟨⟨[(0, (.msl 1 lo0p 0 (List.length aA))), (1, (eI a1)), (2, (eI b2)), (6, (eI i6)), (7, (eI j7)), (30, (aE x4))], by kernel_rfl, rfl, ⟨aM.refl _, aM.refl _, aM.refl _, aM.refl _, aM.refl _, aM.eq (congrArg aE (kW hg6 rfl).symm), trivial⟩⟩, hO⟩
      refine jZ ?_
      exact ⟨⟨[(0, (.msl 1 lo0p 0 (List.length aA))), (1, (eI a1)), (2, (eI b2)), (6, (eI i6)), (7, (eI j7)), (30, (aE false))], by kernel_rfl, rfl, ⟨aM.refl _, aM.refl _, aM.refl _, aM.refl _, aM.refl _, aM.eq (congrArg aE (kW hg6 rfl).symm), trivial⟩⟩, hO⟩
    · rintro T H ⟨hT, hO⟩
      refine dG hT ?_
      clear hT
      refine aG (aF ?_)
      refine bM h2 (fun h2 => ?_) (fun h2 => ?_)
      · refine bL ?_
        refine bG [(0, (.msl 1 lo0p 0 (List.length aA))), (1, (eI a1)), (2, (eI b2)), (6, (eI i6)), (7, (eI j7))] ?_
        refine aN ?_
        refine cE 3 ?_
        refine fS (fR []) aD 18 ?_
        obtain ⟨c8, h2⟩ := aV h2
        refine cF 9 [0 ≤ (wR (j7 - (1 : Int))) ∧ (wR (j7 - (1 : Int))) < (lN aA)] ⟨c8, trivial⟩ ?_
        refine gS 0 lo0p 1 (0 + Int.toNat (wR (j7 - (1 : Int)))) (eI (gD aA (wR (j7 - (1 : Int))))) (eI (gD aA (wR (j7 - (1 : Int))))) (List.map (eI) aA) hO (bW c8) ?_
        obtain ⟨c9, h2⟩ := aV h2
        refine cF 13 [0 ≤ j7 ∧ j7 < (lN aA)] ⟨c9, trivial⟩ ?_
        refine gS 0 lo0p 1 (0 + Int.toNat j7) (eI (gD aA j7)) (eI (gD aA j7)) (List.map (eI) aA) hO (bW c9) ?_
        obtain ⟨c10, h2⟩ := aV h2
        refine cF 15 [0 ≤ j7 ∧ j7 < (lN aA)] ⟨c10, trivial⟩ ?_
        refine kI 0 lo0p 1 (0 + Int.toNat j7) (eI (gD aA j7)) (eI (gD aA (wR (j7 - (1 : Int))))) (List.map (eI) aA) [(lo0p, 1, List.map (eI) (List.set aA (Int.toNat j7) (gD aA (wR (j7 - (1 : Int))))))] hO (bW c10) (by simp only [List.set, gM]) ?_
        intro H hO
        replace hN : List.length (List.set aA (Int.toNat j7) (gD aA (wR (j7 - (1 : Int))))) = N0 := by simpa using hN
        obtain ⟨c11, h2⟩ := aV h2
        refine cF 17 [0 ≤ (wR (j7 - (1 : Int))) ∧ (wR (j7 - (1 : Int))) < (lN aA)] ⟨c11, trivial⟩ ?_
        refine kI 0 lo0p 1 (0 + Int.toNat (wR (j7 - (1 : Int)))) (eI (gD (List.set aA (Int.toNat j7) (gD aA (wR (j7 - (1 : Int))))) (wR (j7 - (1 : Int))))) (eI (gD aA j7)) (List.map (eI) (List.set aA (Int.toNat j7) (gD aA (wR (j7 - (1 : Int)))))) [(lo0p, 1, List.map (eI) (List.set (List.set aA (Int.toNat j7) (gD aA (wR (j7 - (1 : Int))))) (Int.toNat (wR (j7 - (1 : Int)))) (gD aA j7)))] hO (lO c11 (by simp [])) (by simp only [List.set, gM]) ?_
        intro H hO
        replace hN : List.length (List.set (List.set aA (Int.toNat j7) (gD aA (wR (j7 - (1 : Int))))) (Int.toNat (wR (j7 - (1 : Int)))) (gD aA j7)) = N0 := by simpa using hN
        refine mQ (by kernel_rfl) ?_
        refine dG (l := [(0, (.msl 1 lo0p 0 (List.length (List.set (List.set aA (Int.toNat j7) (gD aA (wR (j7 - (1 : Int))))) (Int.toNat (wR (j7 - (1 : Int)))) (gD aA j7))))), (1, (eI a1)), (2, (eI b2)), (6, (eI i6)), (7, (eI j7))]) ⟨[(0, (.msl 1 lo0p 0 (List.length aA))), (1, (eI a1)), (2, (eI b2)), (6, (eI i6)), (7, (eI j7))], by kernel_rfl, rfl, ⟨aM.eq (by simp []), aM.refl _, aM.refl _, aM.refl _, aM.refl _, trivial⟩⟩ ?_
        refine aG (aW (aF (?_)))
        refine aU aD 3 ?_
        refine bE ?_
        exact aG (aF (⟨rfl, _, (oI h2).symm, .eq (by kernel_rfl), hO, hN⟩))
      refine gC 2 ?_
      obtain rfl := oI h2
      obtain rfl : _ = rr1 := ho1
      replace h1 : fO aA a1 b2 i6 = some out1 := h1
      exact aG (aT (aT (bS (aW (aF (⟨rfl, _, .eq (by kernel_rfl), hO, hN, h1⟩))))))
  refine gC 0 ?_
  obtain rfl := oI h1
  obtain rfl : _ = rr0 := ho0
  replace h0 : some aA = some r := h0
  obtain rfl := oI h0
  exact aG (aT (aT (bS (xN (x := (.tup [])) (by kernel_rfl) (aM.refl _) ⟨rfl, hO.ext, hO.at 0 (by kernel_rfl), by first | rfl | (simp only [List.length_map]; exact hN.trans hN0)⟩))))

theorem oT (lo0p : Nat) (aA : (List Int)) (lo1 : Int) (hi2 : Int) (bC : Int) (r : List Int) (h0 : eU aA lo1 hi2 bC = some r) : lW Try.prog 105 lo0p 1 (List.map (eI) aA) (List.map (eI) r) [(.msl 1 lo0p 0 (List.length aA)), (eI lo1), (eI hi2), (eI bC)] (.tup []) := by
  intro H0 hl0
  refine dR Try.func105 ?_
  have hO := aJ.rK hl0
  clear hl0
  obtain ⟨N0, hN0⟩ : ∃ n, n = List.length aA := ⟨_, rfl⟩
  have hN : List.length aA = N0 := hN0.symm
  unfold eU at h0
  refine aS aD 2 [1] [(8, (eI lo1))] ?_
  refine cE 0 ?_
  refine fT [(0, (.msl 1 lo0p 0 (List.length aA))), (2, (eI hi2)), (3, (eI bC)), (8, (eI lo1))] ?_
  refine eO (fun T H => ∃ aA : List Int, ∃ bZ : Int, Has T [(0, (.msl 1 lo0p 0 (List.length aA))), (2, (eI hi2)), (3, (eI bC)), (8, (eI bZ))] ∧ aJ ⟨H0, [lo0p], []⟩ H [(lo0p, 1, List.map (eI) aA)] ∧ List.length aA = N0 ∧ jV aA hi2 bC bZ = some r) ?_ ⟨aA, lo1, .eq (by kernel_rfl), hO, hN, h0⟩
  clear hO hN h0
  rintro T H ⟨aA, bZ, hT, hO, hN, h0⟩
  refine bA hT ?_
  clear hT
  unfold jV at h0
  obtain ⟨rr0, hl0, h0⟩ := aX h0
  refine cZ (by kernel_rfl) (fun (s : List Int × Int) T H => Has T [(0, (.msl 1 lo0p 0 (List.length s.1))), (2, (eI hi2)), (3, (eI bC)), (8, (eI s.2))] ∧ aJ ⟨H0, [lo0p], []⟩ H [(lo0p, 1, List.map (eI) s.1)] ∧ List.length s.1 = N0) hl0 ⟨.eq (by kernel_rfl), hO, hN⟩ ?_
  clear hO hN
  rintro k0 s out1 T H ⟨hT, hO, hN⟩ h1 ho0
  obtain ⟨aA, bZ⟩ := s
  replace h1 : cV hi2 bC aA bZ = some out1 := h1
  try dsimp only at hT
  refine bA hT ?_
  clear hT
  unfold cV at h1
  refine cE 1 ?_
  refine aS aD 4 [] [(9, (eI (wR ((wR ((2 : Int) * bZ)) + (1 : Int)))))] ?_
  refine aN ?_
  refine aS aD 3 [] [(16, (aE (decide (hi2 ≤ (wR ((wR ((2 : Int) * bZ)) + (1 : Int)))))))] ?_
  refine bM h1 (fun h1 => ?_) (fun h1 => ?_)
  · refine gC 0 ?_
    obtain rfl := oI h1
    obtain rfl : _ = rr0 := ho0
    replace h0 : some aA = some r := h0
    obtain rfl := oI h0
    exact aG (aT (qC (by kernel_rfl) (aT (bS (xN (x := (.tup [])) (by kernel_rfl) (aM.refl _) ⟨rfl, hO.ext, hO.at 0 (by kernel_rfl), by first | rfl | (simp only [List.length_map]; exact hN.trans hN0)⟩)))))
  refine bL ?_
  refine bG [(0, (.msl 1 lo0p 0 (List.length aA))), (2, (eI hi2)), (3, (eI bC)), (8, (eI bZ)), (9, (eI (wR ((wR ((2 : Int) * bZ)) + (1 : Int)))))] ?_
  refine eT (fun T H => ∃ aA : List Int, ∃ dO : Int, Has T [(0, (.msl 1 lo0p 0 (List.length aA))), (2, (eI hi2)), (3, (eI bC)), (8, (eI bZ)), (9, (eI dO))] ∧ aJ ⟨H0, [lo0p], []⟩ H [(lo0p, 1, List.map (eI) aA)] ∧ List.length aA = N0 ∧ fP aA hi2 bC bZ dO = some out1) ?_ ?_
  · clear hO hN h1
    rintro T H ⟨aA, dO, hT, hO, hN, h1⟩
    refine bA hT ?_
    clear hT
    unfold fP at h1
    refine aN ?_
    refine aN ?_
    refine fS (fR [51]) aD 14 ?_
    obtain ⟨c2, h1⟩ := aV h1
    refine cF 5 [0 ≤ (wR (bC + bZ)) ∧ (wR (bC + bZ)) < (lN aA)] ⟨c2, trivial⟩ ?_
    refine gS 0 lo0p 1 (0 + Int.toNat (wR (bC + bZ))) (eI (gD aA (wR (bC + bZ)))) (eI (gD aA (wR (bC + bZ)))) (List.map (eI) aA) hO (bW c2) ?_
    obtain ⟨c3, h1⟩ := aV h1
    refine cF 11 [0 ≤ (wR (bC + dO)) ∧ (wR (bC + dO)) < (lN aA)] ⟨c3, trivial⟩ ?_
    refine gS 0 lo0p 1 (0 + Int.toNat (wR (bC + dO))) (eI (gD aA (wR (bC + dO)))) (eI (gD aA (wR (bC + dO)))) (List.map (eI) aA) hO (bW c3) ?_
    obtain ⟨x4, hx5, h1⟩ := aX h1
    refine DD (fG (gD aA (wR (bC + bZ))) (gD aA (wR (bC + dO))) _ hx5) hO ?_
    intro H hO
    refine jZ ?_
    refine bY [] [(52, (aE (!x4)))] ?_
    refine bM h1 (fun h1 => ?_) (fun h1 => ?_)
    · refine bN ?_
      obtain rfl := oI h1
      obtain rfl : _ = rr0 := ho0
      replace h0 : some aA = some r := h0
      obtain rfl := oI h0
      exact aG (aQ (bO (aQ (bO (lU (x := (.tup [])) (by kernel_rfl) (aM.refl _) ⟨rfl, hO.ext, hO.at 0 (by kernel_rfl), by first | rfl | (simp only [List.length_map]; exact hN.trans hN0)⟩)))))
    refine bL ?_
    refine bG [(0, (.msl 1 lo0p 0 (List.length aA))), (2, (eI hi2)), (3, (eI bC)), (8, (eI bZ)), (9, (eI dO))] ?_
    refine aN ?_
    refine fS (fR []) aD 24 ?_
    obtain ⟨c8, h1⟩ := aV h1
    refine cF 13 [0 ≤ (wR (bC + dO)) ∧ (wR (bC + dO)) < (lN aA)] ⟨c8, trivial⟩ ?_
    refine gS 0 lo0p 1 (0 + Int.toNat (wR (bC + dO))) (eI (gD aA (wR (bC + dO)))) (eI (gD aA (wR (bC + dO)))) (List.map (eI) aA) hO (bW c8) ?_
    obtain ⟨c9, h1⟩ := aV h1
    refine cF 19 [0 ≤ (wR (bC + bZ)) ∧ (wR (bC + bZ)) < (lN aA)] ⟨c9, trivial⟩ ?_
    refine gS 0 lo0p 1 (0 + Int.toNat (wR (bC + bZ))) (eI (gD aA (wR (bC + bZ)))) (eI (gD aA (wR (bC + bZ)))) (List.map (eI) aA) hO (bW c9) ?_
    obtain ⟨c10, h1⟩ := aV h1
    refine cF 21 [0 ≤ (wR (bC + bZ)) ∧ (wR (bC + bZ)) < (lN aA)] ⟨c10, trivial⟩ ?_
    refine kI 0 lo0p 1 (0 + Int.toNat (wR (bC + bZ))) (eI (gD aA (wR (bC + bZ)))) (eI (gD aA (wR (bC + dO)))) (List.map (eI) aA) [(lo0p, 1, List.map (eI) (List.set aA (Int.toNat (wR (bC + bZ))) (gD aA (wR (bC + dO)))))] hO (bW c10) (by simp only [List.set, gM]) ?_
    intro H hO
    replace hN : List.length (List.set aA (Int.toNat (wR (bC + bZ))) (gD aA (wR (bC + dO)))) = N0 := by simpa using hN
    obtain ⟨c11, h1⟩ := aV h1
    refine cF 23 [0 ≤ (wR (bC + dO)) ∧ (wR (bC + dO)) < (lN aA)] ⟨c11, trivial⟩ ?_
    refine kI 0 lo0p 1 (0 + Int.toNat (wR (bC + dO))) (eI (gD (List.set aA (Int.toNat (wR (bC + bZ))) (gD aA (wR (bC + dO)))) (wR (bC + dO)))) (eI (gD aA (wR (bC + bZ)))) (List.map (eI) (List.set aA (Int.toNat (wR (bC + bZ))) (gD aA (wR (bC + dO))))) [(lo0p, 1, List.map (eI) (List.set (List.set aA (Int.toNat (wR (bC + bZ))) (gD aA (wR (bC + dO)))) (Int.toNat (wR (bC + dO))) (gD aA (wR (bC + bZ)))))] hO (lO c11 (by simp [])) (by simp only [List.set, gM]) ?_
    intro H hO
    replace hN : List.length (List.set (List.set aA (Int.toNat (wR (bC + bZ))) (gD aA (wR (bC + dO)))) (Int.toNat (wR (bC + dO))) (gD aA (wR (bC + bZ)))) = N0 := by simpa using hN
    refine mQ (by kernel_rfl) ?_
    refine dG (l := [(0, (.msl 1 lo0p 0 (List.length (List.set (List.set aA (Int.toNat (wR (bC + bZ))) (gD aA (wR (bC + dO)))) (Int.toNat (wR (bC + dO))) (gD aA (wR (bC + bZ))))))), (2, (eI hi2)), (3, (eI bC)), (9, (eI dO))]) ⟨[(0, (.msl 1 lo0p 0 (List.length aA))), (2, (eI hi2)), (3, (eI bC)), (9, (eI dO))], by kernel_rfl, rfl, ⟨aM.eq (by simp []), aM.refl _, aM.refl _, aM.refl _, trivial⟩⟩ ?_
    refine aG (aF (?_))
    refine aU aD 2 ?_
    refine bE ?_
    exact aG (aW (aF (⟨rfl, _, (oI h1).symm, .eq (by kernel_rfl), hO, hN⟩)))
  refine aN ?_
  obtain ⟨c12, h1⟩ := aV h1
  obtain ⟨c13, h1⟩ := aV h1
  obtain ⟨x14, hx15, h1⟩ := aX h1
  refine fS (fR []) aD 20 ?_
  refine nT (K := fun T H => Has (lift T) [(0, (.msl 1 lo0p 0 (List.length aA))), (2, (eI hi2)), (3, (eI bC)), (8, (eI bZ)), (9, (eI (wR ((wR ((2 : Int) * bZ)) + (1 : Int))))), (36, (aE ((decide ((wR ((wR ((wR ((2 : Int) * bZ)) + (1 : Int))) + (1 : Int))) < hi2)) && x14)))] ∧ aJ ⟨H0, [lo0p], []⟩ H [(lo0p, 1, List.map (eI) aA)]) ?_ ?_
  · refine oR 5 ?_
    refine mW (t := 21) (e := decide ((wR ((wR ((wR ((2 : Int) * bZ)) + (1 : Int))) + (1 : Int))) < hi2)) (by kernel_rfl) (fun hg16 => ?_) (fun hg16 => ?_)
    · refine cF 10 [0 ≤ (wR (bC + (wR ((wR ((2 : Int) * bZ)) + (1 : Int))))) ∧ (wR (bC + (wR ((wR ((2 : Int) * bZ)) + (1 : Int))))) < (lN aA)] ⟨(c12 hg16), trivial⟩ ?_
      refine iW 0 lo0p 1 (0 + Int.toNat (wR (bC + (wR ((wR ((2 : Int) * bZ)) + (1 : Int)))))) (eI (gD aA (wR (bC + (wR ((wR ((2 : Int) * bZ)) + (1 : Int))))))) (eI (gD aA (wR (bC + (wR ((wR ((2 : Int) * bZ)) + (1 : Int))))))) (List.map (eI) aA) (by kernel_rfl) (by kernel_rfl) (by kernel_rfl) hO (by kernel_rfl) (bW (c12 hg16)) ?_
      refine cF 17 [0 ≤ (wR ((wR (bC + (wR ((wR ((2 : Int) * bZ)) + (1 : Int))))) + (1 : Int))) ∧ (wR ((wR (bC + (wR ((wR ((2 : Int) * bZ)) + (1 : Int))))) + (1 : Int))) < (lN aA)] ⟨(c13 hg16), trivial⟩ ?_
      refine iW 0 lo0p 1 (0 + Int.toNat (wR ((wR (bC + (wR ((wR ((2 : Int) * bZ)) + (1 : Int))))) + (1 : Int)))) (eI (gD aA (wR ((wR (bC + (wR ((wR ((2 : Int) * bZ)) + (1 : Int))))) + (1 : Int))))) (eI (gD aA (wR ((wR (bC + (wR ((wR ((2 : Int) * bZ)) + (1 : Int))))) + (1 : Int))))) (List.map (eI) aA) (by kernel_rfl) (by kernel_rfl) (by kernel_rfl) hO (by kernel_rfl) (bW (c13 hg16)) ?_
      refine mX 70 [(eI (gD aA (wR (bC + (wR ((wR ((2 : Int) * bZ)) + (1 : Int))))))), (eI (gD aA (wR ((wR (bC + (wR ((wR ((2 : Int) * bZ)) + (1 : Int))))) + (1 : Int)))))] (aE x14) (by kernel_rfl) (by kernel_rfl) (fG (gD aA (wR (bC + (wR ((wR ((2 : Int) * bZ)) + (1 : Int)))))) (gD aA (wR ((wR (bC + (wR ((wR ((2 : Int) * bZ)) + (1 : Int))))) + (1 : Int)))) _ (jR hx15 hg16)) hO ?_
      intro H hO
      refine jZ ?_
      exact ⟨⟨[(0, (.msl 1 lo0p 0 (List.length aA))), (2, (eI hi2)), (3, (eI bC)), (8, (eI bZ)), (9, (eI (wR ((wR ((2 : Int) * bZ)) + (1 : Int))))), (36, (aE x14))], by kernel_rfl, rfl, ⟨aM.refl _, aM.refl _, aM.refl _, aM.refl _, aM.refl _, aM.eq (congrArg aE (kW hg16 rfl).symm), trivial⟩⟩, hO⟩
    refine jZ ?_
    exact ⟨⟨[(0, (.msl 1 lo0p 0 (List.length aA))), (2, (eI hi2)), (3, (eI bC)), (8, (eI bZ)), (9, (eI (wR ((wR ((2 : Int) * bZ)) + (1 : Int))))), (36, (aE false))], by kernel_rfl, rfl, ⟨aM.refl _, aM.refl _, aM.refl _, aM.refl _, aM.refl _, aM.eq (congrArg aE (kW hg16 rfl).symm), trivial⟩⟩, hO⟩
  · rintro T H ⟨hT, hO⟩
    refine dG hT ?_
    clear hT
    refine aG (aF ?_)
    refine bM h1 (fun h1 => ?_) (fun h1 => ?_)
    · refine aU aD 3 ?_
      refine bE ?_
      exact aG (aF (⟨rfl, _, _, .eq (by kernel_rfl), hO, hN, h1⟩))
    refine bL ?_
    exact aG (aF (⟨rfl, _, _, .eq (by kernel_rfl), hO, hN, h1⟩))

theorem uV (lo0p : Nat) (aA : (List Int)) (a1 : Int) (b2 : Int) (r : List Int) (h0 : iO aA a1 b2 = some r) : lW Try.prog 80 lo0p 1 (List.map (eI) aA) (List.map (eI) r) [(.msl 1 lo0p 0 (List.length aA)), (eI a1), (eI b2)] (.tup []) := by
  intro H0 hl0
  refine dR Try.func80 ?_
  have hO := aJ.rK hl0
  clear hl0
  obtain ⟨N0, hN0⟩ : ∃ n, n = List.length aA := ⟨_, rfl⟩
  have hN : List.length aA = N0 := hN0.symm
  unfold iO at h0
  refine aS aD 2 [] [(6, (eI a1))] ?_
  refine aS aD 1 [] [(7, (eI (0 : Int)))] ?_
  refine aS aD 4 [1, 2] [(8, (eI (wR (b2 - a1))))] ?_
  refine eT (fun T H => ∃ aA : List Int, ∃ bK : Int, ∃ lo7 : Int, ∃ hi8 : Int, Has T [(0, (.msl 1 lo0p 0 (List.length aA))), (6, (eI bK)), (7, (eI lo7)), (8, (eI hi8))] ∧ aJ ⟨H0, [lo0p], []⟩ H [(lo0p, 1, List.map (eI) aA)] ∧ List.length aA = N0 ∧ iH aA bK lo7 hi8 = some r) ?_ ?_
  · clear hO hN h0
    rintro T H ⟨aA, bK, lo7, hi8, hT, hO, hN, h0⟩
    refine bA hT ?_
    clear hT
    unfold iH at h0
    refine aS aD 3 [8] [(10, (eI (wR (hi8 - (1 : Int)))))] ?_
    refine cE 2 ?_
    refine fT [(0, (.msl 1 lo0p 0 (List.length aA))), (6, (eI bK)), (7, (eI lo7)), (10, (eI (wR (hi8 - (1 : Int)))))] ?_
    refine eO (fun T H => ∃ aA : List Int, ∃ i10 : Int, Has T [(0, (.msl 1 lo0p 0 (List.length aA))), (6, (eI bK)), (7, (eI lo7)), (10, (eI i10))] ∧ aJ ⟨H0, [lo0p], []⟩ H [(lo0p, 1, List.map (eI) aA)] ∧ List.length aA = N0 ∧ jU aA bK lo7 i10 = some r) ?_ ⟨aA, wR (hi8 - (1 : Int)), .eq (by kernel_rfl), hO, hN, h0⟩
    clear hO hN h0
    rintro T H ⟨aA, i10, hT, hO, hN, h0⟩
    refine bA hT ?_
    clear hT
    unfold jU at h0
    obtain ⟨rr0, hl0, h0⟩ := aX h0
    refine cZ (by kernel_rfl) (fun (s : List Int × Int) T H => Has T [(0, (.msl 1 lo0p 0 (List.length s.1))), (6, (eI bK)), (7, (eI lo7)), (10, (eI s.2))] ∧ aJ ⟨H0, [lo0p], []⟩ H [(lo0p, 1, List.map (eI) s.1)] ∧ List.length s.1 = N0) hl0 ⟨.eq (by kernel_rfl), hO, hN⟩ ?_
    clear hO hN
    rintro k0 s out1 T H ⟨hT, hO, hN⟩ h1 ho0
    obtain ⟨aA, i10⟩ := s
    replace h1 : dP bK lo7 aA i10 = some out1 := h1
    try dsimp only at hT
    refine bA hT ?_
    clear hT
    unfold dP at h1
    refine aN ?_
    refine aS aD 2 [] [(30, (aE (decide ((0 : Int) ≤ i10))))] ?_
    refine bM h1 (fun h1 => ?_) (fun h1 => ?_)
    · refine bL ?_
      refine bG [(0, (.msl 1 lo0p 0 (List.length aA))), (6, (eI bK)), (7, (eI lo7)), (10, (eI i10))] ?_
      refine aN ?_
      refine cE 3 ?_
      refine aN ?_
      refine fS (fR []) aD 20 ?_
      obtain ⟨c2, h1⟩ := aV h1
      refine cF 11 [0 ≤ (wR (bK + i10)) ∧ (wR (bK + i10)) < (lN aA)] ⟨c2, trivial⟩ ?_
      refine gS 0 lo0p 1 (0 + Int.toNat (wR (bK + i10))) (eI (gD aA (wR (bK + i10)))) (eI (gD aA (wR (bK + i10)))) (List.map (eI) aA) hO (bW c2) ?_
      obtain ⟨c3, h1⟩ := aV h1
      refine cF 15 [0 ≤ bK ∧ bK < (lN aA)] ⟨c3, trivial⟩ ?_
      refine gS 0 lo0p 1 (0 + Int.toNat bK) (eI (gD aA bK)) (eI (gD aA bK)) (List.map (eI) aA) hO (bW c3) ?_
      obtain ⟨c4, h1⟩ := aV h1
      refine cF 17 [0 ≤ bK ∧ bK < (lN aA)] ⟨c4, trivial⟩ ?_
      refine kI 0 lo0p 1 (0 + Int.toNat bK) (eI (gD aA bK)) (eI (gD aA (wR (bK + i10)))) (List.map (eI) aA) [(lo0p, 1, List.map (eI) (List.set aA (Int.toNat bK) (gD aA (wR (bK + i10)))))] hO (bW c4) (by simp only [List.set, gM]) ?_
      intro H hO
      replace hN : List.length (List.set aA (Int.toNat bK) (gD aA (wR (bK + i10)))) = N0 := by simpa using hN
      obtain ⟨c5, h1⟩ := aV h1
      refine cF 19 [0 ≤ (wR (bK + i10)) ∧ (wR (bK + i10)) < (lN aA)] ⟨c5, trivial⟩ ?_
      refine kI 0 lo0p 1 (0 + Int.toNat (wR (bK + i10))) (eI (gD (List.set aA (Int.toNat bK) (gD aA (wR (bK + i10)))) (wR (bK + i10)))) (eI (gD aA bK)) (List.map (eI) (List.set aA (Int.toNat bK) (gD aA (wR (bK + i10))))) [(lo0p, 1, List.map (eI) (List.set (List.set aA (Int.toNat bK) (gD aA (wR (bK + i10)))) (Int.toNat (wR (bK + i10))) (gD aA bK)))] hO (lO c5 (by simp [])) (by simp only [List.set, gM]) ?_
      intro H hO
      replace hN : List.length (List.set (List.set aA (Int.toNat bK) (gD aA (wR (bK + i10)))) (Int.toNat (wR (bK + i10))) (gD aA bK)) = N0 := by simpa using hN
      refine mQ (by kernel_rfl) ?_
      refine dG (l := [(0, (.msl 1 lo0p 0 (List.length (List.set (List.set aA (Int.toNat bK) (gD aA (wR (bK + i10)))) (Int.toNat (wR (bK + i10))) (gD aA bK))))), (6, (eI bK)), (7, (eI lo7)), (10, (eI i10))]) ⟨[(0, (.msl 1 lo0p 0 (List.length aA))), (6, (eI bK)), (7, (eI lo7)), (10, (eI i10))], by kernel_rfl, rfl, ⟨aM.eq (by simp []), aM.refl _, aM.refl _, aM.refl _, trivial⟩⟩ ?_
      refine aG (aF (?_))
      refine aU aD 5 ?_
      refine bX 4 ?_
      obtain ⟨x6, hx7, h1⟩ := aX h1
      refine uX [(lo0p, 1, List.map (eI) x6)] 0 (oT lo0p (List.set (List.set aA (Int.toNat bK) (gD aA (wR (bK + i10)))) (Int.toNat (wR (bK + i10))) (gD aA bK)) lo7 i10 bK _ hx7) hO ?_
      intro H hO hl8
      simp only [List.length_map] at hl8
      replace hN := hl8.trans hN
      refine iP ?_
      refine dG (l := [(0, (.msl 1 lo0p 0 (List.length x6))), (6, (eI bK)), (7, (eI lo7)), (10, (eI i10))]) ⟨[(0, (.msl 1 lo0p 0 (List.length (List.set (List.set aA (Int.toNat bK) (gD aA (wR (bK + i10)))) (Int.toNat (wR (bK + i10))) (gD aA bK))))), (6, (eI bK)), (7, (eI lo7)), (10, (eI i10))], by kernel_rfl, rfl, ⟨aM.eq (by simp [hl8]), aM.refl _, aM.refl _, aM.refl _, trivial⟩⟩ ?_
      refine aG (aW (aF (?_)))
      refine aU aD 3 ?_
      refine bE ?_
      exact aG (aF (⟨rfl, _, (oI h1).symm, .eq (by kernel_rfl), hO, hN⟩))
    refine gC 2 ?_
    obtain rfl := oI h1
    obtain rfl : _ = rr0 := ho0
    replace h0 : some aA = some r := h0
    obtain rfl := oI h0
    exact aG (aT (aT (bS (xN (x := (.tup [])) (by kernel_rfl) (aM.refl _) ⟨rfl, hO.ext, hO.at 0 (by kernel_rfl), by first | rfl | (simp only [List.length_map]; exact hN.trans hN0)⟩))))
  refine aN ?_
  refine aU aD 4 ?_
  obtain ⟨c9, h0⟩ := aV h0
  refine nL [(2 : Int) ≠ 0] ⟨c9, trivial⟩ ?_
  refine bY [] [(9, (eI (wR (Int.tdiv (wR ((wR (b2 - a1)) - (1 : Int))) (2 : Int)))))] ?_
  refine cE 0 ?_
  refine fT [(0, (.msl 1 lo0p 0 (List.length aA))), (6, (eI a1)), (7, (eI (0 : Int))), (8, (eI (wR (b2 - a1)))), (9, (eI (wR (Int.tdiv (wR ((wR (b2 - a1)) - (1 : Int))) (2 : Int)))))] ?_
  refine eO (fun T H => ∃ aA : List Int, ∃ bK : Int, ∃ lo7 : Int, ∃ hi8 : Int, ∃ i9 : Int, Has T [(0, (.msl 1 lo0p 0 (List.length aA))), (6, (eI bK)), (7, (eI lo7)), (8, (eI hi8)), (9, (eI i9))] ∧ aJ ⟨H0, [lo0p], []⟩ H [(lo0p, 1, List.map (eI) aA)] ∧ List.length aA = N0 ∧ jW aA bK lo7 hi8 i9 = some r) ?_ ⟨aA, a1, (0 : Int), wR (b2 - a1), wR (Int.tdiv (wR ((wR (b2 - a1)) - (1 : Int))) (2 : Int)), .eq (by kernel_rfl), hO, hN, h0⟩
  clear hO hN h0
  rintro T H ⟨aA, bK, lo7, hi8, i9, hT, hO, hN, h0⟩
  refine bA hT ?_
  clear hT
  unfold jW at h0
  obtain ⟨rr0, hl0, h0⟩ := aX h0
  refine cZ (by kernel_rfl) (fun (s : List Int × Int) T H => Has T [(0, (.msl 1 lo0p 0 (List.length s.1))), (6, (eI bK)), (7, (eI lo7)), (8, (eI hi8)), (9, (eI s.2))] ∧ aJ ⟨H0, [lo0p], []⟩ H [(lo0p, 1, List.map (eI) s.1)] ∧ List.length s.1 = N0) hl0 ⟨.eq (by kernel_rfl), hO, hN⟩ ?_
  clear hO hN
  rintro k0 s out1 T H ⟨hT, hO, hN⟩ h1 ho0
  obtain ⟨aA, i9⟩ := s
  replace h1 : dQ bK lo7 hi8 aA i9 = some out1 := h1
  try dsimp only at hT
  refine bA hT ?_
  clear hT
  unfold dQ at h1
  refine aN ?_
  refine aS aD 2 [] [(19, (aE (decide ((0 : Int) ≤ i9))))] ?_
  refine bM h1 (fun h1 => ?_) (fun h1 => ?_)
  · refine bL ?_
    refine bG [(0, (.msl 1 lo0p 0 (List.length aA))), (6, (eI bK)), (7, (eI lo7)), (8, (eI hi8)), (9, (eI i9))] ?_
    refine aN ?_
    refine cE 1 ?_
    refine aU aD 5 ?_
    refine bX 4 ?_
    obtain ⟨x11, hx12, h1⟩ := aX h1
    refine uX [(lo0p, 1, List.map (eI) x11)] 0 (oT lo0p aA i9 hi8 bK _ hx12) hO ?_
    intro H hO hl13
    simp only [List.length_map] at hl13
    replace hN := hl13.trans hN
    refine iP ?_
    refine dG (l := [(0, (.msl 1 lo0p 0 (List.length x11))), (6, (eI bK)), (7, (eI lo7)), (8, (eI hi8)), (9, (eI i9))]) ⟨[(0, (.msl 1 lo0p 0 (List.length aA))), (6, (eI bK)), (7, (eI lo7)), (8, (eI hi8)), (9, (eI i9))], by kernel_rfl, rfl, ⟨aM.eq (by simp [hl13]), aM.refl _, aM.refl _, aM.refl _, aM.refl _, trivial⟩⟩ ?_
    refine aG (aW (aF (?_)))
    refine aU aD 3 ?_
    refine bE ?_
    exact aG (aF (⟨rfl, _, (oI h1).symm, .eq (by kernel_rfl), hO, hN⟩))
  refine gC 0 ?_
  obtain rfl := oI h1
  obtain rfl : _ = rr0 := ho0
  replace h0 : iH aA bK lo7 hi8 = some r := h0
  exact aG (aT (aT (bS (aF (⟨rfl, _, _, _, _, .eq (by kernel_rfl), hO, hN, h0⟩)))))

theorem xD (yO : Int) (r : Int) (h0 : kG yO = some r) : eB Try.prog 106 [(eI yO)] (cQ .u64 r) := by
  intro H0
  refine dR Try.func106 ?_
  have hO := aJ.start H0
  unfold kG at h0
  refine aS aD 1 [] [] ?_
  refine aN ?_
  refine aU aD 5 ?_
  refine bX 2 ?_
  obtain ⟨x1, hx2, h0⟩ := aX h0
  refine fC (xG (IntKind.u64.wrap yO) _ hx2) hO ?_
  intro H hO
  obtain ⟨c4, h0⟩ := aV h0
  refine nL [0 ≤ x1] ⟨c4, trivial⟩ ?_
  refine bG [(2, (cQ .u64 (IntKind.u64.wrap ((1 : Int) * 2 ^ (min (Int.toNat x1) 64)))))] ?_
  refine bN ?_
  obtain rfl := oI h0
  exact aG (Q_r hO)

theorem yC (lo0p : Nat) (r0 : Int) (r : (Int × Int)) (h0 : kN r0 = some r) : wF Try.prog 107 [(.lp lo0p 0 0)] [(lo0p, 1, [(cQ .u64 r0)])] (fun x L => x = (cQ .u64 r.1) ∧ L = [(lo0p, 1, [(cQ .u64 r.2)])]) := by
  intro F H0 hO
  obtain ⟨Fh, Fe, Fg⟩ := F
  refine dR Try.func107 ?_
  unfold kN at h0
  refine aS aD 1 [] [] ?_
  refine aN ?_
  refine fS (fR []) aD 10 ?_
  refine oR 2 ?_
  refine gS 0 lo0p 1 0 (cQ .u64 r0) (cQ .u64 r0) [(cQ .u64 r0)] hO rfl ?_
  refine oR 5 ?_
  refine gS 0 lo0p 1 0 (cQ .u64 r0) (cQ .u64 r0) [(cQ .u64 r0)] hO rfl ?_
  obtain ⟨c1, h0⟩ := aV h0
  refine cF 9 [0 ≤ (13 : Int)] ⟨c1, trivial⟩ ?_
  refine kI 0 lo0p 1 0 (cQ .u64 r0) (cQ .u64 (bJ .xor .u64 r0 (IntKind.u64.wrap (r0 * 2 ^ (min (Int.toNat (13 : Int)) 64))))) [(cQ .u64 r0)] [(lo0p, 1, [(cQ .u64 (bJ .xor .u64 r0 (IntKind.u64.wrap (r0 * 2 ^ (min (Int.toNat (13 : Int)) 64)))))])] hO rfl (by kernel_rfl) ?_
  intro H hO
  refine mQ (by kernel_rfl) ?_
  refine bY [] [] ?_
  refine aN ?_
  refine fS (fR []) aD 10 ?_
  refine oR 2 ?_
  refine gS 0 lo0p 1 0 (cQ .u64 (bJ .xor .u64 r0 (IntKind.u64.wrap (r0 * 2 ^ (min (Int.toNat (13 : Int)) 64))))) (cQ .u64 (bJ .xor .u64 r0 (IntKind.u64.wrap (r0 * 2 ^ (min (Int.toNat (13 : Int)) 64))))) [(cQ .u64 (bJ .xor .u64 r0 (IntKind.u64.wrap (r0 * 2 ^ (min (Int.toNat (13 : Int)) 64)))))] hO rfl ?_
  refine oR 5 ?_
  refine gS 0 lo0p 1 0 (cQ .u64 (bJ .xor .u64 r0 (IntKind.u64.wrap (r0 * 2 ^ (min (Int.toNat (13 : Int)) 64))))) (cQ .u64 (bJ .xor .u64 r0 (IntKind.u64.wrap (r0 * 2 ^ (min (Int.toNat (13 : Int)) 64))))) [(cQ .u64 (bJ .xor .u64 r0 (IntKind.u64.wrap (r0 * 2 ^ (min (Int.toNat (13 : Int)) 64)))))] hO rfl ?_
  obtain ⟨c2, h0⟩ := aV h0
  refine cF 9 [0 ≤ (7 : Int)] ⟨c2, trivial⟩ ?_
  refine kI 0 lo0p 1 0 (cQ .u64 (bJ .xor .u64 r0 (IntKind.u64.wrap (r0 * 2 ^ (min (Int.toNat (13 : Int)) 64))))) (cQ .u64 (bJ .xor .u64 (bJ .xor .u64 r0 (IntKind.u64.wrap (r0 * 2 ^ (min (Int.toNat (13 : Int)) 64)))) (Int.fdiv (bJ .xor .u64 r0 (IntKind.u64.wrap (r0 * 2 ^ (min (Int.toNat (13 : Int)) 64)))) (2 ^ (min (Int.toNat (7 : Int)) 64))))) [(cQ .u64 (bJ .xor .u64 r0 (IntKind.u64.wrap (r0 * 2 ^ (min (Int.toNat (13 : Int)) 64)))))] [(lo0p, 1, [(cQ .u64 (bJ .xor .u64 (bJ .xor .u64 r0 (IntKind.u64.wrap (r0 * 2 ^ (min (Int.toNat (13 : Int)) 64)))) (Int.fdiv (bJ .xor .u64 r0 (IntKind.u64.wrap (r0 * 2 ^ (min (Int.toNat (13 : Int)) 64)))) (2 ^ (min (Int.toNat (7 : Int)) 64)))))])] hO rfl (by kernel_rfl) ?_
  intro H hO
  refine mQ (by kernel_rfl) ?_
  refine bY [] [] ?_
  refine aN ?_
  refine fS (fR []) aD 10 ?_
  refine oR 2 ?_
  refine gS 0 lo0p 1 0 (cQ .u64 (bJ .xor .u64 (bJ .xor .u64 r0 (IntKind.u64.wrap (r0 * 2 ^ (min (Int.toNat (13 : Int)) 64)))) (Int.fdiv (bJ .xor .u64 r0 (IntKind.u64.wrap (r0 * 2 ^ (min (Int.toNat (13 : Int)) 64)))) (2 ^ (min (Int.toNat (7 : Int)) 64))))) (cQ .u64 (bJ .xor .u64 (bJ .xor .u64 r0 (IntKind.u64.wrap (r0 * 2 ^ (min (Int.toNat (13 : Int)) 64)))) (Int.fdiv (bJ .xor .u64 r0 (IntKind.u64.wrap (r0 * 2 ^ (min (Int.toNat (13 : Int)) 64)))) (2 ^ (min (Int.toNat (7 : Int)) 64))))) [(cQ .u64 (bJ .xor .u64 (bJ .xor .u64 r0 (IntKind.u64.wrap (r0 * 2 ^ (min (Int.toNat (13 : Int)) 64)))) (Int.fdiv (bJ .xor .u64 r0 (IntKind.u64.wrap (r0 * 2 ^ (min (Int.toNat (13 : Int)) 64)))) (2 ^ (min (Int.toNat (7 : Int)) 64)))))] hO rfl ?_
  refine oR 5 ?_
  refine gS 0 lo0p 1 0 (cQ .u64 (bJ .xor .u64 (bJ .xor .u64 r0 (IntKind.u64.wrap (r0 * 2 ^ (min (Int.toNat (13 : Int)) 64)))) (Int.fdiv (bJ .xor .u64 r0 (IntKind.u64.wrap (r0 * 2 ^ (min (Int.toNat (13 : Int)) 64)))) (2 ^ (min (Int.toNat (7 : Int)) 64))))) (cQ .u64 (bJ .xor .u64 (bJ .xor .u64 r0 (IntKind.u64.wrap (r0 * 2 ^ (min (Int.toNat (13 : Int)) 64)))) (Int.fdiv (bJ .xor .u64 r0 (IntKind.u64.wrap (r0 * 2 ^ (min (Int.toNat (13 : Int)) 64)))) (2 ^ (min (Int.toNat (7 : Int)) 64))))) [(cQ .u64 (bJ .xor .u64 (bJ .xor .u64 r0 (IntKind.u64.wrap (r0 * 2 ^ (min (Int.toNat (13 : Int)) 64)))) (Int.fdiv (bJ .xor .u64 r0 (IntKind.u64.wrap (r0 * 2 ^ (min (Int.toNat (13 : Int)) 64)))) (2 ^ (min (Int.toNat (7 : Int)) 64)))))] hO rfl ?_
  obtain ⟨c3, h0⟩ := aV h0
  refine cF 9 [0 ≤ (17 : Int)] ⟨c3, trivial⟩ ?_
  refine kI 0 lo0p 1 0 (cQ .u64 (bJ .xor .u64 (bJ .xor .u64 r0 (IntKind.u64.wrap (r0 * 2 ^ (min (Int.toNat (13 : Int)) 64)))) (Int.fdiv (bJ .xor .u64 r0 (IntKind.u64.wrap (r0 * 2 ^ (min (Int.toNat (13 : Int)) 64)))) (2 ^ (min (Int.toNat (7 : Int)) 64))))) (cQ .u64 (bJ .xor .u64 (bJ .xor .u64 (bJ .xor .u64 r0 (IntKind.u64.wrap (r0 * 2 ^ (min (Int.toNat (13 : Int)) 64)))) (Int.fdiv (bJ .xor .u64 r0 (IntKind.u64.wrap (r0 * 2 ^ (min (Int.toNat (13 : Int)) 64)))) (2 ^ (min (Int.toNat (7 : Int)) 64)))) (IntKind.u64.wrap ((bJ .xor .u64 (bJ .xor .u64 r0 (IntKind.u64.wrap (r0 * 2 ^ (min (Int.toNat (13 : Int)) 64)))) (Int.fdiv (bJ .xor .u64 r0 (IntKind.u64.wrap (r0 * 2 ^ (min (Int.toNat (13 : Int)) 64)))) (2 ^ (min (Int.toNat (7 : Int)) 64)))) * 2 ^ (min (Int.toNat (17 : Int)) 64))))) [(cQ .u64 (bJ .xor .u64 (bJ .xor .u64 r0 (IntKind.u64.wrap (r0 * 2 ^ (min (Int.toNat (13 : Int)) 64)))) (Int.fdiv (bJ .xor .u64 r0 (IntKind.u64.wrap (r0 * 2 ^ (min (Int.toNat (13 : Int)) 64)))) (2 ^ (min (Int.toNat (7 : Int)) 64)))))] [(lo0p, 1, [(cQ .u64 (bJ .xor .u64 (bJ .xor .u64 (bJ .xor .u64 r0 (IntKind.u64.wrap (r0 * 2 ^ (min (Int.toNat (13 : Int)) 64)))) (Int.fdiv (bJ .xor .u64 r0 (IntKind.u64.wrap (r0 * 2 ^ (min (Int.toNat (13 : Int)) 64)))) (2 ^ (min (Int.toNat (7 : Int)) 64)))) (IntKind.u64.wrap ((bJ .xor .u64 (bJ .xor .u64 r0 (IntKind.u64.wrap (r0 * 2 ^ (min (Int.toNat (13 : Int)) 64)))) (Int.fdiv (bJ .xor .u64 r0 (IntKind.u64.wrap (r0 * 2 ^ (min (Int.toNat (13 : Int)) 64)))) (2 ^ (min (Int.toNat (7 : Int)) 64)))) * 2 ^ (min (Int.toNat (17 : Int)) 64)))))])] hO rfl (by kernel_rfl) ?_
  intro H hO
  refine mQ (by kernel_rfl) ?_
  refine bY [] [] ?_
  refine aN ?_
  refine aU aD 4 ?_
  refine bX 2 ?_
  refine uA 0 lo0p 1 0 (cQ .u64 (bJ .xor .u64 (bJ .xor .u64 (bJ .xor .u64 r0 (IntKind.u64.wrap (r0 * 2 ^ (min (Int.toNat (13 : Int)) 64)))) (Int.fdiv (bJ .xor .u64 r0 (IntKind.u64.wrap (r0 * 2 ^ (min (Int.toNat (13 : Int)) 64)))) (2 ^ (min (Int.toNat (7 : Int)) 64)))) (IntKind.u64.wrap ((bJ .xor .u64 (bJ .xor .u64 r0 (IntKind.u64.wrap (r0 * 2 ^ (min (Int.toNat (13 : Int)) 64)))) (Int.fdiv (bJ .xor .u64 r0 (IntKind.u64.wrap (r0 * 2 ^ (min (Int.toNat (13 : Int)) 64)))) (2 ^ (min (Int.toNat (7 : Int)) 64)))) * 2 ^ (min (Int.toNat (17 : Int)) 64))))) (cQ .u64 (bJ .xor .u64 (bJ .xor .u64 (bJ .xor .u64 r0 (IntKind.u64.wrap (r0 * 2 ^ (min (Int.toNat (13 : Int)) 64)))) (Int.fdiv (bJ .xor .u64 r0 (IntKind.u64.wrap (r0 * 2 ^ (min (Int.toNat (13 : Int)) 64)))) (2 ^ (min (Int.toNat (7 : Int)) 64)))) (IntKind.u64.wrap ((bJ .xor .u64 (bJ .xor .u64 r0 (IntKind.u64.wrap (r0 * 2 ^ (min (Int.toNat (13 : Int)) 64)))) (Int.fdiv (bJ .xor .u64 r0 (IntKind.u64.wrap (r0 * 2 ^ (min (Int.toNat (13 : Int)) 64)))) (2 ^ (min (Int.toNat (7 : Int)) 64)))) * 2 ^ (min (Int.toNat (17 : Int)) 64))))) [(cQ .u64 (bJ .xor .u64 (bJ .xor .u64 (bJ .xor .u64 r0 (IntKind.u64.wrap (r0 * 2 ^ (min (Int.toNat (13 : Int)) 64)))) (Int.fdiv (bJ .xor .u64 r0 (IntKind.u64.wrap (r0 * 2 ^ (min (Int.toNat (13 : Int)) 64)))) (2 ^ (min (Int.toNat (7 : Int)) 64)))) (IntKind.u64.wrap ((bJ .xor .u64 (bJ .xor .u64 r0 (IntKind.u64.wrap (r0 * 2 ^ (min (Int.toNat (13 : Int)) 64)))) (Int.fdiv (bJ .xor .u64 r0 (IntKind.u64.wrap (r0 * 2 ^ (min (Int.toNat (13 : Int)) 64)))) (2 ^ (min (Int.toNat (7 : Int)) 64)))) * 2 ^ (min (Int.toNat (17 : Int)) 64)))))] hO rfl ?_
  refine bE ?_
  refine bG [(0, (.lp lo0p 0 0)), (2, (cQ .u64 (bJ .xor .u64 (bJ .xor .u64 (bJ .xor .u64 r0 (IntKind.u64.wrap (r0 * 2 ^ (min (Int.toNat (13 : Int)) 64)))) (Int.fdiv (bJ .xor .u64 r0 (IntKind.u64.wrap (r0 * 2 ^ (min (Int.toNat (13 : Int)) 64)))) (2 ^ (min (Int.toNat (7 : Int)) 64)))) (IntKind.u64.wrap ((bJ .xor .u64 (bJ .xor .u64 r0 (IntKind.u64.wrap (r0 * 2 ^ (min (Int.toNat (13 : Int)) 64)))) (Int.fdiv (bJ .xor .u64 r0 (IntKind.u64.wrap (r0 * 2 ^ (min (Int.toNat (13 : Int)) 64)))) (2 ^ (min (Int.toNat (7 : Int)) 64)))) * 2 ^ (min (Int.toNat (17 : Int)) 64))))))] ?_
  refine bN ?_
  obtain rfl := oI h0
  exact aG (AP hO ⟨rfl, rfl⟩)

theorem sN (lo0p : Nat) (aA : (List Int)) (a1 : Int) (b2 : Int) (r : List Int) (h0 : fU aA a1 b2 = some r) : lW Try.prog 81 lo0p 1 (List.map (eI) aA) (List.map (eI) r) [(.msl 1 lo0p 0 (List.length aA)), (eI a1), (eI b2)] (.tup []) := by
  intro H0 hl0
  refine dR Try.func81 ?_
  have hO := aJ.rK hl0
  clear hl0
  obtain ⟨N0, hN0⟩ : ∃ n, n = List.length aA := ⟨_, rfl⟩
  have hN : List.length aA = N0 := hN0.symm
  unfold fU at h0
  refine aS aD 4 [2] [(6, (eI (wR (b2 - a1))))] ?_
  refine aS aD 2 [] [(15, (aE (decide ((8 : Int) ≤ (wR (b2 - a1))))))] ?_
  refine bM h0 (fun h0 => ?_) (fun h0 => ?_)
  · refine aN ?_
    refine aU aD 4 ?_
    refine bX 2 ?_
    refine rN 1 (cQ .u64 0) (by kernel_rfl) (by kernel_rfl) hO ?_
    intro lo2 H hO
    refine qW 1 lo2 1 0 (cQ .u64 0) (cQ .u64 (IntKind.u64.wrap (wR (b2 - a1)))) [(cQ .u64 0)] [(lo0p, 1, List.map (eI) aA), (lo2, 1, [(cQ .u64 (IntKind.u64.wrap (wR (b2 - a1))))])] hO rfl (by kernel_rfl) ?_
    intro H hO
    refine iP ?_
    refine bY [15] [(7, (.lp lo2 0 0))] ?_
    refine aN ?_
    refine aU aD 3 ?_
    refine bX 1 ?_
    obtain ⟨x3, hx4, h0⟩ := aX h0
    refine fC (xD (wR (b2 - a1)) _ hx4) hO ?_
    intro H hO
    refine bE ?_
    refine bY [] [(8, (cQ .u64 x3))] ?_
    refine aN ?_
    refine aU aD 7 ?_
    obtain ⟨c6, h0⟩ := aV h0
    refine nL [(4 : Int) ≠ 0] ⟨c6, trivial⟩ ?_
    refine bG [(0, (.msl 1 lo0p 0 (List.length aA))), (1, (eI a1)), (6, (eI (wR (b2 - a1)))), (7, (.lp lo2 0 0)), (8, (cQ .u64 x3)), (9, (eI (wR ((wR (a1 + (wR ((wR (Int.tdiv (wR (b2 - a1)) (4 : Int))) * (2 : Int))))) - (1 : Int)))))] ?_
    refine cE 0 ?_
    refine fT [(0, (.msl 1 lo0p 0 (List.length aA))), (1, (eI a1)), (6, (eI (wR (b2 - a1)))), (7, (.lp lo2 0 0)), (8, (cQ .u64 x3)), (9, (eI (wR ((wR (a1 + (wR ((wR (Int.tdiv (wR (b2 - a1)) (4 : Int))) * (2 : Int))))) - (1 : Int)))))] ?_
    refine eO (fun T H => ∃ aA : List Int, ∃ jC : Int, ∃ kL : Int, ∃ hY : Int, ∃ idx9 : Int, Has T [(0, (.msl 1 lo0p 0 (List.length aA))), (1, (eI a1)), (6, (eI jC)), (7, (.lp lo2 0 0)), (8, (cQ .u64 hY)), (9, (eI idx9))] ∧ aJ ⟨H0, [lo0p], []⟩ H [(lo0p, 1, List.map (eI) aA), (lo2, 1, [(cQ .u64 kL)])] ∧ List.length aA = N0 ∧ iN aA a1 jC kL hY idx9 = some r) ?_ ⟨aA, wR (b2 - a1), IntKind.u64.wrap (wR (b2 - a1)), x3, wR ((wR (a1 + (wR ((wR (Int.tdiv (wR (b2 - a1)) (4 : Int))) * (2 : Int))))) - (1 : Int)), .eq (by kernel_rfl), hO, hN, h0⟩
    clear hO hN h0
    rintro T H ⟨aA, jC, kL, hY, idx9, hT, hO, hN, h0⟩
    refine bA hT ?_
    clear hT
    unfold iN at h0
    obtain ⟨rr0, hl0, h0⟩ := aX h0
    refine cZ (by kernel_rfl) (fun (s : List Int × Int × Int) T H => Has T [(0, (.msl 1 lo0p 0 (List.length s.1))), (1, (eI a1)), (6, (eI jC)), (7, (.lp lo2 0 0)), (8, (cQ .u64 hY)), (9, (eI s.2.2))] ∧ aJ ⟨H0, [lo0p], []⟩ H [(lo0p, 1, List.map (eI) s.1), (lo2, 1, [(cQ .u64 s.2.1)])] ∧ List.length s.1 = N0) hl0 ⟨.eq (by kernel_rfl), hO, hN⟩ ?_
    clear hO hN
    rintro k0 s out1 T H ⟨hT, hO, hN⟩ h1 ho0
    obtain ⟨aA, kL, idx9⟩ := s
    replace h1 : cR a1 jC hY aA kL idx9 = some out1 := h1
    try dsimp only at hT
    refine bA hT ?_
    clear hT
    unfold cR at h1
    refine aN ?_
    refine aN ?_
    refine aU aD 8 ?_
    obtain ⟨c7, h1⟩ := aV h1
    refine nL [(4 : Int) ≠ 0] ⟨c7, trivial⟩ ?_
    refine bY [] [(33, (aE (decide (idx9 ≤ (wR ((wR (a1 + (wR ((wR (Int.tdiv jC (4 : Int))) * (2 : Int))))) + (1 : Int)))))))] ?_
    refine bM h1 (fun h1 => ?_) (fun h1 => ?_)
    · refine bL ?_
      refine bG [(0, (.msl 1 lo0p 0 (List.length aA))), (1, (eI a1)), (6, (eI jC)), (7, (.lp lo2 0 0)), (8, (cQ .u64 hY)), (9, (eI idx9))] ?_
      refine aN ?_
      refine cE 1 ?_
      refine aN ?_
      refine aU aD 6 ?_
      obtain ⟨x9, hx10, h1⟩ := aX h1
      refine yD [(lo0p, 1, List.map (eI) aA)] [1, 0] (yC lo2 kL _ hx10) hO ?_
      intro r11 L12 H hP13 hO
      obtain ⟨rfl, rfl⟩ := hP13
      replace hO : aJ ⟨H0, [lo0p], []⟩ H [(lo2, 1, [(cQ .u64 x9.2)]), (lo0p, 1, List.map (eI) aA)] := hO
      refine bE ?_
      replace hO := hO.pick (L' := [(lo0p, 1, List.map (eI) aA), (lo2, 1, [(cQ .u64 x9.2)])]) [1, 0] (by decide) (by kernel_rfl)
      refine bY [] [(10, (eI (wR (bJ .and .u64 x9.1 (IntKind.u64.wrap (hY - (1 : Int)))))))] ?_
      refine eT (fun T H => ∃ aA : List Int, ∃ kL : Int, ∃ eZ : Int, Has T [(0, (.msl 1 lo0p 0 (List.length aA))), (1, (eI a1)), (6, (eI jC)), (7, (.lp lo2 0 0)), (8, (cQ .u64 hY)), (9, (eI idx9)), (10, (eI eZ))] ∧ aJ ⟨H0, [lo0p], []⟩ H [(lo0p, 1, List.map (eI) aA), (lo2, 1, [(cQ .u64 kL)])] ∧ List.length aA = N0 ∧ eM aA a1 jC kL hY idx9 eZ = some out1) ?_ ?_
      · clear hO hN h1
        rintro T H ⟨aA, kL, eZ, hT, hO, hN, h1⟩
        refine bA hT ?_
        clear hT
        unfold eM at h1
        refine fS (fR []) aD 20 ?_
        obtain ⟨c14, h1⟩ := aV h1
        refine cF 11 [0 ≤ (wR (a1 + eZ)) ∧ (wR (a1 + eZ)) < (lN aA)] ⟨c14, trivial⟩ ?_
        refine gS 0 lo0p 1 (0 + Int.toNat (wR (a1 + eZ))) (eI (gD aA (wR (a1 + eZ)))) (eI (gD aA (wR (a1 + eZ)))) (List.map (eI) aA) hO (bW c14) ?_
        obtain ⟨c15, h1⟩ := aV h1
        refine cF 15 [0 ≤ idx9 ∧ idx9 < (lN aA)] ⟨c15, trivial⟩ ?_
        refine gS 0 lo0p 1 (0 + Int.toNat idx9) (eI (gD aA idx9)) (eI (gD aA idx9)) (List.map (eI) aA) hO (bW c15) ?_
        obtain ⟨c16, h1⟩ := aV h1
        refine cF 17 [0 ≤ idx9 ∧ idx9 < (lN aA)] ⟨c16, trivial⟩ ?_
        refine kI 0 lo0p 1 (0 + Int.toNat idx9) (eI (gD aA idx9)) (eI (gD aA (wR (a1 + eZ)))) (List.map (eI) aA) [(lo0p, 1, List.map (eI) (List.set aA (Int.toNat idx9) (gD aA (wR (a1 + eZ))))), (lo2, 1, [(cQ .u64 kL)])] hO (bW c16) (by simp only [List.set, gM]) ?_
        intro H hO
        replace hN : List.length (List.set aA (Int.toNat idx9) (gD aA (wR (a1 + eZ)))) = N0 := by simpa using hN
        obtain ⟨c17, h1⟩ := aV h1
        refine cF 19 [0 ≤ (wR (a1 + eZ)) ∧ (wR (a1 + eZ)) < (lN aA)] ⟨c17, trivial⟩ ?_
        refine kI 0 lo0p 1 (0 + Int.toNat (wR (a1 + eZ))) (eI (gD (List.set aA (Int.toNat idx9) (gD aA (wR (a1 + eZ)))) (wR (a1 + eZ)))) (eI (gD aA idx9)) (List.map (eI) (List.set aA (Int.toNat idx9) (gD aA (wR (a1 + eZ))))) [(lo0p, 1, List.map (eI) (List.set (List.set aA (Int.toNat idx9) (gD aA (wR (a1 + eZ)))) (Int.toNat (wR (a1 + eZ))) (gD aA idx9))), (lo2, 1, [(cQ .u64 kL)])] hO (lO c17 (by simp [])) (by simp only [List.set, gM]) ?_
        intro H hO
        replace hN : List.length (List.set (List.set aA (Int.toNat idx9) (gD aA (wR (a1 + eZ)))) (Int.toNat (wR (a1 + eZ))) (gD aA idx9)) = N0 := by simpa using hN
        refine mQ (by kernel_rfl) ?_
        refine dG (l := [(0, (.msl 1 lo0p 0 (List.length (List.set (List.set aA (Int.toNat idx9) (gD aA (wR (a1 + eZ)))) (Int.toNat (wR (a1 + eZ))) (gD aA idx9))))), (1, (eI a1)), (6, (eI jC)), (7, (.lp lo2 0 0)), (8, (cQ .u64 hY)), (9, (eI idx9))]) ⟨[(0, (.msl 1 lo0p 0 (List.length aA))), (1, (eI a1)), (6, (eI jC)), (7, (.lp lo2 0 0)), (8, (cQ .u64 hY)), (9, (eI idx9))], by kernel_rfl, rfl, ⟨aM.eq (by simp []), aM.refl _, aM.refl _, aM.refl _, aM.refl _, aM.refl _, trivial⟩⟩ ?_
        refine aG (aW (aF (?_)))
        refine aU aD 3 ?_
        refine bE ?_
        exact aG (aF (⟨rfl, _, (oI h1).symm, .eq (by kernel_rfl), hO, hN⟩))
      refine aS aD 3 [] [(43, (aE (decide (jC ≤ (wR (bJ .and .u64 x9.1 (IntKind.u64.wrap (hY - (1 : Int)))))))))] ?_
      refine bM h1 (fun h1 => ?_) (fun h1 => ?_)
      · refine aU aD 4 ?_
        refine bE ?_
        exact aG (aF (⟨rfl, _, _, _, .eq (by kernel_rfl), hO, hN, h1⟩))
      refine bL ?_
      exact aG (aF (⟨rfl, _, _, _, .eq (by kernel_rfl), hO, hN, h1⟩))
    refine gC 0 ?_
    replace hO := hO.pick (L' := [(lo0p, 1, List.map (eI) aA)]) [0] (by decide) (by kernel_rfl)
    obtain rfl := oI h1
    obtain rfl : _ = rr0 := ho0
    replace h0 : some aA = some r := h0
    obtain rfl := oI h0
    exact aG (aT (aT (bS (xN (x := (.tup [])) (by kernel_rfl) (aM.refl _) ⟨rfl, hO.ext, hO.at 0 (by kernel_rfl), by first | rfl | (simp only [List.length_map]; exact hN.trans hN0)⟩))))
  refine bL ?_
  obtain rfl := oI h0
  exact aG (xN (x := (.tup [])) (by kernel_rfl) (aM.refl _) ⟨rfl, hO.ext, hO.at 0 (by kernel_rfl), by first | rfl | (simp only [List.length_map]; exact hN.trans hN0)⟩)

theorem mI (lo0p : Nat) (aA : (List Int)) (a1 : Int) (b2 : Int) (lo3p : Nat) (pV : Int) (r : ((Int × Int) × Int)) (h0 : fI aA a1 b2 pV = some r) : wF Try.prog 113 [(.msl 1 lo0p 0 (List.length aA)), (eI a1), (eI b2), (.lp lo3p 0 0)] [(lo0p, 1, List.map (eI) aA), (lo3p, 1, [(eI pV)])] (fun x L => x = (.tup [(eI r.1.1), (eI r.1.2)]) ∧ L = [(lo0p, 1, List.map (eI) aA), (lo3p, 1, [(eI r.2)])]) := by
  intro F H0 hO
  obtain ⟨Fh, Fe, Fg⟩ := F
  refine dR Try.func113 ?_
  unfold fI at h0
  refine aS aD 2 [] [] ?_
  refine aN ?_
  refine aN ?_
  refine fS (fR [18]) aD 9 ?_
  obtain ⟨c1, h0⟩ := aV h0
  refine cF 3 [0 ≤ b2 ∧ b2 < (lN aA)] ⟨c1, trivial⟩ ?_
  refine gS 0 lo0p 1 (0 + Int.toNat b2) (eI (gD aA b2)) (eI (gD aA b2)) (List.map (eI) aA) hO (bW c1) ?_
  obtain ⟨c2, h0⟩ := aV h0
  refine cF 7 [0 ≤ a1 ∧ a1 < (lN aA)] ⟨c2, trivial⟩ ?_
  refine gS 0 lo0p 1 (0 + Int.toNat a1) (eI (gD aA a1)) (eI (gD aA a1)) (List.map (eI) aA) hO (bW c2) ?_
  obtain ⟨x3, hx4, h0⟩ := aX h0
  refine DD (fG (gD aA b2) (gD aA a1) _ hx4) hO ?_
  intro H hO
  refine mQ (by kernel_rfl) ?_
  refine bY [] [(18, (aE x3))] ?_
  refine bM h0 (fun h0 => ?_) (fun h0 => ?_)
  · refine aN ?_
    refine aU aD 6 ?_
    refine bX 2 ?_
    refine uA 1 lo3p 1 0 (eI pV) (eI pV) [(eI pV)] hO rfl ?_
    refine bX 5 ?_
    refine qW 1 lo3p 1 0 (eI pV) (eI (wR (pV + (1 : Int)))) [(eI pV)] [(lo0p, 1, List.map (eI) aA), (lo3p, 1, [(eI (wR (pV + (1 : Int))))])] hO rfl (by kernel_rfl) ?_
    intro H hO
    refine iP ?_
    refine bY [18] [] ?_
    refine aS aD 4 [1, 2] [(8, (eI b2)), (9, (eI a1))] ?_
    refine bN ?_
    obtain rfl := oI h0
    exact aG (aQ (AP hO ⟨rfl, rfl⟩))
  refine bL ?_
  refine bG [(0, (.msl 1 lo0p 0 (List.length aA))), (1, (eI a1)), (2, (eI b2)), (3, (.lp lo3p 0 0))] ?_
  refine aS aD 4 [1, 2] [(8, (eI a1)), (9, (eI b2))] ?_
  refine bN ?_
  obtain rfl := oI h0
  exact aG (AP hO ⟨rfl, rfl⟩)

theorem pR (lo0p : Nat) (aA : (List Int)) (a1 : Int) (b2 : Int) (c3 : Int) (lo4p : Nat) (AW : Int) (r : (Int × Int)) (h0 : gU aA a1 b2 c3 AW = some r) : wF Try.prog 109 [(.msl 1 lo0p 0 (List.length aA)), (eI a1), (eI b2), (eI c3), (.lp lo4p 0 0)] [(lo0p, 1, List.map (eI) aA), (lo4p, 1, [(eI AW)])] (fun x L => x = (eI r.1) ∧ L = [(lo0p, 1, List.map (eI) aA), (lo4p, 1, [(eI r.2)])]) := by
  intro F H0 hO
  obtain ⟨Fh, Fe, Fg⟩ := F
  refine dR Try.func109 ?_
  unfold gU at h0
  refine aS aD 1 [] [] ?_
  refine aN ?_
  refine aU aD 10 ?_
  refine bX 4 ?_
  obtain ⟨x1, hx2, h0⟩ := aX h0
  refine yD [] [0, 1] (mI lo0p aA a1 b2 lo4p AW _ hx2) hO ?_
  intro r3 L4 H hP5 hO
  obtain ⟨rfl, rfl⟩ := hP5
  replace hO : aJ ⟨Fh, Fe, Fg⟩ H [(lo0p, 1, List.map (eI) aA), (lo4p, 1, [(eI x1.2)])] := hO
  refine bE ?_
  refine bY [1, 2] [(1, (eI x1.1.1)), (2, (eI x1.1.2))] ?_
  refine aN ?_
  refine aU aD 10 ?_
  refine bX 4 ?_
  obtain ⟨x6, hx7, h0⟩ := aX h0
  refine yD [] [0, 1] (mI lo0p aA x1.1.2 c3 lo4p x1.2 _ hx7) hO ?_
  intro r8 L9 H hP10 hO
  obtain ⟨rfl, rfl⟩ := hP10
  replace hO : aJ ⟨Fh, Fe, Fg⟩ H [(lo0p, 1, List.map (eI) aA), (lo4p, 1, [(eI x6.2)])] := hO
  refine bE ?_
  refine bY [2, 3] [(2, (eI x6.1.1))] ?_
  refine aN ?_
  refine aU aD 10 ?_
  refine bX 4 ?_
  obtain ⟨x11, hx12, h0⟩ := aX h0
  refine yD [] [0, 1] (mI lo0p aA x1.1.1 x6.1.1 lo4p x6.2 _ hx12) hO ?_
  intro r13 L14 H hP15 hO
  obtain ⟨rfl, rfl⟩ := hP15
  replace hO : aJ ⟨Fh, Fe, Fg⟩ H [(lo0p, 1, List.map (eI) aA), (lo4p, 1, [(eI x11.2)])] := hO
  refine bE ?_
  refine bY [1, 2] [(2, (eI x11.1.2))] ?_
  refine cB aD 2 [(0, (.msl 1 lo0p 0 (List.length aA))), (4, (.lp lo4p 0 0)), (10, (eI x11.1.2))] ?_
  refine bN ?_
  obtain rfl := oI h0
  exact aG (AP hO ⟨rfl, rfl⟩)

theorem kJ (lo0p : Nat) (aA : (List Int)) (a1 : Int) (lo2p : Nat) (AG : Int) (r : (Int × Int)) (h0 : dM aA a1 AG = some r) : wF Try.prog 108 [(.msl 1 lo0p 0 (List.length aA)), (eI a1), (.lp lo2p 0 0)] [(lo0p, 1, List.map (eI) aA), (lo2p, 1, [(eI AG)])] (fun x L => x = (eI r.1) ∧ L = [(lo0p, 1, List.map (eI) aA), (lo2p, 1, [(eI r.2)])]) := by
  intro F H0 hO
  obtain ⟨Fh, Fe, Fg⟩ := F
  refine dR Try.func108 ?_
  unfold dM at h0
  refine aS aD 1 [] [] ?_
  refine aN ?_
  refine aU aD 9 ?_
  refine bX 7 ?_
  obtain ⟨x1, hx2, h0⟩ := aX h0
  refine yD [] [0, 1] (pR lo0p aA (wR (a1 - (1 : Int))) a1 (wR (a1 + (1 : Int))) lo2p AG _ hx2) hO ?_
  intro r3 L4 H hP5 hO
  obtain ⟨rfl, rfl⟩ := hP5
  replace hO : aJ ⟨Fh, Fe, Fg⟩ H [(lo0p, 1, List.map (eI) aA), (lo2p, 1, [(eI x1.2)])] := hO
  refine bE ?_
  refine bY [1] [(6, (eI x1.1))] ?_
  refine bN ?_
  obtain rfl := oI h0
  exact aG (AP hO ⟨rfl, rfl⟩)

theorem tQ (lo0p : Nat) (aA : (List Int)) (a1 : Int) (b2 : Int) (r : (Int × Int)) (h0 : gO aA a1 b2 = some r) : wF Try.prog 82 [(.msl 1 lo0p 0 (List.length aA)), (eI a1), (eI b2)] [(lo0p, 1, List.map (eI) aA)] (fun x L => x = (.tup [(eI r.1), (eI r.2)]) ∧ L = [(lo0p, 1, List.map (eI) aA)]) := by
  intro F H0 hO
  obtain ⟨Fh, Fe, Fg⟩ := F
  refine dR Try.func82 ?_
  unfold gO at h0
  refine aS aD 2 [] [] ?_
  refine aS aD 4 [2] [(8, (eI (wR (b2 - a1))))] ?_
  refine aN ?_
  refine aU aD 1 ?_
  refine rN 1 (eI 0) (by kernel_rfl) (by kernel_rfl) hO ?_
  intro lo1 H hO
  refine iP ?_
  refine bY [] [(9, (.lp lo1 0 0))] ?_
  refine aN ?_
  refine aU aD 6 ?_
  obtain ⟨c2, h0⟩ := aV h0
  refine nL [(4 : Int) ≠ 0] ⟨c2, trivial⟩ ?_
  refine bY [] [(10, (eI (wR (a1 + (wR ((wR (Int.tdiv (wR (b2 - a1)) (4 : Int))) * (1 : Int)))))))] ?_
  refine aN ?_
  refine aU aD 6 ?_
  obtain ⟨c3, h0⟩ := aV h0
  refine nL [(4 : Int) ≠ 0] ⟨c3, trivial⟩ ?_
  refine bG [(0, (.msl 1 lo0p 0 (List.length aA))), (1, (eI a1)), (8, (eI (wR (b2 - a1)))), (9, (.lp lo1 0 0)), (10, (eI (wR (a1 + (wR ((wR (Int.tdiv (wR (b2 - a1)) (4 : Int))) * (1 : Int))))))), (11, (eI (wR (a1 + (wR ((wR (Int.tdiv (wR (b2 - a1)) (4 : Int))) * (2 : Int)))))))] ?_
  refine aN ?_
  refine aU aD 6 ?_
  obtain ⟨c4, h0⟩ := aV h0
  refine nL [(4 : Int) ≠ 0] ⟨c4, trivial⟩ ?_
  refine bY [1] [(12, (eI (wR (a1 + (wR ((wR (Int.tdiv (wR (b2 - a1)) (4 : Int))) * (3 : Int)))))))] ?_
  refine eT (fun T H => ∃ lC : Int, ∃ j11 : Int, Has T [(0, (.msl 1 lo0p 0 (List.length aA))), (9, (.lp lo1 0 0)), (11, (eI j11))] ∧ aJ ⟨Fh, Fe, Fg⟩ H [(lo0p, 1, List.map (eI) aA), (lo1, 1, [(eI lC)])] ∧ eW aA lC j11 = some r) ?_ ?_
  · clear hO h0
    rintro T H ⟨lC, j11, hT, hO, h0⟩
    refine bA hT ?_
    clear hT
    unfold eW at h0
    refine aN ?_
    refine aU aD 1 ?_
    refine uA 1 lo1 1 0 (eI lC) (eI lC) [(eI lC)] hO rfl ?_
    refine iP ?_
    replace hO := hO.pick (L' := [(lo0p, 1, List.map (eI) aA)]) [0] (by decide) (by kernel_rfl)
    refine bY [9] [(49, (eI lC))] ?_
    refine cE 0 ?_
    refine aS aD 2 [] [(51, (aE (decide (lC = (0 : Int)))))] ?_
    refine bM h0 (fun h0 => ?_) (fun h0 => ?_)
    · refine aS aD 3 [11, 49, 51] [(6, (eI j11)), (7, (eI (1 : Int)))] ?_
      refine bN ?_
      obtain rfl := oI h0
      exact aG (bO (AP hO ⟨rfl, rfl⟩))
    refine aS aD 2 [49, 51] [(54, (aE (decide (lC = (12 : Int)))))] ?_
    refine bM h0 (fun h0 => ?_) (fun h0 => ?_)
    · refine aS aD 3 [11, 54] [(6, (eI j11)), (7, (eI (2 : Int)))] ?_
      refine bN ?_
      obtain rfl := oI h0
      exact aG (bO (AP hO ⟨rfl, rfl⟩))
    refine aS aD 3 [11, 54] [(6, (eI j11)), (7, (eI (0 : Int)))] ?_
    refine bN ?_
    obtain rfl := oI h0
    exact aG (bO (AP hO ⟨rfl, rfl⟩))
  refine aS aD 2 [] [(32, (aE (decide ((8 : Int) ≤ (wR (b2 - a1))))))] ?_
  refine bM h0 (fun h0 => ?_) (fun h0 => ?_)
  · refine eT (fun T H => ∃ lC : Int, ∃ i10 : Int, ∃ j11 : Int, ∃ k12 : Int, Has T [(0, (.msl 1 lo0p 0 (List.length aA))), (9, (.lp lo1 0 0)), (10, (eI i10)), (11, (eI j11)), (12, (eI k12))] ∧ aJ ⟨Fh, Fe, Fg⟩ H [(lo0p, 1, List.map (eI) aA), (lo1, 1, [(eI lC)])] ∧ eV aA lC i10 j11 k12 = some r) ?_ ?_
    · clear hO h0
      rintro T H ⟨lC, i10, j11, k12, hT, hO, h0⟩
      refine bA hT ?_
      clear hT
      unfold eV at h0
      refine aU aD 6 ?_
      refine bX 4 ?_
      obtain ⟨x8, hx9, h0⟩ := aX h0
      refine yD [] [0, 1] (pR lo0p aA i10 j11 k12 lo1 lC _ hx9) hO ?_
      intro r10 L11 H hP12 hO
      obtain ⟨rfl, rfl⟩ := hP12
      replace hO : aJ ⟨Fh, Fe, Fg⟩ H [(lo0p, 1, List.map (eI) aA), (lo1, 1, [(eI x8.2)])] := hO
      refine bE ?_
      exact aG (aF (⟨rfl, _, _, .eq (by kernel_rfl), hO, h0⟩))
    refine aS aD 2 [8, 32] [(34, (aE (decide ((50 : Int) ≤ (wR (b2 - a1))))))] ?_
    refine bM h0 (fun h0 => ?_) (fun h0 => ?_)
    · refine aN ?_
      refine aU aD 4 ?_
      refine bX 2 ?_
      obtain ⟨x14, hx15, h0⟩ := aX h0
      refine yD [] [0, 1] (kJ lo0p aA (wR (a1 + (wR ((wR (Int.tdiv (wR (b2 - a1)) (4 : Int))) * (1 : Int))))) lo1 0 _ hx15) hO ?_
      intro r16 L17 H hP18 hO
      obtain ⟨rfl, rfl⟩ := hP18
      replace hO : aJ ⟨Fh, Fe, Fg⟩ H [(lo0p, 1, List.map (eI) aA), (lo1, 1, [(eI x14.2)])] := hO
      refine bE ?_
      refine bY [10, 34] [(10, (eI x14.1))] ?_
      refine aN ?_
      refine aU aD 4 ?_
      refine bX 2 ?_
      obtain ⟨x19, hx20, h0⟩ := aX h0
      refine yD [] [0, 1] (kJ lo0p aA (wR (a1 + (wR ((wR (Int.tdiv (wR (b2 - a1)) (4 : Int))) * (2 : Int))))) lo1 x14.2 _ hx20) hO ?_
      intro r21 L22 H hP23 hO
      obtain ⟨rfl, rfl⟩ := hP23
      replace hO : aJ ⟨Fh, Fe, Fg⟩ H [(lo0p, 1, List.map (eI) aA), (lo1, 1, [(eI x19.2)])] := hO
      refine bE ?_
      refine bG [(0, (.msl 1 lo0p 0 (List.length aA))), (9, (.lp lo1 0 0)), (10, (eI x14.1)), (11, (eI x19.1)), (12, (eI (wR (a1 + (wR ((wR (Int.tdiv (wR (b2 - a1)) (4 : Int))) * (3 : Int)))))))] ?_
      refine aU aD 4 ?_
      refine bX 2 ?_
      obtain ⟨x24, hx25, h0⟩ := aX h0
      refine yD [] [0, 1] (kJ lo0p aA (wR (a1 + (wR ((wR (Int.tdiv (wR (b2 - a1)) (4 : Int))) * (3 : Int))))) lo1 x19.2 _ hx25) hO ?_
      intro r26 L27 H hP28 hO
      obtain ⟨rfl, rfl⟩ := hP28
      replace hO : aJ ⟨Fh, Fe, Fg⟩ H [(lo0p, 1, List.map (eI) aA), (lo1, 1, [(eI x24.2)])] := hO
      refine bE ?_
      exact aG (aF (⟨rfl, _, _, _, _, .eq (by kernel_rfl), hO, h0⟩))
    refine bL ?_
    exact aG (aF (⟨rfl, _, _, _, _, .eq (by kernel_rfl), hO, h0⟩))
  refine bL ?_
  exact aG (aF (⟨rfl, _, _, .eq (by kernel_rfl), hO, h0⟩))

theorem tF (lo0p : Nat) (aA : (List Int)) (a1 : Int) (b2 : Int) (r : List Int) (h0 : gI aA a1 b2 = some r) : lW Try.prog 83 lo0p 1 (List.map (eI) aA) (List.map (eI) r) [(.msl 1 lo0p 0 (List.length aA)), (eI a1), (eI b2)] (.tup []) := by
  intro H0 hl0
  refine dR Try.func83 ?_
  have hO := aJ.rK hl0
  clear hl0
  obtain ⟨N0, hN0⟩ : ∃ n, n = List.length aA := ⟨_, rfl⟩
  have hN : List.length aA = N0 := hN0.symm
  unfold gI at h0
  refine aS aD 2 [1] [(6, (eI a1))] ?_
  refine aS aD 3 [2] [(7, (eI (wR (b2 - (1 : Int)))))] ?_
  refine cE 0 ?_
  refine fT [(0, (.msl 1 lo0p 0 (List.length aA))), (6, (eI a1)), (7, (eI (wR (b2 - (1 : Int)))))] ?_
  refine eO (fun T H => ∃ aA : List Int, ∃ i6 : Int, ∃ j7 : Int, Has T [(0, (.msl 1 lo0p 0 (List.length aA))), (6, (eI i6)), (7, (eI j7))] ∧ aJ ⟨H0, [lo0p], []⟩ H [(lo0p, 1, List.map (eI) aA)] ∧ List.length aA = N0 ∧ iQ aA i6 j7 = some r) ?_ ⟨aA, a1, wR (b2 - (1 : Int)), .eq (by kernel_rfl), hO, hN, h0⟩
  clear hO hN h0
  rintro T H ⟨aA, i6, j7, hT, hO, hN, h0⟩
  refine bA hT ?_
  clear hT
  unfold iQ at h0
  obtain ⟨rr0, hl0, h0⟩ := aX h0
  refine cZ (by kernel_rfl) (fun (s : List Int × Int × Int) T H => Has T [(0, (.msl 1 lo0p 0 (List.length s.1))), (6, (eI s.2.1)), (7, (eI s.2.2))] ∧ aJ ⟨H0, [lo0p], []⟩ H [(lo0p, 1, List.map (eI) s.1)] ∧ List.length s.1 = N0) hl0 ⟨.eq (by kernel_rfl), hO, hN⟩ ?_
  clear hO hN
  rintro k0 s out1 T H ⟨hT, hO, hN⟩ h1 ho0
  obtain ⟨aA, i6, j7⟩ := s
  replace h1 : dB aA i6 j7 = some out1 := h1
  try dsimp only at hT
  refine bA hT ?_
  clear hT
  unfold dB at h1
  refine aN ?_
  refine aS aD 3 [] [(13, (aE (decide (i6 < j7))))] ?_
  refine bM h1 (fun h1 => ?_) (fun h1 => ?_)
  · refine bL ?_
    refine bG [(0, (.msl 1 lo0p 0 (List.length aA))), (6, (eI i6)), (7, (eI j7))] ?_
    refine cE 1 ?_
    refine aN ?_
    refine fS (fR []) aD 16 ?_
    obtain ⟨c2, h1⟩ := aV h1
    refine cF 7 [0 ≤ j7 ∧ j7 < (lN aA)] ⟨c2, trivial⟩ ?_
    refine gS 0 lo0p 1 (0 + Int.toNat j7) (eI (gD aA j7)) (eI (gD aA j7)) (List.map (eI) aA) hO (bW c2) ?_
    obtain ⟨c3, h1⟩ := aV h1
    refine cF 11 [0 ≤ i6 ∧ i6 < (lN aA)] ⟨c3, trivial⟩ ?_
    refine gS 0 lo0p 1 (0 + Int.toNat i6) (eI (gD aA i6)) (eI (gD aA i6)) (List.map (eI) aA) hO (bW c3) ?_
    obtain ⟨c4, h1⟩ := aV h1
    refine cF 13 [0 ≤ i6 ∧ i6 < (lN aA)] ⟨c4, trivial⟩ ?_
    refine kI 0 lo0p 1 (0 + Int.toNat i6) (eI (gD aA i6)) (eI (gD aA j7)) (List.map (eI) aA) [(lo0p, 1, List.map (eI) (List.set aA (Int.toNat i6) (gD aA j7)))] hO (bW c4) (by simp only [List.set, gM]) ?_
    intro H hO
    replace hN : List.length (List.set aA (Int.toNat i6) (gD aA j7)) = N0 := by simpa using hN
    obtain ⟨c5, h1⟩ := aV h1
    refine cF 15 [0 ≤ j7 ∧ j7 < (lN aA)] ⟨c5, trivial⟩ ?_
    refine kI 0 lo0p 1 (0 + Int.toNat j7) (eI (gD (List.set aA (Int.toNat i6) (gD aA j7)) j7)) (eI (gD aA i6)) (List.map (eI) (List.set aA (Int.toNat i6) (gD aA j7))) [(lo0p, 1, List.map (eI) (List.set (List.set aA (Int.toNat i6) (gD aA j7)) (Int.toNat j7) (gD aA i6)))] hO (lO c5 (by simp [])) (by simp only [List.set, gM]) ?_
    intro H hO
    replace hN : List.length (List.set (List.set aA (Int.toNat i6) (gD aA j7)) (Int.toNat j7) (gD aA i6)) = N0 := by simpa using hN
    refine mQ (by kernel_rfl) ?_
    refine dG (l := [(0, (.msl 1 lo0p 0 (List.length (List.set (List.set aA (Int.toNat i6) (gD aA j7)) (Int.toNat j7) (gD aA i6))))), (6, (eI i6)), (7, (eI j7))]) ⟨[(0, (.msl 1 lo0p 0 (List.length aA))), (6, (eI i6)), (7, (eI j7))], by kernel_rfl, rfl, ⟨aM.eq (by simp []), aM.refl _, aM.refl _, trivial⟩⟩ ?_
    refine aG (aF (?_))
    refine aS aD 3 [6] [(6, (eI (wR (i6 + (1 : Int)))))] ?_
    refine aU aD 3 ?_
    refine bE ?_
    exact aG (aW (aF (⟨rfl, _, (oI h1).symm, .eq (by kernel_rfl), hO, hN⟩)))
  refine gC 0 ?_
  obtain rfl := oI h1
  obtain rfl : _ = rr0 := ho0
  replace h0 : some aA = some r := h0
  obtain rfl := oI h0
  exact aG (aT (aT (bS (xN (x := (.tup [])) (by kernel_rfl) (aM.refl _) ⟨rfl, hO.ext, hO.at 0 (by kernel_rfl), by first | rfl | (simp only [List.length_map]; exact hN.trans hN0)⟩))))

theorem pE (lo0p : Nat) (aA : (List Int)) (a1 : Int) (b2 : Int) (r : (Bool × List Int)) (h0 : eC aA a1 b2 = some r) : lW Try.prog 84 lo0p 1 (List.map (eI) aA) (List.map (eI) r.2) [(.msl 1 lo0p 0 (List.length aA)), (eI a1), (eI b2)] (aE r.1) := by
  intro H0 hl0
  refine dR Try.func84 ?_
  have hO := aJ.rK hl0
  clear hl0
  obtain ⟨N0, hN0⟩ : ∃ n, n = List.length aA := ⟨_, rfl⟩
  have hN : List.length aA = N0 := hN0.symm
  unfold eC at h0
  refine aS aD 1 [] [] ?_
  refine aS aD 3 [] [(7, (eI (wR (a1 + (1 : Int)))))] ?_
  refine eT (fun T H => ∃ aA : List Int, Has T [(0, (.msl 1 lo0p 0 (List.length aA)))] ∧ aJ ⟨H0, [lo0p], []⟩ H [(lo0p, 1, List.map (eI) aA)] ∧ List.length aA = N0 ∧ eA aA = some r) ?_ ?_
  · clear hO hN h0
    rintro T H ⟨aA, hT, hO, hN, h0⟩
    refine bA hT ?_
    clear hT
    unfold eA at h0
    refine aS aD 1 [] [(6, (aE false))] ?_
    refine bN ?_
    obtain rfl := oI h0
    exact aG (lU (x := (aE false)) (by kernel_rfl) (aM.refl _) ⟨rfl, hO.ext, hO.at 0 (by kernel_rfl), by first | rfl | (simp only [List.length_map]; exact hN.trans hN0)⟩)
  refine aS aD 1 [] [(8, (eI (0 : Int)))] ?_
  refine cE 0 ?_
  refine fT [(0, (.msl 1 lo0p 0 (List.length aA))), (1, (eI a1)), (2, (eI b2)), (7, (eI (wR (a1 + (1 : Int))))), (8, (eI (0 : Int)))] ?_
  refine eO (fun T H => ∃ aA : List Int, ∃ i7 : Int, ∃ j8 : Int, Has T [(0, (.msl 1 lo0p 0 (List.length aA))), (1, (eI a1)), (2, (eI b2)), (7, (eI i7)), (8, (eI j8))] ∧ aJ ⟨H0, [lo0p], []⟩ H [(lo0p, 1, List.map (eI) aA)] ∧ List.length aA = N0 ∧ fL aA a1 b2 i7 j8 = some r) ?_ ⟨aA, wR (a1 + (1 : Int)), (0 : Int), .eq (by kernel_rfl), hO, hN, h0⟩
  clear hO hN h0
  rintro T H ⟨aA, i7, j8, hT, hO, hN, h0⟩
  refine bA hT ?_
  clear hT
  unfold fL at h0
  obtain ⟨rr0, hl0, h0⟩ := aX h0
  refine cZ (by kernel_rfl) (fun (s : List Int × Int × Int) T H => Has T [(0, (.msl 1 lo0p 0 (List.length s.1))), (1, (eI a1)), (2, (eI b2)), (7, (eI s.2.1)), (8, (eI s.2.2))] ∧ aJ ⟨H0, [lo0p], []⟩ H [(lo0p, 1, List.map (eI) s.1)] ∧ List.length s.1 = N0) hl0 ⟨.eq (by kernel_rfl), hO, hN⟩ ?_
  clear hO hN
  rintro k0 s out1 T H ⟨hT, hO, hN⟩ h1 ho0
  obtain ⟨aA, i7, j8⟩ := s
  replace h1 : bR a1 b2 aA i7 j8 = some out1 := h1
  try dsimp only at hT
  refine bA hT ?_
  clear hT
  unfold bR at h1
  refine aN ?_
  refine aS aD 2 [] [(14, (aE (decide (j8 < (5 : Int)))))] ?_
  refine bM h1 (fun h1 => ?_) (fun h1 => ?_)
  · refine bL ?_
    refine bG [(0, (.msl 1 lo0p 0 (List.length aA))), (1, (eI a1)), (2, (eI b2)), (7, (eI i7)), (8, (eI j8))] ?_
    refine eT (fun T H => ∃ aA : List Int, ∃ i7 : Int, Has T [(0, (.msl 1 lo0p 0 (List.length aA))), (1, (eI a1)), (2, (eI b2)), (7, (eI i7)), (8, (eI j8))] ∧ aJ ⟨H0, [lo0p], []⟩ H [(lo0p, 1, List.map (eI) aA)] ∧ List.length aA = N0 ∧ dF aA a1 b2 i7 j8 = some out1) ?_ ?_
    · clear hO hN h1
      rintro T H ⟨aA, i7, hT, hO, hN, h1⟩
      refine bA hT ?_
      clear hT
      unfold dF at h1
      refine aU aD 3 ?_
      refine bE ?_
      exact aG (aF (⟨rfl, _, (oI h1).symm, .eq (by kernel_rfl), hO, hN⟩))
    refine cE 1 ?_
    refine eT (fun T H => ∃ aA : List Int, ∃ i7 : Int, Has T [(0, (.msl 1 lo0p 0 (List.length aA))), (1, (eI a1)), (2, (eI b2)), (7, (eI i7)), (8, (eI j8))] ∧ aJ ⟨H0, [lo0p], []⟩ H [(lo0p, 1, List.map (eI) aA)] ∧ List.length aA = N0 ∧ dZ aA a1 b2 i7 j8 = some out1) ?_ ?_
    · clear hO hN h1
      rintro T H ⟨aA, i7, hT, hO, hN, h1⟩
      refine bA hT ?_
      clear hT
      unfold dZ at h1
      refine aN ?_
      refine aS aD 3 [] [(37, (aE (decide (i7 = b2))))] ?_
      refine bM h1 (fun h1 => ?_) (fun h1 => ?_)
      · refine aS aD 1 [1, 2, 7, 8, 37] [(6, (aE true))] ?_
        refine bN ?_
        obtain rfl := oI h1
        obtain rfl : _ = rr0 := ho0
        replace h0 : some (true, aA) = some r := h0
        obtain rfl := oI h0
        exact aG (aQ (bO (aQ (aQ (bO (aQ (lU (x := (aE true)) (by kernel_rfl) (aM.refl _) ⟨rfl, hO.ext, hO.at 0 (by kernel_rfl), by first | rfl | (simp only [List.length_map]; exact hN.trans hN0)⟩)))))))
      refine bL ?_
      refine bG [(0, (.msl 1 lo0p 0 (List.length aA))), (1, (eI a1)), (2, (eI b2)), (7, (eI i7)), (8, (eI j8))] ?_
      refine aN ?_
      refine aS aD 4 [] [(41, (aE (decide ((wR (b2 - a1)) < (50 : Int)))))] ?_
      refine bM h1 (fun h1 => ?_) (fun h1 => ?_)
      · refine aS aD 1 [1, 2, 7, 8, 41] [(6, (aE false))] ?_
        refine bN ?_
        obtain rfl := oI h1
        obtain rfl : _ = rr0 := ho0
        replace h0 : some (false, aA) = some r := h0
        obtain rfl := oI h0
        exact aG (aQ (bO (aQ (aQ (bO (aQ (lU (x := (aE false)) (by kernel_rfl) (aM.refl _) ⟨rfl, hO.ext, hO.at 0 (by kernel_rfl), by first | rfl | (simp only [List.length_map]; exact hN.trans hN0)⟩)))))))
      refine bL ?_
      refine bG [(0, (.msl 1 lo0p 0 (List.length aA))), (1, (eI a1)), (2, (eI b2)), (7, (eI i7)), (8, (eI j8))] ?_
      refine aN ?_
      refine fS (fR []) aD 18 ?_
      obtain ⟨c4, h1⟩ := aV h1
      refine cF 9 [0 ≤ (wR (i7 - (1 : Int))) ∧ (wR (i7 - (1 : Int))) < (lN aA)] ⟨c4, trivial⟩ ?_
      refine gS 0 lo0p 1 (0 + Int.toNat (wR (i7 - (1 : Int)))) (eI (gD aA (wR (i7 - (1 : Int))))) (eI (gD aA (wR (i7 - (1 : Int))))) (List.map (eI) aA) hO (bW c4) ?_
      obtain ⟨c5, h1⟩ := aV h1
      refine cF 13 [0 ≤ i7 ∧ i7 < (lN aA)] ⟨c5, trivial⟩ ?_
      refine gS 0 lo0p 1 (0 + Int.toNat i7) (eI (gD aA i7)) (eI (gD aA i7)) (List.map (eI) aA) hO (bW c5) ?_
      obtain ⟨c6, h1⟩ := aV h1
      refine cF 15 [0 ≤ i7 ∧ i7 < (lN aA)] ⟨c6, trivial⟩ ?_
      refine kI 0 lo0p 1 (0 + Int.toNat i7) (eI (gD aA i7)) (eI (gD aA (wR (i7 - (1 : Int))))) (List.map (eI) aA) [(lo0p, 1, List.map (eI) (List.set aA (Int.toNat i7) (gD aA (wR (i7 - (1 : Int))))))] hO (bW c6) (by simp only [List.set, gM]) ?_
      intro H hO
      replace hN : List.length (List.set aA (Int.toNat i7) (gD aA (wR (i7 - (1 : Int))))) = N0 := by simpa using hN
      obtain ⟨c7, h1⟩ := aV h1
      refine cF 17 [0 ≤ (wR (i7 - (1 : Int))) ∧ (wR (i7 - (1 : Int))) < (lN aA)] ⟨c7, trivial⟩ ?_
      refine kI 0 lo0p 1 (0 + Int.toNat (wR (i7 - (1 : Int)))) (eI (gD (List.set aA (Int.toNat i7) (gD aA (wR (i7 - (1 : Int))))) (wR (i7 - (1 : Int))))) (eI (gD aA i7)) (List.map (eI) (List.set aA (Int.toNat i7) (gD aA (wR (i7 - (1 : Int)))))) [(lo0p, 1, List.map (eI) (List.set (List.set aA (Int.toNat i7) (gD aA (wR (i7 - (1 : Int))))) (Int.toNat (wR (i7 - (1 : Int)))) (gD aA i7)))] hO (lO c7 (by simp [])) (by simp only [List.set, gM]) ?_
      intro H hO
      replace hN : List.length (List.set (List.set aA (Int.toNat i7) (gD aA (wR (i7 - (1 : Int))))) (Int.toNat (wR (i7 - (1 : Int)))) (gD aA i7)) = N0 := by simpa using hN
      refine mQ (by kernel_rfl) ?_
      refine dG (l := [(0, (.msl 1 lo0p 0 (List.length (List.set (List.set aA (Int.toNat i7) (gD aA (wR (i7 - (1 : Int))))) (Int.toNat (wR (i7 - (1 : Int)))) (gD aA i7))))), (1, (eI a1)), (2, (eI b2)), (7, (eI i7)), (8, (eI j8))]) ⟨[(0, (.msl 1 lo0p 0 (List.length aA))), (1, (eI a1)), (2, (eI b2)), (7, (eI i7)), (8, (eI j8))], by kernel_rfl, rfl, ⟨aM.eq (by simp []), aM.refl _, aM.refl _, aM.refl _, aM.refl _, trivial⟩⟩ ?_
      refine aG (aF (?_))
      refine eT (fun T H => ∃ aA : List Int, Has T [(0, (.msl 1 lo0p 0 (List.length aA))), (1, (eI a1)), (2, (eI b2)), (7, (eI i7)), (8, (eI j8))] ∧ aJ ⟨H0, [lo0p], []⟩ H [(lo0p, 1, List.map (eI) aA)] ∧ List.length aA = N0 ∧ cG aA a1 b2 i7 j8 = some out1) ?_ ?_
      · clear hO hN h1
        rintro T H ⟨aA, hT, hO, hN, h1⟩
        refine bA hT ?_
        clear hT
        unfold cG at h1
        refine aS aD 4 [] [(98, (aE (decide ((2 : Int) ≤ (wR (b2 - i7))))))] ?_
        refine bM h1 (fun h1 => ?_) (fun h1 => ?_)
        · refine aS aD 3 [98] [(10, (eI (wR (i7 + (1 : Int)))))] ?_
          refine cE 6 ?_
          refine fT [(0, (.msl 1 lo0p 0 (List.length aA))), (1, (eI a1)), (2, (eI b2)), (7, (eI i7)), (8, (eI j8)), (10, (eI (wR (i7 + (1 : Int)))))] ?_
          refine eO (fun T H => ∃ aA : List Int, ∃ j10 : Int, Has T [(0, (.msl 1 lo0p 0 (List.length aA))), (1, (eI a1)), (2, (eI b2)), (7, (eI i7)), (8, (eI j8)), (10, (eI j10))] ∧ aJ ⟨H0, [lo0p], []⟩ H [(lo0p, 1, List.map (eI) aA)] ∧ List.length aA = N0 ∧ fN aA a1 b2 i7 j8 j10 = some out1) ?_ ⟨aA, wR (i7 + (1 : Int)), .eq (by kernel_rfl), hO, hN, h1⟩
          clear hO hN h1
          rintro T H ⟨aA, j10, hT, hO, hN, h1⟩
          refine bA hT ?_
          clear hT
          unfold fN at h1
          obtain ⟨rr1, hl1, h1⟩ := aX h1
          refine cZ (by kernel_rfl) (fun (s : List Int × Int) T H => Has T [(0, (.msl 1 lo0p 0 (List.length s.1))), (1, (eI a1)), (2, (eI b2)), (7, (eI i7)), (8, (eI j8)), (10, (eI s.2))] ∧ aJ ⟨H0, [lo0p], []⟩ H [(lo0p, 1, List.map (eI) s.1)] ∧ List.length s.1 = N0) hl1 ⟨.eq (by kernel_rfl), hO, hN⟩ ?_
          clear hO hN
          rintro k1 s out2 T H ⟨hT, hO, hN⟩ h2 ho1
          obtain ⟨aA, j10⟩ := s
          replace h2 : cL a1 b2 i7 j8 aA j10 = some out2 := h2
          try dsimp only at hT
          refine bA hT ?_
          clear hT
          unfold cL at h2
          refine aN ?_
          refine aS aD 3 [] [(103, (aE (decide (j10 < b2))))] ?_
          refine bM h2 (fun h2 => ?_) (fun h2 => ?_)
          · refine bL ?_
            refine bG [(0, (.msl 1 lo0p 0 (List.length aA))), (1, (eI a1)), (2, (eI b2)), (7, (eI i7)), (8, (eI j8)), (10, (eI j10))] ?_
            refine aN ?_
            refine cE 7 ?_
            refine aN ?_
            refine aN ?_
            refine fS (fR [115]) aD 11 ?_
            obtain ⟨c10, h2⟩ := aV h2
            refine cF 3 [0 ≤ j10 ∧ j10 < (lN aA)] ⟨c10, trivial⟩ ?_
            refine gS 0 lo0p 1 (0 + Int.toNat j10) (eI (gD aA j10)) (eI (gD aA j10)) (List.map (eI) aA) hO (bW c10) ?_
            obtain ⟨c11, h2⟩ := aV h2
            refine cF 8 [0 ≤ (wR (j10 - (1 : Int))) ∧ (wR (j10 - (1 : Int))) < (lN aA)] ⟨c11, trivial⟩ ?_
            refine gS 0 lo0p 1 (0 + Int.toNat (wR (j10 - (1 : Int)))) (eI (gD aA (wR (j10 - (1 : Int))))) (eI (gD aA (wR (j10 - (1 : Int))))) (List.map (eI) aA) hO (bW c11) ?_
            obtain ⟨x12, hx13, h2⟩ := aX h2
            refine DD (fG (gD aA j10) (gD aA (wR (j10 - (1 : Int)))) _ hx13) hO ?_
            intro H hO
            refine jZ ?_
            refine bY [] [(116, (aE (!x12)))] ?_
            refine bM h2 (fun h2 => ?_) (fun h2 => ?_)
            · refine gC 6 ?_
              obtain rfl := oI h2
              obtain rfl : _ = rr1 := ho1
              replace h1 : dF aA a1 b2 i7 j8 = some out1 := h1
              exact aG (aT (qC (by kernel_rfl) (aT (aT (bS (aW (aF (⟨rfl, _, _, .eq (by kernel_rfl), hO, hN, h1⟩))))))))
            refine bL ?_
            refine bG [(0, (.msl 1 lo0p 0 (List.length aA))), (1, (eI a1)), (2, (eI b2)), (7, (eI i7)), (8, (eI j8)), (10, (eI j10))] ?_
            refine fS (fR []) aD 18 ?_
            obtain ⟨c16, h2⟩ := aV h2
            refine cF 9 [0 ≤ (wR (j10 - (1 : Int))) ∧ (wR (j10 - (1 : Int))) < (lN aA)] ⟨c16, trivial⟩ ?_
            refine gS 0 lo0p 1 (0 + Int.toNat (wR (j10 - (1 : Int)))) (eI (gD aA (wR (j10 - (1 : Int))))) (eI (gD aA (wR (j10 - (1 : Int))))) (List.map (eI) aA) hO (bW c16) ?_
            obtain ⟨c17, h2⟩ := aV h2
            refine cF 13 [0 ≤ j10 ∧ j10 < (lN aA)] ⟨c17, trivial⟩ ?_
            refine gS 0 lo0p 1 (0 + Int.toNat j10) (eI (gD aA j10)) (eI (gD aA j10)) (List.map (eI) aA) hO (bW c17) ?_
            obtain ⟨c18, h2⟩ := aV h2
            refine cF 15 [0 ≤ j10 ∧ j10 < (lN aA)] ⟨c18, trivial⟩ ?_
            refine kI 0 lo0p 1 (0 + Int.toNat j10) (eI (gD aA j10)) (eI (gD aA (wR (j10 - (1 : Int))))) (List.map (eI) aA) [(lo0p, 1, List.map (eI) (List.set aA (Int.toNat j10) (gD aA (wR (j10 - (1 : Int))))))] hO (bW c18) (by simp only [List.set, gM]) ?_
            intro H hO
            replace hN : List.length (List.set aA (Int.toNat j10) (gD aA (wR (j10 - (1 : Int))))) = N0 := by simpa using hN
            obtain ⟨c19, h2⟩ := aV h2
            refine cF 17 [0 ≤ (wR (j10 - (1 : Int))) ∧ (wR (j10 - (1 : Int))) < (lN aA)] ⟨c19, trivial⟩ ?_
            refine kI 0 lo0p 1 (0 + Int.toNat (wR (j10 - (1 : Int)))) (eI (gD (List.set aA (Int.toNat j10) (gD aA (wR (j10 - (1 : Int))))) (wR (j10 - (1 : Int))))) (eI (gD aA j10)) (List.map (eI) (List.set aA (Int.toNat j10) (gD aA (wR (j10 - (1 : Int)))))) [(lo0p, 1, List.map (eI) (List.set (List.set aA (Int.toNat j10) (gD aA (wR (j10 - (1 : Int))))) (Int.toNat (wR (j10 - (1 : Int)))) (gD aA j10)))] hO (lO c19 (by simp [])) (by simp only [List.set, gM]) ?_
            intro H hO
            replace hN : List.length (List.set (List.set aA (Int.toNat j10) (gD aA (wR (j10 - (1 : Int))))) (Int.toNat (wR (j10 - (1 : Int)))) (gD aA j10)) = N0 := by simpa using hN
            refine mQ (by kernel_rfl) ?_
            refine dG (l := [(0, (.msl 1 lo0p 0 (List.length (List.set (List.set aA (Int.toNat j10) (gD aA (wR (j10 - (1 : Int))))) (Int.toNat (wR (j10 - (1 : Int)))) (gD aA j10))))), (1, (eI a1)), (2, (eI b2)), (7, (eI i7)), (8, (eI j8)), (10, (eI j10))]) ⟨[(0, (.msl 1 lo0p 0 (List.length aA))), (1, (eI a1)), (2, (eI b2)), (7, (eI i7)), (8, (eI j8)), (10, (eI j10))], by kernel_rfl, rfl, ⟨aM.eq (by simp []), aM.refl _, aM.refl _, aM.refl _, aM.refl _, aM.refl _, trivial⟩⟩ ?_
            refine aG (aW (aF (?_)))
            refine aU aD 3 ?_
            refine bE ?_
            exact aG (aF (⟨rfl, _, (oI h2).symm, .eq (by kernel_rfl), hO, hN⟩))
          refine gC 6 ?_
          obtain rfl := oI h2
          obtain rfl : _ = rr1 := ho1
          replace h1 : dF aA a1 b2 i7 j8 = some out1 := h1
          exact aG (aT (aT (bS (aW (aF (⟨rfl, _, _, .eq (by kernel_rfl), hO, hN, h1⟩))))))
        refine bL ?_
        exact aG (aW (aF (⟨rfl, _, _, .eq (by kernel_rfl), hO, hN, h1⟩)))
      refine aS aD 4 [] [(61, (aE (decide ((2 : Int) ≤ (wR (i7 - a1))))))] ?_
      refine bM h1 (fun h1 => ?_) (fun h1 => ?_)
      · refine aS aD 3 [61] [(9, (eI (wR (i7 - (1 : Int)))))] ?_
        refine cE 4 ?_
        refine fT [(0, (.msl 1 lo0p 0 (List.length (List.set (List.set aA (Int.toNat i7) (gD aA (wR (i7 - (1 : Int))))) (Int.toNat (wR (i7 - (1 : Int)))) (gD aA i7))))), (1, (eI a1)), (2, (eI b2)), (7, (eI i7)), (8, (eI j8)), (9, (eI (wR (i7 - (1 : Int)))))] ?_
        refine eO (fun T H => ∃ aA : List Int, ∃ j9 : Int, Has T [(0, (.msl 1 lo0p 0 (List.length aA))), (1, (eI a1)), (2, (eI b2)), (7, (eI i7)), (8, (eI j8)), (9, (eI j9))] ∧ aJ ⟨H0, [lo0p], []⟩ H [(lo0p, 1, List.map (eI) aA)] ∧ List.length aA = N0 ∧ fM aA a1 b2 i7 j8 j9 = some out1) ?_ ⟨List.set (List.set aA (Int.toNat i7) (gD aA (wR (i7 - (1 : Int))))) (Int.toNat (wR (i7 - (1 : Int)))) (gD aA i7), wR (i7 - (1 : Int)), .eq (by kernel_rfl), hO, hN, h1⟩
        clear hO hN h1
        rintro T H ⟨aA, j9, hT, hO, hN, h1⟩
        refine bA hT ?_
        clear hT
        unfold fM at h1
        obtain ⟨rr1, hl1, h1⟩ := aX h1
        refine cZ (by kernel_rfl) (fun (s : List Int × Int) T H => Has T [(0, (.msl 1 lo0p 0 (List.length s.1))), (1, (eI a1)), (2, (eI b2)), (7, (eI i7)), (8, (eI j8)), (9, (eI s.2))] ∧ aJ ⟨H0, [lo0p], []⟩ H [(lo0p, 1, List.map (eI) s.1)] ∧ List.length s.1 = N0) hl1 ⟨.eq (by kernel_rfl), hO, hN⟩ ?_
        clear hO hN
        rintro k1 s out2 T H ⟨hT, hO, hN⟩ h2 ho1
        obtain ⟨aA, j9⟩ := s
        replace h2 : cH a1 b2 i7 j8 aA j9 = some out2 := h2
        try dsimp only at hT
        refine bA hT ?_
        clear hT
        unfold cH at h2
        refine aN ?_
        refine aS aD 2 [] [(65, (aE (decide ((1 : Int) ≤ j9))))] ?_
        refine bM h2 (fun h2 => ?_) (fun h2 => ?_)
        · refine bL ?_
          refine bG [(0, (.msl 1 lo0p 0 (List.length aA))), (1, (eI a1)), (2, (eI b2)), (7, (eI i7)), (8, (eI j8)), (9, (eI j9))] ?_
          refine aN ?_
          refine cE 5 ?_
          refine aN ?_
          refine aN ?_
          refine fS (fR [77]) aD 11 ?_
          obtain ⟨c22, h2⟩ := aV h2
          refine cF 3 [0 ≤ j9 ∧ j9 < (lN aA)] ⟨c22, trivial⟩ ?_
          refine gS 0 lo0p 1 (0 + Int.toNat j9) (eI (gD aA j9)) (eI (gD aA j9)) (List.map (eI) aA) hO (bW c22) ?_
          obtain ⟨c23, h2⟩ := aV h2
          refine cF 8 [0 ≤ (wR (j9 - (1 : Int))) ∧ (wR (j9 - (1 : Int))) < (lN aA)] ⟨c23, trivial⟩ ?_
          refine gS 0 lo0p 1 (0 + Int.toNat (wR (j9 - (1 : Int)))) (eI (gD aA (wR (j9 - (1 : Int))))) (eI (gD aA (wR (j9 - (1 : Int))))) (List.map (eI) aA) hO (bW c23) ?_
          obtain ⟨x24, hx25, h2⟩ := aX h2
          refine DD (fG (gD aA j9) (gD aA (wR (j9 - (1 : Int)))) _ hx25) hO ?_
          intro H hO
          refine jZ ?_
          refine bY [] [(78, (aE (!x24)))] ?_
          refine bM h2 (fun h2 => ?_) (fun h2 => ?_)
          · refine gC 4 ?_
            obtain rfl := oI h2
            obtain rfl : _ = rr1 := ho1
            replace h1 : cG aA a1 b2 i7 j8 = some out1 := h1
            exact aG (aT (qC (by kernel_rfl) (aT (aT (bS (aF (⟨rfl, _, .eq (by kernel_rfl), hO, hN, h1⟩)))))))
          refine bL ?_
          refine bG [(0, (.msl 1 lo0p 0 (List.length aA))), (1, (eI a1)), (2, (eI b2)), (7, (eI i7)), (8, (eI j8)), (9, (eI j9))] ?_
          refine fS (fR []) aD 18 ?_
          obtain ⟨c28, h2⟩ := aV h2
          refine cF 9 [0 ≤ (wR (j9 - (1 : Int))) ∧ (wR (j9 - (1 : Int))) < (lN aA)] ⟨c28, trivial⟩ ?_
          refine gS 0 lo0p 1 (0 + Int.toNat (wR (j9 - (1 : Int)))) (eI (gD aA (wR (j9 - (1 : Int))))) (eI (gD aA (wR (j9 - (1 : Int))))) (List.map (eI) aA) hO (bW c28) ?_
          obtain ⟨c29, h2⟩ := aV h2
          refine cF 13 [0 ≤ j9 ∧ j9 < (lN aA)] ⟨c29, trivial⟩ ?_
          refine gS 0 lo0p 1 (0 + Int.toNat j9) (eI (gD aA j9)) (eI (gD aA j9)) (List.map (eI) aA) hO (bW c29) ?_
          obtain ⟨c30, h2⟩ := aV h2
          refine cF 15 [0 ≤ j9 ∧ j9 < (lN aA)] ⟨c30, trivial⟩ ?_
          refine kI 0 lo0p 1 (0 + Int.toNat j9) (eI (gD aA j9)) (eI (gD aA (wR (j9 - (1 : Int))))) (List.map (eI) aA) [(lo0p, 1, List.map (eI) (List.set aA (Int.toNat j9) (gD aA (wR (j9 - (1 : Int))))))] hO (bW c30) (by simp only [List.set, gM]) ?_
          intro H hO
          replace hN : List.length (List.set aA (Int.toNat j9) (gD aA (wR (j9 - (1 : Int))))) = N0 := by simpa using hN
          obtain ⟨c31, h2⟩ := aV h2
          refine cF 17 [0 ≤ (wR (j9 - (1 : Int))) ∧ (wR (j9 - (1 : Int))) < (lN aA)] ⟨c31, trivial⟩ ?_
          refine kI 0 lo0p 1 (0 + Int.toNat (wR (j9 - (1 : Int)))) (eI (gD (List.set aA (Int.toNat j9) (gD aA (wR (j9 - (1 : Int))))) (wR (j9 - (1 : Int))))) (eI (gD aA j9)) (List.map (eI) (List.set aA (Int.toNat j9) (gD aA (wR (j9 - (1 : Int)))))) [(lo0p, 1, List.map (eI) (List.set (List.set aA (Int.toNat j9) (gD aA (wR (j9 - (1 : Int))))) (Int.toNat (wR (j9 - (1 : Int)))) (gD aA j9)))] hO (lO c31 (by simp [])) (by simp only [List.set, gM]) ?_
          intro H hO
          replace hN : List.length (List.set (List.set aA (Int.toNat j9) (gD aA (wR (j9 - (1 : Int))))) (Int.toNat (wR (j9 - (1 : Int)))) (gD aA j9)) = N0 := by simpa using hN
          refine mQ (by kernel_rfl) ?_
          refine dG (l := [(0, (.msl 1 lo0p 0 (List.length (List.set (List.set aA (Int.toNat j9) (gD aA (wR (j9 - (1 : Int))))) (Int.toNat (wR (j9 - (1 : Int)))) (gD aA j9))))), (1, (eI a1)), (2, (eI b2)), (7, (eI i7)), (8, (eI j8)), (9, (eI j9))]) ⟨[(0, (.msl 1 lo0p 0 (List.length aA))), (1, (eI a1)), (2, (eI b2)), (7, (eI i7)), (8, (eI j8)), (9, (eI j9))], by kernel_rfl, rfl, ⟨aM.eq (by simp []), aM.refl _, aM.refl _, aM.refl _, aM.refl _, aM.refl _, trivial⟩⟩ ?_
          refine aG (aW (aF (?_)))
          refine aU aD 3 ?_
          refine bE ?_
          exact aG (aF (⟨rfl, _, (oI h2).symm, .eq (by kernel_rfl), hO, hN⟩))
        refine gC 4 ?_
        obtain rfl := oI h2
        obtain rfl : _ = rr1 := ho1
        replace h1 : cG aA a1 b2 i7 j8 = some out1 := h1
        exact aG (aT (aT (bS (aF (⟨rfl, _, .eq (by kernel_rfl), hO, hN, h1⟩)))))
      refine bL ?_
      exact aG (aF (⟨rfl, _, .eq (by kernel_rfl), hO, hN, h1⟩))
    refine cE 2 ?_
    refine fT [(0, (.msl 1 lo0p 0 (List.length aA))), (1, (eI a1)), (2, (eI b2)), (7, (eI i7)), (8, (eI j8))] ?_
    refine eO (fun T H => ∃ aA : List Int, ∃ i7 : Int, Has T [(0, (.msl 1 lo0p 0 (List.length aA))), (1, (eI a1)), (2, (eI b2)), (7, (eI i7)), (8, (eI j8))] ∧ aJ ⟨H0, [lo0p], []⟩ H [(lo0p, 1, List.map (eI) aA)] ∧ List.length aA = N0 ∧ cT aA a1 b2 i7 j8 = some out1) ?_ ⟨aA, i7, .eq (by kernel_rfl), hO, hN, h1⟩
    clear hO hN h1
    rintro T H ⟨aA, i7, hT, hO, hN, h1⟩
    refine bA hT ?_
    clear hT
    unfold cT at h1
    obtain ⟨rr1, hl1, h1⟩ := aX h1
    refine cZ (by kernel_rfl) (fun (s : List Int × Int) T H => Has T [(0, (.msl 1 lo0p 0 (List.length s.1))), (1, (eI a1)), (2, (eI b2)), (7, (eI s.2)), (8, (eI j8))] ∧ aJ ⟨H0, [lo0p], []⟩ H [(lo0p, 1, List.map (eI) s.1)] ∧ List.length s.1 = N0) hl1 ⟨.eq (by kernel_rfl), hO, hN⟩ ?_
    clear hO hN
    rintro k1 s out2 T H ⟨hT, hO, hN⟩ h2 ho1
    obtain ⟨aA, i7⟩ := s
    replace h2 : cK a1 b2 j8 aA i7 = some out2 := h2
    try dsimp only at hT
    refine bA hT ?_
    clear hT
    unfold cK at h2
    refine aN ?_
    refine aN ?_
    obtain ⟨c32, h2⟩ := aV h2
    obtain ⟨c33, h2⟩ := aV h2
    obtain ⟨x34, hx35, h2⟩ := aX h2
    refine fS (fR []) aD 16 ?_
    refine nT (K := fun T H => Has (lift T) [(0, (.msl 1 lo0p 0 (List.length aA))), (1, (eI a1)), (2, (eI b2)), (7, (eI i7)), (8, (eI j8)), (32, (aE ((decide (i7 < b2)) && (!x34))))] ∧ aJ ⟨H0, [lo0p], []⟩ H [(lo0p, 1, List.map (eI) aA)]) ?_ ?_
    · refine oR 4 ?_
      refine mW (t := 20) (e := decide (i7 < b2)) (by kernel_rfl) (fun hg36 => ?_) (fun hg36 => ?_)
      · refine cF 7 [0 ≤ i7 ∧ i7 < (lN aA)] ⟨(c32 hg36), trivial⟩ ?_
        refine iW 0 lo0p 1 (0 + Int.toNat i7) (eI (gD aA i7)) (eI (gD aA i7)) (List.map (eI) aA) (by kernel_rfl) (by kernel_rfl) (by kernel_rfl) hO (by kernel_rfl) (bW (c32 hg36)) ?_
        refine cF 12 [0 ≤ (wR (i7 - (1 : Int))) ∧ (wR (i7 - (1 : Int))) < (lN aA)] ⟨(c33 hg36), trivial⟩ ?_
        refine iW 0 lo0p 1 (0 + Int.toNat (wR (i7 - (1 : Int)))) (eI (gD aA (wR (i7 - (1 : Int))))) (eI (gD aA (wR (i7 - (1 : Int))))) (List.map (eI) aA) (by kernel_rfl) (by kernel_rfl) (by kernel_rfl) hO (by kernel_rfl) (bW (c33 hg36)) ?_
        refine mX 70 [(eI (gD aA i7)), (eI (gD aA (wR (i7 - (1 : Int)))))] (aE x34) (by kernel_rfl) (by kernel_rfl) (fG (gD aA i7) (gD aA (wR (i7 - (1 : Int)))) _ (jR hx35 hg36)) hO ?_
        intro H hO
        refine jZ ?_
        exact ⟨⟨[(0, (.msl 1 lo0p 0 (List.length aA))), (1, (eI a1)), (2, (eI b2)), (7, (eI i7)), (8, (eI j8)), (32, (aE (!x34)))], by kernel_rfl, rfl, ⟨aM.refl _, aM.refl _, aM.refl _, aM.refl _, aM.refl _, aM.eq (congrArg aE (kW hg36 rfl).symm), trivial⟩⟩, hO⟩
      refine jZ ?_
      exact ⟨⟨[(0, (.msl 1 lo0p 0 (List.length aA))), (1, (eI a1)), (2, (eI b2)), (7, (eI i7)), (8, (eI j8)), (32, (aE false))], by kernel_rfl, rfl, ⟨aM.refl _, aM.refl _, aM.refl _, aM.refl _, aM.refl _, aM.eq (congrArg aE (kW hg36 rfl).symm), trivial⟩⟩, hO⟩
    · rintro T H ⟨hT, hO⟩
      refine dG hT ?_
      clear hT
      refine aG (aF ?_)
      refine bM h2 (fun h2 => ?_) (fun h2 => ?_)
      · refine bL ?_
        refine bG [(0, (.msl 1 lo0p 0 (List.length aA))), (1, (eI a1)), (2, (eI b2)), (7, (eI i7)), (8, (eI j8))] ?_
        refine cE 3 ?_
        refine aU aD 3 ?_
        refine bE ?_
        exact aG (aW (aF (⟨rfl, _, (oI h2).symm, .eq (by kernel_rfl), hO, hN⟩)))
      refine gC 2 ?_
      obtain rfl := oI h2
      obtain rfl : _ = rr1 := ho1
      replace h1 : dZ aA a1 b2 i7 j8 = some out1 := h1
      exact aG (aT (aT (bS (aF (⟨rfl, _, _, .eq (by kernel_rfl), hO, hN, h1⟩)))))
  refine gC 0 ?_
  obtain rfl := oI h1
  obtain rfl : _ = rr0 := ho0
  replace h0 : eA aA = some r := h0
  exact aG (aT (aT (bS (aF (⟨rfl, _, .eq (by kernel_rfl), hO, hN, h0⟩)))))

theorem sE (lo0p : Nat) (aA : (List Int)) (a1 : Int) (b2 : Int) (cI : Int) (r : (Int × List Int)) (h0 : eJ aA a1 b2 cI = some r) : lW Try.prog 85 lo0p 1 (List.map (eI) aA) (List.map (eI) r.2) [(.msl 1 lo0p 0 (List.length aA)), (eI a1), (eI b2), (eI cI)] (eI r.1) := by
  intro H0 hl0
  refine dR Try.func85 ?_
  have hO := aJ.rK hl0
  clear hl0
  obtain ⟨N0, hN0⟩ : ∃ n, n = List.length aA := ⟨_, rfl⟩
  have hN : List.length aA = N0 := hN0.symm
  unfold eJ at h0
  refine aS aD 1 [] [] ?_
  refine aN ?_
  refine fS (fR []) aD 16 ?_
  obtain ⟨c1, h0⟩ := aV h0
  refine cF 7 [0 ≤ cI ∧ cI < (lN aA)] ⟨c1, trivial⟩ ?_
  refine gS 0 lo0p 1 (0 + Int.toNat cI) (eI (gD aA cI)) (eI (gD aA cI)) (List.map (eI) aA) hO (bW c1) ?_
  obtain ⟨c2, h0⟩ := aV h0
  refine cF 11 [0 ≤ a1 ∧ a1 < (lN aA)] ⟨c2, trivial⟩ ?_
  refine gS 0 lo0p 1 (0 + Int.toNat a1) (eI (gD aA a1)) (eI (gD aA a1)) (List.map (eI) aA) hO (bW c2) ?_
  obtain ⟨c3, h0⟩ := aV h0
  refine cF 13 [0 ≤ a1 ∧ a1 < (lN aA)] ⟨c3, trivial⟩ ?_
  refine kI 0 lo0p 1 (0 + Int.toNat a1) (eI (gD aA a1)) (eI (gD aA cI)) (List.map (eI) aA) [(lo0p, 1, List.map (eI) (List.set aA (Int.toNat a1) (gD aA cI)))] hO (bW c3) (by simp only [List.set, gM]) ?_
  intro H hO
  replace hN : List.length (List.set aA (Int.toNat a1) (gD aA cI)) = N0 := by simpa using hN
  obtain ⟨c4, h0⟩ := aV h0
  refine cF 15 [0 ≤ cI ∧ cI < (lN aA)] ⟨c4, trivial⟩ ?_
  refine kI 0 lo0p 1 (0 + Int.toNat cI) (eI (gD (List.set aA (Int.toNat a1) (gD aA cI)) cI)) (eI (gD aA a1)) (List.map (eI) (List.set aA (Int.toNat a1) (gD aA cI))) [(lo0p, 1, List.map (eI) (List.set (List.set aA (Int.toNat a1) (gD aA cI)) (Int.toNat cI) (gD aA a1)))] hO (lO c4 (by simp [])) (by simp only [List.set, gM]) ?_
  intro H hO
  replace hN : List.length (List.set (List.set aA (Int.toNat a1) (gD aA cI)) (Int.toNat cI) (gD aA a1)) = N0 := by simpa using hN
  refine mQ (by kernel_rfl) ?_
  refine dG (l := [(0, (.msl 1 lo0p 0 (List.length (List.set (List.set aA (Int.toNat a1) (gD aA cI)) (Int.toNat cI) (gD aA a1))))), (1, (eI a1)), (2, (eI b2))]) ⟨[(0, (.msl 1 lo0p 0 (List.length aA))), (1, (eI a1)), (2, (eI b2))], by kernel_rfl, rfl, ⟨aM.eq (by simp []), aM.refl _, aM.refl _, trivial⟩⟩ ?_
  refine aG (aF (?_))
  refine aS aD 6 [2] [(9, (eI (wR (a1 + (1 : Int))))), (10, (eI (wR (b2 - (1 : Int)))))] ?_
  refine eT (fun T H => ∃ aA : List Int, ∃ i9 : Int, Has T [(0, (.msl 1 lo0p 0 (List.length aA))), (9, (eI i9))] ∧ aJ ⟨H0, [lo0p], []⟩ H [(lo0p, 1, List.map (eI) aA)] ∧ List.length aA = N0 ∧ iD aA i9 = some r) ?_ ?_
  · clear hO hN h0
    rintro T H ⟨aA, i9, hT, hO, hN, h0⟩
    refine bA hT ?_
    clear hT
    unfold iD at h0
    refine aS aD 2 [9] [(8, (eI i9))] ?_
    refine bN ?_
    obtain rfl := oI h0
    exact aG (lU (x := (eI i9)) (by kernel_rfl) (aM.refl _) ⟨rfl, hO.ext, hO.at 0 (by kernel_rfl), by first | rfl | (simp only [List.length_map]; exact hN.trans hN0)⟩)
  refine cE 0 ?_
  refine fT [(0, (.msl 1 lo0p 0 (List.length (List.set (List.set aA (Int.toNat a1) (gD aA cI)) (Int.toNat cI) (gD aA a1))))), (1, (eI a1)), (9, (eI (wR (a1 + (1 : Int))))), (10, (eI (wR (b2 - (1 : Int)))))] ?_
  refine eO (fun T H => ∃ aA : List Int, ∃ i9 : Int, ∃ j10 : Int, Has T [(0, (.msl 1 lo0p 0 (List.length aA))), (1, (eI a1)), (9, (eI i9)), (10, (eI j10))] ∧ aJ ⟨H0, [lo0p], []⟩ H [(lo0p, 1, List.map (eI) aA)] ∧ List.length aA = N0 ∧ iE aA a1 i9 j10 = some r) ?_ ⟨List.set (List.set aA (Int.toNat a1) (gD aA cI)) (Int.toNat cI) (gD aA a1), wR (a1 + (1 : Int)), wR (b2 - (1 : Int)), .eq (by kernel_rfl), hO, hN, h0⟩
  clear hO hN h0
  rintro T H ⟨aA, i9, j10, hT, hO, hN, h0⟩
  refine bA hT ?_
  clear hT
  unfold iE at h0
  obtain ⟨rr0, hl0, h0⟩ := aX h0
  refine cZ (by kernel_rfl) (fun (s : List Int × Int × Int) T H => Has T [(0, (.msl 1 lo0p 0 (List.length s.1))), (1, (eI a1)), (9, (eI s.2.1)), (10, (eI s.2.2))] ∧ aJ ⟨H0, [lo0p], []⟩ H [(lo0p, 1, List.map (eI) s.1)] ∧ List.length s.1 = N0) hl0 ⟨.eq (by kernel_rfl), hO, hN⟩ ?_
  clear hO hN
  rintro k0 s out1 T H ⟨hT, hO, hN⟩ h1 ho0
  obtain ⟨aA, i9, j10⟩ := s
  replace h1 : cN a1 aA i9 j10 = some out1 := h1
  try dsimp only at hT
  refine bA hT ?_
  clear hT
  unfold cN at h1
  refine cE 1 ?_
  refine eT (fun T H => ∃ aA : List Int, ∃ i9 : Int, Has T [(0, (.msl 1 lo0p 0 (List.length aA))), (1, (eI a1)), (9, (eI i9)), (10, (eI j10))] ∧ aJ ⟨H0, [lo0p], []⟩ H [(lo0p, 1, List.map (eI) aA)] ∧ List.length aA = N0 ∧ fF aA a1 i9 j10 = some out1) ?_ ?_
  · clear hO hN h1
    rintro T H ⟨aA, i9, hT, hO, hN, h1⟩
    refine bA hT ?_
    clear hT
    unfold fF at h1
    refine eT (fun T H => ∃ aA : List Int, ∃ j10 : Int, Has T [(0, (.msl 1 lo0p 0 (List.length aA))), (1, (eI a1)), (9, (eI i9)), (10, (eI j10))] ∧ aJ ⟨H0, [lo0p], []⟩ H [(lo0p, 1, List.map (eI) aA)] ∧ List.length aA = N0 ∧ dK aA a1 i9 j10 = some out1) ?_ ?_
    · clear hO hN h1
      rintro T H ⟨aA, j10, hT, hO, hN, h1⟩
      refine bA hT ?_
      clear hT
      unfold dK at h1
      refine aN ?_
      refine aS aD 3 [] [(64, (aE (decide (j10 < i9))))] ?_
      refine bM h1 (fun h1 => ?_) (fun h1 => ?_)
      · refine gC 0 ?_
        obtain rfl := oI h1
        obtain rfl : _ = rr0 := ho0
        replace h0 : iD aA i9 = some r := h0
        exact aG (aT (qC (by kernel_rfl) (aT (bS (aF (⟨rfl, _, _, .eq (by kernel_rfl), hO, hN, h0⟩))))))
      refine bL ?_
      refine bG [(0, (.msl 1 lo0p 0 (List.length aA))), (1, (eI a1)), (9, (eI i9)), (10, (eI j10))] ?_
      refine aN ?_
      refine fS (fR []) aD 16 ?_
      obtain ⟨c6, h1⟩ := aV h1
      refine cF 7 [0 ≤ j10 ∧ j10 < (lN aA)] ⟨c6, trivial⟩ ?_
      refine gS 0 lo0p 1 (0 + Int.toNat j10) (eI (gD aA j10)) (eI (gD aA j10)) (List.map (eI) aA) hO (bW c6) ?_
      obtain ⟨c7, h1⟩ := aV h1
      refine cF 11 [0 ≤ i9 ∧ i9 < (lN aA)] ⟨c7, trivial⟩ ?_
      refine gS 0 lo0p 1 (0 + Int.toNat i9) (eI (gD aA i9)) (eI (gD aA i9)) (List.map (eI) aA) hO (bW c7) ?_
      obtain ⟨c8, h1⟩ := aV h1
      refine cF 13 [0 ≤ i9 ∧ i9 < (lN aA)] ⟨c8, trivial⟩ ?_
      refine kI 0 lo0p 1 (0 + Int.toNat i9) (eI (gD aA i9)) (eI (gD aA j10)) (List.map (eI) aA) [(lo0p, 1, List.map (eI) (List.set aA (Int.toNat i9) (gD aA j10)))] hO (bW c8) (by simp only [List.set, gM]) ?_
      intro H hO
      replace hN : List.length (List.set aA (Int.toNat i9) (gD aA j10)) = N0 := by simpa using hN
      obtain ⟨c9, h1⟩ := aV h1
      refine cF 15 [0 ≤ j10 ∧ j10 < (lN aA)] ⟨c9, trivial⟩ ?_
      refine kI 0 lo0p 1 (0 + Int.toNat j10) (eI (gD (List.set aA (Int.toNat i9) (gD aA j10)) j10)) (eI (gD aA i9)) (List.map (eI) (List.set aA (Int.toNat i9) (gD aA j10))) [(lo0p, 1, List.map (eI) (List.set (List.set aA (Int.toNat i9) (gD aA j10)) (Int.toNat j10) (gD aA i9)))] hO (lO c9 (by simp [])) (by simp only [List.set, gM]) ?_
      intro H hO
      replace hN : List.length (List.set (List.set aA (Int.toNat i9) (gD aA j10)) (Int.toNat j10) (gD aA i9)) = N0 := by simpa using hN
      refine mQ (by kernel_rfl) ?_
      refine dG (l := [(0, (.msl 1 lo0p 0 (List.length (List.set (List.set aA (Int.toNat i9) (gD aA j10)) (Int.toNat j10) (gD aA i9))))), (1, (eI a1)), (9, (eI i9)), (10, (eI j10))]) ⟨[(0, (.msl 1 lo0p 0 (List.length aA))), (1, (eI a1)), (9, (eI i9)), (10, (eI j10))], by kernel_rfl, rfl, ⟨aM.eq (by simp []), aM.refl _, aM.refl _, aM.refl _, trivial⟩⟩ ?_
      refine aG (aF (?_))
      refine aS aD 3 [9] [(9, (eI (wR (i9 + (1 : Int)))))] ?_
      refine aU aD 3 ?_
      refine bE ?_
      exact aG (aW (aF (⟨rfl, _, (oI h1).symm, .eq (by kernel_rfl), hO, hN⟩)))
    refine cE 4 ?_
    refine fT [(0, (.msl 1 lo0p 0 (List.length aA))), (1, (eI a1)), (9, (eI i9)), (10, (eI j10))] ?_
    refine eO (fun T H => ∃ aA : List Int, ∃ j10 : Int, Has T [(0, (.msl 1 lo0p 0 (List.length aA))), (1, (eI a1)), (9, (eI i9)), (10, (eI j10))] ∧ aJ ⟨H0, [lo0p], []⟩ H [(lo0p, 1, List.map (eI) aA)] ∧ List.length aA = N0 ∧ iB aA a1 i9 j10 = some out1) ?_ ⟨aA, j10, .eq (by kernel_rfl), hO, hN, h1⟩
    clear hO hN h1
    rintro T H ⟨aA, j10, hT, hO, hN, h1⟩
    refine bA hT ?_
    clear hT
    unfold iB at h1
    obtain ⟨rr1, hl1, h1⟩ := aX h1
    refine cZ (by kernel_rfl) (fun (s : List Int × Int) T H => Has T [(0, (.msl 1 lo0p 0 (List.length s.1))), (1, (eI a1)), (9, (eI i9)), (10, (eI s.2))] ∧ aJ ⟨H0, [lo0p], []⟩ H [(lo0p, 1, List.map (eI) s.1)] ∧ List.length s.1 = N0) hl1 ⟨.eq (by kernel_rfl), hO, hN⟩ ?_
    clear hO hN
    rintro k1 s out2 T H ⟨hT, hO, hN⟩ h2 ho1
    obtain ⟨aA, j10⟩ := s
    replace h2 : dH a1 i9 aA j10 = some out2 := h2
    try dsimp only at hT
    refine bA hT ?_
    clear hT
    unfold dH at h2
    refine aN ?_
    refine aN ?_
    obtain ⟨c10, h2⟩ := aV h2
    obtain ⟨c11, h2⟩ := aV h2
    obtain ⟨x12, hx13, h2⟩ := aX h2
    refine fS (fR []) aD 14 ?_
    refine nT (K := fun T H => Has (lift T) [(0, (.msl 1 lo0p 0 (List.length aA))), (1, (eI a1)), (9, (eI i9)), (10, (eI j10)), (59, (aE ((decide (i9 ≤ j10)) && x12)))] ∧ aJ ⟨H0, [lo0p], []⟩ H [(lo0p, 1, List.map (eI) aA)]) ?_ ?_
    · refine oR 4 ?_
      refine mW (t := 49) (e := decide (i9 ≤ j10)) (by kernel_rfl) (fun hg14 => ?_) (fun hg14 => ?_)
      · refine cF 7 [0 ≤ a1 ∧ a1 < (lN aA)] ⟨(c10 hg14), trivial⟩ ?_
        refine iW 0 lo0p 1 (0 + Int.toNat a1) (eI (gD aA a1)) (eI (gD aA a1)) (List.map (eI) aA) (by kernel_rfl) (by kernel_rfl) (by kernel_rfl) hO (by kernel_rfl) (bW (c10 hg14)) ?_
        refine cF 11 [0 ≤ j10 ∧ j10 < (lN aA)] ⟨(c11 hg14), trivial⟩ ?_
        refine iW 0 lo0p 1 (0 + Int.toNat j10) (eI (gD aA j10)) (eI (gD aA j10)) (List.map (eI) aA) (by kernel_rfl) (by kernel_rfl) (by kernel_rfl) hO (by kernel_rfl) (bW (c11 hg14)) ?_
        refine mX 70 [(eI (gD aA a1)), (eI (gD aA j10))] (aE x12) (by kernel_rfl) (by kernel_rfl) (fG (gD aA a1) (gD aA j10) _ (jR hx13 hg14)) hO ?_
        intro H hO
        refine jZ ?_
        exact ⟨⟨[(0, (.msl 1 lo0p 0 (List.length aA))), (1, (eI a1)), (9, (eI i9)), (10, (eI j10)), (59, (aE x12))], by kernel_rfl, rfl, ⟨aM.refl _, aM.refl _, aM.refl _, aM.refl _, aM.eq (congrArg aE (kW hg14 rfl).symm), trivial⟩⟩, hO⟩
      refine jZ ?_
      exact ⟨⟨[(0, (.msl 1 lo0p 0 (List.length aA))), (1, (eI a1)), (9, (eI i9)), (10, (eI j10)), (59, (aE false))], by kernel_rfl, rfl, ⟨aM.refl _, aM.refl _, aM.refl _, aM.refl _, aM.eq (congrArg aE (kW hg14 rfl).symm), trivial⟩⟩, hO⟩
    · rintro T H ⟨hT, hO⟩
      refine dG hT ?_
      clear hT
      refine aG (aF ?_)
      refine bM h2 (fun h2 => ?_) (fun h2 => ?_)
      · refine bL ?_
        refine bG [(0, (.msl 1 lo0p 0 (List.length aA))), (1, (eI a1)), (9, (eI i9)), (10, (eI j10))] ?_
        refine cE 5 ?_
        refine aU aD 3 ?_
        refine bE ?_
        exact aG (aW (aF (⟨rfl, _, (oI h2).symm, .eq (by kernel_rfl), hO, hN⟩)))
      refine gC 4 ?_
      obtain rfl := oI h2
      obtain rfl : _ = rr1 := ho1
      replace h1 : dK aA a1 i9 j10 = some out1 := h1
      exact aG (aT (aT (bS (aF (⟨rfl, _, _, .eq (by kernel_rfl), hO, hN, h1⟩)))))
  refine cE 2 ?_
  refine fT [(0, (.msl 1 lo0p 0 (List.length aA))), (1, (eI a1)), (9, (eI i9)), (10, (eI j10))] ?_
  refine eO (fun T H => ∃ aA : List Int, ∃ i9 : Int, Has T [(0, (.msl 1 lo0p 0 (List.length aA))), (1, (eI a1)), (9, (eI i9)), (10, (eI j10))] ∧ aJ ⟨H0, [lo0p], []⟩ H [(lo0p, 1, List.map (eI) aA)] ∧ List.length aA = N0 ∧ iF aA a1 i9 j10 = some out1) ?_ ⟨aA, i9, .eq (by kernel_rfl), hO, hN, h1⟩
  clear hO hN h1
  rintro T H ⟨aA, i9, hT, hO, hN, h1⟩
  refine bA hT ?_
  clear hT
  unfold iF at h1
  obtain ⟨rr1, hl1, h1⟩ := aX h1
  refine cZ (by kernel_rfl) (fun (s : List Int × Int) T H => Has T [(0, (.msl 1 lo0p 0 (List.length s.1))), (1, (eI a1)), (9, (eI s.2)), (10, (eI j10))] ∧ aJ ⟨H0, [lo0p], []⟩ H [(lo0p, 1, List.map (eI) s.1)] ∧ List.length s.1 = N0) hl1 ⟨.eq (by kernel_rfl), hO, hN⟩ ?_
  clear hO hN
  rintro k1 s out2 T H ⟨hT, hO, hN⟩ h2 ho1
  obtain ⟨aA, i9⟩ := s
  replace h2 : dJ a1 j10 aA i9 = some out2 := h2
  try dsimp only at hT
  refine bA hT ?_
  clear hT
  unfold dJ at h2
  refine aN ?_
  refine aN ?_
  obtain ⟨c16, h2⟩ := aV h2
  obtain ⟨c17, h2⟩ := aV h2
  obtain ⟨x18, hx19, h2⟩ := aX h2
  refine fS (fR []) aD 15 ?_
  refine nT (K := fun T H => Has (lift T) [(0, (.msl 1 lo0p 0 (List.length aA))), (1, (eI a1)), (9, (eI i9)), (10, (eI j10)), (43, (aE ((decide (i9 ≤ j10)) && (!x18))))] ∧ aJ ⟨H0, [lo0p], []⟩ H [(lo0p, 1, List.map (eI) aA)]) ?_ ?_
  · refine oR 4 ?_
    refine mW (t := 32) (e := decide (i9 ≤ j10)) (by kernel_rfl) (fun hg20 => ?_) (fun hg20 => ?_)
    · refine cF 7 [0 ≤ a1 ∧ a1 < (lN aA)] ⟨(c16 hg20), trivial⟩ ?_
      refine iW 0 lo0p 1 (0 + Int.toNat a1) (eI (gD aA a1)) (eI (gD aA a1)) (List.map (eI) aA) (by kernel_rfl) (by kernel_rfl) (by kernel_rfl) hO (by kernel_rfl) (bW (c16 hg20)) ?_
      refine cF 11 [0 ≤ i9 ∧ i9 < (lN aA)] ⟨(c17 hg20), trivial⟩ ?_
      refine iW 0 lo0p 1 (0 + Int.toNat i9) (eI (gD aA i9)) (eI (gD aA i9)) (List.map (eI) aA) (by kernel_rfl) (by kernel_rfl) (by kernel_rfl) hO (by kernel_rfl) (bW (c17 hg20)) ?_
      refine mX 70 [(eI (gD aA a1)), (eI (gD aA i9))] (aE x18) (by kernel_rfl) (by kernel_rfl) (fG (gD aA a1) (gD aA i9) _ (jR hx19 hg20)) hO ?_
      intro H hO
      refine jZ ?_
      exact ⟨⟨[(0, (.msl 1 lo0p 0 (List.length aA))), (1, (eI a1)), (9, (eI i9)), (10, (eI j10)), (43, (aE (!x18)))], by kernel_rfl, rfl, ⟨aM.refl _, aM.refl _, aM.refl _, aM.refl _, aM.eq (congrArg aE (kW hg20 rfl).symm), trivial⟩⟩, hO⟩
    refine jZ ?_
    exact ⟨⟨[(0, (.msl 1 lo0p 0 (List.length aA))), (1, (eI a1)), (9, (eI i9)), (10, (eI j10)), (43, (aE false))], by kernel_rfl, rfl, ⟨aM.refl _, aM.refl _, aM.refl _, aM.refl _, aM.eq (congrArg aE (kW hg20 rfl).symm), trivial⟩⟩, hO⟩
  · rintro T H ⟨hT, hO⟩
    refine dG hT ?_
    clear hT
    refine aG (aF ?_)
    refine bM h2 (fun h2 => ?_) (fun h2 => ?_)
    · refine bL ?_
      refine bG [(0, (.msl 1 lo0p 0 (List.length aA))), (1, (eI a1)), (9, (eI i9)), (10, (eI j10))] ?_
      refine cE 3 ?_
      refine aU aD 3 ?_
      refine bE ?_
      exact aG (aW (aF (⟨rfl, _, (oI h2).symm, .eq (by kernel_rfl), hO, hN⟩)))
    refine gC 2 ?_
    obtain rfl := oI h2
    obtain rfl : _ = rr1 := ho1
    replace h1 : fF aA a1 i9 j10 = some out1 := h1
    exact aG (aT (aT (bS (aF (⟨rfl, _, _, .eq (by kernel_rfl), hO, hN, h1⟩)))))

end Go.Abs
