/- What the law AlignSums stands on: the framework, the given functions as plain functions, their walks, and the plain laws; part 3. -/
import Derived.Test.YtmnbomkkobifbaaAlignSumsZ2
set_option linter.unusedSimpArgs false
set_option linter.unusedVariables false
namespace Go.Abs
open Go
noncomputable def sV (wD : (List Int)) : Option Int :=
  uU (0 : Int) wD ((List.length wD : Nat) : Int) (0 : Int)

noncomputable def mW (x0 : aB) (y1 : aB) : Option Int :=
  (pV x0.Row y1.Row).bind fun x1 =>
  (jG x0.At y1.At).bind fun x4 =>
  (sV ([x1, x4])).bind fun x7 =>
  some x7

noncomputable def wY (l0 : List aB) : Option (List aB) :=
  some l0

noncomputable def oY (r1 : (List aH)) (t9 : (List aD)) (t10 : Int) (l0 : List aB) (t11 : Int) : Option ((List aB × Int) ⊕ ((List aB))) :=
  cond (decide (t11 < t10))
  (bI (0 ≤ t11 ∧ t11 < ((List.length t9 : Nat) : Int)) <|
  (tW r1).bind fun x7 =>
  bI ((List.length l0 + List.length ([aB.mk x7 ((List.getD t9 (Int.toNat t11) default).At) ((List.getD t9 (Int.toNat t11) default).Net)])) * 40 ≤ 140737488355328 ∧ List.length l0 + List.length ([aB.mk x7 ((List.getD t9 (Int.toNat t11) default).At) ((List.getD t9 (Int.toNat t11) default).Net)]) ≤ 9223372036854775807) <|
  some (.inl (l0 ++ ([aB.mk x7 ((List.getD t9 (Int.toNat t11) default).At) ((List.getD t9 (Int.toNat t11) default).Net)]), IntKind.i64.wrap (t11 + (1 : Int)))))
  (some (.inr l0))

noncomputable def xD (l0 : List aB) (r1 : (List aH)) (t9 : (List aD)) (t10 : Int) (t11 : Int) : Option (List aB) :=
  (lp (fun s => oY r1 t9 t10 s.1 s.2) (l0, t11)).bind (fun rr => wY rr)

noncomputable def vV (l0 : (List aB)) (r1 : (List aH)) (f2 : (List aD)) : Option (List aB) :=
  xD l0 r1 f2 ((List.length f2 : Nat) : Int) (0 : Int)

noncomputable def nI (by1 : (List aD) → Option ((List aD) × Int)) (kG : (List aB)) (t4 : (List aB)) (t5 : Int) (out6 : List aB) (t14 : (List aH)) (t15 : (List aD)) : Option (((List aB) × Int × List aB) ⊕ ((List aB) × Int × List aB)) :=
  (by1 t15).bind fun x8 =>
  cond (!decide (x8.2 = (0 : Int)))
  (some (.inr ([], x8.2, out6)))
  ((vV out6 t14 x8.1).bind fun x12 =>
  cond (decide ((4096 : Int) < ((List.length x12 : Nat) : Int)))
  (some (.inr ([], (7 : Int), x12)))
  (some (.inl (t4, t5, x12))))

noncomputable def tQ (by1 : (List aD) → Option ((List aD) × Int)) (t4 : (List aB)) (t5 : Int) (out6 : List aB) (kG : (List aB)) : Option ((List aB) × Int) :=
  (oG (fun st t14 t15 => rnd (fun (s : (List aB) × Int × List aB) => nI by1 kG s.1 s.2.1 s.2.2 t14 t15) st) kG (.inl (t4, t5, out6))).bind (Sum.elim (fun (s : (List aB) × Int × List aB) =>
  (some (s.2.2, (0 : Int))))
  (fun (s : (List aB) × Int × List aB) =>
  (some (s.1, s.2.1))))

noncomputable def rK (l0 : (List aB)) (by1 : (List aD) → Option ((List aD) × Int)) : Option ((List aB) × Int) :=
  (rZ l0).bind fun x5 =>
  tQ by1 ([]) 0 ([] : List aB) x5

noncomputable def dR (f1 : aD → Option Bool)  : Option Int :=
  some (-1 : Int)

noncomputable def fJ (f1 : aD → Option Bool) (s0 : (List aD)) (t7 : Int) (t8 : Int) : Option ((Int) ⊕ (Unit ⊕ Int)) :=
  cond (decide (t8 < t7))
  (bI (0 ≤ t8 ∧ t8 < ((List.length s0 : Nat) : Int)) <|
  (f1 (List.getD s0 (Int.toNat t8) default)).bind fun x3 =>
  cond x3
  (some (.inr (.inr t8)))
  (some (.inl (IntKind.i64.wrap (t8 + (1 : Int))))))
  (some (.inr (.inl ())))

noncomputable def fN (f1 : aD → Option Bool) (s0 : (List aD)) (t7 : Int) (t8 : Int) : Option Int :=
  (lp (fun s => fJ f1 s0 t7 s) t8).bind (Sum.elim (fun rr => dR f1 ) (fun rr => some rr))

noncomputable def fP (s0 : (List aD)) (f1 : aD → Option Bool) : Option Int :=
  fN f1 s0 ((List.length s0 : Nat) : Int) (0 : Int)

noncomputable def cM (s0 : (List aD)) (f1 : aD → Option Bool) : Option Bool :=
  (fP s0 f1).bind fun x1 =>
  some (decide ((0 : Int) ≤ x1))

noncomputable def rM (j0 : aD) : Option Bool :=
  (uI j0.Net).bind fun x1 =>
  some (!x1)

noncomputable def rP (j0 : aD) : Option Bool :=
  some ((decide (j0.At < (-1 : Int))) || (decide ((1125899906842624 : Int) < j0.At)))

noncomputable def eX (s0 : (List aD)) : Option (List aD) :=
  bI (List.length s0 * 16 ≤ 140737488355328 ∧ List.length s0 ≤ 9223372036854775807) <|
  some s0

noncomputable def eU (cmp3 : aD → aD → Option Int) (aA : List aD) (a1 : Int) (b2 : Int) (i8 : Int) : Option ((List aD × Int) ⊕ ((List aD))) :=
  some (.inl (aA, IntKind.i64.wrap (i8 + (1 : Int))))

noncomputable def iV (cmp3 : aD → aD → Option Int) (a1 : Int) (b2 : Int) (i8 : Int) (aA : List aD) (j9 : Int) : Option ((List aD × Int) ⊕ ((List aD))) :=
  bI ((((decide (a1 < j9))) = true → 0 ≤ j9 ∧ j9 < ((List.length aA : Nat) : Int))) <|
  bI ((((decide (a1 < j9))) = true → 0 ≤ (IntKind.i64.wrap (j9 - (1 : Int))) ∧ (IntKind.i64.wrap (j9 - (1 : Int))) < ((List.length aA : Nat) : Int))) <|
  (hU (decide (a1 < j9)) (cmp3 (List.getD aA (Int.toNat j9) default) (List.getD aA (Int.toNat (IntKind.i64.wrap (j9 - (1 : Int)))) default))).bind fun x4 =>
  cond ((decide (a1 < j9)) && (decide (x4 < (0 : Int))))
  (bI (0 ≤ (IntKind.i64.wrap (j9 - (1 : Int))) ∧ (IntKind.i64.wrap (j9 - (1 : Int))) < ((List.length aA : Nat) : Int)) <|
  bI (0 ≤ j9 ∧ j9 < ((List.length aA : Nat) : Int)) <|
  bI (0 ≤ j9 ∧ j9 < ((List.length aA : Nat) : Int)) <|
  bI (0 ≤ (IntKind.i64.wrap (j9 - (1 : Int))) ∧ (IntKind.i64.wrap (j9 - (1 : Int))) < ((List.length aA : Nat) : Int)) <|
  some (.inl (List.set (List.set aA (Int.toNat j9) (List.getD aA (Int.toNat (IntKind.i64.wrap (j9 - (1 : Int)))) default)) (Int.toNat (IntKind.i64.wrap (j9 - (1 : Int)))) (List.getD aA (Int.toNat j9) default), IntKind.i64.wrap (j9 - (1 : Int)))))
  (some (.inr aA))

noncomputable def jC (cmp3 : aD → aD → Option Int) (aA : List aD) (a1 : Int) (b2 : Int) (i8 : Int) (j9 : Int) : Option ((List aD × Int) ⊕ ((List aD))) :=
  (lp (fun s => iV cmp3 a1 b2 i8 s.1 s.2) (aA, j9)).bind (fun rr => eU cmp3 rr a1 b2 i8)

noncomputable def jA (cmp3 : aD → aD → Option Int) (a1 : Int) (b2 : Int) (aA : List aD) (i8 : Int) : Option ((List aD × Int) ⊕ ((List aD))) :=
  cond (decide (i8 < b2))
  (jC cmp3 aA a1 b2 i8 i8)
  (some (.inr aA))

noncomputable def iX (cmp3 : aD → aD → Option Int) (aA : List aD) (a1 : Int) (b2 : Int) (i8 : Int) : Option (List aD) :=
  (lp (fun s => jA cmp3 a1 b2 s.1 s.2) (aA, i8)).bind (fun rr => some rr)

noncomputable def dM (aA : (List aD)) (a1 : Int) (b2 : Int) (cmp3 : aD → aD → Option Int) : Option (List aD) :=
  iX cmp3 aA a1 b2 (IntKind.i64.wrap (a1 + (1 : Int)))

noncomputable def kK (cmp4 : aD → aD → Option Int) (a1 : Int) (b2 : Int) (n3 : Int) (aA : List aD) (i10 : Int) : Option ((List aD × Int) ⊕ ((List aD))) :=
  cond (decide (i10 < n3))
  (bI (0 ≤ (IntKind.i64.wrap (b2 + i10)) ∧ (IntKind.i64.wrap (b2 + i10)) < ((List.length aA : Nat) : Int)) <|
  bI (0 ≤ (IntKind.i64.wrap (a1 + i10)) ∧ (IntKind.i64.wrap (a1 + i10)) < ((List.length aA : Nat) : Int)) <|
  bI (0 ≤ (IntKind.i64.wrap (a1 + i10)) ∧ (IntKind.i64.wrap (a1 + i10)) < ((List.length aA : Nat) : Int)) <|
  bI (0 ≤ (IntKind.i64.wrap (b2 + i10)) ∧ (IntKind.i64.wrap (b2 + i10)) < ((List.length aA : Nat) : Int)) <|
  some (.inl (List.set (List.set aA (Int.toNat (IntKind.i64.wrap (a1 + i10))) (List.getD aA (Int.toNat (IntKind.i64.wrap (b2 + i10))) default)) (Int.toNat (IntKind.i64.wrap (b2 + i10))) (List.getD aA (Int.toNat (IntKind.i64.wrap (a1 + i10))) default), IntKind.i64.wrap (i10 + (1 : Int)))))
  (some (.inr aA))

noncomputable def jX (cmp4 : aD → aD → Option Int) (aA : List aD) (a1 : Int) (b2 : Int) (n3 : Int) (i10 : Int) : Option (List aD) :=
  (lp (fun s => kK cmp4 a1 b2 n3 s.1 s.2) (aA, i10)).bind (fun rr => some rr)

noncomputable def eH (aA : (List aD)) (a1 : Int) (b2 : Int) (n3 : Int) (cmp4 : aD → aD → Option Int) : Option (List aD) :=
  jX cmp4 aA a1 b2 n3 (0 : Int)

noncomputable def iH (cmp4 : aD → aD → Option Int) (aA : List aD) (m2 : Int) (i10 : Int) : Option (List aD) :=
  (eH aA (IntKind.i64.wrap (m2 - i10)) m2 i10 cmp4).bind fun x1 =>
  some x1

noncomputable def lV (cmp4 : aD → aD → Option Int) (m2 : Int) (aA : List aD) (i10 : Int) (j11 : Int) : Option ((List aD × Int × Int) ⊕ ((List aD × Int))) :=
  cond (!decide (i10 = j11))
  (cond (decide (j11 < i10))
  ((eH aA (IntKind.i64.wrap (m2 - i10)) m2 j11 cmp4).bind fun x6 =>
  some (.inl (x6, IntKind.i64.wrap (i10 - j11), j11)))
  ((eH aA (IntKind.i64.wrap (m2 - i10)) (IntKind.i64.wrap ((IntKind.i64.wrap (m2 + j11)) - i10)) i10 cmp4).bind fun x9 =>
  some (.inl (x9, i10, IntKind.i64.wrap (j11 - i10)))))
  (some (.inr (aA, i10)))

noncomputable def lY (cmp4 : aD → aD → Option Int) (aA : List aD) (m2 : Int) (i10 : Int) (j11 : Int) : Option (List aD) :=
  (lp (fun s => lV cmp4 m2 s.1 s.2.1 s.2.2) (aA, i10, j11)).bind (fun rr => iH cmp4 rr.1 m2 rr.2)

noncomputable def mI (aA : (List aD)) (a1 : Int) (m2 : Int) (b3 : Int) (cmp4 : aD → aD → Option Int) : Option (List aD) :=
  lY cmp4 aA m2 (IntKind.i64.wrap (m2 - a1)) (IntKind.i64.wrap (b3 - m2))

noncomputable def gE (cmp4 : aD → aD → Option Int) (rec : (List aD) → Int → Int → Int → Option (List aD)) (aA : List aD) (b3 : Int) (bR : Int) (dX : Int) : Option (List aD) :=
  cond ((decide (bR < dX)) && (decide (dX < b3)))
  ((rec aA bR dX b3).bind fun x3 =>
  some x3)
  (some aA)

noncomputable def gQ (cmp4 : aD → aD → Option Int) (rec : (List aD) → Int → Int → Int → Option (List aD)) (aA : List aD) (a1 : Int) (b3 : Int) (bR : Int) (aQ : Int) (dX : Int) : Option (List aD) :=
  cond ((decide (a1 < aQ)) && (decide (aQ < bR)))
  ((rec aA a1 aQ bR).bind fun x7 =>
  gE cmp4 rec x7 b3 bR dX)
  (gE cmp4 rec aA b3 bR dX)

noncomputable def gK (cmp4 : aD → aD → Option Int) (rec : (List aD) → Int → Int → Int → Option (List aD)) (aA : List aD) (a1 : Int) (m2 : Int) (b3 : Int) (bR : Int) (n19 : Int) (aQ : Int) : Option (List aD) :=
  cond ((decide (aQ < m2)) && (decide (m2 < (IntKind.i64.wrap (n19 - aQ)))))
  ((mI aA aQ m2 (IntKind.i64.wrap (n19 - aQ)) cmp4).bind fun x11 =>
  gQ cmp4 rec x11 a1 b3 bR aQ (IntKind.i64.wrap (n19 - aQ)))
  (gQ cmp4 rec aA a1 b3 bR aQ (IntKind.i64.wrap (n19 - aQ)))

noncomputable def lG (cmp4 : aD → aD → Option Int) (rec : (List aD) → Int → Int → Int → Option (List aD)) (a1 : Int) (m2 : Int) (b3 : Int) (bR : Int) (n19 : Int) (p22 : Int) (aA : List aD) (aQ : Int) (r21 : Int) : Option ((List aD × Int × Int) ⊕ ((List aD × Int))) :=
  cond (decide (aQ < r21))
  (bI (0 ≤ (1 : Int)) <|
  bI (0 ≤ (IntKind.i64.wrap (p22 - (IntKind.i64.wrap (Int.fdiv (IntKind.u64.wrap (IntKind.i64.wrap (aQ + r21))) (2 ^ (min (Int.toNat (1 : Int)) 64)))))) ∧ (IntKind.i64.wrap (p22 - (IntKind.i64.wrap (Int.fdiv (IntKind.u64.wrap (IntKind.i64.wrap (aQ + r21))) (2 ^ (min (Int.toNat (1 : Int)) 64)))))) < ((List.length aA : Nat) : Int)) <|
  bI (0 ≤ (IntKind.i64.wrap (Int.fdiv (IntKind.u64.wrap (IntKind.i64.wrap (aQ + r21))) (2 ^ (min (Int.toNat (1 : Int)) 64)))) ∧ (IntKind.i64.wrap (Int.fdiv (IntKind.u64.wrap (IntKind.i64.wrap (aQ + r21))) (2 ^ (min (Int.toNat (1 : Int)) 64)))) < ((List.length aA : Nat) : Int)) <|
  (cmp4 (List.getD aA (Int.toNat (IntKind.i64.wrap (p22 - (IntKind.i64.wrap (Int.fdiv (IntKind.u64.wrap (IntKind.i64.wrap (aQ + r21))) (2 ^ (min (Int.toNat (1 : Int)) 64))))))) default) (List.getD aA (Int.toNat (IntKind.i64.wrap (Int.fdiv (IntKind.u64.wrap (IntKind.i64.wrap (aQ + r21))) (2 ^ (min (Int.toNat (1 : Int)) 64))))) default)).bind fun x18 =>
  cond (!(decide (x18 < (0 : Int))))
  (some (.inl (aA, IntKind.i64.wrap ((IntKind.i64.wrap (Int.fdiv (IntKind.u64.wrap (IntKind.i64.wrap (aQ + r21))) (2 ^ (min (Int.toNat (1 : Int)) 64)))) + (1 : Int)), r21)))
  (some (.inl (aA, aQ, IntKind.i64.wrap (Int.fdiv (IntKind.u64.wrap (IntKind.i64.wrap (aQ + r21))) (2 ^ (min (Int.toNat (1 : Int)) 64)))))))
  (some (.inr (aA, aQ)))

noncomputable def lJ (cmp4 : aD → aD → Option Int) (rec : (List aD) → Int → Int → Int → Option (List aD)) (aA : List aD) (a1 : Int) (m2 : Int) (b3 : Int) (bR : Int) (n19 : Int) (aQ : Int) (r21 : Int) (p22 : Int) : Option (List aD) :=
  (lp (fun s => lG cmp4 rec a1 m2 b3 bR n19 p22 s.1 s.2.1 s.2.2) (aA, aQ, r21)).bind (fun rr => gK cmp4 rec rr.1 a1 m2 b3 bR n19 rr.2)

noncomputable def gF (cmp4 : aD → aD → Option Int) (rec : (List aD) → Int → Int → Int → Option (List aD)) (aA : List aD) (a1 : Int) (m2 : Int) (b3 : Int) (bR : Int) (n19 : Int) (aQ : Int) (r21 : Int) : Option (List aD) :=
  lJ cmp4 rec aA a1 m2 b3 bR n19 aQ r21 (IntKind.i64.wrap (n19 - (1 : Int)))

noncomputable def kZ (cmp4 : aD → aD → Option Int) (rec : (List aD) → Int → Int → Int → Option (List aD)) (aA : List aD) (a1 : Int) (m2 : Int) (b3 : Int) : Option (List aD) :=
  bI (0 ≤ (1 : Int)) <|
  cond (decide ((IntKind.i64.wrap (Int.fdiv (IntKind.u64.wrap (IntKind.i64.wrap (a1 + b3))) (2 ^ (min (Int.toNat (1 : Int)) 64)))) < m2))
  (gF cmp4 rec aA a1 m2 b3 (IntKind.i64.wrap (Int.fdiv (IntKind.u64.wrap (IntKind.i64.wrap (a1 + b3))) (2 ^ (min (Int.toNat (1 : Int)) 64)))) (IntKind.i64.wrap ((IntKind.i64.wrap (Int.fdiv (IntKind.u64.wrap (IntKind.i64.wrap (a1 + b3))) (2 ^ (min (Int.toNat (1 : Int)) 64)))) + m2)) (IntKind.i64.wrap ((IntKind.i64.wrap ((IntKind.i64.wrap (Int.fdiv (IntKind.u64.wrap (IntKind.i64.wrap (a1 + b3))) (2 ^ (min (Int.toNat (1 : Int)) 64)))) + m2)) - b3)) (IntKind.i64.wrap (Int.fdiv (IntKind.u64.wrap (IntKind.i64.wrap (a1 + b3))) (2 ^ (min (Int.toNat (1 : Int)) 64)))))
  (gF cmp4 rec aA a1 m2 b3 (IntKind.i64.wrap (Int.fdiv (IntKind.u64.wrap (IntKind.i64.wrap (a1 + b3))) (2 ^ (min (Int.toNat (1 : Int)) 64)))) (IntKind.i64.wrap ((IntKind.i64.wrap (Int.fdiv (IntKind.u64.wrap (IntKind.i64.wrap (a1 + b3))) (2 ^ (min (Int.toNat (1 : Int)) 64)))) + m2)) a1 m2)

noncomputable def gT (cmp4 : aD → aD → Option Int) (rec : (List aD) → Int → Int → Int → Option (List aD)) (aA : List aD) : Option (List aD) :=
  some aA

noncomputable def kI (cmp4 : aD → aD → Option Int) (rec : (List aD) → Int → Int → Int → Option (List aD)) (i14 : Int) (aA : List aD) (k17 : Int) : Option ((List aD × Int) ⊕ ((List aD))) :=
  cond (decide (i14 < k17))
  (bI (0 ≤ (IntKind.i64.wrap (k17 - (1 : Int))) ∧ (IntKind.i64.wrap (k17 - (1 : Int))) < ((List.length aA : Nat) : Int)) <|
  bI (0 ≤ k17 ∧ k17 < ((List.length aA : Nat) : Int)) <|
  bI (0 ≤ k17 ∧ k17 < ((List.length aA : Nat) : Int)) <|
  bI (0 ≤ (IntKind.i64.wrap (k17 - (1 : Int))) ∧ (IntKind.i64.wrap (k17 - (1 : Int))) < ((List.length aA : Nat) : Int)) <|
  some (.inl (List.set (List.set aA (Int.toNat k17) (List.getD aA (Int.toNat (IntKind.i64.wrap (k17 - (1 : Int)))) default)) (Int.toNat (IntKind.i64.wrap (k17 - (1 : Int)))) (List.getD aA (Int.toNat k17) default), IntKind.i64.wrap (k17 - (1 : Int)))))
  (some (.inr aA))

noncomputable def kR (cmp4 : aD → aD → Option Int) (rec : (List aD) → Int → Int → Int → Option (List aD)) (aA : List aD) (i14 : Int) (k17 : Int) : Option (List aD) :=
  (lp (fun s => kI cmp4 rec i14 s.1 s.2) (aA, k17)).bind (fun rr => gT cmp4 rec rr)

noncomputable def gU (cmp4 : aD → aD → Option Int) (rec : (List aD) → Int → Int → Int → Option (List aD)) (aA : List aD) (m2 : Int) (i14 : Int) : Option (List aD) :=
  kR cmp4 rec aA i14 m2

noncomputable def kD (cmp4 : aD → aD → Option Int) (rec : (List aD) → Int → Int → Int → Option (List aD)) (m2 : Int) (aA : List aD) (i14 : Int) (j15 : Int) : Option ((List aD × Int × Int) ⊕ ((List aD × Int))) :=
  cond (decide (i14 < j15))
  (bI (0 ≤ (1 : Int)) <|
  bI (0 ≤ m2 ∧ m2 < ((List.length aA : Nat) : Int)) <|
  bI (0 ≤ (IntKind.i64.wrap (Int.fdiv (IntKind.u64.wrap (IntKind.i64.wrap (i14 + j15))) (2 ^ (min (Int.toNat (1 : Int)) 64)))) ∧ (IntKind.i64.wrap (Int.fdiv (IntKind.u64.wrap (IntKind.i64.wrap (i14 + j15))) (2 ^ (min (Int.toNat (1 : Int)) 64)))) < ((List.length aA : Nat) : Int)) <|
  (cmp4 (List.getD aA (Int.toNat m2) default) (List.getD aA (Int.toNat (IntKind.i64.wrap (Int.fdiv (IntKind.u64.wrap (IntKind.i64.wrap (i14 + j15))) (2 ^ (min (Int.toNat (1 : Int)) 64))))) default)).bind fun x33 =>
  cond (!(decide (x33 < (0 : Int))))
  (some (.inl (aA, IntKind.i64.wrap ((IntKind.i64.wrap (Int.fdiv (IntKind.u64.wrap (IntKind.i64.wrap (i14 + j15))) (2 ^ (min (Int.toNat (1 : Int)) 64)))) + (1 : Int)), j15)))
  (some (.inl (aA, i14, IntKind.i64.wrap (Int.fdiv (IntKind.u64.wrap (IntKind.i64.wrap (i14 + j15))) (2 ^ (min (Int.toNat (1 : Int)) 64)))))))
  (some (.inr (aA, i14)))

noncomputable def kF (cmp4 : aD → aD → Option Int) (rec : (List aD) → Int → Int → Int → Option (List aD)) (aA : List aD) (m2 : Int) (i14 : Int) (j15 : Int) : Option (List aD) :=
  (lp (fun s => kD cmp4 rec m2 s.1 s.2.1 s.2.2) (aA, i14, j15)).bind (fun rr => gU cmp4 rec rr.1 m2 rr.2)

noncomputable def kY (cmp4 : aD → aD → Option Int) (rec : (List aD) → Int → Int → Int → Option (List aD)) (aA : List aD) (a1 : Int) (m2 : Int) (b3 : Int) : Option (List aD) :=
  cond (decide ((IntKind.i64.wrap (b3 - m2)) = (1 : Int)))
  (kF cmp4 rec aA m2 a1 m2)
  (kZ cmp4 rec aA a1 m2 b3)

noncomputable def fX (cmp4 : aD → aD → Option Int) (rec : (List aD) → Int → Int → Int → Option (List aD)) (aA : List aD) : Option (List aD) :=
  some aA

noncomputable def kU (cmp4 : aD → aD → Option Int) (rec : (List aD) → Int → Int → Int → Option (List aD)) (i10 : Int) (aA : List aD) (k13 : Int) : Option ((List aD × Int) ⊕ ((List aD))) :=
  cond (decide (k13 < (IntKind.i64.wrap (i10 - (1 : Int)))))
  (bI (0 ≤ (IntKind.i64.wrap (k13 + (1 : Int))) ∧ (IntKind.i64.wrap (k13 + (1 : Int))) < ((List.length aA : Nat) : Int)) <|
  bI (0 ≤ k13 ∧ k13 < ((List.length aA : Nat) : Int)) <|
  bI (0 ≤ k13 ∧ k13 < ((List.length aA : Nat) : Int)) <|
  bI (0 ≤ (IntKind.i64.wrap (k13 + (1 : Int))) ∧ (IntKind.i64.wrap (k13 + (1 : Int))) < ((List.length aA : Nat) : Int)) <|
  some (.inl (List.set (List.set aA (Int.toNat k13) (List.getD aA (Int.toNat (IntKind.i64.wrap (k13 + (1 : Int)))) default)) (Int.toNat (IntKind.i64.wrap (k13 + (1 : Int)))) (List.getD aA (Int.toNat k13) default), IntKind.i64.wrap (k13 + (1 : Int)))))
  (some (.inr aA))

noncomputable def kM (cmp4 : aD → aD → Option Int) (rec : (List aD) → Int → Int → Int → Option (List aD)) (aA : List aD) (i10 : Int) (k13 : Int) : Option (List aD) :=
  (lp (fun s => kU cmp4 rec i10 s.1 s.2) (aA, k13)).bind (fun rr => fX cmp4 rec rr)

noncomputable def fZ (cmp4 : aD → aD → Option Int) (rec : (List aD) → Int → Int → Int → Option (List aD)) (aA : List aD) (a1 : Int) (i10 : Int) : Option (List aD) :=
  kM cmp4 rec aA i10 a1

noncomputable def kE (cmp4 : aD → aD → Option Int) (rec : (List aD) → Int → Int → Int → Option (List aD)) (a1 : Int) (aA : List aD) (i10 : Int) (j11 : Int) : Option ((List aD × Int × Int) ⊕ ((List aD × Int))) :=
  cond (decide (i10 < j11))
  (bI (0 ≤ (1 : Int)) <|
  bI (0 ≤ (IntKind.i64.wrap (Int.fdiv (IntKind.u64.wrap (IntKind.i64.wrap (i10 + j11))) (2 ^ (min (Int.toNat (1 : Int)) 64)))) ∧ (IntKind.i64.wrap (Int.fdiv (IntKind.u64.wrap (IntKind.i64.wrap (i10 + j11))) (2 ^ (min (Int.toNat (1 : Int)) 64)))) < ((List.length aA : Nat) : Int)) <|
  bI (0 ≤ a1 ∧ a1 < ((List.length aA : Nat) : Int)) <|
  (cmp4 (List.getD aA (Int.toNat (IntKind.i64.wrap (Int.fdiv (IntKind.u64.wrap (IntKind.i64.wrap (i10 + j11))) (2 ^ (min (Int.toNat (1 : Int)) 64))))) default) (List.getD aA (Int.toNat a1) default)).bind fun x47 =>
  cond (decide (x47 < (0 : Int)))
  (some (.inl (aA, IntKind.i64.wrap ((IntKind.i64.wrap (Int.fdiv (IntKind.u64.wrap (IntKind.i64.wrap (i10 + j11))) (2 ^ (min (Int.toNat (1 : Int)) 64)))) + (1 : Int)), j11)))
  (some (.inl (aA, i10, IntKind.i64.wrap (Int.fdiv (IntKind.u64.wrap (IntKind.i64.wrap (i10 + j11))) (2 ^ (min (Int.toNat (1 : Int)) 64)))))))
  (some (.inr (aA, i10)))

noncomputable def kP (cmp4 : aD → aD → Option Int) (rec : (List aD) → Int → Int → Int → Option (List aD)) (aA : List aD) (a1 : Int) (i10 : Int) (j11 : Int) : Option (List aD) :=
  (lp (fun s => kE cmp4 rec a1 s.1 s.2.1 s.2.2) (aA, i10, j11)).bind (fun rr => fZ cmp4 rec rr.1 a1 rr.2)

noncomputable def dU (cmp4 : aD → aD → Option Int) (rec : (List aD) → Int → Int → Int → Option (List aD)) (aA : (List aD)) (a1 : Int) (m2 : Int) (b3 : Int) : Option (List aD) :=
  cond (decide ((IntKind.i64.wrap (m2 - a1)) = (1 : Int)))
  (kP cmp4 rec aA a1 m2 b3)
  (kY cmp4 rec aA a1 m2 b3)

noncomputable def gR (cmp4 : aD → aD → Option Int) : Nat → (List aD) → Int → Int → Int → Option (List aD)
  | 0 => fun _ _ _ _ => none
  | k + 1 => dU cmp4 (gR cmp4 k)

noncomputable def eK (aA : (List aD)) (a1 : Int) (m2 : Int) (b3 : Int) (cmp4 : aD → aD → Option Int) : Option (List aD) := GZ (fun k => gR cmp4 k aA a1 m2 b3)

noncomputable def iD (cmp2 : aD → aD → Option Int) (aA : List aD) (n1 : Int) (aM : Int) : Option ((List aD × Int) ⊕ ((List aD))) :=
  some (.inl (aA, IntKind.i64.wrap (aM * (2 : Int))))

noncomputable def fA (cmp2 : aD → aD → Option Int) (aA : List aD) (n1 : Int) (aM : Int) (a7 : Int) : Option ((List aD × Int) ⊕ ((List aD))) :=
  cond (decide ((IntKind.i64.wrap (a7 + aM)) < n1))
  ((eK aA a7 (IntKind.i64.wrap (a7 + aM)) n1 cmp2).bind fun x6 =>
  iD cmp2 x6 n1 aM)
  (iD cmp2 aA n1 aM)

noncomputable def iL (cmp2 : aD → aD → Option Int) (n1 : Int) (aM : Int) (aA : List aD) (a7 : Int) (b8 : Int) : Option ((List aD × Int × Int) ⊕ ((List aD × Int))) :=
  cond (decide (b8 ≤ n1))
  ((eK aA a7 (IntKind.i64.wrap (a7 + aM)) b8 cmp2).bind fun x10 =>
  some (.inl (x10, b8, IntKind.i64.wrap (b8 + (IntKind.i64.wrap ((2 : Int) * aM))))))
  (some (.inr (aA, a7)))

noncomputable def iO (cmp2 : aD → aD → Option Int) (aA : List aD) (n1 : Int) (aM : Int) (a7 : Int) (b8 : Int) : Option ((List aD × Int) ⊕ ((List aD))) :=
  (lp (fun s => iL cmp2 n1 aM s.1 s.2.1 s.2.2) (aA, a7, b8)).bind (fun rr => fA cmp2 rr.1 n1 aM rr.2)

noncomputable def iB (cmp2 : aD → aD → Option Int) (n1 : Int) (aA : List aD) (aM : Int) : Option ((List aD × Int) ⊕ ((List aD))) :=
  cond (decide (aM < n1))
  (iO cmp2 aA n1 aM (0 : Int) (IntKind.i64.wrap ((2 : Int) * aM)))
  (some (.inr aA))

noncomputable def iC (cmp2 : aD → aD → Option Int) (aA : List aD) (n1 : Int) (aM : Int) : Option (List aD) :=
  (lp (fun s => iB cmp2 n1 s.1 s.2) (aA, aM)).bind (fun rr => some rr)

noncomputable def eZ (cmp2 : aD → aD → Option Int) (aA : List aD) (n1 : Int) (aM : Int) (a7 : Int) : Option (List aD) :=
  (dM aA a7 n1 cmp2).bind fun x1 =>
  iC cmp2 x1 n1 aM

noncomputable def iQ (cmp2 : aD → aD → Option Int) (n1 : Int) (aM : Int) (aA : List aD) (a7 : Int) (b8 : Int) : Option ((List aD × Int × Int) ⊕ ((List aD × Int))) :=
  cond (decide (b8 ≤ n1))
  ((dM aA a7 b8 cmp2).bind fun x14 =>
  some (.inl (x14, b8, IntKind.i64.wrap (b8 + aM))))
  (some (.inr (aA, a7)))

noncomputable def iP (cmp2 : aD → aD → Option Int) (aA : List aD) (n1 : Int) (aM : Int) (a7 : Int) (b8 : Int) : Option (List aD) :=
  (lp (fun s => iQ cmp2 n1 aM s.1 s.2.1 s.2.2) (aA, a7, b8)).bind (fun rr => eZ cmp2 rr.1 n1 aM rr.2)

noncomputable def fG (aA : (List aD)) (n1 : Int) (cmp2 : aD → aD → Option Int) : Option (List aD) :=
  iP cmp2 aA n1 (20 : Int) (0 : Int) (20 : Int)

noncomputable def cX (x0 : (List aD)) (cmp1 : aD → aD → Option Int) : Option (List aD) :=
  (fG x0 ((List.length x0 : Nat) : Int) cmp1).bind fun x1 =>
  some x1

noncomputable def mX (a0 : aD) (b1 : aD) : Option Int :=
  (jG a0.At b1.At).bind fun x1 =>
  some x1

noncomputable def rV (f0 : (List aD)) : Option ((List aD) × Int) :=
  (rG f0).bind fun x1 =>
  cond (!x1)
  (some ([], (7 : Int)))
  (some (f0, (0 : Int)))

noncomputable def tB (out5 : List aD) : Option ((List aD) × Int) :=
  (rV out5).bind fun x16 =>
  some (x16.1, x16.2)

noncomputable def tH (all4 : List aD) (out5 : List aD) (i6 : Int) (j7 : aD) : Option ((List aD × List aD × Int) ⊕ ((List aD))) :=
  cond ((!decide (j7.Net = (0 : Int))) && (decide (j7.At < (1125899906842624 : Int))))
  (bI ((List.length out5 + List.length ([j7])) * 16 ≤ 140737488355328 ∧ List.length out5 + List.length ([j7]) ≤ 9223372036854775807) <|
  some (.inl (all4, out5 ++ ([j7]), i6)))
  (some (.inl (all4, out5, i6)))

noncomputable def jU  (all4 : List aD) (out5 : List aD) (i6 : Int) (j7 : aD) : Option ((List aD × List aD × Int × aD) ⊕ ((List aD × List aD × Int × aD))) :=
  bI ((((decide (i6 < ((List.length all4 : Nat) : Int)))) = true → 0 ≤ i6 ∧ i6 < ((List.length all4 : Nat) : Int))) <|
  cond ((decide (i6 < ((List.length all4 : Nat) : Int))) && (decide (((List.getD all4 (Int.toNat i6) default).At) = j7.At)))
  (bI (0 ≤ i6 ∧ i6 < ((List.length all4 : Nat) : Int)) <|
  some (.inl (all4, out5, IntKind.i64.wrap (i6 + (1 : Int)), aD.mk j7.At (IntKind.i64.wrap (j7.Net + ((List.getD all4 (Int.toNat i6) default).Net))))))
  (some (.inr (all4, out5, i6, j7)))

noncomputable def wA (all4 : List aD) (out5 : List aD) (i6 : Int) (j7 : aD) : Option ((List aD × List aD × Int) ⊕ ((List aD))) :=
  (lp (fun s => jU s.1 s.2.1 s.2.2.1 s.2.2.2) (all4, out5, i6, j7)).bind (fun rr => tH rr.1 rr.2.1 rr.2.2.1 rr.2.2.2)

noncomputable def lS  (all4 : List aD) (out5 : List aD) (i6 : Int) : Option ((List aD × List aD × Int) ⊕ ((List aD))) :=
  cond (decide (i6 < ((List.length all4 : Nat) : Int)))
  (bI (0 ≤ i6 ∧ i6 < ((List.length all4 : Nat) : Int)) <|
  wA all4 out5 i6 (aD.mk ((List.getD all4 (Int.toNat i6) default).At) 0))
  (some (.inr out5))

noncomputable def wC (all4 : List aD) (out5 : List aD) (i6 : Int) : Option ((List aD) × Int) :=
  (lp (fun s => lS s.1 s.2.1 s.2.2) (all4, out5, i6)).bind (fun rr => tB rr)

noncomputable def uE (l0 : (List aD)) : Option ((List aD) × Int) :=
  (cM l0 (fun y0 => rM y0)).bind fun x1 =>
  cond x1
  (some ([], (2 : Int)))
  ((cM l0 (fun y0 => rP y0)).bind fun x5 =>
  cond x5
  (some ([], (13 : Int)))
  ((eX l0).bind fun x9 =>
  (cX x9 (fun y0 y1 => mX y0 y1)).bind fun x12 =>
  wC x12 ([] : List aD) (0 : Int)))

noncomputable def rQ (f0 : (List aD)) : Option ((List aD) × Int) :=
  (uE f0).bind fun x1 =>
  some (x1.1, x1.2)

noncomputable def qE (l0 : (List aB)) : Option ((List aB) × Int) :=
  (cN l0 (fun y0 => rN y0)).bind fun x1 =>
  cond x1
  (some ([], (2 : Int)))
  ((cN l0 (fun y0 => rR y0)).bind fun x5 =>
  cond x5
  (some ([], (13 : Int)))
  ((fC l0).bind fun x9 =>
  (cV x9 (fun y0 y1 => mW y0 y1)).bind fun x12 =>
  (rK x12 (fun y0 => rQ y0)).bind fun x15 =>
  some (x15.1, x15.2)))

noncomputable def vY (a0 : (List aB)) (b1 : (List aB)) : Option ((List aB) × Int) :=
  (qA a0).bind fun x1 =>
  (hU (!(!x1)) (qA b1)).bind fun x4 =>
  cond ((!x1) || (!x4))
  (some ([], (2 : Int)))
  ((eM ([a0, b1])).bind fun x8 =>
  (qE x8).bind fun x11 =>
  some (x11.1, x11.2))

noncomputable def lF (a0 : aV) (k1 : Int) (l2 : (List aB)) : Option (Int × aV) :=
  (nG a0 k1).bind fun x1 =>
  cond (decide (x1 = (0 : Int)))
  (cond (!decide (x1 = (0 : Int)))
  (some (x1, a0))
  ((qA l2).bind fun x10 =>
  cond (!x10)
  (some ((2 : Int), a0))
  ((cW l2 (fun (st : Unit) y0 => (lP a0.inputs k1 y0).bind fun o => some (st, o)) ()).bind fun x14 =>
  cond x14.2
  (some ((16 : Int), a0))
  ((vY ((List.getD a0.inputs (Int.toNat k1) default).held) l2).bind fun x17 =>
  cond (!decide (x17.2 = (0 : Int)))
  (some (x17.2, a0))
  (some ((0 : Int), aV.mk (List.set a0.inputs (Int.toNat k1) (aY.mk (List.getD a0.inputs (Int.toNat k1) default).clock x17.1))))))))
  (cond (!decide (x1 = (0 : Int)))
  (some (x1, a0))
  ((qA l2).bind fun x23 =>
  cond (!x23)
  (some ((2 : Int), a0))
  (none)))

noncomputable def dZ (a0 : aV) (k1 : Int) (t2 : Int) : Option (Int × aV) :=
  (nG a0 k1).bind fun x1 =>
  cond (decide (x1 = (0 : Int)))
  (cond (!decide (x1 = (0 : Int)))
  (some (x1, a0))
  (cond ((decide (t2 < (0 : Int))) || (decide ((1125899906842624 : Int) < t2)))
  (some ((13 : Int), a0))
  (cond (decide (t2 < ((List.getD a0.inputs (Int.toNat k1) default).clock)))
  (some ((16 : Int), a0))
  (some ((0 : Int), aV.mk (List.set a0.inputs (Int.toNat k1) (aY.mk t2 (List.getD a0.inputs (Int.toNat k1) default).held)))))))
  (cond (!decide (x1 = (0 : Int)))
  (some (x1, a0))
  (cond ((decide (t2 < (0 : Int))) || (decide ((1125899906842624 : Int) < t2)))
  (some ((13 : Int), a0))
  (none)))

noncomputable def oS (a0 : aV) (t3 : Int) : Option Int :=
  some t3

noncomputable def kQ (a0 : aV) (t11 : Int) (t3 : Int) (t12 : Int) : Option ((Int × Int) ⊕ (Int)) :=
  cond (decide (t12 < t11))
  (bI (0 ≤ t12 ∧ t12 < ((List.length a0.inputs : Nat) : Int)) <|
  some (.inl (if ((List.getD a0.inputs (Int.toNat t12) default).clock) < t3 then ((List.getD a0.inputs (Int.toNat t12) default).clock) else t3, IntKind.i64.wrap (t12 + (1 : Int)))))
  (some (.inr t3))

noncomputable def oP (a0 : aV) (t3 : Int) (t11 : Int) (t12 : Int) : Option Int :=
  (lp (fun s => kQ a0 t11 s.1 s.2) (t3, t12)).bind (fun rr => oS a0 rr)

noncomputable def eA (a0 : aV) : Option Int :=
  oP a0 (1125899906842624 : Int) ((List.length a0.inputs : Nat) : Int) (0 : Int)

noncomputable def gY (x0 : aB) (t1 : Int) (t2 : (List aB)) (t3 : (List aB)) : Option (Int × (List aB) × (List aB)) :=
  cond (decide (x0.At < t1))
  (bI ((List.length t2 + List.length ([x0])) * 40 ≤ 140737488355328 ∧ List.length t2 + List.length ([x0]) ≤ 9223372036854775807) <|
  some (t1, t2 ++ ([x0]), t3))
  (bI ((List.length t3 + List.length ([x0])) * 40 ≤ 140737488355328 ∧ List.length t3 + List.length ([x0]) ≤ 9223372036854775807) <|
  some (t1, t2, t3 ++ ([x0])))

noncomputable def nS (a0 : aV) (out3 : List (List aB)) : Option ((List (List aB)) × aV) :=
  some (out3, a0)

noncomputable def nR (a0 : aV) (out3 : List (List aB)) (t4 : Int) (t21 : Int) (t22 : Int) : Option ((aV × List (List aB) × Int × Int) ⊕ ((aV × List (List aB)))) :=
  some (.inl (a0, out3, t4, IntKind.i64.wrap (t22 + (1 : Int))))

noncomputable def lR (a0 : aV) (out3 : List (List aB)) (t4 : Int) (k5 : Int) (dN : List aB) (dW : List aB) (t21 : Int) (t22 : Int) : Option ((aV × List (List aB) × Int × Int) ⊕ ((aV × List (List aB)))) :=
  bI (0 ≤ k5 ∧ k5 < ((List.length a0.inputs : Nat) : Int)) <|
  bI ((List.length out3 + List.length ([dN])) * 24 ≤ 140737488355328 ∧ List.length out3 + List.length ([dN]) ≤ 9223372036854775807) <|
  nR (aV.mk (List.set a0.inputs (Int.toNat k5) (aY.mk (List.getD a0.inputs (Int.toNat k5) default).clock dW))) (out3 ++ ([dN])) t4 t21 t22

noncomputable def fV (k5 : Int) (t21 : Int) (t22 : Int) (t33 : (List aB)) (t34 : Int) (a0 : aV) (out3 : List (List aB)) (t4 : Int) (dN : List aB) (dW : List aB) (t35 : Int) : Option ((aV × List (List aB) × Int × List aB × List aB × Int) ⊕ ((aV × List (List aB) × Int × List aB × List aB))) :=
  cond (decide (t35 < t34))
  (bI (0 ≤ t35 ∧ t35 < ((List.length t33 : Nat) : Int)) <|
  (gY (List.getD t33 (Int.toNat t35) default) t4 dN dW).bind fun x41 =>
  some (.inl (a0, out3, x41.1, x41.2.1, x41.2.2, IntKind.i64.wrap (t35 + (1 : Int)))))
  (some (.inr (a0, out3, t4, dN, dW)))

noncomputable def nP (a0 : aV) (out3 : List (List aB)) (t4 : Int) (k5 : Int) (dN : List aB) (dW : List aB) (t21 : Int) (t22 : Int) (t33 : (List aB)) (t34 : Int) (t35 : Int) : Option ((aV × List (List aB) × Int × Int) ⊕ ((aV × List (List aB)))) :=
  (lp (fun s => fV k5 t21 t22 t33 t34 s.1 s.2.1 s.2.2.1 s.2.2.2.1 s.2.2.2.2.1 s.2.2.2.2.2) (a0, out3, t4, dN, dW, t35)).bind (fun rr => lR rr.1 rr.2.1 rr.2.2.1 k5 rr.2.2.2.1 rr.2.2.2.2 t21 t22)

noncomputable def fT (t21 : Int) (a0 : aV) (out3 : List (List aB)) (t4 : Int) (t22 : Int) : Option ((aV × List (List aB) × Int × Int) ⊕ ((aV × List (List aB)))) :=
  cond (decide (t22 < t21))
  (bI (0 ≤ t22 ∧ t22 < ((List.length a0.inputs : Nat) : Int)) <|
  nP a0 out3 t4 t22 ([] : List aB) ([] : List aB) t21 t22 ((List.getD a0.inputs (Int.toNat t22) default).held) ((List.length ((List.getD a0.inputs (Int.toNat t22) default).held) : Nat) : Int) (0 : Int))
  (some (.inr (a0, out3)))

noncomputable def nT (a0 : aV) (out3 : List (List aB)) (t4 : Int) (t21 : Int) (t22 : Int) : Option ((List (List aB)) × aV) :=
  (lp (fun s => fT t21 s.1 s.2.1 s.2.2.1 s.2.2.2) (a0, out3, t4, t22)).bind (fun rr => nS rr.1 rr.2)

noncomputable def dI (a0 : aV) : Option ((List (List aB)) × aV) :=
  (eA a0).bind fun x2 =>
  nT a0 ([] : List (List aB)) x2 ((List.length a0.inputs : Nat) : Int) (0 : Int)

noncomputable def pR (a0 : aV) (n3 : Int) : Option Int :=
  some n3

noncomputable def lO (a0 : aV) (t13 : Int) (n3 : Int) (t14 : Int) : Option ((Int × Int) ⊕ (Int)) :=
  cond (decide (t14 < t13))
  (bI (0 ≤ t14 ∧ t14 < ((List.length a0.inputs : Nat) : Int)) <|
  some (.inl (IntKind.i64.wrap (n3 + ((List.length ((List.getD a0.inputs (Int.toNat t14) default).held) : Nat) : Int)), IntKind.i64.wrap (t14 + (1 : Int)))))
  (some (.inr n3))

noncomputable def pQ (a0 : aV) (n3 : Int) (t13 : Int) (t14 : Int) : Option Int :=
  (lp (fun s => lO a0 t13 s.1 s.2) (n3, t14)).bind (fun rr => pR a0 rr)

noncomputable def jO (a0 : aV) : Option Int :=
  pQ a0 (0 : Int) ((List.length a0.inputs : Nat) : Int) (0 : Int)

noncomputable def qT  : Option Bool :=
  (rU (2 : Int)).bind fun (oa1, oe2) =>
  match oa1 with
  | none => (none)
  | some a9 => ((lF a9 (0 : Int) ([aB.mk ([aH.mk (1 : Int) (1 : Int) ByteArray.empty]) (2 : Int) (1 : Int)])).bind fun x10 =>
  (dZ x10.2 (0 : Int) (5 : Int)).bind fun x16 =>
  (dI x16.2).bind fun x22 =>
  (dZ x22.2 (1 : Int) (3 : Int)).bind fun x28 =>
  (dI x28.2).bind fun x34 =>
  bI ((((((((decide (oe2 = (0 : Int))) && (decide (x10.1 = (0 : Int)))) && (decide (x16.1 = (0 : Int)))) && (decide (x28.1 = (0 : Int)))) && (decide (((List.length x22.1 : Nat) : Int) = (2 : Int))))) = true → 0 ≤ (0 : Int) ∧ (0 : Int) < ((List.length x22.1 : Nat) : Int))) <|
  bI ((((((((((decide (oe2 = (0 : Int))) && (decide (x10.1 = (0 : Int)))) && (decide (x16.1 = (0 : Int)))) && (decide (x28.1 = (0 : Int)))) && (decide (((List.length x22.1 : Nat) : Int) = (2 : Int)))) && (decide (((List.length (List.getD x22.1 (Int.toNat (0 : Int)) default) : Nat) : Int) = (0 : Int)))) && (decide (((List.length x34.1 : Nat) : Int) = (2 : Int))))) = true → 0 ≤ (0 : Int) ∧ (0 : Int) < ((List.length x34.1 : Nat) : Int))) <|
  bI (((((((((((decide (oe2 = (0 : Int))) && (decide (x10.1 = (0 : Int)))) && (decide (x16.1 = (0 : Int)))) && (decide (x28.1 = (0 : Int)))) && (decide (((List.length x22.1 : Nat) : Int) = (2 : Int)))) && (decide (((List.length (List.getD x22.1 (Int.toNat (0 : Int)) default) : Nat) : Int) = (0 : Int)))) && (decide (((List.length x34.1 : Nat) : Int) = (2 : Int)))) && (decide (((List.length (List.getD x34.1 (Int.toNat (0 : Int)) default) : Nat) : Int) = (1 : Int))))) = true → 0 ≤ (0 : Int) ∧ (0 : Int) < ((List.length x34.1 : Nat) : Int))) <|
  bI (((((((((((decide (oe2 = (0 : Int))) && (decide (x10.1 = (0 : Int)))) && (decide (x16.1 = (0 : Int)))) && (decide (x28.1 = (0 : Int)))) && (decide (((List.length x22.1 : Nat) : Int) = (2 : Int)))) && (decide (((List.length (List.getD x22.1 (Int.toNat (0 : Int)) default) : Nat) : Int) = (0 : Int)))) && (decide (((List.length x34.1 : Nat) : Int) = (2 : Int)))) && (decide (((List.length (List.getD x34.1 (Int.toNat (0 : Int)) default) : Nat) : Int) = (1 : Int))))) = true → 0 ≤ (0 : Int) ∧ (0 : Int) < ((List.length (List.getD x34.1 (Int.toNat (0 : Int)) default) : Nat) : Int))) <|
  (cond (((((((((decide (oe2 = (0 : Int))) && (decide (x10.1 = (0 : Int)))) && (decide (x16.1 = (0 : Int)))) && (decide (x28.1 = (0 : Int)))) && (decide (((List.length x22.1 : Nat) : Int) = (2 : Int)))) && (decide (((List.length (List.getD x22.1 (Int.toNat (0 : Int)) default) : Nat) : Int) = (0 : Int)))) && (decide (((List.length x34.1 : Nat) : Int) = (2 : Int)))) && (decide (((List.length (List.getD x34.1 (Int.toNat (0 : Int)) default) : Nat) : Int) = (1 : Int)))) && (decide (((List.getD (List.getD x34.1 (Int.toNat (0 : Int)) default) (Int.toNat (0 : Int)) default).At) = (2 : Int)))) (eA x34.2) (some 0)).bind fun x44 =>
  (cond ((((((((((decide (oe2 = (0 : Int))) && (decide (x10.1 = (0 : Int)))) && (decide (x16.1 = (0 : Int)))) && (decide (x28.1 = (0 : Int)))) && (decide (((List.length x22.1 : Nat) : Int) = (2 : Int)))) && (decide (((List.length (List.getD x22.1 (Int.toNat (0 : Int)) default) : Nat) : Int) = (0 : Int)))) && (decide (((List.length x34.1 : Nat) : Int) = (2 : Int)))) && (decide (((List.length (List.getD x34.1 (Int.toNat (0 : Int)) default) : Nat) : Int) = (1 : Int)))) && (decide (((List.getD (List.getD x34.1 (Int.toNat (0 : Int)) default) (Int.toNat (0 : Int)) default).At) = (2 : Int)))) && (decide (x44 = (3 : Int)))) (jO x34.2) (some 0)).bind fun x49 =>
  some (((((((((((decide (oe2 = (0 : Int))) && (decide (x10.1 = (0 : Int)))) && (decide (x16.1 = (0 : Int)))) && (decide (x28.1 = (0 : Int)))) && (decide (((List.length x22.1 : Nat) : Int) = (2 : Int)))) && (decide (((List.length (List.getD x22.1 (Int.toNat (0 : Int)) default) : Nat) : Int) = (0 : Int)))) && (decide (((List.length x34.1 : Nat) : Int) = (2 : Int)))) && (decide (((List.length (List.getD x34.1 (Int.toNat (0 : Int)) default) : Nat) : Int) = (1 : Int)))) && (decide (((List.getD (List.getD x34.1 (Int.toNat (0 : Int)) default) (Int.toNat (0 : Int)) default).At) = (2 : Int)))) && (decide (x44 = (3 : Int)))) && (decide (x49 = (0 : Int)))))

noncomputable def tN (n3 : Int) : Option Bool :=
  some (decide (n3 ≤ (60 : Int)))

noncomputable def nJ (l0 : (List cO)) (n3 : Int) (i4 : Int) : Option ((Int × Int) ⊕ (Int)) :=
  cond ((decide (i4 < ((List.length l0 : Nat) : Int))) && (decide (n3 ≤ (60 : Int))))
  (bI (0 ≤ i4 ∧ i4 < ((List.length l0 : Nat) : Int)) <|
  some (.inl (IntKind.i64.wrap (n3 + (if (61 : Int) < ((List.length ((List.getD l0 (Int.toNat i4) default).Edges) : Nat) : Int) then (61 : Int) else ((List.length ((List.getD l0 (Int.toNat i4) default).Edges) : Nat) : Int))), IntKind.i64.wrap (i4 + (1 : Int)))))
  (some (.inr n3))

noncomputable def tP (l0 : (List cO)) (n3 : Int) (i4 : Int) : Option Bool :=
  (lp (fun s => nJ l0 s.1 s.2) (n3, i4)).bind (fun rr => tN rr)

noncomputable def rI (l0 : (List cO)) : Option Bool :=
  tP l0 ((List.length l0 : Nat) : Int) (0 : Int)

noncomputable def rS  : Option Bool :=
  some true

noncomputable def pX (a0 : (List aH)) (b1 : (List aH)) (i5 : Int) : Option ((Int) ⊕ (Unit ⊕ Bool)) :=
  cond (decide (i5 < ((List.length a0 : Nat) : Int)))
  (bI (0 ≤ i5 ∧ i5 < ((List.length a0 : Nat) : Int)) <|
  bI (0 ≤ i5 ∧ i5 < ((List.length b1 : Nat) : Int)) <|
  cond (!((decide (((List.getD a0 (Int.toNat i5) default).Kind) = ((List.getD b1 (Int.toNat i5) default).Kind))) && ((decide (((List.getD a0 (Int.toNat i5) default).Num) = ((List.getD b1 (Int.toNat i5) default).Num))) && ((oN ((List.getD a0 (Int.toNat i5) default).Text) ((List.getD b1 (Int.toNat i5) default).Text)) && true))))
  (some (.inr (.inr false)))
  (some (.inl (IntKind.i64.wrap (i5 + (1 : Int))))))
  (some (.inr (.inl ())))

noncomputable def uO (a0 : (List aH)) (b1 : (List aH)) (i5 : Int) : Option Bool :=
  (lp (fun s => pX a0 b1 s) i5).bind (Sum.elim (fun rr => rS ) (fun rr => some rr))

noncomputable def tK (a0 : (List aH)) (b1 : (List aH)) : Option Bool :=
  cond (!decide (((List.length a0 : Nat) : Int) = ((List.length b1 : Nat) : Int)))
  (some false)
  (uO a0 b1 (0 : Int))

noncomputable def rJ  : Option Bool :=
  some true

noncomputable def pU (a0 : (List aB)) (b1 : (List aB)) (i5 : Int) : Option ((Int) ⊕ (Unit ⊕ Bool)) :=
  cond (decide (i5 < ((List.length a0 : Nat) : Int)))
  (bI (0 ≤ i5 ∧ i5 < ((List.length a0 : Nat) : Int)) <|
  bI (0 ≤ i5 ∧ i5 < ((List.length b1 : Nat) : Int)) <|
  bI ((((!(!decide (((List.getD a0 (Int.toNat i5) default).At) = ((List.getD b1 (Int.toNat i5) default).At))))) = true → 0 ≤ i5 ∧ i5 < ((List.length a0 : Nat) : Int))) <|
  bI ((((!(!decide (((List.getD a0 (Int.toNat i5) default).At) = ((List.getD b1 (Int.toNat i5) default).At))))) = true → 0 ≤ i5 ∧ i5 < ((List.length b1 : Nat) : Int))) <|
  bI ((((!((!decide (((List.getD a0 (Int.toNat i5) default).At) = ((List.getD b1 (Int.toNat i5) default).At))) || (!decide (((List.getD a0 (Int.toNat i5) default).Net) = ((List.getD b1 (Int.toNat i5) default).Net)))))) = true → 0 ≤ i5 ∧ i5 < ((List.length a0 : Nat) : Int))) <|
  bI ((((!((!decide (((List.getD a0 (Int.toNat i5) default).At) = ((List.getD b1 (Int.toNat i5) default).At))) || (!decide (((List.getD a0 (Int.toNat i5) default).Net) = ((List.getD b1 (Int.toNat i5) default).Net)))))) = true → 0 ≤ i5 ∧ i5 < ((List.length b1 : Nat) : Int))) <|
  (hU (!((!decide (((List.getD a0 (Int.toNat i5) default).At) = ((List.getD b1 (Int.toNat i5) default).At))) || (!decide (((List.getD a0 (Int.toNat i5) default).Net) = ((List.getD b1 (Int.toNat i5) default).Net))))) (tK ((List.getD a0 (Int.toNat i5) default).Row) ((List.getD b1 (Int.toNat i5) default).Row))).bind fun x9 =>
  cond (((!decide (((List.getD a0 (Int.toNat i5) default).At) = ((List.getD b1 (Int.toNat i5) default).At))) || (!decide (((List.getD a0 (Int.toNat i5) default).Net) = ((List.getD b1 (Int.toNat i5) default).Net)))) || (!x9))
  (some (.inr (.inr false)))
  (some (.inl (IntKind.i64.wrap (i5 + (1 : Int))))))
  (some (.inr (.inl ())))

noncomputable def uR (a0 : (List aB)) (b1 : (List aB)) (i5 : Int) : Option Bool :=
  (lp (fun s => pU a0 b1 s) i5).bind (Sum.elim (fun rr => rJ ) (fun rr => some rr))

noncomputable def tD (a0 : (List aB)) (b1 : (List aB)) : Option Bool :=
  cond (!decide (((List.length a0 : Nat) : Int) = ((List.length b1 : Nat) : Int)))
  (some false)
  (uR a0 b1 (0 : Int))

noncomputable def oE (a3 : aV) (put5 : List aB) (got6 : List aB) : Option Bool :=
  (qE put5).bind fun x22 =>
  (qE got6).bind fun x25 =>
  (qT ).bind fun x28 =>
  (cond x28 (jO a3) (some 0)).bind fun x31 =>
  (hU ((decide (x25.2 = (0 : Int))) && ((!(!decide (x22.2 = (0 : Int)))) && ((x28 && (decide (x31 = (0 : Int))))))) (tD x22.1 x25.1)).bind fun x36 =>
  some ((x28 && (decide (x31 = (0 : Int)))) && ((!decide (x22.2 = (0 : Int))) || ((decide (x25.2 = (0 : Int))) && x36)))

noncomputable def mA (l0 : (List cO)) (a3 : aV) (put5 : List aB) (got6 : List aB) (was7 : Int) (i8 : Int) : Option ((aV × List aB × List aB × Int × Int) ⊕ ((aV × List aB × List aB) ⊕ Bool)) :=
  some (.inl (a3, put5, got6, was7, IntKind.i64.wrap (i8 + (1 : Int))))

noncomputable def nW (l0 : (List cO)) (a3 : aV) (put5 : List aB) (got6 : List aB) (i8 : Int) (x9 : (List (List aB))) : Option ((aV × List aB × List aB × Int × Int) ⊕ ((aV × List aB × List aB) ⊕ Bool)) :=
  bI (0 ≤ (0 : Int) ∧ (0 : Int) < ((List.length x9 : Nat) : Int)) <|
  bI ((List.length got6 + List.length (List.getD x9 (Int.toNat (0 : Int)) default)) * 40 ≤ 140737488355328 ∧ List.length got6 + List.length (List.getD x9 (Int.toNat (0 : Int)) default) ≤ 9223372036854775807) <|
  (eA a3).bind fun x78 =>
  mA l0 a3 put5 (got6 ++ (List.getD x9 (Int.toNat (0 : Int)) default)) x78 i8

noncomputable def mE (l0 : (List cO)) (was7 : Int) (i8 : Int) (x9 : (List (List aB))) (a3 : aV) (put5 : List aB) (got6 : List aB) (j10 : Int) : Option ((aV × List aB × List aB × Int) ⊕ ((aV × List aB × List aB) ⊕ Bool)) :=
  bI (0 ≤ (0 : Int) ∧ (0 : Int) < ((List.length x9 : Nat) : Int)) <|
  cond (decide (j10 < ((List.length (List.getD x9 (Int.toNat (0 : Int)) default) : Nat) : Int)))
  (bI (0 ≤ (0 : Int) ∧ (0 : Int) < ((List.length x9 : Nat) : Int)) <|
  bI (0 ≤ j10 ∧ j10 < ((List.length (List.getD x9 (Int.toNat (0 : Int)) default) : Nat) : Int)) <|
  bI ((((!(decide (((List.getD (List.getD x9 (Int.toNat (0 : Int)) default) (Int.toNat j10) default).At) < was7)))) = true → 0 ≤ (0 : Int) ∧ (0 : Int) < ((List.length x9 : Nat) : Int))) <|
  bI ((((!(decide (((List.getD (List.getD x9 (Int.toNat (0 : Int)) default) (Int.toNat j10) default).At) < was7)))) = true → 0 ≤ j10 ∧ j10 < ((List.length (List.getD x9 (Int.toNat (0 : Int)) default) : Nat) : Int))) <|
  (hU (!(decide (((List.getD (List.getD x9 (Int.toNat (0 : Int)) default) (Int.toNat j10) default).At) < was7))) (eA a3)).bind fun x95 =>
  cond ((decide (((List.getD (List.getD x9 (Int.toNat (0 : Int)) default) (Int.toNat j10) default).At) < was7)) || (decide (x95 ≤ ((List.getD (List.getD x9 (Int.toNat (0 : Int)) default) (Int.toNat j10) default).At))))
  (some (.inr (.inr false)))
  (some (.inl (a3, put5, got6, IntKind.i64.wrap (j10 + (1 : Int))))))
  (some (.inr (.inl (a3, put5, got6))))

noncomputable def nZ (l0 : (List cO)) (a3 : aV) (put5 : List aB) (got6 : List aB) (was7 : Int) (i8 : Int) (x9 : (List (List aB))) (j10 : Int) : Option ((aV × List aB × List aB × Int × Int) ⊕ ((aV × List aB × List aB) ⊕ Bool)) :=
  (lp (fun s => mE l0 was7 i8 x9 s.1 s.2.1 s.2.2.1 s.2.2.2) (a3, put5, got6, j10)).bind (Sum.elim (fun rr => nW l0 rr.1 rr.2.1 rr.2.2 i8 x9) (fun rr => some (.inr (.inr rr))))

noncomputable def mC (l0 : (List cO)) (a3 : aV) (put5 : List aB) (got6 : List aB) (was7 : Int) (i8 : Int) : Option ((aV × List aB × List aB × Int × Int) ⊕ ((aV × List aB × List aB) ⊕ Bool)) :=
  bI (0 ≤ i8 ∧ i8 < ((List.length l0 : Nat) : Int)) <|
  bI ((((!decide (((List.getD l0 (Int.toNat i8) default).Kind) = (0 : Int)))) = true → 0 ≤ i8 ∧ i8 < ((List.length l0 : Nat) : Int))) <|
  cond (((!decide (((List.getD l0 (Int.toNat i8) default).Kind) = (0 : Int))) && (!decide (((List.getD l0 (Int.toNat i8) default).Kind) = (1 : Int)))) || (decide (i8 = (IntKind.i64.wrap (((List.length l0 : Nat) : Int) - (1 : Int))))))
  ((cond (decide (i8 = (IntKind.i64.wrap (((List.length l0 : Nat) : Int) - (1 : Int))))) (dZ a3 (0 : Int) (1125899906842624 : Int)) (some (0, a3))).bind fun x58 =>
  cond ((decide (i8 = (IntKind.i64.wrap (((List.length l0 : Nat) : Int) - (1 : Int))))) && (!decide (x58.1 = (0 : Int))))
  (some (.inr (.inr false)))
  ((dI x58.2).bind fun x65 =>
  cond (!decide (((List.length x65.1 : Nat) : Int) = (1 : Int)))
  (some (.inr (.inr false)))
  (nZ l0 x65.2 put5 got6 was7 i8 x65.1 (0 : Int))))
  (mA l0 a3 put5 got6 was7 i8)

noncomputable def lZ (l0 : (List cO)) (a3 : aV) (put5 : List aB) (got6 : List aB) (was7 : Int) (i8 : Int) : Option ((aV × List aB × List aB × Int × Int) ⊕ ((aV × List aB × List aB) ⊕ Bool)) :=
  bI (0 ≤ i8 ∧ i8 < ((List.length l0 : Nat) : Int)) <|
  cond (decide (((List.getD l0 (Int.toNat i8) default).Kind) = (1 : Int)))
  (bI (0 ≤ i8 ∧ i8 < ((List.length l0 : Nat) : Int)) <|
  (dZ a3 (0 : Int) ((List.getD l0 (Int.toNat i8) default).At)).bind fun x102 =>
  mC l0 x102.2 put5 got6 was7 i8)
  (mC l0 a3 put5 got6 was7 i8)

noncomputable def jN (l0 : (List cO)) (a3 : aV) (put5 : List aB) (got6 : List aB) (was7 : Int) (i8 : Int) : Option ((aV × List aB × List aB × Int × Int) ⊕ ((aV × List aB × List aB) ⊕ Bool)) :=
  cond (decide (i8 < ((List.length l0 : Nat) : Int)))
  (bI (0 ≤ i8 ∧ i8 < ((List.length l0 : Nat) : Int)) <|
  bI ((((decide (((List.getD l0 (Int.toNat i8) default).Kind) = (0 : Int)))) = true → 0 ≤ i8 ∧ i8 < ((List.length l0 : Nat) : Int))) <|
  (cond (decide (((List.getD l0 (Int.toNat i8) default).Kind) = (0 : Int))) (lF a3 (0 : Int) ((List.getD l0 (Int.toNat i8) default).Edges)) (some (0, a3))).bind fun x110 =>
  cond ((decide (((List.getD l0 (Int.toNat i8) default).Kind) = (0 : Int))) && (decide (x110.1 = (0 : Int))))
  (bI (0 ≤ i8 ∧ i8 < ((List.length l0 : Nat) : Int)) <|
  bI ((List.length put5 + List.length ((List.getD l0 (Int.toNat i8) default).Edges)) * 40 ≤ 140737488355328 ∧ List.length put5 + List.length ((List.getD l0 (Int.toNat i8) default).Edges) ≤ 9223372036854775807) <|
  lZ l0 x110.2 (put5 ++ ((List.getD l0 (Int.toNat i8) default).Edges)) got6 was7 i8)
  (lZ l0 x110.2 put5 got6 was7 i8))
  (some (.inr (.inl (a3, put5, got6))))

noncomputable def nX (l0 : (List cO)) (a3 : aV) (put5 : List aB) (got6 : List aB) (was7 : Int) (i8 : Int) : Option Bool :=
  (lp (fun s => jN l0 s.1 s.2.1 s.2.2.1 s.2.2.2.1 s.2.2.2.2) (a3, put5, got6, was7, i8)).bind (Sum.elim (fun rr => oE rr.1 rr.2.1 rr.2.2) (fun rr => some rr))

noncomputable def qI (l0 : (List cO)) : Option Bool :=
  (rI l0).bind fun x1 =>
  cond (!x1)
  ((qT ).bind fun x5 =>
  some x5)
  ((rU (1 : Int)).bind fun (oa8, oe9) =>
  match oa8 with
  | none => (cond (!decide (oe9 = (0 : Int)))
  (some false)
  (none))
  | some a16 => (cond (!decide (oe9 = (0 : Int)))
  (some false)
  (nX l0 a16 ([] : List aB) ([] : List aB) (0 : Int) (0 : Int))))

end Go.Abs
namespace Go.Abs
open Go Go.RowKit
def zH (x : aH) : Prop := sJ x.Kind ∧ sJ x.Num ∧ (fun s => s.size ≤ maxLen) x.Text ∧ True

def rW (x : aB) : Prop := (fun l => (∀ a ∈ l, zH a) ∧ l.length * 32 ≤ 140737488351232) x.Row ∧ sJ x.At ∧ sJ x.Net ∧ True

def xF (x : cO) : Prop := sJ x.Kind ∧ sJ x.Input ∧ (fun l => (∀ a ∈ l, rW a) ∧ l.length * 40 ≤ 140737488351232) x.Edges ∧ sJ x.At ∧ True

end Go.Abs
namespace Go.Abs
open Go Go.RowKit Go.Proofs
noncomputable def tt : TT := ⟨RK Try.prog, MH Try.prog⟩

theorem aF : eE Try.prog tt := eE.of Try.prog

theorem FW (n0 : Int) (r : Option aV × Int) (h0 : rU n0 = some r) : qD Try.prog 5 [(eI n0)] [] (fun x L => match r.1 with | none => x = (.tup [(.lit (.pointer none)), (eI r.2)]) ∧ L = [] | some a => ∃ lo ls : Nat, x = (.tup [(.lp lo 0 0), (eI r.2)]) ∧ L = [(lo, 1, [(.agg [(.msl 2 ls 0 (List.length a.inputs))])]), (ls, 2, List.map aN a.inputs)]) := by
  intro F H0 hO
  obtain ⟨Fh, Fe, Fg⟩ := F
  refine cJ Try.func5 ?_
  unfold rU at h0
  refine aT aF 2 [] [] ?_
  refine aP ?_
  refine aT aF 6 [] [(9, (aK ((decide (n0 < (1 : Int))) || (decide ((8 : Int) < n0)))))] ?_
  refine bL h0 (fun h0 => ?_) (fun h0 => ?_)
  · refine bX aF 2 [(2, (.lit (.pointer none))), (3, (eI (2 : Int)))] ?_
    refine bM ?_
    obtain rfl := oI h0
    exact aI (aW (qL hO ⟨rfl, rfl⟩))
  refine bP ?_
  refine bK [(0, (eI n0))] ?_
  refine aP ?_
  refine aU aF 6 ?_
  refine bN 1 ?_
  obtain ⟨c1, h0⟩ := bJ h0
  refine YZ (en := aN) aF 2 32 n0 (aY.mk (0 : Int) []) (.agg [(eI (0 : Int)), (.sl true 0 (fun _ => .bad))]) (LW (xs := [(eI (0 : Int)), (.sl true 0 (fun _ => .bad))]) (ys := [(eI (0 : Int)), (eL aC [])]) ⟨aS.refl _, pE, trivial⟩) c1 hO ?_
  intro ls H hO
  refine bN 3 ?_
  refine mP 1 (.agg [(.msl 2 ls 0 (List.length (List.replicate (Int.toNat n0) (aY.mk (0 : Int) []))))]) (by kernel_rfl) (by kernel_rfl) hO ?_
  intro lo H hO
  refine bE ?_
  refine bK [(2, (.lp lo 0 0)), (3, (eI (0 : Int)))] ?_
  refine bM ?_
  obtain rfl := oI h0
  replace hO := hO.pick (L' := [(lo, 1, [(.agg [(.msl 2 ls 0 (List.length (aV.mk (List.replicate (Int.toNat n0) (aY.mk (0 : Int) []))).inputs))])]), (ls, 2, List.map aN (aV.mk (List.replicate (Int.toNat n0) (aY.mk (0 : Int) []))).inputs)]) [1, 0] (by decide) (by kernel_rfl)
  exact aI (qL hO ⟨lo, ls, rfl, rfl⟩)

theorem yO (lo0p : Nat) (bG : Nat) (a0 : aV) (k1 : Int) (r : Int) (h0 : nG a0 k1 = some r) : qD Try.prog 23 [(.lp lo0p 0 0), (eI k1)] [(lo0p, 1, [(.agg [(.msl 2 bG 0 (List.length a0.inputs))])]), (bG, 2, List.map aN a0.inputs)] (fun x L => L = [(lo0p, 1, [(.agg [(.msl 2 bG 0 (List.length a0.inputs))])]), (bG, 2, List.map aN a0.inputs)] ∧ ((r = 0 ∧ x = (.tup [(.lp bG (0 + Int.toNat k1) 0), (eI r)]) ∧ (0 ≤ k1 ∧ k1 < (lN a0.inputs))) ∨ (r ≠ 0 ∧ x = (.tup [(.lit (.pointer none)), (eI r)])))) := by
  intro F H0 hO
  obtain ⟨Fh, Fe, Fg⟩ := F
  refine cJ Try.func23 ?_
  unfold nG at h0
  refine aT aF 2 [] [] ?_
  refine aP ?_
  refine bU 0 ?_
  refine aP ?_
  refine aU aF 3 ?_
  refine bN 1 ?_
  refine BP false ?_
  refine bE ?_
  refine bK [(0, (.lp lo0p 0 0)), (1, (eI k1)), (6, (aK false))] ?_
  refine mR (false) (fun hc1 => ?_) (fun hc1 => ?_)
  · cases hc1
  · refine aP ?_
    refine aU aF 12 ?_
    refine bN 7 ?_
    refine vI [(12, false)] 0 lo0p 1 0 (.agg [(.msl 2 bG 0 (List.length a0.inputs))]) (.msl 2 bG 0 (List.length a0.inputs)) [(.agg [(.msl 2 bG 0 (List.length a0.inputs))])] (by kernel_rfl) (by kernel_rfl) hO (by kernel_rfl) (!(decide (k1 < (0 : Int)))) (by kernel_rfl) (fun _ => rfl) ?_
    refine bE ?_
    refine bK [(0, (.lp lo0p 0 0)), (1, (eI k1)), (9, (aK ((decide (k1 < (0 : Int))) || (decide ((lN a0.inputs) ≤ k1)))))] ?_
    refine bL h0 (fun h0 => ?_) (fun h0 => ?_)
    · refine bX aF 2 [(4, (.lit (.pointer none))), (5, (eI (3 : Int)))] ?_
      refine bM ?_
      obtain rfl := oI h0
      exact aI (bQ (aW (qL hO ⟨rfl, .inr ⟨by decide, rfl⟩⟩)))
    · refine bP ?_
      refine aI (aZ (aG ?_))
      refine dJ [(0, (.lp lo0p 0 0)), (1, (eI k1))] ?_
      refine aP ?_
      refine aU aF 8 ?_
      refine bN 3 ?_
      refine nY 0 lo0p 1 0 (.agg [(.msl 2 bG 0 (List.length a0.inputs))]) (.msl 2 bG 0 (List.length a0.inputs)) [(.agg [(.msl 2 bG 0 (List.length a0.inputs))])] hO rfl ?_
      obtain ⟨c1, h0⟩ := bJ h0
      refine sH [0 ≤ k1 ∧ k1 < (lN a0.inputs)] ⟨c1, trivial⟩ ?_
      refine bK [(4, (.lp bG (0 + Int.toNat k1) 0)), (5, (eI (0 : Int)))] ?_
      refine bM ?_
      obtain rfl := oI h0
      exact aI (qL hO ⟨rfl, .inl ⟨rfl, rfl, c1⟩⟩)

theorem FV (l0 : (List aB)) (r : (List aB)) (h0 : rZ l0 = some r) : cF Try.prog 63 [(eL aC l0)] (.fn (.func 83) [] [(.rp (eL aC r))]) := by
  intro H0
  refine cJ Try.func63 ?_
  have hO := aL.start H0
  unfold rZ at h0
  refine aP ?_
  refine aU aF 2 ?_
  refine qR 1 (eL aC l0) ?_
  refine bE ?_
  refine bK [(1, (.rp (eL aC l0)))] ?_
  refine bX aF 2 [(2, (.fn (.func 83) [] [(.rp (eL aC l0))]))] ?_
  refine bM ?_
  obtain rfl := oI h0
  exact aI (nB (x := (.fn (.func 83) [] [(.rp (eL aC l0))])) (by kernel_rfl) (aS.refl _) ⟨rfl, hO.out⟩)

theorem vC (s10 : (List aH)) (s21 : (List aH)) (r : Bool) (h0 : iN s10 s21 = some r) : cF Try.prog 94 [(eL aO s10), (eL aO s21)] (aK r) := by
  intro H0
  refine cJ Try.func94 ?_
  have hO := aL.start H0
  unfold iN at h0
  refine aT aF 1 [] [] ?_
  refine aP ?_
  refine aT aF 5 [] [(10, (aK (!decide ((lN s10) = (lN s21)))))] ?_
  refine bL h0 (fun h0 => ?_) (fun h0 => ?_)
  · refine bX aF 1 [(4, (aK false))] ?_
    refine bM ?_
    obtain rfl := oI h0
    exact aI (aW (Q_r hO))
  refine bP ?_
  refine bK [(0, (eL aO s10)), (1, (eL aO s21))] ?_
  refine dB (fun T H => Has T [] ∧ aL ⟨H0, [], []⟩ H [] ∧ eN  = some r) ?_ ?_
  · clear hO h0
    rintro T H ⟨hT, hO, h0⟩
    refine bD hT ?_
    clear hT
    unfold eN at h0
    refine bX aF 1 [(4, (aK true))] ?_
    refine bM ?_
    obtain rfl := oI h0
    exact aI (Q_r hO)
  refine aT aF 3 [] [(12, (eI (lN s10))), (13, (eI (0 : Int)))] ?_
  refine bU 0 ?_
  refine dJ [(0, (eL aO s10)), (1, (eL aO s21)), (12, (eI (lN s10))), (13, (eI (0 : Int)))] ?_
  refine cR (fun T H => ∃ t12 : Int, ∃ t13 : Int, Has T [(0, (eL aO s10)), (1, (eL aO s21)), (12, (eI t12)), (13, (eI t13))] ∧ aL ⟨H0, [], []⟩ H [] ∧ hM s10 s21 t12 t13 = some r) ?_ ⟨(lN s10), (0 : Int), bA, hO, h0⟩
  clear hO h0
  rintro T H ⟨t12, t13, hT, hO, h0⟩
  refine bD hT ?_
  clear hT
  unfold hM at h0
  obtain ⟨rr0, hl0, h0⟩ := bB h0
  refine eS (fun (s : Int) T H => Has T [(0, (eL aO s10)), (1, (eL aO s21)), (12, (eI t12)), (13, (eI s))] ∧ aL ⟨H0, [], []⟩ H []) hl0 ⟨bA, hO⟩ ?_
  clear hO
  rintro k0 s out1 T H ⟨hT, hO⟩ h1 ho0
  obtain ⟨t13, rfl⟩ : ∃ x, x = s := ⟨_, rfl⟩
  replace h1 : dH s10 s21 t12 t13 = some out1 := h1
  refine bD hT ?_
  clear hT
  unfold dH at h1
  refine aT aF 1 [] [(14, (aK (decide (t13 < t12))))] ?_
  refine aP ?_
  refine bL h1 (fun h1 => ?_) (fun h1 => ?_)
  · refine bP ?_
    refine bK [(0, (eL aO s10)), (1, (eL aO s21)), (12, (eI t12)), (13, (eI t13))] ?_
    refine aP ?_
    refine bU 1 ?_
    refine aT aF 2 [] [(5, (eI t13))] ?_
    refine aP ?_
    refine kH (jW [19, 23]) aF 9 ?_
    obtain ⟨c3, h1⟩ := bJ h1
    obtain ⟨c4, h1⟩ := bJ h1
    refine LL (Ds := [0 ≤ t13 ∧ t13 < (lN s10), 0 ≤ t13 ∧ t13 < (lN s21)]) (by kernel_rfl) ⟨c3, c4, trivial⟩ ?_
    refine bS [5] [(24, (aK (!((decide (((gD s10 t13).Kind) = ((gD s21 t13).Kind))) && ((decide (((gD s10 t13).Num) = ((gD s21 t13).Num))) && ((oN ((gD s10 t13).Text) ((gD s21 t13).Text)) && true))))))] ?_
    refine bL h1 (fun h1 => ?_) (fun h1 => ?_)
    · refine bX aF 1 [(4, (aK false))] ?_
      refine bM ?_
      obtain rfl := oI h1
      obtain rfl : _ = rr0 := ho0
      replace h0 : some false = some r := h0
      obtain rfl := oI h0
      exact aI (bQ (aW (aW (bQ (aW (Q_r hO))))))
    refine bP ?_
    refine dL [(0, (eL aO s10)), (1, (eL aO s21)), (12, (eI t12)), (13, (eI t13))] ?_
    refine aI (aZ (aG (?_)))
    refine aU aF 2 ?_
    refine bE ?_
    exact aI (aG (⟨rfl, _, (oI h1).symm, bA, hO⟩))
  refine eR 0 ?_
  obtain rfl := oI h1
  obtain rfl : _ = rr0 := ho0
  replace h0 : eN  = some r := h0
  exact aI (aX (aX (bT (aG (⟨rfl, bA, hO, h0⟩)))))

theorem RE (a0 : (List aH)) (b1 : (List aH)) (r : Bool) (h0 : vT a0 b1 = some r) : cF Try.prog 84 [(eL aO a0), (eL aO b1)] (aK r) := by
  intro H0
  refine cJ Try.func84 ?_
  have hO := aL.start H0
  unfold vT at h0
  refine aT aF 1 [] [] ?_
  refine aP ?_
  refine aU aF 4 ?_
  refine bN 2 ?_
  obtain ⟨x1, hx2, h0⟩ := bB h0
  refine eJ (vC a0 b1 _ hx2) hO ?_
  intro H hO
  refine bE ?_
  refine bK [(4, (aK x1))] ?_
  refine bM ?_
  obtain rfl := oI h0
  exact aI (Q_r hO)

theorem HX (r0 : (List aH)) (r : (List aH)) (h0 : tW r0 = some r) : cF Try.prog 85 [(eL aO r0)] (eL aO r) := by
  intro H0
  refine cJ Try.func85 ?_
  have hO := aL.start H0
  unfold tW at h0
  refine aT aF 1 [] [] ?_
  refine aP ?_
  refine aU aF 6 ?_
  refine bN 2 ?_
  obtain ⟨c1, h0⟩ := bJ h0
  refine YL 3 32 (lN r0) (by kernel_rfl) (by kernel_rfl) c1 hO ?_
  intro lo2 H hO
  refine bN 4 ?_
  obtain ⟨c4, h0⟩ := bJ h0
  refine DS aO ([] : List aH) r0 0 lo2 3 32 (eL aO r0) (fun lo3 => [(lo3, 3, List.map aO (([] : List aH) ++ r0))]) hO (yM (fun _ => by kernel_rfl)) c4 ?_
  intro lo3 H hO
  refine bE ?_
  refine bK [(2, (.msl 3 lo3 0 (List.length (([] : List aH) ++ r0))))] ?_
  refine bM ?_
  refine dL [(2, (.msl 3 lo3 0 (List.length (([] : List aH) ++ r0))))] ?_
  refine DY (en := aO) (([] : List aH) ++ r0) 0 0 2 3 lo3 (List.length (([] : List aH) ++ r0)) hO (by kernel_rfl) (by kernel_rfl) (by kernel_rfl) (L' := []) (by kernel_rfl) ?_
  intro H5 hO
  obtain rfl := oI h0
  exact aI (Q_r hO)

theorem zK {σ : Type} (I : σ → Gs → Prop) (yield0_b : Nat) (mD : σ → (List aH) → (List aD) → Option (σ × Bool)) (yield0_h : ∀ st a0 a1 st2 r, mD st a0 a1 = some (st2, r) → CI Try.prog (yv yield0_b) I st [(eL aO a0), (eL aE a1)] st2 (aK r)) (t1 : (List aB)) (sg0 : σ) (r : σ) (h0 : oG mD t1 sg0 = some r) : sM Try.prog 83 I sg0 [(yv yield0_b), (.rp (eL aC t1))] r (.tup []) := by
  intro H0 G0 hI hg
  refine cJ Try.func83 ?_
  obtain ⟨G, hO, hI⟩ : ∃ G, aL ⟨H0, List.map (fun p : Nat × cQ => p.1) G0, G⟩ H0 [] ∧ I sg0 G := ⟨G0, aL.DX hg, hI⟩
  clear hg
  unfold oG at h0
  refine aT aF 1 [] [(3, (eI (0 : Int)))] ?_
  refine bU 0 ?_
  refine dJ [(0, (yv yield0_b)), (1, (.rp (eL aC t1))), (3, (eI (0 : Int)))] ?_
  refine cR (fun T H => ∃ sg : σ, ∃ i3 : Int, ∃ G : Gs, Has T [(0, (yv yield0_b)), (1, (.rp (eL aC t1))), (3, (eI i3))] ∧ aL ⟨H0, List.map (fun p : Nat × cQ => p.1) G0, G⟩ H [] ∧ I sg G ∧ rA mD sg t1 i3 = some r) ?_ ⟨sg0, (0 : Int), G, bA, hO, hI, h0⟩
  clear hO hI h0
  rintro T H ⟨sg, i3, G, hT, hO, hI, h0⟩
  refine bD hT ?_
  clear hT
  unfold rA at h0
  obtain ⟨rr0, hl0, h0⟩ := bB h0
  refine eS (fun (s : σ × Int) T H => ∃ G : Gs, Has T [(0, (yv yield0_b)), (1, (.rp (eL aC t1))), (3, (eI s.2))] ∧ aL ⟨H0, List.map (fun p : Nat × cQ => p.1) G0, G⟩ H [] ∧ I s.1 G) hl0 ⟨G, bA, hO, hI⟩ ?_
  clear hO hI
  rintro k0 s out1 T H ⟨G, hT, hO, hI⟩ h1 ho0
  obtain ⟨sg, i3⟩ := s
  replace h1 : fU mD t1 sg i3 = some out1 := h1
  try dsimp only at hT
  refine bD hT ?_
  clear hT
  unfold fU at h1
  refine aP ?_
  refine aT aF 4 [] [(9, (aK (decide (i3 < (lN t1)))))] ?_
  refine bL h1 (fun h1 => ?_) (fun h1 => ?_)
  · refine bP ?_
    refine bK [(0, (yv yield0_b)), (1, (.rp (eL aC t1))), (3, (eI i3))] ?_
    refine bU 1 ?_
    refine aP ?_
    refine aU aF 6 ?_
    obtain ⟨c2, h1⟩ := bJ h1
    refine sH [0 ≤ i3 ∧ i3 < (lN t1)] ⟨c2, trivial⟩ ?_
    refine bS [] [(4, (eL aO ((gD t1 i3).Row)))] ?_
    refine aP ?_
    refine aU aF 2 ?_
    refine sL [] 2 ?_
    refine bE ?_
    refine bS [] [(5, (.sl true 0 (fun _ => .bad)))] ?_
    refine dB (fun T H => ∃ sg : σ, ∃ i3 : Int, ∃ r4 : (List aH), ∃ f5 : List aD, ∃ lo3 : Nat, ∃ G : Gs, Has T [(0, (yv yield0_b)), (1, (.rp (eL aC t1))), (3, (eI i3)), (4, (eL aO r4)), (5, (.msl 2 lo3 0 (List.length f5)))] ∧ aL ⟨H0, List.map (fun p : Nat × cQ => p.1) G0, G⟩ H [(lo3, 2, List.map aE f5)] ∧ I sg G ∧ pL mD sg t1 i3 r4 f5 = some out1) ?_ ?_
    · clear hO hI h1
      rintro T H ⟨sg, i3, r4, f5, lo3, G, hT, hO, hI, h1⟩
      refine bD hT ?_
      clear hT
      unfold pL at h1
      refine aP ?_
      refine aU aF 6 ?_
      refine xN (e := aE) f5 0 5 2 lo3 (List.length f5) [] (by kernel_rfl) hO (by kernel_rfl) (by kernel_rfl) (by kernel_rfl) (by kernel_rfl) ?_
      intro H hO
      refine bN 2 ?_
      obtain ⟨x7, hx8, h1⟩ := bB h1
      refine eJ (HX r4 _ hx8) hO ?_
      intro H hO
      refine bN 4 ?_
      obtain ⟨x10, hx11, h1⟩ := bB h1
      refine FE (I := I) (yv yield0_b) [(eL aO x7), (eL aE f5)] (aK x10.2) (by kernel_rfl) (by kernel_rfl) (yield0_h _ x7 f5 x10.1 x10.2 hx11) hO hI ?_
      intro G H hO hI
      refine bE ?_
      refine bS [4, 5] [(50, (aK (!x10.2)))] ?_
      refine bL h1 (fun h1 => ?_) (fun h1 => ?_)
      · refine bM ?_
        obtain rfl := oI h1
        obtain rfl : _ = rr0 := ho0
        replace h0 : some x10.1 = some r := h0
        obtain rfl := oI h0
        exact aI (bQ (aW (bQ (nB (x := (.tup [])) (by kernel_rfl) (aS.refl _) ⟨rfl, G, hI, hO.DH⟩))))
      refine bP ?_
      exact aI (aZ (aG (⟨rfl, _, (oI h1).symm, _, bA, hO, hI⟩)))
    refine bU 2 ?_
    refine dJ [(0, (yv yield0_b)), (1, (.rp (eL aC t1))), (3, (eI i3)), (4, (eL aO ((gD t1 i3).Row))), (5, (.sl true 0 (fun _ => .bad)))] ?_
    refine EW (el := (fun _ => .bad)) 4 5 2 hO (by kernel_rfl) ?_
    intro lo24 H25 hO
    refine cR (fun T H => ∃ sg : σ, ∃ i3 : Int, ∃ r4 : (List aH), ∃ f5 : List aD, ∃ lo14 : Nat, ∃ G : Gs, Has T [(0, (yv yield0_b)), (1, (.rp (eL aC t1))), (3, (eI i3)), (4, (eL aO r4)), (5, (.msl 2 lo14 0 (List.length f5)))] ∧ aL ⟨H0, List.map (fun p : Nat × cQ => p.1) G0, G⟩ H [(lo14, 2, List.map aE f5)] ∧ I sg G ∧ rC mD sg t1 i3 r4 f5 = some out1) ?_ ⟨sg, i3, (gD t1 i3).Row, ([] : List aD), lo24, G, bA, hO, hI, h1⟩
    clear hO hI h1
    rintro T H ⟨sg, i3, r4, f5, lo14, G, hT, hO, hI, h1⟩
    refine bD hT ?_
    clear hT
    unfold rC at h1
    obtain ⟨rr1, hl1, h1⟩ := bB h1
    refine eS (fun (s : σ × Int × List aD) T H => ∃ lo14 : Nat, ∃ G : Gs, Has T [(0, (yv yield0_b)), (1, (.rp (eL aC t1))), (3, (eI s.2.1)), (4, (eL aO r4)), (5, (.msl 2 lo14 0 (List.length s.2.2)))] ∧ aL ⟨H0, List.map (fun p : Nat × cQ => p.1) G0, G⟩ H [(lo14, 2, List.map aE s.2.2)] ∧ I s.1 G) hl1 ⟨lo14, G, bA, hO, hI⟩ ?_
    clear hO hI
    rintro k1 s out2 T H ⟨lo14, G, hT, hO, hI⟩ h2 ho1
    obtain ⟨sg, i3, f5⟩ := s
    replace h2 : iA mD t1 r4 sg i3 f5 = some out2 := h2
    try dsimp only at hT
    refine bD hT ?_
    clear hT
    unfold iA at h2
    refine aP ?_
    refine aP ?_
    refine aU aF 13 ?_
    obtain ⟨c15, h2⟩ := bJ h2
    refine rB 11 [(((decide (i3 < (lN t1)))) = true → 0 ≤ i3 ∧ i3 < (lN t1))] ⟨c15, trivial⟩ ?_
    obtain ⟨x16, hx17, h2⟩ := bB h2
    refine tO [(20, true)] 84 [(eL aO ((gD t1 i3).Row)), (eL aO r4)] (aK x16) (decide (i3 < (lN t1))) (by kernel_rfl) (by kernel_rfl) (by kernel_rfl) (fun hb18 => (RE ((gD t1 i3).Row) r4 _ (tI hx17 hb18))) hO ?_
    intro H hO
    refine bE ?_
    refine bS [] [(28, (aK ((decide (i3 < (lN t1))) && x16)))] ?_
    refine bL h2 (fun h2 => ?_) (fun h2 => ?_)
    · refine bP ?_
      refine bK [(0, (yv yield0_b)), (1, (.rp (eL aC t1))), (3, (eI i3)), (4, (eL aO r4)), (5, (.msl 2 lo14 0 (List.length f5)))] ?_
      refine aP ?_
      refine bU 3 ?_
      refine kH (jW [32, 36, 37, 41, 43]) aF 15 ?_
      obtain ⟨c20, h2⟩ := bJ h2
      obtain ⟨c21, h2⟩ := bJ h2
      refine dA 12 [0 ≤ i3 ∧ i3 < (lN t1), 0 ≤ i3 ∧ i3 < (lN t1)] ⟨c20, c21, trivial⟩ ?_
      refine SD (xs := [(aE (aD.mk ((gD t1 i3).At) ((gD t1 i3).Net)))]) (k := 2) (by kernel_rfl) (by kernel_rfl) ?_
      obtain ⟨c23, h2⟩ := bJ h2
      refine QT (e := aE) f5 ([aD.mk ((gD t1 i3).At) ((gD t1 i3).Net)]) 0 lo14 2 16 (lI [(aE (aD.mk ((gD t1 i3).At) ((gD t1 i3).Net)))]) (fun lo22 => [(lo22, 2, List.map aE (f5 ++ ([aD.mk ((gD t1 i3).At) ((gD t1 i3).Net)])))]) (by kernel_rfl) (by kernel_rfl) hO (by kernel_rfl) (by kernel_rfl) c23 (fun _ => by kernel_rfl) ?_
      intro lo22 H hO
      refine oO ?_
      refine dL [(0, (yv yield0_b)), (1, (.rp (eL aC t1))), (3, (eI i3)), (4, (eL aO r4)), (5, (.msl 2 lo22 0 (List.length (f5 ++ ([aD.mk ((gD t1 i3).At) ((gD t1 i3).Net)])))))] ?_
      refine aI (aZ (aG (?_)))
      refine aU aF 3 ?_
      refine bE ?_
      exact aI (aG (⟨rfl, _, (oI h2).symm, _, _, bA, hO, hI⟩))
    refine eR 2 ?_
    obtain rfl := oI h2
    obtain rfl : _ = rr1 := ho1
    replace h1 : pL mD sg t1 i3 r4 f5 = some out1 := h1
    exact aI (aX (aX (bT (aG (⟨rfl, _, _, _, _, _, _, bA, hO, hI, h1⟩)))))
  refine eR 0 ?_
  obtain rfl := oI h1
  obtain rfl : _ = rr0 := ho0
  replace h0 : some sg = some r := h0
  obtain rfl := oI h0
  exact aI (aX (aX (bT (qK (x := (.tup [])) (by kernel_rfl) (aS.refl _) ⟨rfl, G, hI, hO.DH⟩))))

theorem tL (s0 : (List aH)) (f1_f : Nat) (f1_a f1_c : List V) (f1 : aH → Option Bool) (f1_h : ∀ a0 r, f1 a0 = some r → cF Try.prog f1_f (f1_a ++ [(aO a0)] ++ f1_c) (aK r)) (r : Int) (h0 : fO s0 f1 = some r) : cF Try.prog 58 [(eL aO s0), (.fn (.func f1_f) f1_a f1_c)] (eI r) := by
  intro H0
  refine cJ Try.func58 ?_
  have hO := aL.start H0
  unfold fO at h0
  refine aT aF 1 [] [] ?_
  refine dB (fun T H => Has T [] ∧ aL ⟨H0, [], []⟩ H [] ∧ dP f1  = some r) ?_ ?_
  · clear hO h0
    rintro T H ⟨hT, hO, h0⟩
    refine bD hT ?_
    clear hT
    unfold dP at h0
    refine bX aF 1 [(4, (eI (-1 : Int)))] ?_
    refine bM ?_
    obtain rfl := oI h0
    exact aI (Q_r hO)
  refine aT aF 3 [] [(7, (eI (lN s0))), (8, (eI (0 : Int)))] ?_
  refine bU 0 ?_
  refine dJ [(0, (eL aO s0)), (1, (.fn (.func f1_f) f1_a f1_c)), (7, (eI (lN s0))), (8, (eI (0 : Int)))] ?_
  refine cR (fun T H => ∃ t7 : Int, ∃ t8 : Int, Has T [(0, (eL aO s0)), (1, (.fn (.func f1_f) f1_a f1_c)), (7, (eI t7)), (8, (eI t8))] ∧ aL ⟨H0, [], []⟩ H [] ∧ fK f1 s0 t7 t8 = some r) ?_ ⟨(lN s0), (0 : Int), bA, hO, h0⟩
  clear hO h0
  rintro T H ⟨t7, t8, hT, hO, h0⟩
  refine bD hT ?_
  clear hT
  unfold fK at h0
  obtain ⟨rr0, hl0, h0⟩ := bB h0
  refine eS (fun (s : Int) T H => Has T [(0, (eL aO s0)), (1, (.fn (.func f1_f) f1_a f1_c)), (7, (eI t7)), (8, (eI s))] ∧ aL ⟨H0, [], []⟩ H []) hl0 ⟨bA, hO⟩ ?_
  clear hO
  rintro k0 s out1 T H ⟨hT, hO⟩ h1 ho0
  obtain ⟨t8, rfl⟩ : ∃ x, x = s := ⟨_, rfl⟩
  replace h1 : fM f1 s0 t7 t8 = some out1 := h1
  refine bD hT ?_
  clear hT
  unfold fM at h1
  refine aT aF 1 [] [(9, (aK (decide (t8 < t7))))] ?_
  refine aP ?_
  refine bL h1 (fun h1 => ?_) (fun h1 => ?_)
  · refine bP ?_
    refine bK [(0, (eL aO s0)), (1, (.fn (.func f1_f) f1_a f1_c)), (7, (eI t7)), (8, (eI t8))] ?_
    refine aP ?_
    refine bU 1 ?_
    refine aT aF 2 [] [(5, (eI t8))] ?_
    refine aP ?_
    refine aU aF 6 ?_
    obtain ⟨c2, h1⟩ := bJ h1
    refine rB 5 [0 ≤ t8 ∧ t8 < (lN s0)] ⟨c2, trivial⟩ ?_
    obtain ⟨x3, hx4, h1⟩ := bB h1
    refine eJ (f1_h (gD s0 t8) _ hx4) hO ?_
    intro H hO
    refine cL ?_
    refine bS [] [(16, (aK x3))] ?_
    refine bL h1 (fun h1 => ?_) (fun h1 => ?_)
    · refine bX aF 2 [(4, (eI t8))] ?_
      refine bM ?_
      obtain rfl := oI h1
      obtain rfl : _ = rr0 := ho0
      replace h0 : some t8 = some r := h0
      obtain rfl := oI h0
      exact aI (bQ (aW (aW (bQ (aW (Q_r hO))))))
    refine bP ?_
    refine dL [(0, (eL aO s0)), (1, (.fn (.func f1_f) f1_a f1_c)), (7, (eI t7)), (8, (eI t8))] ?_
    refine aI (aZ (aG (?_)))
    refine aU aF 2 ?_
    refine bE ?_
    exact aI (aG (⟨rfl, _, (oI h1).symm, bA, hO⟩))
  refine eR 0 ?_
  obtain rfl := oI h1
  obtain rfl : _ = rr0 := ho0
  replace h0 : dP f1  = some r := h0
  exact aI (aX (aX (bT (aG (⟨rfl, bA, hO, h0⟩)))))

theorem rL (s0 : (List aH)) (f1_f : Nat) (f1_a f1_c : List V) (f1 : aH → Option Bool) (f1_h : ∀ a0 r, f1 a0 = some r → cF Try.prog f1_f (f1_a ++ [(aO a0)] ++ f1_c) (aK r)) (r : Bool) (h0 : dF s0 f1 = some r) : cF Try.prog 54 [(eL aO s0), (.fn (.func f1_f) f1_a f1_c)] (aK r) := by
  intro H0
  refine cJ Try.func54 ?_
  have hO := aL.start H0
  unfold dF at h0
  refine aT aF 1 [] [] ?_
  refine aP ?_
  refine aU aF 5 ?_
  refine bN 2 ?_
  obtain ⟨x1, hx2, h0⟩ := bB h0
  refine eJ (tL s0 f1_f f1_a f1_c f1 f1_h _ hx2) hO ?_
  intro H hO
  refine bE ?_
  refine bK [(4, (aK (decide ((0 : Int) ≤ x1))))] ?_
  refine bM ?_
  obtain rfl := oI h0
  exact aI (Q_r hO)

theorem vU (v0 : aH) (r : (bH × Bool)) (h0 : lT v0 = some r) : cF Try.prog 78 [(aO v0)] (.tup [(bF r.1), (aK r.2)]) := by
  intro H0
  refine cJ Try.func78 ?_
  have hO := aL.start H0
  unfold lT at h0
  refine aP ?_
  refine aU aF 3 ?_
  refine qR 3 (aO v0) ?_
  refine bE ?_
  refine bK [(1, (.rp (aO v0)))] ?_
  refine aP ?_
  refine bU 0 ?_
  refine aT aF 9 [] [(4, (aK ((decide (v0.Kind = (1 : Int))) && (oN v0.Text (⟨#[]⟩ : ByteArray)))))] ?_
  refine bL h0 (fun h0 => ?_) (fun h0 => ?_)
  · refine bX aF 5 [(2, (bF (bH.k_number v0.Num))), (3, (aK true))] ?_
    refine bM ?_
    obtain rfl := oI h0
    exact aI (bQ (aW (Q_r hO)))
  refine aT aF 15 [4] [(16, (aK (((decide (v0.Kind = (2 : Int))) && (decide (v0.Num = (0 : Int)))) && (decide (((ByteArray.size v0.Text : Nat) : Int) ≤ (64 : Int))))))] ?_
  refine bL h0 (fun h0 => ?_) (fun h0 => ?_)
  · refine bX aF 5 [(2, (bF (bH.k_words v0.Text))), (3, (aK true))] ?_
    refine bM ?_
    obtain rfl := oI h0
    exact aI (bQ (aW (Q_r hO)))
  refine bP ?_
  refine dL [] ?_
  refine aI (aZ (aG (?_)))
  refine bX aF 2 [(2, (bF bH.none_)), (3, (aK false))] ?_
  refine bM ?_
  obtain rfl := oI h0
  exact aI (Q_r hO)

theorem OX (v0 : aH) (r : Bool) (h0 : uD v0 = some r) : cF Try.prog 56 [(aO v0)] (aK r) := by
  intro H0
  refine cJ Try.func56 ?_
  have hO := aL.start H0
  unfold uD at h0
  refine aP ?_
  refine aU aF 2 ?_
  refine qR 3 (aO v0) ?_
  refine bE ?_
  refine bK [(1, (.rp (aO v0)))] ?_
  refine aP ?_
  refine aU aF 7 ?_
  refine bN 1 ?_
  obtain ⟨⟨x1_0, x1_1⟩, hx2, h0⟩ := bB h0
  refine eJ (vU v0 _ hx2) hO ?_
  intro H hO
  rcases x1_0 with _ | y4 | y5
  · replace h0 : (some x1_1) = some r := h0
    refine bE ?_
    refine bK [(4, (aK x1_1))] ?_
    refine bX aF 2 [(2, (aK x1_1))] ?_
    refine bM ?_
    obtain rfl := oI h0
    exact aI (Q_r hO)
  · replace h0 : (some x1_1) = some r := h0
    refine bE ?_
    refine bK [(4, (aK x1_1))] ?_
    refine bX aF 2 [(2, (aK x1_1))] ?_
    refine bM ?_
    obtain rfl := oI h0
    exact aI (Q_r hO)
  · replace h0 : (some x1_1) = some r := h0
    refine bE ?_
    refine bK [(4, (aK x1_1))] ?_
    refine bX aF 2 [(2, (aK x1_1))] ?_
    refine bM ?_
    obtain rfl := oI h0
    exact aI (Q_r hO)

theorem PL (v0 : aH) (r : Bool) (h0 : uG v0 = some r) : cF Try.prog 55 [(aO v0)] (aK r) := by
  intro H0
  refine cJ Try.func55 ?_
  have hO := aL.start H0
  unfold uG at h0
  refine aP ?_
  refine aU aF 2 ?_
  refine qR 3 (aO v0) ?_
  refine bE ?_
  refine bK [(1, (.rp (aO v0)))] ?_
  refine aP ?_
  refine aU aF 4 ?_
  refine bN 1 ?_
  obtain ⟨x1, hx2, h0⟩ := bB h0
  refine eJ (OX v0 _ hx2) hO ?_
  intro H hO
  refine bE ?_
  refine bK [(2, (aK (!x1)))] ?_
  refine bM ?_
  obtain rfl := oI h0
  exact aI (Q_r hO)

theorem zI (r0 : (List aH)) (r : Bool) (h0 : qY r0 = some r) : cF Try.prog 32 [(eL aO r0)] (aK r) := by
  intro H0
  refine cJ Try.func32 ?_
  have hO := aL.start H0
  unfold qY at h0
  refine aT aF 1 [] [] ?_
  refine aP ?_
  refine aT aF 3 [] [(5, (aK (decide ((8 : Int) < (lN r0)))))] ?_
  refine bL h0 (fun h0 => ?_) (fun h0 => ?_)
  · refine bX aF 1 [(2, (aK false))] ?_
    refine bM ?_
    obtain rfl := oI h0
    exact aI (aW (Q_r hO))
  refine bP ?_
  refine bK [(0, (eL aO r0))] ?_
  refine aP ?_
  refine aU aF 4 ?_
  refine bN 1 ?_
  obtain ⟨x2, hx3, h0⟩ := bB h0
  refine eJ (rL r0 55 [] [] (fun y0 => uG y0) (fun y0 r h => PL y0 r h) _ hx3) hO ?_
  intro H hO
  refine bE ?_
  refine bK [(2, (aK (!x2)))] ?_
  refine bM ?_
  obtain rfl := oI h0
  exact aI (Q_r hO)

theorem IL (t0 : (List aH)) (r : (Int × (List aH))) (h0 : sO t0 = some r) : EY Try.prog 59 [(.rp (eL aO t0))] (fun lo => (.fn (.func 60) [] [(.lp lo 0 0), (.rp (eL aO r.2))])) 1 [(eI r.1)] := by
  intro H0
  refine cJ Try.func59 ?_
  have hO := aL.start H0
  unfold sO at h0
  refine aT aF 1 [] [] ?_
  refine aP ?_
  refine aU aF 2 ?_
  refine mP 1 (eI 0) (by kernel_rfl) (by kernel_rfl) hO ?_
  intro lo1 H hO
  refine mZ 0 lo1 1 0 (eI 0) (eI (-1 : Int)) [(eI 0)] [(lo1, 1, [(eI (-1 : Int))])] hO rfl (by kernel_rfl) ?_
  intro H hO
  refine cL ?_
  refine bS [] [(2, (.lp lo1 0 0))] ?_
  refine aT aF 2 [0] [(1, (.fn (.func 60) [] [(.lp lo1 0 0), (.rp (eL aO t0))]))] ?_
  refine bM ?_
  obtain rfl := oI h0
  exact aI (nB (x := (.fn (.func 60) [] [(.lp lo1 0 0), (.rp (eL aO t0))])) (by kernel_rfl) (aS.refl _) ⟨lo1, rfl, hO⟩)

theorem sI {σ : Type} (I : σ → Gs → Prop) (s0 : (List aH)) (f1_v : V) (f1 : σ → aH → Option (σ × Bool)) (f1_h : ∀ st a0 st2 r, f1 st a0 = some (st2, r) → CI Try.prog f1_v I st [(aO a0)] st2 (aK r)) (sg0 : σ) (r : (σ × Int)) (h0 : fE s0 f1 sg0 = some r) : sM Try.prog 58 I sg0 [(eL aO s0), f1_v] r.1 (eI r.2) := by
  intro H0 G0 hI hg
  refine cJ Try.func58 ?_
  obtain ⟨G, hO, hI⟩ : ∃ G, aL ⟨H0, List.map (fun p : Nat × cQ => p.1) G0, G⟩ H0 [] ∧ I sg0 G := ⟨G0, aL.DX hg, hI⟩
  clear hg
  unfold fE at h0
  refine aT aF 1 [] [] ?_
  refine dB (fun T H => ∃ sg : σ, ∃ G : Gs, Has T [] ∧ aL ⟨H0, List.map (fun p : Nat × cQ => p.1) G0, G⟩ H [] ∧ I sg G ∧ dD f1 sg = some r) ?_ ?_
  · clear hO hI h0
    rintro T H ⟨sg, G, hT, hO, hI, h0⟩
    refine bD hT ?_
    clear hT
    unfold dD at h0
    refine bX aF 1 [(4, (eI (-1 : Int)))] ?_
    refine bM ?_
    obtain rfl := oI h0
    exact aI (nB (x := (eI (-1 : Int))) (by kernel_rfl) (aS.refl _) ⟨rfl, G, hI, hO.DH⟩)
  refine aT aF 3 [] [(7, (eI (lN s0))), (8, (eI (0 : Int)))] ?_
  refine bU 0 ?_
  refine dJ [(0, (eL aO s0)), (1, f1_v), (7, (eI (lN s0))), (8, (eI (0 : Int)))] ?_
  refine cR (fun T H => ∃ sg : σ, ∃ t7 : Int, ∃ t8 : Int, ∃ G : Gs, Has T [(0, (eL aO s0)), (1, f1_v), (7, (eI t7)), (8, (eI t8))] ∧ aL ⟨H0, List.map (fun p : Nat × cQ => p.1) G0, G⟩ H [] ∧ I sg G ∧ eW f1 sg s0 t7 t8 = some r) ?_ ⟨sg0, (lN s0), (0 : Int), G, bA, hO, hI, h0⟩
  clear hO hI h0
  rintro T H ⟨sg, t7, t8, G, hT, hO, hI, h0⟩
  refine bD hT ?_
  clear hT
  unfold eW at h0
  obtain ⟨rr0, hl0, h0⟩ := bB h0
  refine eS (fun (s : σ × Int) T H => ∃ G : Gs, Has T [(0, (eL aO s0)), (1, f1_v), (7, (eI t7)), (8, (eI s.2))] ∧ aL ⟨H0, List.map (fun p : Nat × cQ => p.1) G0, G⟩ H [] ∧ I s.1 G) hl0 ⟨G, bA, hO, hI⟩ ?_
  clear hO hI
  rintro k0 s out1 T H ⟨G, hT, hO, hI⟩ h1 ho0
  obtain ⟨sg, t8⟩ := s
  replace h1 : bW f1 s0 t7 sg t8 = some out1 := h1
  try dsimp only at hT
  refine bD hT ?_
  clear hT
  unfold bW at h1
  refine aT aF 1 [] [(9, (aK (decide (t8 < t7))))] ?_
  refine aP ?_
  refine bL h1 (fun h1 => ?_) (fun h1 => ?_)
  · refine bP ?_
    refine bK [(0, (eL aO s0)), (1, f1_v), (7, (eI t7)), (8, (eI t8))] ?_
    refine aP ?_
    refine bU 1 ?_
    refine aT aF 2 [] [(5, (eI t8))] ?_
    refine aP ?_
    refine aU aF 6 ?_
    obtain ⟨c2, h1⟩ := bJ h1
    refine rB 5 [0 ≤ t8 ∧ t8 < (lN s0)] ⟨c2, trivial⟩ ?_
    obtain ⟨x3, hx4, h1⟩ := bB h1
    refine FE (I := I) f1_v [(aO (gD s0 t8))] (aK x3.2) (by kernel_rfl) (by kernel_rfl) (f1_h _ (gD s0 t8) x3.1 x3.2 hx4) hO hI ?_
    intro G H hO hI
    refine cL ?_
    refine bS [] [(16, (aK x3.2))] ?_
    refine bL h1 (fun h1 => ?_) (fun h1 => ?_)
    · refine bX aF 2 [(4, (eI t8))] ?_
      refine bM ?_
      obtain rfl := oI h1
      obtain rfl : _ = rr0 := ho0
      replace h0 : some (x3.1, t8) = some r := h0
      obtain rfl := oI h0
      exact aI (bQ (aW (aW (bQ (aW (nB (x := (eI t8)) (by kernel_rfl) (aS.refl _) ⟨rfl, G, hI, hO.DH⟩))))))
    refine bP ?_
    refine dL [(0, (eL aO s0)), (1, f1_v), (7, (eI t7)), (8, (eI t8))] ?_
    refine aI (aZ (aG (?_)))
    refine aU aF 2 ?_
    refine bE ?_
    exact aI (aG (⟨rfl, _, (oI h1).symm, _, bA, hO, hI⟩))
  refine eR 0 ?_
  obtain rfl := oI h1
  obtain rfl : _ = rr0 := ho0
  replace h0 : dD f1 sg = some r := h0
  exact aI (aX (aX (bT (aG (⟨rfl, _, _, bA, hO, hI, h0⟩)))))

theorem FI (v0 : aH) (lo1p : Nat) (t1 : Int) (t2 : (List aH)) (r : (Bool × Int)) (h0 : jH v0 t1 t2 = some r) : mF Try.prog 60 lo1p 1 [(eI t1)] [(eI r.2)] [(aO v0), (.lp lo1p 0 0), (.rp (eL aO t2))] (aK r.1) := by
  intro H0 hl0
  refine cJ Try.func60 ?_
  have hO := aL.pI hl0
  clear hl0
  unfold jH at h0
  refine aP ?_
  refine aU aF 2 ?_
  refine qR 3 (aO v0) ?_
  refine bE ?_
  refine bS [0] [(3, (.rp (aO v0)))] ?_
  refine aP ?_
  refine aU aF 3 ?_
  refine nY 0 lo1p 1 0 (eI t1) (eI t1) [(eI t1)] hO rfl ?_
  refine bN 2 ?_
  refine mZ 0 lo1p 1 0 (eI t1) (eI (wR (t1 + (1 : Int)))) [(eI t1)] [(lo1p, 1, [(eI (wR (t1 + (1 : Int))))])] hO rfl (by kernel_rfl) ?_
  intro H hO
  refine cL ?_
  refine bS [] [] ?_
  refine aP ?_
  refine kH (jW [7, 8, 11]) aF 7 ?_
  refine vA 2 ?_
  refine kC 0 lo1p 1 0 (eI (wR (t1 + (1 : Int)))) (eI (wR (t1 + (1 : Int)))) [(eI (wR (t1 + (1 : Int))))] hO rfl ?_
  obtain ⟨c1, h0⟩ := bJ h0
  refine LL (Ds := [0 ≤ (wR (t1 + (1 : Int))) ∧ (wR (t1 + (1 : Int))) < (lN t2)]) (by kernel_rfl) ⟨c1, trivial⟩ ?_
  refine bK [(1, (.lp lo1p 0 0)), (4, (aK (!((decide (v0.Kind = ((gD t2 (wR (t1 + (1 : Int)))).Kind))) && ((decide (v0.Num = ((gD t2 (wR (t1 + (1 : Int)))).Num))) && ((oN v0.Text ((gD t2 (wR (t1 + (1 : Int)))).Text)) && true))))))] ?_
  refine bM ?_
  obtain rfl := oI h0
  exact aI (nB (x := (aK (!((decide (v0.Kind = ((gD t2 (wR (t1 + (1 : Int)))).Kind))) && ((decide (v0.Num = ((gD t2 (wR (t1 + (1 : Int)))).Num))) && ((oN v0.Text ((gD t2 (wR (t1 + (1 : Int)))).Text)) && true)))))) (by kernel_rfl) (aS.refl _) ⟨rfl, hO.ext, hO.at 0 (by kernel_rfl), rfl⟩)

theorem zS (x0 : Int) (r : Bool) (h0 : oF x0 = some r) : cF Try.prog 62 [(eI x0)] (aK r) := by
  intro H0
  refine cJ Try.func62 ?_
  have hO := aL.start H0
  unfold oF at h0
  refine aT aF 1 [] [] ?_
  refine bX aF 4 [(2, (aK (!decide (x0 = x0))))] ?_
  refine bM ?_
  obtain rfl := oI h0
  exact aI (Q_r hO)

theorem tY (x0 : Int) (y1 : Int) (r : Int) (h0 : jG x0 y1 = some r) : cF Try.prog 39 [(eI x0), (eI y1)] (eI r) := by
  intro H0
  refine cJ Try.func39 ?_
  have hO := aL.start H0
  unfold jG at h0
  refine aT aF 1 [] [] ?_
  refine aP ?_
  refine aU aF 3 ?_
  refine bN 1 ?_
  obtain ⟨x1, hx2, h0⟩ := bB h0
  refine eJ (zS x0 _ hx2) hO ?_
  intro H hO
  refine bE ?_
  refine bS [] [(5, (aK x1))] ?_
  refine aP ?_
  refine aU aF 3 ?_
  refine bN 1 ?_
  obtain ⟨x4, hx5, h0⟩ := bB h0
  refine eJ (zS y1 _ hx5) hO ?_
  intro H hO
  refine bE ?_
  refine bS [] [(6, (aK x4))] ?_
  refine aP ?_
  refine aT aF 1 [5] [(11, (aK x1))] ?_
  refine bL h0 (fun h0 => ?_) (fun h0 => ?_)
  · refine aP ?_
    refine bX aF 1 [(12, (aK x4))] ?_
    refine bL h0 (fun h0 => ?_) (fun h0 => ?_)
    · refine bX aF 1 [(4, (eI (0 : Int)))] ?_
      refine bM ?_
      obtain rfl := oI h0
      exact aI (aW (aW (Q_r hO)))
    refine bP ?_
    refine bK [] ?_
    refine bX aF 1 [(4, (eI (-1 : Int)))] ?_
    refine bM ?_
    obtain rfl := oI h0
    exact aI (aW (Q_r hO))
  refine bP ?_
  refine bK [(0, (eI x0)), (1, (eI y1)), (6, (aK x4))] ?_
  refine aP ?_
  refine aT aF 1 [6] [(13, (aK x4))] ?_
  refine bL h0 (fun h0 => ?_) (fun h0 => ?_)
  · refine bX aF 1 [(4, (eI (1 : Int)))] ?_
    refine bM ?_
    obtain rfl := oI h0
    exact aI (aW (Q_r hO))
  refine bP ?_
  refine bK [(0, (eI x0)), (1, (eI y1))] ?_
  refine aP ?_
  refine aT aF 3 [] [(16, (aK (decide (x0 < y1))))] ?_
  refine bL h0 (fun h0 => ?_) (fun h0 => ?_)
  · refine bX aF 1 [(4, (eI (-1 : Int)))] ?_
    refine bM ?_
    obtain rfl := oI h0
    exact aI (aW (Q_r hO))
  refine bP ?_
  refine bK [(0, (eI x0)), (1, (eI y1))] ?_
  refine aP ?_
  refine bX aF 3 [(19, (aK (decide (y1 < x0))))] ?_
  refine bL h0 (fun h0 => ?_) (fun h0 => ?_)
  · refine bX aF 1 [(4, (eI (1 : Int)))] ?_
    refine bM ?_
    obtain rfl := oI h0
    exact aI (aW (Q_r hO))
  refine bP ?_
  refine bK [] ?_
  refine bX aF 1 [(4, (eI (0 : Int)))] ?_
  refine bM ?_
  obtain rfl := oI h0
  exact aI (Q_r hO)

theorem tC (x0 : Int) (r : Bool) (h0 : jS x0 = some r) : cF Try.prog 92 [(eI x0)] (aK r) := by
  intro H0
  refine cJ Try.func92 ?_
  have hO := aL.start H0
  unfold jS at h0
  refine aT aF 1 [] [] ?_
  refine bX aF 4 [(2, (aK (!decide (x0 = x0))))] ?_
  refine bM ?_
  obtain rfl := oI h0
  exact aI (Q_r hO)

theorem xW (x0 : Int) (y1 : Int) (r : Int) (h0 : eB x0 y1 = some r) : cF Try.prog 81 [(eI x0), (eI y1)] (eI r) := by
  intro H0
  refine cJ Try.func81 ?_
  have hO := aL.start H0
  unfold eB at h0
  refine aT aF 1 [] [] ?_
  refine aP ?_
  refine aU aF 3 ?_
  refine bN 1 ?_
  obtain ⟨x1, hx2, h0⟩ := bB h0
  refine eJ (tC x0 _ hx2) hO ?_
  intro H hO
  refine bE ?_
  refine bS [] [(5, (aK x1))] ?_
  refine aP ?_
  refine aU aF 3 ?_
  refine bN 1 ?_
  obtain ⟨x4, hx5, h0⟩ := bB h0
  refine eJ (tC y1 _ hx5) hO ?_
  intro H hO
  refine bE ?_
  refine bS [] [(6, (aK x4))] ?_
  refine aP ?_
  refine aT aF 1 [5] [(11, (aK x1))] ?_
  refine bL h0 (fun h0 => ?_) (fun h0 => ?_)
  · refine aP ?_
    refine bX aF 1 [(12, (aK x4))] ?_
    refine bL h0 (fun h0 => ?_) (fun h0 => ?_)
    · refine bX aF 1 [(4, (eI (0 : Int)))] ?_
      refine bM ?_
      obtain rfl := oI h0
      exact aI (aW (aW (Q_r hO)))
    refine bP ?_
    refine bK [] ?_
    refine bX aF 1 [(4, (eI (-1 : Int)))] ?_
    refine bM ?_
    obtain rfl := oI h0
    exact aI (aW (Q_r hO))
  refine bP ?_
  refine bK [(0, (eI x0)), (1, (eI y1)), (6, (aK x4))] ?_
  refine aP ?_
  refine aT aF 1 [6] [(13, (aK x4))] ?_
  refine bL h0 (fun h0 => ?_) (fun h0 => ?_)
  · refine bX aF 1 [(4, (eI (1 : Int)))] ?_
    refine bM ?_
    obtain rfl := oI h0
    exact aI (aW (Q_r hO))
  refine bP ?_
  refine bK [(0, (eI x0)), (1, (eI y1))] ?_
  refine aP ?_
  refine aT aF 3 [] [(16, (aK (decide (x0 < y1))))] ?_
  refine bL h0 (fun h0 => ?_) (fun h0 => ?_)
  · refine bX aF 1 [(4, (eI (-1 : Int)))] ?_
    refine bM ?_
    obtain rfl := oI h0
    exact aI (aW (Q_r hO))
  refine bP ?_
  refine bK [(0, (eI x0)), (1, (eI y1))] ?_
  refine aP ?_
  refine bX aF 3 [(19, (aK (decide (y1 < x0))))] ?_
  refine bL h0 (fun h0 => ?_) (fun h0 => ?_)
  · refine bX aF 1 [(4, (eI (1 : Int)))] ?_
    refine bM ?_
    obtain rfl := oI h0
    exact aI (aW (Q_r hO))
  refine bP ?_
  refine bK [] ?_
  refine bX aF 1 [(4, (eI (0 : Int)))] ?_
  refine bM ?_
  obtain rfl := oI h0
  exact aI (Q_r hO)

theorem uY (a0 : ByteArray) (b1 : ByteArray) (r : Int) (h0 : iF a0 b1 = some r) : cF Try.prog 93 [(wJ a0), (wJ b1)] (eI r) := by
  intro H0
  refine cJ Try.func93 ?_
  have hO := aL.start H0
  unfold iF at h0
  refine aT aF 1 [] [] ?_
  refine aP ?_
  refine aU aF 4 ?_
  refine bN 2 ?_
  refine ZE 98 [(wJ a0), (wJ b1)] (eI (JL a0 b1)) (by kernel_rfl) (by kernel_rfl) (XB Try.func98 (by kernel_rfl) (by kernel_rfl) (by kernel_rfl) (by kernel_rfl) a0 b1) hO ?_
  intro H hO
  refine bE ?_
  refine bK [(4, (eI (JL a0 b1)))] ?_
  refine bM ?_
  obtain rfl := oI h0
  exact aI (Q_r hO)

theorem FH (a0 : ByteArray) (b1 : ByteArray) (r : Int) (h0 : mS a0 b1 = some r) : cF Try.prog 82 [(wJ a0), (wJ b1)] (eI r) := by
  intro H0
  refine cJ Try.func82 ?_
  have hO := aL.start H0
  unfold mS at h0
  refine aT aF 1 [] [] ?_
  refine aP ?_
  refine aU aF 4 ?_
  refine bN 2 ?_
  obtain ⟨x1, hx2, h0⟩ := bB h0
  refine eJ (uY a0 b1 _ hx2) hO ?_
  intro H hO
  refine bE ?_
  refine bK [(4, (eI x1))] ?_
  refine bM ?_
  obtain rfl := oI h0
  exact aI (Q_r hO)

theorem HJ (a0 : aH) (b1 : aH) (r : Int) (h0 : qC a0 b1 = some r) : cF Try.prog 61 [(aO a0), (aO b1)] (eI r) := by
  intro H0
  refine cJ Try.func61 ?_
  have hO := aL.start H0
  unfold qC at h0
  refine aP ?_
  refine aU aF 3 ?_
  refine qR 3 (aO a0) ?_
  refine qR 3 (aO b1) ?_
  refine bE ?_
  refine bK [(2, (.rp (aO a0))), (3, (.rp (aO b1)))] ?_
  refine aP ?_
  refine aU aF 7 ?_
  refine bN 1 ?_
  obtain ⟨⟨x1_0, x1_1⟩, hx2, h0⟩ := bB h0
  refine eJ (vU a0 _ hx2) hO ?_
  intro H hO
  rcases x1_0 with _ | y4 | y5
  · replace h0 : ((lT b1).bind fun (x6_0, x6_1) => match x6_0 with | .none_ => (cond ((!x1_1) || (!x6_1)) (some (0 : Int)) (none)) | .k_number y9 => (cond ((!x1_1) || (!x6_1)) (some (0 : Int)) (some (1 : Int))) | .k_words y10 => (cond ((!x1_1) || (!x6_1)) (some (0 : Int)) (none))) = some r := h0
    refine bE ?_
    refine bS [2] [(5, (bF bH.none_)), (6, (aK x1_1))] ?_
    refine aP ?_
    refine aU aF 7 ?_
    refine bN 1 ?_
    obtain ⟨⟨x6_0, x6_1⟩, hx7, h0⟩ := bB h0
    refine eJ (vU b1 _ hx7) hO ?_
    intro H hO
    rcases x6_0 with _ | y9 | y10
    · replace h0 : (cond ((!x1_1) || (!x6_1)) (some (0 : Int)) (none)) = some r := h0
      refine bE ?_
      refine bS [3] [(7, (bF bH.none_)), (8, (aK x6_1))] ?_
      refine aP ?_
      refine aT aF 6 [6, 8] [(28, (aK ((!x1_1) || (!x6_1))))] ?_
      refine bL h0 (fun h0 => ?_) (fun h0 => ?_)
      · refine bX aF 1 [(4, (eI (0 : Int)))] ?_
        refine bM ?_
        obtain rfl := oI h0
        exact aI (aW (Q_r hO))
      refine bP ?_
      refine bK [(5, (bF bH.none_)), (7, (bF bH.none_))] ?_
      refine aT aF 7 [] [(9, (eI 0)), (10, (aK false))] ?_
      refine aT aF 7 [] [(11, (eI 0)), (12, (aK false))] ?_
      refine aP ?_
      refine bU 0 ?_
      refine aT aF 5 [] [(39, (aK false))] ?_
      refine mR (false) (fun hc12 => ?_) (fun hc12 => ?_)
      · cases hc12
      · refine aT aF 2 [9, 10, 11, 39] [(47, (aK false))] ?_
        refine mR (false) (fun hc13 => ?_) (fun hc13 => ?_)
        · cases hc13
        · refine bX aF 2 [(5, (bF bH.none_)), (7, (bF bH.none_)), (49, (aK false))] ?_
          refine mR (false) (fun hc14 => ?_) (fun hc14 => ?_)
          · cases hc14
          · refine bP ?_
            refine dL [(5, (bF bH.none_)), (7, (bF bH.none_))] ?_
            refine aI (aZ (aG (?_)))
            refine aP ?_
            refine kH (jW []) aF 6 ?_
            cases h0
    · replace h0 : (cond ((!x1_1) || (!x6_1)) (some (0 : Int)) (some (1 : Int))) = some r := h0
      refine bE ?_
      refine bS [3] [(7, (bF (bH.k_number y9))), (8, (aK x6_1))] ?_
      refine aP ?_
      refine aT aF 6 [6, 8] [(28, (aK ((!x1_1) || (!x6_1))))] ?_
      refine bL h0 (fun h0 => ?_) (fun h0 => ?_)
      · refine bX aF 1 [(4, (eI (0 : Int)))] ?_
        refine bM ?_
        obtain rfl := oI h0
        exact aI (aW (Q_r hO))
      refine bP ?_
      refine bK [(5, (bF bH.none_)), (7, (bF (bH.k_number y9)))] ?_
      refine aT aF 7 [] [(9, (eI 0)), (10, (aK false))] ?_
      refine aT aF 7 [] [(11, (eI y9)), (12, (aK true))] ?_
      refine aP ?_
      refine bU 0 ?_
      refine aT aF 5 [] [(39, (aK false))] ?_
      refine mR (false) (fun hc16 => ?_) (fun hc16 => ?_)
      · cases hc16
      · refine aT aF 2 [9, 10, 11, 39] [(47, (aK false))] ?_
        refine mR (false) (fun hc17 => ?_) (fun hc17 => ?_)
        · cases hc17
        · refine bX aF 2 [(5, (bF bH.none_)), (7, (bF (bH.k_number y9))), (49, (aK true))] ?_
          refine mR (true) (fun hc18 => ?_) (fun hc18 => ?_)
          · refine bX aF 1 [(4, (eI (1 : Int)))] ?_
            refine bM ?_
            obtain rfl := oI h0
            exact aI (bQ (aW (Q_r hO)))
          · cases hc18
    · replace h0 : (cond ((!x1_1) || (!x6_1)) (some (0 : Int)) (none)) = some r := h0
      refine bE ?_
      refine bS [3] [(7, (bF (bH.k_words y10))), (8, (aK x6_1))] ?_
      refine aP ?_
      refine aT aF 6 [6, 8] [(28, (aK ((!x1_1) || (!x6_1))))] ?_
      refine bL h0 (fun h0 => ?_) (fun h0 => ?_)
      · refine bX aF 1 [(4, (eI (0 : Int)))] ?_
        refine bM ?_
        obtain rfl := oI h0
        exact aI (aW (Q_r hO))
      refine bP ?_
      refine bK [(5, (bF bH.none_)), (7, (bF (bH.k_words y10)))] ?_
      refine aT aF 7 [] [(9, (eI 0)), (10, (aK false))] ?_
      refine aT aF 7 [] [(11, (eI 0)), (12, (aK false))] ?_
      refine aP ?_
      refine bU 0 ?_
      refine aT aF 5 [] [(39, (aK false))] ?_
      refine mR (false) (fun hc20 => ?_) (fun hc20 => ?_)
      · cases hc20
      · refine aT aF 2 [9, 10, 11, 39] [(47, (aK false))] ?_
        refine mR (false) (fun hc21 => ?_) (fun hc21 => ?_)
        · cases hc21
        · refine bX aF 2 [(5, (bF bH.none_)), (7, (bF (bH.k_words y10))), (49, (aK false))] ?_
          refine mR (false) (fun hc22 => ?_) (fun hc22 => ?_)
          · cases hc22
          · refine bP ?_
            refine dL [(5, (bF bH.none_)), (7, (bF (bH.k_words y10)))] ?_
            refine aI (aZ (aG (?_)))
            refine aP ?_
            refine kH (jW []) aF 6 ?_
            cases h0
  · replace h0 : ((lT b1).bind fun (x23_0, x23_1) => match x23_0 with | .none_ => (cond ((!x1_1) || (!x23_1)) (some (0 : Int)) (some (-1 : Int))) | .k_number y26 => (cond ((!x1_1) || (!x23_1)) (some (0 : Int)) ((eB y4 y26).bind fun x33 => some x33)) | .k_words y27 => (cond ((!x1_1) || (!x23_1)) (some (0 : Int)) (some (-1 : Int)))) = some r := h0
    refine bE ?_
    refine bS [2] [(5, (bF (bH.k_number y4))), (6, (aK x1_1))] ?_
    refine aP ?_
    refine aU aF 7 ?_
    refine bN 1 ?_
    obtain ⟨⟨x23_0, x23_1⟩, hx24, h0⟩ := bB h0
    refine eJ (vU b1 _ hx24) hO ?_
    intro H hO
    rcases x23_0 with _ | y26 | y27
    · replace h0 : (cond ((!x1_1) || (!x23_1)) (some (0 : Int)) (some (-1 : Int))) = some r := h0
      refine bE ?_
      refine bS [3] [(7, (bF bH.none_)), (8, (aK x23_1))] ?_
      refine aP ?_
      refine aT aF 6 [6, 8] [(28, (aK ((!x1_1) || (!x23_1))))] ?_
      refine bL h0 (fun h0 => ?_) (fun h0 => ?_)
      · refine bX aF 1 [(4, (eI (0 : Int)))] ?_
        refine bM ?_
        obtain rfl := oI h0
        exact aI (aW (Q_r hO))
      refine bP ?_
      refine bK [(5, (bF (bH.k_number y4))), (7, (bF bH.none_))] ?_
      refine aT aF 7 [] [(9, (eI y4)), (10, (aK true))] ?_
      refine aT aF 7 [] [(11, (eI 0)), (12, (aK false))] ?_
      refine aP ?_
      refine bU 0 ?_
      refine aT aF 5 [] [(39, (aK false))] ?_
      refine mR (false) (fun hc29 => ?_) (fun hc29 => ?_)
      · cases hc29
      · refine aT aF 2 [9, 10, 11, 39] [(47, (aK true))] ?_
        refine mR (true) (fun hc30 => ?_) (fun hc30 => ?_)
        · refine bX aF 1 [(4, (eI (-1 : Int)))] ?_
          refine bM ?_
          obtain rfl := oI h0
          exact aI (bQ (aW (Q_r hO)))
        · cases hc30
    · replace h0 : (cond ((!x1_1) || (!x23_1)) (some (0 : Int)) ((eB y4 y26).bind fun x33 => some x33)) = some r := h0
      refine bE ?_
      refine bS [3] [(7, (bF (bH.k_number y26))), (8, (aK x23_1))] ?_
      refine aP ?_
      refine aT aF 6 [6, 8] [(28, (aK ((!x1_1) || (!x23_1))))] ?_
      refine bL h0 (fun h0 => ?_) (fun h0 => ?_)
      · refine bX aF 1 [(4, (eI (0 : Int)))] ?_
        refine bM ?_
        obtain rfl := oI h0
        exact aI (aW (Q_r hO))
      refine bP ?_
      refine bK [(5, (bF (bH.k_number y4))), (7, (bF (bH.k_number y26)))] ?_
      refine aT aF 7 [] [(9, (eI y4)), (10, (aK true))] ?_
      refine aT aF 7 [] [(11, (eI y26)), (12, (aK true))] ?_
      refine aP ?_
      refine bU 0 ?_
      refine aT aF 5 [] [(39, (aK true))] ?_
      refine mR (true) (fun hc32 => ?_) (fun hc32 => ?_)
      · refine aP ?_
        refine aU aF 4 ?_
        refine bN 2 ?_
        obtain ⟨x33, hx34, h0⟩ := bB h0
        refine eJ (xW y4 y26 _ hx34) hO ?_
        intro H hO
        refine bE ?_
        refine bK [(4, (eI x33))] ?_
        refine bM ?_
        obtain rfl := oI h0
        exact aI (bQ (aW (Q_r hO)))
      · cases hc32
    · replace h0 : (cond ((!x1_1) || (!x23_1)) (some (0 : Int)) (some (-1 : Int))) = some r := h0
      refine bE ?_
      refine bS [3] [(7, (bF (bH.k_words y27))), (8, (aK x23_1))] ?_
      refine aP ?_
      refine aT aF 6 [6, 8] [(28, (aK ((!x1_1) || (!x23_1))))] ?_
      refine bL h0 (fun h0 => ?_) (fun h0 => ?_)
      · refine bX aF 1 [(4, (eI (0 : Int)))] ?_
        refine bM ?_
        obtain rfl := oI h0
        exact aI (aW (Q_r hO))
      refine bP ?_
      refine bK [(5, (bF (bH.k_number y4))), (7, (bF (bH.k_words y27)))] ?_
      refine aT aF 7 [] [(9, (eI y4)), (10, (aK true))] ?_
      refine aT aF 7 [] [(11, (eI 0)), (12, (aK false))] ?_
      refine aP ?_
      refine bU 0 ?_
      refine aT aF 5 [] [(39, (aK false))] ?_
      refine mR (false) (fun hc37 => ?_) (fun hc37 => ?_)
      · cases hc37
      · refine aT aF 2 [9, 10, 11, 39] [(47, (aK true))] ?_
        refine mR (true) (fun hc38 => ?_) (fun hc38 => ?_)
        · refine bX aF 1 [(4, (eI (-1 : Int)))] ?_
          refine bM ?_
          obtain rfl := oI h0
          exact aI (bQ (aW (Q_r hO)))
        · cases hc38
  · replace h0 : ((lT b1).bind fun (x39_0, x39_1) => match x39_0 with | .none_ => (cond ((!x1_1) || (!x39_1)) (some (0 : Int)) (none)) | .k_number y42 => (cond ((!x1_1) || (!x39_1)) (some (0 : Int)) (some (1 : Int))) | .k_words y43 => (cond ((!x1_1) || (!x39_1)) (some (0 : Int)) ((mS y5 y43).bind fun x56 => some x56))) = some r := h0
    refine bE ?_
    refine bS [2] [(5, (bF (bH.k_words y5))), (6, (aK x1_1))] ?_
    refine aP ?_
    refine aU aF 7 ?_
    refine bN 1 ?_
    obtain ⟨⟨x39_0, x39_1⟩, hx40, h0⟩ := bB h0
    refine eJ (vU b1 _ hx40) hO ?_
    intro H hO
    rcases x39_0 with _ | y42 | y43
    · replace h0 : (cond ((!x1_1) || (!x39_1)) (some (0 : Int)) (none)) = some r := h0
      refine bE ?_
      refine bS [3] [(7, (bF bH.none_)), (8, (aK x39_1))] ?_
      refine aP ?_
      refine aT aF 6 [6, 8] [(28, (aK ((!x1_1) || (!x39_1))))] ?_
      refine bL h0 (fun h0 => ?_) (fun h0 => ?_)
      · refine bX aF 1 [(4, (eI (0 : Int)))] ?_
        refine bM ?_
        obtain rfl := oI h0
        exact aI (aW (Q_r hO))
      refine bP ?_
      refine bK [(5, (bF (bH.k_words y5))), (7, (bF bH.none_))] ?_
      refine aT aF 7 [] [(9, (eI 0)), (10, (aK false))] ?_
      refine aT aF 7 [] [(11, (eI 0)), (12, (aK false))] ?_
      refine aP ?_
      refine bU 0 ?_
      refine aT aF 5 [] [(39, (aK false))] ?_
      refine mR (false) (fun hc45 => ?_) (fun hc45 => ?_)
      · cases hc45
      · refine aT aF 2 [9, 10, 11, 39] [(47, (aK false))] ?_
        refine mR (false) (fun hc46 => ?_) (fun hc46 => ?_)
        · cases hc46
        · refine bX aF 2 [(5, (bF (bH.k_words y5))), (7, (bF bH.none_)), (49, (aK false))] ?_
          refine mR (false) (fun hc47 => ?_) (fun hc47 => ?_)
          · cases hc47
          · refine bP ?_
            refine dL [(5, (bF (bH.k_words y5))), (7, (bF bH.none_))] ?_
            refine aI (aZ (aG (?_)))
            refine aP ?_
            refine kH (jW []) aF 6 ?_
            cases h0
    · replace h0 : (cond ((!x1_1) || (!x39_1)) (some (0 : Int)) (some (1 : Int))) = some r := h0
      refine bE ?_
      refine bS [3] [(7, (bF (bH.k_number y42))), (8, (aK x39_1))] ?_
      refine aP ?_
      refine aT aF 6 [6, 8] [(28, (aK ((!x1_1) || (!x39_1))))] ?_
      refine bL h0 (fun h0 => ?_) (fun h0 => ?_)
      · refine bX aF 1 [(4, (eI (0 : Int)))] ?_
        refine bM ?_
        obtain rfl := oI h0
        exact aI (aW (Q_r hO))
      refine bP ?_
      refine bK [(5, (bF (bH.k_words y5))), (7, (bF (bH.k_number y42)))] ?_
      refine aT aF 7 [] [(9, (eI 0)), (10, (aK false))] ?_
      refine aT aF 7 [] [(11, (eI y42)), (12, (aK true))] ?_
      refine aP ?_
      refine bU 0 ?_
      refine aT aF 5 [] [(39, (aK false))] ?_
      refine mR (false) (fun hc49 => ?_) (fun hc49 => ?_)
      · cases hc49
      · refine aT aF 2 [9, 10, 11, 39] [(47, (aK false))] ?_
        refine mR (false) (fun hc50 => ?_) (fun hc50 => ?_)
        · cases hc50
        · refine bX aF 2 [(5, (bF (bH.k_words y5))), (7, (bF (bH.k_number y42))), (49, (aK true))] ?_
          refine mR (true) (fun hc51 => ?_) (fun hc51 => ?_)
          · refine bX aF 1 [(4, (eI (1 : Int)))] ?_
            refine bM ?_
            obtain rfl := oI h0
            exact aI (bQ (aW (Q_r hO)))
          · cases hc51
    · replace h0 : (cond ((!x1_1) || (!x39_1)) (some (0 : Int)) ((mS y5 y43).bind fun x56 => some x56)) = some r := h0
      refine bE ?_
      refine bS [3] [(7, (bF (bH.k_words y43))), (8, (aK x39_1))] ?_
      refine aP ?_
      refine aT aF 6 [6, 8] [(28, (aK ((!x1_1) || (!x39_1))))] ?_
      refine bL h0 (fun h0 => ?_) (fun h0 => ?_)
      · refine bX aF 1 [(4, (eI (0 : Int)))] ?_
        refine bM ?_
        obtain rfl := oI h0
        exact aI (aW (Q_r hO))
      refine bP ?_
      refine bK [(5, (bF (bH.k_words y5))), (7, (bF (bH.k_words y43)))] ?_
      refine aT aF 7 [] [(9, (eI 0)), (10, (aK false))] ?_
      refine aT aF 7 [] [(11, (eI 0)), (12, (aK false))] ?_
      refine aP ?_
      refine bU 0 ?_
      refine aT aF 5 [] [(39, (aK false))] ?_
      refine mR (false) (fun hc53 => ?_) (fun hc53 => ?_)
      · cases hc53
      · refine aT aF 2 [9, 10, 11, 39] [(47, (aK false))] ?_
        refine mR (false) (fun hc54 => ?_) (fun hc54 => ?_)
        · cases hc54
        · refine bX aF 2 [(5, (bF (bH.k_words y5))), (7, (bF (bH.k_words y43))), (49, (aK false))] ?_
          refine mR (false) (fun hc55 => ?_) (fun hc55 => ?_)
          · cases hc55
          · refine bP ?_
            refine dL [(5, (bF (bH.k_words y5))), (7, (bF (bH.k_words y43)))] ?_
            refine aI (aZ (aG (?_)))
            refine aP ?_
            refine kH (jW []) aF 6 ?_
            refine vA 4 ?_
            obtain ⟨x56, hx57, h0⟩ := bB h0
            refine zC (FH y5 y43 _ hx57) hO ?_
            intro H hO
            refine oO ?_
            refine bK [(4, (eI x56))] ?_
            refine bM ?_
            obtain rfl := oI h0
            exact aI (Q_r hO)

theorem DA (a0 : (List aH)) (b1 : (List aH)) (r : Int) (h0 : pV a0 b1 = some r) : cF Try.prog 38 [(eL aO a0), (eL aO b1)] (eI r) := by
  intro H0
  refine cJ Try.func38 ?_
  have hO := aL.start H0
  unfold pV at h0
  refine aP ?_
  refine aU aF 2 ?_
  refine qR 1 (eL aO b1) ?_
  refine bE ?_
  refine bS [1] [(3, (.rp (eL aO b1)))] ?_
  refine aP ?_
  refine aP ?_
  refine aU aF 8 ?_
  refine bN 1 ?_
  obtain ⟨x1, hx2, h0⟩ := bB h0
  refine eJ (zI a0 _ hx2) hO ?_
  intro H hO
  refine bN 5 ?_
  obtain ⟨x4, hx5, h0⟩ := bB h0
  refine tO [(10, false)] 32 [(eL aO b1)] (aK x4) (!(!x1)) (by kernel_rfl) (by kernel_rfl) (by kernel_rfl) (fun hb6 => (zI b1 _ (tI hx5 hb6))) hO ?_
  intro H hO
  refine bE ?_
  refine bS [] [(14, (aK ((!x1) || (!x4))))] ?_
  refine bL h0 (fun h0 => ?_) (fun h0 => ?_)
  · refine bX aF 1 [(4, (eI (0 : Int)))] ?_
    refine bM ?_
    obtain rfl := oI h0
    exact aI (aW (Q_r hO))
  refine bP ?_
  refine bK [(0, (eL aO a0)), (3, (.rp (eL aO b1)))] ?_
  refine aT aF 6 [] [(5, (eI (if (lN b1) < (lN a0) then (lN b1) else (lN a0))))] ?_
  refine aP ?_
  refine kH (jW []) aF 7 ?_
  obtain ⟨c8, h0⟩ := bJ h0
  refine dA 4 [0 ≤ (if (lN b1) < (lN a0) then (lN b1) else (lN a0)) ∧ (if (lN b1) < (lN a0) then (lN b1) else (lN a0)) ≤ (lN a0)] ⟨c8, trivial⟩ ?_
  obtain ⟨x9, hx10, h0⟩ := bB h0
  refine ZC (L' := fun lo11 => [(lo11, 1, [(eI x9.1)])]) 1 [(eI x9.1)] 59 [(.rp (eL aO b1))] (fun lo11 => (.fn (.func 60) [] [(.lp lo11 0 0), (.rp (eL aO x9.2))])) (by kernel_rfl) (by kernel_rfl) (IL b1 _ hx10) hO (fun _ => by kernel_rfl) ?_
  intro lo11 H hO
  obtain ⟨x12, hx13, h0⟩ := bB h0
  refine ZT (fun st G' => G' = up [(lo11, 1, [(eI st)])] ++ []) [(lo11, 1, [(eI x12.1)])] x9.1 x12.1 58 [(.sl false (Int.toNat (if (lN b1) < (lN a0) then (lN b1) else (lN a0))) (fun i => aO (List.getD a0 i default))), (.fn (.func 60) [] [(.lp lo11 0 0), (.rp (eL aO x9.2))])] (eI x12.2) (by kernel_rfl) (by kernel_rfl) (sM.sub (as0' := [(eL aO (List.take (Int.toNat (if (lN b1) < (lN a0) then (lN b1) else (lN a0))) a0)), (.fn (.func 60) [] [(.lp lo11 0 0), (.rp (eL aO x9.2))])]) (sI _ (List.take (Int.toNat (if (lN b1) < (lN a0) then (lN b1) else (lN a0))) a0) (.fn (.func 60) [] [(.lp lo11 0 0), (.rp (eL aO x9.2))]) (fun st y0 => (jH y0 st x9.2).bind fun o => some (o.2, o.1)) (fun st y0 st2 rr hr => (FI y0 lo11 st x9.2 _ (aAH hr)).toV (ys := []) (zs := [(aO y0)]) (cs := [(.lp lo11 0 0), (.rp (eL aO x9.2))]) (fun Gx hG => ⟨up [], up [] ++ [], hG, rfl⟩)) _ _ hx13) ⟨YV (Int.toNat_le.2 (And.right c8)), aS.refl _, trivial⟩) hO rfl (fun _ h => h) ?_
  intro H hO
  refine oO ?_
  replace hO := hO.pick (L' := []) [] (by decide) (by kernel_rfl)
  refine bS [5] [(6, (eI x12.2))] ?_
  refine aP ?_
  refine aT aF 2 [] [(27, (aK (decide (x12.2 < (0 : Int)))))] ?_
  refine bL h0 (fun h0 => ?_) (fun h0 => ?_)
  · refine aP ?_
    refine aU aF 6 ?_
    refine bN 4 ?_
    obtain ⟨x15, hx16, h0⟩ := bB h0
    refine eJ (tY (lN a0) (lN b1) _ hx16) hO ?_
    intro H hO
    refine bE ?_
    refine bK [(4, (eI x15))] ?_
    refine bM ?_
    obtain rfl := oI h0
    exact aI (aW (Q_r hO))
  refine bP ?_
  refine bK [(0, (eL aO a0)), (3, (.rp (eL aO b1))), (6, (eI x12.2))] ?_
  refine aP ?_
  refine kH (jW [36, 37, 40, 41]) aF 10 ?_
  obtain ⟨c18, h0⟩ := bJ h0
  obtain ⟨c19, h0⟩ := bJ h0
  refine dA 8 [0 ≤ x12.2 ∧ x12.2 < (lN a0), 0 ≤ x12.2 ∧ x12.2 < (lN b1)] ⟨c18, c19, trivial⟩ ?_
  obtain ⟨x20, hx21, h0⟩ := bB h0
  refine zC (HJ (gD a0 x12.2) (gD b1 x12.2) _ hx21) hO ?_
  intro H hO
  refine oO ?_
  refine bK [(4, (eI x20))] ?_
  refine bM ?_
  obtain rfl := oI h0
  exact aI (Q_r hO)

theorem OV (l0 : (List aB)) (holds1_f : Nat) (holds1_a holds1_c : List V) (tA : (List aD) → Option Bool) (holds1_h : ∀ a0 r, tA a0 = some r → cF Try.prog holds1_f (holds1_a ++ [(eL aE a0)] ++ holds1_c) (aK r)) (r : Bool) (h0 : uH l0 tA = some r) : cF Try.prog 44 [(eL aC l0), (.fn (.func holds1_f) holds1_a holds1_c)] (aK r) := by
  intro H0
  refine PZ aF Try.func44 (by kernel_rfl) (by kernel_rfl) (by kernel_rfl) ?_
  have hO := aL.start H0
  unfold uH at h0
  refine aP ?_
  refine aU aF 2 ?_
  refine qR 1 (.fn (.func holds1_f) holds1_a holds1_c) ?_
  refine mP 1 (aK false) (by kernel_rfl) (by kernel_rfl) hO ?_
  intro lo1 H hO
  refine cL ?_
  refine bS [1] [(3, (.rp (.fn (.func holds1_f) holds1_a holds1_c))), (4, (.lp lo1 0 0))] ?_
  refine aP ?_
  refine aT aF 3 [] [(11, (aK (decide ((4096 : Int) < (lN l0)))))] ?_
  refine bL h0 (fun h0 => ?_) (fun h0 => ?_)
  · refine aP ?_
    refine aU aF 1 ?_
    refine mZ 0 lo1 1 0 (aK false) (aK false) [(aK false)] [(lo1, 1, [(aK false)])] hO rfl (by kernel_rfl) ?_
    intro H hO
    refine cL ?_
    refine bK [(4, (.lp lo1 0 0))] ?_
    refine bM ?_
    obtain rfl := oI h0
    exact aI (aW (QM0 (.inr rfl) (rs := [.cell 4 4]) (xs := [(aK false)]) (x := (aK false)) (by kernel_rfl) (wQ (lo := lo1) (k := 1) (y := (aK false)) (x := (aK false)) 0 hO (by kernel_rfl) (by kernel_rfl) (by kernel_rfl) (by kernel_rfl) DN) (by kernel_rfl) ⟨rfl, hO.out⟩))
  refine bP ?_
  refine bK [(0, (eL aC l0)), (3, (.rp (.fn (.func holds1_f) holds1_a holds1_c))), (4, (.lp lo1 0 0))] ?_
  refine aP ?_
  refine aU aF 1 ?_
  refine BU 1 (.sl true 0 (fun _ => .bad)) (eL aO ([])) (by kernel_rfl) (by kernel_rfl) (by kernel_rfl) (pE) (by kernel_rfl) (by kernel_rfl) hO ?_
  intro lo3 H hO
  refine cL ?_
  refine bS [] [(5, (.lp lo3 0 0))] ?_
  refine aP ?_
  refine aU aF 2 ?_
  refine mP 1 (aK false) (by kernel_rfl) (by kernel_rfl) hO ?_
  intro lo4 H hO
  refine mZ 2 lo4 1 0 (aK false) (aK false) [(aK false)] [(lo1, 1, [(aK false)]), (lo3, 1, [(eL aO ([]))]), (lo4, 1, [(aK false)])] hO rfl (by kernel_rfl) ?_
  intro H hO
  refine cL ?_
  refine bS [] [(6, (.lp lo4 0 0))] ?_
  refine aP ?_
  refine aP ?_
  refine aU aF 2 ?_
  refine bN 1 ?_
  obtain ⟨x5, hx6, h0⟩ := bB h0
  refine eJ (FV l0 _ hx6) hO ?_
  intro H hO
  refine cL ?_
  refine bS [0] [(13, (.fn (.func 83) [] [(.rp (eL aC x5))]))] ?_
  refine bU 0 ?_
  refine dJ [(3, (.rp (.fn (.func holds1_f) holds1_a holds1_c))), (4, (.lp lo1 0 0)), (5, (.lp lo3 0 0)), (6, (.lp lo4 0 0)), (13, (.fn (.func 83) [] [(.rp (eL aC x5))]))] ?_
  refine cR (fun T H => ∃ t4 : Bool, ∃ oT : (List aH), ∃ jI : Bool, ∃ kG : (List aB), Has T [(3, (.rp (.fn (.func holds1_f) holds1_a holds1_c))), (4, (.lp lo1 0 0)), (5, (.lp lo3 0 0)), (6, (.lp lo4 0 0)), (13, (.fn (.func 83) [] [(.rp (eL aC kG))]))] ∧ aL ⟨H0, [], []⟩ H [(lo1, 1, [(aK t4)]), (lo3, 1, [(eL aO oT)]), (lo4, 1, [(aK jI)])] ∧ wI tA t4 oT jI kG = some r) ?_ ⟨false, [], false, x5, bA, hO, h0⟩
  clear hO h0
  rintro T H ⟨t4, oT, jI, kG, hT, hO, h0⟩
  refine bD (l := [(3, (.rp (.fn (.func holds1_f) holds1_a holds1_c))), (4, (.lp lo1 0 0)), (5, (.lp lo3 0 0)), (6, (.lp lo4 0 0)), (13, (.fn (.func 83) [] [(.rp (eL aC kG))]))]) hT ?_
  clear hT
  unfold wI at h0
  obtain ⟨o0, hl0, h0⟩ := bB h0
  refine MM (fid := 83) (ys := []) (cs := [(.rp (eL aC kG))]) #[14, 15] (fun (A : BO) (b lL : Nat) (st : (Bool × (List aH) × Bool) ⊕ (Bool × (List aH) × Bool)) (G' : Gs) => Sum.elim (fun (s : Bool × (List aH) × Bool) => G' = (lL, .raw (mQ b A .ready none)) :: (up [(lo1, 1, [(aK s.1)]), (lo3, 1, [(eL aO s.2.1)]), (lo4, 1, [(aK s.2.2)])] ++ [])) (fun (s : Bool × (List aH) × Bool) => G' = (lL, .raw (mQ b A .done (some .ret))) :: (up [(lo1, 1, [(aK s.1)]), (lo3, 1, [(eL aO s.2.1)]), (lo4, 1, [(aK s.2.2)])] ++ [])) st) (.inl (t4, oT, jI)) o0 (.tup []) (by kernel_rfl) (by kernel_rfl) (by kernel_rfl) hO (fun _ _ => rfl) ?_ ?_
  · intro b lL
    clear hO h0
    refine zK _ b (fun st t14 t15 => rnd (fun (s : Bool × (List aH) × Bool) => pJ tA kG s.1 s.2.1 s.2.2 t14 t15) st) ?_ kG _ _ hl0
    intro st t14 t15 out1 rr hr
    obtain ⟨s, rfl, h1, rfl⟩ := aAe hr
    clear hr
    intro Hr Gr hi hg
    obtain ⟨t4, oT, jI⟩ := s
    dsimp only [Sum.elim_inl] at hi
    obtain rfl := hi
    replace h1 : pJ tA kG t4 oT jI t14 t15 = some out1 := h1
    unfold pJ at h1
    obtain ⟨E1, hE, hO⟩ := FL hg
    refine FP (ND (hO.gm 0 _ rfl).2 (by kernel_rfl) (by kernel_rfl) ?_)
    refine dJ [(3, (.rp (.fn (.func holds1_f) holds1_a holds1_c))), (4, (.lp lo1 0 0)), (5, (.lp lo3 0 0)), (6, (.lp lo4 0 0)), (13, (.fn (.func 83) [] [(.rp (eL aC kG))])), (14, (eL aO t14)), (15, (eL aE t15))] ?_
    refine aT aF 1 [13, 14] [(7, (eL aO t14))] ?_
    refine aU aF 1 ?_
    refine bE ?_
    refine dL [(3, (.rp (.fn (.func holds1_f) holds1_a holds1_c))), (4, (.lp lo1 0 0)), (5, (.lp lo3 0 0)), (6, (.lp lo4 0 0)), (7, (eL aO t14)), (8, (eL aE t15))] ?_
    refine aI (⟨rfl, rfl, (hO.gm 0 _ rfl).2, ?_⟩)
    intro o1 ho1
    replace hO := hO.EL o1
    refine bU 1 ?_
    refine aP ?_
    refine aP ?_
    refine aU aF 18 ?_
    refine bN 1 ?_
    obtain ⟨x7, hx8, h1⟩ := bB h1
    refine eJ (zI t14 _ hx8) hO ?_
    intro H hO
    refine bN 4 ?_
    refine vI [(19, false)] 2 lo4 1 0 (aK jI) (aK jI) [(aK jI)] (by kernel_rfl) (by kernel_rfl) hO (by kernel_rfl) (!(!x7)) (by kernel_rfl) (fun hb10 => rfl) ?_
    refine bN 6 ?_
    refine vI [(21, true), (19, false)] 1 lo3 1 0 (eL aO oT) (eL aO oT) [(eL aO oT)] (by kernel_rfl) (by kernel_rfl) hO (by kernel_rfl) (jI && (!(!x7))) (by kernel_rfl) (fun hb11 => rfl) ?_
    refine bN 8 ?_
    obtain ⟨x12, hx13, h1⟩ := bB h1
    refine tO [(21, true), (19, false)] 38 [(eL aO oT), (eL aO t14)] (eI x12) (jI && (!(!x7))) (by kernel_rfl) (by kernel_rfl) (by kernel_rfl) (fun hb14 => (DA oT t14 _ (tI hx13 hb14))) hO ?_
    intro H hO
    refine bN 15 ?_
    obtain ⟨x15, hx16, h1⟩ := bB h1
    refine tO [(28, false)] holds1_f (holds1_a ++ [(eL aE t15)] ++ holds1_c) (aK x15) (!((!x7) || (jI && (decide ((0 : Int) ≤ x12))))) (by kernel_rfl) (by kernel_rfl) (by kernel_rfl) (fun hb17 => (holds1_h t15 _ (tI hx16 hb17))) hO ?_
    intro H hO
    refine bE ?_
    refine bS [3, 8] [(33, (aK (((!x7) || (jI && (decide ((0 : Int) ≤ x12)))) || (!x15))))] ?_
    refine bL h1 (fun h1 => ?_) (fun h1 => ?_)
    · refine aP ?_
      refine aU aF 1 ?_
      refine mZ 0 lo1 1 0 (aK t4) (aK false) [(aK t4)] [(lo1, 1, [(aK false)]), (lo3, 1, [(eL aO oT)]), (lo4, 1, [(aK jI)])] hO rfl (by kernel_rfl) ?_
      intro H hO
      refine cL ?_
      refine bS [7, 33] [] ?_
      refine bM ?_
      refine dL [(4, (.lp lo1 0 0)), (5, (.lp lo3 0 0)), (6, (.lp lo4 0 0))] ?_
      obtain rfl := oI h1
      exact aI (aW (bQ (⟨(oX hO hE ho1 .dead).1, rfl, _, rfl, (oX hO hE ho1 _).2⟩)))
    refine bP ?_
    refine bK [(4, (.lp lo1 0 0)), (5, (.lp lo3 0 0)), (6, (.lp lo4 0 0)), (7, (eL aO t14))] ?_
    refine aU aF 3 ?_
    refine bN 1 ?_
    refine mZ 1 lo3 1 0 (eL aO oT) (eL aO t14) [(eL aO oT)] [(lo1, 1, [(aK t4)]), (lo3, 1, [(eL aO t14)]), (lo4, 1, [(aK jI)])] hO rfl (by kernel_rfl) ?_
    intro H hO
    refine mZ 2 lo4 1 0 (aK jI) (aK true) [(aK jI)] [(lo1, 1, [(aK t4)]), (lo3, 1, [(eL aO t14)]), (lo4, 1, [(aK true)])] hO rfl (by kernel_rfl) ?_
    intro H hO
    refine cL ?_
    refine dL [(4, (.lp lo1 0 0)), (5, (.lp lo3 0 0)), (6, (.lp lo4 0 0))] ?_
    obtain rfl := oI h1
    exact aI (aZ (⟨(oX hO hE ho1 .dead).1, rfl, _, rfl, (oX hO hE ho1 _).2⟩))
  · intro b lD19 lL H' G' hi hO
    rcases o0 with s | s
    · dsimp only [Sum.elim_inl] at hi
      obtain rfl := hi
      replace h0 : (some true) = some r := h0
      obtain ⟨hlL, hO⟩ := yC hO
      refine ⟨_, _, hlL, (by intro e; cases e), ?_⟩
      refine dL [(4, (.lp lo1 0 0))] ?_
      replace hO := hO.pick (L' := [(lo1, 1, [(aK s.1)])]) [0] (by decide) (by kernel_rfl)
      refine aI (aZ (aG (?_)))
      refine aP ?_
      refine aU aF 1 ?_
      refine mZ 0 lo1 1 0 (aK s.1) (aK true) [(aK s.1)] [(lo1, 1, [(aK true)])] hO rfl (by kernel_rfl) ?_
      intro H hO
      refine cL ?_
      refine bK [(4, (.lp lo1 0 0))] ?_
      refine bM ?_
      obtain rfl := oI h0
      have hD := (hO.gm 0 _ rfl).2
      replace hO := (hO.EL .dead).CR
      exact aI (QM1 (.inr rfl) hD (rs := [.cell 4 4]) (xs := [(aK true)]) (x := (aK true)) (by kernel_rfl) (wQ (lo := lo1) (k := 1) (y := (aK true)) (x := (aK true)) 0 hO (by kernel_rfl) (by kernel_rfl) (by kernel_rfl) (by kernel_rfl) DN) (by kernel_rfl) ⟨rfl, hO.out⟩)
    · dsimp only [Sum.elim_inr] at hi
      obtain rfl := hi
      replace h0 : (some s.1) = some r := h0
      obtain ⟨hlL, hO⟩ := yC hO
      refine ⟨_, _, hlL, (by intro e; cases e), ?_⟩
      refine bM ?_
      replace hO := hO.pick (L' := [(lo1, 1, [(aK s.1)])]) [0] (by decide) (by kernel_rfl)
      obtain rfl := oI h0
      have hD := (hO.gm 0 _ rfl).2
      replace hO := (hO.EL .dead).CR
      exact aI (bQ (aW (QM1 (.inr rfl) hD (rs := [.cell 4 4]) (xs := [(aK s.1)]) (x := (aK s.1)) (by kernel_rfl) (wQ (lo := lo1) (k := 1) (y := (aK s.1)) (x := (aK s.1)) 0 hO (by kernel_rfl) (by kernel_rfl) (by kernel_rfl) (by kernel_rfl) DN) (by kernel_rfl) ⟨rfl, hO.out⟩)))

theorem FX (n0 : Int) (r : Bool) (h0 : uI n0 = some r) : cF Try.prog 67 [(eI n0)] (aK r) := by
  intro H0
  refine cJ Try.func67 ?_
  have hO := aL.start H0
  unfold uI at h0
  refine aT aF 1 [] [] ?_
  refine bX aF 7 [(2, (aK ((decide (n0 ≤ (1048576 : Int))) && (decide ((-1048576 : Int) ≤ n0)))))] ?_
  refine bM ?_
  obtain rfl := oI h0
  exact aI (Q_r hO)

theorem HH (f0 : (List aD)) (r : Bool) (h0 : rG f0 = some r) : cF Try.prog 45 [(eL aE f0)] (aK r) := by
  intro H0
  refine cJ Try.func45 ?_
  have hO := aL.start H0
  unfold rG at h0
  refine aT aF 1 [] [] ?_
  refine aP ?_
  refine aT aF 3 [] [(8, (aK (decide ((1024 : Int) < (lN f0)))))] ?_
  refine bL h0 (fun h0 => ?_) (fun h0 => ?_)
  · refine bX aF 1 [(2, (aK false))] ?_
    refine bM ?_
    obtain rfl := oI h0
    exact aI (aW (Q_r hO))
  refine bP ?_
  refine bK [(0, (eL aE f0))] ?_
  refine aT aF 1 [] [(3, (eI (-2 : Int)))] ?_
  refine dB (fun T H => Has T [] ∧ aL ⟨H0, [], []⟩ H [] ∧ uM  = some r) ?_ ?_
  · clear hO h0
    rintro T H ⟨hT, hO, h0⟩
    refine bD hT ?_
    clear hT
    unfold uM at h0
    refine bX aF 1 [(2, (aK true))] ?_
    refine bM ?_
    obtain rfl := oI h0
    exact aI (Q_r hO)
  refine aT aF 3 [0] [(9, (eL aE f0)), (10, (eI (lN f0))), (11, (eI (0 : Int)))] ?_
  refine bU 0 ?_
  refine dJ [(3, (eI (-2 : Int))), (9, (eL aE f0)), (10, (eI (lN f0))), (11, (eI (0 : Int)))] ?_
  refine cR (fun T H => ∃ qJ : Int, ∃ t9 : (List aD), ∃ t10 : Int, ∃ t11 : Int, Has T [(3, (eI qJ)), (9, (eL aE t9)), (10, (eI t10)), (11, (eI t11))] ∧ aL ⟨H0, [], []⟩ H [] ∧ wW qJ t9 t10 t11 = some r) ?_ ⟨(-2 : Int), f0, (lN f0), (0 : Int), bA, hO, h0⟩
  clear hO h0
  rintro T H ⟨qJ, t9, t10, t11, hT, hO, h0⟩
  refine bD hT ?_
  clear hT
  unfold wW at h0
  obtain ⟨rr0, hl0, h0⟩ := bB h0
  refine eS (fun (s : Int × Int) T H => Has T [(3, (eI s.1)), (9, (eL aE t9)), (10, (eI t10)), (11, (eI s.2))] ∧ aL ⟨H0, [], []⟩ H []) hl0 ⟨bA, hO⟩ ?_
  clear hO
  rintro k0 s out1 T H ⟨hT, hO⟩ h1 ho0
  obtain ⟨qJ, t11⟩ := s
  replace h1 : mL t9 t10 qJ t11 = some out1 := h1
  try dsimp only at hT
  refine bD hT ?_
  clear hT
  unfold mL at h1
  refine aT aF 1 [] [(12, (aK (decide (t11 < t10))))] ?_
  refine aP ?_
  refine bL h1 (fun h1 => ?_) (fun h1 => ?_)
  · refine bP ?_
    refine bK [(3, (eI qJ)), (9, (eL aE t9)), (10, (eI t10)), (11, (eI t11))] ?_
    refine aP ?_
    refine bU 1 ?_
    refine aP ?_
    refine aU aF 4 ?_
    obtain ⟨c3, h1⟩ := bJ h1
    refine rB 2 [0 ≤ t11 ∧ t11 < (lN t9)] ⟨c3, trivial⟩ ?_
    refine mP 2 (aE (aD.mk 0 0)) (by kernel_rfl) (by kernel_rfl) hO ?_
    intro lo4 H hO
    refine mZ 0 lo4 2 0 (aE (aD.mk 0 0)) (aE (gD t9 t11)) [(aE (aD.mk 0 0))] [(lo4, 2, [(aE (gD t9 t11))])] hO rfl (by kernel_rfl) ?_
    intro H hO
    refine cL ?_
    refine bS [] [(5, (.lp lo4 0 0))] ?_
    refine aP ?_
    refine aP ?_
    refine aU aF 20 ?_
    refine bN 1 ?_
    refine nY 0 lo4 2 0 (aE (gD t9 t11)) (eI ((gD t9 t11).At)) [(aE (gD t9 t11))] hO rfl ?_
    refine bN 6 ?_
    refine vI [(19, false)] 0 lo4 2 0 (aE (gD t9 t11)) (eI ((gD t9 t11).At)) [(aE (gD t9 t11))] (by kernel_rfl) (by kernel_rfl) hO (by kernel_rfl) (!(decide (((gD t9 t11).At) ≤ qJ))) (by kernel_rfl) (fun hb5 => rfl) ?_
    refine bN 11 ?_
    refine vI [(24, false)] 0 lo4 2 0 (aE (gD t9 t11)) (eI ((gD t9 t11).Net)) [(aE (gD t9 t11))] (by kernel_rfl) (by kernel_rfl) hO (by kernel_rfl) (!((decide (((gD t9 t11).At) ≤ qJ)) || (decide ((1125899906842624 : Int) ≤ ((gD t9 t11).At))))) (by kernel_rfl) (fun hb6 => rfl) ?_
    refine bN 16 ?_
    refine vI [(29, false)] 0 lo4 2 0 (aE (gD t9 t11)) (eI ((gD t9 t11).Net)) [(aE (gD t9 t11))] (by kernel_rfl) (by kernel_rfl) hO (by kernel_rfl) (!(((decide (((gD t9 t11).At) ≤ qJ)) || (decide ((1125899906842624 : Int) ≤ ((gD t9 t11).At)))) || (decide (((gD t9 t11).Net) = (0 : Int))))) (by kernel_rfl) (fun hb7 => rfl) ?_
    obtain ⟨x8, hx9, h1⟩ := bB h1
    refine tO [(29, false)] 67 [(eI ((gD t9 t11).Net))] (aK x8) (!(((decide (((gD t9 t11).At) ≤ qJ)) || (decide ((1125899906842624 : Int) ≤ ((gD t9 t11).At)))) || (decide (((gD t9 t11).Net) = (0 : Int))))) (by kernel_rfl) (by kernel_rfl) (by kernel_rfl) (fun hb10 => (FX ((gD t9 t11).Net) _ (tI hx9 hb10))) hO ?_
    intro H hO
    refine bE ?_
    refine bS [3] [(34, (aK ((((decide (((gD t9 t11).At) ≤ qJ)) || (decide ((1125899906842624 : Int) ≤ ((gD t9 t11).At)))) || (decide (((gD t9 t11).Net) = (0 : Int)))) || (!x8))))] ?_
    refine bL h1 (fun h1 => ?_) (fun h1 => ?_)
    · refine aP ?_
      refine aU aF 1 ?_
      refine bE ?_
      refine dL [(2, (aK false))] ?_
      replace hO := hO.pick (L' := []) [] (by decide) (by kernel_rfl)
      refine aI (aG (?_))
      refine bM ?_
      obtain rfl := oI h1
      obtain rfl : _ = rr0 := ho0
      replace h0 : some false = some r := h0
      obtain rfl := oI h0
      exact aI (aW (bQ (aW (aW (bQ (aW (Q_r hO)))))))
    refine bP ?_
    refine bK [(5, (.lp lo4 0 0)), (9, (eL aE t9)), (10, (eI t10)), (11, (eI t11))] ?_
    refine aU aF 3 ?_
    refine bN 1 ?_
    refine nY 0 lo4 2 0 (aE (gD t9 t11)) (eI ((gD t9 t11).At)) [(aE (gD t9 t11))] hO rfl ?_
    refine bE ?_
    refine dL [(3, (eI ((gD t9 t11).At))), (9, (eL aE t9)), (10, (eI t10)), (11, (eI t11))] ?_
    replace hO := hO.pick (L' := []) [] (by decide) (by kernel_rfl)
    refine aI (aZ (aG (?_)))
    refine aU aF 2 ?_
    refine bE ?_
    exact aI (aG (⟨rfl, _, (oI h1).symm, bA, hO⟩))
  refine eR 0 ?_
  obtain rfl := oI h1
  obtain rfl : _ = rr0 := ho0
  replace h0 : uM  = some r := h0
  exact aI (aX (aX (bT (aG (⟨rfl, bA, hO, h0⟩)))))

theorem yJ (l0 : (List aB)) (r : Bool) (h0 : qA l0 = some r) : cF Try.prog 24 [(eL aC l0)] (aK r) := by
  intro H0
  refine cJ Try.func24 ?_
  have hO := aL.start H0
  unfold qA at h0
  refine aT aF 1 [] [] ?_
  refine aP ?_
  refine aU aF 3 ?_
  refine bN 1 ?_
  obtain ⟨x1, hx2, h0⟩ := bB h0
  refine eJ (OV l0 45 [] [] (fun y0 => rG y0) (fun y0 r h => HH y0 r h) _ hx2) hO ?_
  intro H hO
  refine bE ?_
  refine bK [(2, (aK x1))] ?_
  refine bM ?_
  obtain rfl := oI h0
  exact aI (Q_r hO)

theorem sC {σ : Type} (I : σ → Gs → Prop) (s0 : (List aB)) (f1_v : V) (f1 : σ → aB → Option (σ × Bool)) (f1_h : ∀ st a0 st2 r, f1 st a0 = some (st2, r) → CI Try.prog f1_v I st [(aC a0)] st2 (aK r)) (sg0 : σ) (r : (σ × Int)) (h0 : fD s0 f1 sg0 = some r) : sM Try.prog 46 I sg0 [(eL aC s0), f1_v] r.1 (eI r.2) := by
  intro H0 G0 hI hg
  refine cJ Try.func46 ?_
  obtain ⟨G, hO, hI⟩ : ∃ G, aL ⟨H0, List.map (fun p : Nat × cQ => p.1) G0, G⟩ H0 [] ∧ I sg0 G := ⟨G0, aL.DX hg, hI⟩
  clear hg
  unfold fD at h0
  refine aT aF 1 [] [] ?_
  refine dB (fun T H => ∃ sg : σ, ∃ G : Gs, Has T [] ∧ aL ⟨H0, List.map (fun p : Nat × cQ => p.1) G0, G⟩ H [] ∧ I sg G ∧ dG f1 sg = some r) ?_ ?_
  · clear hO hI h0
    rintro T H ⟨sg, G, hT, hO, hI, h0⟩
    refine bD hT ?_
    clear hT
    unfold dG at h0
    refine bX aF 1 [(4, (eI (-1 : Int)))] ?_
    refine bM ?_
    obtain rfl := oI h0
    exact aI (nB (x := (eI (-1 : Int))) (by kernel_rfl) (aS.refl _) ⟨rfl, G, hI, hO.DH⟩)
  refine aT aF 3 [] [(7, (eI (lN s0))), (8, (eI (0 : Int)))] ?_
  refine bU 0 ?_
  refine dJ [(0, (eL aC s0)), (1, f1_v), (7, (eI (lN s0))), (8, (eI (0 : Int)))] ?_
  refine cR (fun T H => ∃ sg : σ, ∃ t7 : Int, ∃ t8 : Int, ∃ G : Gs, Has T [(0, (eL aC s0)), (1, f1_v), (7, (eI t7)), (8, (eI t8))] ∧ aL ⟨H0, List.map (fun p : Nat × cQ => p.1) G0, G⟩ H [] ∧ I sg G ∧ eT f1 sg s0 t7 t8 = some r) ?_ ⟨sg0, (lN s0), (0 : Int), G, bA, hO, hI, h0⟩
  clear hO hI h0
  rintro T H ⟨sg, t7, t8, G, hT, hO, hI, h0⟩
  refine bD hT ?_
  clear hT
  unfold eT at h0
  obtain ⟨rr0, hl0, h0⟩ := bB h0
  refine eS (fun (s : σ × Int) T H => ∃ G : Gs, Has T [(0, (eL aC s0)), (1, f1_v), (7, (eI t7)), (8, (eI s.2))] ∧ aL ⟨H0, List.map (fun p : Nat × cQ => p.1) G0, G⟩ H [] ∧ I s.1 G) hl0 ⟨G, bA, hO, hI⟩ ?_
  clear hO hI
  rintro k0 s out1 T H ⟨G, hT, hO, hI⟩ h1 ho0
  obtain ⟨sg, t8⟩ := s
  replace h1 : cH f1 s0 t7 sg t8 = some out1 := h1
  try dsimp only at hT
  refine bD hT ?_
  clear hT
  unfold cH at h1
  refine aT aF 1 [] [(9, (aK (decide (t8 < t7))))] ?_
  refine aP ?_
  refine bL h1 (fun h1 => ?_) (fun h1 => ?_)
  · refine bP ?_
    refine bK [(0, (eL aC s0)), (1, f1_v), (7, (eI t7)), (8, (eI t8))] ?_
    refine aP ?_
    refine bU 1 ?_
    refine aT aF 2 [] [(5, (eI t8))] ?_
    refine aP ?_
    refine aU aF 6 ?_
    obtain ⟨c2, h1⟩ := bJ h1
    refine rB 5 [0 ≤ t8 ∧ t8 < (lN s0)] ⟨c2, trivial⟩ ?_
    obtain ⟨x3, hx4, h1⟩ := bB h1
    refine FE (I := I) f1_v [(aC (gD s0 t8))] (aK x3.2) (by kernel_rfl) (by kernel_rfl) (f1_h _ (gD s0 t8) x3.1 x3.2 hx4) hO hI ?_
    intro G H hO hI
    refine cL ?_
    refine bS [] [(16, (aK x3.2))] ?_
    refine bL h1 (fun h1 => ?_) (fun h1 => ?_)
    · refine bX aF 2 [(4, (eI t8))] ?_
      refine bM ?_
      obtain rfl := oI h1
      obtain rfl : _ = rr0 := ho0
      replace h0 : some (x3.1, t8) = some r := h0
      obtain rfl := oI h0
      exact aI (bQ (aW (aW (bQ (aW (nB (x := (eI t8)) (by kernel_rfl) (aS.refl _) ⟨rfl, G, hI, hO.DH⟩))))))
    refine bP ?_
    refine dL [(0, (eL aC s0)), (1, f1_v), (7, (eI t7)), (8, (eI t8))] ?_
    refine aI (aZ (aG (?_)))
    refine aU aF 2 ?_
    refine bE ?_
    exact aI (aG (⟨rfl, _, (oI h1).symm, _, bA, hO, hI⟩))
  refine eR 0 ?_
  obtain rfl := oI h1
  obtain rfl : _ = rr0 := ho0
  replace h0 : dG f1 sg = some r := h0
  exact aI (aX (aX (bT (aG (⟨rfl, _, _, bA, hO, hI, h0⟩)))))

theorem qU {σ : Type} (I : σ → Gs → Prop) (s0 : (List aB)) (f1_v : V) (f1 : σ → aB → Option (σ × Bool)) (f1_h : ∀ st a0 st2 r, f1 st a0 = some (st2, r) → CI Try.prog f1_v I st [(aC a0)] st2 (aK r)) (sg0 : σ) (r : (σ × Bool)) (h0 : cW s0 f1 sg0 = some r) : sM Try.prog 25 I sg0 [(eL aC s0), f1_v] r.1 (aK r.2) := by
  intro H0 G0 hI hg
  refine cJ Try.func25 ?_
  obtain ⟨G, hO, hI⟩ : ∃ G, aL ⟨H0, List.map (fun p : Nat × cQ => p.1) G0, G⟩ H0 [] ∧ I sg0 G := ⟨G0, aL.DX hg, hI⟩
  clear hg
  unfold cW at h0
  refine aT aF 1 [] [] ?_
  refine aP ?_
  refine aU aF 5 ?_
  refine bN 2 ?_
  obtain ⟨x1, hx2, h0⟩ := bB h0
  refine FE (I := I) (.fn (.func 46) [] []) [(eL aC s0), f1_v] (eI x1.2) (by kernel_rfl) (by kernel_rfl) (sM.toV (sC I s0 f1_v f1 f1_h sg0 _ hx2)) hO hI ?_
  intro G H hO hI
  refine bE ?_
  refine bK [(4, (aK (decide ((0 : Int) ≤ x1.2))))] ?_
  refine bM ?_
  obtain rfl := oI h0
  exact aI (nB (x := (aK (decide ((0 : Int) ≤ x1.2)))) (by kernel_rfl) (aS.refl _) ⟨rfl, G, hI, hO.DH⟩)

theorem DC (lo : Nat) (xs : List aY) (k : Int) (hk : 0 ≤ k ∧ k < (lN xs)) (x0 : aB) (r : Bool) (h0 : lP xs k x0 = some r) : mF Try.prog 26 lo 2 (List.map aN xs) (List.map aN xs) [(aC x0), (.rp (.lp lo (0 + Int.toNat k) 0))] (aK r) := by
  intro H0 hl0
  refine cJ Try.func26 ?_
  have hO := aL.pI hl0
  clear hl0
  unfold lP at h0
  refine aP ?_
  refine aU aF 2 ?_
  refine qR 3 (aC x0) ?_
  refine bE ?_
  refine bK [(1, (.rp (.lp lo (0 + Int.toNat k) 0))), (2, (.rp (aC x0)))] ?_
  refine aP ?_
  refine kH (jW [5, 6]) aF 8 ?_
  refine vA 5 ?_
  refine kC 0 lo 2 (0 + Int.toNat k) (aN (gD xs k)) (eI (gD xs k).clock) (List.map aN xs) hO (cG hk) ?_
  refine oO ?_
  refine bK [(3, (aK (decide (x0.At < (gD xs k).clock))))] ?_
  refine bM ?_
  obtain rfl := oI h0
  exact aI (nB (x := (aK (decide (x0.At < (gD xs k).clock)))) (by kernel_rfl) (aS.refl _) ⟨rfl, hO.ext, hO.at 0 (by kernel_rfl), rfl⟩)

theorem vL (n1 : Int) (r : (List aB)) (h0 : fF n1 = some r) : EY Try.prog 73 [(.sl true 0 (fun _ => .bad)), (eI n1)] (fun lo => (.msl 3 lo 0 (List.length r))) 3 (List.map aC r) := by
  intro H0
  refine cJ Try.func73 ?_
  have hO := aL.start H0
  unfold fF at h0
  refine aT aF 1 [] [] ?_
  refine aP ?_
  refine aT aF 2 [] [(6, (aK (decide (n1 < (0 : Int)))))] ?_
  refine bL h0 (fun h0 => ?_) (fun h0 => ?_)
  · cases h0
  refine bP ?_
  refine bK [(0, (.sl true 0 (fun _ => .bad))), (1, (eI n1))] ?_
  refine dB (fun T H => ∃ s0 : List aB, ∃ lo2 : Nat, Has T [(0, (.msl 3 lo2 0 (List.length s0)))] ∧ aL ⟨H0, [], []⟩ H [(lo2, 3, List.map aC s0)] ∧ iT s0 = some r) ?_ ?_
  · clear hO h0
    rintro T H ⟨s0, lo2, hT, hO, h0⟩
    refine bD hT ?_
    clear hT
    unfold iT at h0
    refine bX aF 2 [(4, (.msl 3 lo2 0 (List.length s0)))] ?_
    refine bM ?_
    obtain rfl := oI h0
    exact aI (nB (x := (.msl 3 lo2 0 (List.length s0))) (by kernel_rfl) (aS.refl _) ⟨lo2, rfl, hO⟩)
  refine aT aF 8 [1] [(1, (eI (wR (n1 - (wR ((0 : Int) - ((0 : Nat) : Int)))))))] ?_
  refine aT aF 2 [] [(16, (aK (decide ((0 : Int) < (wR (n1 - (wR ((0 : Int) - ((0 : Nat) : Int)))))))))] ?_
  refine bL h0 (fun h0 => ?_) (fun h0 => ?_)
  · refine aU aF 10 ?_
    obtain ⟨c4, h0⟩ := bJ h0
    refine rB 5 [0 ≤ (0 : Int) ∧ (0 : Int) ≤ ((0 : Nat) : Int)] ⟨c4, trivial⟩ ?_
    obtain ⟨c5, h0⟩ := bJ h0
    refine RL 3 40 (wR (n1 - (wR ((0 : Int) - ((0 : Nat) : Int))))) (by kernel_rfl) (by kernel_rfl) c5 hO ?_
    intro lo6 H hO
    obtain ⟨c7, h0⟩ := bJ h0
    refine sH [0 ≤ ((0 : Nat) : Int) ∧ ((0 : Nat) : Int) ≤ (((Int.toNat (wR (n1 - (wR ((0 : Int) - ((0 : Nat) : Int)))))) : Nat) : Int)] ⟨c7, trivial⟩ ?_
    exact aI (aG (⟨rfl, ([] : List aB), _, bA, hO, h0⟩))
  refine bP ?_
  refine dL [(0, (.sl true 0 (fun _ => .bad)))] ?_
  refine OB (el := (fun _ => .bad)) 0 0 3 hO (by kernel_rfl) ?_
  intro lo8 H9 hO
  exact aI (aG (⟨rfl, ([] : List aB), _, bA, hO, h0⟩))

theorem uJ (cS : (List (List aB))) (r : (List aB)) (h0 : eM cS = some r) : cF Try.prog 47 [(eL (eL aC) cS)] (eL aC r) := by
  intro H0
  refine cJ Try.func47 ?_
  have hO := aL.start H0
  unfold eM at h0
  refine aT aF 1 [] [] ?_
  refine aT aF 1 [] [(3, (eI (0 : Int)))] ?_
  refine dB (fun T H => ∃ mG : Int, Has T [(0, (eL (eL aC) cS)), (3, (eI mG))] ∧ aL ⟨H0, [], []⟩ H [] ∧ eD cS mG = some r) ?_ ?_
  · clear hO h0
    rintro T H ⟨mG, hT, hO, h0⟩
    refine bD hT ?_
    clear hT
    unfold eD at h0
    refine aP ?_
    refine aU aF 3 ?_
    refine bN 1 ?_
    obtain ⟨x1, hx2, h0⟩ := bB h0
    refine JD (L' := fun lo3 => [(lo3, 3, List.map aC x1)]) 3 (List.map aC x1) 73 [(.sl true 0 (fun _ => .bad)), (eI mG)] (fun lo3 => (.msl 3 lo3 0 (List.length x1))) (by kernel_rfl) (by kernel_rfl) (vL mG _ hx2) hO (fun _ => by kernel_rfl) ?_
    intro lo3 H hO
    refine bE ?_
    refine bS [3] [(6, (.msl 3 lo3 0 (List.length x1)))] ?_
    refine dB (fun T H => ∃ cP : List aB, ∃ lo4 : Nat, Has T [(6, (.msl 3 lo4 0 (List.length cP)))] ∧ aL ⟨H0, [], []⟩ H [(lo4, 3, List.map aC cP)] ∧ eF cP = some r) ?_ ?_
    · clear hO h0
      rintro T H ⟨cP, lo4, hT, hO, h0⟩
      refine bD hT ?_
      clear hT
      unfold eF at h0
      refine bX aF 2 [(2, (.msl 3 lo4 0 (List.length cP)))] ?_
      refine bM ?_
      refine dL [(2, (.msl 3 lo4 0 (List.length cP)))] ?_
      refine DY (en := aC) cP 0 0 2 3 lo4 (List.length cP) hO (by kernel_rfl) (by kernel_rfl) (by kernel_rfl) (L' := []) (by kernel_rfl) ?_
      intro H5 hO
      obtain rfl := oI h0
      exact aI (Q_r hO)
    refine aT aF 3 [0] [(25, (eL (eL aC) cS)), (26, (eI (lN cS))), (27, (eI (0 : Int)))] ?_
    refine bU 2 ?_
    refine dJ [(6, (.msl 3 lo3 0 (List.length x1))), (25, (eL (eL aC) cS)), (26, (eI (lN cS))), (27, (eI (0 : Int)))] ?_
    refine cR (fun T H => ∃ cP : List aB, ∃ t25 : (List (List aB)), ∃ t26 : Int, ∃ t27 : Int, ∃ lo7 : Nat, Has T [(6, (.msl 3 lo7 0 (List.length cP))), (25, (eL (eL aC) t25)), (26, (eI t26)), (27, (eI t27))] ∧ aL ⟨H0, [], []⟩ H [(lo7, 3, List.map aC cP)] ∧ gO cP t25 t26 t27 = some r) ?_ ⟨x1, cS, (lN cS), (0 : Int), lo3, bA, hO, h0⟩
    clear hO h0
    rintro T H ⟨cP, t25, t26, t27, lo7, hT, hO, h0⟩
    refine bD hT ?_
    clear hT
    unfold gO at h0
    obtain ⟨rr0, hl0, h0⟩ := bB h0
    refine eS (fun (s : List aB × Int) T H => ∃ lo7 : Nat, Has T [(6, (.msl 3 lo7 0 (List.length s.1))), (25, (eL (eL aC) t25)), (26, (eI t26)), (27, (eI s.2))] ∧ aL ⟨H0, [], []⟩ H [(lo7, 3, List.map aC s.1)]) hl0 ⟨lo7, bA, hO⟩ ?_
    clear hO
    rintro k0 s out1 T H ⟨lo7, hT, hO⟩ h1 ho0
    obtain ⟨cP, t27⟩ := s
    replace h1 : cE t25 t26 cP t27 = some out1 := h1
    try dsimp only at hT
    refine bD hT ?_
    clear hT
    unfold cE at h1
    refine aT aF 1 [] [(28, (aK (decide (t27 < t26))))] ?_
    refine aP ?_
    refine bL h1 (fun h1 => ?_) (fun h1 => ?_)
    · refine bP ?_
      refine bK [(6, (.msl 3 lo7 0 (List.length cP))), (25, (eL (eL aC) t25)), (26, (eI t26)), (27, (eI t27))] ?_
      refine aP ?_
      refine bU 3 ?_
      refine aP ?_
      refine aU aF 3 ?_
      obtain ⟨c9, h1⟩ := bJ h1
      refine sH [0 ≤ t27 ∧ t27 < (lN t25)] ⟨c9, trivial⟩ ?_
      refine bS [] [(8, (eL aC (gD t25 t27)))] ?_
      refine aU aF 4 ?_
      refine bN 2 ?_
      obtain ⟨c11, h1⟩ := bJ h1
      refine DS aC cP (gD t25 t27) 0 lo7 3 40 (eL aC (gD t25 t27)) (fun lo10 => [(lo10, 3, List.map aC (cP ++ (gD t25 t27)))]) hO (yM (fun _ => by kernel_rfl)) c11 ?_
      intro lo10 H hO
      refine bE ?_
      refine dL [(6, (.msl 3 lo10 0 (List.length (cP ++ (gD t25 t27))))), (25, (eL (eL aC) t25)), (26, (eI t26)), (27, (eI t27))] ?_
      refine aI (aZ (aG (?_)))
      refine aU aF 2 ?_
      refine bE ?_
      exact aI (aG (⟨rfl, _, (oI h1).symm, _, bA, hO⟩))
    refine eR 2 ?_
    obtain rfl := oI h1
    obtain rfl : _ = rr0 := ho0
    replace h0 : eF cP = some r := h0
    exact aI (aX (aX (bT (aG (⟨rfl, _, _, bA, hO, h0⟩)))))
  refine aT aF 3 [] [(9, (eL (eL aC) cS)), (10, (eI (lN cS))), (11, (eI (0 : Int)))] ?_
  refine bU 0 ?_
  refine dJ [(0, (eL (eL aC) cS)), (3, (eI (0 : Int))), (9, (eL (eL aC) cS)), (10, (eI (lN cS))), (11, (eI (0 : Int)))] ?_
  refine cR (fun T H => ∃ mG : Int, ∃ t9 : (List (List aB)), ∃ t10 : Int, ∃ t11 : Int, Has T [(0, (eL (eL aC) cS)), (3, (eI mG)), (9, (eL (eL aC) t9)), (10, (eI t10)), (11, (eI t11))] ∧ aL ⟨H0, [], []⟩ H [] ∧ gN cS mG t9 t10 t11 = some r) ?_ ⟨(0 : Int), cS, (lN cS), (0 : Int), bA, hO, h0⟩
  clear hO h0
  rintro T H ⟨mG, t9, t10, t11, hT, hO, h0⟩
  refine bD hT ?_
  clear hT
  unfold gN at h0
  obtain ⟨rr0, hl0, h0⟩ := bB h0
  refine eS (fun (s : Int × Int) T H => Has T [(0, (eL (eL aC) cS)), (3, (eI s.1)), (9, (eL (eL aC) t9)), (10, (eI t10)), (11, (eI s.2))] ∧ aL ⟨H0, [], []⟩ H []) hl0 ⟨bA, hO⟩ ?_
  clear hO
  rintro k0 s out1 T H ⟨hT, hO⟩ h1 ho0
  obtain ⟨mG, t11⟩ := s
  replace h1 : cD cS t9 t10 mG t11 = some out1 := h1
  try dsimp only at hT
  refine bD hT ?_
  clear hT
  unfold cD at h1
  refine aT aF 1 [] [(12, (aK (decide (t11 < t10))))] ?_
  refine aP ?_
  refine bL h1 (fun h1 => ?_) (fun h1 => ?_)
  · refine bP ?_
    refine bK [(0, (eL (eL aC) cS)), (3, (eI mG)), (9, (eL (eL aC) t9)), (10, (eI t10)), (11, (eI t11))] ?_
    refine aP ?_
    refine bU 1 ?_
    refine aP ?_
    refine aU aF 3 ?_
    obtain ⟨c13, h1⟩ := bJ h1
    refine sH [0 ≤ t11 ∧ t11 < (lN t9)] ⟨c13, trivial⟩ ?_
    refine bS [] [(5, (eL aC (gD t9 t11)))] ?_
    refine aT aF 5 [3, 5] [(3, (eI (wR (mG + (lN (gD t9 t11))))))] ?_
    refine aT aF 2 [] [(20, (aK (decide ((wR (mG + (lN (gD t9 t11)))) < (0 : Int)))))] ?_
    refine bL h1 (fun h1 => ?_) (fun h1 => ?_)
    · cases h1
    refine bP ?_
    refine dL [(0, (eL (eL aC) cS)), (3, (eI (wR (mG + (lN (gD t9 t11)))))), (9, (eL (eL aC) t9)), (10, (eI t10)), (11, (eI t11))] ?_
    refine aI (aZ (aG (?_)))
    refine aU aF 2 ?_
    refine bE ?_
    exact aI (aG (⟨rfl, _, (oI h1).symm, bA, hO⟩))
  refine eR 0 ?_
  obtain rfl := oI h1
  obtain rfl : _ = rr0 := ho0
  replace h0 : eD cS mG = some r := h0
  exact aI (aX (aX (bT (aG (⟨rfl, _, bA, hO, h0⟩)))))

theorem sR (s0 : (List aB)) (f1_f : Nat) (f1_a f1_c : List V) (f1 : aB → Option Bool) (f1_h : ∀ a0 r, f1 a0 = some r → cF Try.prog f1_f (f1_a ++ [(aC a0)] ++ f1_c) (aK r)) (r : Int) (h0 : fR s0 f1 = some r) : cF Try.prog 46 [(eL aC s0), (.fn (.func f1_f) f1_a f1_c)] (eI r) := by
  intro H0
  refine cJ Try.func46 ?_
  have hO := aL.start H0
  unfold fR at h0
  refine aT aF 1 [] [] ?_
  refine dB (fun T H => Has T [] ∧ aL ⟨H0, [], []⟩ H [] ∧ dQ f1  = some r) ?_ ?_
  · clear hO h0
    rintro T H ⟨hT, hO, h0⟩
    refine bD hT ?_
    clear hT
    unfold dQ at h0
    refine bX aF 1 [(4, (eI (-1 : Int)))] ?_
    refine bM ?_
    obtain rfl := oI h0
    exact aI (Q_r hO)
  refine aT aF 3 [] [(7, (eI (lN s0))), (8, (eI (0 : Int)))] ?_
  refine bU 0 ?_
  refine dJ [(0, (eL aC s0)), (1, (.fn (.func f1_f) f1_a f1_c)), (7, (eI (lN s0))), (8, (eI (0 : Int)))] ?_
  refine cR (fun T H => ∃ t7 : Int, ∃ t8 : Int, Has T [(0, (eL aC s0)), (1, (.fn (.func f1_f) f1_a f1_c)), (7, (eI t7)), (8, (eI t8))] ∧ aL ⟨H0, [], []⟩ H [] ∧ fL f1 s0 t7 t8 = some r) ?_ ⟨(lN s0), (0 : Int), bA, hO, h0⟩
  clear hO h0
  rintro T H ⟨t7, t8, hT, hO, h0⟩
  refine bD hT ?_
  clear hT
  unfold fL at h0
  obtain ⟨rr0, hl0, h0⟩ := bB h0
  refine eS (fun (s : Int) T H => Has T [(0, (eL aC s0)), (1, (.fn (.func f1_f) f1_a f1_c)), (7, (eI t7)), (8, (eI s))] ∧ aL ⟨H0, [], []⟩ H []) hl0 ⟨bA, hO⟩ ?_
  clear hO
  rintro k0 s out1 T H ⟨hT, hO⟩ h1 ho0
  obtain ⟨t8, rfl⟩ : ∃ x, x = s := ⟨_, rfl⟩
  replace h1 : fI f1 s0 t7 t8 = some out1 := h1
  refine bD hT ?_
  clear hT
  unfold fI at h1
  refine aT aF 1 [] [(9, (aK (decide (t8 < t7))))] ?_
  refine aP ?_
  refine bL h1 (fun h1 => ?_) (fun h1 => ?_)
  · refine bP ?_
    refine bK [(0, (eL aC s0)), (1, (.fn (.func f1_f) f1_a f1_c)), (7, (eI t7)), (8, (eI t8))] ?_
    refine aP ?_
    refine bU 1 ?_
    refine aT aF 2 [] [(5, (eI t8))] ?_
    refine aP ?_
    refine aU aF 6 ?_
    obtain ⟨c2, h1⟩ := bJ h1
    refine rB 5 [0 ≤ t8 ∧ t8 < (lN s0)] ⟨c2, trivial⟩ ?_
    obtain ⟨x3, hx4, h1⟩ := bB h1
    refine eJ (f1_h (gD s0 t8) _ hx4) hO ?_
    intro H hO
    refine cL ?_
    refine bS [] [(16, (aK x3))] ?_
    refine bL h1 (fun h1 => ?_) (fun h1 => ?_)
    · refine bX aF 2 [(4, (eI t8))] ?_
      refine bM ?_
      obtain rfl := oI h1
      obtain rfl : _ = rr0 := ho0
      replace h0 : some t8 = some r := h0
      obtain rfl := oI h0
      exact aI (bQ (aW (aW (bQ (aW (Q_r hO))))))
    refine bP ?_
    refine dL [(0, (eL aC s0)), (1, (.fn (.func f1_f) f1_a f1_c)), (7, (eI t7)), (8, (eI t8))] ?_
    refine aI (aZ (aG (?_)))
    refine aU aF 2 ?_
    refine bE ?_
    exact aI (aG (⟨rfl, _, (oI h1).symm, bA, hO⟩))
  refine eR 0 ?_
  obtain rfl := oI h1
  obtain rfl : _ = rr0 := ho0
  replace h0 : dQ f1  = some r := h0
  exact aI (aX (aX (bT (aG (⟨rfl, bA, hO, h0⟩)))))

theorem mV (s0 : (List aB)) (f1_f : Nat) (f1_a f1_c : List V) (f1 : aB → Option Bool) (f1_h : ∀ a0 r, f1 a0 = some r → cF Try.prog f1_f (f1_a ++ [(aC a0)] ++ f1_c) (aK r)) (r : Bool) (h0 : cN s0 f1 = some r) : cF Try.prog 25 [(eL aC s0), (.fn (.func f1_f) f1_a f1_c)] (aK r) := by
  intro H0
  refine cJ Try.func25 ?_
  have hO := aL.start H0
  unfold cN at h0
  refine aT aF 1 [] [] ?_
  refine aP ?_
  refine aU aF 5 ?_
  refine bN 2 ?_
  obtain ⟨x1, hx2, h0⟩ := bB h0
  refine eJ (sR s0 f1_f f1_a f1_c f1 f1_h _ hx2) hO ?_
  intro H hO
  refine bE ?_
  refine bK [(4, (aK (decide ((0 : Int) ≤ x1))))] ?_
  refine bM ?_
  obtain rfl := oI h0
  exact aI (Q_r hO)

theorem KW (x0 : aB) (r : Bool) (h0 : rN x0 = some r) : cF Try.prog 31 [(aC x0)] (aK r) := by
  intro H0
  refine cJ Try.func31 ?_
  have hO := aL.start H0
  unfold rN at h0
  refine aP ?_
  refine aU aF 2 ?_
  refine qR 3 (aC x0) ?_
  refine bE ?_
  refine bK [(1, (.rp (aC x0)))] ?_
  refine aP ?_
  refine aU aF 15 ?_
  refine bN 2 ?_
  obtain ⟨x1, hx2, h0⟩ := bB h0
  refine eJ (zI x0.Row _ hx2) hO ?_
  intro H hO
  refine bE ?_
  refine bK [(2, (aK (((!x1) || (decide ((1048576 : Int) < x0.Net))) || (decide (x0.Net < (-1048576 : Int))))))] ?_
  refine bM ?_
  obtain rfl := oI h0
  exact aI (Q_r hO)

theorem LD (x0 : aB) (r : Bool) (h0 : rR x0 = some r) : cF Try.prog 33 [(aC x0)] (aK r) := by
  intro H0
  refine cJ Try.func33 ?_
  have hO := aL.start H0
  unfold rR at h0
  refine aP ?_
  refine aU aF 2 ?_
  refine qR 3 (aC x0) ?_
  refine bE ?_
  refine bK [(1, (.rp (aC x0)))] ?_
  refine bX aF 9 [(2, (aK ((decide (x0.At < (-1 : Int))) || (decide ((1125899906842624 : Int) < x0.At)))))] ?_
  refine bM ?_
  obtain rfl := oI h0
  exact aI (Q_r hO)

theorem uX (s0 : (List aB)) (r : (List aB)) (h0 : fC s0 = some r) : EY Try.prog 34 [(eL aC s0)] (fun lo => (.msl 3 lo 0 (List.length r))) 3 (List.map aC r) := by
  intro H0
  refine cJ Try.func34 ?_
  have hO := aL.start H0
  unfold fC at h0
  refine aT aF 1 [] [] ?_
  refine aP ?_
  refine aP ?_
  refine aU aF 2 ?_
  refine bN 1 ?_
  refine XV false (List.length s0) (fun i => aC (List.getD s0 i default)) (by kernel_rfl) (by kernel_rfl) ?_
  intro b1 hn2
  refine cL ?_
  refine bS [] [(4, (aK b1))] ?_
  refine mR (b1) (fun hc3 => ?_) (fun hc3 => ?_)
  · replace h0 : some ([] : List aB) = some r := by
      have hl := List.eq_nil_of_length_eq_zero (hn2 hc3)
      rw [hl] at h0
      exact (bJ h0).2
    refine bX aF 1 [(2, (.sl true 0 (fun _ => .bad)))] ?_
    refine bM ?_
    refine dL [(2, (.sl true 0 (fun _ => .bad)))] ?_
    refine OB (el := (fun _ => .bad)) 0 2 3 hO (by kernel_rfl) ?_
    intro lo4 H5 hO
    obtain rfl := oI h0
    exact aI (aW (nB (x := (.msl 3 lo4 0 (List.length ([] : List aB)))) (by kernel_rfl) (aS.refl _) ⟨lo4, rfl, hO⟩))
  · refine bP ?_
    refine bK [(0, (eL aC s0))] ?_
    refine aP ?_
    refine aU aF 4 ?_
    refine sL [] 3 ?_
    refine bN 2 ?_
    obtain ⟨c7, h0⟩ := bJ h0
    refine QU (e := aC) s0 (fun _ => .bad) 3 40 (eL aC s0) (fun lo6 => [(lo6, 3, List.map aC s0)]) (by kernel_rfl) (by kernel_rfl) hO (yM (fun _ => by kernel_rfl)) c7 (fun _ => by kernel_rfl) ?_
    intro lo6 H hO
    refine bE ?_
    refine bK [(2, (.msl 3 lo6 0 (List.length s0)))] ?_
    refine bM ?_
    obtain rfl := oI h0
    exact aI (nB (x := (.msl 3 lo6 0 (List.length s0))) (by kernel_rfl) (aS.refl _) ⟨lo6, rfl, hO⟩)

theorem nD (lo0p : Nat) (aA : (List aB)) (a1 : Int) (b2 : Int) (cmp3_f : Nat) (cmp3_a cmp3_c : List V) (cmp3 : aB → aB → Option Int) (cmp3_h : ∀ a0 a1 r, cmp3 a0 a1 = some r → cF Try.prog cmp3_f (cmp3_a ++ [(aC a0), (aC a1)] ++ cmp3_c) (eI r)) (r : List aB) (h0 : dK aA a1 b2 cmp3 = some r) : mF Try.prog 79 lo0p 3 (List.map aC aA) (List.map aC r) [(.msl 3 lo0p 0 (List.length aA)), (eI a1), (eI b2), (.fn (.func cmp3_f) cmp3_a cmp3_c)] (.tup []) := by
  intro H0 hl0
  refine cJ Try.func79 ?_
  have hO := aL.pI hl0
  clear hl0
  obtain ⟨N0, hN0⟩ : ∃ n, n = List.length aA := ⟨_, rfl⟩
  have hN : List.length aA = N0 := hN0.symm
  unfold dK at h0
  refine aT aF 3 [] [(8, (eI (wR (a1 + (1 : Int)))))] ?_
  refine bU 0 ?_
  refine dJ [(0, (.msl 3 lo0p 0 (List.length aA))), (1, (eI a1)), (2, (eI b2)), (3, (.fn (.func cmp3_f) cmp3_a cmp3_c)), (8, (eI (wR (a1 + (1 : Int)))))] ?_
  refine cR (fun T H => ∃ aA : List aB, ∃ i8 : Int, Has T [(0, (.msl 3 lo0p 0 (List.length aA))), (1, (eI a1)), (2, (eI b2)), (3, (.fn (.func cmp3_f) cmp3_a cmp3_c)), (8, (eI i8))] ∧ aL ⟨H0, [lo0p], []⟩ H [(lo0p, 3, List.map aC aA)] ∧ List.length aA = N0 ∧ iY cmp3 aA a1 b2 i8 = some r) ?_ ⟨aA, wR (a1 + (1 : Int)), bA, hO, hN, h0⟩
  clear hO hN h0
  rintro T H ⟨aA, i8, hT, hO, hN, h0⟩
  refine bD hT ?_
  clear hT
  unfold iY at h0
  obtain ⟨rr0, hl0, h0⟩ := bB h0
  refine eS (fun (s : List aB × Int) T H => Has T [(0, (.msl 3 lo0p 0 (List.length s.1))), (1, (eI a1)), (2, (eI b2)), (3, (.fn (.func cmp3_f) cmp3_a cmp3_c)), (8, (eI s.2))] ∧ aL ⟨H0, [lo0p], []⟩ H [(lo0p, 3, List.map aC s.1)] ∧ List.length s.1 = N0) hl0 ⟨bA, hO, hN⟩ ?_
  clear hO hN
  rintro k0 s out1 T H ⟨hT, hO, hN⟩ h1 ho0
  obtain ⟨aA, i8⟩ := s
  replace h1 : jB cmp3 a1 b2 aA i8 = some out1 := h1
  try dsimp only at hT
  refine bD hT ?_
  clear hT
  unfold jB at h1
  refine aP ?_
  refine aT aF 3 [] [(14, (aK (decide (i8 < b2))))] ?_
  refine bL h1 (fun h1 => ?_) (fun h1 => ?_)
  · refine bP ?_
    refine bK [(0, (.msl 3 lo0p 0 (List.length aA))), (1, (eI a1)), (2, (eI b2)), (3, (.fn (.func cmp3_f) cmp3_a cmp3_c)), (8, (eI i8))] ?_
    refine dB (fun T H => ∃ aA : List aB, Has T [(0, (.msl 3 lo0p 0 (List.length aA))), (1, (eI a1)), (2, (eI b2)), (3, (.fn (.func cmp3_f) cmp3_a cmp3_c)), (8, (eI i8))] ∧ aL ⟨H0, [lo0p], []⟩ H [(lo0p, 3, List.map aC aA)] ∧ List.length aA = N0 ∧ eV cmp3 aA a1 b2 i8 = some out1) ?_ ?_
    · clear hO hN h1
      rintro T H ⟨aA, hT, hO, hN, h1⟩
      refine bD hT ?_
      clear hT
      unfold eV at h1
      refine aU aF 3 ?_
      refine bE ?_
      exact aI (aG (⟨rfl, _, (oI h1).symm, bA, hO, hN⟩))
    refine bU 1 ?_
    refine aT aF 2 [] [(9, (eI i8))] ?_
    refine bU 2 ?_
    refine dJ [(0, (.msl 3 lo0p 0 (List.length aA))), (1, (eI a1)), (2, (eI b2)), (3, (.fn (.func cmp3_f) cmp3_a cmp3_c)), (8, (eI i8)), (9, (eI i8))] ?_
    refine cR (fun T H => ∃ aA : List aB, ∃ j9 : Int, Has T [(0, (.msl 3 lo0p 0 (List.length aA))), (1, (eI a1)), (2, (eI b2)), (3, (.fn (.func cmp3_f) cmp3_a cmp3_c)), (8, (eI i8)), (9, (eI j9))] ∧ aL ⟨H0, [lo0p], []⟩ H [(lo0p, 3, List.map aC aA)] ∧ List.length aA = N0 ∧ iZ cmp3 aA a1 b2 i8 j9 = some out1) ?_ ⟨aA, i8, bA, hO, hN, h1⟩
    clear hO hN h1
    rintro T H ⟨aA, j9, hT, hO, hN, h1⟩
    refine bD hT ?_
    clear hT
    unfold iZ at h1
    obtain ⟨rr1, hl1, h1⟩ := bB h1
    refine eS (fun (s : List aB × Int) T H => Has T [(0, (.msl 3 lo0p 0 (List.length s.1))), (1, (eI a1)), (2, (eI b2)), (3, (.fn (.func cmp3_f) cmp3_a cmp3_c)), (8, (eI i8)), (9, (eI s.2))] ∧ aL ⟨H0, [lo0p], []⟩ H [(lo0p, 3, List.map aC s.1)] ∧ List.length s.1 = N0) hl1 ⟨bA, hO, hN⟩ ?_
    clear hO hN
    rintro k1 s out2 T H ⟨hT, hO, hN⟩ h2 ho1
    obtain ⟨aA, j9⟩ := s
    replace h2 : iW cmp3 a1 b2 i8 aA j9 = some out2 := h2
    try dsimp only at hT
    refine bD hT ?_
    clear hT
    unfold iW at h2
    refine aP ?_
    refine aP ?_
    obtain ⟨c2, h2⟩ := bJ h2
    obtain ⟨c3, h2⟩ := bJ h2
    obtain ⟨x4, hx5, h2⟩ := bB h2
    refine kH (jW []) aF 17 ?_
    refine BI (K := fun T H => Has (lift T) [(0, (.msl 3 lo0p 0 (List.length aA))), (1, (eI a1)), (2, (eI b2)), (3, (.fn (.func cmp3_f) cmp3_a cmp3_c)), (8, (eI i8)), (9, (eI j9)), (34, (aK ((decide (a1 < j9)) && (decide (x4 < (0 : Int))))))] ∧ aL ⟨H0, [lo0p], []⟩ H [(lo0p, 3, List.map aC aA)]) ?_ ?_
    · refine vA 4 ?_
      refine yN (t := 21) (e := decide (a1 < j9)) (by kernel_rfl) (fun hg6 => ?_) (fun hg6 => ?_)
      · refine dA 8 [0 ≤ j9 ∧ j9 < (lN aA)] ⟨(c2 hg6), trivial⟩ ?_
        refine JC 0 lo0p 3 (0 + Int.toNat j9) (aC (gD aA j9)) (aC (gD aA j9)) (List.map aC aA) hO (cG (c2 hg6)) ?_
        refine dA 13 [0 ≤ (wR (j9 - (1 : Int))) ∧ (wR (j9 - (1 : Int))) < (lN aA)] ⟨(c3 hg6), trivial⟩ ?_
        refine JC 0 lo0p 3 (0 + Int.toNat (wR (j9 - (1 : Int)))) (aC (gD aA (wR (j9 - (1 : Int))))) (aC (gD aA (wR (j9 - (1 : Int))))) (List.map aC aA) hO (cG (c3 hg6)) ?_
        refine IW cmp3_f (cmp3_a ++ [(aC (gD aA j9)), (aC (gD aA (wR (j9 - (1 : Int)))))] ++ cmp3_c) (eI x4) (by kernel_rfl) (by kernel_rfl) (cmp3_h (gD aA j9) (gD aA (wR (j9 - (1 : Int)))) _ (tI hx5 hg6)) hO ?_
        intro H hO
        refine oO ?_
        exact ⟨⟨[(0, (.msl 3 lo0p 0 (List.length aA))), (1, (eI a1)), (2, (eI b2)), (3, (.fn (.func cmp3_f) cmp3_a cmp3_c)), (8, (eI i8)), (9, (eI j9)), (34, (aK (decide (x4 < (0 : Int)))))], by kernel_rfl, rfl, ⟨aS.refl _, aS.refl _, aS.refl _, aS.refl _, aS.refl _, aS.refl _, aS.eq (congrArg aK (FD hg6 rfl).symm), trivial⟩⟩, hO⟩
      refine oO ?_
      exact ⟨⟨[(0, (.msl 3 lo0p 0 (List.length aA))), (1, (eI a1)), (2, (eI b2)), (3, (.fn (.func cmp3_f) cmp3_a cmp3_c)), (8, (eI i8)), (9, (eI j9)), (34, (aK false))], by kernel_rfl, rfl, ⟨aS.refl _, aS.refl _, aS.refl _, aS.refl _, aS.refl _, aS.refl _, aS.eq (congrArg aK (FD hg6 rfl).symm), trivial⟩⟩, hO⟩
    · rintro T H ⟨hT, hO⟩
      refine cT hT ?_
      clear hT
      refine aI (aG ?_)
      refine bL h2 (fun h2 => ?_) (fun h2 => ?_)
      · refine bP ?_
        refine bK [(0, (.msl 3 lo0p 0 (List.length aA))), (1, (eI a1)), (2, (eI b2)), (3, (.fn (.func cmp3_f) cmp3_a cmp3_c)), (8, (eI i8)), (9, (eI j9))] ?_
        refine aP ?_
        refine bU 3 ?_
        refine kH (jW []) aF 18 ?_
        obtain ⟨c8, h2⟩ := bJ h2
        refine dA 9 [0 ≤ (wR (j9 - (1 : Int))) ∧ (wR (j9 - (1 : Int))) < (lN aA)] ⟨c8, trivial⟩ ?_
        refine kC 0 lo0p 3 (0 + Int.toNat (wR (j9 - (1 : Int)))) (aC (gD aA (wR (j9 - (1 : Int))))) (aC (gD aA (wR (j9 - (1 : Int))))) (List.map aC aA) hO (cG c8) ?_
        obtain ⟨c9, h2⟩ := bJ h2
        refine dA 13 [0 ≤ j9 ∧ j9 < (lN aA)] ⟨c9, trivial⟩ ?_
        refine kC 0 lo0p 3 (0 + Int.toNat j9) (aC (gD aA j9)) (aC (gD aA j9)) (List.map aC aA) hO (cG c9) ?_
        obtain ⟨c10, h2⟩ := bJ h2
        refine dA 15 [0 ≤ j9 ∧ j9 < (lN aA)] ⟨c10, trivial⟩ ?_
        refine sE 0 lo0p 3 (0 + Int.toNat j9) (aC (gD aA j9)) (aC (gD aA (wR (j9 - (1 : Int))))) (List.map aC aA) [(lo0p, 3, List.map aC (List.set aA (Int.toNat j9) (gD aA (wR (j9 - (1 : Int))))))] hO (cG c10) (by simp only [List.set, mO]) ?_
        intro H hO
        replace hN : List.length (List.set aA (Int.toNat j9) (gD aA (wR (j9 - (1 : Int))))) = N0 := by simpa using hN
        obtain ⟨c11, h2⟩ := bJ h2
        refine dA 17 [0 ≤ (wR (j9 - (1 : Int))) ∧ (wR (j9 - (1 : Int))) < (lN aA)] ⟨c11, trivial⟩ ?_
        refine sE 0 lo0p 3 (0 + Int.toNat (wR (j9 - (1 : Int)))) (aC (gD (List.set aA (Int.toNat j9) (gD aA (wR (j9 - (1 : Int))))) (wR (j9 - (1 : Int))))) (aC (gD aA j9)) (List.map aC (List.set aA (Int.toNat j9) (gD aA (wR (j9 - (1 : Int)))))) [(lo0p, 3, List.map aC (List.set (List.set aA (Int.toNat j9) (gD aA (wR (j9 - (1 : Int))))) (Int.toNat (wR (j9 - (1 : Int)))) (gD aA j9)))] hO (vG c11 (by simp [])) (by simp only [List.set, mO]) ?_
        intro H hO
        replace hN : List.length (List.set (List.set aA (Int.toNat j9) (gD aA (wR (j9 - (1 : Int))))) (Int.toNat (wR (j9 - (1 : Int)))) (gD aA j9)) = N0 := by simpa using hN
        refine xA (by kernel_rfl) ?_
        refine cT (l := [(0, (.msl 3 lo0p 0 (List.length (List.set (List.set aA (Int.toNat j9) (gD aA (wR (j9 - (1 : Int))))) (Int.toNat (wR (j9 - (1 : Int)))) (gD aA j9))))), (1, (eI a1)), (2, (eI b2)), (3, (.fn (.func cmp3_f) cmp3_a cmp3_c)), (8, (eI i8)), (9, (eI j9))]) ⟨[(0, (.msl 3 lo0p 0 (List.length aA))), (1, (eI a1)), (2, (eI b2)), (3, (.fn (.func cmp3_f) cmp3_a cmp3_c)), (8, (eI i8)), (9, (eI j9))], by kernel_rfl, rfl, ⟨aS.eq (by simp []), aS.refl _, aS.refl _, aS.refl _, aS.refl _, aS.refl _, trivial⟩⟩ ?_
        refine aI (aZ (aG (?_)))
        refine aU aF 3 ?_
        refine bE ?_
        exact aI (aG (⟨rfl, _, (oI h2).symm, bA, hO, hN⟩))
      refine eR 2 ?_
      obtain rfl := oI h2
      obtain rfl : _ = rr1 := ho1
      replace h1 : eV cmp3 aA a1 b2 i8 = some out1 := h1
      exact aI (aX (aX (bT (aZ (aG (⟨rfl, _, bA, hO, hN, h1⟩))))))
  refine eR 0 ?_
  obtain rfl := oI h1
  obtain rfl : _ = rr0 := ho0
  replace h0 : some aA = some r := h0
  obtain rfl := oI h0
  exact aI (aX (aX (bT (qK (x := (.tup [])) (by kernel_rfl) (aS.refl _) ⟨rfl, hO.ext, hO.at 0 (by kernel_rfl), by first | rfl | (simp only [List.length_map]; exact hN.trans hN0)⟩))))

theorem lE (lo0p : Nat) (aA : (List aB)) (a1 : Int) (b2 : Int) (n3 : Int) (cmp4_f : Nat) (cmp4_a cmp4_c : List V) (cmp4 : aB → aB → Option Int) (cmp4_h : ∀ a0 a1 r, cmp4 a0 a1 = some r → cF Try.prog cmp4_f (cmp4_a ++ [(aC a0), (aC a1)] ++ cmp4_c) (eI r)) (r : List aB) (h0 : eG aA a1 b2 n3 cmp4 = some r) : mF Try.prog 97 lo0p 3 (List.map aC aA) (List.map aC r) [(.msl 3 lo0p 0 (List.length aA)), (eI a1), (eI b2), (eI n3), (.fn (.func cmp4_f) cmp4_a cmp4_c)] (.tup []) := by
  intro H0 hl0
  refine cJ Try.func97 ?_
  have hO := aL.pI hl0
  clear hl0
  obtain ⟨N0, hN0⟩ : ∃ n, n = List.length aA := ⟨_, rfl⟩
  have hN : List.length aA = N0 := hN0.symm
  unfold eG at h0
  refine aT aF 1 [4] [(10, (eI (0 : Int)))] ?_
  refine bU 0 ?_
  refine dJ [(0, (.msl 3 lo0p 0 (List.length aA))), (1, (eI a1)), (2, (eI b2)), (3, (eI n3)), (10, (eI (0 : Int)))] ?_
  refine cR (fun T H => ∃ aA : List aB, ∃ i10 : Int, Has T [(0, (.msl 3 lo0p 0 (List.length aA))), (1, (eI a1)), (2, (eI b2)), (3, (eI n3)), (10, (eI i10))] ∧ aL ⟨H0, [lo0p], []⟩ H [(lo0p, 3, List.map aC aA)] ∧ List.length aA = N0 ∧ jY cmp4 aA a1 b2 n3 i10 = some r) ?_ ⟨aA, (0 : Int), bA, hO, hN, h0⟩
  clear hO hN h0
  rintro T H ⟨aA, i10, hT, hO, hN, h0⟩
  refine bD hT ?_
  clear hT
  unfold jY at h0
  obtain ⟨rr0, hl0, h0⟩ := bB h0
  refine eS (fun (s : List aB × Int) T H => Has T [(0, (.msl 3 lo0p 0 (List.length s.1))), (1, (eI a1)), (2, (eI b2)), (3, (eI n3)), (10, (eI s.2))] ∧ aL ⟨H0, [lo0p], []⟩ H [(lo0p, 3, List.map aC s.1)] ∧ List.length s.1 = N0) hl0 ⟨bA, hO, hN⟩ ?_
  clear hO hN
  rintro k0 s out1 T H ⟨hT, hO, hN⟩ h1 ho0
  obtain ⟨aA, i10⟩ := s
  replace h1 : kT cmp4 a1 b2 n3 aA i10 = some out1 := h1
  try dsimp only at hT
  refine bD hT ?_
  clear hT
  unfold kT at h1
  refine aP ?_
  refine aT aF 3 [] [(13, (aK (decide (i10 < n3))))] ?_
  refine bL h1 (fun h1 => ?_) (fun h1 => ?_)
  · refine bP ?_
    refine bK [(0, (.msl 3 lo0p 0 (List.length aA))), (1, (eI a1)), (2, (eI b2)), (3, (eI n3)), (10, (eI i10))] ?_
    refine aP ?_
    refine bU 1 ?_
    refine kH (jW []) aF 24 ?_
    obtain ⟨c2, h1⟩ := bJ h1
    refine dA 13 [0 ≤ (wR (b2 + i10)) ∧ (wR (b2 + i10)) < (lN aA)] ⟨c2, trivial⟩ ?_
    refine kC 0 lo0p 3 (0 + Int.toNat (wR (b2 + i10))) (aC (gD aA (wR (b2 + i10)))) (aC (gD aA (wR (b2 + i10)))) (List.map aC aA) hO (cG c2) ?_
    obtain ⟨c3, h1⟩ := bJ h1
    refine dA 19 [0 ≤ (wR (a1 + i10)) ∧ (wR (a1 + i10)) < (lN aA)] ⟨c3, trivial⟩ ?_
    refine kC 0 lo0p 3 (0 + Int.toNat (wR (a1 + i10))) (aC (gD aA (wR (a1 + i10)))) (aC (gD aA (wR (a1 + i10)))) (List.map aC aA) hO (cG c3) ?_
    obtain ⟨c4, h1⟩ := bJ h1
    refine dA 21 [0 ≤ (wR (a1 + i10)) ∧ (wR (a1 + i10)) < (lN aA)] ⟨c4, trivial⟩ ?_
    refine sE 0 lo0p 3 (0 + Int.toNat (wR (a1 + i10))) (aC (gD aA (wR (a1 + i10)))) (aC (gD aA (wR (b2 + i10)))) (List.map aC aA) [(lo0p, 3, List.map aC (List.set aA (Int.toNat (wR (a1 + i10))) (gD aA (wR (b2 + i10)))))] hO (cG c4) (by simp only [List.set, mO]) ?_
    intro H hO
    replace hN : List.length (List.set aA (Int.toNat (wR (a1 + i10))) (gD aA (wR (b2 + i10)))) = N0 := by simpa using hN
    obtain ⟨c5, h1⟩ := bJ h1
    refine dA 23 [0 ≤ (wR (b2 + i10)) ∧ (wR (b2 + i10)) < (lN aA)] ⟨c5, trivial⟩ ?_
    refine sE 0 lo0p 3 (0 + Int.toNat (wR (b2 + i10))) (aC (gD (List.set aA (Int.toNat (wR (a1 + i10))) (gD aA (wR (b2 + i10)))) (wR (b2 + i10)))) (aC (gD aA (wR (a1 + i10)))) (List.map aC (List.set aA (Int.toNat (wR (a1 + i10))) (gD aA (wR (b2 + i10))))) [(lo0p, 3, List.map aC (List.set (List.set aA (Int.toNat (wR (a1 + i10))) (gD aA (wR (b2 + i10)))) (Int.toNat (wR (b2 + i10))) (gD aA (wR (a1 + i10)))))] hO (vG c5 (by simp [])) (by simp only [List.set, mO]) ?_
    intro H hO
    replace hN : List.length (List.set (List.set aA (Int.toNat (wR (a1 + i10))) (gD aA (wR (b2 + i10)))) (Int.toNat (wR (b2 + i10))) (gD aA (wR (a1 + i10)))) = N0 := by simpa using hN
    refine xA (by kernel_rfl) ?_
    refine cT (l := [(0, (.msl 3 lo0p 0 (List.length (List.set (List.set aA (Int.toNat (wR (a1 + i10))) (gD aA (wR (b2 + i10)))) (Int.toNat (wR (b2 + i10))) (gD aA (wR (a1 + i10))))))), (1, (eI a1)), (2, (eI b2)), (3, (eI n3)), (10, (eI i10))]) ⟨[(0, (.msl 3 lo0p 0 (List.length aA))), (1, (eI a1)), (2, (eI b2)), (3, (eI n3)), (10, (eI i10))], by kernel_rfl, rfl, ⟨aS.eq (by simp []), aS.refl _, aS.refl _, aS.refl _, aS.refl _, trivial⟩⟩ ?_
    refine aI (aZ (aG (?_)))
    refine aU aF 3 ?_
    refine bE ?_
    exact aI (aG (⟨rfl, _, (oI h1).symm, bA, hO, hN⟩))
  refine eR 0 ?_
  obtain rfl := oI h1
  obtain rfl : _ = rr0 := ho0
  replace h0 : some aA = some r := h0
  obtain rfl := oI h0
  exact aI (aX (aX (bT (qK (x := (.tup [])) (by kernel_rfl) (aS.refl _) ⟨rfl, hO.ext, hO.at 0 (by kernel_rfl), by first | rfl | (simp only [List.length_map]; exact hN.trans hN0)⟩))))

theorem vK (lo0p : Nat) (aA : (List aB)) (a1 : Int) (m2 : Int) (b3 : Int) (cmp4_f : Nat) (cmp4_a cmp4_c : List V) (cmp4 : aB → aB → Option Int) (cmp4_h : ∀ a0 a1 r, cmp4 a0 a1 = some r → cF Try.prog cmp4_f (cmp4_a ++ [(aC a0), (aC a1)] ++ cmp4_c) (eI r)) (r : List aB) (h0 : mH aA a1 m2 b3 cmp4 = some r) : mF Try.prog 91 lo0p 3 (List.map aC aA) (List.map aC r) [(.msl 3 lo0p 0 (List.length aA)), (eI a1), (eI m2), (eI b3), (.fn (.func cmp4_f) cmp4_a cmp4_c)] (.tup []) := by
  intro H0 hl0
  refine cJ Try.func91 ?_
  have hO := aL.pI hl0
  clear hl0
  obtain ⟨N0, hN0⟩ : ∃ n, n = List.length aA := ⟨_, rfl⟩
  have hN : List.length aA = N0 := hN0.symm
  unfold mH at h0
  refine aT aF 4 [1] [(10, (eI (wR (m2 - a1))))] ?_
  refine aT aF 4 [3] [(11, (eI (wR (b3 - m2))))] ?_
  refine dB (fun T H => ∃ aA : List aB, ∃ i10 : Int, Has T [(0, (.msl 3 lo0p 0 (List.length aA))), (2, (eI m2)), (4, (.fn (.func cmp4_f) cmp4_a cmp4_c)), (10, (eI i10))] ∧ aL ⟨H0, [lo0p], []⟩ H [(lo0p, 3, List.map aC aA)] ∧ List.length aA = N0 ∧ iE cmp4 aA m2 i10 = some r) ?_ ?_
  · clear hO hN h0
    rintro T H ⟨aA, i10, hT, hO, hN, h0⟩
    refine bD hT ?_
    clear hT
    unfold iE at h0
    refine aU aF 8 ?_
    refine bN 7 ?_
    obtain ⟨x1, hx2, h0⟩ := bB h0
    refine oQ [(lo0p, 3, List.map aC x1)] 0 (lE lo0p aA (wR (m2 - i10)) m2 i10 cmp4_f cmp4_a cmp4_c cmp4 cmp4_h _ hx2) hO ?_
    intro H hO hl3
    simp only [List.length_map] at hl3
    replace hN := hl3.trans hN
    refine cL ?_
    refine cT (l := [(0, (.msl 3 lo0p 0 (List.length x1)))]) ⟨[(0, (.msl 3 lo0p 0 (List.length aA)))], by kernel_rfl, rfl, ⟨aS.eq (by simp [hl3]), trivial⟩⟩ ?_
    obtain rfl := oI h0
    exact aI (qK (x := (.tup [])) (by kernel_rfl) (aS.refl _) ⟨rfl, hO.ext, hO.at 0 (by kernel_rfl), by simp only [List.length_map]; exact hN.trans hN0⟩)
  refine bU 0 ?_
  refine dJ [(0, (.msl 3 lo0p 0 (List.length aA))), (2, (eI m2)), (4, (.fn (.func cmp4_f) cmp4_a cmp4_c)), (10, (eI (wR (m2 - a1)))), (11, (eI (wR (b3 - m2))))] ?_
  refine cR (fun T H => ∃ aA : List aB, ∃ i10 : Int, ∃ j11 : Int, Has T [(0, (.msl 3 lo0p 0 (List.length aA))), (2, (eI m2)), (4, (.fn (.func cmp4_f) cmp4_a cmp4_c)), (10, (eI i10)), (11, (eI j11))] ∧ aL ⟨H0, [lo0p], []⟩ H [(lo0p, 3, List.map aC aA)] ∧ List.length aA = N0 ∧ lX cmp4 aA m2 i10 j11 = some r) ?_ ⟨aA, wR (m2 - a1), wR (b3 - m2), bA, hO, hN, h0⟩
  clear hO hN h0
  rintro T H ⟨aA, i10, j11, hT, hO, hN, h0⟩
  refine bD hT ?_
  clear hT
  unfold lX at h0
  obtain ⟨rr0, hl0, h0⟩ := bB h0
  refine eS (fun (s : List aB × Int × Int) T H => Has T [(0, (.msl 3 lo0p 0 (List.length s.1))), (2, (eI m2)), (4, (.fn (.func cmp4_f) cmp4_a cmp4_c)), (10, (eI s.2.1)), (11, (eI s.2.2))] ∧ aL ⟨H0, [lo0p], []⟩ H [(lo0p, 3, List.map aC s.1)] ∧ List.length s.1 = N0) hl0 ⟨bA, hO, hN⟩ ?_
  clear hO hN
  rintro k0 s out1 T H ⟨hT, hO, hN⟩ h1 ho0
  obtain ⟨aA, i10, j11⟩ := s
  replace h1 : lW cmp4 m2 aA i10 j11 = some out1 := h1
  try dsimp only at hT
  refine bD hT ?_
  clear hT
  unfold lW at h1
  refine aP ?_
  refine aT aF 3 [] [(20, (aK (!decide (i10 = j11))))] ?_
  refine bL h1 (fun h1 => ?_) (fun h1 => ?_)
  · refine bP ?_
    refine bK [(0, (.msl 3 lo0p 0 (List.length aA))), (2, (eI m2)), (4, (.fn (.func cmp4_f) cmp4_a cmp4_c)), (10, (eI i10)), (11, (eI j11))] ?_
    refine bU 1 ?_
    refine aT aF 3 [] [(23, (aK (decide (j11 < i10))))] ?_
    refine bL h1 (fun h1 => ?_) (fun h1 => ?_)
    · refine aP ?_
      refine aU aF 8 ?_
      refine bN 7 ?_
      obtain ⟨x6, hx7, h1⟩ := bB h1
      refine oQ [(lo0p, 3, List.map aC x6)] 0 (lE lo0p aA (wR (m2 - i10)) m2 j11 cmp4_f cmp4_a cmp4_c cmp4 cmp4_h _ hx7) hO ?_
      intro H hO hl8
      simp only [List.length_map] at hl8
      replace hN := hl8.trans hN
      refine cL ?_
      refine cT (l := [(0, (.msl 3 lo0p 0 (List.length x6))), (2, (eI m2)), (4, (.fn (.func cmp4_f) cmp4_a cmp4_c)), (10, (eI i10)), (11, (eI j11))]) ⟨[(0, (.msl 3 lo0p 0 (List.length aA))), (2, (eI m2)), (4, (.fn (.func cmp4_f) cmp4_a cmp4_c)), (10, (eI i10)), (11, (eI j11))], by kernel_rfl, rfl, ⟨aS.eq (by simp [hl8]), aS.refl _, aS.refl _, aS.refl _, aS.refl _, trivial⟩⟩ ?_
      refine aI (aG (?_))
      refine aU aF 4 ?_
      refine bE ?_
      exact aI (aZ (aG (⟨rfl, _, (oI h1).symm, bA, hO, hN⟩)))
    refine aP ?_
    refine aU aF 12 ?_
    refine bN 11 ?_
    obtain ⟨x9, hx10, h1⟩ := bB h1
    refine oQ [(lo0p, 3, List.map aC x9)] 0 (lE lo0p aA (wR (m2 - i10)) (wR ((wR (m2 + j11)) - i10)) i10 cmp4_f cmp4_a cmp4_c cmp4 cmp4_h _ hx10) hO ?_
    intro H hO hl11
    simp only [List.length_map] at hl11
    replace hN := hl11.trans hN
    refine cL ?_
    refine cT (l := [(0, (.msl 3 lo0p 0 (List.length x9))), (2, (eI m2)), (4, (.fn (.func cmp4_f) cmp4_a cmp4_c)), (10, (eI i10)), (11, (eI j11))]) ⟨[(0, (.msl 3 lo0p 0 (List.length aA))), (2, (eI m2)), (4, (.fn (.func cmp4_f) cmp4_a cmp4_c)), (10, (eI i10)), (11, (eI j11))], by kernel_rfl, rfl, ⟨aS.eq (by simp [hl11]), aS.refl _, aS.refl _, aS.refl _, aS.refl _, trivial⟩⟩ ?_
    refine aI (aG (?_))
    refine aU aF 4 ?_
    refine bE ?_
    exact aI (aZ (aG (⟨rfl, _, (oI h1).symm, bA, hO, hN⟩)))
  refine eR 0 ?_
  obtain rfl := oI h1
  obtain rfl : _ = rr0 := ho0
  replace h0 : iE cmp4 aA m2 i10 = some r := h0
  exact aI (aX (aX (bT (aG (⟨rfl, _, _, bA, hO, hN, h0⟩)))))

theorem sK (cmp4_f : Nat) (cmp4_a cmp4_c : List V) (cmp4 : aB → aB → Option Int) (cmp4_h : ∀ a0 a1 r, cmp4 a0 a1 = some r → cF Try.prog cmp4_f (cmp4_a ++ [(aC a0), (aC a1)] ++ cmp4_c) (eI r)) (rec : (List aB) → Int → Int → Int → Option (List aB)) (ih : ∀ (lo0p : Nat) (aA : (List aB)) (a1 : Int) (m2 : Int) (b3 : Int) (r : List aB), rec aA a1 m2 b3 = some r → mF Try.prog 80 lo0p 3 (List.map aC aA) (List.map aC r) [(.msl 3 lo0p 0 (List.length aA)), (eI a1), (eI m2), (eI b3), (.fn (.func cmp4_f) cmp4_a cmp4_c)] (.tup [])) (lo0p : Nat) (aA : (List aB)) (a1 : Int) (m2 : Int) (b3 : Int) (r : List aB) (h0 : dV cmp4 rec aA a1 m2 b3 = some r) : mF Try.prog 80 lo0p 3 (List.map aC aA) (List.map aC r) [(.msl 3 lo0p 0 (List.length aA)), (eI a1), (eI m2), (eI b3), (.fn (.func cmp4_f) cmp4_a cmp4_c)] (.tup []) := by
  intro H0 hl0
  refine cJ Try.func80 ?_
  have hO := aL.pI hl0
  clear hl0
  obtain ⟨N0, hN0⟩ : ∃ n, n = List.length aA := ⟨_, rfl⟩
  have hN : List.length aA = N0 := hN0.symm
  unfold dV at h0
  refine dB (fun T H => ∃ aA : List aB, Has T [(0, (.msl 3 lo0p 0 (List.length aA))), (1, (eI a1)), (2, (eI m2)), (3, (eI b3)), (4, (.fn (.func cmp4_f) cmp4_a cmp4_c))] ∧ aL ⟨H0, [lo0p], []⟩ H [(lo0p, 3, List.map aC aA)] ∧ List.length aA = N0 ∧ kW cmp4 rec aA a1 m2 b3 = some r) ?_ ?_
  · clear hO hN h0
    rintro T H ⟨aA, hT, hO, hN, h0⟩
    refine bD hT ?_
    clear hT
    unfold kW at h0
    refine dB (fun T H => ∃ aA : List aB, Has T [(0, (.msl 3 lo0p 0 (List.length aA))), (1, (eI a1)), (2, (eI m2)), (3, (eI b3)), (4, (.fn (.func cmp4_f) cmp4_a cmp4_c))] ∧ aL ⟨H0, [lo0p], []⟩ H [(lo0p, 3, List.map aC aA)] ∧ List.length aA = N0 ∧ lC cmp4 rec aA a1 m2 b3 = some r) ?_ ?_
    · clear hO hN h0
      rintro T H ⟨aA, hT, hO, hN, h0⟩
      refine bD hT ?_
      clear hT
      unfold lC at h0
      refine aP ?_
      refine aU aF 7 ?_
      obtain ⟨c1, h0⟩ := bJ h0
      refine sH [0 ≤ (1 : Int)] ⟨c1, trivial⟩ ?_
      refine bS [] [(18, (eI (wR (Int.fdiv (IntKind.u64.wrap (wR (a1 + b3))) (2 ^ (min (Int.toNat (1 : Int)) 64))))))] ?_
      refine aT aF 4 [] [(19, (eI (wR ((wR (Int.fdiv (IntKind.u64.wrap (wR (a1 + b3))) (2 ^ (min (Int.toNat (1 : Int)) 64)))) + m2))))] ?_
      refine aT aF 2 [] [] ?_
      refine dB (fun T H => ∃ aA : List aB, ∃ bR : Int, ∃ n19 : Int, ∃ aQ : Int, ∃ r21 : Int, Has T [(0, (.msl 3 lo0p 0 (List.length aA))), (1, (eI a1)), (2, (eI m2)), (3, (eI b3)), (4, (.fn (.func cmp4_f) cmp4_a cmp4_c)), (18, (eI bR)), (19, (eI n19)), (20, (eI aQ)), (21, (eI r21))] ∧ aL ⟨H0, [lo0p], []⟩ H [(lo0p, 3, List.map aC aA)] ∧ List.length aA = N0 ∧ gH cmp4 rec aA a1 m2 b3 bR n19 aQ r21 = some r) ?_ ?_
      · clear hO hN h0
        rintro T H ⟨aA, bR, n19, aQ, r21, hT, hO, hN, h0⟩
        refine bD hT ?_
        clear hT
        unfold gH at h0
        refine aT aF 3 [] [(22, (eI (wR (n19 - (1 : Int)))))] ?_
        refine dB (fun T H => ∃ aA : List aB, ∃ aQ : Int, Has T [(0, (.msl 3 lo0p 0 (List.length aA))), (1, (eI a1)), (2, (eI m2)), (3, (eI b3)), (4, (.fn (.func cmp4_f) cmp4_a cmp4_c)), (18, (eI bR)), (19, (eI n19)), (20, (eI aQ))] ∧ aL ⟨H0, [lo0p], []⟩ H [(lo0p, 3, List.map aC aA)] ∧ List.length aA = N0 ∧ gL cmp4 rec aA a1 m2 b3 bR n19 aQ = some r) ?_ ?_
        · clear hO hN h0
          rintro T H ⟨aA, aQ, hT, hO, hN, h0⟩
          refine bD hT ?_
          clear hT
          unfold gL at h0
          refine aT aF 4 [19] [(24, (eI (wR (n19 - aQ))))] ?_
          refine dB (fun T H => ∃ aA : List aB, ∃ dX : Int, Has T [(0, (.msl 3 lo0p 0 (List.length aA))), (1, (eI a1)), (3, (eI b3)), (4, (.fn (.func cmp4_f) cmp4_a cmp4_c)), (18, (eI bR)), (20, (eI aQ)), (24, (eI dX))] ∧ aL ⟨H0, [lo0p], []⟩ H [(lo0p, 3, List.map aC aA)] ∧ List.length aA = N0 ∧ gM cmp4 rec aA a1 b3 bR aQ dX = some r) ?_ ?_
          · clear hO hN h0
            rintro T H ⟨aA, dX, hT, hO, hN, h0⟩
            refine bD hT ?_
            clear hT
            unfold gM at h0
            refine dB (fun T H => ∃ aA : List aB, Has T [(0, (.msl 3 lo0p 0 (List.length aA))), (3, (eI b3)), (4, (.fn (.func cmp4_f) cmp4_a cmp4_c)), (18, (eI bR)), (24, (eI dX))] ∧ aL ⟨H0, [lo0p], []⟩ H [(lo0p, 3, List.map aC aA)] ∧ List.length aA = N0 ∧ gJ cmp4 rec aA b3 bR dX = some r) ?_ ?_
            · clear hO hN h0
              rintro T H ⟨aA, hT, hO, hN, h0⟩
              refine bD hT ?_
              clear hT
              unfold gJ at h0
              refine aT aF 8 [] [(213, (aK ((decide (bR < dX)) && (decide (dX < b3)))))] ?_
              refine bL h0 (fun h0 => ?_) (fun h0 => ?_)
              · refine aU aF 6 ?_
                refine bN 5 ?_
                obtain ⟨x3, hx4, h0⟩ := bB h0
                refine oQ [(lo0p, 3, List.map aC x3)] 0 (ih lo0p aA bR dX b3 _ hx4) hO ?_
                intro H hO hl5
                simp only [List.length_map] at hl5
                replace hN := hl5.trans hN
                refine cL ?_
                refine cT (l := [(0, (.msl 3 lo0p 0 (List.length x3)))]) ⟨[(0, (.msl 3 lo0p 0 (List.length aA)))], by kernel_rfl, rfl, ⟨aS.eq (by simp [hl5]), trivial⟩⟩ ?_
                obtain rfl := oI h0
                exact aI (qK (x := (.tup [])) (by kernel_rfl) (aS.refl _) ⟨rfl, hO.ext, hO.at 0 (by kernel_rfl), by simp only [List.length_map]; exact hN.trans hN0⟩)
              refine bP ?_
              obtain rfl := oI h0
              exact aI (qK (x := (.tup [])) (by kernel_rfl) (aS.refl _) ⟨rfl, hO.ext, hO.at 0 (by kernel_rfl), by first | rfl | (simp only [List.length_map]; exact hN.trans hN0)⟩)
            refine aT aF 8 [] [(199, (aK ((decide (a1 < aQ)) && (decide (aQ < bR)))))] ?_
            refine bL h0 (fun h0 => ?_) (fun h0 => ?_)
            · refine aU aF 6 ?_
              refine bN 5 ?_
              obtain ⟨x7, hx8, h0⟩ := bB h0
              refine oQ [(lo0p, 3, List.map aC x7)] 0 (ih lo0p aA a1 aQ bR _ hx8) hO ?_
              intro H hO hl9
              simp only [List.length_map] at hl9
              replace hN := hl9.trans hN
              refine cL ?_
              refine cT (l := [(0, (.msl 3 lo0p 0 (List.length x7))), (3, (eI b3)), (4, (.fn (.func cmp4_f) cmp4_a cmp4_c)), (18, (eI bR)), (24, (eI dX))]) ⟨[(0, (.msl 3 lo0p 0 (List.length aA))), (3, (eI b3)), (4, (.fn (.func cmp4_f) cmp4_a cmp4_c)), (18, (eI bR)), (24, (eI dX))], by kernel_rfl, rfl, ⟨aS.eq (by simp [hl9]), aS.refl _, aS.refl _, aS.refl _, aS.refl _, trivial⟩⟩ ?_
              exact aI (aG (⟨rfl, _, bA, hO, hN, h0⟩))
            refine bP ?_
            exact aI (aG (⟨rfl, _, bA, hO, hN, h0⟩))
          refine aT aF 8 [] [(185, (aK ((decide (aQ < m2)) && (decide (m2 < (wR (n19 - aQ)))))))] ?_
          refine bL h0 (fun h0 => ?_) (fun h0 => ?_)
          · refine aU aF 6 ?_
            refine bN 5 ?_
            obtain ⟨x11, hx12, h0⟩ := bB h0
            refine oQ [(lo0p, 3, List.map aC x11)] 0 (vK lo0p aA aQ m2 (wR (n19 - aQ)) cmp4_f cmp4_a cmp4_c cmp4 cmp4_h _ hx12) hO ?_
            intro H hO hl13
            simp only [List.length_map] at hl13
            replace hN := hl13.trans hN
            refine cL ?_
            refine cT (l := [(0, (.msl 3 lo0p 0 (List.length x11))), (1, (eI a1)), (3, (eI b3)), (4, (.fn (.func cmp4_f) cmp4_a cmp4_c)), (18, (eI bR)), (20, (eI aQ)), (24, (eI (wR (n19 - aQ))))]) ⟨[(0, (.msl 3 lo0p 0 (List.length aA))), (1, (eI a1)), (3, (eI b3)), (4, (.fn (.func cmp4_f) cmp4_a cmp4_c)), (18, (eI bR)), (20, (eI aQ)), (24, (eI (wR (n19 - aQ))))], by kernel_rfl, rfl, ⟨aS.eq (by simp [hl13]), aS.refl _, aS.refl _, aS.refl _, aS.refl _, aS.refl _, aS.refl _, trivial⟩⟩ ?_
            exact aI (aG (⟨rfl, _, _, bA, hO, hN, h0⟩))
          refine bP ?_
          exact aI (aG (⟨rfl, _, _, bA, hO, hN, h0⟩))
        refine bU 8 ?_
        refine dJ [(0, (.msl 3 lo0p 0 (List.length aA))), (1, (eI a1)), (2, (eI m2)), (3, (eI b3)), (4, (.fn (.func cmp4_f) cmp4_a cmp4_c)), (18, (eI bR)), (19, (eI n19)), (20, (eI aQ)), (21, (eI r21)), (22, (eI (wR (n19 - (1 : Int)))))] ?_
        refine cR (fun T H => ∃ aA : List aB, ∃ aQ : Int, ∃ r21 : Int, ∃ p22 : Int, Has T [(0, (.msl 3 lo0p 0 (List.length aA))), (1, (eI a1)), (2, (eI m2)), (3, (eI b3)), (4, (.fn (.func cmp4_f) cmp4_a cmp4_c)), (18, (eI bR)), (19, (eI n19)), (20, (eI aQ)), (21, (eI r21)), (22, (eI p22))] ∧ aL ⟨H0, [lo0p], []⟩ H [(lo0p, 3, List.map aC aA)] ∧ List.length aA = N0 ∧ lA cmp4 rec aA a1 m2 b3 bR n19 aQ r21 p22 = some r) ?_ ⟨aA, aQ, r21, wR (n19 - (1 : Int)), bA, hO, hN, h0⟩
        clear hO hN h0
        rintro T H ⟨aA, aQ, r21, p22, hT, hO, hN, h0⟩
        refine bD hT ?_
        clear hT
        unfold lA at h0
        obtain ⟨rr0, hl0, h0⟩ := bB h0
        refine eS (fun (s : List aB × Int × Int) T H => Has T [(0, (.msl 3 lo0p 0 (List.length s.1))), (1, (eI a1)), (2, (eI m2)), (3, (eI b3)), (4, (.fn (.func cmp4_f) cmp4_a cmp4_c)), (18, (eI bR)), (19, (eI n19)), (20, (eI s.2.1)), (21, (eI s.2.2)), (22, (eI p22))] ∧ aL ⟨H0, [lo0p], []⟩ H [(lo0p, 3, List.map aC s.1)] ∧ List.length s.1 = N0) hl0 ⟨bA, hO, hN⟩ ?_
        clear hO hN
        rintro k0 s out1 T H ⟨hT, hO, hN⟩ h1 ho0
        obtain ⟨aA, aQ, r21⟩ := s
        replace h1 : lK cmp4 rec a1 m2 b3 bR n19 p22 aA aQ r21 = some out1 := h1
        try dsimp only at hT
        refine bD hT ?_
        clear hT
        unfold lK at h1
        refine aP ?_
        refine aT aF 3 [] [(151, (aK (decide (aQ < r21))))] ?_
        refine bL h1 (fun h1 => ?_) (fun h1 => ?_)
        · refine bP ?_
          refine bK [(0, (.msl 3 lo0p 0 (List.length aA))), (1, (eI a1)), (2, (eI m2)), (3, (eI b3)), (4, (.fn (.func cmp4_f) cmp4_a cmp4_c)), (18, (eI bR)), (19, (eI n19)), (20, (eI aQ)), (21, (eI r21)), (22, (eI p22))] ?_
          refine bU 9 ?_
          refine aP ?_
          refine aU aF 7 ?_
          obtain ⟨c15, h1⟩ := bJ h1
          refine sH [0 ≤ (1 : Int)] ⟨c15, trivial⟩ ?_
          refine bS [] [(23, (eI (wR (Int.fdiv (IntKind.u64.wrap (wR (aQ + r21))) (2 ^ (min (Int.toNat (1 : Int)) 64))))))] ?_
          refine aP ?_
          refine kH (jW [169]) aF 14 ?_
          obtain ⟨c16, h1⟩ := bJ h1
          refine dA 6 [0 ≤ (wR (p22 - (wR (Int.fdiv (IntKind.u64.wrap (wR (aQ + r21))) (2 ^ (min (Int.toNat (1 : Int)) 64)))))) ∧ (wR (p22 - (wR (Int.fdiv (IntKind.u64.wrap (wR (aQ + r21))) (2 ^ (min (Int.toNat (1 : Int)) 64)))))) < (lN aA)] ⟨c16, trivial⟩ ?_
          refine kC 0 lo0p 3 (0 + Int.toNat (wR (p22 - (wR (Int.fdiv (IntKind.u64.wrap (wR (aQ + r21))) (2 ^ (min (Int.toNat (1 : Int)) 64))))))) (aC (gD aA (wR (p22 - (wR (Int.fdiv (IntKind.u64.wrap (wR (aQ + r21))) (2 ^ (min (Int.toNat (1 : Int)) 64)))))))) (aC (gD aA (wR (p22 - (wR (Int.fdiv (IntKind.u64.wrap (wR (aQ + r21))) (2 ^ (min (Int.toNat (1 : Int)) 64)))))))) (List.map aC aA) hO (cG c16) ?_
          obtain ⟨c17, h1⟩ := bJ h1
          refine dA 10 [0 ≤ (wR (Int.fdiv (IntKind.u64.wrap (wR (aQ + r21))) (2 ^ (min (Int.toNat (1 : Int)) 64)))) ∧ (wR (Int.fdiv (IntKind.u64.wrap (wR (aQ + r21))) (2 ^ (min (Int.toNat (1 : Int)) 64)))) < (lN aA)] ⟨c17, trivial⟩ ?_
          refine kC 0 lo0p 3 (0 + Int.toNat (wR (Int.fdiv (IntKind.u64.wrap (wR (aQ + r21))) (2 ^ (min (Int.toNat (1 : Int)) 64))))) (aC (gD aA (wR (Int.fdiv (IntKind.u64.wrap (wR (aQ + r21))) (2 ^ (min (Int.toNat (1 : Int)) 64)))))) (aC (gD aA (wR (Int.fdiv (IntKind.u64.wrap (wR (aQ + r21))) (2 ^ (min (Int.toNat (1 : Int)) 64)))))) (List.map aC aA) hO (cG c17) ?_
          obtain ⟨x18, hx19, h1⟩ := bB h1
          refine zC (cmp4_h (gD aA (wR (p22 - (wR (Int.fdiv (IntKind.u64.wrap (wR (aQ + r21))) (2 ^ (min (Int.toNat (1 : Int)) 64))))))) (gD aA (wR (Int.fdiv (IntKind.u64.wrap (wR (aQ + r21))) (2 ^ (min (Int.toNat (1 : Int)) 64))))) _ hx19) hO ?_
          intro H hO
          refine oO ?_
          refine bS [] [(171, (aK (!(decide (x18 < (0 : Int))))))] ?_
          refine bL h1 (fun h1 => ?_) (fun h1 => ?_)
          · refine aU aF 3 ?_
            refine bE ?_
            exact aI (aZ (aG (⟨rfl, _, (oI h1).symm, bA, hO, hN⟩)))
          refine aU aF 2 ?_
          refine bE ?_
          exact aI (aZ (aG (⟨rfl, _, (oI h1).symm, bA, hO, hN⟩)))
        refine eR 8 ?_
        obtain rfl := oI h1
        obtain rfl : _ = rr0 := ho0
        replace h0 : gL cmp4 rec aA a1 m2 b3 bR n19 aQ = some r := h0
        exact aI (aX (aX (bT (aG (⟨rfl, _, _, bA, hO, hN, h0⟩)))))
      refine aT aF 3 [] [(140, (aK (decide ((wR (Int.fdiv (IntKind.u64.wrap (wR (a1 + b3))) (2 ^ (min (Int.toNat (1 : Int)) 64)))) < m2))))] ?_
      refine bL h0 (fun h0 => ?_) (fun h0 => ?_)
      · refine bX aF 4 [(0, (.msl 3 lo0p 0 (List.length aA))), (1, (eI a1)), (2, (eI m2)), (3, (eI b3)), (4, (.fn (.func cmp4_f) cmp4_a cmp4_c)), (18, (eI (wR (Int.fdiv (IntKind.u64.wrap (wR (a1 + b3))) (2 ^ (min (Int.toNat (1 : Int)) 64)))))), (19, (eI (wR ((wR (Int.fdiv (IntKind.u64.wrap (wR (a1 + b3))) (2 ^ (min (Int.toNat (1 : Int)) 64)))) + m2)))), (20, (eI (wR ((wR ((wR (Int.fdiv (IntKind.u64.wrap (wR (a1 + b3))) (2 ^ (min (Int.toNat (1 : Int)) 64)))) + m2)) - b3))))] ?_
        refine aU aF 2 ?_
        refine bE ?_
        exact aI (aG (⟨rfl, _, _, _, _, _, bA, hO, hN, h0⟩))
      refine bX aF 2 [(0, (.msl 3 lo0p 0 (List.length aA))), (1, (eI a1)), (2, (eI m2)), (3, (eI b3)), (4, (.fn (.func cmp4_f) cmp4_a cmp4_c)), (18, (eI (wR (Int.fdiv (IntKind.u64.wrap (wR (a1 + b3))) (2 ^ (min (Int.toNat (1 : Int)) 64)))))), (19, (eI (wR ((wR (Int.fdiv (IntKind.u64.wrap (wR (a1 + b3))) (2 ^ (min (Int.toNat (1 : Int)) 64)))) + m2)))), (20, (eI a1))] ?_
      refine aU aF 2 ?_
      refine bE ?_
      exact aI (aG (⟨rfl, _, _, _, _, _, bA, hO, hN, h0⟩))
    refine aT aF 4 [] [(80, (aK (decide ((wR (b3 - m2)) = (1 : Int)))))] ?_
    refine bL h0 (fun h0 => ?_) (fun h0 => ?_)
    · refine aT aF 2 [1, 3, 80] [(14, (eI a1))] ?_
      refine aT aF 2 [] [(15, (eI m2))] ?_
      refine dB (fun T H => ∃ aA : List aB, ∃ i14 : Int, Has T [(0, (.msl 3 lo0p 0 (List.length aA))), (2, (eI m2)), (14, (eI i14))] ∧ aL ⟨H0, [lo0p], []⟩ H [(lo0p, 3, List.map aC aA)] ∧ List.length aA = N0 ∧ gW cmp4 rec aA m2 i14 = some r) ?_ ?_
      · clear hO hN h0
        rintro T H ⟨aA, i14, hT, hO, hN, h0⟩
        refine bD hT ?_
        clear hT
        unfold gW at h0
        refine dB (fun T H => ∃ aA : List aB, Has T [(0, (.msl 3 lo0p 0 (List.length aA)))] ∧ aL ⟨H0, [lo0p], []⟩ H [(lo0p, 3, List.map aC aA)] ∧ List.length aA = N0 ∧ gP cmp4 rec aA = some r) ?_ ?_
        · clear hO hN h0
          rintro T H ⟨aA, hT, hO, hN, h0⟩
          refine bD hT ?_
          clear hT
          unfold gP at h0
          refine bM ?_
          obtain rfl := oI h0
          exact aI (aW (nB (x := (.tup [])) (by kernel_rfl) (aS.refl _) ⟨rfl, hO.ext, hO.at 0 (by kernel_rfl), by first | rfl | (simp only [List.length_map]; exact hN.trans hN0)⟩))
        refine aT aF 2 [2] [(17, (eI m2))] ?_
        refine bU 6 ?_
        refine dJ [(0, (.msl 3 lo0p 0 (List.length aA))), (14, (eI i14)), (17, (eI m2))] ?_
        refine cR (fun T H => ∃ aA : List aB, ∃ k17 : Int, Has T [(0, (.msl 3 lo0p 0 (List.length aA))), (14, (eI i14)), (17, (eI k17))] ∧ aL ⟨H0, [lo0p], []⟩ H [(lo0p, 3, List.map aC aA)] ∧ List.length aA = N0 ∧ kA cmp4 rec aA i14 k17 = some r) ?_ ⟨aA, m2, bA, hO, hN, h0⟩
        clear hO hN h0
        rintro T H ⟨aA, k17, hT, hO, hN, h0⟩
        refine bD hT ?_
        clear hT
        unfold kA at h0
        obtain ⟨rr0, hl0, h0⟩ := bB h0
        refine eS (fun (s : List aB × Int) T H => Has T [(0, (.msl 3 lo0p 0 (List.length s.1))), (14, (eI i14)), (17, (eI s.2))] ∧ aL ⟨H0, [lo0p], []⟩ H [(lo0p, 3, List.map aC s.1)] ∧ List.length s.1 = N0) hl0 ⟨bA, hO, hN⟩ ?_
        clear hO hN
        rintro k0 s out1 T H ⟨hT, hO, hN⟩ h1 ho0
        obtain ⟨aA, k17⟩ := s
        replace h1 : kO cmp4 rec i14 aA k17 = some out1 := h1
        try dsimp only at hT
        refine bD hT ?_
        clear hT
        unfold kO at h1
        refine aP ?_
        refine aT aF 3 [] [(110, (aK (decide (i14 < k17))))] ?_
        refine bL h1 (fun h1 => ?_) (fun h1 => ?_)
        · refine bP ?_
          refine bK [(0, (.msl 3 lo0p 0 (List.length aA))), (14, (eI i14)), (17, (eI k17))] ?_
          refine aP ?_
          refine bU 7 ?_
          refine kH (jW []) aF 18 ?_
          obtain ⟨c25, h1⟩ := bJ h1
          refine dA 9 [0 ≤ (wR (k17 - (1 : Int))) ∧ (wR (k17 - (1 : Int))) < (lN aA)] ⟨c25, trivial⟩ ?_
          refine kC 0 lo0p 3 (0 + Int.toNat (wR (k17 - (1 : Int)))) (aC (gD aA (wR (k17 - (1 : Int))))) (aC (gD aA (wR (k17 - (1 : Int))))) (List.map aC aA) hO (cG c25) ?_
          obtain ⟨c26, h1⟩ := bJ h1
          refine dA 13 [0 ≤ k17 ∧ k17 < (lN aA)] ⟨c26, trivial⟩ ?_
          refine kC 0 lo0p 3 (0 + Int.toNat k17) (aC (gD aA k17)) (aC (gD aA k17)) (List.map aC aA) hO (cG c26) ?_
          obtain ⟨c27, h1⟩ := bJ h1
          refine dA 15 [0 ≤ k17 ∧ k17 < (lN aA)] ⟨c27, trivial⟩ ?_
          refine sE 0 lo0p 3 (0 + Int.toNat k17) (aC (gD aA k17)) (aC (gD aA (wR (k17 - (1 : Int))))) (List.map aC aA) [(lo0p, 3, List.map aC (List.set aA (Int.toNat k17) (gD aA (wR (k17 - (1 : Int))))))] hO (cG c27) (by simp only [List.set, mO]) ?_
          intro H hO
          replace hN : List.length (List.set aA (Int.toNat k17) (gD aA (wR (k17 - (1 : Int))))) = N0 := by simpa using hN
          obtain ⟨c28, h1⟩ := bJ h1
          refine dA 17 [0 ≤ (wR (k17 - (1 : Int))) ∧ (wR (k17 - (1 : Int))) < (lN aA)] ⟨c28, trivial⟩ ?_
          refine sE 0 lo0p 3 (0 + Int.toNat (wR (k17 - (1 : Int)))) (aC (gD (List.set aA (Int.toNat k17) (gD aA (wR (k17 - (1 : Int))))) (wR (k17 - (1 : Int))))) (aC (gD aA k17)) (List.map aC (List.set aA (Int.toNat k17) (gD aA (wR (k17 - (1 : Int)))))) [(lo0p, 3, List.map aC (List.set (List.set aA (Int.toNat k17) (gD aA (wR (k17 - (1 : Int))))) (Int.toNat (wR (k17 - (1 : Int)))) (gD aA k17)))] hO (vG c28 (by simp [])) (by simp only [List.set, mO]) ?_
          intro H hO
          replace hN : List.length (List.set (List.set aA (Int.toNat k17) (gD aA (wR (k17 - (1 : Int))))) (Int.toNat (wR (k17 - (1 : Int)))) (gD aA k17)) = N0 := by simpa using hN
          refine xA (by kernel_rfl) ?_
          refine cT (l := [(0, (.msl 3 lo0p 0 (List.length (List.set (List.set aA (Int.toNat k17) (gD aA (wR (k17 - (1 : Int))))) (Int.toNat (wR (k17 - (1 : Int)))) (gD aA k17))))), (14, (eI i14)), (17, (eI k17))]) ⟨[(0, (.msl 3 lo0p 0 (List.length aA))), (14, (eI i14)), (17, (eI k17))], by kernel_rfl, rfl, ⟨aS.eq (by simp []), aS.refl _, aS.refl _, trivial⟩⟩ ?_
          refine aI (aZ (aG (?_)))
          refine aU aF 3 ?_
          refine bE ?_
          exact aI (aG (⟨rfl, _, (oI h1).symm, bA, hO, hN⟩))
        refine eR 6 ?_
        obtain rfl := oI h1
        obtain rfl : _ = rr0 := ho0
        replace h0 : gP cmp4 rec aA = some r := h0
        exact aI (aX (aX (bT (aG (⟨rfl, _, bA, hO, hN, h0⟩)))))
      refine bU 4 ?_
      refine dJ [(0, (.msl 3 lo0p 0 (List.length aA))), (2, (eI m2)), (4, (.fn (.func cmp4_f) cmp4_a cmp4_c)), (14, (eI a1)), (15, (eI m2))] ?_
      refine cR (fun T H => ∃ aA : List aB, ∃ i14 : Int, ∃ j15 : Int, Has T [(0, (.msl 3 lo0p 0 (List.length aA))), (2, (eI m2)), (4, (.fn (.func cmp4_f) cmp4_a cmp4_c)), (14, (eI i14)), (15, (eI j15))] ∧ aL ⟨H0, [lo0p], []⟩ H [(lo0p, 3, List.map aC aA)] ∧ List.length aA = N0 ∧ kN cmp4 rec aA m2 i14 j15 = some r) ?_ ⟨aA, a1, m2, bA, hO, hN, h0⟩
      clear hO hN h0
      rintro T H ⟨aA, i14, j15, hT, hO, hN, h0⟩
      refine bD hT ?_
      clear hT
      unfold kN at h0
      obtain ⟨rr0, hl0, h0⟩ := bB h0
      refine eS (fun (s : List aB × Int × Int) T H => Has T [(0, (.msl 3 lo0p 0 (List.length s.1))), (2, (eI m2)), (4, (.fn (.func cmp4_f) cmp4_a cmp4_c)), (14, (eI s.2.1)), (15, (eI s.2.2))] ∧ aL ⟨H0, [lo0p], []⟩ H [(lo0p, 3, List.map aC s.1)] ∧ List.length s.1 = N0) hl0 ⟨bA, hO, hN⟩ ?_
      clear hO hN
      rintro k0 s out1 T H ⟨hT, hO, hN⟩ h1 ho0
      obtain ⟨aA, i14, j15⟩ := s
      replace h1 : jZ cmp4 rec m2 aA i14 j15 = some out1 := h1
      try dsimp only at hT
      refine bD hT ?_
      clear hT
      unfold jZ at h1
      refine aP ?_
      refine aT aF 3 [] [(85, (aK (decide (i14 < j15))))] ?_
      refine bL h1 (fun h1 => ?_) (fun h1 => ?_)
      · refine bP ?_
        refine bK [(0, (.msl 3 lo0p 0 (List.length aA))), (2, (eI m2)), (4, (.fn (.func cmp4_f) cmp4_a cmp4_c)), (14, (eI i14)), (15, (eI j15))] ?_
        refine bU 5 ?_
        refine aP ?_
        refine aU aF 7 ?_
        obtain ⟨c30, h1⟩ := bJ h1
        refine sH [0 ≤ (1 : Int)] ⟨c30, trivial⟩ ?_
        refine bS [] [(16, (eI (wR (Int.fdiv (IntKind.u64.wrap (wR (i14 + j15))) (2 ^ (min (Int.toNat (1 : Int)) 64))))))] ?_
        refine aP ?_
        refine kH (jW [101]) aF 12 ?_
        obtain ⟨c31, h1⟩ := bJ h1
        refine dA 4 [0 ≤ m2 ∧ m2 < (lN aA)] ⟨c31, trivial⟩ ?_
        refine kC 0 lo0p 3 (0 + Int.toNat m2) (aC (gD aA m2)) (aC (gD aA m2)) (List.map aC aA) hO (cG c31) ?_
        obtain ⟨c32, h1⟩ := bJ h1
        refine dA 8 [0 ≤ (wR (Int.fdiv (IntKind.u64.wrap (wR (i14 + j15))) (2 ^ (min (Int.toNat (1 : Int)) 64)))) ∧ (wR (Int.fdiv (IntKind.u64.wrap (wR (i14 + j15))) (2 ^ (min (Int.toNat (1 : Int)) 64)))) < (lN aA)] ⟨c32, trivial⟩ ?_
        refine kC 0 lo0p 3 (0 + Int.toNat (wR (Int.fdiv (IntKind.u64.wrap (wR (i14 + j15))) (2 ^ (min (Int.toNat (1 : Int)) 64))))) (aC (gD aA (wR (Int.fdiv (IntKind.u64.wrap (wR (i14 + j15))) (2 ^ (min (Int.toNat (1 : Int)) 64)))))) (aC (gD aA (wR (Int.fdiv (IntKind.u64.wrap (wR (i14 + j15))) (2 ^ (min (Int.toNat (1 : Int)) 64)))))) (List.map aC aA) hO (cG c32) ?_
        obtain ⟨x33, hx34, h1⟩ := bB h1
        refine zC (cmp4_h (gD aA m2) (gD aA (wR (Int.fdiv (IntKind.u64.wrap (wR (i14 + j15))) (2 ^ (min (Int.toNat (1 : Int)) 64))))) _ hx34) hO ?_
        intro H hO
        refine oO ?_
        refine bS [] [(103, (aK (!(decide (x33 < (0 : Int))))))] ?_
        refine bL h1 (fun h1 => ?_) (fun h1 => ?_)
        · refine aU aF 3 ?_
          refine bE ?_
          exact aI (aZ (aG (⟨rfl, _, (oI h1).symm, bA, hO, hN⟩)))
        refine aU aF 2 ?_
        refine bE ?_
        exact aI (aZ (aG (⟨rfl, _, (oI h1).symm, bA, hO, hN⟩)))
      refine eR 4 ?_
      obtain rfl := oI h1
      obtain rfl : _ = rr0 := ho0
      replace h0 : gW cmp4 rec aA m2 i14 = some r := h0
      exact aI (aX (aX (bT (aG (⟨rfl, _, _, bA, hO, hN, h0⟩)))))
    refine bP ?_
    exact aI (aG (⟨rfl, _, bA, hO, hN, h0⟩))
  refine aT aF 4 [] [(28, (aK (decide ((wR (m2 - a1)) = (1 : Int)))))] ?_
  refine bL h0 (fun h0 => ?_) (fun h0 => ?_)
  · refine aT aF 2 [2, 28] [(10, (eI m2))] ?_
    refine aT aF 2 [3] [(11, (eI b3))] ?_
    refine dB (fun T H => ∃ aA : List aB, ∃ i10 : Int, Has T [(0, (.msl 3 lo0p 0 (List.length aA))), (1, (eI a1)), (10, (eI i10))] ∧ aL ⟨H0, [lo0p], []⟩ H [(lo0p, 3, List.map aC aA)] ∧ List.length aA = N0 ∧ fW cmp4 rec aA a1 i10 = some r) ?_ ?_
    · clear hO hN h0
      rintro T H ⟨aA, i10, hT, hO, hN, h0⟩
      refine bD hT ?_
      clear hT
      unfold fW at h0
      refine dB (fun T H => ∃ aA : List aB, Has T [(0, (.msl 3 lo0p 0 (List.length aA)))] ∧ aL ⟨H0, [lo0p], []⟩ H [(lo0p, 3, List.map aC aA)] ∧ List.length aA = N0 ∧ gC cmp4 rec aA = some r) ?_ ?_
      · clear hO hN h0
        rintro T H ⟨aA, hT, hO, hN, h0⟩
        refine bD hT ?_
        clear hT
        unfold gC at h0
        refine bM ?_
        obtain rfl := oI h0
        exact aI (aW (nB (x := (.tup [])) (by kernel_rfl) (aS.refl _) ⟨rfl, hO.ext, hO.at 0 (by kernel_rfl), by first | rfl | (simp only [List.length_map]; exact hN.trans hN0)⟩))
      refine aT aF 2 [1] [(13, (eI a1))] ?_
      refine bU 2 ?_
      refine dJ [(0, (.msl 3 lo0p 0 (List.length aA))), (10, (eI i10)), (13, (eI a1))] ?_
      refine cR (fun T H => ∃ aA : List aB, ∃ k13 : Int, Has T [(0, (.msl 3 lo0p 0 (List.length aA))), (10, (eI i10)), (13, (eI k13))] ∧ aL ⟨H0, [lo0p], []⟩ H [(lo0p, 3, List.map aC aA)] ∧ List.length aA = N0 ∧ kS cmp4 rec aA i10 k13 = some r) ?_ ⟨aA, a1, bA, hO, hN, h0⟩
      clear hO hN h0
      rintro T H ⟨aA, k13, hT, hO, hN, h0⟩
      refine bD hT ?_
      clear hT
      unfold kS at h0
      obtain ⟨rr0, hl0, h0⟩ := bB h0
      refine eS (fun (s : List aB × Int) T H => Has T [(0, (.msl 3 lo0p 0 (List.length s.1))), (10, (eI i10)), (13, (eI s.2))] ∧ aL ⟨H0, [lo0p], []⟩ H [(lo0p, 3, List.map aC s.1)] ∧ List.length s.1 = N0) hl0 ⟨bA, hO, hN⟩ ?_
      clear hO hN
      rintro k0 s out1 T H ⟨hT, hO, hN⟩ h1 ho0
      obtain ⟨aA, k13⟩ := s
      replace h1 : kV cmp4 rec i10 aA k13 = some out1 := h1
      try dsimp only at hT
      refine bD hT ?_
      clear hT
      unfold kV at h1
      refine aP ?_
      refine aT aF 4 [] [(58, (aK (decide (k13 < (wR (i10 - (1 : Int)))))))] ?_
      refine bL h1 (fun h1 => ?_) (fun h1 => ?_)
      · refine bP ?_
        refine bK [(0, (.msl 3 lo0p 0 (List.length aA))), (10, (eI i10)), (13, (eI k13))] ?_
        refine aP ?_
        refine bU 3 ?_
        refine kH (jW []) aF 18 ?_
        obtain ⟨c39, h1⟩ := bJ h1
        refine dA 9 [0 ≤ (wR (k13 + (1 : Int))) ∧ (wR (k13 + (1 : Int))) < (lN aA)] ⟨c39, trivial⟩ ?_
        refine kC 0 lo0p 3 (0 + Int.toNat (wR (k13 + (1 : Int)))) (aC (gD aA (wR (k13 + (1 : Int))))) (aC (gD aA (wR (k13 + (1 : Int))))) (List.map aC aA) hO (cG c39) ?_
        obtain ⟨c40, h1⟩ := bJ h1
        refine dA 13 [0 ≤ k13 ∧ k13 < (lN aA)] ⟨c40, trivial⟩ ?_
        refine kC 0 lo0p 3 (0 + Int.toNat k13) (aC (gD aA k13)) (aC (gD aA k13)) (List.map aC aA) hO (cG c40) ?_
        obtain ⟨c41, h1⟩ := bJ h1
        refine dA 15 [0 ≤ k13 ∧ k13 < (lN aA)] ⟨c41, trivial⟩ ?_
        refine sE 0 lo0p 3 (0 + Int.toNat k13) (aC (gD aA k13)) (aC (gD aA (wR (k13 + (1 : Int))))) (List.map aC aA) [(lo0p, 3, List.map aC (List.set aA (Int.toNat k13) (gD aA (wR (k13 + (1 : Int))))))] hO (cG c41) (by simp only [List.set, mO]) ?_
        intro H hO
        replace hN : List.length (List.set aA (Int.toNat k13) (gD aA (wR (k13 + (1 : Int))))) = N0 := by simpa using hN
        obtain ⟨c42, h1⟩ := bJ h1
        refine dA 17 [0 ≤ (wR (k13 + (1 : Int))) ∧ (wR (k13 + (1 : Int))) < (lN aA)] ⟨c42, trivial⟩ ?_
        refine sE 0 lo0p 3 (0 + Int.toNat (wR (k13 + (1 : Int)))) (aC (gD (List.set aA (Int.toNat k13) (gD aA (wR (k13 + (1 : Int))))) (wR (k13 + (1 : Int))))) (aC (gD aA k13)) (List.map aC (List.set aA (Int.toNat k13) (gD aA (wR (k13 + (1 : Int)))))) [(lo0p, 3, List.map aC (List.set (List.set aA (Int.toNat k13) (gD aA (wR (k13 + (1 : Int))))) (Int.toNat (wR (k13 + (1 : Int)))) (gD aA k13)))] hO (vG c42 (by simp [])) (by simp only [List.set, mO]) ?_
        intro H hO
        replace hN : List.length (List.set (List.set aA (Int.toNat k13) (gD aA (wR (k13 + (1 : Int))))) (Int.toNat (wR (k13 + (1 : Int)))) (gD aA k13)) = N0 := by simpa using hN
        refine xA (by kernel_rfl) ?_
        refine cT (l := [(0, (.msl 3 lo0p 0 (List.length (List.set (List.set aA (Int.toNat k13) (gD aA (wR (k13 + (1 : Int))))) (Int.toNat (wR (k13 + (1 : Int)))) (gD aA k13))))), (10, (eI i10)), (13, (eI k13))]) ⟨[(0, (.msl 3 lo0p 0 (List.length aA))), (10, (eI i10)), (13, (eI k13))], by kernel_rfl, rfl, ⟨aS.eq (by simp []), aS.refl _, aS.refl _, trivial⟩⟩ ?_
        refine aI (aZ (aG (?_)))
        refine aU aF 3 ?_
        refine bE ?_
        exact aI (aG (⟨rfl, _, (oI h1).symm, bA, hO, hN⟩))
      refine eR 2 ?_
      obtain rfl := oI h1
      obtain rfl : _ = rr0 := ho0
      replace h0 : gC cmp4 rec aA = some r := h0
      exact aI (aX (aX (bT (aG (⟨rfl, _, bA, hO, hN, h0⟩)))))
    refine bU 0 ?_
    refine dJ [(0, (.msl 3 lo0p 0 (List.length aA))), (1, (eI a1)), (4, (.fn (.func cmp4_f) cmp4_a cmp4_c)), (10, (eI m2)), (11, (eI b3))] ?_
    refine cR (fun T H => ∃ aA : List aB, ∃ i10 : Int, ∃ j11 : Int, Has T [(0, (.msl 3 lo0p 0 (List.length aA))), (1, (eI a1)), (4, (.fn (.func cmp4_f) cmp4_a cmp4_c)), (10, (eI i10)), (11, (eI j11))] ∧ aL ⟨H0, [lo0p], []⟩ H [(lo0p, 3, List.map aC aA)] ∧ List.length aA = N0 ∧ kL cmp4 rec aA a1 i10 j11 = some r) ?_ ⟨aA, m2, b3, bA, hO, hN, h0⟩
    clear hO hN h0
    rintro T H ⟨aA, i10, j11, hT, hO, hN, h0⟩
    refine bD hT ?_
    clear hT
    unfold kL at h0
    obtain ⟨rr0, hl0, h0⟩ := bB h0
    refine eS (fun (s : List aB × Int × Int) T H => Has T [(0, (.msl 3 lo0p 0 (List.length s.1))), (1, (eI a1)), (4, (.fn (.func cmp4_f) cmp4_a cmp4_c)), (10, (eI s.2.1)), (11, (eI s.2.2))] ∧ aL ⟨H0, [lo0p], []⟩ H [(lo0p, 3, List.map aC s.1)] ∧ List.length s.1 = N0) hl0 ⟨bA, hO, hN⟩ ?_
    clear hO hN
    rintro k0 s out1 T H ⟨hT, hO, hN⟩ h1 ho0
    obtain ⟨aA, i10, j11⟩ := s
    replace h1 : kJ cmp4 rec a1 aA i10 j11 = some out1 := h1
    try dsimp only at hT
    refine bD hT ?_
    clear hT
    unfold kJ at h1
    refine aP ?_
    refine aT aF 3 [] [(33, (aK (decide (i10 < j11))))] ?_
    refine bL h1 (fun h1 => ?_) (fun h1 => ?_)
    · refine bP ?_
      refine bK [(0, (.msl 3 lo0p 0 (List.length aA))), (1, (eI a1)), (4, (.fn (.func cmp4_f) cmp4_a cmp4_c)), (10, (eI i10)), (11, (eI j11))] ?_
      refine bU 1 ?_
      refine aP ?_
      refine aU aF 7 ?_
      obtain ⟨c44, h1⟩ := bJ h1
      refine sH [0 ≤ (1 : Int)] ⟨c44, trivial⟩ ?_
      refine bS [] [(12, (eI (wR (Int.fdiv (IntKind.u64.wrap (wR (i10 + j11))) (2 ^ (min (Int.toNat (1 : Int)) 64))))))] ?_
      refine aP ?_
      refine kH (jW [49]) aF 11 ?_
      obtain ⟨c45, h1⟩ := bJ h1
      refine dA 4 [0 ≤ (wR (Int.fdiv (IntKind.u64.wrap (wR (i10 + j11))) (2 ^ (min (Int.toNat (1 : Int)) 64)))) ∧ (wR (Int.fdiv (IntKind.u64.wrap (wR (i10 + j11))) (2 ^ (min (Int.toNat (1 : Int)) 64)))) < (lN aA)] ⟨c45, trivial⟩ ?_
      refine kC 0 lo0p 3 (0 + Int.toNat (wR (Int.fdiv (IntKind.u64.wrap (wR (i10 + j11))) (2 ^ (min (Int.toNat (1 : Int)) 64))))) (aC (gD aA (wR (Int.fdiv (IntKind.u64.wrap (wR (i10 + j11))) (2 ^ (min (Int.toNat (1 : Int)) 64)))))) (aC (gD aA (wR (Int.fdiv (IntKind.u64.wrap (wR (i10 + j11))) (2 ^ (min (Int.toNat (1 : Int)) 64)))))) (List.map aC aA) hO (cG c45) ?_
      obtain ⟨c46, h1⟩ := bJ h1
      refine dA 8 [0 ≤ a1 ∧ a1 < (lN aA)] ⟨c46, trivial⟩ ?_
      refine kC 0 lo0p 3 (0 + Int.toNat a1) (aC (gD aA a1)) (aC (gD aA a1)) (List.map aC aA) hO (cG c46) ?_
      obtain ⟨x47, hx48, h1⟩ := bB h1
      refine zC (cmp4_h (gD aA (wR (Int.fdiv (IntKind.u64.wrap (wR (i10 + j11))) (2 ^ (min (Int.toNat (1 : Int)) 64))))) (gD aA a1) _ hx48) hO ?_
      intro H hO
      refine oO ?_
      refine bS [] [(50, (aK (decide (x47 < (0 : Int)))))] ?_
      refine bL h1 (fun h1 => ?_) (fun h1 => ?_)
      · refine aU aF 3 ?_
        refine bE ?_
        exact aI (aZ (aG (⟨rfl, _, (oI h1).symm, bA, hO, hN⟩)))
      refine aU aF 2 ?_
      refine bE ?_
      exact aI (aZ (aG (⟨rfl, _, (oI h1).symm, bA, hO, hN⟩)))
    refine eR 0 ?_
    obtain rfl := oI h1
    obtain rfl : _ = rr0 := ho0
    replace h0 : fW cmp4 rec aA a1 i10 = some r := h0
    exact aI (aX (aX (bT (aG (⟨rfl, _, _, bA, hO, hN, h0⟩)))))
  refine bP ?_
  exact aI (aG (⟨rfl, _, bA, hO, hN, h0⟩))

theorem nV (cmp4_f : Nat) (cmp4_a cmp4_c : List V) (cmp4 : aB → aB → Option Int) (cmp4_h : ∀ a0 a1 r, cmp4 a0 a1 = some r → cF Try.prog cmp4_f (cmp4_a ++ [(aC a0), (aC a1)] ++ cmp4_c) (eI r)) : ∀ (k : Nat) (lo0p : Nat) (aA : (List aB)) (a1 : Int) (m2 : Int) (b3 : Int) (r : List aB), gV cmp4 k aA a1 m2 b3 = some r → mF Try.prog 80 lo0p 3 (List.map aC aA) (List.map aC r) [(.msl 3 lo0p 0 (List.length aA)), (eI a1), (eI m2), (eI b3), (.fn (.func cmp4_f) cmp4_a cmp4_c)] (.tup [])
  | 0, _, _, _, _, _, _, h => by cases h
  | k + 1, lo0p, aA, a1, m2, b3, r, h => sK cmp4_f cmp4_a cmp4_c cmp4 cmp4_h _ (nV cmp4_f cmp4_a cmp4_c cmp4 cmp4_h k) lo0p aA a1 m2 b3 r h

theorem oW (lo0p : Nat) (aA : (List aB)) (a1 : Int) (m2 : Int) (b3 : Int) (cmp4_f : Nat) (cmp4_a cmp4_c : List V) (cmp4 : aB → aB → Option Int) (cmp4_h : ∀ a0 a1 r, cmp4 a0 a1 = some r → cF Try.prog cmp4_f (cmp4_a ++ [(aC a0), (aC a1)] ++ cmp4_c) (eI r)) (r : List aB) (h0 : eO aA a1 m2 b3 cmp4 = some r) : mF Try.prog 80 lo0p 3 (List.map aC aA) (List.map aC r) [(.msl 3 lo0p 0 (List.length aA)), (eI a1), (eI m2), (eI b3), (.fn (.func cmp4_f) cmp4_a cmp4_c)] (.tup []) := by
  obtain ⟨k, hk⟩ := EO h0
  exact nV cmp4_f cmp4_a cmp4_c cmp4 cmp4_h k lo0p aA a1 m2 b3 r hk

theorem vM (lo0p : Nat) (aA : (List aB)) (n1 : Int) (cmp2_f : Nat) (cmp2_a cmp2_c : List V) (cmp2 : aB → aB → Option Int) (cmp2_h : ∀ a0 a1 r, cmp2 a0 a1 = some r → cF Try.prog cmp2_f (cmp2_a ++ [(aC a0), (aC a1)] ++ cmp2_c) (eI r)) (r : List aB) (h0 : fH aA n1 cmp2 = some r) : mF Try.prog 57 lo0p 3 (List.map aC aA) (List.map aC r) [(.msl 3 lo0p 0 (List.length aA)), (eI n1), (.fn (.func cmp2_f) cmp2_a cmp2_c)] (.tup []) := by
  intro H0 hl0
  refine cJ Try.func57 ?_
  have hO := aL.pI hl0
  clear hl0
  obtain ⟨N0, hN0⟩ : ∃ n, n = List.length aA := ⟨_, rfl⟩
  have hN : List.length aA = N0 := hN0.symm
  unfold fH at h0
  refine aT aF 1 [] [(6, (eI (20 : Int)))] ?_
  refine aT aF 3 [] [(7, (eI (0 : Int))), (8, (eI (20 : Int)))] ?_
  refine dB (fun T H => ∃ aA : List aB, ∃ aM : Int, ∃ a7 : Int, Has T [(0, (.msl 3 lo0p 0 (List.length aA))), (1, (eI n1)), (2, (.fn (.func cmp2_f) cmp2_a cmp2_c)), (6, (eI aM)), (7, (eI a7))] ∧ aL ⟨H0, [lo0p], []⟩ H [(lo0p, 3, List.map aC aA)] ∧ List.length aA = N0 ∧ fB cmp2 aA n1 aM a7 = some r) ?_ ?_
  · clear hO hN h0
    rintro T H ⟨aA, aM, a7, hT, hO, hN, h0⟩
    refine bD hT ?_
    clear hT
    unfold fB at h0
    refine aP ?_
    refine aU aF 5 ?_
    refine bN 4 ?_
    obtain ⟨x1, hx2, h0⟩ := bB h0
    refine oQ [(lo0p, 3, List.map aC x1)] 0 (nD lo0p aA a7 n1 cmp2_f cmp2_a cmp2_c cmp2 cmp2_h _ hx2) hO ?_
    intro H hO hl3
    simp only [List.length_map] at hl3
    replace hN := hl3.trans hN
    refine cL ?_
    refine cT (l := [(0, (.msl 3 lo0p 0 (List.length x1))), (1, (eI n1)), (2, (.fn (.func cmp2_f) cmp2_a cmp2_c)), (6, (eI aM))]) ⟨[(0, (.msl 3 lo0p 0 (List.length aA))), (1, (eI n1)), (2, (.fn (.func cmp2_f) cmp2_a cmp2_c)), (6, (eI aM))], by kernel_rfl, rfl, ⟨aS.eq (by simp [hl3]), aS.refl _, aS.refl _, aS.refl _, trivial⟩⟩ ?_
    refine aI (aG (?_))
    refine bU 2 ?_
    refine dJ [(0, (.msl 3 lo0p 0 (List.length x1))), (1, (eI n1)), (2, (.fn (.func cmp2_f) cmp2_a cmp2_c)), (6, (eI aM))] ?_
    refine cR (fun T H => ∃ aA : List aB, ∃ aM : Int, Has T [(0, (.msl 3 lo0p 0 (List.length aA))), (1, (eI n1)), (2, (.fn (.func cmp2_f) cmp2_a cmp2_c)), (6, (eI aM))] ∧ aL ⟨H0, [lo0p], []⟩ H [(lo0p, 3, List.map aC aA)] ∧ List.length aA = N0 ∧ iM cmp2 aA n1 aM = some r) ?_ ⟨x1, aM, bA, hO, hN, h0⟩
    clear hO hN h0
    rintro T H ⟨aA, aM, hT, hO, hN, h0⟩
    refine bD hT ?_
    clear hT
    unfold iM at h0
    obtain ⟨rr0, hl0, h0⟩ := bB h0
    refine eS (fun (s : List aB × Int) T H => Has T [(0, (.msl 3 lo0p 0 (List.length s.1))), (1, (eI n1)), (2, (.fn (.func cmp2_f) cmp2_a cmp2_c)), (6, (eI s.2))] ∧ aL ⟨H0, [lo0p], []⟩ H [(lo0p, 3, List.map aC s.1)] ∧ List.length s.1 = N0) hl0 ⟨bA, hO, hN⟩ ?_
    clear hO hN
    rintro k0 s out1 T H ⟨hT, hO, hN⟩ h1 ho0
    obtain ⟨aA, aM⟩ := s
    replace h1 : iU cmp2 n1 aA aM = some out1 := h1
    try dsimp only at hT
    refine bD hT ?_
    clear hT
    unfold iU at h1
    refine aP ?_
    refine aT aF 3 [] [(30, (aK (decide (aM < n1))))] ?_
    refine bL h1 (fun h1 => ?_) (fun h1 => ?_)
    · refine bP ?_
      refine bK [(0, (.msl 3 lo0p 0 (List.length aA))), (1, (eI n1)), (2, (.fn (.func cmp2_f) cmp2_a cmp2_c)), (6, (eI aM))] ?_
      refine bU 3 ?_
      refine aT aF 4 [] [(7, (eI (0 : Int))), (8, (eI (wR ((2 : Int) * aM))))] ?_
      refine dB (fun T H => ∃ aA : List aB, ∃ a7 : Int, Has T [(0, (.msl 3 lo0p 0 (List.length aA))), (1, (eI n1)), (2, (.fn (.func cmp2_f) cmp2_a cmp2_c)), (6, (eI aM)), (7, (eI a7))] ∧ aL ⟨H0, [lo0p], []⟩ H [(lo0p, 3, List.map aC aA)] ∧ List.length aA = N0 ∧ eY cmp2 aA n1 aM a7 = some out1) ?_ ?_
      · clear hO hN h1
        rintro T H ⟨aA, a7, hT, hO, hN, h1⟩
        refine bD hT ?_
        clear hT
        unfold eY at h1
        refine dB (fun T H => ∃ aA : List aB, Has T [(0, (.msl 3 lo0p 0 (List.length aA))), (1, (eI n1)), (2, (.fn (.func cmp2_f) cmp2_a cmp2_c)), (6, (eI aM))] ∧ aL ⟨H0, [lo0p], []⟩ H [(lo0p, 3, List.map aC aA)] ∧ List.length aA = N0 ∧ iG cmp2 aA n1 aM = some out1) ?_ ?_
        · clear hO hN h1
          rintro T H ⟨aA, hT, hO, hN, h1⟩
          refine bD hT ?_
          clear hT
          unfold iG at h1
          refine aU aF 3 ?_
          refine bE ?_
          exact aI (aZ (aG (⟨rfl, _, (oI h1).symm, bA, hO, hN⟩)))
        refine aT aF 4 [] [(9, (eI (wR (a7 + aM))))] ?_
        refine aT aF 3 [] [(54, (aK (decide ((wR (a7 + aM)) < n1))))] ?_
        refine bL h1 (fun h1 => ?_) (fun h1 => ?_)
        · refine aU aF 6 ?_
          refine bN 5 ?_
          obtain ⟨x6, hx7, h1⟩ := bB h1
          refine oQ [(lo0p, 3, List.map aC x6)] 0 (oW lo0p aA a7 (wR (a7 + aM)) n1 cmp2_f cmp2_a cmp2_c cmp2 cmp2_h _ hx7) hO ?_
          intro H hO hl8
          simp only [List.length_map] at hl8
          replace hN := hl8.trans hN
          refine cL ?_
          refine cT (l := [(0, (.msl 3 lo0p 0 (List.length x6))), (1, (eI n1)), (2, (.fn (.func cmp2_f) cmp2_a cmp2_c)), (6, (eI aM))]) ⟨[(0, (.msl 3 lo0p 0 (List.length aA))), (1, (eI n1)), (2, (.fn (.func cmp2_f) cmp2_a cmp2_c)), (6, (eI aM))], by kernel_rfl, rfl, ⟨aS.eq (by simp [hl8]), aS.refl _, aS.refl _, aS.refl _, trivial⟩⟩ ?_
          exact aI (aG (⟨rfl, _, bA, hO, hN, h1⟩))
        refine bP ?_
        exact aI (aG (⟨rfl, _, bA, hO, hN, h1⟩))
      refine bU 4 ?_
      refine dJ [(0, (.msl 3 lo0p 0 (List.length aA))), (1, (eI n1)), (2, (.fn (.func cmp2_f) cmp2_a cmp2_c)), (6, (eI aM)), (7, (eI (0 : Int))), (8, (eI (wR ((2 : Int) * aM))))] ?_
      refine cR (fun T H => ∃ aA : List aB, ∃ a7 : Int, ∃ b8 : Int, Has T [(0, (.msl 3 lo0p 0 (List.length aA))), (1, (eI n1)), (2, (.fn (.func cmp2_f) cmp2_a cmp2_c)), (6, (eI aM)), (7, (eI a7)), (8, (eI b8))] ∧ aL ⟨H0, [lo0p], []⟩ H [(lo0p, 3, List.map aC aA)] ∧ List.length aA = N0 ∧ iS cmp2 aA n1 aM a7 b8 = some out1) ?_ ⟨aA, (0 : Int), wR ((2 : Int) * aM), bA, hO, hN, h1⟩
      clear hO hN h1
      rintro T H ⟨aA, a7, b8, hT, hO, hN, h1⟩
      refine bD hT ?_
      clear hT
      unfold iS at h1
      obtain ⟨rr1, hl1, h1⟩ := bB h1
      refine eS (fun (s : List aB × Int × Int) T H => Has T [(0, (.msl 3 lo0p 0 (List.length s.1))), (1, (eI n1)), (2, (.fn (.func cmp2_f) cmp2_a cmp2_c)), (6, (eI aM)), (7, (eI s.2.1)), (8, (eI s.2.2))] ∧ aL ⟨H0, [lo0p], []⟩ H [(lo0p, 3, List.map aC s.1)] ∧ List.length s.1 = N0) hl1 ⟨bA, hO, hN⟩ ?_
      clear hO hN
      rintro k1 s out2 T H ⟨hT, hO, hN⟩ h2 ho1
      obtain ⟨aA, a7, b8⟩ := s
      replace h2 : iR cmp2 n1 aM aA a7 b8 = some out2 := h2
      try dsimp only at hT
      refine bD hT ?_
      clear hT
      unfold iR at h2
      refine aP ?_
      refine aT aF 3 [] [(35, (aK (decide (b8 ≤ n1))))] ?_
      refine bL h2 (fun h2 => ?_) (fun h2 => ?_)
      · refine bP ?_
        refine bK [(0, (.msl 3 lo0p 0 (List.length aA))), (1, (eI n1)), (2, (.fn (.func cmp2_f) cmp2_a cmp2_c)), (6, (eI aM)), (7, (eI a7)), (8, (eI b8))] ?_
        refine bU 5 ?_
        refine aP ?_
        refine aU aF 8 ?_
        refine bN 7 ?_
        obtain ⟨x10, hx11, h2⟩ := bB h2
        refine oQ [(lo0p, 3, List.map aC x10)] 0 (oW lo0p aA a7 (wR (a7 + aM)) b8 cmp2_f cmp2_a cmp2_c cmp2 cmp2_h _ hx11) hO ?_
        intro H hO hl12
        simp only [List.length_map] at hl12
        replace hN := hl12.trans hN
        refine cL ?_
        refine cT (l := [(0, (.msl 3 lo0p 0 (List.length x10))), (1, (eI n1)), (2, (.fn (.func cmp2_f) cmp2_a cmp2_c)), (6, (eI aM)), (8, (eI b8))]) ⟨[(0, (.msl 3 lo0p 0 (List.length aA))), (1, (eI n1)), (2, (.fn (.func cmp2_f) cmp2_a cmp2_c)), (6, (eI aM)), (8, (eI b8))], by kernel_rfl, rfl, ⟨aS.eq (by simp [hl12]), aS.refl _, aS.refl _, aS.refl _, aS.refl _, trivial⟩⟩ ?_
        refine aI (aG (?_))
        refine aT aF 2 [] [(7, (eI b8))] ?_
        refine aU aF 5 ?_
        refine bE ?_
        exact aI (aZ (aG (⟨rfl, _, (oI h2).symm, bA, hO, hN⟩)))
      refine eR 4 ?_
      obtain rfl := oI h2
      obtain rfl : _ = rr1 := ho1
      replace h1 : eY cmp2 aA n1 aM a7 = some out1 := h1
      exact aI (aX (aX (bT (aG (⟨rfl, _, _, bA, hO, hN, h1⟩)))))
    refine eR 2 ?_
    obtain rfl := oI h1
    obtain rfl : _ = rr0 := ho0
    replace h0 : some aA = some r := h0
    obtain rfl := oI h0
    exact aI (aX (aX (bT (qK (x := (.tup [])) (by kernel_rfl) (aS.refl _) ⟨rfl, hO.ext, hO.at 0 (by kernel_rfl), by first | rfl | (simp only [List.length_map]; exact hN.trans hN0)⟩))))
  refine bU 0 ?_
  refine dJ [(0, (.msl 3 lo0p 0 (List.length aA))), (1, (eI n1)), (2, (.fn (.func cmp2_f) cmp2_a cmp2_c)), (6, (eI (20 : Int))), (7, (eI (0 : Int))), (8, (eI (20 : Int)))] ?_
  refine cR (fun T H => ∃ aA : List aB, ∃ aM : Int, ∃ a7 : Int, ∃ b8 : Int, Has T [(0, (.msl 3 lo0p 0 (List.length aA))), (1, (eI n1)), (2, (.fn (.func cmp2_f) cmp2_a cmp2_c)), (6, (eI aM)), (7, (eI a7)), (8, (eI b8))] ∧ aL ⟨H0, [lo0p], []⟩ H [(lo0p, 3, List.map aC aA)] ∧ List.length aA = N0 ∧ iK cmp2 aA n1 aM a7 b8 = some r) ?_ ⟨aA, (20 : Int), (0 : Int), (20 : Int), bA, hO, hN, h0⟩
  clear hO hN h0
  rintro T H ⟨aA, aM, a7, b8, hT, hO, hN, h0⟩
  refine bD hT ?_
  clear hT
  unfold iK at h0
  obtain ⟨rr0, hl0, h0⟩ := bB h0
  refine eS (fun (s : List aB × Int × Int) T H => Has T [(0, (.msl 3 lo0p 0 (List.length s.1))), (1, (eI n1)), (2, (.fn (.func cmp2_f) cmp2_a cmp2_c)), (6, (eI aM)), (7, (eI s.2.1)), (8, (eI s.2.2))] ∧ aL ⟨H0, [lo0p], []⟩ H [(lo0p, 3, List.map aC s.1)] ∧ List.length s.1 = N0) hl0 ⟨bA, hO, hN⟩ ?_
  clear hO hN
  rintro k0 s out1 T H ⟨hT, hO, hN⟩ h1 ho0
  obtain ⟨aA, a7, b8⟩ := s
  replace h1 : iJ cmp2 n1 aM aA a7 b8 = some out1 := h1
  try dsimp only at hT
  refine bD hT ?_
  clear hT
  unfold iJ at h1
  refine aP ?_
  refine aT aF 3 [] [(13, (aK (decide (b8 ≤ n1))))] ?_
  refine bL h1 (fun h1 => ?_) (fun h1 => ?_)
  · refine bP ?_
    refine bK [(0, (.msl 3 lo0p 0 (List.length aA))), (1, (eI n1)), (2, (.fn (.func cmp2_f) cmp2_a cmp2_c)), (6, (eI aM)), (7, (eI a7)), (8, (eI b8))] ?_
    refine bU 1 ?_
    refine aP ?_
    refine aU aF 5 ?_
    refine bN 4 ?_
    obtain ⟨x14, hx15, h1⟩ := bB h1
    refine oQ [(lo0p, 3, List.map aC x14)] 0 (nD lo0p aA a7 b8 cmp2_f cmp2_a cmp2_c cmp2 cmp2_h _ hx15) hO ?_
    intro H hO hl16
    simp only [List.length_map] at hl16
    replace hN := hl16.trans hN
    refine cL ?_
    refine cT (l := [(0, (.msl 3 lo0p 0 (List.length x14))), (1, (eI n1)), (2, (.fn (.func cmp2_f) cmp2_a cmp2_c)), (6, (eI aM)), (8, (eI b8))]) ⟨[(0, (.msl 3 lo0p 0 (List.length aA))), (1, (eI n1)), (2, (.fn (.func cmp2_f) cmp2_a cmp2_c)), (6, (eI aM)), (8, (eI b8))], by kernel_rfl, rfl, ⟨aS.eq (by simp [hl16]), aS.refl _, aS.refl _, aS.refl _, aS.refl _, trivial⟩⟩ ?_
    refine aI (aG (?_))
    refine aT aF 2 [] [(7, (eI b8))] ?_
    refine aU aF 4 ?_
    refine bE ?_
    exact aI (aZ (aG (⟨rfl, _, (oI h1).symm, bA, hO, hN⟩)))
  refine eR 0 ?_
  obtain rfl := oI h1
  obtain rfl : _ = rr0 := ho0
  replace h0 : fB cmp2 aA n1 aM a7 = some r := h0
  exact aI (aX (aX (bT (aG (⟨rfl, _, _, _, bA, hO, hN, h0⟩)))))

theorem qV (lo0p : Nat) (x0 : (List aB)) (cmp1_f : Nat) (cmp1_a cmp1_c : List V) (cmp1 : aB → aB → Option Int) (cmp1_h : ∀ a0 a1 r, cmp1 a0 a1 = some r → cF Try.prog cmp1_f (cmp1_a ++ [(aC a0), (aC a1)] ++ cmp1_c) (eI r)) (r : List aB) (h0 : cV x0 cmp1 = some r) : mF Try.prog 35 lo0p 3 (List.map aC x0) (List.map aC r) [(.msl 3 lo0p 0 (List.length x0)), (.fn (.func cmp1_f) cmp1_a cmp1_c)] (.tup []) := by
  intro H0 hl0
  refine cJ Try.func35 ?_
  have hO := aL.pI hl0
  clear hl0
  obtain ⟨N0, hN0⟩ : ∃ n, n = List.length x0 := ⟨_, rfl⟩
  have hN : List.length x0 = N0 := hN0.symm
  unfold cV at h0
  refine aU aF 5 ?_
  refine bN 4 ?_
  obtain ⟨x1, hx2, h0⟩ := bB h0
  refine oQ [(lo0p, 3, List.map aC x1)] 0 (vM lo0p x0 (lN x0) cmp1_f cmp1_a cmp1_c cmp1 cmp1_h _ hx2) hO ?_
  intro H hO hl3
  simp only [List.length_map] at hl3
  replace hN := hl3.trans hN
  refine cL ?_
  refine cT (l := [(0, (.msl 3 lo0p 0 (List.length x1)))]) ⟨[(0, (.msl 3 lo0p 0 (List.length x0)))], by kernel_rfl, rfl, ⟨aS.eq (by simp [hl3]), trivial⟩⟩ ?_
  obtain rfl := oI h0
  exact aI (qK (x := (.tup [])) (by kernel_rfl) (aS.refl _) ⟨rfl, hO.ext, hO.at 0 (by kernel_rfl), by simp only [List.length_map]; exact hN.trans hN0⟩)

theorem MF (wD : (List Int)) (r : Int) (h0 : sV wD = some r) : cF Try.prog 37 [(eL (eI) wD)] (eI r) := by
  intro H0
  refine cJ Try.func37 ?_
  have hO := aL.start H0
  unfold sV at h0
  refine aT aF 1 [] [] ?_
  refine aT aF 1 [] [(3, (eI (0 : Int)))] ?_
  refine dB (fun T H => ∃ nU : Int, Has T [(3, (eI nU))] ∧ aL ⟨H0, [], []⟩ H [] ∧ rO nU = some r) ?_ ?_
  · clear hO h0
    rintro T H ⟨nU, hT, hO, h0⟩
    refine bD hT ?_
    clear hT
    unfold rO at h0
    refine bX aF 2 [(2, (eI nU))] ?_
    refine bM ?_
    obtain rfl := oI h0
    exact aI (Q_r hO)
  refine aT aF 3 [0] [(6, (eL (eI) wD)), (7, (eI (lN wD))), (8, (eI (0 : Int)))] ?_
  refine bU 0 ?_
  refine dJ [(3, (eI (0 : Int))), (6, (eL (eI) wD)), (7, (eI (lN wD))), (8, (eI (0 : Int)))] ?_
  refine cR (fun T H => ∃ nU : Int, ∃ t6 : (List Int), ∃ t7 : Int, ∃ t8 : Int, Has T [(3, (eI nU)), (6, (eL (eI) t6)), (7, (eI t7)), (8, (eI t8))] ∧ aL ⟨H0, [], []⟩ H [] ∧ uU nU t6 t7 t8 = some r) ?_ ⟨(0 : Int), wD, (lN wD), (0 : Int), bA, hO, h0⟩
  clear hO h0
  rintro T H ⟨nU, t6, t7, t8, hT, hO, h0⟩
  refine bD hT ?_
  clear hT
  unfold uU at h0
  obtain ⟨rr0, hl0, h0⟩ := bB h0
  refine eS (fun (s : Int) T H => Has T [(3, (eI nU)), (6, (eL (eI) t6)), (7, (eI t7)), (8, (eI s))] ∧ aL ⟨H0, [], []⟩ H []) hl0 ⟨bA, hO⟩ ?_
  clear hO
  rintro k0 s out1 T H ⟨hT, hO⟩ h1 ho0
  obtain ⟨t8, rfl⟩ : ∃ x, x = s := ⟨_, rfl⟩
  replace h1 : gX nU t6 t7 t8 = some out1 := h1
  refine bD hT ?_
  clear hT
  unfold gX at h1
  refine aT aF 1 [] [(9, (aK (decide (t8 < t7))))] ?_
  refine aP ?_
  refine bL h1 (fun h1 => ?_) (fun h1 => ?_)
  · refine bP ?_
    refine bK [(3, (eI nU)), (6, (eL (eI) t6)), (7, (eI t7)), (8, (eI t8))] ?_
    refine aP ?_
    refine bU 1 ?_
    refine aP ?_
    refine aU aF 3 ?_
    obtain ⟨c2, h1⟩ := bJ h1
    refine sH [0 ≤ t8 ∧ t8 < (lN t6)] ⟨c2, trivial⟩ ?_
    refine bS [] [(5, (eI (gD t6 t8)))] ?_
    refine aT aF 3 [] [(14, (aK (!decide ((gD t6 t8) = nU))))] ?_
    refine bL h1 (fun h1 => ?_) (fun h1 => ?_)
    · refine bX aF 2 [(2, (eI (gD t6 t8)))] ?_
      refine bM ?_
      obtain rfl := oI h1
      obtain rfl : _ = rr0 := ho0
      replace h0 : some (gD t6 t8) = some r := h0
      obtain rfl := oI h0
      exact aI (bQ (aW (aW (bQ (aW (Q_r hO))))))
    refine bP ?_
    refine dL [(3, (eI nU)), (6, (eL (eI) t6)), (7, (eI t7)), (8, (eI t8))] ?_
    refine aI (aZ (aG (?_)))
    refine aU aF 2 ?_
    refine bE ?_
    exact aI (aG (⟨rfl, _, (oI h1).symm, bA, hO⟩))
  refine eR 0 ?_
  obtain rfl := oI h1
  obtain rfl : _ = rr0 := ho0
  replace h0 : rO nU = some r := h0
  exact aI (aX (aX (bT (aG (⟨rfl, _, bA, hO, h0⟩)))))

theorem KU (x0 : aB) (y1 : aB) (r : Int) (h0 : mW x0 y1 = some r) : cF Try.prog 36 [(aC x0), (aC y1)] (eI r) := by
  intro H0
  refine cJ Try.func36 ?_
  have hO := aL.start H0
  unfold mW at h0
  refine aP ?_
  refine aU aF 3 ?_
  refine qR 3 (aC x0) ?_
  refine qR 3 (aC y1) ?_
  refine bE ?_
  refine bK [(2, (.rp (aC x0))), (3, (.rp (aC y1)))] ?_
  refine aP ?_
  refine kH (jW [6, 8, 9, 11, 13, 14, 15, 16]) aF 13 ?_
  refine vA 4 ?_
  obtain ⟨x1, hx2, h0⟩ := bB h0
  refine zC (DA x0.Row y1.Row _ hx2) hO ?_
  intro H hO
  refine vA 9 ?_
  obtain ⟨x4, hx5, h0⟩ := bB h0
  refine zC (tY x0.At y1.At _ hx5) hO ?_
  intro H hO
  refine SD (xs := [(eI x1), (eI x4)]) (k := 1) (by kernel_rfl) (by kernel_rfl) ?_
  obtain ⟨x7, hx8, h0⟩ := bB h0
  refine QG 37 [(lI [(eI x1), (eI x4)])] (eI x7) (by kernel_rfl) (by kernel_rfl) (cF.sub (MF ([x1, x4]) _ hx8) ⟨HW (l := [x1, x4]), trivial⟩) hO ?_
  intro H hO
  refine oO ?_
  refine bK [(4, (eI x7))] ?_
  refine bM ?_
  obtain rfl := oI h0
  exact aI (Q_r hO)

theorem SF (lo0p : Nat) (l0 : (List aB)) (r1 : (List aH)) (f2 : (List aD)) (r : (List aB)) (h0 : vV l0 r1 f2 = some r) : XT Try.prog 64 lo0p 3 (List.map aC l0) [(.msl 3 lo0p 0 (List.length l0)), (eL aO r1), (eL aE f2)] (fun lo => .msl 3 lo 0 (List.length r)) (List.map aC r) := by
  intro H0 hl0
  refine cJ Try.func64 ?_
  have hO := aL.pI hl0
  clear hl0
  unfold vV at h0
  refine aT aF 1 [] [] ?_
  refine dB (fun T H => ∃ l0 : List aB, ∃ lo1 : Nat, Has T [(0, (.msl 3 lo1 0 (List.length l0)))] ∧ aL ⟨H0, [lo0p], []⟩ H [(lo1, 3, List.map aC l0)] ∧ wY l0 = some r) ?_ ?_
  · clear hO h0
    rintro T H ⟨l0, lo1, hT, hO, h0⟩
    refine bD hT ?_
    clear hT
    unfold wY at h0
    refine bX aF 2 [(6, (.msl 3 lo1 0 (List.length l0)))] ?_
    refine bM ?_
    obtain rfl := oI h0
    exact aI (nB (x := (.msl 3 lo1 0 (List.length l0))) (by kernel_rfl) (aS.refl _) ⟨lo1, rfl, hO⟩)
  refine aT aF 3 [2] [(9, (eL aE f2)), (10, (eI (lN f2))), (11, (eI (0 : Int)))] ?_
  refine bU 0 ?_
  refine dJ [(0, (.msl 3 lo0p 0 (List.length l0))), (1, (eL aO r1)), (9, (eL aE f2)), (10, (eI (lN f2))), (11, (eI (0 : Int)))] ?_
  refine cR (fun T H => ∃ l0 : List aB, ∃ t9 : (List aD), ∃ t10 : Int, ∃ t11 : Int, ∃ lo3 : Nat, Has T [(0, (.msl 3 lo3 0 (List.length l0))), (1, (eL aO r1)), (9, (eL aE t9)), (10, (eI t10)), (11, (eI t11))] ∧ aL ⟨H0, [lo0p], []⟩ H [(lo3, 3, List.map aC l0)] ∧ xD l0 r1 t9 t10 t11 = some r) ?_ ⟨l0, f2, (lN f2), (0 : Int), lo0p, bA, hO, h0⟩
  clear hO h0
  rintro T H ⟨l0, t9, t10, t11, lo3, hT, hO, h0⟩
  refine bD hT ?_
  clear hT
  unfold xD at h0
  obtain ⟨rr0, hl0, h0⟩ := bB h0
  refine eS (fun (s : List aB × Int) T H => ∃ lo3 : Nat, Has T [(0, (.msl 3 lo3 0 (List.length s.1))), (1, (eL aO r1)), (9, (eL aE t9)), (10, (eI t10)), (11, (eI s.2))] ∧ aL ⟨H0, [lo0p], []⟩ H [(lo3, 3, List.map aC s.1)]) hl0 ⟨lo3, bA, hO⟩ ?_
  clear hO
  rintro k0 s out1 T H ⟨lo3, hT, hO⟩ h1 ho0
  obtain ⟨l0, t11⟩ := s
  replace h1 : oY r1 t9 t10 l0 t11 = some out1 := h1
  try dsimp only at hT
  refine bD hT ?_
  clear hT
  unfold oY at h1
  refine aT aF 1 [] [(12, (aK (decide (t11 < t10))))] ?_
  refine aP ?_
  refine bL h1 (fun h1 => ?_) (fun h1 => ?_)
  · refine bP ?_
    refine bK [(0, (.msl 3 lo3 0 (List.length l0))), (1, (eL aO r1)), (9, (eL aE t9)), (10, (eI t10)), (11, (eI t11))] ?_
    refine aP ?_
    refine bU 1 ?_
    refine aP ?_
    refine aU aF 4 ?_
    obtain ⟨c5, h1⟩ := bJ h1
    refine rB 2 [0 ≤ t11 ∧ t11 < (lN t9)] ⟨c5, trivial⟩ ?_
    refine mP 2 (aE (aD.mk 0 0)) (by kernel_rfl) (by kernel_rfl) hO ?_
    intro lo6 H hO
    refine mZ 1 lo6 2 0 (aE (aD.mk 0 0)) (aE (gD t9 t11)) [(aE (aD.mk 0 0))] [(lo3, 3, List.map aC l0), (lo6, 2, [(aE (gD t9 t11))])] hO rfl (by kernel_rfl) ?_
    intro H hO
    refine cL ?_
    refine bS [] [(8, (.lp lo6 0 0))] ?_
    refine dJ [(0, (.msl 3 lo3 0 (List.length l0))), (1, (eL aO r1)), (8, (.lp lo6 0 0)), (9, (eL aE t9)), (10, (eI t10)), (11, (eI t11))] ?_
    refine DZ 2 1 8 2 lo6 (aE (gD t9 t11)) [(lo3, 3, List.map aC l0)] hO (by kernel_rfl) (by kernel_rfl) (by kernel_rfl) ?_
    intro H hO
    refine kH (jW [19, 21, 23]) aF 11 ?_
    refine vA 2 ?_
    obtain ⟨x7, hx8, h1⟩ := bB h1
    refine zC (HX r1 _ hx8) hO ?_
    intro H hO
    refine vA 8 ?_
    refine SD (xs := [(aC (aB.mk x7 ((gD t9 t11).At) ((gD t9 t11).Net)))]) (k := 3) (by kernel_rfl) (by kernel_rfl) ?_
    obtain ⟨c11, h1⟩ := bJ h1
    refine QT (e := aC) l0 ([aB.mk x7 ((gD t9 t11).At) ((gD t9 t11).Net)]) 0 lo3 3 40 (lI [(aC (aB.mk x7 ((gD t9 t11).At) ((gD t9 t11).Net)))]) (fun lo10 => [(lo10, 3, List.map aC (l0 ++ ([aB.mk x7 ((gD t9 t11).At) ((gD t9 t11).Net)])))]) (by kernel_rfl) (by kernel_rfl) hO (by kernel_rfl) (by kernel_rfl) c11 (fun _ => by kernel_rfl) ?_
    intro lo10 H hO
    refine oO ?_
    refine dL [(0, (.msl 3 lo10 0 (List.length (l0 ++ ([aB.mk x7 ((gD t9 t11).At) ((gD t9 t11).Net)]))))), (1, (eL aO r1)), (9, (eL aE t9)), (10, (eI t10)), (11, (eI t11))] ?_
    refine aI (aZ (aG (?_)))
    refine aU aF 2 ?_
    refine bE ?_
    exact aI (aG (⟨rfl, _, (oI h1).symm, _, bA, hO⟩))
  refine eR 0 ?_
  obtain rfl := oI h1
  obtain rfl : _ = rr0 := ho0
  replace h0 : wY l0 = some r := h0
  exact aI (aX (aX (bT (aG (⟨rfl, _, _, bA, hO, h0⟩)))))

theorem LF (l0 : (List aB)) (by1_f : Nat) (by1_a by1_c : List V) (by1 : (List aD) → Option ((List aD) × Int)) (by1_h : ∀ a0 r, by1 a0 = some r → cF Try.prog by1_f (by1_a ++ [(eL aE a0)] ++ by1_c) (.tup [(eL aE r.1), (eI r.2)])) (r : ((List aB) × Int)) (h0 : rK l0 by1 = some r) : cF Try.prog 40 [(eL aC l0), (.fn (.func by1_f) by1_a by1_c)] (.tup [(eL aC r.1), (eI r.2)]) := by
  intro H0
  refine PZ aF Try.func40 (by kernel_rfl) (by kernel_rfl) (by kernel_rfl) ?_
  have hO := aL.start H0
  unfold rK at h0
  refine aP ?_
  refine aU aF 3 ?_
  refine qR 1 (.fn (.func by1_f) by1_a by1_c) ?_
  refine BU 1 (.sl true 0 (fun _ => .bad)) (eL aC ([])) (by kernel_rfl) (by kernel_rfl) (by kernel_rfl) (pE) (by kernel_rfl) (by kernel_rfl) hO ?_
  intro lo1 H hO
  refine mP 1 (eI 0) (by kernel_rfl) (by kernel_rfl) hO ?_
  intro lo2 H hO
  refine cL ?_
  refine bS [1] [(3, (.rp (.fn (.func by1_f) by1_a by1_c))), (4, (.lp lo1 0 0)), (5, (.lp lo2 0 0))] ?_
  refine aP ?_
  refine aU aF 3 ?_
  refine sL [] 3 ?_
  refine mP 1 (.sl true 0 (fun _ => .bad)) (by kernel_rfl) (by kernel_rfl) hO ?_
  intro lo3 H hO
  refine aAw 11 3 (fun _ => .bad) (by kernel_rfl) hO (by kernel_rfl) ?_
  intro lo4 H hO
  refine mZ 2 lo3 1 0 (.sl true 0 (fun _ => .bad)) (.msl 3 lo4 0 (List.length ([] : List aB))) [(.sl true 0 (fun _ => .bad))] [(lo1, 1, [(eL aC ([]))]), (lo2, 1, [(eI 0)]), (lo3, 1, [(.msl 3 lo4 0 (List.length ([] : List aB)))]), (lo4, 3, List.map aC ([] : List aB))] hO rfl (by kernel_rfl) ?_
  intro H hO
  refine cL ?_
  refine bS [] [(6, (.lp lo3 0 0))] ?_
  refine aP ?_
  refine aP ?_
  refine aU aF 2 ?_
  refine bN 1 ?_
  obtain ⟨x5, hx6, h0⟩ := bB h0
  refine eJ (FV l0 _ hx6) hO ?_
  intro H hO
  refine cL ?_
  refine bS [0] [(13, (.fn (.func 83) [] [(.rp (eL aC x5))]))] ?_
  refine bU 0 ?_
  refine dJ [(3, (.rp (.fn (.func by1_f) by1_a by1_c))), (4, (.lp lo1 0 0)), (5, (.lp lo2 0 0)), (6, (.lp lo3 0 0)), (13, (.fn (.func 83) [] [(.rp (eL aC x5))]))] ?_
  refine cR (fun T H => ∃ t4 : (List aB), ∃ t5 : Int, ∃ out6 : List aB, ∃ kG : (List aB), ∃ lo7 : Nat, Has T [(3, (.rp (.fn (.func by1_f) by1_a by1_c))), (4, (.lp lo1 0 0)), (5, (.lp lo2 0 0)), (6, (.lp lo3 0 0)), (13, (.fn (.func 83) [] [(.rp (eL aC kG))]))] ∧ aL ⟨H0, [], []⟩ H [(lo1, 1, [(eL aC t4)]), (lo2, 1, [(eI t5)]), (lo3, 1, [(.msl 3 lo7 0 (List.length out6))]), (lo7, 3, List.map aC out6)] ∧ tQ by1 t4 t5 out6 kG = some r) ?_ ⟨[], 0, ([] : List aB), x5, lo4, bA, hO, h0⟩
  clear hO h0
  rintro T H ⟨t4, t5, out6, kG, lo7, hT, hO, h0⟩
  refine bD (l := [(3, (.rp (.fn (.func by1_f) by1_a by1_c))), (4, (.lp lo1 0 0)), (5, (.lp lo2 0 0)), (6, (.lp lo3 0 0)), (13, (.fn (.func 83) [] [(.rp (eL aC kG))]))]) hT ?_
  clear hT
  unfold tQ at h0
  obtain ⟨o0, hl0, h0⟩ := bB h0
  refine MM (fid := 83) (ys := []) (cs := [(.rp (eL aC kG))]) #[14, 15] (fun (A : BO) (b lL : Nat) (st : ((List aB) × Int × List aB) ⊕ ((List aB) × Int × List aB)) (G' : Gs) => Sum.elim (fun (s : (List aB) × Int × List aB) => ∃ lo7 : Nat, G' = (lL, .raw (mQ b A .ready none)) :: (up [(lo1, 1, [(eL aC s.1)]), (lo2, 1, [(eI s.2.1)]), (lo3, 1, [(.msl 3 lo7 0 (List.length s.2.2))]), (lo7, 3, List.map aC s.2.2)] ++ [])) (fun (s : (List aB) × Int × List aB) => ∃ lo7 : Nat, G' = (lL, .raw (mQ b A .done (some .ret))) :: (up [(lo1, 1, [(eL aC s.1)]), (lo2, 1, [(eI s.2.1)]), (lo3, 1, [(.msl 3 lo7 0 (List.length s.2.2))]), (lo7, 3, List.map aC s.2.2)] ++ [])) st) (.inl (t4, t5, out6)) o0 (.tup []) (by kernel_rfl) (by kernel_rfl) (by kernel_rfl) hO (fun _ _ => ⟨lo7, rfl⟩) ?_ ?_
  · intro b lL
    clear hO h0
    refine zK _ b (fun st t14 t15 => rnd (fun (s : (List aB) × Int × List aB) => nI by1 kG s.1 s.2.1 s.2.2 t14 t15) st) ?_ kG _ _ hl0
    intro st t14 t15 out1 rr hr
    obtain ⟨s, rfl, h1, rfl⟩ := aAe hr
    clear hr
    intro Hr Gr hi hg
    obtain ⟨t4, t5, out6⟩ := s
    dsimp only [Sum.elim_inl] at hi
    obtain ⟨lo7, rfl⟩ := hi
    replace h1 : nI by1 kG t4 t5 out6 t14 t15 = some out1 := h1
    unfold nI at h1
    obtain ⟨E1, hE, hO⟩ := FL hg
    refine FP (ND (hO.gm 0 _ rfl).2 (by kernel_rfl) (by kernel_rfl) ?_)
    refine dJ [(3, (.rp (.fn (.func by1_f) by1_a by1_c))), (4, (.lp lo1 0 0)), (5, (.lp lo2 0 0)), (6, (.lp lo3 0 0)), (13, (.fn (.func 83) [] [(.rp (eL aC kG))])), (14, (eL aO t14)), (15, (eL aE t15))] ?_
    refine aT aF 1 [13, 14] [(7, (eL aO t14))] ?_
    refine aU aF 1 ?_
    refine bE ?_
    refine dL [(3, (.rp (.fn (.func by1_f) by1_a by1_c))), (4, (.lp lo1 0 0)), (5, (.lp lo2 0 0)), (6, (.lp lo3 0 0)), (7, (eL aO t14)), (8, (eL aE t15))] ?_
    refine aI (⟨rfl, rfl, (hO.gm 0 _ rfl).2, ?_⟩)
    intro o1 ho1
    replace hO := hO.EL o1
    refine bU 1 ?_
    refine aP ?_
    refine aU aF 8 ?_
    refine bN 2 ?_
    obtain ⟨x8, hx9, h1⟩ := bB h1
    refine eJ (by1_h t15 _ hx9) hO ?_
    intro H hO
    refine bE ?_
    refine bS [3, 8] [(9, (eL aE x8.1)), (10, (eI x8.2))] ?_
    refine aP ?_
    refine aT aF 2 [] [(23, (aK (!decide (x8.2 = (0 : Int)))))] ?_
    refine bL h1 (fun h1 => ?_) (fun h1 => ?_)
    · refine aP ?_
      refine aU aF 3 ?_
      refine bN 1 ?_
      refine mZ 0 lo1 1 0 (eL aC t4) (.sl true 0 (fun _ => .bad)) [(eL aC t4)] [(lo1, 1, [(.sl true 0 (fun _ => .bad))]), (lo2, 1, [(eI t5)]), (lo3, 1, [(.msl 3 lo7 0 (List.length out6))]), (lo7, 3, List.map aC out6)] hO rfl (by kernel_rfl) ?_
      intro H hO
      refine mZ 1 lo2 1 0 (eI t5) (eI x8.2) [(eI t5)] [(lo1, 1, [(.sl true 0 (fun _ => .bad))]), (lo2, 1, [(eI x8.2)]), (lo3, 1, [(.msl 3 lo7 0 (List.length out6))]), (lo7, 3, List.map aC out6)] hO rfl (by kernel_rfl) ?_
      intro H hO
      refine cL ?_
      refine NA 0 lo1 1 (.sl true 0 (fun _ => .bad)) (eL aC ([])) [(lo1, 1, [(eL aC ([]))]), (lo2, 1, [(eI x8.2)]), (lo3, 1, [(.msl 3 lo7 0 (List.length out6))]), (lo7, 3, List.map aC out6)] hO (by kernel_rfl) (by kernel_rfl) pE (by kernel_rfl) ?_
      intro H hO
      refine bK [(4, (.lp lo1 0 0)), (5, (.lp lo2 0 0)), (6, (.lp lo3 0 0))] ?_
      refine bM ?_
      refine dL [(4, (.lp lo1 0 0)), (5, (.lp lo2 0 0)), (6, (.lp lo3 0 0))] ?_
      obtain rfl := oI h1
      exact aI (aW (bQ (⟨(oX hO hE ho1 .dead).1, rfl, _, ⟨lo7, rfl⟩, (oX hO hE ho1 _).2⟩)))
    refine bP ?_
    refine bK [(4, (.lp lo1 0 0)), (5, (.lp lo2 0 0)), (6, (.lp lo3 0 0)), (7, (eL aO t14)), (9, (eL aE x8.1))] ?_
    refine aP ?_
    refine aU aF 5 ?_
    refine nY 2 lo3 1 0 (.msl 3 lo7 0 (List.length out6)) (.msl 3 lo7 0 (List.length out6)) [(.msl 3 lo7 0 (List.length out6))] hO rfl ?_
    refine bN 3 ?_
    obtain ⟨x12, hx13, h1⟩ := bB h1
    refine YI (L' := fun lo14 => [(lo1, 1, [(eL aC t4)]), (lo2, 1, [(eI t5)]), (lo3, 1, [(.msl 3 lo7 0 (List.length out6))]), (lo14, 3, List.map aC x12)]) 3 lo7 3 (List.map aC out6) (List.map aC x12) 64 [(.msl 3 lo7 0 (List.length out6)), (eL aO t14), (eL aE x8.1)] (fun lo14 => (.msl 3 lo14 0 (List.length x12))) (by kernel_rfl) (by kernel_rfl) (SF lo7 out6 t14 x8.1 _ hx13) hO (by kernel_rfl) (fun _ => by kernel_rfl) ?_
    intro lo14 H hO
    refine mZ 2 lo3 1 0 (.msl 3 lo7 0 (List.length out6)) (.msl 3 lo14 0 (List.length x12)) [(.msl 3 lo7 0 (List.length out6))] [(lo1, 1, [(eL aC t4)]), (lo2, 1, [(eI t5)]), (lo3, 1, [(.msl 3 lo14 0 (List.length x12))]), (lo14, 3, List.map aC x12)] hO rfl (by kernel_rfl) ?_
    intro H hO
    refine cL ?_
    refine bS [7, 9] [] ?_
    refine aP ?_
    refine aU aF 3 ?_
    refine nY 2 lo3 1 0 (.msl 3 lo14 0 (List.length x12)) (.msl 3 lo14 0 (List.length x12)) [(.msl 3 lo14 0 (List.length x12))] hO rfl ?_
    refine bE ?_
    refine bS [] [(31, (aK (decide ((4096 : Int) < (lN x12)))))] ?_
    refine bL h1 (fun h1 => ?_) (fun h1 => ?_)
    · refine aP ?_
      refine aU aF 2 ?_
      refine mZ 0 lo1 1 0 (eL aC t4) (.sl true 0 (fun _ => .bad)) [(eL aC t4)] [(lo1, 1, [(.sl true 0 (fun _ => .bad))]), (lo2, 1, [(eI t5)]), (lo3, 1, [(.msl 3 lo14 0 (List.length x12))]), (lo14, 3, List.map aC x12)] hO rfl (by kernel_rfl) ?_
      intro H hO
      refine mZ 1 lo2 1 0 (eI t5) (eI (7 : Int)) [(eI t5)] [(lo1, 1, [(.sl true 0 (fun _ => .bad))]), (lo2, 1, [(eI (7 : Int))]), (lo3, 1, [(.msl 3 lo14 0 (List.length x12))]), (lo14, 3, List.map aC x12)] hO rfl (by kernel_rfl) ?_
      intro H hO
      refine cL ?_
      refine NA 0 lo1 1 (.sl true 0 (fun _ => .bad)) (eL aC ([])) [(lo1, 1, [(eL aC ([]))]), (lo2, 1, [(eI (7 : Int))]), (lo3, 1, [(.msl 3 lo14 0 (List.length x12))]), (lo14, 3, List.map aC x12)] hO (by kernel_rfl) (by kernel_rfl) pE (by kernel_rfl) ?_
      intro H hO
      refine bK [(4, (.lp lo1 0 0)), (5, (.lp lo2 0 0)), (6, (.lp lo3 0 0))] ?_
      refine bM ?_
      refine dL [(4, (.lp lo1 0 0)), (5, (.lp lo2 0 0)), (6, (.lp lo3 0 0))] ?_
      obtain rfl := oI h1
      exact aI (bQ (⟨(oX hO hE ho1 .dead).1, rfl, _, ⟨lo14, rfl⟩, (oX hO hE ho1 _).2⟩))
    refine bP ?_
    refine dL [(4, (.lp lo1 0 0)), (5, (.lp lo2 0 0)), (6, (.lp lo3 0 0))] ?_
    obtain rfl := oI h1
    exact aI (aZ (⟨(oX hO hE ho1 .dead).1, rfl, _, ⟨lo14, rfl⟩, (oX hO hE ho1 _).2⟩))
  · intro b lD16 lL H' G' hi hO
    rcases o0 with s | s
    · dsimp only [Sum.elim_inl] at hi
      obtain ⟨lo7, rfl⟩ := hi
      replace h0 : (some (s.2.2, (0 : Int))) = some r := h0
      obtain ⟨hlL, hO⟩ := yC hO
      refine ⟨_, _, hlL, (by intro e; cases e), ?_⟩
      refine dL [(4, (.lp lo1 0 0)), (5, (.lp lo2 0 0)), (6, (.lp lo3 0 0))] ?_
      refine aI (aZ (aG (?_)))
      refine aP ?_
      refine CS (e := aC) s.2.2 2 3 1 3 lo3 lo7 (List.length s.2.2) [(lo1, 1, [(eL aC s.1)]), (lo2, 1, [(eI s.2.1)]), (lo3, 1, [(eL aC s.2.2)])] hO (by kernel_rfl) (by kernel_rfl) (by kernel_rfl) (.inr (by decide)) (by kernel_rfl) ?_
      intro H hO
      refine aU aF 3 ?_
      refine nY 2 lo3 1 0 (eL aC s.2.2) (eL aC s.2.2) [(eL aC s.2.2)] hO rfl ?_
      refine mZ 0 lo1 1 0 (eL aC s.1) (eL aC s.2.2) [(eL aC s.1)] [(lo1, 1, [(eL aC s.2.2)]), (lo2, 1, [(eI s.2.1)]), (lo3, 1, [(eL aC s.2.2)])] hO rfl (by kernel_rfl) ?_
      intro H hO
      refine mZ 1 lo2 1 0 (eI s.2.1) (eI (0 : Int)) [(eI s.2.1)] [(lo1, 1, [(eL aC s.2.2)]), (lo2, 1, [(eI (0 : Int))]), (lo3, 1, [(eL aC s.2.2)])] hO rfl (by kernel_rfl) ?_
      intro H hO
      refine cL ?_
      replace hO := hO.pick (L' := [(lo1, 1, [(eL aC s.2.2)]), (lo2, 1, [(eI (0 : Int))])]) [0, 1] (by decide) (by kernel_rfl)
      refine bS [6] [] ?_
      refine bM ?_
      obtain rfl := oI h0
      have hD := (hO.gm 0 _ rfl).2
      replace hO := (hO.EL .dead).CR
      exact aI (QM1 (.inr rfl) hD (rs := [.cell 4 34, .cell 5 24]) (xs := [(eL aC s.2.2), (eI (0 : Int))]) (x := (.tup [(eL aC s.2.2), (eI (0 : Int))])) (by kernel_rfl) (wQ (lo := lo1) (k := 1) (y := (eL aC s.2.2)) (x := (eL aC s.2.2)) 0 hO (by kernel_rfl) (by kernel_rfl) (by kernel_rfl) (by kernel_rfl) (wQ (lo := lo2) (k := 1) (y := (eI (0 : Int))) (x := (eI (0 : Int))) 1 hO (by kernel_rfl) (by kernel_rfl) (by kernel_rfl) (by kernel_rfl) DN)) (by kernel_rfl) ⟨rfl, hO.out⟩)
    · dsimp only [Sum.elim_inr] at hi
      obtain ⟨lo7, rfl⟩ := hi
      replace h0 : (some (s.1, s.2.1)) = some r := h0
      obtain ⟨hlL, hO⟩ := yC hO
      refine ⟨_, _, hlL, (by intro e; cases e), ?_⟩
      refine bM ?_
      replace hO := hO.pick (L' := [(lo1, 1, [(eL aC s.1)]), (lo2, 1, [(eI s.2.1)])]) [0, 1] (by decide) (by kernel_rfl)
      obtain rfl := oI h0
      have hD := (hO.gm 0 _ rfl).2
      replace hO := (hO.EL .dead).CR
      exact aI (bQ (aW (QM1 (.inr rfl) hD (rs := [.cell 4 34, .cell 5 24]) (xs := [(eL aC s.1), (eI s.2.1)]) (x := (.tup [(eL aC s.1), (eI s.2.1)])) (by kernel_rfl) (wQ (lo := lo1) (k := 1) (y := (eL aC s.1)) (x := (eL aC s.1)) 0 hO (by kernel_rfl) (by kernel_rfl) (by kernel_rfl) (by kernel_rfl) (wQ (lo := lo2) (k := 1) (y := (eI s.2.1)) (x := (eI s.2.1)) 1 hO (by kernel_rfl) (by kernel_rfl) (by kernel_rfl) (by kernel_rfl) DN)) (by kernel_rfl) ⟨rfl, hO.out⟩)))

theorem sQ (s0 : (List aD)) (f1_f : Nat) (f1_a f1_c : List V) (f1 : aD → Option Bool) (f1_h : ∀ a0 r, f1 a0 = some r → cF Try.prog f1_f (f1_a ++ [(aE a0)] ++ f1_c) (aK r)) (r : Int) (h0 : fP s0 f1 = some r) : cF Try.prog 86 [(eL aE s0), (.fn (.func f1_f) f1_a f1_c)] (eI r) := by
  intro H0
  refine cJ Try.func86 ?_
  have hO := aL.start H0
  unfold fP at h0
  refine aT aF 1 [] [] ?_
  refine dB (fun T H => Has T [] ∧ aL ⟨H0, [], []⟩ H [] ∧ dR f1  = some r) ?_ ?_
  · clear hO h0
    rintro T H ⟨hT, hO, h0⟩
    refine bD hT ?_
    clear hT
    unfold dR at h0
    refine bX aF 1 [(4, (eI (-1 : Int)))] ?_
    refine bM ?_
    obtain rfl := oI h0
    exact aI (Q_r hO)
  refine aT aF 3 [] [(7, (eI (lN s0))), (8, (eI (0 : Int)))] ?_
  refine bU 0 ?_
  refine dJ [(0, (eL aE s0)), (1, (.fn (.func f1_f) f1_a f1_c)), (7, (eI (lN s0))), (8, (eI (0 : Int)))] ?_
  refine cR (fun T H => ∃ t7 : Int, ∃ t8 : Int, Has T [(0, (eL aE s0)), (1, (.fn (.func f1_f) f1_a f1_c)), (7, (eI t7)), (8, (eI t8))] ∧ aL ⟨H0, [], []⟩ H [] ∧ fN f1 s0 t7 t8 = some r) ?_ ⟨(lN s0), (0 : Int), bA, hO, h0⟩
  clear hO h0
  rintro T H ⟨t7, t8, hT, hO, h0⟩
  refine bD hT ?_
  clear hT
  unfold fN at h0
  obtain ⟨rr0, hl0, h0⟩ := bB h0
  refine eS (fun (s : Int) T H => Has T [(0, (eL aE s0)), (1, (.fn (.func f1_f) f1_a f1_c)), (7, (eI t7)), (8, (eI s))] ∧ aL ⟨H0, [], []⟩ H []) hl0 ⟨bA, hO⟩ ?_
  clear hO
  rintro k0 s out1 T H ⟨hT, hO⟩ h1 ho0
  obtain ⟨t8, rfl⟩ : ∃ x, x = s := ⟨_, rfl⟩
  replace h1 : fJ f1 s0 t7 t8 = some out1 := h1
  refine bD hT ?_
  clear hT
  unfold fJ at h1
  refine aT aF 1 [] [(9, (aK (decide (t8 < t7))))] ?_
  refine aP ?_
  refine bL h1 (fun h1 => ?_) (fun h1 => ?_)
  · refine bP ?_
    refine bK [(0, (eL aE s0)), (1, (.fn (.func f1_f) f1_a f1_c)), (7, (eI t7)), (8, (eI t8))] ?_
    refine aP ?_
    refine bU 1 ?_
    refine aT aF 2 [] [(5, (eI t8))] ?_
    refine aP ?_
    refine aU aF 6 ?_
    obtain ⟨c2, h1⟩ := bJ h1
    refine rB 5 [0 ≤ t8 ∧ t8 < (lN s0)] ⟨c2, trivial⟩ ?_
    obtain ⟨x3, hx4, h1⟩ := bB h1
    refine eJ (f1_h (gD s0 t8) _ hx4) hO ?_
    intro H hO
    refine cL ?_
    refine bS [] [(16, (aK x3))] ?_
    refine bL h1 (fun h1 => ?_) (fun h1 => ?_)
    · refine bX aF 2 [(4, (eI t8))] ?_
      refine bM ?_
      obtain rfl := oI h1
      obtain rfl : _ = rr0 := ho0
      replace h0 : some t8 = some r := h0
      obtain rfl := oI h0
      exact aI (bQ (aW (aW (bQ (aW (Q_r hO))))))
    refine bP ?_
    refine dL [(0, (eL aE s0)), (1, (.fn (.func f1_f) f1_a f1_c)), (7, (eI t7)), (8, (eI t8))] ?_
    refine aI (aZ (aG (?_)))
    refine aU aF 2 ?_
    refine bE ?_
    exact aI (aG (⟨rfl, _, (oI h1).symm, bA, hO⟩))
  refine eR 0 ?_
  obtain rfl := oI h1
  obtain rfl : _ = rr0 := ho0
  replace h0 : dR f1  = some r := h0
  exact aI (aX (aX (bT (aG (⟨rfl, bA, hO, h0⟩)))))

theorem mY (s0 : (List aD)) (f1_f : Nat) (f1_a f1_c : List V) (f1 : aD → Option Bool) (f1_h : ∀ a0 r, f1 a0 = some r → cF Try.prog f1_f (f1_a ++ [(aE a0)] ++ f1_c) (aK r)) (r : Bool) (h0 : cM s0 f1 = some r) : cF Try.prog 65 [(eL aE s0), (.fn (.func f1_f) f1_a f1_c)] (aK r) := by
  intro H0
  refine cJ Try.func65 ?_
  have hO := aL.start H0
  unfold cM at h0
  refine aT aF 1 [] [] ?_
  refine aP ?_
  refine aU aF 5 ?_
  refine bN 2 ?_
  obtain ⟨x1, hx2, h0⟩ := bB h0
  refine eJ (sQ s0 f1_f f1_a f1_c f1 f1_h _ hx2) hO ?_
  intro H hO
  refine bE ?_
  refine bK [(4, (aK (decide ((0 : Int) ≤ x1))))] ?_
  refine bM ?_
  obtain rfl := oI h0
  exact aI (Q_r hO)

theorem KZ (j0 : aD) (r : Bool) (h0 : rM j0 = some r) : cF Try.prog 66 [(aE j0)] (aK r) := by
  intro H0
  refine cJ Try.func66 ?_
  have hO := aL.start H0
  unfold rM at h0
  refine aP ?_
  refine aU aF 2 ?_
  refine qR 2 (aE j0) ?_
  refine bE ?_
  refine bK [(1, (.rp (aE j0)))] ?_
  refine aP ?_
  refine aU aF 5 ?_
  refine bN 2 ?_
  obtain ⟨x1, hx2, h0⟩ := bB h0
  refine eJ (FX j0.Net _ hx2) hO ?_
  intro H hO
  refine bE ?_
  refine bK [(2, (aK (!x1)))] ?_
  refine bM ?_
  obtain rfl := oI h0
  exact aI (Q_r hO)

theorem KV (j0 : aD) (r : Bool) (h0 : rP j0 = some r) : cF Try.prog 68 [(aE j0)] (aK r) := by
  intro H0
  refine cJ Try.func68 ?_
  have hO := aL.start H0
  unfold rP at h0
  refine aP ?_
  refine aU aF 2 ?_
  refine qR 2 (aE j0) ?_
  refine bE ?_
  refine bK [(1, (.rp (aE j0)))] ?_
  refine bX aF 9 [(2, (aK ((decide (j0.At < (-1 : Int))) || (decide ((1125899906842624 : Int) < j0.At)))))] ?_
  refine bM ?_
  obtain rfl := oI h0
  exact aI (Q_r hO)

theorem uW (s0 : (List aD)) (r : (List aD)) (h0 : eX s0 = some r) : EY Try.prog 69 [(eL aE s0)] (fun lo => (.msl 2 lo 0 (List.length r))) 2 (List.map aE r) := by
  intro H0
  refine cJ Try.func69 ?_
  have hO := aL.start H0
  unfold eX at h0
  refine aT aF 1 [] [] ?_
  refine aP ?_
  refine aP ?_
  refine aU aF 2 ?_
  refine bN 1 ?_
  refine XV false (List.length s0) (fun i => aE (List.getD s0 i default)) (by kernel_rfl) (by kernel_rfl) ?_
  intro b1 hn2
  refine cL ?_
  refine bS [] [(4, (aK b1))] ?_
  refine mR (b1) (fun hc3 => ?_) (fun hc3 => ?_)
  · replace h0 : some ([] : List aD) = some r := by
      have hl := List.eq_nil_of_length_eq_zero (hn2 hc3)
      rw [hl] at h0
      exact (bJ h0).2
    refine bX aF 1 [(2, (.sl true 0 (fun _ => .bad)))] ?_
    refine bM ?_
    refine dL [(2, (.sl true 0 (fun _ => .bad)))] ?_
    refine OB (el := (fun _ => .bad)) 0 2 2 hO (by kernel_rfl) ?_
    intro lo4 H5 hO
    obtain rfl := oI h0
    exact aI (aW (nB (x := (.msl 2 lo4 0 (List.length ([] : List aD)))) (by kernel_rfl) (aS.refl _) ⟨lo4, rfl, hO⟩))
  · refine bP ?_
    refine bK [(0, (eL aE s0))] ?_
    refine aP ?_
    refine aU aF 4 ?_
    refine sL [] 2 ?_
    refine bN 2 ?_
    obtain ⟨c7, h0⟩ := bJ h0
    refine QU (e := aE) s0 (fun _ => .bad) 2 16 (eL aE s0) (fun lo6 => [(lo6, 2, List.map aE s0)]) (by kernel_rfl) (by kernel_rfl) hO (yM (fun _ => by kernel_rfl)) c7 (fun _ => by kernel_rfl) ?_
    intro lo6 H hO
    refine bE ?_
    refine bK [(2, (.msl 2 lo6 0 (List.length s0)))] ?_
    refine bM ?_
    obtain rfl := oI h0
    exact aI (nB (x := (.msl 2 lo6 0 (List.length s0))) (by kernel_rfl) (aS.refl _) ⟨lo6, rfl, hO⟩)

theorem nE (lo0p : Nat) (aA : (List aD)) (a1 : Int) (b2 : Int) (cmp3_f : Nat) (cmp3_a cmp3_c : List V) (cmp3 : aD → aD → Option Int) (cmp3_h : ∀ a0 a1 r, cmp3 a0 a1 = some r → cF Try.prog cmp3_f (cmp3_a ++ [(aE a0), (aE a1)] ++ cmp3_c) (eI r)) (r : List aD) (h0 : dM aA a1 b2 cmp3 = some r) : mF Try.prog 95 lo0p 2 (List.map aE aA) (List.map aE r) [(.msl 2 lo0p 0 (List.length aA)), (eI a1), (eI b2), (.fn (.func cmp3_f) cmp3_a cmp3_c)] (.tup []) := by
  intro H0 hl0
  refine cJ Try.func95 ?_
  have hO := aL.pI hl0
  clear hl0
  obtain ⟨N0, hN0⟩ : ∃ n, n = List.length aA := ⟨_, rfl⟩
  have hN : List.length aA = N0 := hN0.symm
  unfold dM at h0
  refine aT aF 3 [] [(8, (eI (wR (a1 + (1 : Int)))))] ?_
  refine bU 0 ?_
  refine dJ [(0, (.msl 2 lo0p 0 (List.length aA))), (1, (eI a1)), (2, (eI b2)), (3, (.fn (.func cmp3_f) cmp3_a cmp3_c)), (8, (eI (wR (a1 + (1 : Int)))))] ?_
  refine cR (fun T H => ∃ aA : List aD, ∃ i8 : Int, Has T [(0, (.msl 2 lo0p 0 (List.length aA))), (1, (eI a1)), (2, (eI b2)), (3, (.fn (.func cmp3_f) cmp3_a cmp3_c)), (8, (eI i8))] ∧ aL ⟨H0, [lo0p], []⟩ H [(lo0p, 2, List.map aE aA)] ∧ List.length aA = N0 ∧ iX cmp3 aA a1 b2 i8 = some r) ?_ ⟨aA, wR (a1 + (1 : Int)), bA, hO, hN, h0⟩
  clear hO hN h0
  rintro T H ⟨aA, i8, hT, hO, hN, h0⟩
  refine bD hT ?_
  clear hT
  unfold iX at h0
  obtain ⟨rr0, hl0, h0⟩ := bB h0
  refine eS (fun (s : List aD × Int) T H => Has T [(0, (.msl 2 lo0p 0 (List.length s.1))), (1, (eI a1)), (2, (eI b2)), (3, (.fn (.func cmp3_f) cmp3_a cmp3_c)), (8, (eI s.2))] ∧ aL ⟨H0, [lo0p], []⟩ H [(lo0p, 2, List.map aE s.1)] ∧ List.length s.1 = N0) hl0 ⟨bA, hO, hN⟩ ?_
  clear hO hN
  rintro k0 s out1 T H ⟨hT, hO, hN⟩ h1 ho0
  obtain ⟨aA, i8⟩ := s
  replace h1 : jA cmp3 a1 b2 aA i8 = some out1 := h1
  try dsimp only at hT
  refine bD hT ?_
  clear hT
  unfold jA at h1
  refine aP ?_
  refine aT aF 3 [] [(14, (aK (decide (i8 < b2))))] ?_
  refine bL h1 (fun h1 => ?_) (fun h1 => ?_)
  · refine bP ?_
    refine bK [(0, (.msl 2 lo0p 0 (List.length aA))), (1, (eI a1)), (2, (eI b2)), (3, (.fn (.func cmp3_f) cmp3_a cmp3_c)), (8, (eI i8))] ?_
    refine dB (fun T H => ∃ aA : List aD, Has T [(0, (.msl 2 lo0p 0 (List.length aA))), (1, (eI a1)), (2, (eI b2)), (3, (.fn (.func cmp3_f) cmp3_a cmp3_c)), (8, (eI i8))] ∧ aL ⟨H0, [lo0p], []⟩ H [(lo0p, 2, List.map aE aA)] ∧ List.length aA = N0 ∧ eU cmp3 aA a1 b2 i8 = some out1) ?_ ?_
    · clear hO hN h1
      rintro T H ⟨aA, hT, hO, hN, h1⟩
      refine bD hT ?_
      clear hT
      unfold eU at h1
      refine aU aF 3 ?_
      refine bE ?_
      exact aI (aG (⟨rfl, _, (oI h1).symm, bA, hO, hN⟩))
    refine bU 1 ?_
    refine aT aF 2 [] [(9, (eI i8))] ?_
    refine bU 2 ?_
    refine dJ [(0, (.msl 2 lo0p 0 (List.length aA))), (1, (eI a1)), (2, (eI b2)), (3, (.fn (.func cmp3_f) cmp3_a cmp3_c)), (8, (eI i8)), (9, (eI i8))] ?_
    refine cR (fun T H => ∃ aA : List aD, ∃ j9 : Int, Has T [(0, (.msl 2 lo0p 0 (List.length aA))), (1, (eI a1)), (2, (eI b2)), (3, (.fn (.func cmp3_f) cmp3_a cmp3_c)), (8, (eI i8)), (9, (eI j9))] ∧ aL ⟨H0, [lo0p], []⟩ H [(lo0p, 2, List.map aE aA)] ∧ List.length aA = N0 ∧ jC cmp3 aA a1 b2 i8 j9 = some out1) ?_ ⟨aA, i8, bA, hO, hN, h1⟩
    clear hO hN h1
    rintro T H ⟨aA, j9, hT, hO, hN, h1⟩
    refine bD hT ?_
    clear hT
    unfold jC at h1
    obtain ⟨rr1, hl1, h1⟩ := bB h1
    refine eS (fun (s : List aD × Int) T H => Has T [(0, (.msl 2 lo0p 0 (List.length s.1))), (1, (eI a1)), (2, (eI b2)), (3, (.fn (.func cmp3_f) cmp3_a cmp3_c)), (8, (eI i8)), (9, (eI s.2))] ∧ aL ⟨H0, [lo0p], []⟩ H [(lo0p, 2, List.map aE s.1)] ∧ List.length s.1 = N0) hl1 ⟨bA, hO, hN⟩ ?_
    clear hO hN
    rintro k1 s out2 T H ⟨hT, hO, hN⟩ h2 ho1
    obtain ⟨aA, j9⟩ := s
    replace h2 : iV cmp3 a1 b2 i8 aA j9 = some out2 := h2
    try dsimp only at hT
    refine bD hT ?_
    clear hT
    unfold iV at h2
    refine aP ?_
    refine aP ?_
    obtain ⟨c2, h2⟩ := bJ h2
    obtain ⟨c3, h2⟩ := bJ h2
    obtain ⟨x4, hx5, h2⟩ := bB h2
    refine kH (jW []) aF 17 ?_
    refine BI (K := fun T H => Has (lift T) [(0, (.msl 2 lo0p 0 (List.length aA))), (1, (eI a1)), (2, (eI b2)), (3, (.fn (.func cmp3_f) cmp3_a cmp3_c)), (8, (eI i8)), (9, (eI j9)), (34, (aK ((decide (a1 < j9)) && (decide (x4 < (0 : Int))))))] ∧ aL ⟨H0, [lo0p], []⟩ H [(lo0p, 2, List.map aE aA)]) ?_ ?_
    · refine vA 4 ?_
      refine yN (t := 21) (e := decide (a1 < j9)) (by kernel_rfl) (fun hg6 => ?_) (fun hg6 => ?_)
      · refine dA 8 [0 ≤ j9 ∧ j9 < (lN aA)] ⟨(c2 hg6), trivial⟩ ?_
        refine JC 0 lo0p 2 (0 + Int.toNat j9) (aE (gD aA j9)) (aE (gD aA j9)) (List.map aE aA) hO (cG (c2 hg6)) ?_
        refine dA 13 [0 ≤ (wR (j9 - (1 : Int))) ∧ (wR (j9 - (1 : Int))) < (lN aA)] ⟨(c3 hg6), trivial⟩ ?_
        refine JC 0 lo0p 2 (0 + Int.toNat (wR (j9 - (1 : Int)))) (aE (gD aA (wR (j9 - (1 : Int))))) (aE (gD aA (wR (j9 - (1 : Int))))) (List.map aE aA) hO (cG (c3 hg6)) ?_
        refine IW cmp3_f (cmp3_a ++ [(aE (gD aA j9)), (aE (gD aA (wR (j9 - (1 : Int)))))] ++ cmp3_c) (eI x4) (by kernel_rfl) (by kernel_rfl) (cmp3_h (gD aA j9) (gD aA (wR (j9 - (1 : Int)))) _ (tI hx5 hg6)) hO ?_
        intro H hO
        refine oO ?_
        exact ⟨⟨[(0, (.msl 2 lo0p 0 (List.length aA))), (1, (eI a1)), (2, (eI b2)), (3, (.fn (.func cmp3_f) cmp3_a cmp3_c)), (8, (eI i8)), (9, (eI j9)), (34, (aK (decide (x4 < (0 : Int)))))], by kernel_rfl, rfl, ⟨aS.refl _, aS.refl _, aS.refl _, aS.refl _, aS.refl _, aS.refl _, aS.eq (congrArg aK (FD hg6 rfl).symm), trivial⟩⟩, hO⟩
      refine oO ?_
      exact ⟨⟨[(0, (.msl 2 lo0p 0 (List.length aA))), (1, (eI a1)), (2, (eI b2)), (3, (.fn (.func cmp3_f) cmp3_a cmp3_c)), (8, (eI i8)), (9, (eI j9)), (34, (aK false))], by kernel_rfl, rfl, ⟨aS.refl _, aS.refl _, aS.refl _, aS.refl _, aS.refl _, aS.refl _, aS.eq (congrArg aK (FD hg6 rfl).symm), trivial⟩⟩, hO⟩
    · rintro T H ⟨hT, hO⟩
      refine cT hT ?_
      clear hT
      refine aI (aG ?_)
      refine bL h2 (fun h2 => ?_) (fun h2 => ?_)
      · refine bP ?_
        refine bK [(0, (.msl 2 lo0p 0 (List.length aA))), (1, (eI a1)), (2, (eI b2)), (3, (.fn (.func cmp3_f) cmp3_a cmp3_c)), (8, (eI i8)), (9, (eI j9))] ?_
        refine aP ?_
        refine bU 3 ?_
        refine kH (jW []) aF 18 ?_
        obtain ⟨c8, h2⟩ := bJ h2
        refine dA 9 [0 ≤ (wR (j9 - (1 : Int))) ∧ (wR (j9 - (1 : Int))) < (lN aA)] ⟨c8, trivial⟩ ?_
        refine kC 0 lo0p 2 (0 + Int.toNat (wR (j9 - (1 : Int)))) (aE (gD aA (wR (j9 - (1 : Int))))) (aE (gD aA (wR (j9 - (1 : Int))))) (List.map aE aA) hO (cG c8) ?_
        obtain ⟨c9, h2⟩ := bJ h2
        refine dA 13 [0 ≤ j9 ∧ j9 < (lN aA)] ⟨c9, trivial⟩ ?_
        refine kC 0 lo0p 2 (0 + Int.toNat j9) (aE (gD aA j9)) (aE (gD aA j9)) (List.map aE aA) hO (cG c9) ?_
        obtain ⟨c10, h2⟩ := bJ h2
        refine dA 15 [0 ≤ j9 ∧ j9 < (lN aA)] ⟨c10, trivial⟩ ?_
        refine sE 0 lo0p 2 (0 + Int.toNat j9) (aE (gD aA j9)) (aE (gD aA (wR (j9 - (1 : Int))))) (List.map aE aA) [(lo0p, 2, List.map aE (List.set aA (Int.toNat j9) (gD aA (wR (j9 - (1 : Int))))))] hO (cG c10) (by simp only [List.set, mO]) ?_
        intro H hO
        replace hN : List.length (List.set aA (Int.toNat j9) (gD aA (wR (j9 - (1 : Int))))) = N0 := by simpa using hN
        obtain ⟨c11, h2⟩ := bJ h2
        refine dA 17 [0 ≤ (wR (j9 - (1 : Int))) ∧ (wR (j9 - (1 : Int))) < (lN aA)] ⟨c11, trivial⟩ ?_
        refine sE 0 lo0p 2 (0 + Int.toNat (wR (j9 - (1 : Int)))) (aE (gD (List.set aA (Int.toNat j9) (gD aA (wR (j9 - (1 : Int))))) (wR (j9 - (1 : Int))))) (aE (gD aA j9)) (List.map aE (List.set aA (Int.toNat j9) (gD aA (wR (j9 - (1 : Int)))))) [(lo0p, 2, List.map aE (List.set (List.set aA (Int.toNat j9) (gD aA (wR (j9 - (1 : Int))))) (Int.toNat (wR (j9 - (1 : Int)))) (gD aA j9)))] hO (vG c11 (by simp [])) (by simp only [List.set, mO]) ?_
        intro H hO
        replace hN : List.length (List.set (List.set aA (Int.toNat j9) (gD aA (wR (j9 - (1 : Int))))) (Int.toNat (wR (j9 - (1 : Int)))) (gD aA j9)) = N0 := by simpa using hN
        refine xA (by kernel_rfl) ?_
        refine cT (l := [(0, (.msl 2 lo0p 0 (List.length (List.set (List.set aA (Int.toNat j9) (gD aA (wR (j9 - (1 : Int))))) (Int.toNat (wR (j9 - (1 : Int)))) (gD aA j9))))), (1, (eI a1)), (2, (eI b2)), (3, (.fn (.func cmp3_f) cmp3_a cmp3_c)), (8, (eI i8)), (9, (eI j9))]) ⟨[(0, (.msl 2 lo0p 0 (List.length aA))), (1, (eI a1)), (2, (eI b2)), (3, (.fn (.func cmp3_f) cmp3_a cmp3_c)), (8, (eI i8)), (9, (eI j9))], by kernel_rfl, rfl, ⟨aS.eq (by simp []), aS.refl _, aS.refl _, aS.refl _, aS.refl _, aS.refl _, trivial⟩⟩ ?_
        refine aI (aZ (aG (?_)))
        refine aU aF 3 ?_
        refine bE ?_
        exact aI (aG (⟨rfl, _, (oI h2).symm, bA, hO, hN⟩))
      refine eR 2 ?_
      obtain rfl := oI h2
      obtain rfl : _ = rr1 := ho1
      replace h1 : eU cmp3 aA a1 b2 i8 = some out1 := h1
      exact aI (aX (aX (bT (aZ (aG (⟨rfl, _, bA, hO, hN, h1⟩))))))
  refine eR 0 ?_
  obtain rfl := oI h1
  obtain rfl : _ = rr0 := ho0
  replace h0 : some aA = some r := h0
  obtain rfl := oI h0
  exact aI (aX (aX (bT (qK (x := (.tup [])) (by kernel_rfl) (aS.refl _) ⟨rfl, hO.ext, hO.at 0 (by kernel_rfl), by first | rfl | (simp only [List.length_map]; exact hN.trans hN0)⟩))))

end Go.Abs
