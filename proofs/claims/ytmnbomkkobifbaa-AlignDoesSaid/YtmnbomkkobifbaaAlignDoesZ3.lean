/- What the law AlignDoes stands on: the framework, the given functions as plain functions, their walks, and the plain laws; part 3. -/
import Derived.Test.YtmnbomkkobifbaaAlignDoesZ2
set_option linter.unusedSimpArgs false
set_option linter.unusedVariables false
namespace Go.Abs
open Go
noncomputable def lK (cmp4 : aB → aB → Option Int) (rec : (List aB) → Int → Int → Int → Option (List aB)) (i10 : Int) (aC : List aB) (k13 : Int) : Option ((List aB × Int) ⊕ ((List aB))) :=
  cond (decide (k13 < (IntKind.i64.wrap (i10 - (1 : Int)))))
  (bI (0 ≤ (IntKind.i64.wrap (k13 + (1 : Int))) ∧ (IntKind.i64.wrap (k13 + (1 : Int))) < ((List.length aC : Nat) : Int)) <|
  bI (0 ≤ k13 ∧ k13 < ((List.length aC : Nat) : Int)) <|
  bI (0 ≤ k13 ∧ k13 < ((List.length aC : Nat) : Int)) <|
  bI (0 ≤ (IntKind.i64.wrap (k13 + (1 : Int))) ∧ (IntKind.i64.wrap (k13 + (1 : Int))) < ((List.length aC : Nat) : Int)) <|
  some (.inl (List.set (List.set aC (Int.toNat k13) (List.getD aC (Int.toNat (IntKind.i64.wrap (k13 + (1 : Int)))) default)) (Int.toNat (IntKind.i64.wrap (k13 + (1 : Int)))) (List.getD aC (Int.toNat k13) default), IntKind.i64.wrap (k13 + (1 : Int)))))
  (some (.inr aC))

noncomputable def kZ (cmp4 : aB → aB → Option Int) (rec : (List aB) → Int → Int → Int → Option (List aB)) (aC : List aB) (i10 : Int) (k13 : Int) : Option (List aB) :=
  (lp (fun s => lK cmp4 rec i10 s.1 s.2) (aC, k13)).bind (fun rr => iA cmp4 rec rr)

noncomputable def gZ (cmp4 : aB → aB → Option Int) (rec : (List aB) → Int → Int → Int → Option (List aB)) (aC : List aB) (a1 : Int) (i10 : Int) : Option (List aB) :=
  kZ cmp4 rec aC i10 a1

noncomputable def lB (cmp4 : aB → aB → Option Int) (rec : (List aB) → Int → Int → Int → Option (List aB)) (a1 : Int) (aC : List aB) (i10 : Int) (j11 : Int) : Option ((List aB × Int × Int) ⊕ ((List aB × Int))) :=
  cond (decide (i10 < j11))
  (bI (0 ≤ (1 : Int)) <|
  bI (0 ≤ (IntKind.i64.wrap (Int.fdiv (IntKind.u64.wrap (IntKind.i64.wrap (i10 + j11))) (2 ^ (min (Int.toNat (1 : Int)) 64)))) ∧ (IntKind.i64.wrap (Int.fdiv (IntKind.u64.wrap (IntKind.i64.wrap (i10 + j11))) (2 ^ (min (Int.toNat (1 : Int)) 64)))) < ((List.length aC : Nat) : Int)) <|
  bI (0 ≤ a1 ∧ a1 < ((List.length aC : Nat) : Int)) <|
  (cmp4 (List.getD aC (Int.toNat (IntKind.i64.wrap (Int.fdiv (IntKind.u64.wrap (IntKind.i64.wrap (i10 + j11))) (2 ^ (min (Int.toNat (1 : Int)) 64))))) default) (List.getD aC (Int.toNat a1) default)).bind fun x47 =>
  cond (decide (x47 < (0 : Int)))
  (some (.inl (aC, IntKind.i64.wrap ((IntKind.i64.wrap (Int.fdiv (IntKind.u64.wrap (IntKind.i64.wrap (i10 + j11))) (2 ^ (min (Int.toNat (1 : Int)) 64)))) + (1 : Int)), j11)))
  (some (.inl (aC, i10, IntKind.i64.wrap (Int.fdiv (IntKind.u64.wrap (IntKind.i64.wrap (i10 + j11))) (2 ^ (min (Int.toNat (1 : Int)) 64)))))))
  (some (.inr (aC, i10)))

noncomputable def lW (cmp4 : aB → aB → Option Int) (rec : (List aB) → Int → Int → Int → Option (List aB)) (aC : List aB) (a1 : Int) (i10 : Int) (j11 : Int) : Option (List aB) :=
  (lp (fun s => lB cmp4 rec a1 s.1 s.2.1 s.2.2) (aC, i10, j11)).bind (fun rr => gZ cmp4 rec rr.1 a1 rr.2)

noncomputable def eK (cmp4 : aB → aB → Option Int) (rec : (List aB) → Int → Int → Int → Option (List aB)) (aC : (List aB)) (a1 : Int) (m2 : Int) (b3 : Int) : Option (List aB) :=
  cond (decide ((IntKind.i64.wrap (m2 - a1)) = (1 : Int)))
  (lW cmp4 rec aC a1 m2 b3)
  (mD cmp4 rec aC a1 m2 b3)

noncomputable def iT (cmp4 : aB → aB → Option Int) : Nat → (List aB) → Int → Int → Int → Option (List aB)
  | 0 => fun _ _ _ _ => none
  | k + 1 => eK cmp4 (iT cmp4 k)

noncomputable def fI (aC : (List aB)) (a1 : Int) (m2 : Int) (b3 : Int) (cmp4 : aB → aB → Option Int) : Option (List aB) := MP (fun k => iT cmp4 k aC a1 m2 b3)

noncomputable def jP (cmp2 : aB → aB → Option Int) (aC : List aB) (n1 : Int) (aQ : Int) : Option ((List aB × Int) ⊕ ((List aB))) :=
  some (.inl (aC, IntKind.i64.wrap (aQ * (2 : Int))))

noncomputable def fP (cmp2 : aB → aB → Option Int) (aC : List aB) (n1 : Int) (aQ : Int) (a7 : Int) : Option ((List aB × Int) ⊕ ((List aB))) :=
  cond (decide ((IntKind.i64.wrap (a7 + aQ)) < n1))
  ((fI aC a7 (IntKind.i64.wrap (a7 + aQ)) n1 cmp2).bind fun x6 =>
  jP cmp2 x6 n1 aQ)
  (jP cmp2 aC n1 aQ)

noncomputable def jW (cmp2 : aB → aB → Option Int) (n1 : Int) (aQ : Int) (aC : List aB) (a7 : Int) (b8 : Int) : Option ((List aB × Int × Int) ⊕ ((List aB × Int))) :=
  cond (decide (b8 ≤ n1))
  ((fI aC a7 (IntKind.i64.wrap (a7 + aQ)) b8 cmp2).bind fun x10 =>
  some (.inl (x10, b8, IntKind.i64.wrap (b8 + (IntKind.i64.wrap ((2 : Int) * aQ))))))
  (some (.inr (aC, a7)))

noncomputable def jS (cmp2 : aB → aB → Option Int) (aC : List aB) (n1 : Int) (aQ : Int) (a7 : Int) (b8 : Int) : Option ((List aB × Int) ⊕ ((List aB))) :=
  (lp (fun s => jW cmp2 n1 aQ s.1 s.2.1 s.2.2) (aC, a7, b8)).bind (fun rr => fP cmp2 rr.1 n1 aQ rr.2)

noncomputable def jT (cmp2 : aB → aB → Option Int) (n1 : Int) (aC : List aB) (aQ : Int) : Option ((List aB × Int) ⊕ ((List aB))) :=
  cond (decide (aQ < n1))
  (jS cmp2 aC n1 aQ (0 : Int) (IntKind.i64.wrap ((2 : Int) * aQ)))
  (some (.inr aC))

noncomputable def jJ (cmp2 : aB → aB → Option Int) (aC : List aB) (n1 : Int) (aQ : Int) : Option (List aB) :=
  (lp (fun s => jT cmp2 n1 s.1 s.2) (aC, aQ)).bind (fun rr => some rr)

noncomputable def fR (cmp2 : aB → aB → Option Int) (aC : List aB) (n1 : Int) (aQ : Int) (a7 : Int) : Option (List aB) :=
  (eA aC a7 n1 cmp2).bind fun x1 =>
  jJ cmp2 x1 n1 aQ

noncomputable def jN (cmp2 : aB → aB → Option Int) (n1 : Int) (aQ : Int) (aC : List aB) (a7 : Int) (b8 : Int) : Option ((List aB × Int × Int) ⊕ ((List aB × Int))) :=
  cond (decide (b8 ≤ n1))
  ((eA aC a7 b8 cmp2).bind fun x14 =>
  some (.inl (x14, b8, IntKind.i64.wrap (b8 + aQ))))
  (some (.inr (aC, a7)))

noncomputable def jV (cmp2 : aB → aB → Option Int) (aC : List aB) (n1 : Int) (aQ : Int) (a7 : Int) (b8 : Int) : Option (List aB) :=
  (lp (fun s => jN cmp2 n1 aQ s.1 s.2.1 s.2.2) (aC, a7, b8)).bind (fun rr => fR cmp2 rr.1 n1 aQ rr.2)

noncomputable def fX (aC : (List aB)) (n1 : Int) (cmp2 : aB → aB → Option Int) : Option (List aB) :=
  jV cmp2 aC n1 (20 : Int) (0 : Int) (20 : Int)

noncomputable def dP (x0 : (List aB)) (cmp1 : aB → aB → Option Int) : Option (List aB) :=
  (fX x0 ((List.length x0 : Nat) : Int) cmp1).bind fun x1 =>
  some x1

noncomputable def vD (qA : Int) : Option Int :=
  some qA

noncomputable def iV (qA : Int) (t6 : (List Int)) (t7 : Int) (t8 : Int) : Option ((Int) ⊕ (Unit ⊕ Int)) :=
  cond (decide (t8 < t7))
  (bI (0 ≤ t8 ∧ t8 < ((List.length t6 : Nat) : Int)) <|
  cond (!decide ((List.getD t6 (Int.toNat t8) default) = qA))
  (some (.inr (.inr (List.getD t6 (Int.toNat t8) default))))
  (some (.inl (IntKind.i64.wrap (t8 + (1 : Int))))))
  (some (.inr (.inl ())))

noncomputable def zF (qA : Int) (t6 : (List Int)) (t7 : Int) (t8 : Int) : Option Int :=
  (lp (fun s => iV qA t6 t7 s) t8).bind (Sum.elim (fun rr => vD qA) (fun rr => some rr))

noncomputable def xD (AZ : (List Int)) : Option Int :=
  zF (0 : Int) AZ ((List.length AZ : Nat) : Int) (0 : Int)

noncomputable def oR (x0 : aB) (y1 : aB) : Option Int :=
  (sQ x0.Row y1.Row).bind fun x1 =>
  (kL x0.At y1.At).bind fun x4 =>
  (xD ([x1, x4])).bind fun x7 =>
  some x7

noncomputable def CE (l0 : List aB) : Option (List aB) :=
  some l0

noncomputable def rM (r1 : (List aI)) (t9 : (List aD)) (t10 : Int) (l0 : List aB) (t11 : Int) : Option ((List aB × Int) ⊕ ((List aB))) :=
  cond (decide (t11 < t10))
  (bI (0 ≤ t11 ∧ t11 < ((List.length t9 : Nat) : Int)) <|
  (xR r1).bind fun x7 =>
  bI ((List.length l0 + List.length ([aB.mk x7 ((List.getD t9 (Int.toNat t11) default).At) ((List.getD t9 (Int.toNat t11) default).Net)])) * 40 ≤ 140737488355328 ∧ List.length l0 + List.length ([aB.mk x7 ((List.getD t9 (Int.toNat t11) default).At) ((List.getD t9 (Int.toNat t11) default).Net)]) ≤ 9223372036854775807) <|
  some (.inl (l0 ++ ([aB.mk x7 ((List.getD t9 (Int.toNat t11) default).At) ((List.getD t9 (Int.toNat t11) default).Net)]), IntKind.i64.wrap (t11 + (1 : Int)))))
  (some (.inr l0))

noncomputable def CP (l0 : List aB) (r1 : (List aI)) (t9 : (List aD)) (t10 : Int) (t11 : Int) : Option (List aB) :=
  (lp (fun s => rM r1 t9 t10 s.1 s.2) (l0, t11)).bind (fun rr => CE rr)

noncomputable def AQ (l0 : (List aB)) (r1 : (List aI)) (f2 : (List aD)) : Option (List aB) :=
  CP l0 r1 f2 ((List.length f2 : Nat) : Int) (0 : Int)

noncomputable def pJ (by1 : (List aD) → Option ((List aD) × Int)) (lM : (List aB)) (t4 : (List aB)) (t5 : Int) (out6 : List aB) (t14 : (List aI)) (t15 : (List aD)) : Option (((List aB) × Int × List aB) ⊕ ((List aB) × Int × List aB)) :=
  (by1 t15).bind fun x8 =>
  cond (!decide (x8.2 = (0 : Int)))
  (some (.inr ([], x8.2, out6)))
  ((AQ out6 t14 x8.1).bind fun x12 =>
  cond (decide ((4096 : Int) < ((List.length x12 : Nat) : Int)))
  (some (.inr ([], (7 : Int), x12)))
  (some (.inl (t4, t5, x12))))

noncomputable def xY (by1 : (List aD) → Option ((List aD) × Int)) (t4 : (List aB)) (t5 : Int) (out6 : List aB) (lM : (List aB)) : Option ((List aB) × Int) :=
  (qO (fun st t14 t15 => rnd (fun (s : (List aB) × Int × List aB) => pJ by1 lM s.1 s.2.1 s.2.2 t14 t15) st) lM (.inl (t4, t5, out6))).bind (Sum.elim (fun (s : (List aB) × Int × List aB) =>
  (some (s.2.2, (0 : Int))))
  (fun (s : (List aB) × Int × List aB) =>
  (some (s.1, s.2.1))))

noncomputable def vR (l0 : (List aB)) (by1 : (List aD) → Option ((List aD) × Int)) : Option ((List aB) × Int) :=
  (wA l0).bind fun x5 =>
  xY by1 ([]) 0 ([] : List aB) x5

noncomputable def eE (f1 : aD → Option Bool)  : Option Int :=
  some (-1 : Int)

noncomputable def gH (f1 : aD → Option Bool) (s0 : (List aD)) (t7 : Int) (t8 : Int) : Option ((Int) ⊕ (Unit ⊕ Int)) :=
  cond (decide (t8 < t7))
  (bI (0 ≤ t8 ∧ t8 < ((List.length s0 : Nat) : Int)) <|
  (f1 (List.getD s0 (Int.toNat t8) default)).bind fun x3 =>
  cond x3
  (some (.inr (.inr t8)))
  (some (.inl (IntKind.i64.wrap (t8 + (1 : Int))))))
  (some (.inr (.inl ())))

noncomputable def gF (f1 : aD → Option Bool) (s0 : (List aD)) (t7 : Int) (t8 : Int) : Option Int :=
  (lp (fun s => gH f1 s0 t7 s) t8).bind (Sum.elim (fun rr => eE f1 ) (fun rr => some rr))

noncomputable def gN (s0 : (List aD)) (f1 : aD → Option Bool) : Option Int :=
  gF f1 s0 ((List.length s0 : Nat) : Int) (0 : Int)

noncomputable def dG (s0 : (List aD)) (f1 : aD → Option Bool) : Option Bool :=
  (gN s0 f1).bind fun x1 =>
  some (decide ((0 : Int) ≤ x1))

noncomputable def vG (j0 : aD) : Option Bool :=
  (yX j0.Net).bind fun x1 =>
  some (!x1)

noncomputable def vM (j0 : aD) : Option Bool :=
  some ((decide (j0.At < (-1 : Int))) || (decide ((1125899906842624 : Int) < j0.At)))

noncomputable def fO (s0 : (List aD)) : Option (List aD) :=
  bI (List.length s0 * 16 ≤ 140737488355328 ∧ List.length s0 ≤ 9223372036854775807) <|
  some s0

noncomputable def fK (cmp3 : aD → aD → Option Int) (aC : List aD) (a1 : Int) (b2 : Int) (i8 : Int) : Option ((List aD × Int) ⊕ ((List aD))) :=
  some (.inl (aC, IntKind.i64.wrap (i8 + (1 : Int))))

noncomputable def kA (cmp3 : aD → aD → Option Int) (a1 : Int) (b2 : Int) (i8 : Int) (aC : List aD) (j9 : Int) : Option ((List aD × Int) ⊕ ((List aD))) :=
  bI ((((decide (a1 < j9))) = true → 0 ≤ j9 ∧ j9 < ((List.length aC : Nat) : Int))) <|
  bI ((((decide (a1 < j9))) = true → 0 ≤ (IntKind.i64.wrap (j9 - (1 : Int))) ∧ (IntKind.i64.wrap (j9 - (1 : Int))) < ((List.length aC : Nat) : Int))) <|
  (dU (decide (a1 < j9)) (cmp3 (List.getD aC (Int.toNat j9) default) (List.getD aC (Int.toNat (IntKind.i64.wrap (j9 - (1 : Int)))) default))).bind fun x4 =>
  cond ((decide (a1 < j9)) && (decide (x4 < (0 : Int))))
  (bI (0 ≤ (IntKind.i64.wrap (j9 - (1 : Int))) ∧ (IntKind.i64.wrap (j9 - (1 : Int))) < ((List.length aC : Nat) : Int)) <|
  bI (0 ≤ j9 ∧ j9 < ((List.length aC : Nat) : Int)) <|
  bI (0 ≤ j9 ∧ j9 < ((List.length aC : Nat) : Int)) <|
  bI (0 ≤ (IntKind.i64.wrap (j9 - (1 : Int))) ∧ (IntKind.i64.wrap (j9 - (1 : Int))) < ((List.length aC : Nat) : Int)) <|
  some (.inl (List.set (List.set aC (Int.toNat j9) (List.getD aC (Int.toNat (IntKind.i64.wrap (j9 - (1 : Int)))) default)) (Int.toNat (IntKind.i64.wrap (j9 - (1 : Int)))) (List.getD aC (Int.toNat j9) default), IntKind.i64.wrap (j9 - (1 : Int)))))
  (some (.inr aC))

noncomputable def jZ (cmp3 : aD → aD → Option Int) (aC : List aD) (a1 : Int) (b2 : Int) (i8 : Int) (j9 : Int) : Option ((List aD × Int) ⊕ ((List aD))) :=
  (lp (fun s => kA cmp3 a1 b2 i8 s.1 s.2) (aC, j9)).bind (fun rr => fK cmp3 rr a1 b2 i8)

noncomputable def kC (cmp3 : aD → aD → Option Int) (a1 : Int) (b2 : Int) (aC : List aD) (i8 : Int) : Option ((List aD × Int) ⊕ ((List aD))) :=
  cond (decide (i8 < b2))
  (jZ cmp3 aC a1 b2 i8 i8)
  (some (.inr aC))

noncomputable def kB (cmp3 : aD → aD → Option Int) (aC : List aD) (a1 : Int) (b2 : Int) (i8 : Int) : Option (List aD) :=
  (lp (fun s => kC cmp3 a1 b2 s.1 s.2) (aC, i8)).bind (fun rr => some rr)

noncomputable def eB (aC : (List aD)) (a1 : Int) (b2 : Int) (cmp3 : aD → aD → Option Int) : Option (List aD) :=
  kB cmp3 aC a1 b2 (IntKind.i64.wrap (a1 + (1 : Int)))

noncomputable def lZ (cmp4 : aD → aD → Option Int) (a1 : Int) (b2 : Int) (n3 : Int) (aC : List aD) (i10 : Int) : Option ((List aD × Int) ⊕ ((List aD))) :=
  cond (decide (i10 < n3))
  (bI (0 ≤ (IntKind.i64.wrap (b2 + i10)) ∧ (IntKind.i64.wrap (b2 + i10)) < ((List.length aC : Nat) : Int)) <|
  bI (0 ≤ (IntKind.i64.wrap (a1 + i10)) ∧ (IntKind.i64.wrap (a1 + i10)) < ((List.length aC : Nat) : Int)) <|
  bI (0 ≤ (IntKind.i64.wrap (a1 + i10)) ∧ (IntKind.i64.wrap (a1 + i10)) < ((List.length aC : Nat) : Int)) <|
  bI (0 ≤ (IntKind.i64.wrap (b2 + i10)) ∧ (IntKind.i64.wrap (b2 + i10)) < ((List.length aC : Nat) : Int)) <|
  some (.inl (List.set (List.set aC (Int.toNat (IntKind.i64.wrap (a1 + i10))) (List.getD aC (Int.toNat (IntKind.i64.wrap (b2 + i10))) default)) (Int.toNat (IntKind.i64.wrap (b2 + i10))) (List.getD aC (Int.toNat (IntKind.i64.wrap (a1 + i10))) default), IntKind.i64.wrap (i10 + (1 : Int)))))
  (some (.inr aC))

noncomputable def lC (cmp4 : aD → aD → Option Int) (aC : List aD) (a1 : Int) (b2 : Int) (n3 : Int) (i10 : Int) : Option (List aD) :=
  (lp (fun s => lZ cmp4 a1 b2 n3 s.1 s.2) (aC, i10)).bind (fun rr => some rr)

noncomputable def eW (aC : (List aD)) (a1 : Int) (b2 : Int) (n3 : Int) (cmp4 : aD → aD → Option Int) : Option (List aD) :=
  lC cmp4 aC a1 b2 n3 (0 : Int)

noncomputable def jQ (cmp4 : aD → aD → Option Int) (aC : List aD) (m2 : Int) (i10 : Int) : Option (List aD) :=
  (eW aC (IntKind.i64.wrap (m2 - i10)) m2 i10 cmp4).bind fun x1 =>
  some x1

noncomputable def nK (cmp4 : aD → aD → Option Int) (m2 : Int) (aC : List aD) (i10 : Int) (j11 : Int) : Option ((List aD × Int × Int) ⊕ ((List aD × Int))) :=
  cond (!decide (i10 = j11))
  (cond (decide (j11 < i10))
  ((eW aC (IntKind.i64.wrap (m2 - i10)) m2 j11 cmp4).bind fun x6 =>
  some (.inl (x6, IntKind.i64.wrap (i10 - j11), j11)))
  ((eW aC (IntKind.i64.wrap (m2 - i10)) (IntKind.i64.wrap ((IntKind.i64.wrap (m2 + j11)) - i10)) i10 cmp4).bind fun x9 =>
  some (.inl (x9, i10, IntKind.i64.wrap (j11 - i10)))))
  (some (.inr (aC, i10)))

noncomputable def nL (cmp4 : aD → aD → Option Int) (aC : List aD) (m2 : Int) (i10 : Int) (j11 : Int) : Option (List aD) :=
  (lp (fun s => nK cmp4 m2 s.1 s.2.1 s.2.2) (aC, i10, j11)).bind (fun rr => jQ cmp4 rr.1 m2 rr.2)

noncomputable def nV (aC : (List aD)) (a1 : Int) (m2 : Int) (b3 : Int) (cmp4 : aD → aD → Option Int) : Option (List aD) :=
  nL cmp4 aC m2 (IntKind.i64.wrap (m2 - a1)) (IntKind.i64.wrap (b3 - m2))

noncomputable def iR (cmp4 : aD → aD → Option Int) (rec : (List aD) → Int → Int → Int → Option (List aD)) (aC : List aD) (b3 : Int) (bY : Int) (eN : Int) : Option (List aD) :=
  cond ((decide (bY < eN)) && (decide (eN < b3)))
  ((rec aC bY eN b3).bind fun x3 =>
  some x3)
  (some aC)

noncomputable def iN (cmp4 : aD → aD → Option Int) (rec : (List aD) → Int → Int → Int → Option (List aD)) (aC : List aD) (a1 : Int) (b3 : Int) (bY : Int) (aZ : Int) (eN : Int) : Option (List aD) :=
  cond ((decide (a1 < aZ)) && (decide (aZ < bY)))
  ((rec aC a1 aZ bY).bind fun x7 =>
  iR cmp4 rec x7 b3 bY eN)
  (iR cmp4 rec aC b3 bY eN)

noncomputable def iU (cmp4 : aD → aD → Option Int) (rec : (List aD) → Int → Int → Int → Option (List aD)) (aC : List aD) (a1 : Int) (m2 : Int) (b3 : Int) (bY : Int) (n19 : Int) (aZ : Int) : Option (List aD) :=
  cond ((decide (aZ < m2)) && (decide (m2 < (IntKind.i64.wrap (n19 - aZ)))))
  ((nV aC aZ m2 (IntKind.i64.wrap (n19 - aZ)) cmp4).bind fun x11 =>
  iN cmp4 rec x11 a1 b3 bY aZ (IntKind.i64.wrap (n19 - aZ)))
  (iN cmp4 rec aC a1 b3 bY aZ (IntKind.i64.wrap (n19 - aZ)))

noncomputable def mH (cmp4 : aD → aD → Option Int) (rec : (List aD) → Int → Int → Int → Option (List aD)) (a1 : Int) (m2 : Int) (b3 : Int) (bY : Int) (n19 : Int) (p22 : Int) (aC : List aD) (aZ : Int) (r21 : Int) : Option ((List aD × Int × Int) ⊕ ((List aD × Int))) :=
  cond (decide (aZ < r21))
  (bI (0 ≤ (1 : Int)) <|
  bI (0 ≤ (IntKind.i64.wrap (p22 - (IntKind.i64.wrap (Int.fdiv (IntKind.u64.wrap (IntKind.i64.wrap (aZ + r21))) (2 ^ (min (Int.toNat (1 : Int)) 64)))))) ∧ (IntKind.i64.wrap (p22 - (IntKind.i64.wrap (Int.fdiv (IntKind.u64.wrap (IntKind.i64.wrap (aZ + r21))) (2 ^ (min (Int.toNat (1 : Int)) 64)))))) < ((List.length aC : Nat) : Int)) <|
  bI (0 ≤ (IntKind.i64.wrap (Int.fdiv (IntKind.u64.wrap (IntKind.i64.wrap (aZ + r21))) (2 ^ (min (Int.toNat (1 : Int)) 64)))) ∧ (IntKind.i64.wrap (Int.fdiv (IntKind.u64.wrap (IntKind.i64.wrap (aZ + r21))) (2 ^ (min (Int.toNat (1 : Int)) 64)))) < ((List.length aC : Nat) : Int)) <|
  (cmp4 (List.getD aC (Int.toNat (IntKind.i64.wrap (p22 - (IntKind.i64.wrap (Int.fdiv (IntKind.u64.wrap (IntKind.i64.wrap (aZ + r21))) (2 ^ (min (Int.toNat (1 : Int)) 64))))))) default) (List.getD aC (Int.toNat (IntKind.i64.wrap (Int.fdiv (IntKind.u64.wrap (IntKind.i64.wrap (aZ + r21))) (2 ^ (min (Int.toNat (1 : Int)) 64))))) default)).bind fun x18 =>
  cond (!(decide (x18 < (0 : Int))))
  (some (.inl (aC, IntKind.i64.wrap ((IntKind.i64.wrap (Int.fdiv (IntKind.u64.wrap (IntKind.i64.wrap (aZ + r21))) (2 ^ (min (Int.toNat (1 : Int)) 64)))) + (1 : Int)), r21)))
  (some (.inl (aC, aZ, IntKind.i64.wrap (Int.fdiv (IntKind.u64.wrap (IntKind.i64.wrap (aZ + r21))) (2 ^ (min (Int.toNat (1 : Int)) 64)))))))
  (some (.inr (aC, aZ)))

noncomputable def mE (cmp4 : aD → aD → Option Int) (rec : (List aD) → Int → Int → Int → Option (List aD)) (aC : List aD) (a1 : Int) (m2 : Int) (b3 : Int) (bY : Int) (n19 : Int) (aZ : Int) (r21 : Int) (p22 : Int) : Option (List aD) :=
  (lp (fun s => mH cmp4 rec a1 m2 b3 bY n19 p22 s.1 s.2.1 s.2.2) (aC, aZ, r21)).bind (fun rr => iU cmp4 rec rr.1 a1 m2 b3 bY n19 rr.2)

noncomputable def iC (cmp4 : aD → aD → Option Int) (rec : (List aD) → Int → Int → Int → Option (List aD)) (aC : List aD) (a1 : Int) (m2 : Int) (b3 : Int) (bY : Int) (n19 : Int) (aZ : Int) (r21 : Int) : Option (List aD) :=
  mE cmp4 rec aC a1 m2 b3 bY n19 aZ r21 (IntKind.i64.wrap (n19 - (1 : Int)))

noncomputable def mJ (cmp4 : aD → aD → Option Int) (rec : (List aD) → Int → Int → Int → Option (List aD)) (aC : List aD) (a1 : Int) (m2 : Int) (b3 : Int) : Option (List aD) :=
  bI (0 ≤ (1 : Int)) <|
  cond (decide ((IntKind.i64.wrap (Int.fdiv (IntKind.u64.wrap (IntKind.i64.wrap (a1 + b3))) (2 ^ (min (Int.toNat (1 : Int)) 64)))) < m2))
  (iC cmp4 rec aC a1 m2 b3 (IntKind.i64.wrap (Int.fdiv (IntKind.u64.wrap (IntKind.i64.wrap (a1 + b3))) (2 ^ (min (Int.toNat (1 : Int)) 64)))) (IntKind.i64.wrap ((IntKind.i64.wrap (Int.fdiv (IntKind.u64.wrap (IntKind.i64.wrap (a1 + b3))) (2 ^ (min (Int.toNat (1 : Int)) 64)))) + m2)) (IntKind.i64.wrap ((IntKind.i64.wrap ((IntKind.i64.wrap (Int.fdiv (IntKind.u64.wrap (IntKind.i64.wrap (a1 + b3))) (2 ^ (min (Int.toNat (1 : Int)) 64)))) + m2)) - b3)) (IntKind.i64.wrap (Int.fdiv (IntKind.u64.wrap (IntKind.i64.wrap (a1 + b3))) (2 ^ (min (Int.toNat (1 : Int)) 64)))))
  (iC cmp4 rec aC a1 m2 b3 (IntKind.i64.wrap (Int.fdiv (IntKind.u64.wrap (IntKind.i64.wrap (a1 + b3))) (2 ^ (min (Int.toNat (1 : Int)) 64)))) (IntKind.i64.wrap ((IntKind.i64.wrap (Int.fdiv (IntKind.u64.wrap (IntKind.i64.wrap (a1 + b3))) (2 ^ (min (Int.toNat (1 : Int)) 64)))) + m2)) a1 m2)

noncomputable def iS (cmp4 : aD → aD → Option Int) (rec : (List aD) → Int → Int → Int → Option (List aD)) (aC : List aD) : Option (List aD) :=
  some aC

noncomputable def lV (cmp4 : aD → aD → Option Int) (rec : (List aD) → Int → Int → Int → Option (List aD)) (i14 : Int) (aC : List aD) (k17 : Int) : Option ((List aD × Int) ⊕ ((List aD))) :=
  cond (decide (i14 < k17))
  (bI (0 ≤ (IntKind.i64.wrap (k17 - (1 : Int))) ∧ (IntKind.i64.wrap (k17 - (1 : Int))) < ((List.length aC : Nat) : Int)) <|
  bI (0 ≤ k17 ∧ k17 < ((List.length aC : Nat) : Int)) <|
  bI (0 ≤ k17 ∧ k17 < ((List.length aC : Nat) : Int)) <|
  bI (0 ≤ (IntKind.i64.wrap (k17 - (1 : Int))) ∧ (IntKind.i64.wrap (k17 - (1 : Int))) < ((List.length aC : Nat) : Int)) <|
  some (.inl (List.set (List.set aC (Int.toNat k17) (List.getD aC (Int.toNat (IntKind.i64.wrap (k17 - (1 : Int)))) default)) (Int.toNat (IntKind.i64.wrap (k17 - (1 : Int)))) (List.getD aC (Int.toNat k17) default), IntKind.i64.wrap (k17 - (1 : Int)))))
  (some (.inr aC))

noncomputable def lR (cmp4 : aD → aD → Option Int) (rec : (List aD) → Int → Int → Int → Option (List aD)) (aC : List aD) (i14 : Int) (k17 : Int) : Option (List aD) :=
  (lp (fun s => lV cmp4 rec i14 s.1 s.2) (aC, k17)).bind (fun rr => iS cmp4 rec rr)

noncomputable def iI (cmp4 : aD → aD → Option Int) (rec : (List aD) → Int → Int → Int → Option (List aD)) (aC : List aD) (m2 : Int) (i14 : Int) : Option (List aD) :=
  lR cmp4 rec aC i14 m2

noncomputable def lX (cmp4 : aD → aD → Option Int) (rec : (List aD) → Int → Int → Int → Option (List aD)) (m2 : Int) (aC : List aD) (i14 : Int) (j15 : Int) : Option ((List aD × Int × Int) ⊕ ((List aD × Int))) :=
  cond (decide (i14 < j15))
  (bI (0 ≤ (1 : Int)) <|
  bI (0 ≤ m2 ∧ m2 < ((List.length aC : Nat) : Int)) <|
  bI (0 ≤ (IntKind.i64.wrap (Int.fdiv (IntKind.u64.wrap (IntKind.i64.wrap (i14 + j15))) (2 ^ (min (Int.toNat (1 : Int)) 64)))) ∧ (IntKind.i64.wrap (Int.fdiv (IntKind.u64.wrap (IntKind.i64.wrap (i14 + j15))) (2 ^ (min (Int.toNat (1 : Int)) 64)))) < ((List.length aC : Nat) : Int)) <|
  (cmp4 (List.getD aC (Int.toNat m2) default) (List.getD aC (Int.toNat (IntKind.i64.wrap (Int.fdiv (IntKind.u64.wrap (IntKind.i64.wrap (i14 + j15))) (2 ^ (min (Int.toNat (1 : Int)) 64))))) default)).bind fun x33 =>
  cond (!(decide (x33 < (0 : Int))))
  (some (.inl (aC, IntKind.i64.wrap ((IntKind.i64.wrap (Int.fdiv (IntKind.u64.wrap (IntKind.i64.wrap (i14 + j15))) (2 ^ (min (Int.toNat (1 : Int)) 64)))) + (1 : Int)), j15)))
  (some (.inl (aC, i14, IntKind.i64.wrap (Int.fdiv (IntKind.u64.wrap (IntKind.i64.wrap (i14 + j15))) (2 ^ (min (Int.toNat (1 : Int)) 64)))))))
  (some (.inr (aC, i14)))

noncomputable def lO (cmp4 : aD → aD → Option Int) (rec : (List aD) → Int → Int → Int → Option (List aD)) (aC : List aD) (m2 : Int) (i14 : Int) (j15 : Int) : Option (List aD) :=
  (lp (fun s => lX cmp4 rec m2 s.1 s.2.1 s.2.2) (aC, i14, j15)).bind (fun rr => iI cmp4 rec rr.1 m2 rr.2)

noncomputable def mK (cmp4 : aD → aD → Option Int) (rec : (List aD) → Int → Int → Int → Option (List aD)) (aC : List aD) (a1 : Int) (m2 : Int) (b3 : Int) : Option (List aD) :=
  cond (decide ((IntKind.i64.wrap (b3 - m2)) = (1 : Int)))
  (lO cmp4 rec aC m2 a1 m2)
  (mJ cmp4 rec aC a1 m2 b3)

noncomputable def hM (cmp4 : aD → aD → Option Int) (rec : (List aD) → Int → Int → Int → Option (List aD)) (aC : List aD) : Option (List aD) :=
  some aC

noncomputable def lA (cmp4 : aD → aD → Option Int) (rec : (List aD) → Int → Int → Int → Option (List aD)) (i10 : Int) (aC : List aD) (k13 : Int) : Option ((List aD × Int) ⊕ ((List aD))) :=
  cond (decide (k13 < (IntKind.i64.wrap (i10 - (1 : Int)))))
  (bI (0 ≤ (IntKind.i64.wrap (k13 + (1 : Int))) ∧ (IntKind.i64.wrap (k13 + (1 : Int))) < ((List.length aC : Nat) : Int)) <|
  bI (0 ≤ k13 ∧ k13 < ((List.length aC : Nat) : Int)) <|
  bI (0 ≤ k13 ∧ k13 < ((List.length aC : Nat) : Int)) <|
  bI (0 ≤ (IntKind.i64.wrap (k13 + (1 : Int))) ∧ (IntKind.i64.wrap (k13 + (1 : Int))) < ((List.length aC : Nat) : Int)) <|
  some (.inl (List.set (List.set aC (Int.toNat k13) (List.getD aC (Int.toNat (IntKind.i64.wrap (k13 + (1 : Int)))) default)) (Int.toNat (IntKind.i64.wrap (k13 + (1 : Int)))) (List.getD aC (Int.toNat k13) default), IntKind.i64.wrap (k13 + (1 : Int)))))
  (some (.inr aC))

noncomputable def lI (cmp4 : aD → aD → Option Int) (rec : (List aD) → Int → Int → Int → Option (List aD)) (aC : List aD) (i10 : Int) (k13 : Int) : Option (List aD) :=
  (lp (fun s => lA cmp4 rec i10 s.1 s.2) (aC, k13)).bind (fun rr => hM cmp4 rec rr)

noncomputable def hU (cmp4 : aD → aD → Option Int) (rec : (List aD) → Int → Int → Int → Option (List aD)) (aC : List aD) (a1 : Int) (i10 : Int) : Option (List aD) :=
  lI cmp4 rec aC i10 a1

noncomputable def kY (cmp4 : aD → aD → Option Int) (rec : (List aD) → Int → Int → Int → Option (List aD)) (a1 : Int) (aC : List aD) (i10 : Int) (j11 : Int) : Option ((List aD × Int × Int) ⊕ ((List aD × Int))) :=
  cond (decide (i10 < j11))
  (bI (0 ≤ (1 : Int)) <|
  bI (0 ≤ (IntKind.i64.wrap (Int.fdiv (IntKind.u64.wrap (IntKind.i64.wrap (i10 + j11))) (2 ^ (min (Int.toNat (1 : Int)) 64)))) ∧ (IntKind.i64.wrap (Int.fdiv (IntKind.u64.wrap (IntKind.i64.wrap (i10 + j11))) (2 ^ (min (Int.toNat (1 : Int)) 64)))) < ((List.length aC : Nat) : Int)) <|
  bI (0 ≤ a1 ∧ a1 < ((List.length aC : Nat) : Int)) <|
  (cmp4 (List.getD aC (Int.toNat (IntKind.i64.wrap (Int.fdiv (IntKind.u64.wrap (IntKind.i64.wrap (i10 + j11))) (2 ^ (min (Int.toNat (1 : Int)) 64))))) default) (List.getD aC (Int.toNat a1) default)).bind fun x47 =>
  cond (decide (x47 < (0 : Int)))
  (some (.inl (aC, IntKind.i64.wrap ((IntKind.i64.wrap (Int.fdiv (IntKind.u64.wrap (IntKind.i64.wrap (i10 + j11))) (2 ^ (min (Int.toNat (1 : Int)) 64)))) + (1 : Int)), j11)))
  (some (.inl (aC, i10, IntKind.i64.wrap (Int.fdiv (IntKind.u64.wrap (IntKind.i64.wrap (i10 + j11))) (2 ^ (min (Int.toNat (1 : Int)) 64)))))))
  (some (.inr (aC, i10)))

noncomputable def lT (cmp4 : aD → aD → Option Int) (rec : (List aD) → Int → Int → Int → Option (List aD)) (aC : List aD) (a1 : Int) (i10 : Int) (j11 : Int) : Option (List aD) :=
  (lp (fun s => kY cmp4 rec a1 s.1 s.2.1 s.2.2) (aC, i10, j11)).bind (fun rr => hU cmp4 rec rr.1 a1 rr.2)

noncomputable def eH (cmp4 : aD → aD → Option Int) (rec : (List aD) → Int → Int → Int → Option (List aD)) (aC : (List aD)) (a1 : Int) (m2 : Int) (b3 : Int) : Option (List aD) :=
  cond (decide ((IntKind.i64.wrap (m2 - a1)) = (1 : Int)))
  (lT cmp4 rec aC a1 m2 b3)
  (mK cmp4 rec aC a1 m2 b3)

noncomputable def iF (cmp4 : aD → aD → Option Int) : Nat → (List aD) → Int → Int → Int → Option (List aD)
  | 0 => fun _ _ _ _ => none
  | k + 1 => eH cmp4 (iF cmp4 k)

noncomputable def fH (aC : (List aD)) (a1 : Int) (m2 : Int) (b3 : Int) (cmp4 : aD → aD → Option Int) : Option (List aD) := MP (fun k => iF cmp4 k aC a1 m2 b3)

noncomputable def jF (cmp2 : aD → aD → Option Int) (aC : List aD) (n1 : Int) (aQ : Int) : Option ((List aD × Int) ⊕ ((List aD))) :=
  some (.inl (aC, IntKind.i64.wrap (aQ * (2 : Int))))

noncomputable def fQ (cmp2 : aD → aD → Option Int) (aC : List aD) (n1 : Int) (aQ : Int) (a7 : Int) : Option ((List aD × Int) ⊕ ((List aD))) :=
  cond (decide ((IntKind.i64.wrap (a7 + aQ)) < n1))
  ((fH aC a7 (IntKind.i64.wrap (a7 + aQ)) n1 cmp2).bind fun x6 =>
  jF cmp2 x6 n1 aQ)
  (jF cmp2 aC n1 aQ)

noncomputable def jG (cmp2 : aD → aD → Option Int) (n1 : Int) (aQ : Int) (aC : List aD) (a7 : Int) (b8 : Int) : Option ((List aD × Int × Int) ⊕ ((List aD × Int))) :=
  cond (decide (b8 ≤ n1))
  ((fH aC a7 (IntKind.i64.wrap (a7 + aQ)) b8 cmp2).bind fun x10 =>
  some (.inl (x10, b8, IntKind.i64.wrap (b8 + (IntKind.i64.wrap ((2 : Int) * aQ))))))
  (some (.inr (aC, a7)))

noncomputable def jD (cmp2 : aD → aD → Option Int) (aC : List aD) (n1 : Int) (aQ : Int) (a7 : Int) (b8 : Int) : Option ((List aD × Int) ⊕ ((List aD))) :=
  (lp (fun s => jG cmp2 n1 aQ s.1 s.2.1 s.2.2) (aC, a7, b8)).bind (fun rr => fQ cmp2 rr.1 n1 aQ rr.2)

noncomputable def jK (cmp2 : aD → aD → Option Int) (n1 : Int) (aC : List aD) (aQ : Int) : Option ((List aD × Int) ⊕ ((List aD))) :=
  cond (decide (aQ < n1))
  (jD cmp2 aC n1 aQ (0 : Int) (IntKind.i64.wrap ((2 : Int) * aQ)))
  (some (.inr aC))

noncomputable def jI (cmp2 : aD → aD → Option Int) (aC : List aD) (n1 : Int) (aQ : Int) : Option (List aD) :=
  (lp (fun s => jK cmp2 n1 s.1 s.2) (aC, aQ)).bind (fun rr => some rr)

noncomputable def fN (cmp2 : aD → aD → Option Int) (aC : List aD) (n1 : Int) (aQ : Int) (a7 : Int) : Option (List aD) :=
  (eB aC a7 n1 cmp2).bind fun x1 =>
  jI cmp2 x1 n1 aQ

noncomputable def jR (cmp2 : aD → aD → Option Int) (n1 : Int) (aQ : Int) (aC : List aD) (a7 : Int) (b8 : Int) : Option ((List aD × Int × Int) ⊕ ((List aD × Int))) :=
  cond (decide (b8 ≤ n1))
  ((eB aC a7 b8 cmp2).bind fun x14 =>
  some (.inl (x14, b8, IntKind.i64.wrap (b8 + aQ))))
  (some (.inr (aC, a7)))

noncomputable def jX (cmp2 : aD → aD → Option Int) (aC : List aD) (n1 : Int) (aQ : Int) (a7 : Int) (b8 : Int) : Option (List aD) :=
  (lp (fun s => jR cmp2 n1 aQ s.1 s.2.1 s.2.2) (aC, a7, b8)).bind (fun rr => fN cmp2 rr.1 n1 aQ rr.2)

noncomputable def fY (aC : (List aD)) (n1 : Int) (cmp2 : aD → aD → Option Int) : Option (List aD) :=
  jX cmp2 aC n1 (20 : Int) (0 : Int) (20 : Int)

noncomputable def dO (x0 : (List aD)) (cmp1 : aD → aD → Option Int) : Option (List aD) :=
  (fY x0 ((List.length x0 : Nat) : Int) cmp1).bind fun x1 =>
  some x1

noncomputable def oP (a0 : aD) (b1 : aD) : Option Int :=
  (kL a0.At b1.At).bind fun x1 =>
  some x1

noncomputable def vZ (f0 : (List aD)) : Option ((List aD) × Int) :=
  (uS f0).bind fun x1 =>
  cond (!x1)
  (some ([], (7 : Int)))
  (some (f0, (0 : Int)))

noncomputable def xO (out5 : List aD) : Option ((List aD) × Int) :=
  (vZ out5).bind fun x16 =>
  some (x16.1, x16.2)

noncomputable def xC (all4 : List aD) (out5 : List aD) (i6 : Int) (j7 : aD) : Option ((List aD × List aD × Int) ⊕ ((List aD))) :=
  cond ((!decide (j7.Net = (0 : Int))) && (decide (j7.At < (1125899906842624 : Int))))
  (bI ((List.length out5 + List.length ([j7])) * 16 ≤ 140737488355328 ∧ List.length out5 + List.length ([j7]) ≤ 9223372036854775807) <|
  some (.inl (all4, out5 ++ ([j7]), i6)))
  (some (.inl (all4, out5, i6)))

noncomputable def kW  (all4 : List aD) (out5 : List aD) (i6 : Int) (j7 : aD) : Option ((List aD × List aD × Int × aD) ⊕ ((List aD × List aD × Int × aD))) :=
  bI ((((decide (i6 < ((List.length all4 : Nat) : Int)))) = true → 0 ≤ i6 ∧ i6 < ((List.length all4 : Nat) : Int))) <|
  cond ((decide (i6 < ((List.length all4 : Nat) : Int))) && (decide (((List.getD all4 (Int.toNat i6) default).At) = j7.At)))
  (bI (0 ≤ i6 ∧ i6 < ((List.length all4 : Nat) : Int)) <|
  some (.inl (all4, out5, IntKind.i64.wrap (i6 + (1 : Int)), aD.mk j7.At (IntKind.i64.wrap (j7.Net + ((List.getD all4 (Int.toNat i6) default).Net))))))
  (some (.inr (all4, out5, i6, j7)))

noncomputable def BO (all4 : List aD) (out5 : List aD) (i6 : Int) (j7 : aD) : Option ((List aD × List aD × Int) ⊕ ((List aD))) :=
  (lp (fun s => kW s.1 s.2.1 s.2.2.1 s.2.2.2) (all4, out5, i6, j7)).bind (fun rr => xC rr.1 rr.2.1 rr.2.2.1 rr.2.2.2)

noncomputable def nA  (all4 : List aD) (out5 : List aD) (i6 : Int) : Option ((List aD × List aD × Int) ⊕ ((List aD))) :=
  cond (decide (i6 < ((List.length all4 : Nat) : Int)))
  (bI (0 ≤ i6 ∧ i6 < ((List.length all4 : Nat) : Int)) <|
  BO all4 out5 i6 (aD.mk ((List.getD all4 (Int.toNat i6) default).At) 0))
  (some (.inr out5))

noncomputable def BB (all4 : List aD) (out5 : List aD) (i6 : Int) : Option ((List aD) × Int) :=
  (lp (fun s => nA s.1 s.2.1 s.2.2) (all4, out5, i6)).bind (fun rr => xO rr)

noncomputable def yJ (l0 : (List aD)) : Option ((List aD) × Int) :=
  (dG l0 (fun y0 => vG y0)).bind fun x1 =>
  cond x1
  (some ([], (2 : Int)))
  ((dG l0 (fun y0 => vM y0)).bind fun x5 =>
  cond x5
  (some ([], (13 : Int)))
  ((fO l0).bind fun x9 =>
  (dO x9 (fun y0 y1 => oP y0 y1)).bind fun x12 =>
  BB x12 ([] : List aD) (0 : Int)))

noncomputable def vS (f0 : (List aD)) : Option ((List aD) × Int) :=
  (yJ f0).bind fun x1 =>
  some (x1.1, x1.2)

noncomputable def yS (l0 : (List aB)) : Option ((List aB) × Int) :=
  (dH l0 (fun y0 => vW y0)).bind fun x1 =>
  cond x1
  (some ([], (2 : Int)))
  ((dH l0 (fun y0 => vH y0)).bind fun x5 =>
  cond x5
  (some ([], (13 : Int)))
  ((fS l0).bind fun x9 =>
  (dP x9 (fun y0 y1 => oR y0 y1)).bind fun x12 =>
  (vR x12 (fun y0 => vS y0)).bind fun x15 =>
  some (x15.1, x15.2)))

noncomputable def AP (a0 : (List aB)) (b1 : (List aB)) : Option ((List aB) × Int) :=
  (tF a0).bind fun x1 =>
  (dU (!(!x1)) (tF b1)).bind fun x4 =>
  cond ((!x1) || (!x4))
  (some ([], (2 : Int)))
  ((fF ([a0, b1])).bind fun x8 =>
  (yS x8).bind fun x11 =>
  some (x11.1, x11.2))

noncomputable def mC (a0 : bN) (k1 : Int) (l2 : (List aB)) : Option (Int × bN) :=
  (pO a0 k1).bind fun x1 =>
  cond (decide (x1 = (0 : Int)))
  (cond (!decide (x1 = (0 : Int)))
  (some (x1, a0))
  ((tF l2).bind fun x10 =>
  cond (!x10)
  (some ((2 : Int), a0))
  ((dQ l2 (fun (st : Unit) y0 => (mR a0.inputs k1 y0).bind fun o => some (st, o)) ()).bind fun x14 =>
  cond x14.2
  (some ((16 : Int), a0))
  ((AP ((List.getD a0.inputs (Int.toNat k1) default).held) l2).bind fun x17 =>
  cond (!decide (x17.2 = (0 : Int)))
  (some (x17.2, a0))
  (some ((0 : Int), bN.mk (List.set a0.inputs (Int.toNat k1) (aY.mk (List.getD a0.inputs (Int.toNat k1) default).clock x17.1))))))))
  (cond (!decide (x1 = (0 : Int)))
  (some (x1, a0))
  ((tF l2).bind fun x23 =>
  cond (!x23)
  (some ((2 : Int), a0))
  (none)))

noncomputable def fU (a0 : bN) (k1 : Int) (t2 : Int) : Option (Int × bN) :=
  (pO a0 k1).bind fun x1 =>
  cond (decide (x1 = (0 : Int)))
  (cond (!decide (x1 = (0 : Int)))
  (some (x1, a0))
  (cond ((decide (t2 < (0 : Int))) || (decide ((1125899906842624 : Int) < t2)))
  (some ((13 : Int), a0))
  (cond (decide (t2 < ((List.getD a0.inputs (Int.toNat k1) default).clock)))
  (some ((16 : Int), a0))
  (some ((0 : Int), bN.mk (List.set a0.inputs (Int.toNat k1) (aY.mk t2 (List.getD a0.inputs (Int.toNat k1) default).held)))))))
  (cond (!decide (x1 = (0 : Int)))
  (some (x1, a0))
  (cond ((decide (t2 < (0 : Int))) || (decide ((1125899906842624 : Int) < t2)))
  (some ((13 : Int), a0))
  (none)))

noncomputable def rB (a0 : bN) (t3 : Int) : Option Int :=
  some t3

noncomputable def lU (a0 : bN) (t11 : Int) (t3 : Int) (t12 : Int) : Option ((Int × Int) ⊕ (Int)) :=
  cond (decide (t12 < t11))
  (bI (0 ≤ t12 ∧ t12 < ((List.length a0.inputs : Nat) : Int)) <|
  some (.inl (if ((List.getD a0.inputs (Int.toNat t12) default).clock) < t3 then ((List.getD a0.inputs (Int.toNat t12) default).clock) else t3, IntKind.i64.wrap (t12 + (1 : Int)))))
  (some (.inr t3))

noncomputable def rA (a0 : bN) (t3 : Int) (t11 : Int) (t12 : Int) : Option Int :=
  (lp (fun s => lU a0 t11 s.1 s.2) (t3, t12)).bind (fun rr => rB a0 rr)

noncomputable def eP (a0 : bN) : Option Int :=
  rA a0 (1125899906842624 : Int) ((List.length a0.inputs : Nat) : Int) (0 : Int)

noncomputable def iZ (x0 : aB) (t1 : Int) (t2 : (List aB)) (t3 : (List aB)) : Option (Int × (List aB) × (List aB)) :=
  cond (decide (x0.At < t1))
  (bI ((List.length t2 + List.length ([x0])) * 40 ≤ 140737488355328 ∧ List.length t2 + List.length ([x0]) ≤ 9223372036854775807) <|
  some (t1, t2 ++ ([x0]), t3))
  (bI ((List.length t3 + List.length ([x0])) * 40 ≤ 140737488355328 ∧ List.length t3 + List.length ([x0]) ≤ 9223372036854775807) <|
  some (t1, t2, t3 ++ ([x0])))

noncomputable def pV (a0 : bN) (out3 : List (List aB)) : Option ((List (List aB)) × bN) :=
  some (out3, a0)

noncomputable def pX (a0 : bN) (out3 : List (List aB)) (t4 : Int) (t21 : Int) (t22 : Int) : Option ((bN × List (List aB) × Int × Int) ⊕ ((bN × List (List aB)))) :=
  some (.inl (a0, out3, t4, IntKind.i64.wrap (t22 + (1 : Int))))

noncomputable def nC (a0 : bN) (out3 : List (List aB)) (t4 : Int) (k5 : Int) (bZ : List aB) (cB : List aB) (t21 : Int) (t22 : Int) : Option ((bN × List (List aB) × Int × Int) ⊕ ((bN × List (List aB)))) :=
  bI (0 ≤ k5 ∧ k5 < ((List.length a0.inputs : Nat) : Int)) <|
  bI ((List.length out3 + List.length ([bZ])) * 24 ≤ 140737488355328 ∧ List.length out3 + List.length ([bZ]) ≤ 9223372036854775807) <|
  pX (bN.mk (List.set a0.inputs (Int.toNat k5) (aY.mk (List.getD a0.inputs (Int.toNat k5) default).clock cB))) (out3 ++ ([bZ])) t4 t21 t22

noncomputable def gV (k5 : Int) (t21 : Int) (t22 : Int) (t33 : (List aB)) (t34 : Int) (a0 : bN) (out3 : List (List aB)) (t4 : Int) (bZ : List aB) (cB : List aB) (t35 : Int) : Option ((bN × List (List aB) × Int × List aB × List aB × Int) ⊕ ((bN × List (List aB) × Int × List aB × List aB))) :=
  cond (decide (t35 < t34))
  (bI (0 ≤ t35 ∧ t35 < ((List.length t33 : Nat) : Int)) <|
  (iZ (List.getD t33 (Int.toNat t35) default) t4 bZ cB).bind fun x41 =>
  some (.inl (a0, out3, x41.1, x41.2.1, x41.2.2, IntKind.i64.wrap (t35 + (1 : Int)))))
  (some (.inr (a0, out3, t4, bZ, cB)))

noncomputable def pR (a0 : bN) (out3 : List (List aB)) (t4 : Int) (k5 : Int) (bZ : List aB) (cB : List aB) (t21 : Int) (t22 : Int) (t33 : (List aB)) (t34 : Int) (t35 : Int) : Option ((bN × List (List aB) × Int × Int) ⊕ ((bN × List (List aB)))) :=
  (lp (fun s => gV k5 t21 t22 t33 t34 s.1 s.2.1 s.2.2.1 s.2.2.2.1 s.2.2.2.2.1 s.2.2.2.2.2) (a0, out3, t4, bZ, cB, t35)).bind (fun rr => nC rr.1 rr.2.1 rr.2.2.1 k5 rr.2.2.2.1 rr.2.2.2.2 t21 t22)

noncomputable def gX (t21 : Int) (a0 : bN) (out3 : List (List aB)) (t4 : Int) (t22 : Int) : Option ((bN × List (List aB) × Int × Int) ⊕ ((bN × List (List aB)))) :=
  cond (decide (t22 < t21))
  (bI (0 ≤ t22 ∧ t22 < ((List.length a0.inputs : Nat) : Int)) <|
  pR a0 out3 t4 t22 ([] : List aB) ([] : List aB) t21 t22 ((List.getD a0.inputs (Int.toNat t22) default).held) ((List.length ((List.getD a0.inputs (Int.toNat t22) default).held) : Nat) : Int) (0 : Int))
  (some (.inr (a0, out3)))

noncomputable def pT (a0 : bN) (out3 : List (List aB)) (t4 : Int) (t21 : Int) (t22 : Int) : Option ((List (List aB)) × bN) :=
  (lp (fun s => gX t21 s.1 s.2.1 s.2.2.1 s.2.2.2) (a0, out3, t4, t22)).bind (fun rr => pV rr.1 rr.2)

noncomputable def dI (a0 : bN) : Option ((List (List aB)) × bN) :=
  (eP a0).bind fun x2 =>
  pT a0 ([] : List (List aB)) x2 ((List.length a0.inputs : Nat) : Int) (0 : Int)

noncomputable def sH (a0 : bN) (n3 : Int) : Option Int :=
  some n3

noncomputable def mT (a0 : bN) (t13 : Int) (n3 : Int) (t14 : Int) : Option ((Int × Int) ⊕ (Int)) :=
  cond (decide (t14 < t13))
  (bI (0 ≤ t14 ∧ t14 < ((List.length a0.inputs : Nat) : Int)) <|
  some (.inl (IntKind.i64.wrap (n3 + ((List.length ((List.getD a0.inputs (Int.toNat t14) default).held) : Nat) : Int)), IntKind.i64.wrap (t14 + (1 : Int)))))
  (some (.inr n3))

noncomputable def sK (a0 : bN) (n3 : Int) (t13 : Int) (t14 : Int) : Option Int :=
  (lp (fun s => mT a0 t13 s.1 s.2) (n3, t14)).bind (fun rr => sH a0 rr)

noncomputable def gQ (a0 : bN) : Option Int :=
  sK a0 (0 : Int) ((List.length a0.inputs : Nat) : Int) (0 : Int)

noncomputable def iX  : Option Bool :=
  (rH (2 : Int)).bind fun (oa1, oe2) =>
  match oa1 with
  | none => (none)
  | some a9 => ((mC a9 (0 : Int) ([aB.mk ([aI.mk (1 : Int) (1 : Int) ByteArray.empty]) (2 : Int) (1 : Int)])).bind fun x10 =>
  (fU x10.2 (0 : Int) (5 : Int)).bind fun x16 =>
  (dI x16.2).bind fun x22 =>
  (fU x22.2 (1 : Int) (3 : Int)).bind fun x28 =>
  (dI x28.2).bind fun x34 =>
  bI ((((((((decide (oe2 = (0 : Int))) && (decide (x10.1 = (0 : Int)))) && (decide (x16.1 = (0 : Int)))) && (decide (x28.1 = (0 : Int)))) && (decide (((List.length x22.1 : Nat) : Int) = (2 : Int))))) = true → 0 ≤ (0 : Int) ∧ (0 : Int) < ((List.length x22.1 : Nat) : Int))) <|
  bI ((((((((((decide (oe2 = (0 : Int))) && (decide (x10.1 = (0 : Int)))) && (decide (x16.1 = (0 : Int)))) && (decide (x28.1 = (0 : Int)))) && (decide (((List.length x22.1 : Nat) : Int) = (2 : Int)))) && (decide (((List.length (List.getD x22.1 (Int.toNat (0 : Int)) default) : Nat) : Int) = (0 : Int)))) && (decide (((List.length x34.1 : Nat) : Int) = (2 : Int))))) = true → 0 ≤ (0 : Int) ∧ (0 : Int) < ((List.length x34.1 : Nat) : Int))) <|
  bI (((((((((((decide (oe2 = (0 : Int))) && (decide (x10.1 = (0 : Int)))) && (decide (x16.1 = (0 : Int)))) && (decide (x28.1 = (0 : Int)))) && (decide (((List.length x22.1 : Nat) : Int) = (2 : Int)))) && (decide (((List.length (List.getD x22.1 (Int.toNat (0 : Int)) default) : Nat) : Int) = (0 : Int)))) && (decide (((List.length x34.1 : Nat) : Int) = (2 : Int)))) && (decide (((List.length (List.getD x34.1 (Int.toNat (0 : Int)) default) : Nat) : Int) = (1 : Int))))) = true → 0 ≤ (0 : Int) ∧ (0 : Int) < ((List.length x34.1 : Nat) : Int))) <|
  bI (((((((((((decide (oe2 = (0 : Int))) && (decide (x10.1 = (0 : Int)))) && (decide (x16.1 = (0 : Int)))) && (decide (x28.1 = (0 : Int)))) && (decide (((List.length x22.1 : Nat) : Int) = (2 : Int)))) && (decide (((List.length (List.getD x22.1 (Int.toNat (0 : Int)) default) : Nat) : Int) = (0 : Int)))) && (decide (((List.length x34.1 : Nat) : Int) = (2 : Int)))) && (decide (((List.length (List.getD x34.1 (Int.toNat (0 : Int)) default) : Nat) : Int) = (1 : Int))))) = true → 0 ≤ (0 : Int) ∧ (0 : Int) < ((List.length (List.getD x34.1 (Int.toNat (0 : Int)) default) : Nat) : Int))) <|
  (cond (((((((((decide (oe2 = (0 : Int))) && (decide (x10.1 = (0 : Int)))) && (decide (x16.1 = (0 : Int)))) && (decide (x28.1 = (0 : Int)))) && (decide (((List.length x22.1 : Nat) : Int) = (2 : Int)))) && (decide (((List.length (List.getD x22.1 (Int.toNat (0 : Int)) default) : Nat) : Int) = (0 : Int)))) && (decide (((List.length x34.1 : Nat) : Int) = (2 : Int)))) && (decide (((List.length (List.getD x34.1 (Int.toNat (0 : Int)) default) : Nat) : Int) = (1 : Int)))) && (decide (((List.getD (List.getD x34.1 (Int.toNat (0 : Int)) default) (Int.toNat (0 : Int)) default).At) = (2 : Int)))) (eP x34.2) (some 0)).bind fun x44 =>
  (cond ((((((((((decide (oe2 = (0 : Int))) && (decide (x10.1 = (0 : Int)))) && (decide (x16.1 = (0 : Int)))) && (decide (x28.1 = (0 : Int)))) && (decide (((List.length x22.1 : Nat) : Int) = (2 : Int)))) && (decide (((List.length (List.getD x22.1 (Int.toNat (0 : Int)) default) : Nat) : Int) = (0 : Int)))) && (decide (((List.length x34.1 : Nat) : Int) = (2 : Int)))) && (decide (((List.length (List.getD x34.1 (Int.toNat (0 : Int)) default) : Nat) : Int) = (1 : Int)))) && (decide (((List.getD (List.getD x34.1 (Int.toNat (0 : Int)) default) (Int.toNat (0 : Int)) default).At) = (2 : Int)))) && (decide (x44 = (3 : Int)))) (gQ x34.2) (some 0)).bind fun x49 =>
  some (((((((((((decide (oe2 = (0 : Int))) && (decide (x10.1 = (0 : Int)))) && (decide (x16.1 = (0 : Int)))) && (decide (x28.1 = (0 : Int)))) && (decide (((List.length x22.1 : Nat) : Int) = (2 : Int)))) && (decide (((List.length (List.getD x22.1 (Int.toNat (0 : Int)) default) : Nat) : Int) = (0 : Int)))) && (decide (((List.length x34.1 : Nat) : Int) = (2 : Int)))) && (decide (((List.length (List.getD x34.1 (Int.toNat (0 : Int)) default) : Nat) : Int) = (1 : Int)))) && (decide (((List.getD (List.getD x34.1 (Int.toNat (0 : Int)) default) (Int.toNat (0 : Int)) default).At) = (2 : Int)))) && (decide (x44 = (3 : Int)))) && (decide (x49 = (0 : Int)))))

noncomputable def xW (n3 : Int) : Option Bool :=
  some (decide (n3 ≤ (60 : Int)))

noncomputable def pH (l0 : (List eM)) (n3 : Int) (i4 : Int) : Option ((Int × Int) ⊕ (Int)) :=
  cond ((decide (i4 < ((List.length l0 : Nat) : Int))) && (decide (n3 ≤ (60 : Int))))
  (bI (0 ≤ i4 ∧ i4 < ((List.length l0 : Nat) : Int)) <|
  some (.inl (IntKind.i64.wrap (n3 + (if (61 : Int) < ((List.length ((List.getD l0 (Int.toNat i4) default).Edges) : Nat) : Int) then (61 : Int) else ((List.length ((List.getD l0 (Int.toNat i4) default).Edges) : Nat) : Int))), IntKind.i64.wrap (i4 + (1 : Int)))))
  (some (.inr n3))

noncomputable def yC (l0 : (List eM)) (n3 : Int) (i4 : Int) : Option Bool :=
  (lp (fun s => pH l0 s.1 s.2) (n3, i4)).bind (fun rr => xW rr)

noncomputable def oS (l0 : (List eM)) : Option Bool :=
  yC l0 ((List.length l0 : Nat) : Int) (0 : Int)

noncomputable def wY (a3 : bE) : Option bE :=
  some a3

noncomputable def rV (n0 : Int) (a3 : bE) (i4 : Int) : Option ((bE × Int) ⊕ (bE)) :=
  cond (decide (i4 < n0))
  (bI ((List.length a3.Clocks + List.length ([(0 : Int)])) * 8 ≤ 140737488355328 ∧ List.length a3.Clocks + List.length ([(0 : Int)]) ≤ 9223372036854775807) <|
  bI ((List.length a3.aR + List.length ([([] : (List aB))])) * 24 ≤ 140737488355328 ∧ List.length a3.aR + List.length ([([] : (List aB))]) ≤ 9223372036854775807) <|
  some (.inl (bE.mk (bE.mk (a3.Clocks ++ ([(0 : Int)])) a3.aR).Clocks (a3.aR ++ ([([] : (List aB))])), IntKind.i64.wrap (i4 + (1 : Int)))))
  (some (.inr a3))

noncomputable def BM (n0 : Int) (a3 : bE) (i4 : Int) : Option bE :=
  (lp (fun s => rV n0 s.1 s.2) (a3, i4)).bind (fun rr => wY rr)

noncomputable def rL (n0 : Int) : Option bE :=
  BM n0 (bE.mk ([]) ([])) (0 : Int)

noncomputable def tI (v0 : aI) : Option Bool :=
  cond (decide (v0.Kind = (1 : Int)))
  (some (pS v0.Text (⟨#[]⟩ : ByteArray)))
  (some (((decide (v0.Kind = (2 : Int))) && (decide (v0.Num = (0 : Int)))) && (decide (((ByteArray.size v0.Text : Nat) : Int) ≤ (64 : Int)))))

noncomputable def uE (r0 : (List aI)) : Option Bool :=
  some (decide (((List.length r0 : Nat) : Int) ≤ (8 : Int)))

noncomputable def rR (r0 : (List aI)) (i3 : Int) : Option ((Int) ⊕ (Unit ⊕ Bool)) :=
  cond ((decide (i3 < ((List.length r0 : Nat) : Int))) && (decide (i3 < (9 : Int))))
  (bI (0 ≤ i3 ∧ i3 < ((List.length r0 : Nat) : Int)) <|
  (tI (List.getD r0 (Int.toNat i3) default)).bind fun x3 =>
  cond (!x3)
  (some (.inr (.inr false)))
  (some (.inl (IntKind.i64.wrap (i3 + (1 : Int))))))
  (some (.inr (.inl ())))

noncomputable def BI (r0 : (List aI)) (i3 : Int) : Option Bool :=
  (lp (fun s => rR r0 s) i3).bind (Sum.elim (fun rr => uE r0) (fun rr => some rr))

noncomputable def rK (r0 : (List aI)) : Option Bool :=
  BI r0 (0 : Int)

noncomputable def xI  : Option Bool :=
  some true

noncomputable def mX (f0 : (List aD)) (i3 : Int) : Option ((Int) ⊕ (Unit ⊕ Bool)) :=
  cond (decide (i3 < ((List.length f0 : Nat) : Int)))
  (bI (0 ≤ i3 ∧ i3 < ((List.length f0 : Nat) : Int)) <|
  bI ((((!(decide (((List.getD f0 (Int.toNat i3) default).At) < (-1 : Int))))) = true → 0 ≤ i3 ∧ i3 < ((List.length f0 : Nat) : Int))) <|
  bI ((((!((decide (((List.getD f0 (Int.toNat i3) default).At) < (-1 : Int))) || (decide ((1125899906842624 : Int) ≤ ((List.getD f0 (Int.toNat i3) default).At)))))) = true → 0 ≤ i3 ∧ i3 < ((List.length f0 : Nat) : Int))) <|
  bI ((((!(((decide (((List.getD f0 (Int.toNat i3) default).At) < (-1 : Int))) || (decide ((1125899906842624 : Int) ≤ ((List.getD f0 (Int.toNat i3) default).At)))) || (decide (((List.getD f0 (Int.toNat i3) default).Net) = (0 : Int)))))) = true → 0 ≤ i3 ∧ i3 < ((List.length f0 : Nat) : Int))) <|
  bI ((((!((((decide (((List.getD f0 (Int.toNat i3) default).At) < (-1 : Int))) || (decide ((1125899906842624 : Int) ≤ ((List.getD f0 (Int.toNat i3) default).At)))) || (decide (((List.getD f0 (Int.toNat i3) default).Net) = (0 : Int)))) || (decide ((1048576 : Int) < ((List.getD f0 (Int.toNat i3) default).Net)))))) = true → 0 ≤ i3 ∧ i3 < ((List.length f0 : Nat) : Int))) <|
  cond (((((decide (((List.getD f0 (Int.toNat i3) default).At) < (-1 : Int))) || (decide ((1125899906842624 : Int) ≤ ((List.getD f0 (Int.toNat i3) default).At)))) || (decide (((List.getD f0 (Int.toNat i3) default).Net) = (0 : Int)))) || (decide ((1048576 : Int) < ((List.getD f0 (Int.toNat i3) default).Net)))) || (decide (((List.getD f0 (Int.toNat i3) default).Net) < (-1048576 : Int))))
  (some (.inr (.inr false)))
  (bI ((((decide ((0 : Int) < i3))) = true → 0 ≤ i3 ∧ i3 < ((List.length f0 : Nat) : Int))) <|
  bI ((((decide ((0 : Int) < i3))) = true → 0 ≤ (IntKind.i64.wrap (i3 - (1 : Int))) ∧ (IntKind.i64.wrap (i3 - (1 : Int))) < ((List.length f0 : Nat) : Int))) <|
  cond ((decide ((0 : Int) < i3)) && (decide (((List.getD f0 (Int.toNat i3) default).At) ≤ ((List.getD f0 (Int.toNat (IntKind.i64.wrap (i3 - (1 : Int)))) default).At))))
  (some (.inr (.inr false)))
  (some (.inl (IntKind.i64.wrap (i3 + (1 : Int)))))))
  (some (.inr (.inl ())))

noncomputable def AT (f0 : (List aD)) (i3 : Int) : Option Bool :=
  (lp (fun s => mX f0 s) i3).bind (Sum.elim (fun rr => xI ) (fun rr => some rr))

noncomputable def tK (f0 : (List aD)) : Option Bool :=
  cond (decide ((1024 : Int) < ((List.length f0 : Nat) : Int)))
  (some false)
  (AT f0 (0 : Int))

noncomputable def sC (a2 : aI) (b3 : aI) : Option Int :=
  cond (!decide (((ByteArray.size a2.Text : Nat) : Int) = ((ByteArray.size b3.Text : Nat) : Int)))
  (cond (decide (((ByteArray.size a2.Text : Nat) : Int) < ((ByteArray.size b3.Text : Nat) : Int)))
  (some (-1 : Int))
  (some (1 : Int)))
  (some (0 : Int))

noncomputable def gW (a2 : aI) (b3 : aI) (i5 : Int) : Option ((Int) ⊕ (Unit ⊕ Int)) :=
  cond ((decide (i5 < ((ByteArray.size a2.Text : Nat) : Int))) && (decide (i5 < ((ByteArray.size b3.Text : Nat) : Int))))
  (bI (0 ≤ i5 ∧ i5 < ((ByteArray.size a2.Text : Nat) : Int)) <|
  bI (0 ≤ i5 ∧ i5 < ((ByteArray.size b3.Text : Nat) : Int)) <|
  cond (!decide ((bt a2.Text i5) = (bt b3.Text i5)))
  (bI (0 ≤ i5 ∧ i5 < ((ByteArray.size a2.Text : Nat) : Int)) <|
  bI (0 ≤ i5 ∧ i5 < ((ByteArray.size b3.Text : Nat) : Int)) <|
  cond (decide ((bt a2.Text i5) < (bt b3.Text i5)))
  (some (.inr (.inr (-1 : Int))))
  (some (.inr (.inr (1 : Int)))))
  (some (.inl (IntKind.i64.wrap (i5 + (1 : Int))))))
  (some (.inr (.inl ())))

noncomputable def uX (a2 : aI) (b3 : aI) (i5 : Int) : Option Int :=
  (lp (fun s => gW a2 b3 s) i5).bind (Sum.elim (fun rr => sC a2 b3) (fun rr => some rr))

noncomputable def tE (a0 : aI) (b1 : aI) : Option Int :=
  (tI a0).bind fun x1 =>
  (dU (!(!x1)) (tI b1)).bind fun x4 =>
  cond ((!x1) || (!x4))
  (some (0 : Int))
  (cond (!decide (a0.Kind = b1.Kind))
  (cond (decide (a0.Kind = (1 : Int)))
  (some (-1 : Int))
  (some (1 : Int)))
  (cond (!decide (a0.Num = b1.Num))
  (cond (decide (a0.Num < b1.Num))
  (some (-1 : Int))
  (some (1 : Int)))
  (uX a0 b1 (0 : Int))))

noncomputable def rW (a0 : (List aI)) (b1 : (List aI)) : Option Int :=
  cond (decide (((List.length a0 : Nat) : Int) < ((List.length b1 : Nat) : Int)))
  (some (-1 : Int))
  (cond (decide (((List.length b1 : Nat) : Int) < ((List.length a0 : Nat) : Int)))
  (some (1 : Int))
  (some (0 : Int)))

noncomputable def gY (a0 : (List aI)) (b1 : (List aI)) (i5 : Int) : Option ((Int) ⊕ (Unit ⊕ Int)) :=
  cond ((decide (i5 < ((List.length a0 : Nat) : Int))) && (decide (i5 < ((List.length b1 : Nat) : Int))))
  (bI (0 ≤ i5 ∧ i5 < ((List.length a0 : Nat) : Int)) <|
  bI (0 ≤ i5 ∧ i5 < ((List.length b1 : Nat) : Int)) <|
  (tE (List.getD a0 (Int.toNat i5) default) (List.getD b1 (Int.toNat i5) default)).bind fun x13 =>
  cond (!decide (x13 = (0 : Int)))
  (some (.inr (.inr x13)))
  (some (.inl (IntKind.i64.wrap (i5 + (1 : Int))))))
  (some (.inr (.inl ())))

noncomputable def uR (a0 : (List aI)) (b1 : (List aI)) (i5 : Int) : Option Int :=
  (lp (fun s => gY a0 b1 s) i5).bind (Sum.elim (fun rr => rW a0 b1) (fun rr => some rr))

noncomputable def qN (a0 : (List aI)) (b1 : (List aI)) : Option Int :=
  (rK a0).bind fun x1 =>
  (dU (!(!x1)) (rK b1)).bind fun x4 =>
  cond ((!x1) || (!x4))
  (some (0 : Int))
  (uR a0 b1 (0 : Int))

noncomputable def vP  : Option Bool :=
  some true

noncomputable def sP (a0 : (List aI)) (b1 : (List aI)) (i5 : Int) : Option ((Int) ⊕ (Unit ⊕ Bool)) :=
  cond (decide (i5 < ((List.length a0 : Nat) : Int)))
  (bI (0 ≤ i5 ∧ i5 < ((List.length a0 : Nat) : Int)) <|
  bI (0 ≤ i5 ∧ i5 < ((List.length b1 : Nat) : Int)) <|
  cond (!((decide (((List.getD a0 (Int.toNat i5) default).Kind) = ((List.getD b1 (Int.toNat i5) default).Kind))) && ((decide (((List.getD a0 (Int.toNat i5) default).Num) = ((List.getD b1 (Int.toNat i5) default).Num))) && ((pS ((List.getD a0 (Int.toNat i5) default).Text) ((List.getD b1 (Int.toNat i5) default).Text)) && true))))
  (some (.inr (.inr false)))
  (some (.inl (IntKind.i64.wrap (i5 + (1 : Int))))))
  (some (.inr (.inl ())))

noncomputable def yY (a0 : (List aI)) (b1 : (List aI)) (i5 : Int) : Option Bool :=
  (lp (fun s => sP a0 b1 s) i5).bind (Sum.elim (fun rr => vP ) (fun rr => some rr))

noncomputable def rT (a0 : (List aI)) (b1 : (List aI)) : Option Bool :=
  cond (!decide (((List.length a0 : Nat) : Int) = ((List.length b1 : Nat) : Int)))
  (some false)
  (yY a0 b1 (0 : Int))

noncomputable def zB (bW : List (List aI)) : Option (List (List aI)) :=
  some bW

noncomputable def vQ (l0 : (List aB)) (bW : List (List aI)) (i4 : Int) : Option ((List (List aI) × Int) ⊕ ((List (List aI)))) :=
  some (.inl (bW, IntKind.i64.wrap (i4 + (1 : Int))))

noncomputable def vU (l0 : (List aB)) (bW : List (List aI)) (i4 : Int) (at5 : Int) : Option ((List (List aI) × Int) ⊕ ((List (List aI)))) :=
  bI ((((decide (at5 < ((List.length bW : Nat) : Int)))) = true → 0 ≤ at5 ∧ at5 < ((List.length bW : Nat) : Int))) <|
  bI ((((decide (at5 < ((List.length bW : Nat) : Int)))) = true → 0 ≤ i4 ∧ i4 < ((List.length l0 : Nat) : Int))) <|
  (dU (decide (at5 < ((List.length bW : Nat) : Int))) (rT (List.getD bW (Int.toNat at5) default) ((List.getD l0 (Int.toNat i4) default).Row))).bind fun x10 =>
  cond ((decide (at5 < ((List.length bW : Nat) : Int))) && x10)
  (vQ l0 bW i4)
  (bI (0 ≤ at5 ∧ at5 ≤ ((List.length bW : Nat) : Int)) <|
  bI (List.length (List.take (Int.toNat at5) bW) * 24 ≤ 140737488355328 ∧ List.length (List.take (Int.toNat at5) bW) ≤ 9223372036854775807) <|
  bI (0 ≤ i4 ∧ i4 < ((List.length l0 : Nat) : Int)) <|
  bI ((List.length (List.take (Int.toNat at5) bW) + List.length ([(List.getD l0 (Int.toNat i4) default).Row])) * 24 ≤ 140737488355328 ∧ List.length (List.take (Int.toNat at5) bW) + List.length ([(List.getD l0 (Int.toNat i4) default).Row]) ≤ 9223372036854775807) <|
  bI (0 ≤ at5 ∧ at5 ≤ ((List.length bW : Nat) : Int)) <|
  bI ((List.length ((List.take (Int.toNat at5) bW) ++ ([(List.getD l0 (Int.toNat i4) default).Row])) + List.length (List.drop (Int.toNat at5) bW)) * 24 ≤ 140737488355328 ∧ List.length ((List.take (Int.toNat at5) bW) ++ ([(List.getD l0 (Int.toNat i4) default).Row])) + List.length (List.drop (Int.toNat at5) bW) ≤ 9223372036854775807) <|
  vQ l0 (((List.take (Int.toNat at5) bW) ++ ([(List.getD l0 (Int.toNat i4) default).Row])) ++ (List.drop (Int.toNat at5) bW)) i4)

noncomputable def nE (l0 : (List aB)) (i4 : Int) (bW : List (List aI)) (at5 : Int) : Option ((List (List aI) × Int) ⊕ ((List (List aI) × Int))) :=
  bI ((((decide (at5 < ((List.length bW : Nat) : Int)))) = true → 0 ≤ at5 ∧ at5 < ((List.length bW : Nat) : Int))) <|
  bI ((((decide (at5 < ((List.length bW : Nat) : Int)))) = true → 0 ≤ i4 ∧ i4 < ((List.length l0 : Nat) : Int))) <|
  (dU (decide (at5 < ((List.length bW : Nat) : Int))) (qN (List.getD bW (Int.toNat at5) default) ((List.getD l0 (Int.toNat i4) default).Row))).bind fun x27 =>
  cond ((decide (at5 < ((List.length bW : Nat) : Int))) && (decide (x27 < (0 : Int))))
  (some (.inl (bW, IntKind.i64.wrap (at5 + (1 : Int)))))
  (some (.inr (bW, at5)))

noncomputable def zT (l0 : (List aB)) (bW : List (List aI)) (i4 : Int) (at5 : Int) : Option ((List (List aI) × Int) ⊕ ((List (List aI)))) :=
  (lp (fun s => nE l0 i4 s.1 s.2) (bW, at5)).bind (fun rr => vU l0 rr.1 i4 rr.2)

noncomputable def oM (l0 : (List aB)) (bW : List (List aI)) (i4 : Int) : Option ((List (List aI) × Int) ⊕ ((List (List aI)))) :=
  cond (decide (i4 < ((List.length l0 : Nat) : Int)))
  (zT l0 bW i4 (0 : Int))
  (some (.inr bW))

noncomputable def zD (l0 : (List aB)) (bW : List (List aI)) (i4 : Int) : Option (List (List aI)) :=
  (lp (fun s => oM l0 s.1 s.2) (bW, i4)).bind (fun rr => zB rr)

noncomputable def tT (l0 : (List aB)) : Option (List (List aI)) :=
  zD l0 ([] : List (List aI)) (0 : Int)

noncomputable def xU (f5 : List aD) : Option (List aD) :=
  some f5

noncomputable def tY (l0 : (List aB)) (r1 : (List aI)) (f5 : List aD) (i6 : Int) : Option ((List aD × Int) ⊕ ((List aD))) :=
  some (.inl (f5, IntKind.i64.wrap (i6 + (1 : Int))))

noncomputable def nR (l0 : (List aB)) (r1 : (List aI)) (f5 : List aD) (i6 : Int) : Option ((List aD × Int) ⊕ ((List aD))) :=
  cond (decide (i6 < ((List.length l0 : Nat) : Int)))
  (bI (0 ≤ i6 ∧ i6 < ((List.length l0 : Nat) : Int)) <|
  (rT ((List.getD l0 (Int.toNat i6) default).Row) r1).bind fun x8 =>
  cond x8
  (bI (0 ≤ i6 ∧ i6 < ((List.length l0 : Nat) : Int)) <|
  bI (0 ≤ i6 ∧ i6 < ((List.length l0 : Nat) : Int)) <|
  bI ((List.length f5 + List.length ([aD.mk ((List.getD l0 (Int.toNat i6) default).At) ((List.getD l0 (Int.toNat i6) default).Net)])) * 16 ≤ 140737488355328 ∧ List.length f5 + List.length ([aD.mk ((List.getD l0 (Int.toNat i6) default).At) ((List.getD l0 (Int.toNat i6) default).Net)]) ≤ 9223372036854775807) <|
  tY l0 r1 (f5 ++ ([aD.mk ((List.getD l0 (Int.toNat i6) default).At) ((List.getD l0 (Int.toNat i6) default).Net)])) i6)
  (tY l0 r1 f5 i6))
  (some (.inr f5))

noncomputable def xS (l0 : (List aB)) (r1 : (List aI)) (f5 : List aD) (i6 : Int) : Option (List aD) :=
  (lp (fun s => nR l0 r1 s.1 s.2) (f5, i6)).bind (fun rr => xU rr)

noncomputable def sV (l0 : (List aB)) (r1 : (List aI)) : Option (List aD) :=
  xS l0 r1 ([] : List aD) (0 : Int)

noncomputable def AU  : Option Bool :=
  some true

noncomputable def sF (l0 : (List aB)) (tQ : (List (List aI))) (i6 : Int) : Option ((Int) ⊕ (Unit ⊕ Bool)) :=
  cond (decide (i6 < ((List.length tQ : Nat) : Int)))
  (bI (0 ≤ i6 ∧ i6 < ((List.length tQ : Nat) : Int)) <|
  (sV l0 (List.getD tQ (Int.toNat i6) default)).bind fun x7 =>
  cond (decide ((1024 : Int) < ((List.length x7 : Nat) : Int)))
  (some (.inr (.inr false)))
  (some (.inl (IntKind.i64.wrap (i6 + (1 : Int))))))
  (some (.inr (.inl ())))

noncomputable def AS (l0 : (List aB)) (tQ : (List (List aI))) (i6 : Int) : Option Bool :=
  (lp (fun s => sF l0 tQ s) i6).bind (Sum.elim (fun rr => AU ) (fun rr => some rr))

noncomputable def wS (l0 : (List aB)) : Option Bool :=
  (tT l0).bind fun x2 =>
  AS l0 x2 (0 : Int)

noncomputable def tU (l0 : (List aB)) (i3 : Int) : Option ((Int) ⊕ (Unit ⊕ Bool)) :=
  some (.inl (IntKind.i64.wrap (i3 + (1 : Int))))

noncomputable def qK (l0 : (List aB)) (i3 : Int) : Option ((Int) ⊕ (Unit ⊕ Bool)) :=
  cond (decide (i3 < ((List.length l0 : Nat) : Int)))
  (bI (0 ≤ i3 ∧ i3 < ((List.length l0 : Nat) : Int)) <|
  (rK ((List.getD l0 (Int.toNat i3) default).Row)).bind fun x13 =>
  bI ((((!(!x13))) = true → 0 ≤ i3 ∧ i3 < ((List.length l0 : Nat) : Int))) <|
  bI ((((!(!x13))) = true → 0 ≤ i3 ∧ i3 < ((List.length l0 : Nat) : Int))) <|
  (dU (!(!x13)) (tK ([aD.mk ((List.getD l0 (Int.toNat i3) default).At) ((List.getD l0 (Int.toNat i3) default).Net)]))).bind fun x17 =>
  cond ((!x13) || (!x17))
  (some (.inr (.inr false)))
  (cond (decide (i3 = (0 : Int)))
  (tU l0 i3)
  (bI (0 ≤ (IntKind.i64.wrap (i3 - (1 : Int))) ∧ (IntKind.i64.wrap (i3 - (1 : Int))) < ((List.length l0 : Nat) : Int)) <|
  bI (0 ≤ i3 ∧ i3 < ((List.length l0 : Nat) : Int)) <|
  (qN ((List.getD l0 (Int.toNat (IntKind.i64.wrap (i3 - (1 : Int)))) default).Row) ((List.getD l0 (Int.toNat i3) default).Row)).bind fun x24 =>
  bI ((((decide (x24 = (0 : Int))) && (!(decide ((0 : Int) < x24)))) = true → 0 ≤ (IntKind.i64.wrap (i3 - (1 : Int))) ∧ (IntKind.i64.wrap (i3 - (1 : Int))) < ((List.length l0 : Nat) : Int))) <|
  bI ((((decide (x24 = (0 : Int))) && (!(decide ((0 : Int) < x24)))) = true → 0 ≤ i3 ∧ i3 < ((List.length l0 : Nat) : Int))) <|
  cond ((decide ((0 : Int) < x24)) || ((decide (x24 = (0 : Int))) && (decide (((List.getD l0 (Int.toNat i3) default).At) ≤ ((List.getD l0 (Int.toNat (IntKind.i64.wrap (i3 - (1 : Int)))) default).At)))))
  (some (.inr (.inr false)))
  (tU l0 i3))))
  (some (.inr (.inl ())))

noncomputable def BN (l0 : (List aB)) (i3 : Int) : Option Bool :=
  (lp (fun s => qK l0 s) i3).bind (Sum.elim (fun rr => wS l0) (fun rr => some rr))

noncomputable def tJ (l0 : (List aB)) : Option Bool :=
  cond (decide ((4096 : Int) < ((List.length l0 : Nat) : Int)))
  (some false)
  (BN l0 (0 : Int))

noncomputable def sY (out5 : List Int) : Option (List Int) :=
  some out5

noncomputable def sW (t1 : Int) (out5 : List Int) (put6 : Bool) : Option (List Int) :=
  cond (!put6)
  (bI ((List.length out5 + List.length ([t1])) * 8 ≤ 140737488355328 ∧ List.length out5 + List.length ([t1]) ≤ 9223372036854775807) <|
  sY (out5 ++ ([t1])))
  (sY out5)

noncomputable def vL (l0 : (List Int)) (t1 : Int) (out5 : List Int) (put6 : Bool) (i7 : Int) : Option ((List Int × Bool × Int) ⊕ ((List Int × Bool) ⊕ (List Int))) :=
  bI (0 ≤ i7 ∧ i7 < ((List.length l0 : Nat) : Int)) <|
  bI ((List.length out5 + List.length ([List.getD l0 (Int.toNat i7) default])) * 8 ≤ 140737488355328 ∧ List.length out5 + List.length ([List.getD l0 (Int.toNat i7) default]) ≤ 9223372036854775807) <|
  some (.inl (out5 ++ ([List.getD l0 (Int.toNat i7) default]), put6, IntKind.i64.wrap (i7 + (1 : Int))))

noncomputable def iW (l0 : (List Int)) (t1 : Int) (out5 : List Int) (put6 : Bool) (i7 : Int) : Option ((List Int × Bool × Int) ⊕ ((List Int × Bool) ⊕ (List Int))) :=
  cond (decide (i7 < ((List.length l0 : Nat) : Int)))
  (bI (0 ≤ i7 ∧ i7 < ((List.length l0 : Nat) : Int)) <|
  cond (decide ((List.getD l0 (Int.toNat i7) default) = t1))
  (some (.inr (.inr l0)))
  (bI (0 ≤ i7 ∧ i7 < ((List.length l0 : Nat) : Int)) <|
  cond ((decide (t1 < (List.getD l0 (Int.toNat i7) default))) && (!put6))
  (bI ((List.length out5 + List.length ([t1])) * 8 ≤ 140737488355328 ∧ List.length out5 + List.length ([t1]) ≤ 9223372036854775807) <|
  vL l0 t1 (out5 ++ ([t1])) true i7)
  (vL l0 t1 out5 put6 i7)))
  (some (.inr (.inl (out5, put6))))

noncomputable def zK (l0 : (List Int)) (t1 : Int) (out5 : List Int) (put6 : Bool) (i7 : Int) : Option (List Int) :=
  (lp (fun s => iW l0 t1 s.1 s.2.1 s.2.2) (out5, put6, i7)).bind (Sum.elim (fun rr => sW t1 rr.1 rr.2) (fun rr => some rr))

noncomputable def tW (l0 : (List Int)) (t1 : Int) : Option (List Int) :=
  zK l0 t1 ([] : List Int) false (0 : Int)

noncomputable def uD (v5 : Int) : Option Int :=
  some v5

noncomputable def rO (f0 : (List aD)) (t1 : Int) (v5 : Int) (i6 : Int) : Option ((Int × Int) ⊕ (Int)) :=
  some (.inl (v5, IntKind.i64.wrap (i6 + (1 : Int))))

noncomputable def kI (f0 : (List aD)) (t1 : Int) (v5 : Int) (i6 : Int) : Option ((Int × Int) ⊕ (Int)) :=
  cond (decide (i6 < ((List.length f0 : Nat) : Int)))
  (bI (0 ≤ i6 ∧ i6 < ((List.length f0 : Nat) : Int)) <|
  cond (decide (((List.getD f0 (Int.toNat i6) default).At) ≤ t1))
  (bI (0 ≤ i6 ∧ i6 < ((List.length f0 : Nat) : Int)) <|
  rO f0 t1 (IntKind.i64.wrap (v5 + ((List.getD f0 (Int.toNat i6) default).Net))) i6)
  (rO f0 t1 v5 i6))
  (some (.inr v5))

noncomputable def yB (f0 : (List aD)) (t1 : Int) (v5 : Int) (i6 : Int) : Option Int :=
  (lp (fun s => kI f0 t1 s.1 s.2) (v5, i6)).bind (fun rr => uD rr)

noncomputable def vI (f0 : (List aD)) (t1 : Int) : Option Int :=
  yB f0 t1 (0 : Int) (0 : Int)

noncomputable def vV (f6 : List aD) : Option ((List aD) × Int) :=
  (tK f6).bind fun x2 =>
  cond (!x2)
  (some ([], (7 : Int)))
  (some (f6, (0 : Int)))

noncomputable def vE (eG : (List Int)) (dM : (List Int)) (f6 : List aD) (i8 : Int) : Option ((List aD × Int × Int) ⊕ ((List aD))) :=
  bI (0 ≤ i8 ∧ i8 < ((List.length dM : Nat) : Int)) <|
  some (.inl (f6, List.getD dM (Int.toNat i8) default, IntKind.i64.wrap (i8 + (1 : Int))))

noncomputable def oL (eG : (List Int)) (dM : (List Int)) (f6 : List aD) (was7 : Int) (i8 : Int) : Option ((List aD × Int × Int) ⊕ ((List aD))) :=
  cond (decide (i8 < ((List.length eG : Nat) : Int)))
  (bI (0 ≤ i8 ∧ i8 < ((List.length dM : Nat) : Int)) <|
  cond (!decide ((List.getD dM (Int.toNat i8) default) = was7))
  (bI (0 ≤ i8 ∧ i8 < ((List.length eG : Nat) : Int)) <|
  bI (0 ≤ i8 ∧ i8 < ((List.length dM : Nat) : Int)) <|
  bI ((List.length f6 + List.length ([aD.mk (List.getD eG (Int.toNat i8) default) (IntKind.i64.wrap ((List.getD dM (Int.toNat i8) default) - was7))])) * 16 ≤ 140737488355328 ∧ List.length f6 + List.length ([aD.mk (List.getD eG (Int.toNat i8) default) (IntKind.i64.wrap ((List.getD dM (Int.toNat i8) default) - was7))]) ≤ 9223372036854775807) <|
  vE eG dM (f6 ++ ([aD.mk (List.getD eG (Int.toNat i8) default) (IntKind.i64.wrap ((List.getD dM (Int.toNat i8) default) - was7))])) i8)
  (vE eG dM f6 i8))
  (some (.inr f6))

noncomputable def zL (eG : (List Int)) (dM : (List Int)) (f6 : List aD) (was7 : Int) (i8 : Int) : Option ((List aD) × Int) :=
  (lp (fun s => oL eG dM s.1 s.2.1 s.2.2) (f6, was7, i8)).bind (fun rr => vV rr)

noncomputable def xL (eG : (List Int)) (dM : (List Int)) : Option ((List aD) × Int) :=
  zL eG dM ([] : List aD) (0 : Int) (0 : Int)

noncomputable def uY (cL : (List Int)) (eZ : List Int) : Option ((List aD) × Int) :=
  (xL cL eZ).bind fun x2 =>
  some (x2.1, x2.2)

noncomputable def oT (l0 : (List aD)) (cL : (List Int)) (eZ : List Int) (i8 : Int) : Option ((List Int × Int) ⊕ ((List Int))) :=
  cond (decide (i8 < ((List.length cL : Nat) : Int)))
  (bI (0 ≤ i8 ∧ i8 < ((List.length cL : Nat) : Int)) <|
  (vI l0 (List.getD cL (Int.toNat i8) default)).bind fun x9 =>
  bI ((List.length eZ + List.length ([x9])) * 8 ≤ 140737488355328 ∧ List.length eZ + List.length ([x9]) ≤ 9223372036854775807) <|
  some (.inl (eZ ++ ([x9]), IntKind.i64.wrap (i8 + (1 : Int)))))
  (some (.inr eZ))

noncomputable def zM (l0 : (List aD)) (cL : (List Int)) (eZ : List Int) (i8 : Int) : Option ((List aD) × Int) :=
  (lp (fun s => oT l0 cL s.1 s.2) (eZ, i8)).bind (fun rr => uY cL rr)

noncomputable def vK (l0 : (List aD)) (cL : (List Int)) : Option ((List aD) × Int) :=
  zM l0 cL ([] : List Int) (0 : Int)

noncomputable def vO (l0 : (List aD)) (cL : (List Int)) (i6 : Int) : Option (((List Int) × Int) ⊕ ((List Int) ⊕ ((List aD) × Int))) :=
  some (.inl (cL, IntKind.i64.wrap (i6 + (1 : Int))))

noncomputable def kE (l0 : (List aD)) (cL : (List Int)) (i6 : Int) : Option (((List Int) × Int) ⊕ ((List Int) ⊕ ((List aD) × Int))) :=
  cond (decide (i6 < ((List.length l0 : Nat) : Int)))
  (bI (0 ≤ i6 ∧ i6 < ((List.length l0 : Nat) : Int)) <|
  bI ((((!(decide (((List.getD l0 (Int.toNat i6) default).At) < (-1 : Int))))) = true → 0 ≤ i6 ∧ i6 < ((List.length l0 : Nat) : Int))) <|
  cond ((decide (((List.getD l0 (Int.toNat i6) default).At) < (-1 : Int))) || (decide ((1125899906842624 : Int) < ((List.getD l0 (Int.toNat i6) default).At))))
  (some (.inr (.inr ([], (13 : Int)))))
  (bI (0 ≤ i6 ∧ i6 < ((List.length l0 : Nat) : Int)) <|
  cond (decide (((List.getD l0 (Int.toNat i6) default).At) < (1125899906842624 : Int)))
  (bI (0 ≤ i6 ∧ i6 < ((List.length l0 : Nat) : Int)) <|
  (tW cL ((List.getD l0 (Int.toNat i6) default).At)).bind fun x24 =>
  vO l0 x24 i6)
  (vO l0 cL i6)))
  (some (.inr (.inl cL)))

noncomputable def zO (l0 : (List aD)) (cL : (List Int)) (i6 : Int) : Option ((List aD) × Int) :=
  (lp (fun s => kE l0 s.1 s.2) (cL, i6)).bind (Sum.elim (fun rr => vK l0 rr) (fun rr => some (rr.1, rr.2)))

noncomputable def vF (l0 : (List aD)) : Option ((List aD) × Int) :=
  zO l0 ([]) (0 : Int)

noncomputable def qT (l0 : (List aD)) (i4 : Int) : Option ((Int) ⊕ (Unit ⊕ ((List aD) × Int))) :=
  cond (decide (i4 < ((List.length l0 : Nat) : Int)))
  (bI (0 ≤ i4 ∧ i4 < ((List.length l0 : Nat) : Int)) <|
  bI ((((!(decide ((1048576 : Int) < ((List.getD l0 (Int.toNat i4) default).Net))))) = true → 0 ≤ i4 ∧ i4 < ((List.length l0 : Nat) : Int))) <|
  cond ((decide ((1048576 : Int) < ((List.getD l0 (Int.toNat i4) default).Net))) || (decide (((List.getD l0 (Int.toNat i4) default).Net) < (-1048576 : Int))))
  (some (.inr (.inr ([], (2 : Int)))))
  (some (.inl (IntKind.i64.wrap (i4 + (1 : Int))))))
  (some (.inr (.inl ())))

noncomputable def zG (l0 : (List aD)) (i4 : Int) : Option ((List aD) × Int) :=
  (lp (fun s => qT l0 s) i4).bind (Sum.elim (fun rr => vF l0) (fun rr => some (rr.1, rr.2)))

noncomputable def xF (l0 : (List aD)) : Option ((List aD) × Int) :=
  zG l0 (0 : Int)

noncomputable def BE (l0 : List aB) : Option (List aB) :=
  some l0

noncomputable def qJ (r1 : (List aI)) (f2 : (List aD)) (l0 : List aB) (i7 : Int) : Option ((List aB × Int) ⊕ ((List aB))) :=
  cond (decide (i7 < ((List.length f2 : Nat) : Int)))
  (bI (List.length r1 * 32 ≤ 140737488355328 ∧ List.length r1 ≤ 9223372036854775807) <|
  bI (0 ≤ i7 ∧ i7 < ((List.length f2 : Nat) : Int)) <|
  bI (0 ≤ i7 ∧ i7 < ((List.length f2 : Nat) : Int)) <|
  bI ((List.length l0 + List.length ([aB.mk r1 ((List.getD f2 (Int.toNat i7) default).At) ((List.getD f2 (Int.toNat i7) default).Net)])) * 40 ≤ 140737488355328 ∧ List.length l0 + List.length ([aB.mk r1 ((List.getD f2 (Int.toNat i7) default).At) ((List.getD f2 (Int.toNat i7) default).Net)]) ≤ 9223372036854775807) <|
  some (.inl (l0 ++ ([aB.mk r1 ((List.getD f2 (Int.toNat i7) default).At) ((List.getD f2 (Int.toNat i7) default).Net)]), IntKind.i64.wrap (i7 + (1 : Int)))))
  (some (.inr l0))

noncomputable def BL (l0 : List aB) (r1 : (List aI)) (f2 : (List aD)) (i7 : Int) : Option (List aB) :=
  (lp (fun s => qJ r1 f2 s.1 s.2) (l0, i7)).bind (fun rr => BE rr)

noncomputable def yQ (l0 : (List aB)) (r1 : (List aI)) (f2 : (List aD)) : Option (List aB) :=
  BL l0 r1 f2 (0 : Int)

noncomputable def sR (out6 : List aB) : Option ((List aB) × Int) :=
  cond (decide ((4096 : Int) < ((List.length out6 : Nat) : Int)))
  (some ([], (7 : Int)))
  (some (out6, (0 : Int)))

noncomputable def oN (l0 : (List aB)) (oW : (List (List aI))) (out6 : List aB) (i8 : Int) : Option ((List aB × Int) ⊕ ((List aB) ⊕ ((List aB) × Int))) :=
  cond (decide (i8 < ((List.length oW : Nat) : Int)))
  (bI (0 ≤ i8 ∧ i8 < ((List.length oW : Nat) : Int)) <|
  (sV l0 (List.getD oW (Int.toNat i8) default)).bind fun x11 =>
  (xF x11).bind fun x14 =>
  cond (!decide (x14.2 = (0 : Int)))
  (some (.inr (.inr ([], x14.2))))
  (bI (0 ≤ i8 ∧ i8 < ((List.length oW : Nat) : Int)) <|
  (yQ out6 (List.getD oW (Int.toNat i8) default) x14.1).bind fun x19 =>
  some (.inl (x19, IntKind.i64.wrap (i8 + (1 : Int))))))
  (some (.inr (.inl out6)))

noncomputable def zJ (l0 : (List aB)) (out6 : List aB) (oW : (List (List aI))) (i8 : Int) : Option ((List aB) × Int) :=
  (lp (fun s => oN l0 oW s.1 s.2) (out6, i8)).bind (Sum.elim (fun rr => sR rr) (fun rr => some (rr.1, rr.2)))

noncomputable def uZ (l0 : (List aB)) : Option ((List aB) × Int) :=
  (tT l0).bind fun x1 =>
  zJ l0 ([] : List aB) x1 (0 : Int)

noncomputable def qQ (l0 : (List aB)) (i5 : Int) : Option ((Int) ⊕ (Unit ⊕ ((List aB) × Int))) :=
  cond (decide (i5 < ((List.length l0 : Nat) : Int)))
  (bI (0 ≤ i5 ∧ i5 < ((List.length l0 : Nat) : Int)) <|
  bI ((((!(decide (((List.getD l0 (Int.toNat i5) default).At) < (-1 : Int))))) = true → 0 ≤ i5 ∧ i5 < ((List.length l0 : Nat) : Int))) <|
  cond ((decide (((List.getD l0 (Int.toNat i5) default).At) < (-1 : Int))) || (decide ((1125899906842624 : Int) < ((List.getD l0 (Int.toNat i5) default).At))))
  (some (.inr (.inr ([], (13 : Int)))))
  (some (.inl (IntKind.i64.wrap (i5 + (1 : Int))))))
  (some (.inr (.inl ())))

noncomputable def zQ (l0 : (List aB)) (i5 : Int) : Option ((List aB) × Int) :=
  (lp (fun s => qQ l0 s) i5).bind (Sum.elim (fun rr => uZ l0) (fun rr => some (rr.1, rr.2)))

noncomputable def vA (l0 : (List aB)) : Option ((List aB) × Int) :=
  zQ l0 (0 : Int)

noncomputable def qS (l0 : (List aB)) (i4 : Int) : Option ((Int) ⊕ (Unit ⊕ ((List aB) × Int))) :=
  cond (decide (i4 < ((List.length l0 : Nat) : Int)))
  (bI (0 ≤ i4 ∧ i4 < ((List.length l0 : Nat) : Int)) <|
  (rK ((List.getD l0 (Int.toNat i4) default).Row)).bind fun x30 =>
  bI ((((!(!x30))) = true → 0 ≤ i4 ∧ i4 < ((List.length l0 : Nat) : Int))) <|
  bI ((((!((!x30) || (decide ((1048576 : Int) < ((List.getD l0 (Int.toNat i4) default).Net)))))) = true → 0 ≤ i4 ∧ i4 < ((List.length l0 : Nat) : Int))) <|
  cond (((!x30) || (decide ((1048576 : Int) < ((List.getD l0 (Int.toNat i4) default).Net)))) || (decide (((List.getD l0 (Int.toNat i4) default).Net) < (-1048576 : Int))))
  (some (.inr (.inr ([], (2 : Int)))))
  (some (.inl (IntKind.i64.wrap (i4 + (1 : Int))))))
  (some (.inr (.inl ())))

noncomputable def zI (l0 : (List aB)) (i4 : Int) : Option ((List aB) × Int) :=
  (lp (fun s => qS l0 s) i4).bind (Sum.elim (fun rr => vA l0) (fun rr => some (rr.1, rr.2)))

noncomputable def xJ (l0 : (List aB)) : Option ((List aB) × Int) :=
  zI l0 (0 : Int)

noncomputable def yN (a0 : (List aB)) (b1 : (List aB)) : Option ((List aB) × Int) :=
  (tJ a0).bind fun x1 =>
  (dU (!(!x1)) (tJ b1)).bind fun x4 =>
  cond ((!x1) || (!x4))
  (some ([], (2 : Int)))
  (bI (List.length a0 * 40 ≤ 140737488355328 ∧ List.length a0 ≤ 9223372036854775807) <|
  bI ((List.length a0 + List.length b1) * 40 ≤ 140737488355328 ∧ List.length a0 + List.length b1 ≤ 9223372036854775807) <|
  (xJ (a0 ++ b1)).bind fun x16 =>
  some (x16.1, x16.2))

noncomputable def qH (a0 : bE) (k1 : Int) (l2 : (List aB)) : Option (Int × bE) :=
  bI (0 ≤ k1 ∧ k1 < ((List.length a0.aR : Nat) : Int)) <|
  (yN (List.getD a0.aR (Int.toNat k1) default) l2).bind fun x9 =>
  cond (!decide (x9.2 = (0 : Int)))
  (some (x9.2, a0))
  (bI (0 ≤ k1 ∧ k1 < ((List.length a0.aR : Nat) : Int)) <|
  some ((0 : Int), bE.mk a0.Clocks (List.set a0.aR (Int.toNat k1) x9.1)))

noncomputable def nO (k1 : Int) (l2 : (List aB)) (a0 : bE) (i7 : Int) : Option ((bE × Int) ⊕ (bE ⊕ (Int × bE))) :=
  cond (decide (i7 < ((List.length l2 : Nat) : Int)))
  (bI (0 ≤ i7 ∧ i7 < ((List.length l2 : Nat) : Int)) <|
  bI (0 ≤ k1 ∧ k1 < ((List.length a0.Clocks : Nat) : Int)) <|
  cond (decide (((List.getD l2 (Int.toNat i7) default).At) < (List.getD a0.Clocks (Int.toNat k1) default)))
  (some (.inr (.inr ((16 : Int), a0))))
  (some (.inl (a0, IntKind.i64.wrap (i7 + (1 : Int))))))
  (some (.inr (.inl a0)))

noncomputable def tC (a0 : bE) (k1 : Int) (l2 : (List aB)) (i7 : Int) : Option (Int × bE) :=
  (lp (fun s => nO k1 l2 s.1 s.2) (a0, i7)).bind (Sum.elim (fun rr => qH rr k1 l2) (fun rr => some (rr.1, rr.2)))

noncomputable def qV (a0 : bE) (k1 : Int) (l2 : (List aB)) : Option (Int × bE) :=
  cond ((decide (k1 < (0 : Int))) || (decide (((List.length a0.Clocks : Nat) : Int) ≤ k1)))
  (some ((3 : Int), a0))
  ((tJ l2).bind fun x2 =>
  cond (!x2)
  (some ((2 : Int), a0))
  (tC a0 k1 l2 (0 : Int)))

noncomputable def AW (t0 : Int) : Option Bool :=
  some ((decide ((0 : Int) ≤ t0)) && (decide (t0 ≤ (1125899906842624 : Int))))

noncomputable def oZ (a0 : bE) (k1 : Int) (t2 : Int) : Option (Int × bE) :=
  cond ((decide (k1 < (0 : Int))) || (decide (((List.length a0.Clocks : Nat) : Int) ≤ k1)))
  (some ((3 : Int), a0))
  ((AW t2).bind fun x2 =>
  cond (!x2)
  (some ((13 : Int), a0))
  (bI (0 ≤ k1 ∧ k1 < ((List.length a0.Clocks : Nat) : Int)) <|
  cond (decide (t2 < (List.getD a0.Clocks (Int.toNat k1) default)))
  (some ((16 : Int), a0))
  (bI (0 ≤ k1 ∧ k1 < ((List.length a0.Clocks : Nat) : Int)) <|
  some ((0 : Int), bE.mk (List.set a0.Clocks (Int.toNat k1) t2) a0.aR))))

noncomputable def oG (a0 : bE) (t3 : Int) : Option Int :=
  some t3

noncomputable def oF (a0 : bE) (t3 : Int) (i4 : Int) : Option ((Int × Int) ⊕ (Int)) :=
  some (.inl (t3, IntKind.i64.wrap (i4 + (1 : Int))))

noncomputable def lY (a0 : bE) (t3 : Int) (i4 : Int) : Option ((Int × Int) ⊕ (Int)) :=
  cond (decide (i4 < ((List.length a0.Clocks : Nat) : Int)))
  (bI (0 ≤ i4 ∧ i4 < ((List.length a0.Clocks : Nat) : Int)) <|
  cond (decide ((List.getD a0.Clocks (Int.toNat i4) default) < t3))
  (bI (0 ≤ i4 ∧ i4 < ((List.length a0.Clocks : Nat) : Int)) <|
  oF a0 (List.getD a0.Clocks (Int.toNat i4) default) i4)
  (oF a0 t3 i4))
  (some (.inr t3))

noncomputable def qZ (a0 : bE) (t3 : Int) (i4 : Int) : Option Int :=
  (lp (fun s => lY a0 s.1 s.2) (t3, i4)).bind (fun rr => oG a0 rr)

noncomputable def mS (a0 : bE) : Option Int :=
  bI (0 ≤ (0 : Int) ∧ (0 : Int) < ((List.length a0.Clocks : Nat) : Int)) <|
  qZ a0 (List.getD a0.Clocks (Int.toNat (0 : Int)) default) (1 : Int)

noncomputable def mZ (a0 : bE) (out4 : List (List aB)) : Option ((List (List aB)) × bE) :=
  some (out4, a0)

noncomputable def pW (a0 : bE) (t3 : Int) (out4 : List (List aB)) (k5 : Int) : Option ((bE × List (List aB) × Int) ⊕ ((bE × List (List aB)))) :=
  some (.inl (a0, out4, IntKind.i64.wrap (k5 + (1 : Int))))

noncomputable def mW (a0 : bE) (t3 : Int) (out4 : List (List aB)) (k5 : Int) (bZ : List aB) (cB : List aB) : Option ((bE × List (List aB) × Int) ⊕ ((bE × List (List aB)))) :=
  bI (0 ≤ k5 ∧ k5 < ((List.length a0.aR : Nat) : Int)) <|
  bI ((List.length out4 + List.length ([bZ])) * 24 ≤ 140737488355328 ∧ List.length out4 + List.length ([bZ]) ≤ 9223372036854775807) <|
  pW (bE.mk a0.Clocks (List.set a0.aR (Int.toNat k5) cB)) t3 (out4 ++ ([bZ])) k5

noncomputable def kJ (a0 : bE) (t3 : Int) (out4 : List (List aB)) (k5 : Int) (bZ : List aB) (cB : List aB) (i8 : Int) : Option ((bE × List (List aB) × List aB × List aB × Int) ⊕ ((bE × List (List aB) × List aB × List aB))) :=
  some (.inl (a0, out4, bZ, cB, IntKind.i64.wrap (i8 + (1 : Int))))

noncomputable def gS (t3 : Int) (k5 : Int) (a0 : bE) (out4 : List (List aB)) (bZ : List aB) (cB : List aB) (i8 : Int) : Option ((bE × List (List aB) × List aB × List aB × Int) ⊕ ((bE × List (List aB) × List aB × List aB))) :=
  bI (0 ≤ k5 ∧ k5 < ((List.length a0.aR : Nat) : Int)) <|
  cond (decide (i8 < ((List.length (List.getD a0.aR (Int.toNat k5) default) : Nat) : Int)))
  (bI (0 ≤ k5 ∧ k5 < ((List.length a0.aR : Nat) : Int)) <|
  bI (0 ≤ i8 ∧ i8 < ((List.length (List.getD a0.aR (Int.toNat k5) default) : Nat) : Int)) <|
  cond (decide (((List.getD (List.getD a0.aR (Int.toNat k5) default) (Int.toNat i8) default).At) < t3))
  (bI (0 ≤ k5 ∧ k5 < ((List.length a0.aR : Nat) : Int)) <|
  bI (0 ≤ i8 ∧ i8 < ((List.length (List.getD a0.aR (Int.toNat k5) default) : Nat) : Int)) <|
  bI ((List.length bZ + List.length ([List.getD (List.getD a0.aR (Int.toNat k5) default) (Int.toNat i8) default])) * 40 ≤ 140737488355328 ∧ List.length bZ + List.length ([List.getD (List.getD a0.aR (Int.toNat k5) default) (Int.toNat i8) default]) ≤ 9223372036854775807) <|
  kJ a0 t3 out4 k5 (bZ ++ ([List.getD (List.getD a0.aR (Int.toNat k5) default) (Int.toNat i8) default])) cB i8)
  (bI (0 ≤ k5 ∧ k5 < ((List.length a0.aR : Nat) : Int)) <|
  bI (0 ≤ i8 ∧ i8 < ((List.length (List.getD a0.aR (Int.toNat k5) default) : Nat) : Int)) <|
  bI ((List.length cB + List.length ([List.getD (List.getD a0.aR (Int.toNat k5) default) (Int.toNat i8) default])) * 40 ≤ 140737488355328 ∧ List.length cB + List.length ([List.getD (List.getD a0.aR (Int.toNat k5) default) (Int.toNat i8) default]) ≤ 9223372036854775807) <|
  kJ a0 t3 out4 k5 bZ (cB ++ ([List.getD (List.getD a0.aR (Int.toNat k5) default) (Int.toNat i8) default])) i8))
  (some (.inr (a0, out4, bZ, cB)))

noncomputable def pY (a0 : bE) (t3 : Int) (out4 : List (List aB)) (k5 : Int) (bZ : List aB) (cB : List aB) (i8 : Int) : Option ((bE × List (List aB) × Int) ⊕ ((bE × List (List aB)))) :=
  (lp (fun s => gS t3 k5 s.1 s.2.1 s.2.2.1 s.2.2.2.1 s.2.2.2.2) (a0, out4, bZ, cB, i8)).bind (fun rr => mW rr.1 t3 rr.2.1 k5 rr.2.2.1 rr.2.2.2)

noncomputable def gT (t3 : Int) (a0 : bE) (out4 : List (List aB)) (k5 : Int) : Option ((bE × List (List aB) × Int) ⊕ ((bE × List (List aB)))) :=
  cond (decide (k5 < ((List.length a0.aR : Nat) : Int)))
  (pY a0 t3 out4 k5 ([] : List aB) ([] : List aB) (0 : Int))
  (some (.inr (a0, out4)))

noncomputable def pU (a0 : bE) (t3 : Int) (out4 : List (List aB)) (k5 : Int) : Option ((List (List aB)) × bE) :=
  (lp (fun s => gT t3 s.1 s.2.1 s.2.2) (a0, out4, k5)).bind (fun rr => mZ rr.1 rr.2)

noncomputable def kP (a0 : bE) : Option ((List (List aB)) × bE) :=
  (mS a0).bind fun x1 =>
  pU a0 x1 ([] : List (List aB)) (0 : Int)

noncomputable def vB  : Option Bool :=
  some true

noncomputable def sO (a0 : (List aB)) (b1 : (List aB)) (i5 : Int) : Option ((Int) ⊕ (Unit ⊕ Bool)) :=
  cond (decide (i5 < ((List.length a0 : Nat) : Int)))
  (bI (0 ≤ i5 ∧ i5 < ((List.length a0 : Nat) : Int)) <|
  bI (0 ≤ i5 ∧ i5 < ((List.length b1 : Nat) : Int)) <|
  bI ((((!(!decide (((List.getD a0 (Int.toNat i5) default).At) = ((List.getD b1 (Int.toNat i5) default).At))))) = true → 0 ≤ i5 ∧ i5 < ((List.length a0 : Nat) : Int))) <|
  bI ((((!(!decide (((List.getD a0 (Int.toNat i5) default).At) = ((List.getD b1 (Int.toNat i5) default).At))))) = true → 0 ≤ i5 ∧ i5 < ((List.length b1 : Nat) : Int))) <|
  bI ((((!((!decide (((List.getD a0 (Int.toNat i5) default).At) = ((List.getD b1 (Int.toNat i5) default).At))) || (!decide (((List.getD a0 (Int.toNat i5) default).Net) = ((List.getD b1 (Int.toNat i5) default).Net)))))) = true → 0 ≤ i5 ∧ i5 < ((List.length a0 : Nat) : Int))) <|
  bI ((((!((!decide (((List.getD a0 (Int.toNat i5) default).At) = ((List.getD b1 (Int.toNat i5) default).At))) || (!decide (((List.getD a0 (Int.toNat i5) default).Net) = ((List.getD b1 (Int.toNat i5) default).Net)))))) = true → 0 ≤ i5 ∧ i5 < ((List.length b1 : Nat) : Int))) <|
  (dU (!((!decide (((List.getD a0 (Int.toNat i5) default).At) = ((List.getD b1 (Int.toNat i5) default).At))) || (!decide (((List.getD a0 (Int.toNat i5) default).Net) = ((List.getD b1 (Int.toNat i5) default).Net))))) (rT ((List.getD a0 (Int.toNat i5) default).Row) ((List.getD b1 (Int.toNat i5) default).Row))).bind fun x9 =>
  cond (((!decide (((List.getD a0 (Int.toNat i5) default).At) = ((List.getD b1 (Int.toNat i5) default).At))) || (!decide (((List.getD a0 (Int.toNat i5) default).Net) = ((List.getD b1 (Int.toNat i5) default).Net)))) || (!x9))
  (some (.inr (.inr false)))
  (some (.inl (IntKind.i64.wrap (i5 + (1 : Int))))))
  (some (.inr (.inl ())))

noncomputable def zH (a0 : (List aB)) (b1 : (List aB)) (i5 : Int) : Option Bool :=
  (lp (fun s => sO a0 b1 s) i5).bind (Sum.elim (fun rr => vB ) (fun rr => some rr))

noncomputable def xP (a0 : (List aB)) (b1 : (List aB)) : Option Bool :=
  cond (!decide (((List.length a0 : Nat) : Int) = ((List.length b1 : Nat) : Int)))
  (some false)
  (zH a0 b1 (0 : Int))

noncomputable def uA  : Option Bool :=
  some true

noncomputable def rQ (a0 : (List (List aB))) (b1 : (List (List aB))) (i5 : Int) : Option ((Int) ⊕ (Unit ⊕ Bool)) :=
  cond (decide (i5 < ((List.length a0 : Nat) : Int)))
  (bI (0 ≤ i5 ∧ i5 < ((List.length a0 : Nat) : Int)) <|
  bI (0 ≤ i5 ∧ i5 < ((List.length b1 : Nat) : Int)) <|
  (xP (List.getD a0 (Int.toNat i5) default) (List.getD b1 (Int.toNat i5) default)).bind fun x5 =>
  cond (!x5)
  (some (.inr (.inr false)))
  (some (.inl (IntKind.i64.wrap (i5 + (1 : Int))))))
  (some (.inr (.inl ())))

noncomputable def xZ (a0 : (List (List aB))) (b1 : (List (List aB))) (i5 : Int) : Option Bool :=
  (lp (fun s => rQ a0 b1 s) i5).bind (Sum.elim (fun rr => uA ) (fun rr => some rr))

noncomputable def sZ (a0 : (List (List aB))) (b1 : (List (List aB))) : Option Bool :=
  cond (!decide (((List.length a0 : Nat) : Int) = ((List.length b1 : Nat) : Int)))
  (some false)
  (xZ a0 b1 (0 : Int))

noncomputable def oX (a0 : bE) (n3 : Int) : Option Int :=
  some n3

noncomputable def mU (a0 : bE) (n3 : Int) (k4 : Int) : Option ((Int × Int) ⊕ (Int)) :=
  cond (decide (k4 < ((List.length a0.aR : Nat) : Int)))
  (bI (0 ≤ k4 ∧ k4 < ((List.length a0.aR : Nat) : Int)) <|
  some (.inl (IntKind.i64.wrap (n3 + ((List.length (List.getD a0.aR (Int.toNat k4) default) : Nat) : Int)), IntKind.i64.wrap (k4 + (1 : Int)))))
  (some (.inr n3))

noncomputable def sJ (a0 : bE) (n3 : Int) (k4 : Int) : Option Int :=
  (lp (fun s => mU a0 s.1 s.2) (n3, k4)).bind (fun rr => oX a0 rr)

noncomputable def qG (a0 : bE) : Option Int :=
  sJ a0 (0 : Int) (0 : Int)

noncomputable def qF (a5 : bN) (e6 : Int) (b7 : bE) : Option Bool :=
  (iX ).bind fun x70 =>
  (cond (x70 && (decide (e6 = (0 : Int)))) (dI a5) (some ([], a5))).bind fun x73 =>
  (cond (x70 && (decide (e6 = (0 : Int)))) (kP b7) (some ([], b7))).bind fun x79 =>
  (dU (x70 && (decide (e6 = (0 : Int)))) (sZ x73.1 x79.1)).bind fun x86 =>
  some ((x70 && (decide (e6 = (0 : Int)))) && x86)

noncomputable def kR (l1 : (List eM)) (a5 : bN) (e6 : Int) (b7 : bE) (i8 : Int) : Option ((bN × bE × Int) ⊕ ((bN × bE) ⊕ Bool)) :=
  (eP a5).bind fun x99 =>
  (mS b7).bind fun x104 =>
  (cond (!(!decide (x99 = x104))) (gQ a5) (some 0)).bind fun x109 =>
  (cond (!(!decide (x99 = x104))) (qG b7) (some 0)).bind fun x114 =>
  cond ((!decide (x99 = x104)) || (!decide (x109 = x114)))
  (some (.inr (.inr false)))
  (some (.inl (a5, b7, IntKind.i64.wrap (i8 + (1 : Int)))))

noncomputable def jC (l1 : (List eM)) (e6 : Int) (a5 : bN) (b7 : bE) (i8 : Int) : Option ((bN × bE × Int) ⊕ ((bN × bE) ⊕ Bool)) :=
  cond (decide (i8 < ((List.length l1 : Nat) : Int)))
  (bI (0 ≤ i8 ∧ i8 < ((List.length l1 : Nat) : Int)) <|
  cond (decide (((List.getD l1 (Int.toNat i8) default).Kind) = (0 : Int)))
  (bI (0 ≤ i8 ∧ i8 < ((List.length l1 : Nat) : Int)) <|
  bI (0 ≤ i8 ∧ i8 < ((List.length l1 : Nat) : Int)) <|
  (mC a5 ((List.getD l1 (Int.toNat i8) default).Input) ((List.getD l1 (Int.toNat i8) default).Edges)).bind fun x124 =>
  bI (0 ≤ i8 ∧ i8 < ((List.length l1 : Nat) : Int)) <|
  bI (0 ≤ i8 ∧ i8 < ((List.length l1 : Nat) : Int)) <|
  (qV b7 ((List.getD l1 (Int.toNat i8) default).Input) ((List.getD l1 (Int.toNat i8) default).Edges)).bind fun x132 =>
  cond (!decide (x124.1 = x132.1))
  (some (.inr (.inr false)))
  (kR l1 x124.2 e6 x132.2 i8))
  (cond (decide (((List.getD l1 (Int.toNat i8) default).Kind) = (1 : Int)))
  (bI (0 ≤ i8 ∧ i8 < ((List.length l1 : Nat) : Int)) <|
  bI (0 ≤ i8 ∧ i8 < ((List.length l1 : Nat) : Int)) <|
  (fU a5 ((List.getD l1 (Int.toNat i8) default).Input) ((List.getD l1 (Int.toNat i8) default).At)).bind fun x143 =>
  bI (0 ≤ i8 ∧ i8 < ((List.length l1 : Nat) : Int)) <|
  bI (0 ≤ i8 ∧ i8 < ((List.length l1 : Nat) : Int)) <|
  (oZ b7 ((List.getD l1 (Int.toNat i8) default).Input) ((List.getD l1 (Int.toNat i8) default).At)).bind fun x151 =>
  cond (!decide (x143.1 = x151.1))
  (some (.inr (.inr false)))
  (kR l1 x143.2 e6 x151.2 i8))
  ((dI a5).bind fun x159 =>
  (kP b7).bind fun x165 =>
  (sZ x159.1 x165.1).bind fun x172 =>
  cond (!x172)
  (some (.inr (.inr false)))
  (kR l1 x159.2 e6 x165.2 i8))))
  (some (.inr (.inl (a5, b7))))

noncomputable def qL (l1 : (List eM)) (a5 : bN) (e6 : Int) (b7 : bE) (i8 : Int) : Option Bool :=
  (lp (fun s => jC l1 e6 s.1 s.2.1 s.2.2) (a5, b7, i8)).bind (Sum.elim (fun rr => qF rr.1 e6 rr.2) (fun rr => some rr))

noncomputable def tM (n0 : Int) (l1 : (List eM)) : Option Bool :=
  (rH n0).bind fun (oa1, oe2) =>
  match oa1 with
  | none => (cond ((decide (n0 < (1 : Int))) || (decide ((8 : Int) < n0)))
  ((iX ).bind fun x11 =>
  some ((((x11 && (decide (oe2 = (2 : Int)))) && (decide ((0 : Int) = (0 : Int)))) && (decide ((0 : Int) = (0 : Int)))) && (decide (((List.length ([] : List (List aB)) : Nat) : Int) = (0 : Int)))))
  ((oS l1).bind fun x17 =>
  cond (!x17)
  ((iX ).bind fun x21 =>
  some (x21 && (decide (oe2 = (0 : Int)))))
  ((rL n0).bind fun x24 =>
  none)))
  | some a9 => (cond ((decide (n0 < (1 : Int))) || (decide ((8 : Int) < n0)))
  ((iX ).bind fun x33 =>
  (cond (x33 && (decide (oe2 = (2 : Int)))) (eP a9) (some 0)).bind fun x36 =>
  (cond ((x33 && (decide (oe2 = (2 : Int)))) && (decide (x36 = (0 : Int)))) (gQ a9) (some 0)).bind fun x41 =>
  (cond (((x33 && (decide (oe2 = (2 : Int)))) && (decide (x36 = (0 : Int)))) && (decide (x41 = (0 : Int)))) (dI a9) (some ([], a9))).bind fun x46 =>
  some ((((x33 && (decide (oe2 = (2 : Int)))) && (decide (x36 = (0 : Int)))) && (decide (x41 = (0 : Int)))) && (decide (((List.length x46.1 : Nat) : Int) = (0 : Int)))))
  ((oS l1).bind fun x52 =>
  cond (!x52)
  ((iX ).bind fun x56 =>
  some (x56 && (decide (oe2 = (0 : Int)))))
  ((rL n0).bind fun x59 =>
  qL l1 a9 oe2 x59 (0 : Int))))

end Go.Abs
namespace Go.Abs
open Go Go.RowKit
def EL (x : aI) : Prop := uT x.Kind ∧ uT x.Num ∧ (fun s => s.size ≤ maxLen) x.Text ∧ True

def vY (x : aB) : Prop := (fun l => (∀ a ∈ l, EL a) ∧ l.length * 32 ≤ 140737488351232) x.Row ∧ uT x.At ∧ uT x.Net ∧ True

def CN (x : eM) : Prop := uT x.Kind ∧ uT x.Input ∧ (fun l => (∀ a ∈ l, vY a) ∧ l.length * 40 ≤ 140737488351232) x.Edges ∧ uT x.At ∧ True

end Go.Abs
namespace Go.Abs
open Go Go.RowKit Go.Proofs
noncomputable def tt : TT := ⟨aAd Try.prog, VJ Try.prog⟩

theorem aF : eU Try.prog tt := eU.of Try.prog

theorem MI (n0 : Int) (r : Option bN × Int) (h0 : rH n0 = some r) : qE Try.prog 5 [(eI n0)] [] (fun x L => match r.1 with | none => x = (.tup [(.lit (.pointer none)), (eI r.2)]) ∧ L = [] | some a => ∃ lo ls : Nat, x = (.tup [(.lp lo 0 0), (eI r.2)]) ∧ L = [(lo, 1, [(.agg [(.msl 2 ls 0 (List.length a.inputs))])]), (ls, 2, List.map aO a.inputs)]) := by
  intro F H0 hO
  obtain ⟨Fh, Fe, Fg⟩ := F
  refine cF Try.func5 ?_
  unfold rH at h0
  refine aU aF 2 [] [] ?_
  refine aN ?_
  refine aU aF 6 [] [(9, (aK ((decide (n0 < (1 : Int))) || (decide ((8 : Int) < n0)))))] ?_
  refine bK h0 (fun h0 => ?_) (fun h0 => ?_)
  · refine bV aF 2 [(2, (.lit (.pointer none))), (3, (eI (2 : Int)))] ?_
    refine bM ?_
    obtain rfl := oI h0
    exact aH (aP (mO hO ⟨rfl, rfl⟩))
  refine bO ?_
  refine bL [(0, (eI n0))] ?_
  refine aN ?_
  refine aV aF 6 ?_
  refine bP 1 ?_
  obtain ⟨c1, h0⟩ := bG h0
  refine aDf (en := aO) aF 2 32 n0 (aY.mk (0 : Int) []) (.agg [(eI (0 : Int)), (.sl true 0 (fun _ => .bad))]) (WD (xs := [(eI (0 : Int)), (.sl true 0 (fun _ => .bad))]) (ys := [(eI (0 : Int)), (eL aA [])]) ⟨bA.refl _, iY, trivial⟩) c1 hO ?_
  intro ls H hO
  refine bP 3 ?_
  refine nH 1 (.agg [(.msl 2 ls 0 (List.length (List.replicate (Int.toNat n0) (aY.mk (0 : Int) []))))]) (by kernel_rfl) (by kernel_rfl) hO ?_
  intro lo H hO
  refine bH ?_
  refine bL [(2, (.lp lo 0 0)), (3, (eI (0 : Int)))] ?_
  refine bM ?_
  obtain rfl := oI h0
  replace hO := hO.pick (L' := [(lo, 1, [(.agg [(.msl 2 ls 0 (List.length (bN.mk (List.replicate (Int.toNat n0) (aY.mk (0 : Int) []))).inputs))])]), (ls, 2, List.map aO (bN.mk (List.replicate (Int.toNat n0) (aY.mk (0 : Int) []))).inputs)]) [1, 0] (by decide) (by kernel_rfl)
  exact aH (mO hO ⟨lo, ls, rfl, rfl⟩)

theorem EJ (lo0p : Nat) (bF : Nat) (a0 : bN) (k1 : Int) (r : Int) (h0 : pO a0 k1 = some r) : qE Try.prog 23 [(.lp lo0p 0 0), (eI k1)] [(lo0p, 1, [(.agg [(.msl 2 bF 0 (List.length a0.inputs))])]), (bF, 2, List.map aO a0.inputs)] (fun x L => L = [(lo0p, 1, [(.agg [(.msl 2 bF 0 (List.length a0.inputs))])]), (bF, 2, List.map aO a0.inputs)] ∧ ((r = 0 ∧ x = (.tup [(.lp bF (0 + Int.toNat k1) 0), (eI r)]) ∧ (0 ≤ k1 ∧ k1 < (lN a0.inputs))) ∨ (r ≠ 0 ∧ x = (.tup [(.lit (.pointer none)), (eI r)])))) := by
  intro F H0 hO
  obtain ⟨Fh, Fe, Fg⟩ := F
  refine cF Try.func23 ?_
  unfold pO at h0
  refine aU aF 2 [] [] ?_
  refine aN ?_
  refine bT 0 ?_
  refine aN ?_
  refine aV aF 3 ?_
  refine bP 1 ?_
  refine zX false ?_
  refine bH ?_
  refine bL [(0, (.lp lo0p 0 0)), (1, (eI k1)), (6, (aK false))] ?_
  refine nB (false) (fun hc1 => ?_) (fun hc1 => ?_)
  · cases hc1
  · refine aN ?_
    refine aV aF 12 ?_
    refine bP 7 ?_
    refine wB [(12, false)] 0 lo0p 1 0 (.agg [(.msl 2 bF 0 (List.length a0.inputs))]) (.msl 2 bF 0 (List.length a0.inputs)) [(.agg [(.msl 2 bF 0 (List.length a0.inputs))])] (by kernel_rfl) (by kernel_rfl) hO (by kernel_rfl) (!(decide (k1 < (0 : Int)))) (by kernel_rfl) (fun _ => rfl) ?_
    refine bH ?_
    refine bL [(0, (.lp lo0p 0 0)), (1, (eI k1)), (9, (aK ((decide (k1 < (0 : Int))) || (decide ((lN a0.inputs) ≤ k1)))))] ?_
    refine bK h0 (fun h0 => ?_) (fun h0 => ?_)
    · refine bV aF 2 [(4, (.lit (.pointer none))), (5, (eI (3 : Int)))] ?_
      refine bM ?_
      obtain rfl := oI h0
      exact aH (bJ (aP (mO hO ⟨rfl, .inr ⟨by decide, rfl⟩⟩)))
    · refine bO ?_
      refine aH (aX (aG ?_))
      refine cS [(0, (.lp lo0p 0 0)), (1, (eI k1))] ?_
      refine aN ?_
      refine aV aF 8 ?_
      refine bP 3 ?_
      refine eF 0 lo0p 1 0 (.agg [(.msl 2 bF 0 (List.length a0.inputs))]) (.msl 2 bF 0 (List.length a0.inputs)) [(.agg [(.msl 2 bF 0 (List.length a0.inputs))])] hO rfl ?_
      obtain ⟨c1, h0⟩ := bG h0
      refine oH [0 ≤ k1 ∧ k1 < (lN a0.inputs)] ⟨c1, trivial⟩ ?_
      refine bL [(4, (.lp bF (0 + Int.toNat k1) 0)), (5, (eI (0 : Int)))] ?_
      refine bM ?_
      obtain rfl := oI h0
      exact aH (mO hO ⟨rfl, .inl ⟨rfl, rfl, c1⟩⟩)

theorem LU (l0 : (List aB)) (r : (List aB)) (h0 : wA l0 = some r) : cE Try.prog 63 [(eL aA l0)] (.fn (.func 83) [] [(.rp (eL aA r))]) := by
  intro H0
  refine cF Try.func63 ?_
  have hO := aL.start H0
  unfold wA at h0
  refine aN ?_
  refine aV aF 2 ?_
  refine sE 1 (eL aA l0) ?_
  refine bH ?_
  refine bL [(1, (.rp (eL aA l0)))] ?_
  refine bV aF 2 [(2, (.fn (.func 83) [] [(.rp (eL aA l0))]))] ?_
  refine bM ?_
  obtain rfl := oI h0
  exact aH (nU (x := (.fn (.func 83) [] [(.rp (eL aA l0))])) (by kernel_rfl) (bA.refl _) ⟨rfl, hO.out⟩)

theorem zU (s10 : (List aI)) (s21 : (List aI)) (r : Bool) (h0 : jL s10 s21 = some r) : cE Try.prog 94 [(eL aJ s10), (eL aJ s21)] (aK r) := by
  intro H0
  refine cF Try.func94 ?_
  have hO := aL.start H0
  unfold jL at h0
  refine aU aF 1 [] [] ?_
  refine aN ?_
  refine aU aF 5 [] [(10, (aK (!decide ((lN s10) = (lN s21)))))] ?_
  refine bK h0 (fun h0 => ?_) (fun h0 => ?_)
  · refine bV aF 1 [(4, (aK false))] ?_
    refine bM ?_
    obtain rfl := oI h0
    exact aH (aP (Q_r hO))
  refine bO ?_
  refine bL [(0, (eL aJ s10)), (1, (eL aJ s21))] ?_
  refine cK (fun T H => Has T [] ∧ aL ⟨H0, [], []⟩ H [] ∧ fG  = some r) ?_ ?_
  · clear hO h0
    rintro T H ⟨hT, hO, h0⟩
    refine bC hT ?_
    clear hT
    unfold fG at h0
    refine bV aF 1 [(4, (aK true))] ?_
    refine bM ?_
    obtain rfl := oI h0
    exact aH (Q_r hO)
  refine aU aF 3 [] [(12, (eI (lN s10))), (13, (eI (0 : Int)))] ?_
  refine bT 0 ?_
  refine cS [(0, (eL aJ s10)), (1, (eL aJ s21)), (12, (eI (lN s10))), (13, (eI (0 : Int)))] ?_
  refine cG (fun T H => ∃ t12 : Int, ∃ t13 : Int, Has T [(0, (eL aJ s10)), (1, (eL aJ s21)), (12, (eI t12)), (13, (eI t13))] ∧ aL ⟨H0, [], []⟩ H [] ∧ jA s10 s21 t12 t13 = some r) ?_ ⟨(lN s10), (0 : Int), aW, hO, h0⟩
  clear hO h0
  rintro T H ⟨t12, t13, hT, hO, h0⟩
  refine bC hT ?_
  clear hT
  unfold jA at h0
  obtain ⟨rr0, hl0, h0⟩ := bB h0
  refine cZ (fun (s : Int) T H => Has T [(0, (eL aJ s10)), (1, (eL aJ s21)), (12, (eI t12)), (13, (eI s))] ∧ aL ⟨H0, [], []⟩ H []) hl0 ⟨aW, hO⟩ ?_
  clear hO
  rintro k0 s out1 T H ⟨hT, hO⟩ h1 ho0
  obtain ⟨t13, rfl⟩ : ∃ x, x = s := ⟨_, rfl⟩
  replace h1 : dY s10 s21 t12 t13 = some out1 := h1
  refine bC hT ?_
  clear hT
  unfold dY at h1
  refine aU aF 1 [] [(14, (aK (decide (t13 < t12))))] ?_
  refine aN ?_
  refine bK h1 (fun h1 => ?_) (fun h1 => ?_)
  · refine bO ?_
    refine bL [(0, (eL aJ s10)), (1, (eL aJ s21)), (12, (eI t12)), (13, (eI t13))] ?_
    refine aN ?_
    refine bT 1 ?_
    refine aU aF 2 [] [(5, (eI t13))] ?_
    refine aN ?_
    refine fB (fC [19, 23]) aF 9 ?_
    obtain ⟨c3, h1⟩ := bG h1
    obtain ⟨c4, h1⟩ := bG h1
    refine FC (Ds := [0 ≤ t13 ∧ t13 < (lN s10), 0 ≤ t13 ∧ t13 < (lN s21)]) (by kernel_rfl) ⟨c3, c4, trivial⟩ ?_
    refine bS [5] [(24, (aK (!((decide (((gD s10 t13).Kind) = ((gD s21 t13).Kind))) && ((decide (((gD s10 t13).Num) = ((gD s21 t13).Num))) && ((pS ((gD s10 t13).Text) ((gD s21 t13).Text)) && true))))))] ?_
    refine bK h1 (fun h1 => ?_) (fun h1 => ?_)
    · refine bV aF 1 [(4, (aK false))] ?_
      refine bM ?_
      obtain rfl := oI h1
      obtain rfl : _ = rr0 := ho0
      replace h0 : some false = some r := h0
      obtain rfl := oI h0
      exact aH (bJ (aP (aP (bJ (aP (Q_r hO))))))
    refine bO ?_
    refine cO [(0, (eL aJ s10)), (1, (eL aJ s21)), (12, (eI t12)), (13, (eI t13))] ?_
    refine aH (aX (aG (?_)))
    refine aV aF 2 ?_
    refine bH ?_
    exact aH (aG (⟨rfl, _, (oI h1).symm, aW, hO⟩))
  refine cX 0 ?_
  obtain rfl := oI h1
  obtain rfl : _ = rr0 := ho0
  replace h0 : fG  = some r := h0
  exact aH (aS (aS (bQ (aG (⟨rfl, aW, hO, h0⟩)))))

theorem aAa (a0 : (List aI)) (b1 : (List aI)) (r : Bool) (h0 : AV a0 b1 = some r) : cE Try.prog 84 [(eL aJ a0), (eL aJ b1)] (aK r) := by
  intro H0
  refine cF Try.func84 ?_
  have hO := aL.start H0
  unfold AV at h0
  refine aU aF 1 [] [] ?_
  refine aN ?_
  refine aV aF 4 ?_
  refine bP 2 ?_
  obtain ⟨x1, hx2, h0⟩ := bB h0
  refine dB (zU a0 b1 _ hx2) hO ?_
  intro H hO
  refine bH ?_
  refine bL [(4, (aK x1))] ?_
  refine bM ?_
  obtain rfl := oI h0
  exact aH (Q_r hO)

theorem NI (r0 : (List aI)) (r : (List aI)) (h0 : xR r0 = some r) : cE Try.prog 85 [(eL aJ r0)] (eL aJ r) := by
  intro H0
  refine cF Try.func85 ?_
  have hO := aL.start H0
  unfold xR at h0
  refine aU aF 1 [] [] ?_
  refine aN ?_
  refine aV aF 6 ?_
  refine bP 2 ?_
  obtain ⟨c1, h0⟩ := bG h0
  refine aDl 3 32 (lN r0) (by kernel_rfl) (by kernel_rfl) c1 hO ?_
  intro lo2 H hO
  refine bP 4 ?_
  obtain ⟨c4, h0⟩ := bG h0
  refine wD aJ ([] : List aI) r0 0 lo2 3 32 (eL aJ r0) (fun lo3 => [(lo3, 3, List.map aJ (([] : List aI) ++ r0))]) hO (AJ (fun _ => by kernel_rfl)) c4 ?_
  intro lo3 H hO
  refine bH ?_
  refine bL [(2, (.msl 3 lo3 0 (List.length (([] : List aI) ++ r0))))] ?_
  refine bM ?_
  refine cO [(2, (.msl 3 lo3 0 (List.length (([] : List aI) ++ r0))))] ?_
  refine uL (en := aJ) (([] : List aI) ++ r0) 0 0 2 3 lo3 (List.length (([] : List aI) ++ r0)) hO (by kernel_rfl) (by kernel_rfl) (by kernel_rfl) (L' := []) (by kernel_rfl) ?_
  intro H5 hO
  obtain rfl := oI h0
  exact aH (Q_r hO)

theorem FK {σ : Type} (I : σ → Gs → Prop) (yield0_b : Nat) (nP : σ → (List aI) → (List aD) → Option (σ × Bool)) (yield0_h : ∀ st a0 a1 st2 r, nP st a0 a1 = some (st2, r) → HC Try.prog (yv yield0_b) I st [(eL aJ a0), (eL aE a1)] st2 (aK r)) (t1 : (List aB)) (sg0 : σ) (r : σ) (h0 : qO nP t1 sg0 = some r) : wO Try.prog 83 I sg0 [(yv yield0_b), (.rp (eL aA t1))] r (.tup []) := by
  intro H0 G0 hI hg
  refine cF Try.func83 ?_
  obtain ⟨G, hO, hI⟩ : ∃ G, aL ⟨H0, List.map (fun p : Nat × dF => p.1) G0, G⟩ H0 [] ∧ I sg0 G := ⟨G0, aL.KL hg, hI⟩
  clear hg
  unfold qO at h0
  refine aU aF 1 [] [(3, (eI (0 : Int)))] ?_
  refine bT 0 ?_
  refine cS [(0, (yv yield0_b)), (1, (.rp (eL aA t1))), (3, (eI (0 : Int)))] ?_
  refine cG (fun T H => ∃ sg : σ, ∃ i3 : Int, ∃ G : Gs, Has T [(0, (yv yield0_b)), (1, (.rp (eL aA t1))), (3, (eI i3))] ∧ aL ⟨H0, List.map (fun p : Nat × dF => p.1) G0, G⟩ H [] ∧ I sg G ∧ uN nP sg t1 i3 = some r) ?_ ⟨sg0, (0 : Int), G, aW, hO, hI, h0⟩
  clear hO hI h0
  rintro T H ⟨sg, i3, G, hT, hO, hI, h0⟩
  refine bC hT ?_
  clear hT
  unfold uN at h0
  obtain ⟨rr0, hl0, h0⟩ := bB h0
  refine cZ (fun (s : σ × Int) T H => ∃ G : Gs, Has T [(0, (yv yield0_b)), (1, (.rp (eL aA t1))), (3, (eI s.2))] ∧ aL ⟨H0, List.map (fun p : Nat × dF => p.1) G0, G⟩ H [] ∧ I s.1 G) hl0 ⟨G, aW, hO, hI⟩ ?_
  clear hO hI
  rintro k0 s out1 T H ⟨G, hT, hO, hI⟩ h1 ho0
  obtain ⟨sg, i3⟩ := s
  replace h1 : gU nP t1 sg i3 = some out1 := h1
  try dsimp only at hT
  refine bC hT ?_
  clear hT
  unfold gU at h1
  refine aN ?_
  refine aU aF 4 [] [(9, (aK (decide (i3 < (lN t1)))))] ?_
  refine bK h1 (fun h1 => ?_) (fun h1 => ?_)
  · refine bO ?_
    refine bL [(0, (yv yield0_b)), (1, (.rp (eL aA t1))), (3, (eI i3))] ?_
    refine bT 1 ?_
    refine aN ?_
    refine aV aF 6 ?_
    obtain ⟨c2, h1⟩ := bG h1
    refine oH [0 ≤ i3 ∧ i3 < (lN t1)] ⟨c2, trivial⟩ ?_
    refine bS [] [(4, (eL aJ ((gD t1 i3).Row)))] ?_
    refine aN ?_
    refine aV aF 2 ?_
    refine kM [] 2 ?_
    refine bH ?_
    refine bS [] [(5, (.sl true 0 (fun _ => .bad)))] ?_
    refine cK (fun T H => ∃ sg : σ, ∃ i3 : Int, ∃ r4 : (List aI), ∃ f5 : List aD, ∃ lo3 : Nat, ∃ G : Gs, Has T [(0, (yv yield0_b)), (1, (.rp (eL aA t1))), (3, (eI i3)), (4, (eL aJ r4)), (5, (.msl 2 lo3 0 (List.length f5)))] ∧ aL ⟨H0, List.map (fun p : Nat × dF => p.1) G0, G⟩ H [(lo3, 2, List.map aE f5)] ∧ I sg G ∧ rY nP sg t1 i3 r4 f5 = some out1) ?_ ?_
    · clear hO hI h1
      rintro T H ⟨sg, i3, r4, f5, lo3, G, hT, hO, hI, h1⟩
      refine bC hT ?_
      clear hT
      unfold rY at h1
      refine aN ?_
      refine aV aF 6 ?_
      refine uI (e := aE) f5 0 5 2 lo3 (List.length f5) [] (by kernel_rfl) hO (by kernel_rfl) (by kernel_rfl) (by kernel_rfl) (by kernel_rfl) ?_
      intro H hO
      refine bP 2 ?_
      obtain ⟨x7, hx8, h1⟩ := bB h1
      refine dB (NI r4 _ hx8) hO ?_
      intro H hO
      refine bP 4 ?_
      obtain ⟨x10, hx11, h1⟩ := bB h1
      refine LD (I := I) (yv yield0_b) [(eL aJ x7), (eL aE f5)] (aK x10.2) (by kernel_rfl) (by kernel_rfl) (yield0_h _ x7 f5 x10.1 x10.2 hx11) hO hI ?_
      intro G H hO hI
      refine bH ?_
      refine bS [4, 5] [(50, (aK (!x10.2)))] ?_
      refine bK h1 (fun h1 => ?_) (fun h1 => ?_)
      · refine bM ?_
        obtain rfl := oI h1
        obtain rfl : _ = rr0 := ho0
        replace h0 : some x10.1 = some r := h0
        obtain rfl := oI h0
        exact aH (bJ (aP (bJ (nU (x := (.tup [])) (by kernel_rfl) (bA.refl _) ⟨rfl, G, hI, hO.KK⟩))))
      refine bO ?_
      exact aH (aX (aG (⟨rfl, _, (oI h1).symm, _, aW, hO, hI⟩)))
    refine bT 2 ?_
    refine cS [(0, (yv yield0_b)), (1, (.rp (eL aA t1))), (3, (eI i3)), (4, (eL aJ ((gD t1 i3).Row))), (5, (.sl true 0 (fun _ => .bad)))] ?_
    refine vJ (el := (fun _ => .bad)) 4 5 2 hO (by kernel_rfl) ?_
    intro lo24 H25 hO
    refine cG (fun T H => ∃ sg : σ, ∃ i3 : Int, ∃ r4 : (List aI), ∃ f5 : List aD, ∃ lo14 : Nat, ∃ G : Gs, Has T [(0, (yv yield0_b)), (1, (.rp (eL aA t1))), (3, (eI i3)), (4, (eL aJ r4)), (5, (.msl 2 lo14 0 (List.length f5)))] ∧ aL ⟨H0, List.map (fun p : Nat × dF => p.1) G0, G⟩ H [(lo14, 2, List.map aE f5)] ∧ I sg G ∧ uP nP sg t1 i3 r4 f5 = some out1) ?_ ⟨sg, i3, (gD t1 i3).Row, ([] : List aD), lo24, G, aW, hO, hI, h1⟩
    clear hO hI h1
    rintro T H ⟨sg, i3, r4, f5, lo14, G, hT, hO, hI, h1⟩
    refine bC hT ?_
    clear hT
    unfold uP at h1
    obtain ⟨rr1, hl1, h1⟩ := bB h1
    refine cZ (fun (s : σ × Int × List aD) T H => ∃ lo14 : Nat, ∃ G : Gs, Has T [(0, (yv yield0_b)), (1, (.rp (eL aA t1))), (3, (eI s.2.1)), (4, (eL aJ r4)), (5, (.msl 2 lo14 0 (List.length s.2.2)))] ∧ aL ⟨H0, List.map (fun p : Nat × dF => p.1) G0, G⟩ H [(lo14, 2, List.map aE s.2.2)] ∧ I s.1 G) hl1 ⟨lo14, G, aW, hO, hI⟩ ?_
    clear hO hI
    rintro k1 s out2 T H ⟨lo14, G, hT, hO, hI⟩ h2 ho1
    obtain ⟨sg, i3, f5⟩ := s
    replace h2 : jH nP t1 r4 sg i3 f5 = some out2 := h2
    try dsimp only at hT
    refine bC hT ?_
    clear hT
    unfold jH at h2
    refine aN ?_
    refine aN ?_
    refine aV aF 13 ?_
    obtain ⟨c15, h2⟩ := bG h2
    refine iB 11 [(((decide (i3 < (lN t1)))) = true → 0 ≤ i3 ∧ i3 < (lN t1))] ⟨c15, trivial⟩ ?_
    obtain ⟨x16, hx17, h2⟩ := bB h2
    refine pM [(20, true)] 84 [(eL aJ ((gD t1 i3).Row)), (eL aJ r4)] (aK x16) (decide (i3 < (lN t1))) (by kernel_rfl) (by kernel_rfl) (by kernel_rfl) (fun hb18 => (aAa ((gD t1 i3).Row) r4 _ (qW hx17 hb18))) hO ?_
    intro H hO
    refine bH ?_
    refine bS [] [(28, (aK ((decide (i3 < (lN t1))) && x16)))] ?_
    refine bK h2 (fun h2 => ?_) (fun h2 => ?_)
    · refine bO ?_
      refine bL [(0, (yv yield0_b)), (1, (.rp (eL aA t1))), (3, (eI i3)), (4, (eL aJ r4)), (5, (.msl 2 lo14 0 (List.length f5)))] ?_
      refine aN ?_
      refine bT 3 ?_
      refine fB (fC [32, 36, 37, 41, 43]) aF 15 ?_
      obtain ⟨c20, h2⟩ := bG h2
      obtain ⟨c21, h2⟩ := bG h2
      refine cW 12 [0 ≤ i3 ∧ i3 < (lN t1), 0 ≤ i3 ∧ i3 < (lN t1)] ⟨c20, c21, trivial⟩ ?_
      refine HE (xs := [(aE (aD.mk ((gD t1 i3).At) ((gD t1 i3).Net)))]) (k := 2) (by kernel_rfl) (by kernel_rfl) ?_
      obtain ⟨c23, h2⟩ := bG h2
      refine GR (e := aE) f5 ([aD.mk ((gD t1 i3).At) ((gD t1 i3).Net)]) 0 lo14 2 16 (dA [(aE (aD.mk ((gD t1 i3).At) ((gD t1 i3).Net)))]) (fun lo22 => [(lo22, 2, List.map aE (f5 ++ ([aD.mk ((gD t1 i3).At) ((gD t1 i3).Net)])))]) (by kernel_rfl) (by kernel_rfl) hO (by kernel_rfl) (by kernel_rfl) c23 (fun _ => by kernel_rfl) ?_
      intro lo22 H hO
      refine jB ?_
      refine cO [(0, (yv yield0_b)), (1, (.rp (eL aA t1))), (3, (eI i3)), (4, (eL aJ r4)), (5, (.msl 2 lo22 0 (List.length (f5 ++ ([aD.mk ((gD t1 i3).At) ((gD t1 i3).Net)])))))] ?_
      refine aH (aX (aG (?_)))
      refine aV aF 3 ?_
      refine bH ?_
      exact aH (aG (⟨rfl, _, (oI h2).symm, _, _, aW, hO, hI⟩))
    refine cX 2 ?_
    obtain rfl := oI h2
    obtain rfl : _ = rr1 := ho1
    replace h1 : rY nP sg t1 i3 r4 f5 = some out1 := h1
    exact aH (aS (aS (bQ (aG (⟨rfl, _, _, _, _, _, _, aW, hO, hI, h1⟩)))))
  refine cX 0 ?_
  obtain rfl := oI h1
  obtain rfl : _ = rr0 := ho0
  replace h0 : some sg = some r := h0
  obtain rfl := oI h0
  exact aH (aS (aS (bQ (tR (x := (.tup [])) (by kernel_rfl) (bA.refl _) ⟨rfl, G, hI, hO.KK⟩))))

theorem wU (s0 : (List aI)) (f1_f : Nat) (f1_a f1_c : List V) (f1 : aI → Option Bool) (f1_h : ∀ a0 r, f1 a0 = some r → cE Try.prog f1_f (f1_a ++ [(aJ a0)] ++ f1_c) (aK r)) (r : Int) (h0 : gP s0 f1 = some r) : cE Try.prog 58 [(eL aJ s0), (.fn (.func f1_f) f1_a f1_c)] (eI r) := by
  intro H0
  refine cF Try.func58 ?_
  have hO := aL.start H0
  unfold gP at h0
  refine aU aF 1 [] [] ?_
  refine cK (fun T H => Has T [] ∧ aL ⟨H0, [], []⟩ H [] ∧ eD f1  = some r) ?_ ?_
  · clear hO h0
    rintro T H ⟨hT, hO, h0⟩
    refine bC hT ?_
    clear hT
    unfold eD at h0
    refine bV aF 1 [(4, (eI (-1 : Int)))] ?_
    refine bM ?_
    obtain rfl := oI h0
    exact aH (Q_r hO)
  refine aU aF 3 [] [(7, (eI (lN s0))), (8, (eI (0 : Int)))] ?_
  refine bT 0 ?_
  refine cS [(0, (eL aJ s0)), (1, (.fn (.func f1_f) f1_a f1_c)), (7, (eI (lN s0))), (8, (eI (0 : Int)))] ?_
  refine cG (fun T H => ∃ t7 : Int, ∃ t8 : Int, Has T [(0, (eL aJ s0)), (1, (.fn (.func f1_f) f1_a f1_c)), (7, (eI t7)), (8, (eI t8))] ∧ aL ⟨H0, [], []⟩ H [] ∧ gJ f1 s0 t7 t8 = some r) ?_ ⟨(lN s0), (0 : Int), aW, hO, h0⟩
  clear hO h0
  rintro T H ⟨t7, t8, hT, hO, h0⟩
  refine bC hT ?_
  clear hT
  unfold gJ at h0
  obtain ⟨rr0, hl0, h0⟩ := bB h0
  refine cZ (fun (s : Int) T H => Has T [(0, (eL aJ s0)), (1, (.fn (.func f1_f) f1_a f1_c)), (7, (eI t7)), (8, (eI s))] ∧ aL ⟨H0, [], []⟩ H []) hl0 ⟨aW, hO⟩ ?_
  clear hO
  rintro k0 s out1 T H ⟨hT, hO⟩ h1 ho0
  obtain ⟨t8, rfl⟩ : ∃ x, x = s := ⟨_, rfl⟩
  replace h1 : fZ f1 s0 t7 t8 = some out1 := h1
  refine bC hT ?_
  clear hT
  unfold fZ at h1
  refine aU aF 1 [] [(9, (aK (decide (t8 < t7))))] ?_
  refine aN ?_
  refine bK h1 (fun h1 => ?_) (fun h1 => ?_)
  · refine bO ?_
    refine bL [(0, (eL aJ s0)), (1, (.fn (.func f1_f) f1_a f1_c)), (7, (eI t7)), (8, (eI t8))] ?_
    refine aN ?_
    refine bT 1 ?_
    refine aU aF 2 [] [(5, (eI t8))] ?_
    refine aN ?_
    refine aV aF 6 ?_
    obtain ⟨c2, h1⟩ := bG h1
    refine iB 5 [0 ≤ t8 ∧ t8 < (lN s0)] ⟨c2, trivial⟩ ?_
    obtain ⟨x3, hx4, h1⟩ := bB h1
    refine dB (f1_h (gD s0 t8) _ hx4) hO ?_
    intro H hO
    refine cT ?_
    refine bS [] [(16, (aK x3))] ?_
    refine bK h1 (fun h1 => ?_) (fun h1 => ?_)
    · refine bV aF 2 [(4, (eI t8))] ?_
      refine bM ?_
      obtain rfl := oI h1
      obtain rfl : _ = rr0 := ho0
      replace h0 : some t8 = some r := h0
      obtain rfl := oI h0
      exact aH (bJ (aP (aP (bJ (aP (Q_r hO))))))
    refine bO ?_
    refine cO [(0, (eL aJ s0)), (1, (.fn (.func f1_f) f1_a f1_c)), (7, (eI t7)), (8, (eI t8))] ?_
    refine aH (aX (aG (?_)))
    refine aV aF 2 ?_
    refine bH ?_
    exact aH (aG (⟨rfl, _, (oI h1).symm, aW, hO⟩))
  refine cX 0 ?_
  obtain rfl := oI h1
  obtain rfl : _ = rr0 := ho0
  replace h0 : eD f1  = some r := h0
  exact aH (aS (aS (bQ (aG (⟨rfl, aW, hO, h0⟩)))))

theorem vN (s0 : (List aI)) (f1_f : Nat) (f1_a f1_c : List V) (f1 : aI → Option Bool) (f1_h : ∀ a0 r, f1 a0 = some r → cE Try.prog f1_f (f1_a ++ [(aJ a0)] ++ f1_c) (aK r)) (r : Bool) (h0 : dX s0 f1 = some r) : cE Try.prog 54 [(eL aJ s0), (.fn (.func f1_f) f1_a f1_c)] (aK r) := by
  intro H0
  refine cF Try.func54 ?_
  have hO := aL.start H0
  unfold dX at h0
  refine aU aF 1 [] [] ?_
  refine aN ?_
  refine aV aF 5 ?_
  refine bP 2 ?_
  obtain ⟨x1, hx2, h0⟩ := bB h0
  refine dB (wU s0 f1_f f1_a f1_c f1 f1_h _ hx2) hO ?_
  intro H hO
  refine bH ?_
  refine bL [(4, (aK (decide ((0 : Int) ≤ x1))))] ?_
  refine bM ?_
  obtain rfl := oI h0
  exact aH (Q_r hO)

theorem BC (v0 : aI) (r : (bU × Bool)) (h0 : nF v0 = some r) : cE Try.prog 78 [(aJ v0)] (.tup [(bR r.1), (aK r.2)]) := by
  intro H0
  refine cF Try.func78 ?_
  have hO := aL.start H0
  unfold nF at h0
  refine aN ?_
  refine aV aF 3 ?_
  refine sE 3 (aJ v0) ?_
  refine bH ?_
  refine bL [(1, (.rp (aJ v0)))] ?_
  refine aN ?_
  refine bT 0 ?_
  refine aU aF 9 [] [(4, (aK ((decide (v0.Kind = (1 : Int))) && (pS v0.Text (⟨#[]⟩ : ByteArray)))))] ?_
  refine bK h0 (fun h0 => ?_) (fun h0 => ?_)
  · refine bV aF 5 [(2, (bR (bU.k_number v0.Num))), (3, (aK true))] ?_
    refine bM ?_
    obtain rfl := oI h0
    exact aH (bJ (aP (Q_r hO)))
  refine aU aF 15 [4] [(16, (aK (((decide (v0.Kind = (2 : Int))) && (decide (v0.Num = (0 : Int)))) && (decide (((ByteArray.size v0.Text : Nat) : Int) ≤ (64 : Int))))))] ?_
  refine bK h0 (fun h0 => ?_) (fun h0 => ?_)
  · refine bV aF 5 [(2, (bR (bU.k_words v0.Text))), (3, (aK true))] ?_
    refine bM ?_
    obtain rfl := oI h0
    exact aH (bJ (aP (Q_r hO)))
  refine bO ?_
  refine cO [] ?_
  refine aH (aX (aG (?_)))
  refine bV aF 2 [(2, (bR bU.none_)), (3, (aK false))] ?_
  refine bM ?_
  obtain rfl := oI h0
  exact aH (Q_r hO)

theorem WR (v0 : aI) (r : Bool) (h0 : yT v0 = some r) : cE Try.prog 56 [(aJ v0)] (aK r) := by
  intro H0
  refine cF Try.func56 ?_
  have hO := aL.start H0
  unfold yT at h0
  refine aN ?_
  refine aV aF 2 ?_
  refine sE 3 (aJ v0) ?_
  refine bH ?_
  refine bL [(1, (.rp (aJ v0)))] ?_
  refine aN ?_
  refine aV aF 7 ?_
  refine bP 1 ?_
  obtain ⟨⟨x1_0, x1_1⟩, hx2, h0⟩ := bB h0
  refine dB (BC v0 _ hx2) hO ?_
  intro H hO
  rcases x1_0 with _ | y4 | y5
  · replace h0 : (some x1_1) = some r := h0
    refine bH ?_
    refine bL [(4, (aK x1_1))] ?_
    refine bV aF 2 [(2, (aK x1_1))] ?_
    refine bM ?_
    obtain rfl := oI h0
    exact aH (Q_r hO)
  · replace h0 : (some x1_1) = some r := h0
    refine bH ?_
    refine bL [(4, (aK x1_1))] ?_
    refine bV aF 2 [(2, (aK x1_1))] ?_
    refine bM ?_
    obtain rfl := oI h0
    exact aH (Q_r hO)
  · replace h0 : (some x1_1) = some r := h0
    refine bH ?_
    refine bL [(4, (aK x1_1))] ?_
    refine bV aF 2 [(2, (aK x1_1))] ?_
    refine bM ?_
    obtain rfl := oI h0
    exact aH (Q_r hO)

theorem WN (v0 : aI) (r : Bool) (h0 : yV v0 = some r) : cE Try.prog 55 [(aJ v0)] (aK r) := by
  intro H0
  refine cF Try.func55 ?_
  have hO := aL.start H0
  unfold yV at h0
  refine aN ?_
  refine aV aF 2 ?_
  refine sE 3 (aJ v0) ?_
  refine bH ?_
  refine bL [(1, (.rp (aJ v0)))] ?_
  refine aN ?_
  refine aV aF 4 ?_
  refine bP 1 ?_
  obtain ⟨x1, hx2, h0⟩ := bB h0
  refine dB (WR v0 _ hx2) hO ?_
  intro H hO
  refine bH ?_
  refine bL [(2, (aK (!x1)))] ?_
  refine bM ?_
  obtain rfl := oI h0
  exact aH (Q_r hO)

theorem FT (r0 : (List aI)) (r : Bool) (h0 : uK r0 = some r) : cE Try.prog 32 [(eL aJ r0)] (aK r) := by
  intro H0
  refine cF Try.func32 ?_
  have hO := aL.start H0
  unfold uK at h0
  refine aU aF 1 [] [] ?_
  refine aN ?_
  refine aU aF 3 [] [(5, (aK (decide ((8 : Int) < (lN r0)))))] ?_
  refine bK h0 (fun h0 => ?_) (fun h0 => ?_)
  · refine bV aF 1 [(2, (aK false))] ?_
    refine bM ?_
    obtain rfl := oI h0
    exact aH (aP (Q_r hO))
  refine bO ?_
  refine bL [(0, (eL aJ r0))] ?_
  refine aN ?_
  refine aV aF 4 ?_
  refine bP 1 ?_
  obtain ⟨x2, hx3, h0⟩ := bB h0
  refine dB (vN r0 55 [] [] (fun y0 => yV y0) (fun y0 r h => WN y0 r h) _ hx3) hO ?_
  intro H hO
  refine bH ?_
  refine bL [(2, (aK (!x2)))] ?_
  refine bM ?_
  obtain rfl := oI h0
  exact aH (Q_r hO)

theorem NR (t0 : (List aI)) (r : (Int × (List aI))) (h0 : wN t0 = some r) : LJ Try.prog 59 [(.rp (eL aJ t0))] (fun lo => (.fn (.func 60) [] [(.lp lo 0 0), (.rp (eL aJ r.2))])) 1 [(eI r.1)] := by
  intro H0
  refine cF Try.func59 ?_
  have hO := aL.start H0
  unfold wN at h0
  refine aU aF 1 [] [] ?_
  refine aN ?_
  refine aV aF 2 ?_
  refine nH 1 (eI 0) (by kernel_rfl) (by kernel_rfl) hO ?_
  intro lo1 H hO
  refine mQ 0 lo1 1 0 (eI 0) (eI (-1 : Int)) [(eI 0)] [(lo1, 1, [(eI (-1 : Int))])] hO rfl (by kernel_rfl) ?_
  intro H hO
  refine cT ?_
  refine bS [] [(2, (.lp lo1 0 0))] ?_
  refine aU aF 2 [0] [(1, (.fn (.func 60) [] [(.lp lo1 0 0), (.rp (eL aJ t0))]))] ?_
  refine bM ?_
  obtain rfl := oI h0
  exact aH (nU (x := (.fn (.func 60) [] [(.lp lo1 0 0), (.rp (eL aJ t0))])) (by kernel_rfl) (bA.refl _) ⟨lo1, rfl, hO⟩)

theorem wK {σ : Type} (I : σ → Gs → Prop) (s0 : (List aI)) (f1_v : V) (f1 : σ → aI → Option (σ × Bool)) (f1_h : ∀ st a0 st2 r, f1 st a0 = some (st2, r) → HC Try.prog f1_v I st [(aJ a0)] st2 (aK r)) (sg0 : σ) (r : (σ × Int)) (h0 : fV s0 f1 sg0 = some r) : wO Try.prog 58 I sg0 [(eL aJ s0), f1_v] r.1 (eI r.2) := by
  intro H0 G0 hI hg
  refine cF Try.func58 ?_
  obtain ⟨G, hO, hI⟩ : ∃ G, aL ⟨H0, List.map (fun p : Nat × dF => p.1) G0, G⟩ H0 [] ∧ I sg0 G := ⟨G0, aL.KL hg, hI⟩
  clear hg
  unfold fV at h0
  refine aU aF 1 [] [] ?_
  refine cK (fun T H => ∃ sg : σ, ∃ G : Gs, Has T [] ∧ aL ⟨H0, List.map (fun p : Nat × dF => p.1) G0, G⟩ H [] ∧ I sg G ∧ dV f1 sg = some r) ?_ ?_
  · clear hO hI h0
    rintro T H ⟨sg, G, hT, hO, hI, h0⟩
    refine bC hT ?_
    clear hT
    unfold dV at h0
    refine bV aF 1 [(4, (eI (-1 : Int)))] ?_
    refine bM ?_
    obtain rfl := oI h0
    exact aH (nU (x := (eI (-1 : Int))) (by kernel_rfl) (bA.refl _) ⟨rfl, G, hI, hO.KK⟩)
  refine aU aF 3 [] [(7, (eI (lN s0))), (8, (eI (0 : Int)))] ?_
  refine bT 0 ?_
  refine cS [(0, (eL aJ s0)), (1, f1_v), (7, (eI (lN s0))), (8, (eI (0 : Int)))] ?_
  refine cG (fun T H => ∃ sg : σ, ∃ t7 : Int, ∃ t8 : Int, ∃ G : Gs, Has T [(0, (eL aJ s0)), (1, f1_v), (7, (eI t7)), (8, (eI t8))] ∧ aL ⟨H0, List.map (fun p : Nat × dF => p.1) G0, G⟩ H [] ∧ I sg G ∧ fM f1 sg s0 t7 t8 = some r) ?_ ⟨sg0, (lN s0), (0 : Int), G, aW, hO, hI, h0⟩
  clear hO hI h0
  rintro T H ⟨sg, t7, t8, G, hT, hO, hI, h0⟩
  refine bC hT ?_
  clear hT
  unfold fM at h0
  obtain ⟨rr0, hl0, h0⟩ := bB h0
  refine cZ (fun (s : σ × Int) T H => ∃ G : Gs, Has T [(0, (eL aJ s0)), (1, f1_v), (7, (eI t7)), (8, (eI s.2))] ∧ aL ⟨H0, List.map (fun p : Nat × dF => p.1) G0, G⟩ H [] ∧ I s.1 G) hl0 ⟨G, aW, hO, hI⟩ ?_
  clear hO hI
  rintro k0 s out1 T H ⟨G, hT, hO, hI⟩ h1 ho0
  obtain ⟨sg, t8⟩ := s
  replace h1 : cC f1 s0 t7 sg t8 = some out1 := h1
  try dsimp only at hT
  refine bC hT ?_
  clear hT
  unfold cC at h1
  refine aU aF 1 [] [(9, (aK (decide (t8 < t7))))] ?_
  refine aN ?_
  refine bK h1 (fun h1 => ?_) (fun h1 => ?_)
  · refine bO ?_
    refine bL [(0, (eL aJ s0)), (1, f1_v), (7, (eI t7)), (8, (eI t8))] ?_
    refine aN ?_
    refine bT 1 ?_
    refine aU aF 2 [] [(5, (eI t8))] ?_
    refine aN ?_
    refine aV aF 6 ?_
    obtain ⟨c2, h1⟩ := bG h1
    refine iB 5 [0 ≤ t8 ∧ t8 < (lN s0)] ⟨c2, trivial⟩ ?_
    obtain ⟨x3, hx4, h1⟩ := bB h1
    refine LD (I := I) f1_v [(aJ (gD s0 t8))] (aK x3.2) (by kernel_rfl) (by kernel_rfl) (f1_h _ (gD s0 t8) x3.1 x3.2 hx4) hO hI ?_
    intro G H hO hI
    refine cT ?_
    refine bS [] [(16, (aK x3.2))] ?_
    refine bK h1 (fun h1 => ?_) (fun h1 => ?_)
    · refine bV aF 2 [(4, (eI t8))] ?_
      refine bM ?_
      obtain rfl := oI h1
      obtain rfl : _ = rr0 := ho0
      replace h0 : some (x3.1, t8) = some r := h0
      obtain rfl := oI h0
      exact aH (bJ (aP (aP (bJ (aP (nU (x := (eI t8)) (by kernel_rfl) (bA.refl _) ⟨rfl, G, hI, hO.KK⟩))))))
    refine bO ?_
    refine cO [(0, (eL aJ s0)), (1, f1_v), (7, (eI t7)), (8, (eI t8))] ?_
    refine aH (aX (aG (?_)))
    refine aV aF 2 ?_
    refine bH ?_
    exact aH (aG (⟨rfl, _, (oI h1).symm, _, aW, hO, hI⟩))
  refine cX 0 ?_
  obtain rfl := oI h1
  obtain rfl : _ = rr0 := ho0
  replace h0 : dV f1 sg = some r := h0
  exact aH (aS (aS (bQ (aG (⟨rfl, _, _, aW, hO, hI, h0⟩)))))

theorem LM (v0 : aI) (lo1p : Nat) (t1 : Int) (t2 : (List aI)) (r : (Bool × Int)) (h0 : kK v0 t1 t2 = some r) : nT Try.prog 60 lo1p 1 [(eI t1)] [(eI r.2)] [(aJ v0), (.lp lo1p 0 0), (.rp (eL aJ t2))] (aK r.1) := by
  intro H0 hl0
  refine cF Try.func60 ?_
  have hO := aL.qX hl0
  clear hl0
  unfold kK at h0
  refine aN ?_
  refine aV aF 2 ?_
  refine sE 3 (aJ v0) ?_
  refine bH ?_
  refine bS [0] [(3, (.rp (aJ v0)))] ?_
  refine aN ?_
  refine aV aF 3 ?_
  refine eF 0 lo1p 1 0 (eI t1) (eI t1) [(eI t1)] hO rfl ?_
  refine bP 2 ?_
  refine mQ 0 lo1p 1 0 (eI t1) (eI (wR (t1 + (1 : Int)))) [(eI t1)] [(lo1p, 1, [(eI (wR (t1 + (1 : Int))))])] hO rfl (by kernel_rfl) ?_
  intro H hO
  refine cT ?_
  refine bS [] [] ?_
  refine aN ?_
  refine fB (fC [7, 8, 11]) aF 7 ?_
  refine sG 2 ?_
  refine kO 0 lo1p 1 0 (eI (wR (t1 + (1 : Int)))) (eI (wR (t1 + (1 : Int)))) [(eI (wR (t1 + (1 : Int))))] hO rfl ?_
  obtain ⟨c1, h0⟩ := bG h0
  refine FC (Ds := [0 ≤ (wR (t1 + (1 : Int))) ∧ (wR (t1 + (1 : Int))) < (lN t2)]) (by kernel_rfl) ⟨c1, trivial⟩ ?_
  refine bL [(1, (.lp lo1p 0 0)), (4, (aK (!((decide (v0.Kind = ((gD t2 (wR (t1 + (1 : Int)))).Kind))) && ((decide (v0.Num = ((gD t2 (wR (t1 + (1 : Int)))).Num))) && ((pS v0.Text ((gD t2 (wR (t1 + (1 : Int)))).Text)) && true))))))] ?_
  refine bM ?_
  obtain rfl := oI h0
  exact aH (nU (x := (aK (!((decide (v0.Kind = ((gD t2 (wR (t1 + (1 : Int)))).Kind))) && ((decide (v0.Num = ((gD t2 (wR (t1 + (1 : Int)))).Num))) && ((pS v0.Text ((gD t2 (wR (t1 + (1 : Int)))).Text)) && true)))))) (by kernel_rfl) (bA.refl _) ⟨rfl, hO.ext, hO.at 0 (by kernel_rfl), rfl⟩)

theorem EY (x0 : Int) (r : Bool) (h0 : qP x0 = some r) : cE Try.prog 62 [(eI x0)] (aK r) := by
  intro H0
  refine cF Try.func62 ?_
  have hO := aL.start H0
  unfold qP at h0
  refine aU aF 1 [] [] ?_
  refine bV aF 4 [(2, (aK (!decide (x0 = x0))))] ?_
  refine bM ?_
  obtain rfl := oI h0
  exact aH (Q_r hO)

theorem yG (x0 : Int) (y1 : Int) (r : Int) (h0 : kL x0 y1 = some r) : cE Try.prog 39 [(eI x0), (eI y1)] (eI r) := by
  intro H0
  refine cF Try.func39 ?_
  have hO := aL.start H0
  unfold kL at h0
  refine aU aF 1 [] [] ?_
  refine aN ?_
  refine aV aF 3 ?_
  refine bP 1 ?_
  obtain ⟨x1, hx2, h0⟩ := bB h0
  refine dB (EY x0 _ hx2) hO ?_
  intro H hO
  refine bH ?_
  refine bS [] [(5, (aK x1))] ?_
  refine aN ?_
  refine aV aF 3 ?_
  refine bP 1 ?_
  obtain ⟨x4, hx5, h0⟩ := bB h0
  refine dB (EY y1 _ hx5) hO ?_
  intro H hO
  refine bH ?_
  refine bS [] [(6, (aK x4))] ?_
  refine aN ?_
  refine aU aF 1 [5] [(11, (aK x1))] ?_
  refine bK h0 (fun h0 => ?_) (fun h0 => ?_)
  · refine aN ?_
    refine bV aF 1 [(12, (aK x4))] ?_
    refine bK h0 (fun h0 => ?_) (fun h0 => ?_)
    · refine bV aF 1 [(4, (eI (0 : Int)))] ?_
      refine bM ?_
      obtain rfl := oI h0
      exact aH (aP (aP (Q_r hO)))
    refine bO ?_
    refine bL [] ?_
    refine bV aF 1 [(4, (eI (-1 : Int)))] ?_
    refine bM ?_
    obtain rfl := oI h0
    exact aH (aP (Q_r hO))
  refine bO ?_
  refine bL [(0, (eI x0)), (1, (eI y1)), (6, (aK x4))] ?_
  refine aN ?_
  refine aU aF 1 [6] [(13, (aK x4))] ?_
  refine bK h0 (fun h0 => ?_) (fun h0 => ?_)
  · refine bV aF 1 [(4, (eI (1 : Int)))] ?_
    refine bM ?_
    obtain rfl := oI h0
    exact aH (aP (Q_r hO))
  refine bO ?_
  refine bL [(0, (eI x0)), (1, (eI y1))] ?_
  refine aN ?_
  refine aU aF 3 [] [(16, (aK (decide (x0 < y1))))] ?_
  refine bK h0 (fun h0 => ?_) (fun h0 => ?_)
  · refine bV aF 1 [(4, (eI (-1 : Int)))] ?_
    refine bM ?_
    obtain rfl := oI h0
    exact aH (aP (Q_r hO))
  refine bO ?_
  refine bL [(0, (eI x0)), (1, (eI y1))] ?_
  refine aN ?_
  refine bV aF 3 [(19, (aK (decide (y1 < x0))))] ?_
  refine bK h0 (fun h0 => ?_) (fun h0 => ?_)
  · refine bV aF 1 [(4, (eI (1 : Int)))] ?_
    refine bM ?_
    obtain rfl := oI h0
    exact aH (aP (Q_r hO))
  refine bO ?_
  refine bL [] ?_
  refine bV aF 1 [(4, (eI (0 : Int)))] ?_
  refine bM ?_
  obtain rfl := oI h0
  exact aH (Q_r hO)

theorem xM (x0 : Int) (r : Bool) (h0 : kV x0 = some r) : cE Try.prog 92 [(eI x0)] (aK r) := by
  intro H0
  refine cF Try.func92 ?_
  have hO := aL.start H0
  unfold kV at h0
  refine aU aF 1 [] [] ?_
  refine bV aF 4 [(2, (aK (!decide (x0 = x0))))] ?_
  refine bM ?_
  obtain rfl := oI h0
  exact aH (Q_r hO)

theorem DG (x0 : Int) (y1 : Int) (r : Int) (h0 : eS x0 y1 = some r) : cE Try.prog 81 [(eI x0), (eI y1)] (eI r) := by
  intro H0
  refine cF Try.func81 ?_
  have hO := aL.start H0
  unfold eS at h0
  refine aU aF 1 [] [] ?_
  refine aN ?_
  refine aV aF 3 ?_
  refine bP 1 ?_
  obtain ⟨x1, hx2, h0⟩ := bB h0
  refine dB (xM x0 _ hx2) hO ?_
  intro H hO
  refine bH ?_
  refine bS [] [(5, (aK x1))] ?_
  refine aN ?_
  refine aV aF 3 ?_
  refine bP 1 ?_
  obtain ⟨x4, hx5, h0⟩ := bB h0
  refine dB (xM y1 _ hx5) hO ?_
  intro H hO
  refine bH ?_
  refine bS [] [(6, (aK x4))] ?_
  refine aN ?_
  refine aU aF 1 [5] [(11, (aK x1))] ?_
  refine bK h0 (fun h0 => ?_) (fun h0 => ?_)
  · refine aN ?_
    refine bV aF 1 [(12, (aK x4))] ?_
    refine bK h0 (fun h0 => ?_) (fun h0 => ?_)
    · refine bV aF 1 [(4, (eI (0 : Int)))] ?_
      refine bM ?_
      obtain rfl := oI h0
      exact aH (aP (aP (Q_r hO)))
    refine bO ?_
    refine bL [] ?_
    refine bV aF 1 [(4, (eI (-1 : Int)))] ?_
    refine bM ?_
    obtain rfl := oI h0
    exact aH (aP (Q_r hO))
  refine bO ?_
  refine bL [(0, (eI x0)), (1, (eI y1)), (6, (aK x4))] ?_
  refine aN ?_
  refine aU aF 1 [6] [(13, (aK x4))] ?_
  refine bK h0 (fun h0 => ?_) (fun h0 => ?_)
  · refine bV aF 1 [(4, (eI (1 : Int)))] ?_
    refine bM ?_
    obtain rfl := oI h0
    exact aH (aP (Q_r hO))
  refine bO ?_
  refine bL [(0, (eI x0)), (1, (eI y1))] ?_
  refine aN ?_
  refine aU aF 3 [] [(16, (aK (decide (x0 < y1))))] ?_
  refine bK h0 (fun h0 => ?_) (fun h0 => ?_)
  · refine bV aF 1 [(4, (eI (-1 : Int)))] ?_
    refine bM ?_
    obtain rfl := oI h0
    exact aH (aP (Q_r hO))
  refine bO ?_
  refine bL [(0, (eI x0)), (1, (eI y1))] ?_
  refine aN ?_
  refine bV aF 3 [(19, (aK (decide (y1 < x0))))] ?_
  refine bK h0 (fun h0 => ?_) (fun h0 => ?_)
  · refine bV aF 1 [(4, (eI (1 : Int)))] ?_
    refine bM ?_
    obtain rfl := oI h0
    exact aH (aP (Q_r hO))
  refine bO ?_
  refine bL [] ?_
  refine bV aF 1 [(4, (eI (0 : Int)))] ?_
  refine bM ?_
  obtain rfl := oI h0
  exact aH (Q_r hO)

theorem zW (a0 : ByteArray) (b1 : ByteArray) (r : Int) (h0 : jU a0 b1 = some r) : cE Try.prog 93 [(BU a0), (BU b1)] (eI r) := by
  intro H0
  refine cF Try.func93 ?_
  have hO := aL.start H0
  unfold jU at h0
  refine aU aF 1 [] [] ?_
  refine aN ?_
  refine aV aF 4 ?_
  refine bP 2 ?_
  refine aCT 98 [(BU a0), (BU b1)] (eI (PL a0 b1)) (by kernel_rfl) (by kernel_rfl) (aBA Try.func98 (by kernel_rfl) (by kernel_rfl) (by kernel_rfl) (by kernel_rfl) a0 b1) hO ?_
  intro H hO
  refine bH ?_
  refine bL [(4, (eI (PL a0 b1)))] ?_
  refine bM ?_
  obtain rfl := oI h0
  exact aH (Q_r hO)

theorem LP (a0 : ByteArray) (b1 : ByteArray) (r : Int) (h0 : oK a0 b1 = some r) : cE Try.prog 82 [(BU a0), (BU b1)] (eI r) := by
  intro H0
  refine cF Try.func82 ?_
  have hO := aL.start H0
  unfold oK at h0
  refine aU aF 1 [] [] ?_
  refine aN ?_
  refine aV aF 4 ?_
  refine bP 2 ?_
  obtain ⟨x1, hx2, h0⟩ := bB h0
  refine dB (zW a0 b1 _ hx2) hO ?_
  intro H hO
  refine bH ?_
  refine bL [(4, (eI x1))] ?_
  refine bM ?_
  obtain rfl := oI h0
  exact aH (Q_r hO)

theorem OA (a0 : aI) (b1 : aI) (r : Int) (h0 : tG a0 b1 = some r) : cE Try.prog 61 [(aJ a0), (aJ b1)] (eI r) := by
  intro H0
  refine cF Try.func61 ?_
  have hO := aL.start H0
  unfold tG at h0
  refine aN ?_
  refine aV aF 3 ?_
  refine sE 3 (aJ a0) ?_
  refine sE 3 (aJ b1) ?_
  refine bH ?_
  refine bL [(2, (.rp (aJ a0))), (3, (.rp (aJ b1)))] ?_
  refine aN ?_
  refine aV aF 7 ?_
  refine bP 1 ?_
  obtain ⟨⟨x1_0, x1_1⟩, hx2, h0⟩ := bB h0
  refine dB (BC a0 _ hx2) hO ?_
  intro H hO
  rcases x1_0 with _ | y4 | y5
  · replace h0 : ((nF b1).bind fun (x6_0, x6_1) => match x6_0 with | .none_ => (cond ((!x1_1) || (!x6_1)) (some (0 : Int)) (none)) | .k_number y9 => (cond ((!x1_1) || (!x6_1)) (some (0 : Int)) (some (1 : Int))) | .k_words y10 => (cond ((!x1_1) || (!x6_1)) (some (0 : Int)) (none))) = some r := h0
    refine bH ?_
    refine bS [2] [(5, (bR bU.none_)), (6, (aK x1_1))] ?_
    refine aN ?_
    refine aV aF 7 ?_
    refine bP 1 ?_
    obtain ⟨⟨x6_0, x6_1⟩, hx7, h0⟩ := bB h0
    refine dB (BC b1 _ hx7) hO ?_
    intro H hO
    rcases x6_0 with _ | y9 | y10
    · replace h0 : (cond ((!x1_1) || (!x6_1)) (some (0 : Int)) (none)) = some r := h0
      refine bH ?_
      refine bS [3] [(7, (bR bU.none_)), (8, (aK x6_1))] ?_
      refine aN ?_
      refine aU aF 6 [6, 8] [(28, (aK ((!x1_1) || (!x6_1))))] ?_
      refine bK h0 (fun h0 => ?_) (fun h0 => ?_)
      · refine bV aF 1 [(4, (eI (0 : Int)))] ?_
        refine bM ?_
        obtain rfl := oI h0
        exact aH (aP (Q_r hO))
      refine bO ?_
      refine bL [(5, (bR bU.none_)), (7, (bR bU.none_))] ?_
      refine aU aF 7 [] [(9, (eI 0)), (10, (aK false))] ?_
      refine aU aF 7 [] [(11, (eI 0)), (12, (aK false))] ?_
      refine aN ?_
      refine bT 0 ?_
      refine aU aF 5 [] [(39, (aK false))] ?_
      refine nB (false) (fun hc12 => ?_) (fun hc12 => ?_)
      · cases hc12
      · refine aU aF 2 [9, 10, 11, 39] [(47, (aK false))] ?_
        refine nB (false) (fun hc13 => ?_) (fun hc13 => ?_)
        · cases hc13
        · refine bV aF 2 [(5, (bR bU.none_)), (7, (bR bU.none_)), (49, (aK false))] ?_
          refine nB (false) (fun hc14 => ?_) (fun hc14 => ?_)
          · cases hc14
          · refine bO ?_
            refine cO [(5, (bR bU.none_)), (7, (bR bU.none_))] ?_
            refine aH (aX (aG (?_)))
            refine aN ?_
            refine fB (fC []) aF 6 ?_
            cases h0
    · replace h0 : (cond ((!x1_1) || (!x6_1)) (some (0 : Int)) (some (1 : Int))) = some r := h0
      refine bH ?_
      refine bS [3] [(7, (bR (bU.k_number y9))), (8, (aK x6_1))] ?_
      refine aN ?_
      refine aU aF 6 [6, 8] [(28, (aK ((!x1_1) || (!x6_1))))] ?_
      refine bK h0 (fun h0 => ?_) (fun h0 => ?_)
      · refine bV aF 1 [(4, (eI (0 : Int)))] ?_
        refine bM ?_
        obtain rfl := oI h0
        exact aH (aP (Q_r hO))
      refine bO ?_
      refine bL [(5, (bR bU.none_)), (7, (bR (bU.k_number y9)))] ?_
      refine aU aF 7 [] [(9, (eI 0)), (10, (aK false))] ?_
      refine aU aF 7 [] [(11, (eI y9)), (12, (aK true))] ?_
      refine aN ?_
      refine bT 0 ?_
      refine aU aF 5 [] [(39, (aK false))] ?_
      refine nB (false) (fun hc16 => ?_) (fun hc16 => ?_)
      · cases hc16
      · refine aU aF 2 [9, 10, 11, 39] [(47, (aK false))] ?_
        refine nB (false) (fun hc17 => ?_) (fun hc17 => ?_)
        · cases hc17
        · refine bV aF 2 [(5, (bR bU.none_)), (7, (bR (bU.k_number y9))), (49, (aK true))] ?_
          refine nB (true) (fun hc18 => ?_) (fun hc18 => ?_)
          · refine bV aF 1 [(4, (eI (1 : Int)))] ?_
            refine bM ?_
            obtain rfl := oI h0
            exact aH (bJ (aP (Q_r hO)))
          · cases hc18
    · replace h0 : (cond ((!x1_1) || (!x6_1)) (some (0 : Int)) (none)) = some r := h0
      refine bH ?_
      refine bS [3] [(7, (bR (bU.k_words y10))), (8, (aK x6_1))] ?_
      refine aN ?_
      refine aU aF 6 [6, 8] [(28, (aK ((!x1_1) || (!x6_1))))] ?_
      refine bK h0 (fun h0 => ?_) (fun h0 => ?_)
      · refine bV aF 1 [(4, (eI (0 : Int)))] ?_
        refine bM ?_
        obtain rfl := oI h0
        exact aH (aP (Q_r hO))
      refine bO ?_
      refine bL [(5, (bR bU.none_)), (7, (bR (bU.k_words y10)))] ?_
      refine aU aF 7 [] [(9, (eI 0)), (10, (aK false))] ?_
      refine aU aF 7 [] [(11, (eI 0)), (12, (aK false))] ?_
      refine aN ?_
      refine bT 0 ?_
      refine aU aF 5 [] [(39, (aK false))] ?_
      refine nB (false) (fun hc20 => ?_) (fun hc20 => ?_)
      · cases hc20
      · refine aU aF 2 [9, 10, 11, 39] [(47, (aK false))] ?_
        refine nB (false) (fun hc21 => ?_) (fun hc21 => ?_)
        · cases hc21
        · refine bV aF 2 [(5, (bR bU.none_)), (7, (bR (bU.k_words y10))), (49, (aK false))] ?_
          refine nB (false) (fun hc22 => ?_) (fun hc22 => ?_)
          · cases hc22
          · refine bO ?_
            refine cO [(5, (bR bU.none_)), (7, (bR (bU.k_words y10)))] ?_
            refine aH (aX (aG (?_)))
            refine aN ?_
            refine fB (fC []) aF 6 ?_
            cases h0
  · replace h0 : ((nF b1).bind fun (x23_0, x23_1) => match x23_0 with | .none_ => (cond ((!x1_1) || (!x23_1)) (some (0 : Int)) (some (-1 : Int))) | .k_number y26 => (cond ((!x1_1) || (!x23_1)) (some (0 : Int)) ((eS y4 y26).bind fun x33 => some x33)) | .k_words y27 => (cond ((!x1_1) || (!x23_1)) (some (0 : Int)) (some (-1 : Int)))) = some r := h0
    refine bH ?_
    refine bS [2] [(5, (bR (bU.k_number y4))), (6, (aK x1_1))] ?_
    refine aN ?_
    refine aV aF 7 ?_
    refine bP 1 ?_
    obtain ⟨⟨x23_0, x23_1⟩, hx24, h0⟩ := bB h0
    refine dB (BC b1 _ hx24) hO ?_
    intro H hO
    rcases x23_0 with _ | y26 | y27
    · replace h0 : (cond ((!x1_1) || (!x23_1)) (some (0 : Int)) (some (-1 : Int))) = some r := h0
      refine bH ?_
      refine bS [3] [(7, (bR bU.none_)), (8, (aK x23_1))] ?_
      refine aN ?_
      refine aU aF 6 [6, 8] [(28, (aK ((!x1_1) || (!x23_1))))] ?_
      refine bK h0 (fun h0 => ?_) (fun h0 => ?_)
      · refine bV aF 1 [(4, (eI (0 : Int)))] ?_
        refine bM ?_
        obtain rfl := oI h0
        exact aH (aP (Q_r hO))
      refine bO ?_
      refine bL [(5, (bR (bU.k_number y4))), (7, (bR bU.none_))] ?_
      refine aU aF 7 [] [(9, (eI y4)), (10, (aK true))] ?_
      refine aU aF 7 [] [(11, (eI 0)), (12, (aK false))] ?_
      refine aN ?_
      refine bT 0 ?_
      refine aU aF 5 [] [(39, (aK false))] ?_
      refine nB (false) (fun hc29 => ?_) (fun hc29 => ?_)
      · cases hc29
      · refine aU aF 2 [9, 10, 11, 39] [(47, (aK true))] ?_
        refine nB (true) (fun hc30 => ?_) (fun hc30 => ?_)
        · refine bV aF 1 [(4, (eI (-1 : Int)))] ?_
          refine bM ?_
          obtain rfl := oI h0
          exact aH (bJ (aP (Q_r hO)))
        · cases hc30
    · replace h0 : (cond ((!x1_1) || (!x23_1)) (some (0 : Int)) ((eS y4 y26).bind fun x33 => some x33)) = some r := h0
      refine bH ?_
      refine bS [3] [(7, (bR (bU.k_number y26))), (8, (aK x23_1))] ?_
      refine aN ?_
      refine aU aF 6 [6, 8] [(28, (aK ((!x1_1) || (!x23_1))))] ?_
      refine bK h0 (fun h0 => ?_) (fun h0 => ?_)
      · refine bV aF 1 [(4, (eI (0 : Int)))] ?_
        refine bM ?_
        obtain rfl := oI h0
        exact aH (aP (Q_r hO))
      refine bO ?_
      refine bL [(5, (bR (bU.k_number y4))), (7, (bR (bU.k_number y26)))] ?_
      refine aU aF 7 [] [(9, (eI y4)), (10, (aK true))] ?_
      refine aU aF 7 [] [(11, (eI y26)), (12, (aK true))] ?_
      refine aN ?_
      refine bT 0 ?_
      refine aU aF 5 [] [(39, (aK true))] ?_
      refine nB (true) (fun hc32 => ?_) (fun hc32 => ?_)
      · refine aN ?_
        refine aV aF 4 ?_
        refine bP 2 ?_
        obtain ⟨x33, hx34, h0⟩ := bB h0
        refine dB (DG y4 y26 _ hx34) hO ?_
        intro H hO
        refine bH ?_
        refine bL [(4, (eI x33))] ?_
        refine bM ?_
        obtain rfl := oI h0
        exact aH (bJ (aP (Q_r hO)))
      · cases hc32
    · replace h0 : (cond ((!x1_1) || (!x23_1)) (some (0 : Int)) (some (-1 : Int))) = some r := h0
      refine bH ?_
      refine bS [3] [(7, (bR (bU.k_words y27))), (8, (aK x23_1))] ?_
      refine aN ?_
      refine aU aF 6 [6, 8] [(28, (aK ((!x1_1) || (!x23_1))))] ?_
      refine bK h0 (fun h0 => ?_) (fun h0 => ?_)
      · refine bV aF 1 [(4, (eI (0 : Int)))] ?_
        refine bM ?_
        obtain rfl := oI h0
        exact aH (aP (Q_r hO))
      refine bO ?_
      refine bL [(5, (bR (bU.k_number y4))), (7, (bR (bU.k_words y27)))] ?_
      refine aU aF 7 [] [(9, (eI y4)), (10, (aK true))] ?_
      refine aU aF 7 [] [(11, (eI 0)), (12, (aK false))] ?_
      refine aN ?_
      refine bT 0 ?_
      refine aU aF 5 [] [(39, (aK false))] ?_
      refine nB (false) (fun hc37 => ?_) (fun hc37 => ?_)
      · cases hc37
      · refine aU aF 2 [9, 10, 11, 39] [(47, (aK true))] ?_
        refine nB (true) (fun hc38 => ?_) (fun hc38 => ?_)
        · refine bV aF 1 [(4, (eI (-1 : Int)))] ?_
          refine bM ?_
          obtain rfl := oI h0
          exact aH (bJ (aP (Q_r hO)))
        · cases hc38
  · replace h0 : ((nF b1).bind fun (x39_0, x39_1) => match x39_0 with | .none_ => (cond ((!x1_1) || (!x39_1)) (some (0 : Int)) (none)) | .k_number y42 => (cond ((!x1_1) || (!x39_1)) (some (0 : Int)) (some (1 : Int))) | .k_words y43 => (cond ((!x1_1) || (!x39_1)) (some (0 : Int)) ((oK y5 y43).bind fun x56 => some x56))) = some r := h0
    refine bH ?_
    refine bS [2] [(5, (bR (bU.k_words y5))), (6, (aK x1_1))] ?_
    refine aN ?_
    refine aV aF 7 ?_
    refine bP 1 ?_
    obtain ⟨⟨x39_0, x39_1⟩, hx40, h0⟩ := bB h0
    refine dB (BC b1 _ hx40) hO ?_
    intro H hO
    rcases x39_0 with _ | y42 | y43
    · replace h0 : (cond ((!x1_1) || (!x39_1)) (some (0 : Int)) (none)) = some r := h0
      refine bH ?_
      refine bS [3] [(7, (bR bU.none_)), (8, (aK x39_1))] ?_
      refine aN ?_
      refine aU aF 6 [6, 8] [(28, (aK ((!x1_1) || (!x39_1))))] ?_
      refine bK h0 (fun h0 => ?_) (fun h0 => ?_)
      · refine bV aF 1 [(4, (eI (0 : Int)))] ?_
        refine bM ?_
        obtain rfl := oI h0
        exact aH (aP (Q_r hO))
      refine bO ?_
      refine bL [(5, (bR (bU.k_words y5))), (7, (bR bU.none_))] ?_
      refine aU aF 7 [] [(9, (eI 0)), (10, (aK false))] ?_
      refine aU aF 7 [] [(11, (eI 0)), (12, (aK false))] ?_
      refine aN ?_
      refine bT 0 ?_
      refine aU aF 5 [] [(39, (aK false))] ?_
      refine nB (false) (fun hc45 => ?_) (fun hc45 => ?_)
      · cases hc45
      · refine aU aF 2 [9, 10, 11, 39] [(47, (aK false))] ?_
        refine nB (false) (fun hc46 => ?_) (fun hc46 => ?_)
        · cases hc46
        · refine bV aF 2 [(5, (bR (bU.k_words y5))), (7, (bR bU.none_)), (49, (aK false))] ?_
          refine nB (false) (fun hc47 => ?_) (fun hc47 => ?_)
          · cases hc47
          · refine bO ?_
            refine cO [(5, (bR (bU.k_words y5))), (7, (bR bU.none_))] ?_
            refine aH (aX (aG (?_)))
            refine aN ?_
            refine fB (fC []) aF 6 ?_
            cases h0
    · replace h0 : (cond ((!x1_1) || (!x39_1)) (some (0 : Int)) (some (1 : Int))) = some r := h0
      refine bH ?_
      refine bS [3] [(7, (bR (bU.k_number y42))), (8, (aK x39_1))] ?_
      refine aN ?_
      refine aU aF 6 [6, 8] [(28, (aK ((!x1_1) || (!x39_1))))] ?_
      refine bK h0 (fun h0 => ?_) (fun h0 => ?_)
      · refine bV aF 1 [(4, (eI (0 : Int)))] ?_
        refine bM ?_
        obtain rfl := oI h0
        exact aH (aP (Q_r hO))
      refine bO ?_
      refine bL [(5, (bR (bU.k_words y5))), (7, (bR (bU.k_number y42)))] ?_
      refine aU aF 7 [] [(9, (eI 0)), (10, (aK false))] ?_
      refine aU aF 7 [] [(11, (eI y42)), (12, (aK true))] ?_
      refine aN ?_
      refine bT 0 ?_
      refine aU aF 5 [] [(39, (aK false))] ?_
      refine nB (false) (fun hc49 => ?_) (fun hc49 => ?_)
      · cases hc49
      · refine aU aF 2 [9, 10, 11, 39] [(47, (aK false))] ?_
        refine nB (false) (fun hc50 => ?_) (fun hc50 => ?_)
        · cases hc50
        · refine bV aF 2 [(5, (bR (bU.k_words y5))), (7, (bR (bU.k_number y42))), (49, (aK true))] ?_
          refine nB (true) (fun hc51 => ?_) (fun hc51 => ?_)
          · refine bV aF 1 [(4, (eI (1 : Int)))] ?_
            refine bM ?_
            obtain rfl := oI h0
            exact aH (bJ (aP (Q_r hO)))
          · cases hc51
    · replace h0 : (cond ((!x1_1) || (!x39_1)) (some (0 : Int)) ((oK y5 y43).bind fun x56 => some x56)) = some r := h0
      refine bH ?_
      refine bS [3] [(7, (bR (bU.k_words y43))), (8, (aK x39_1))] ?_
      refine aN ?_
      refine aU aF 6 [6, 8] [(28, (aK ((!x1_1) || (!x39_1))))] ?_
      refine bK h0 (fun h0 => ?_) (fun h0 => ?_)
      · refine bV aF 1 [(4, (eI (0 : Int)))] ?_
        refine bM ?_
        obtain rfl := oI h0
        exact aH (aP (Q_r hO))
      refine bO ?_
      refine bL [(5, (bR (bU.k_words y5))), (7, (bR (bU.k_words y43)))] ?_
      refine aU aF 7 [] [(9, (eI 0)), (10, (aK false))] ?_
      refine aU aF 7 [] [(11, (eI 0)), (12, (aK false))] ?_
      refine aN ?_
      refine bT 0 ?_
      refine aU aF 5 [] [(39, (aK false))] ?_
      refine nB (false) (fun hc53 => ?_) (fun hc53 => ?_)
      · cases hc53
      · refine aU aF 2 [9, 10, 11, 39] [(47, (aK false))] ?_
        refine nB (false) (fun hc54 => ?_) (fun hc54 => ?_)
        · cases hc54
        · refine bV aF 2 [(5, (bR (bU.k_words y5))), (7, (bR (bU.k_words y43))), (49, (aK false))] ?_
          refine nB (false) (fun hc55 => ?_) (fun hc55 => ?_)
          · cases hc55
          · refine bO ?_
            refine cO [(5, (bR (bU.k_words y5))), (7, (bR (bU.k_words y43)))] ?_
            refine aH (aX (aG (?_)))
            refine aN ?_
            refine fB (fC []) aF 6 ?_
            refine sG 4 ?_
            obtain ⟨x56, hx57, h0⟩ := bB h0
            refine BF (LP y5 y43 _ hx57) hO ?_
            intro H hO
            refine jB ?_
            refine bL [(4, (eI x56))] ?_
            refine bM ?_
            obtain rfl := oI h0
            exact aH (Q_r hO)

theorem IP (a0 : (List aI)) (b1 : (List aI)) (r : Int) (h0 : sQ a0 b1 = some r) : cE Try.prog 38 [(eL aJ a0), (eL aJ b1)] (eI r) := by
  intro H0
  refine cF Try.func38 ?_
  have hO := aL.start H0
  unfold sQ at h0
  refine aN ?_
  refine aV aF 2 ?_
  refine sE 1 (eL aJ b1) ?_
  refine bH ?_
  refine bS [1] [(3, (.rp (eL aJ b1)))] ?_
  refine aN ?_
  refine aN ?_
  refine aV aF 8 ?_
  refine bP 1 ?_
  obtain ⟨x1, hx2, h0⟩ := bB h0
  refine dB (FT a0 _ hx2) hO ?_
  intro H hO
  refine bP 5 ?_
  obtain ⟨x4, hx5, h0⟩ := bB h0
  refine pM [(10, false)] 32 [(eL aJ b1)] (aK x4) (!(!x1)) (by kernel_rfl) (by kernel_rfl) (by kernel_rfl) (fun hb6 => (FT b1 _ (qW hx5 hb6))) hO ?_
  intro H hO
  refine bH ?_
  refine bS [] [(14, (aK ((!x1) || (!x4))))] ?_
  refine bK h0 (fun h0 => ?_) (fun h0 => ?_)
  · refine bV aF 1 [(4, (eI (0 : Int)))] ?_
    refine bM ?_
    obtain rfl := oI h0
    exact aH (aP (Q_r hO))
  refine bO ?_
  refine bL [(0, (eL aJ a0)), (3, (.rp (eL aJ b1)))] ?_
  refine aU aF 6 [] [(5, (eI (if (lN b1) < (lN a0) then (lN b1) else (lN a0))))] ?_
  refine aN ?_
  refine fB (fC []) aF 7 ?_
  obtain ⟨c8, h0⟩ := bG h0
  refine cW 4 [0 ≤ (if (lN b1) < (lN a0) then (lN b1) else (lN a0)) ∧ (if (lN b1) < (lN a0) then (lN b1) else (lN a0)) ≤ (lN a0)] ⟨c8, trivial⟩ ?_
  obtain ⟨x9, hx10, h0⟩ := bB h0
  refine aDm (L' := fun lo11 => [(lo11, 1, [(eI x9.1)])]) 1 [(eI x9.1)] 59 [(.rp (eL aJ b1))] (fun lo11 => (.fn (.func 60) [] [(.lp lo11 0 0), (.rp (eL aJ x9.2))])) (by kernel_rfl) (by kernel_rfl) (NR b1 _ hx10) hO (fun _ => by kernel_rfl) ?_
  intro lo11 H hO
  obtain ⟨x12, hx13, h0⟩ := bB h0
  refine aDc (fun st G' => G' = up [(lo11, 1, [(eI st)])] ++ []) [(lo11, 1, [(eI x12.1)])] x9.1 x12.1 58 [(.sl false (Int.toNat (if (lN b1) < (lN a0) then (lN b1) else (lN a0))) (fun i => aJ (List.getD a0 i default))), (.fn (.func 60) [] [(.lp lo11 0 0), (.rp (eL aJ x9.2))])] (eI x12.2) (by kernel_rfl) (by kernel_rfl) (wO.sub (as0' := [(eL aJ (List.take (Int.toNat (if (lN b1) < (lN a0) then (lN b1) else (lN a0))) a0)), (.fn (.func 60) [] [(.lp lo11 0 0), (.rp (eL aJ x9.2))])]) (wK _ (List.take (Int.toNat (if (lN b1) < (lN a0) then (lN b1) else (lN a0))) a0) (.fn (.func 60) [] [(.lp lo11 0 0), (.rp (eL aJ x9.2))]) (fun st y0 => (kK y0 st x9.2).bind fun o => some (o.2, o.1)) (fun st y0 st2 rr hr => (LM y0 lo11 st x9.2 _ (aD4 hr)).toV (ys := []) (zs := [(aJ y0)]) (cs := [(.lp lo11 0 0), (.rp (eL aJ x9.2))]) (fun Gx hG => ⟨up [], up [] ++ [], hG, rfl⟩)) _ _ hx13) ⟨aCP (Int.toNat_le.2 (And.right c8)), bA.refl _, trivial⟩) hO rfl (fun _ h => h) ?_
  intro H hO
  refine jB ?_
  replace hO := hO.pick (L' := []) [] (by decide) (by kernel_rfl)
  refine bS [5] [(6, (eI x12.2))] ?_
  refine aN ?_
  refine aU aF 2 [] [(27, (aK (decide (x12.2 < (0 : Int)))))] ?_
  refine bK h0 (fun h0 => ?_) (fun h0 => ?_)
  · refine aN ?_
    refine aV aF 6 ?_
    refine bP 4 ?_
    obtain ⟨x15, hx16, h0⟩ := bB h0
    refine dB (yG (lN a0) (lN b1) _ hx16) hO ?_
    intro H hO
    refine bH ?_
    refine bL [(4, (eI x15))] ?_
    refine bM ?_
    obtain rfl := oI h0
    exact aH (aP (Q_r hO))
  refine bO ?_
  refine bL [(0, (eL aJ a0)), (3, (.rp (eL aJ b1))), (6, (eI x12.2))] ?_
  refine aN ?_
  refine fB (fC [36, 37, 40, 41]) aF 10 ?_
  obtain ⟨c18, h0⟩ := bG h0
  obtain ⟨c19, h0⟩ := bG h0
  refine cW 8 [0 ≤ x12.2 ∧ x12.2 < (lN a0), 0 ≤ x12.2 ∧ x12.2 < (lN b1)] ⟨c18, c19, trivial⟩ ?_
  obtain ⟨x20, hx21, h0⟩ := bB h0
  refine BF (OA (gD a0 x12.2) (gD b1 x12.2) _ hx21) hO ?_
  intro H hO
  refine jB ?_
  refine bL [(4, (eI x20))] ?_
  refine bM ?_
  obtain rfl := oI h0
  exact aH (Q_r hO)

theorem WU (l0 : (List aB)) (holds1_f : Nat) (holds1_a holds1_c : List V) (wW : (List aD) → Option Bool) (holds1_h : ∀ a0 r, wW a0 = some r → cE Try.prog holds1_f (holds1_a ++ [(eL aE a0)] ++ holds1_c) (aK r)) (r : Bool) (h0 : yU l0 wW = some r) : cE Try.prog 44 [(eL aA l0), (.fn (.func holds1_f) holds1_a holds1_c)] (aK r) := by
  intro H0
  refine YO aF Try.func44 (by kernel_rfl) (by kernel_rfl) (by kernel_rfl) ?_
  have hO := aL.start H0
  unfold yU at h0
  refine aN ?_
  refine aV aF 2 ?_
  refine sE 1 (.fn (.func holds1_f) holds1_a holds1_c) ?_
  refine nH 1 (aK false) (by kernel_rfl) (by kernel_rfl) hO ?_
  intro lo1 H hO
  refine cT ?_
  refine bS [1] [(3, (.rp (.fn (.func holds1_f) holds1_a holds1_c))), (4, (.lp lo1 0 0))] ?_
  refine aN ?_
  refine aU aF 3 [] [(11, (aK (decide ((4096 : Int) < (lN l0)))))] ?_
  refine bK h0 (fun h0 => ?_) (fun h0 => ?_)
  · refine aN ?_
    refine aV aF 1 ?_
    refine mQ 0 lo1 1 0 (aK false) (aK false) [(aK false)] [(lo1, 1, [(aK false)])] hO rfl (by kernel_rfl) ?_
    intro H hO
    refine cT ?_
    refine bL [(4, (.lp lo1 0 0))] ?_
    refine bM ?_
    obtain rfl := oI h0
    exact aH (aP (QM0 (.inr rfl) (rs := [.cell 4 4]) (xs := [(aK false)]) (x := (aK false)) (by kernel_rfl) (BS (lo := lo1) (k := 1) (y := (aK false)) (x := (aK false)) 0 hO (by kernel_rfl) (by kernel_rfl) (by kernel_rfl) (by kernel_rfl) JR) (by kernel_rfl) ⟨rfl, hO.out⟩))
  refine bO ?_
  refine bL [(0, (eL aA l0)), (3, (.rp (.fn (.func holds1_f) holds1_a holds1_c))), (4, (.lp lo1 0 0))] ?_
  refine aN ?_
  refine aV aF 1 ?_
  refine HI 1 (.sl true 0 (fun _ => .bad)) (eL aJ ([])) (by kernel_rfl) (by kernel_rfl) (by kernel_rfl) (iY) (by kernel_rfl) (by kernel_rfl) hO ?_
  intro lo3 H hO
  refine cT ?_
  refine bS [] [(5, (.lp lo3 0 0))] ?_
  refine aN ?_
  refine aV aF 2 ?_
  refine nH 1 (aK false) (by kernel_rfl) (by kernel_rfl) hO ?_
  intro lo4 H hO
  refine mQ 2 lo4 1 0 (aK false) (aK false) [(aK false)] [(lo1, 1, [(aK false)]), (lo3, 1, [(eL aJ ([]))]), (lo4, 1, [(aK false)])] hO rfl (by kernel_rfl) ?_
  intro H hO
  refine cT ?_
  refine bS [] [(6, (.lp lo4 0 0))] ?_
  refine aN ?_
  refine aN ?_
  refine aV aF 2 ?_
  refine bP 1 ?_
  obtain ⟨x5, hx6, h0⟩ := bB h0
  refine dB (LU l0 _ hx6) hO ?_
  intro H hO
  refine cT ?_
  refine bS [0] [(13, (.fn (.func 83) [] [(.rp (eL aA x5))]))] ?_
  refine bT 0 ?_
  refine cS [(3, (.rp (.fn (.func holds1_f) holds1_a holds1_c))), (4, (.lp lo1 0 0)), (5, (.lp lo3 0 0)), (6, (.lp lo4 0 0)), (13, (.fn (.func 83) [] [(.rp (eL aA x5))]))] ?_
  refine cG (fun T H => ∃ t4 : Bool, ∃ rC : (List aI), ∃ kN : Bool, ∃ lM : (List aB), Has T [(3, (.rp (.fn (.func holds1_f) holds1_a holds1_c))), (4, (.lp lo1 0 0)), (5, (.lp lo3 0 0)), (6, (.lp lo4 0 0)), (13, (.fn (.func 83) [] [(.rp (eL aA lM))]))] ∧ aL ⟨H0, [], []⟩ H [(lo1, 1, [(aK t4)]), (lo3, 1, [(eL aJ rC)]), (lo4, 1, [(aK kN)])] ∧ AX wW t4 rC kN lM = some r) ?_ ⟨false, [], false, x5, aW, hO, h0⟩
  clear hO h0
  rintro T H ⟨t4, rC, kN, lM, hT, hO, h0⟩
  refine bC (l := [(3, (.rp (.fn (.func holds1_f) holds1_a holds1_c))), (4, (.lp lo1 0 0)), (5, (.lp lo3 0 0)), (6, (.lp lo4 0 0)), (13, (.fn (.func 83) [] [(.rp (eL aA lM))]))]) hT ?_
  clear hT
  unfold AX at h0
  obtain ⟨o0, hl0, h0⟩ := bB h0
  refine UK (fid := 83) (ys := []) (cs := [(.rp (eL aA lM))]) #[14, 15] (fun (A : HV) (b lL : Nat) (st : (Bool × (List aI) × Bool) ⊕ (Bool × (List aI) × Bool)) (G' : Gs) => Sum.elim (fun (s : Bool × (List aI) × Bool) => G' = (lL, .raw (oE b A .ready none)) :: (up [(lo1, 1, [(aK s.1)]), (lo3, 1, [(eL aJ s.2.1)]), (lo4, 1, [(aK s.2.2)])] ++ [])) (fun (s : Bool × (List aI) × Bool) => G' = (lL, .raw (oE b A .done (some .ret))) :: (up [(lo1, 1, [(aK s.1)]), (lo3, 1, [(eL aJ s.2.1)]), (lo4, 1, [(aK s.2.2)])] ++ [])) st) (.inl (t4, rC, kN)) o0 (.tup []) (by kernel_rfl) (by kernel_rfl) (by kernel_rfl) hO (fun _ _ => rfl) ?_ ?_
  · intro b lL
    clear hO h0
    refine FK _ b (fun st t14 t15 => rnd (fun (s : Bool × (List aI) × Bool) => rX wW lM s.1 s.2.1 s.2.2 t14 t15) st) ?_ lM _ _ hl0
    intro st t14 t15 out1 rr hr
    obtain ⟨s, rfl, h1, rfl⟩ := aDv hr
    clear hr
    intro Hr Gr hi hg
    obtain ⟨t4, rC, kN⟩ := s
    dsimp only [Sum.elim_inl] at hi
    obtain rfl := hi
    replace h1 : rX wW lM t4 rC kN t14 t15 = some out1 := h1
    unfold rX at h1
    obtain ⟨E1, hE, hO⟩ := LV hg
    refine LY (US (hO.gm 0 _ rfl).2 (by kernel_rfl) (by kernel_rfl) ?_)
    refine cS [(3, (.rp (.fn (.func holds1_f) holds1_a holds1_c))), (4, (.lp lo1 0 0)), (5, (.lp lo3 0 0)), (6, (.lp lo4 0 0)), (13, (.fn (.func 83) [] [(.rp (eL aA lM))])), (14, (eL aJ t14)), (15, (eL aE t15))] ?_
    refine aU aF 1 [13, 14] [(7, (eL aJ t14))] ?_
    refine aV aF 1 ?_
    refine bH ?_
    refine cO [(3, (.rp (.fn (.func holds1_f) holds1_a holds1_c))), (4, (.lp lo1 0 0)), (5, (.lp lo3 0 0)), (6, (.lp lo4 0 0)), (7, (eL aJ t14)), (8, (eL aE t15))] ?_
    refine aH (⟨rfl, rfl, (hO.gm 0 _ rfl).2, ?_⟩)
    intro o1 ho1
    replace hO := hO.KN o1
    refine bT 1 ?_
    refine aN ?_
    refine aN ?_
    refine aV aF 18 ?_
    refine bP 1 ?_
    obtain ⟨x7, hx8, h1⟩ := bB h1
    refine dB (FT t14 _ hx8) hO ?_
    intro H hO
    refine bP 4 ?_
    refine wB [(19, false)] 2 lo4 1 0 (aK kN) (aK kN) [(aK kN)] (by kernel_rfl) (by kernel_rfl) hO (by kernel_rfl) (!(!x7)) (by kernel_rfl) (fun hb10 => rfl) ?_
    refine bP 6 ?_
    refine wB [(21, true), (19, false)] 1 lo3 1 0 (eL aJ rC) (eL aJ rC) [(eL aJ rC)] (by kernel_rfl) (by kernel_rfl) hO (by kernel_rfl) (kN && (!(!x7))) (by kernel_rfl) (fun hb11 => rfl) ?_
    refine bP 8 ?_
    obtain ⟨x12, hx13, h1⟩ := bB h1
    refine pM [(21, true), (19, false)] 38 [(eL aJ rC), (eL aJ t14)] (eI x12) (kN && (!(!x7))) (by kernel_rfl) (by kernel_rfl) (by kernel_rfl) (fun hb14 => (IP rC t14 _ (qW hx13 hb14))) hO ?_
    intro H hO
    refine bP 15 ?_
    obtain ⟨x15, hx16, h1⟩ := bB h1
    refine pM [(28, false)] holds1_f (holds1_a ++ [(eL aE t15)] ++ holds1_c) (aK x15) (!((!x7) || (kN && (decide ((0 : Int) ≤ x12))))) (by kernel_rfl) (by kernel_rfl) (by kernel_rfl) (fun hb17 => (holds1_h t15 _ (qW hx16 hb17))) hO ?_
    intro H hO
    refine bH ?_
    refine bS [3, 8] [(33, (aK (((!x7) || (kN && (decide ((0 : Int) ≤ x12)))) || (!x15))))] ?_
    refine bK h1 (fun h1 => ?_) (fun h1 => ?_)
    · refine aN ?_
      refine aV aF 1 ?_
      refine mQ 0 lo1 1 0 (aK t4) (aK false) [(aK t4)] [(lo1, 1, [(aK false)]), (lo3, 1, [(eL aJ rC)]), (lo4, 1, [(aK kN)])] hO rfl (by kernel_rfl) ?_
      intro H hO
      refine cT ?_
      refine bS [7, 33] [] ?_
      refine bM ?_
      refine cO [(4, (.lp lo1 0 0)), (5, (.lp lo3 0 0)), (6, (.lp lo4 0 0))] ?_
      obtain rfl := oI h1
      exact aH (aP (bJ (⟨(rJ hO hE ho1 .dead).1, rfl, _, rfl, (rJ hO hE ho1 _).2⟩)))
    refine bO ?_
    refine bL [(4, (.lp lo1 0 0)), (5, (.lp lo3 0 0)), (6, (.lp lo4 0 0)), (7, (eL aJ t14))] ?_
    refine aV aF 3 ?_
    refine bP 1 ?_
    refine mQ 1 lo3 1 0 (eL aJ rC) (eL aJ t14) [(eL aJ rC)] [(lo1, 1, [(aK t4)]), (lo3, 1, [(eL aJ t14)]), (lo4, 1, [(aK kN)])] hO rfl (by kernel_rfl) ?_
    intro H hO
    refine mQ 2 lo4 1 0 (aK kN) (aK true) [(aK kN)] [(lo1, 1, [(aK t4)]), (lo3, 1, [(eL aJ t14)]), (lo4, 1, [(aK true)])] hO rfl (by kernel_rfl) ?_
    intro H hO
    refine cT ?_
    refine cO [(4, (.lp lo1 0 0)), (5, (.lp lo3 0 0)), (6, (.lp lo4 0 0))] ?_
    obtain rfl := oI h1
    exact aH (aX (⟨(rJ hO hE ho1 .dead).1, rfl, _, rfl, (rJ hO hE ho1 _).2⟩))
  · intro b lD19 lL H' G' hi hO
    rcases o0 with s | s
    · dsimp only [Sum.elim_inl] at hi
      obtain rfl := hi
      replace h0 : (some true) = some r := h0
      obtain ⟨hlL, hO⟩ := DU hO
      refine ⟨_, _, hlL, (by intro e; cases e), ?_⟩
      refine cO [(4, (.lp lo1 0 0))] ?_
      replace hO := hO.pick (L' := [(lo1, 1, [(aK s.1)])]) [0] (by decide) (by kernel_rfl)
      refine aH (aX (aG (?_)))
      refine aN ?_
      refine aV aF 1 ?_
      refine mQ 0 lo1 1 0 (aK s.1) (aK true) [(aK s.1)] [(lo1, 1, [(aK true)])] hO rfl (by kernel_rfl) ?_
      intro H hO
      refine cT ?_
      refine bL [(4, (.lp lo1 0 0))] ?_
      refine bM ?_
      obtain rfl := oI h0
      have hD := (hO.gm 0 _ rfl).2
      replace hO := (hO.KN .dead).ID
      exact aH (QM1 (.inr rfl) hD (rs := [.cell 4 4]) (xs := [(aK true)]) (x := (aK true)) (by kernel_rfl) (BS (lo := lo1) (k := 1) (y := (aK true)) (x := (aK true)) 0 hO (by kernel_rfl) (by kernel_rfl) (by kernel_rfl) (by kernel_rfl) JR) (by kernel_rfl) ⟨rfl, hO.out⟩)
    · dsimp only [Sum.elim_inr] at hi
      obtain rfl := hi
      replace h0 : (some s.1) = some r := h0
      obtain ⟨hlL, hO⟩ := DU hO
      refine ⟨_, _, hlL, (by intro e; cases e), ?_⟩
      refine bM ?_
      replace hO := hO.pick (L' := [(lo1, 1, [(aK s.1)])]) [0] (by decide) (by kernel_rfl)
      obtain rfl := oI h0
      have hD := (hO.gm 0 _ rfl).2
      replace hO := (hO.KN .dead).ID
      exact aH (bJ (aP (QM1 (.inr rfl) hD (rs := [.cell 4 4]) (xs := [(aK s.1)]) (x := (aK s.1)) (by kernel_rfl) (BS (lo := lo1) (k := 1) (y := (aK s.1)) (x := (aK s.1)) 0 hO (by kernel_rfl) (by kernel_rfl) (by kernel_rfl) (by kernel_rfl) JR) (by kernel_rfl) ⟨rfl, hO.out⟩)))

theorem LX (n0 : Int) (r : Bool) (h0 : yX n0 = some r) : cE Try.prog 67 [(eI n0)] (aK r) := by
  intro H0
  refine cF Try.func67 ?_
  have hO := aL.start H0
  unfold yX at h0
  refine aU aF 1 [] [] ?_
  refine bV aF 7 [(2, (aK ((decide (n0 ≤ (1048576 : Int))) && (decide ((-1048576 : Int) ≤ n0)))))] ?_
  refine bM ?_
  obtain rfl := oI h0
  exact aH (Q_r hO)

theorem PA (f0 : (List aD)) (r : Bool) (h0 : uS f0 = some r) : cE Try.prog 45 [(eL aE f0)] (aK r) := by
  intro H0
  refine cF Try.func45 ?_
  have hO := aL.start H0
  unfold uS at h0
  refine aU aF 1 [] [] ?_
  refine aN ?_
  refine aU aF 3 [] [(8, (aK (decide ((1024 : Int) < (lN f0)))))] ?_
  refine bK h0 (fun h0 => ?_) (fun h0 => ?_)
  · refine bV aF 1 [(2, (aK false))] ?_
    refine bM ?_
    obtain rfl := oI h0
    exact aH (aP (Q_r hO))
  refine bO ?_
  refine bL [(0, (eL aE f0))] ?_
  refine aU aF 1 [] [(3, (eI (-2 : Int)))] ?_
  refine cK (fun T H => Has T [] ∧ aL ⟨H0, [], []⟩ H [] ∧ yM  = some r) ?_ ?_
  · clear hO h0
    rintro T H ⟨hT, hO, h0⟩
    refine bC hT ?_
    clear hT
    unfold yM at h0
    refine bV aF 1 [(2, (aK true))] ?_
    refine bM ?_
    obtain rfl := oI h0
    exact aH (Q_r hO)
  refine aU aF 3 [0] [(9, (eL aE f0)), (10, (eI (lN f0))), (11, (eI (0 : Int)))] ?_
  refine bT 0 ?_
  refine cS [(3, (eI (-2 : Int))), (9, (eL aE f0)), (10, (eI (lN f0))), (11, (eI (0 : Int)))] ?_
  refine cG (fun T H => ∃ tS : Int, ∃ t9 : (List aD), ∃ t10 : Int, ∃ t11 : Int, Has T [(3, (eI tS)), (9, (eL aE t9)), (10, (eI t10)), (11, (eI t11))] ∧ aL ⟨H0, [], []⟩ H [] ∧ CH tS t9 t10 t11 = some r) ?_ ⟨(-2 : Int), f0, (lN f0), (0 : Int), aW, hO, h0⟩
  clear hO h0
  rintro T H ⟨tS, t9, t10, t11, hT, hO, h0⟩
  refine bC hT ?_
  clear hT
  unfold CH at h0
  obtain ⟨rr0, hl0, h0⟩ := bB h0
  refine cZ (fun (s : Int × Int) T H => Has T [(3, (eI s.1)), (9, (eL aE t9)), (10, (eI t10)), (11, (eI s.2))] ∧ aL ⟨H0, [], []⟩ H []) hl0 ⟨aW, hO⟩ ?_
  clear hO
  rintro k0 s out1 T H ⟨hT, hO⟩ h1 ho0
  obtain ⟨tS, t11⟩ := s
  replace h1 : nX t9 t10 tS t11 = some out1 := h1
  try dsimp only at hT
  refine bC hT ?_
  clear hT
  unfold nX at h1
  refine aU aF 1 [] [(12, (aK (decide (t11 < t10))))] ?_
  refine aN ?_
  refine bK h1 (fun h1 => ?_) (fun h1 => ?_)
  · refine bO ?_
    refine bL [(3, (eI tS)), (9, (eL aE t9)), (10, (eI t10)), (11, (eI t11))] ?_
    refine aN ?_
    refine bT 1 ?_
    refine aN ?_
    refine aV aF 4 ?_
    obtain ⟨c3, h1⟩ := bG h1
    refine iB 2 [0 ≤ t11 ∧ t11 < (lN t9)] ⟨c3, trivial⟩ ?_
    refine nH 2 (aE (aD.mk 0 0)) (by kernel_rfl) (by kernel_rfl) hO ?_
    intro lo4 H hO
    refine mQ 0 lo4 2 0 (aE (aD.mk 0 0)) (aE (gD t9 t11)) [(aE (aD.mk 0 0))] [(lo4, 2, [(aE (gD t9 t11))])] hO rfl (by kernel_rfl) ?_
    intro H hO
    refine cT ?_
    refine bS [] [(5, (.lp lo4 0 0))] ?_
    refine aN ?_
    refine aN ?_
    refine aV aF 20 ?_
    refine bP 1 ?_
    refine eF 0 lo4 2 0 (aE (gD t9 t11)) (eI ((gD t9 t11).At)) [(aE (gD t9 t11))] hO rfl ?_
    refine bP 6 ?_
    refine wB [(19, false)] 0 lo4 2 0 (aE (gD t9 t11)) (eI ((gD t9 t11).At)) [(aE (gD t9 t11))] (by kernel_rfl) (by kernel_rfl) hO (by kernel_rfl) (!(decide (((gD t9 t11).At) ≤ tS))) (by kernel_rfl) (fun hb5 => rfl) ?_
    refine bP 11 ?_
    refine wB [(24, false)] 0 lo4 2 0 (aE (gD t9 t11)) (eI ((gD t9 t11).Net)) [(aE (gD t9 t11))] (by kernel_rfl) (by kernel_rfl) hO (by kernel_rfl) (!((decide (((gD t9 t11).At) ≤ tS)) || (decide ((1125899906842624 : Int) ≤ ((gD t9 t11).At))))) (by kernel_rfl) (fun hb6 => rfl) ?_
    refine bP 16 ?_
    refine wB [(29, false)] 0 lo4 2 0 (aE (gD t9 t11)) (eI ((gD t9 t11).Net)) [(aE (gD t9 t11))] (by kernel_rfl) (by kernel_rfl) hO (by kernel_rfl) (!(((decide (((gD t9 t11).At) ≤ tS)) || (decide ((1125899906842624 : Int) ≤ ((gD t9 t11).At)))) || (decide (((gD t9 t11).Net) = (0 : Int))))) (by kernel_rfl) (fun hb7 => rfl) ?_
    obtain ⟨x8, hx9, h1⟩ := bB h1
    refine pM [(29, false)] 67 [(eI ((gD t9 t11).Net))] (aK x8) (!(((decide (((gD t9 t11).At) ≤ tS)) || (decide ((1125899906842624 : Int) ≤ ((gD t9 t11).At)))) || (decide (((gD t9 t11).Net) = (0 : Int))))) (by kernel_rfl) (by kernel_rfl) (by kernel_rfl) (fun hb10 => (LX ((gD t9 t11).Net) _ (qW hx9 hb10))) hO ?_
    intro H hO
    refine bH ?_
    refine bS [3] [(34, (aK ((((decide (((gD t9 t11).At) ≤ tS)) || (decide ((1125899906842624 : Int) ≤ ((gD t9 t11).At)))) || (decide (((gD t9 t11).Net) = (0 : Int)))) || (!x8))))] ?_
    refine bK h1 (fun h1 => ?_) (fun h1 => ?_)
    · refine aN ?_
      refine aV aF 1 ?_
      refine bH ?_
      refine cO [(2, (aK false))] ?_
      replace hO := hO.pick (L' := []) [] (by decide) (by kernel_rfl)
      refine aH (aG (?_))
      refine bM ?_
      obtain rfl := oI h1
      obtain rfl : _ = rr0 := ho0
      replace h0 : some false = some r := h0
      obtain rfl := oI h0
      exact aH (aP (bJ (aP (aP (bJ (aP (Q_r hO)))))))
    refine bO ?_
    refine bL [(5, (.lp lo4 0 0)), (9, (eL aE t9)), (10, (eI t10)), (11, (eI t11))] ?_
    refine aV aF 3 ?_
    refine bP 1 ?_
    refine eF 0 lo4 2 0 (aE (gD t9 t11)) (eI ((gD t9 t11).At)) [(aE (gD t9 t11))] hO rfl ?_
    refine bH ?_
    refine cO [(3, (eI ((gD t9 t11).At))), (9, (eL aE t9)), (10, (eI t10)), (11, (eI t11))] ?_
    replace hO := hO.pick (L' := []) [] (by decide) (by kernel_rfl)
    refine aH (aX (aG (?_)))
    refine aV aF 2 ?_
    refine bH ?_
    exact aH (aG (⟨rfl, _, (oI h1).symm, aW, hO⟩))
  refine cX 0 ?_
  obtain rfl := oI h1
  obtain rfl : _ = rr0 := ho0
  replace h0 : yM  = some r := h0
  exact aH (aS (aS (bQ (aG (⟨rfl, aW, hO, h0⟩)))))

theorem DP (l0 : (List aB)) (r : Bool) (h0 : tF l0 = some r) : cE Try.prog 24 [(eL aA l0)] (aK r) := by
  intro H0
  refine cF Try.func24 ?_
  have hO := aL.start H0
  unfold tF at h0
  refine aU aF 1 [] [] ?_
  refine aN ?_
  refine aV aF 3 ?_
  refine bP 1 ?_
  obtain ⟨x1, hx2, h0⟩ := bB h0
  refine dB (WU l0 45 [] [] (fun y0 => uS y0) (fun y0 r h => PA y0 r h) _ hx2) hO ?_
  intro H hO
  refine bH ?_
  refine bL [(2, (aK x1))] ?_
  refine bM ?_
  obtain rfl := oI h0
  exact aH (Q_r hO)

theorem wE {σ : Type} (I : σ → Gs → Prop) (s0 : (List aB)) (f1_v : V) (f1 : σ → aB → Option (σ × Bool)) (f1_h : ∀ st a0 st2 r, f1 st a0 = some (st2, r) → HC Try.prog f1_v I st [(aA a0)] st2 (aK r)) (sg0 : σ) (r : (σ × Int)) (h0 : fT s0 f1 sg0 = some r) : wO Try.prog 46 I sg0 [(eL aA s0), f1_v] r.1 (eI r.2) := by
  intro H0 G0 hI hg
  refine cF Try.func46 ?_
  obtain ⟨G, hO, hI⟩ : ∃ G, aL ⟨H0, List.map (fun p : Nat × dF => p.1) G0, G⟩ H0 [] ∧ I sg0 G := ⟨G0, aL.KL hg, hI⟩
  clear hg
  unfold fT at h0
  refine aU aF 1 [] [] ?_
  refine cK (fun T H => ∃ sg : σ, ∃ G : Gs, Has T [] ∧ aL ⟨H0, List.map (fun p : Nat × dF => p.1) G0, G⟩ H [] ∧ I sg G ∧ dW f1 sg = some r) ?_ ?_
  · clear hO hI h0
    rintro T H ⟨sg, G, hT, hO, hI, h0⟩
    refine bC hT ?_
    clear hT
    unfold dW at h0
    refine bV aF 1 [(4, (eI (-1 : Int)))] ?_
    refine bM ?_
    obtain rfl := oI h0
    exact aH (nU (x := (eI (-1 : Int))) (by kernel_rfl) (bA.refl _) ⟨rfl, G, hI, hO.KK⟩)
  refine aU aF 3 [] [(7, (eI (lN s0))), (8, (eI (0 : Int)))] ?_
  refine bT 0 ?_
  refine cS [(0, (eL aA s0)), (1, f1_v), (7, (eI (lN s0))), (8, (eI (0 : Int)))] ?_
  refine cG (fun T H => ∃ sg : σ, ∃ t7 : Int, ∃ t8 : Int, ∃ G : Gs, Has T [(0, (eL aA s0)), (1, f1_v), (7, (eI t7)), (8, (eI t8))] ∧ aL ⟨H0, List.map (fun p : Nat × dF => p.1) G0, G⟩ H [] ∧ I sg G ∧ fJ f1 sg s0 t7 t8 = some r) ?_ ⟨sg0, (lN s0), (0 : Int), G, aW, hO, hI, h0⟩
  clear hO hI h0
  rintro T H ⟨sg, t7, t8, G, hT, hO, hI, h0⟩
  refine bC hT ?_
  clear hT
  unfold fJ at h0
  obtain ⟨rr0, hl0, h0⟩ := bB h0
  refine cZ (fun (s : σ × Int) T H => ∃ G : Gs, Has T [(0, (eL aA s0)), (1, f1_v), (7, (eI t7)), (8, (eI s.2))] ∧ aL ⟨H0, List.map (fun p : Nat × dF => p.1) G0, G⟩ H [] ∧ I s.1 G) hl0 ⟨G, aW, hO, hI⟩ ?_
  clear hO hI
  rintro k0 s out1 T H ⟨G, hT, hO, hI⟩ h1 ho0
  obtain ⟨sg, t8⟩ := s
  replace h1 : cU f1 s0 t7 sg t8 = some out1 := h1
  try dsimp only at hT
  refine bC hT ?_
  clear hT
  unfold cU at h1
  refine aU aF 1 [] [(9, (aK (decide (t8 < t7))))] ?_
  refine aN ?_
  refine bK h1 (fun h1 => ?_) (fun h1 => ?_)
  · refine bO ?_
    refine bL [(0, (eL aA s0)), (1, f1_v), (7, (eI t7)), (8, (eI t8))] ?_
    refine aN ?_
    refine bT 1 ?_
    refine aU aF 2 [] [(5, (eI t8))] ?_
    refine aN ?_
    refine aV aF 6 ?_
    obtain ⟨c2, h1⟩ := bG h1
    refine iB 5 [0 ≤ t8 ∧ t8 < (lN s0)] ⟨c2, trivial⟩ ?_
    obtain ⟨x3, hx4, h1⟩ := bB h1
    refine LD (I := I) f1_v [(aA (gD s0 t8))] (aK x3.2) (by kernel_rfl) (by kernel_rfl) (f1_h _ (gD s0 t8) x3.1 x3.2 hx4) hO hI ?_
    intro G H hO hI
    refine cT ?_
    refine bS [] [(16, (aK x3.2))] ?_
    refine bK h1 (fun h1 => ?_) (fun h1 => ?_)
    · refine bV aF 2 [(4, (eI t8))] ?_
      refine bM ?_
      obtain rfl := oI h1
      obtain rfl : _ = rr0 := ho0
      replace h0 : some (x3.1, t8) = some r := h0
      obtain rfl := oI h0
      exact aH (bJ (aP (aP (bJ (aP (nU (x := (eI t8)) (by kernel_rfl) (bA.refl _) ⟨rfl, G, hI, hO.KK⟩))))))
    refine bO ?_
    refine cO [(0, (eL aA s0)), (1, f1_v), (7, (eI t7)), (8, (eI t8))] ?_
    refine aH (aX (aG (?_)))
    refine aV aF 2 ?_
    refine bH ?_
    exact aH (aG (⟨rfl, _, (oI h1).symm, _, aW, hO, hI⟩))
  refine cX 0 ?_
  obtain rfl := oI h1
  obtain rfl : _ = rr0 := ho0
  replace h0 : dW f1 sg = some r := h0
  exact aH (aS (aS (bQ (aG (⟨rfl, _, _, aW, hO, hI, h0⟩)))))

theorem uH {σ : Type} (I : σ → Gs → Prop) (s0 : (List aB)) (f1_v : V) (f1 : σ → aB → Option (σ × Bool)) (f1_h : ∀ st a0 st2 r, f1 st a0 = some (st2, r) → HC Try.prog f1_v I st [(aA a0)] st2 (aK r)) (sg0 : σ) (r : (σ × Bool)) (h0 : dQ s0 f1 sg0 = some r) : wO Try.prog 25 I sg0 [(eL aA s0), f1_v] r.1 (aK r.2) := by
  intro H0 G0 hI hg
  refine cF Try.func25 ?_
  obtain ⟨G, hO, hI⟩ : ∃ G, aL ⟨H0, List.map (fun p : Nat × dF => p.1) G0, G⟩ H0 [] ∧ I sg0 G := ⟨G0, aL.KL hg, hI⟩
  clear hg
  unfold dQ at h0
  refine aU aF 1 [] [] ?_
  refine aN ?_
  refine aV aF 5 ?_
  refine bP 2 ?_
  obtain ⟨x1, hx2, h0⟩ := bB h0
  refine LD (I := I) (.fn (.func 46) [] []) [(eL aA s0), f1_v] (eI x1.2) (by kernel_rfl) (by kernel_rfl) (wO.toV (wE I s0 f1_v f1 f1_h sg0 _ hx2)) hO hI ?_
  intro G H hO hI
  refine bH ?_
  refine bL [(4, (aK (decide ((0 : Int) ≤ x1.2))))] ?_
  refine bM ?_
  obtain rfl := oI h0
  exact aH (nU (x := (aK (decide ((0 : Int) ≤ x1.2)))) (by kernel_rfl) (bA.refl _) ⟨rfl, G, hI, hO.KK⟩)

theorem IZ (lo : Nat) (xs : List aY) (k : Int) (hk : 0 ≤ k ∧ k < (lN xs)) (x0 : aB) (r : Bool) (h0 : mR xs k x0 = some r) : nT Try.prog 26 lo 2 (List.map aO xs) (List.map aO xs) [(aA x0), (.rp (.lp lo (0 + Int.toNat k) 0))] (aK r) := by
  intro H0 hl0
  refine cF Try.func26 ?_
  have hO := aL.qX hl0
  clear hl0
  unfold mR at h0
  refine aN ?_
  refine aV aF 2 ?_
  refine sE 3 (aA x0) ?_
  refine bH ?_
  refine bL [(1, (.rp (.lp lo (0 + Int.toNat k) 0))), (2, (.rp (aA x0)))] ?_
  refine aN ?_
  refine fB (fC [5, 6]) aF 8 ?_
  refine sG 5 ?_
  refine kO 0 lo 2 (0 + Int.toNat k) (aO (gD xs k)) (eI (gD xs k).clock) (List.map aO xs) hO (cD hk) ?_
  refine jB ?_
  refine bL [(3, (aK (decide (x0.At < (gD xs k).clock))))] ?_
  refine bM ?_
  obtain rfl := oI h0
  exact aH (nU (x := (aK (decide (x0.At < (gD xs k).clock)))) (by kernel_rfl) (bA.refl _) ⟨rfl, hO.ext, hO.at 0 (by kernel_rfl), rfl⟩)

theorem AM (n1 : Int) (r : (List aB)) (h0 : fW n1 = some r) : LJ Try.prog 73 [(.sl true 0 (fun _ => .bad)), (eI n1)] (fun lo => (.msl 3 lo 0 (List.length r))) 3 (List.map aA r) := by
  intro H0
  refine cF Try.func73 ?_
  have hO := aL.start H0
  unfold fW at h0
  refine aU aF 1 [] [] ?_
  refine aN ?_
  refine aU aF 2 [] [(6, (aK (decide (n1 < (0 : Int)))))] ?_
  refine bK h0 (fun h0 => ?_) (fun h0 => ?_)
  · cases h0
  refine bO ?_
  refine bL [(0, (.sl true 0 (fun _ => .bad))), (1, (eI n1))] ?_
  refine cK (fun T H => ∃ s0 : List aB, ∃ lo2 : Nat, Has T [(0, (.msl 3 lo2 0 (List.length s0)))] ∧ aL ⟨H0, [], []⟩ H [(lo2, 3, List.map aA s0)] ∧ jO s0 = some r) ?_ ?_
  · clear hO h0
    rintro T H ⟨s0, lo2, hT, hO, h0⟩
    refine bC hT ?_
    clear hT
    unfold jO at h0
    refine bV aF 2 [(4, (.msl 3 lo2 0 (List.length s0)))] ?_
    refine bM ?_
    obtain rfl := oI h0
    exact aH (nU (x := (.msl 3 lo2 0 (List.length s0))) (by kernel_rfl) (bA.refl _) ⟨lo2, rfl, hO⟩)
  refine aU aF 8 [1] [(1, (eI (wR (n1 - (wR ((0 : Int) - ((0 : Nat) : Int)))))))] ?_
  refine aU aF 2 [] [(16, (aK (decide ((0 : Int) < (wR (n1 - (wR ((0 : Int) - ((0 : Nat) : Int)))))))))] ?_
  refine bK h0 (fun h0 => ?_) (fun h0 => ?_)
  · refine aV aF 10 ?_
    obtain ⟨c4, h0⟩ := bG h0
    refine iB 5 [0 ≤ (0 : Int) ∧ (0 : Int) ≤ ((0 : Nat) : Int)] ⟨c4, trivial⟩ ?_
    obtain ⟨c5, h0⟩ := bG h0
    refine ZO 3 40 (wR (n1 - (wR ((0 : Int) - ((0 : Nat) : Int))))) (by kernel_rfl) (by kernel_rfl) c5 hO ?_
    intro lo6 H hO
    obtain ⟨c7, h0⟩ := bG h0
    refine oH [0 ≤ ((0 : Nat) : Int) ∧ ((0 : Nat) : Int) ≤ (((Int.toNat (wR (n1 - (wR ((0 : Int) - ((0 : Nat) : Int)))))) : Nat) : Int)] ⟨c7, trivial⟩ ?_
    exact aH (aG (⟨rfl, ([] : List aB), _, aW, hO, h0⟩))
  refine bO ?_
  refine cO [(0, (.sl true 0 (fun _ => .bad)))] ?_
  refine UO (el := (fun _ => .bad)) 0 0 3 hO (by kernel_rfl) ?_
  intro lo8 H9 hO
  exact aH (aG (⟨rfl, ([] : List aB), _, aW, hO, h0⟩))

theorem yP (dN : (List (List aB))) (r : (List aB)) (h0 : fF dN = some r) : cE Try.prog 47 [(eL (eL aA) dN)] (eL aA r) := by
  intro H0
  refine cF Try.func47 ?_
  have hO := aL.start H0
  unfold fF at h0
  refine aU aF 1 [] [] ?_
  refine aU aF 1 [] [(3, (eI (0 : Int)))] ?_
  refine cK (fun T H => ∃ nS : Int, Has T [(0, (eL (eL aA) dN)), (3, (eI nS))] ∧ aL ⟨H0, [], []⟩ H [] ∧ eY dN nS = some r) ?_ ?_
  · clear hO h0
    rintro T H ⟨nS, hT, hO, h0⟩
    refine bC hT ?_
    clear hT
    unfold eY at h0
    refine aN ?_
    refine aV aF 3 ?_
    refine bP 1 ?_
    obtain ⟨x1, hx2, h0⟩ := bB h0
    refine PR (L' := fun lo3 => [(lo3, 3, List.map aA x1)]) 3 (List.map aA x1) 73 [(.sl true 0 (fun _ => .bad)), (eI nS)] (fun lo3 => (.msl 3 lo3 0 (List.length x1))) (by kernel_rfl) (by kernel_rfl) (AM nS _ hx2) hO (fun _ => by kernel_rfl) ?_
    intro lo3 H hO
    refine bH ?_
    refine bS [3] [(6, (.msl 3 lo3 0 (List.length x1)))] ?_
    refine cK (fun T H => ∃ dJ : List aB, ∃ lo4 : Nat, Has T [(6, (.msl 3 lo4 0 (List.length dJ)))] ∧ aL ⟨H0, [], []⟩ H [(lo4, 3, List.map aA dJ)] ∧ eX dJ = some r) ?_ ?_
    · clear hO h0
      rintro T H ⟨dJ, lo4, hT, hO, h0⟩
      refine bC hT ?_
      clear hT
      unfold eX at h0
      refine bV aF 2 [(2, (.msl 3 lo4 0 (List.length dJ)))] ?_
      refine bM ?_
      refine cO [(2, (.msl 3 lo4 0 (List.length dJ)))] ?_
      refine uL (en := aA) dJ 0 0 2 3 lo4 (List.length dJ) hO (by kernel_rfl) (by kernel_rfl) (by kernel_rfl) (L' := []) (by kernel_rfl) ?_
      intro H5 hO
      obtain rfl := oI h0
      exact aH (Q_r hO)
    refine aU aF 3 [0] [(25, (eL (eL aA) dN)), (26, (eI (lN dN))), (27, (eI (0 : Int)))] ?_
    refine bT 2 ?_
    refine cS [(6, (.msl 3 lo3 0 (List.length x1))), (25, (eL (eL aA) dN)), (26, (eI (lN dN))), (27, (eI (0 : Int)))] ?_
    refine cG (fun T H => ∃ dJ : List aB, ∃ t25 : (List (List aB)), ∃ t26 : Int, ∃ t27 : Int, ∃ lo7 : Nat, Has T [(6, (.msl 3 lo7 0 (List.length dJ))), (25, (eL (eL aA) t25)), (26, (eI t26)), (27, (eI t27))] ∧ aL ⟨H0, [], []⟩ H [(lo7, 3, List.map aA dJ)] ∧ iL dJ t25 t26 t27 = some r) ?_ ⟨x1, dN, (lN dN), (0 : Int), lo3, aW, hO, h0⟩
    clear hO h0
    rintro T H ⟨dJ, t25, t26, t27, lo7, hT, hO, h0⟩
    refine bC hT ?_
    clear hT
    unfold iL at h0
    obtain ⟨rr0, hl0, h0⟩ := bB h0
    refine cZ (fun (s : List aB × Int) T H => ∃ lo7 : Nat, Has T [(6, (.msl 3 lo7 0 (List.length s.1))), (25, (eL (eL aA) t25)), (26, (eI t26)), (27, (eI s.2))] ∧ aL ⟨H0, [], []⟩ H [(lo7, 3, List.map aA s.1)]) hl0 ⟨lo7, aW, hO⟩ ?_
    clear hO
    rintro k0 s out1 T H ⟨lo7, hT, hO⟩ h1 ho0
    obtain ⟨dJ, t27⟩ := s
    replace h1 : cQ t25 t26 dJ t27 = some out1 := h1
    try dsimp only at hT
    refine bC hT ?_
    clear hT
    unfold cQ at h1
    refine aU aF 1 [] [(28, (aK (decide (t27 < t26))))] ?_
    refine aN ?_
    refine bK h1 (fun h1 => ?_) (fun h1 => ?_)
    · refine bO ?_
      refine bL [(6, (.msl 3 lo7 0 (List.length dJ))), (25, (eL (eL aA) t25)), (26, (eI t26)), (27, (eI t27))] ?_
      refine aN ?_
      refine bT 3 ?_
      refine aN ?_
      refine aV aF 3 ?_
      obtain ⟨c9, h1⟩ := bG h1
      refine oH [0 ≤ t27 ∧ t27 < (lN t25)] ⟨c9, trivial⟩ ?_
      refine bS [] [(8, (eL aA (gD t25 t27)))] ?_
      refine aV aF 4 ?_
      refine bP 2 ?_
      obtain ⟨c11, h1⟩ := bG h1
      refine wD aA dJ (gD t25 t27) 0 lo7 3 40 (eL aA (gD t25 t27)) (fun lo10 => [(lo10, 3, List.map aA (dJ ++ (gD t25 t27)))]) hO (AJ (fun _ => by kernel_rfl)) c11 ?_
      intro lo10 H hO
      refine bH ?_
      refine cO [(6, (.msl 3 lo10 0 (List.length (dJ ++ (gD t25 t27))))), (25, (eL (eL aA) t25)), (26, (eI t26)), (27, (eI t27))] ?_
      refine aH (aX (aG (?_)))
      refine aV aF 2 ?_
      refine bH ?_
      exact aH (aG (⟨rfl, _, (oI h1).symm, _, aW, hO⟩))
    refine cX 2 ?_
    obtain rfl := oI h1
    obtain rfl : _ = rr0 := ho0
    replace h0 : eX dJ = some r := h0
    exact aH (aS (aS (bQ (aG (⟨rfl, _, _, aW, hO, h0⟩)))))
  refine aU aF 3 [] [(9, (eL (eL aA) dN)), (10, (eI (lN dN))), (11, (eI (0 : Int)))] ?_
  refine bT 0 ?_
  refine cS [(0, (eL (eL aA) dN)), (3, (eI (0 : Int))), (9, (eL (eL aA) dN)), (10, (eI (lN dN))), (11, (eI (0 : Int)))] ?_
  refine cG (fun T H => ∃ nS : Int, ∃ t9 : (List (List aB)), ∃ t10 : Int, ∃ t11 : Int, Has T [(0, (eL (eL aA) dN)), (3, (eI nS)), (9, (eL (eL aA) t9)), (10, (eI t10)), (11, (eI t11))] ∧ aL ⟨H0, [], []⟩ H [] ∧ iO dN nS t9 t10 t11 = some r) ?_ ⟨(0 : Int), dN, (lN dN), (0 : Int), aW, hO, h0⟩
  clear hO h0
  rintro T H ⟨nS, t9, t10, t11, hT, hO, h0⟩
  refine bC hT ?_
  clear hT
  unfold iO at h0
  obtain ⟨rr0, hl0, h0⟩ := bB h0
  refine cZ (fun (s : Int × Int) T H => Has T [(0, (eL (eL aA) dN)), (3, (eI s.1)), (9, (eL (eL aA) t9)), (10, (eI t10)), (11, (eI s.2))] ∧ aL ⟨H0, [], []⟩ H []) hl0 ⟨aW, hO⟩ ?_
  clear hO
  rintro k0 s out1 T H ⟨hT, hO⟩ h1 ho0
  obtain ⟨nS, t11⟩ := s
  replace h1 : cP dN t9 t10 nS t11 = some out1 := h1
  try dsimp only at hT
  refine bC hT ?_
  clear hT
  unfold cP at h1
  refine aU aF 1 [] [(12, (aK (decide (t11 < t10))))] ?_
  refine aN ?_
  refine bK h1 (fun h1 => ?_) (fun h1 => ?_)
  · refine bO ?_
    refine bL [(0, (eL (eL aA) dN)), (3, (eI nS)), (9, (eL (eL aA) t9)), (10, (eI t10)), (11, (eI t11))] ?_
    refine aN ?_
    refine bT 1 ?_
    refine aN ?_
    refine aV aF 3 ?_
    obtain ⟨c13, h1⟩ := bG h1
    refine oH [0 ≤ t11 ∧ t11 < (lN t9)] ⟨c13, trivial⟩ ?_
    refine bS [] [(5, (eL aA (gD t9 t11)))] ?_
    refine aU aF 5 [3, 5] [(3, (eI (wR (nS + (lN (gD t9 t11))))))] ?_
    refine aU aF 2 [] [(20, (aK (decide ((wR (nS + (lN (gD t9 t11)))) < (0 : Int)))))] ?_
    refine bK h1 (fun h1 => ?_) (fun h1 => ?_)
    · cases h1
    refine bO ?_
    refine cO [(0, (eL (eL aA) dN)), (3, (eI (wR (nS + (lN (gD t9 t11)))))), (9, (eL (eL aA) t9)), (10, (eI t10)), (11, (eI t11))] ?_
    refine aH (aX (aG (?_)))
    refine aV aF 2 ?_
    refine bH ?_
    exact aH (aG (⟨rfl, _, (oI h1).symm, aW, hO⟩))
  refine cX 0 ?_
  obtain rfl := oI h1
  obtain rfl : _ = rr0 := ho0
  replace h0 : eY dN nS = some r := h0
  exact aH (aS (aS (bQ (aG (⟨rfl, _, aW, hO, h0⟩)))))

theorem wQ (s0 : (List aB)) (f1_f : Nat) (f1_a f1_c : List V) (f1 : aB → Option Bool) (f1_h : ∀ a0 r, f1 a0 = some r → cE Try.prog f1_f (f1_a ++ [(aA a0)] ++ f1_c) (aK r)) (r : Int) (h0 : gO s0 f1 = some r) : cE Try.prog 46 [(eL aA s0), (.fn (.func f1_f) f1_a f1_c)] (eI r) := by
  intro H0
  refine cF Try.func46 ?_
  have hO := aL.start H0
  unfold gO at h0
  refine aU aF 1 [] [] ?_
  refine cK (fun T H => Has T [] ∧ aL ⟨H0, [], []⟩ H [] ∧ eC f1  = some r) ?_ ?_
  · clear hO h0
    rintro T H ⟨hT, hO, h0⟩
    refine bC hT ?_
    clear hT
    unfold eC at h0
    refine bV aF 1 [(4, (eI (-1 : Int)))] ?_
    refine bM ?_
    obtain rfl := oI h0
    exact aH (Q_r hO)
  refine aU aF 3 [] [(7, (eI (lN s0))), (8, (eI (0 : Int)))] ?_
  refine bT 0 ?_
  refine cS [(0, (eL aA s0)), (1, (.fn (.func f1_f) f1_a f1_c)), (7, (eI (lN s0))), (8, (eI (0 : Int)))] ?_
  refine cG (fun T H => ∃ t7 : Int, ∃ t8 : Int, Has T [(0, (eL aA s0)), (1, (.fn (.func f1_f) f1_a f1_c)), (7, (eI t7)), (8, (eI t8))] ∧ aL ⟨H0, [], []⟩ H [] ∧ gE f1 s0 t7 t8 = some r) ?_ ⟨(lN s0), (0 : Int), aW, hO, h0⟩
  clear hO h0
  rintro T H ⟨t7, t8, hT, hO, h0⟩
  refine bC hT ?_
  clear hT
  unfold gE at h0
  obtain ⟨rr0, hl0, h0⟩ := bB h0
  refine cZ (fun (s : Int) T H => Has T [(0, (eL aA s0)), (1, (.fn (.func f1_f) f1_a f1_c)), (7, (eI t7)), (8, (eI s))] ∧ aL ⟨H0, [], []⟩ H []) hl0 ⟨aW, hO⟩ ?_
  clear hO
  rintro k0 s out1 T H ⟨hT, hO⟩ h1 ho0
  obtain ⟨t8, rfl⟩ : ∃ x, x = s := ⟨_, rfl⟩
  replace h1 : gC f1 s0 t7 t8 = some out1 := h1
  refine bC hT ?_
  clear hT
  unfold gC at h1
  refine aU aF 1 [] [(9, (aK (decide (t8 < t7))))] ?_
  refine aN ?_
  refine bK h1 (fun h1 => ?_) (fun h1 => ?_)
  · refine bO ?_
    refine bL [(0, (eL aA s0)), (1, (.fn (.func f1_f) f1_a f1_c)), (7, (eI t7)), (8, (eI t8))] ?_
    refine aN ?_
    refine bT 1 ?_
    refine aU aF 2 [] [(5, (eI t8))] ?_
    refine aN ?_
    refine aV aF 6 ?_
    obtain ⟨c2, h1⟩ := bG h1
    refine iB 5 [0 ≤ t8 ∧ t8 < (lN s0)] ⟨c2, trivial⟩ ?_
    obtain ⟨x3, hx4, h1⟩ := bB h1
    refine dB (f1_h (gD s0 t8) _ hx4) hO ?_
    intro H hO
    refine cT ?_
    refine bS [] [(16, (aK x3))] ?_
    refine bK h1 (fun h1 => ?_) (fun h1 => ?_)
    · refine bV aF 2 [(4, (eI t8))] ?_
      refine bM ?_
      obtain rfl := oI h1
      obtain rfl : _ = rr0 := ho0
      replace h0 : some t8 = some r := h0
      obtain rfl := oI h0
      exact aH (bJ (aP (aP (bJ (aP (Q_r hO))))))
    refine bO ?_
    refine cO [(0, (eL aA s0)), (1, (.fn (.func f1_f) f1_a f1_c)), (7, (eI t7)), (8, (eI t8))] ?_
    refine aH (aX (aG (?_)))
    refine aV aF 2 ?_
    refine bH ?_
    exact aH (aG (⟨rfl, _, (oI h1).symm, aW, hO⟩))
  refine cX 0 ?_
  obtain rfl := oI h1
  obtain rfl : _ = rr0 := ho0
  replace h0 : eC f1  = some r := h0
  exact aH (aS (aS (bQ (aG (⟨rfl, aW, hO, h0⟩)))))

theorem oO (s0 : (List aB)) (f1_f : Nat) (f1_a f1_c : List V) (f1 : aB → Option Bool) (f1_h : ∀ a0 r, f1 a0 = some r → cE Try.prog f1_f (f1_a ++ [(aA a0)] ++ f1_c) (aK r)) (r : Bool) (h0 : dH s0 f1 = some r) : cE Try.prog 25 [(eL aA s0), (.fn (.func f1_f) f1_a f1_c)] (aK r) := by
  intro H0
  refine cF Try.func25 ?_
  have hO := aL.start H0
  unfold dH at h0
  refine aU aF 1 [] [] ?_
  refine aN ?_
  refine aV aF 5 ?_
  refine bP 2 ?_
  obtain ⟨x1, hx2, h0⟩ := bB h0
  refine dB (wQ s0 f1_f f1_a f1_c f1 f1_h _ hx2) hO ?_
  intro H hO
  refine bH ?_
  refine bL [(4, (aK (decide ((0 : Int) ≤ x1))))] ?_
  refine bM ?_
  obtain rfl := oI h0
  exact aH (Q_r hO)

theorem RU (x0 : aB) (r : Bool) (h0 : vW x0 = some r) : cE Try.prog 31 [(aA x0)] (aK r) := by
  intro H0
  refine cF Try.func31 ?_
  have hO := aL.start H0
  unfold vW at h0
  refine aN ?_
  refine aV aF 2 ?_
  refine sE 3 (aA x0) ?_
  refine bH ?_
  refine bL [(1, (.rp (aA x0)))] ?_
  refine aN ?_
  refine aV aF 15 ?_
  refine bP 2 ?_
  obtain ⟨x1, hx2, h0⟩ := bB h0
  refine dB (FT x0.Row _ hx2) hO ?_
  intro H hO
  refine bH ?_
  refine bL [(2, (aK (((!x1) || (decide ((1048576 : Int) < x0.Net))) || (decide (x0.Net < (-1048576 : Int))))))] ?_
  refine bM ?_
  obtain rfl := oI h0
  exact aH (Q_r hO)

theorem RT (x0 : aB) (r : Bool) (h0 : vH x0 = some r) : cE Try.prog 33 [(aA x0)] (aK r) := by
  intro H0
  refine cF Try.func33 ?_
  have hO := aL.start H0
  unfold vH at h0
  refine aN ?_
  refine aV aF 2 ?_
  refine sE 3 (aA x0) ?_
  refine bH ?_
  refine bL [(1, (.rp (aA x0)))] ?_
  refine bV aF 9 [(2, (aK ((decide (x0.At < (-1 : Int))) || (decide ((1125899906842624 : Int) < x0.At)))))] ?_
  refine bM ?_
  obtain rfl := oI h0
  exact aH (Q_r hO)

theorem zZ (s0 : (List aB)) (r : (List aB)) (h0 : fS s0 = some r) : LJ Try.prog 34 [(eL aA s0)] (fun lo => (.msl 3 lo 0 (List.length r))) 3 (List.map aA r) := by
  intro H0
  refine cF Try.func34 ?_
  have hO := aL.start H0
  unfold fS at h0
  refine aU aF 1 [] [] ?_
  refine aN ?_
  refine aN ?_
  refine aV aF 2 ?_
  refine bP 1 ?_
  refine aCC false (List.length s0) (fun i => aA (List.getD s0 i default)) (by kernel_rfl) (by kernel_rfl) ?_
  intro b1 hn2
  refine cT ?_
  refine bS [] [(4, (aK b1))] ?_
  refine nB (b1) (fun hc3 => ?_) (fun hc3 => ?_)
  · replace h0 : some ([] : List aB) = some r := by
      have hl := List.eq_nil_of_length_eq_zero (hn2 hc3)
      rw [hl] at h0
      exact (bG h0).2
    refine bV aF 1 [(2, (.sl true 0 (fun _ => .bad)))] ?_
    refine bM ?_
    refine cO [(2, (.sl true 0 (fun _ => .bad)))] ?_
    refine UO (el := (fun _ => .bad)) 0 2 3 hO (by kernel_rfl) ?_
    intro lo4 H5 hO
    obtain rfl := oI h0
    exact aH (aP (nU (x := (.msl 3 lo4 0 (List.length ([] : List aB)))) (by kernel_rfl) (bA.refl _) ⟨lo4, rfl, hO⟩))
  · refine bO ?_
    refine bL [(0, (eL aA s0))] ?_
    refine aN ?_
    refine aV aF 4 ?_
    refine kM [] 3 ?_
    refine bP 2 ?_
    obtain ⟨c7, h0⟩ := bG h0
    refine LG (e := aA) s0 (fun _ => .bad) 3 40 (eL aA s0) (fun lo6 => [(lo6, 3, List.map aA s0)]) (by kernel_rfl) (by kernel_rfl) hO (AJ (fun _ => by kernel_rfl)) c7 (fun _ => by kernel_rfl) ?_
    intro lo6 H hO
    refine bH ?_
    refine bL [(2, (.msl 3 lo6 0 (List.length s0)))] ?_
    refine bM ?_
    obtain rfl := oI h0
    exact aH (nU (x := (.msl 3 lo6 0 (List.length s0))) (by kernel_rfl) (bA.refl _) ⟨lo6, rfl, hO⟩)

theorem pE (lo0p : Nat) (aC : (List aB)) (a1 : Int) (b2 : Int) (cmp3_f : Nat) (cmp3_a cmp3_c : List V) (cmp3 : aB → aB → Option Int) (cmp3_h : ∀ a0 a1 r, cmp3 a0 a1 = some r → cE Try.prog cmp3_f (cmp3_a ++ [(aA a0), (aA a1)] ++ cmp3_c) (eI r)) (r : List aB) (h0 : eA aC a1 b2 cmp3 = some r) : nT Try.prog 79 lo0p 3 (List.map aA aC) (List.map aA r) [(.msl 3 lo0p 0 (List.length aC)), (eI a1), (eI b2), (.fn (.func cmp3_f) cmp3_a cmp3_c)] (.tup []) := by
  intro H0 hl0
  refine cF Try.func79 ?_
  have hO := aL.qX hl0
  clear hl0
  obtain ⟨N0, hN0⟩ : ∃ n, n = List.length aC := ⟨_, rfl⟩
  have hN : List.length aC = N0 := hN0.symm
  unfold eA at h0
  refine aU aF 3 [] [(8, (eI (wR (a1 + (1 : Int)))))] ?_
  refine bT 0 ?_
  refine cS [(0, (.msl 3 lo0p 0 (List.length aC))), (1, (eI a1)), (2, (eI b2)), (3, (.fn (.func cmp3_f) cmp3_a cmp3_c)), (8, (eI (wR (a1 + (1 : Int)))))] ?_
  refine cG (fun T H => ∃ aC : List aB, ∃ i8 : Int, Has T [(0, (.msl 3 lo0p 0 (List.length aC))), (1, (eI a1)), (2, (eI b2)), (3, (.fn (.func cmp3_f) cmp3_a cmp3_c)), (8, (eI i8))] ∧ aL ⟨H0, [lo0p], []⟩ H [(lo0p, 3, List.map aA aC)] ∧ List.length aC = N0 ∧ kD cmp3 aC a1 b2 i8 = some r) ?_ ⟨aC, wR (a1 + (1 : Int)), aW, hO, hN, h0⟩
  clear hO hN h0
  rintro T H ⟨aC, i8, hT, hO, hN, h0⟩
  refine bC hT ?_
  clear hT
  unfold kD at h0
  obtain ⟨rr0, hl0, h0⟩ := bB h0
  refine cZ (fun (s : List aB × Int) T H => Has T [(0, (.msl 3 lo0p 0 (List.length s.1))), (1, (eI a1)), (2, (eI b2)), (3, (.fn (.func cmp3_f) cmp3_a cmp3_c)), (8, (eI s.2))] ∧ aL ⟨H0, [lo0p], []⟩ H [(lo0p, 3, List.map aA s.1)] ∧ List.length s.1 = N0) hl0 ⟨aW, hO, hN⟩ ?_
  clear hO hN
  rintro k0 s out1 T H ⟨hT, hO, hN⟩ h1 ho0
  obtain ⟨aC, i8⟩ := s
  replace h1 : kG cmp3 a1 b2 aC i8 = some out1 := h1
  try dsimp only at hT
  refine bC hT ?_
  clear hT
  unfold kG at h1
  refine aN ?_
  refine aU aF 3 [] [(14, (aK (decide (i8 < b2))))] ?_
  refine bK h1 (fun h1 => ?_) (fun h1 => ?_)
  · refine bO ?_
    refine bL [(0, (.msl 3 lo0p 0 (List.length aC))), (1, (eI a1)), (2, (eI b2)), (3, (.fn (.func cmp3_f) cmp3_a cmp3_c)), (8, (eI i8))] ?_
    refine cK (fun T H => ∃ aC : List aB, Has T [(0, (.msl 3 lo0p 0 (List.length aC))), (1, (eI a1)), (2, (eI b2)), (3, (.fn (.func cmp3_f) cmp3_a cmp3_c)), (8, (eI i8))] ∧ aL ⟨H0, [lo0p], []⟩ H [(lo0p, 3, List.map aA aC)] ∧ List.length aC = N0 ∧ fL cmp3 aC a1 b2 i8 = some out1) ?_ ?_
    · clear hO hN h1
      rintro T H ⟨aC, hT, hO, hN, h1⟩
      refine bC hT ?_
      clear hT
      unfold fL at h1
      refine aV aF 3 ?_
      refine bH ?_
      exact aH (aG (⟨rfl, _, (oI h1).symm, aW, hO, hN⟩))
    refine bT 1 ?_
    refine aU aF 2 [] [(9, (eI i8))] ?_
    refine bT 2 ?_
    refine cS [(0, (.msl 3 lo0p 0 (List.length aC))), (1, (eI a1)), (2, (eI b2)), (3, (.fn (.func cmp3_f) cmp3_a cmp3_c)), (8, (eI i8)), (9, (eI i8))] ?_
    refine cG (fun T H => ∃ aC : List aB, ∃ j9 : Int, Has T [(0, (.msl 3 lo0p 0 (List.length aC))), (1, (eI a1)), (2, (eI b2)), (3, (.fn (.func cmp3_f) cmp3_a cmp3_c)), (8, (eI i8)), (9, (eI j9))] ∧ aL ⟨H0, [lo0p], []⟩ H [(lo0p, 3, List.map aA aC)] ∧ List.length aC = N0 ∧ kF cmp3 aC a1 b2 i8 j9 = some out1) ?_ ⟨aC, i8, aW, hO, hN, h1⟩
    clear hO hN h1
    rintro T H ⟨aC, j9, hT, hO, hN, h1⟩
    refine bC hT ?_
    clear hT
    unfold kF at h1
    obtain ⟨rr1, hl1, h1⟩ := bB h1
    refine cZ (fun (s : List aB × Int) T H => Has T [(0, (.msl 3 lo0p 0 (List.length s.1))), (1, (eI a1)), (2, (eI b2)), (3, (.fn (.func cmp3_f) cmp3_a cmp3_c)), (8, (eI i8)), (9, (eI s.2))] ∧ aL ⟨H0, [lo0p], []⟩ H [(lo0p, 3, List.map aA s.1)] ∧ List.length s.1 = N0) hl1 ⟨aW, hO, hN⟩ ?_
    clear hO hN
    rintro k1 s out2 T H ⟨hT, hO, hN⟩ h2 ho1
    obtain ⟨aC, j9⟩ := s
    replace h2 : jY cmp3 a1 b2 i8 aC j9 = some out2 := h2
    try dsimp only at hT
    refine bC hT ?_
    clear hT
    unfold jY at h2
    refine aN ?_
    refine aN ?_
    obtain ⟨c2, h2⟩ := bG h2
    obtain ⟨c3, h2⟩ := bG h2
    obtain ⟨x4, hx5, h2⟩ := bB h2
    refine fB (fC []) aF 17 ?_
    refine yR (K := fun T H => Has (lift T) [(0, (.msl 3 lo0p 0 (List.length aC))), (1, (eI a1)), (2, (eI b2)), (3, (.fn (.func cmp3_f) cmp3_a cmp3_c)), (8, (eI i8)), (9, (eI j9)), (34, (aK ((decide (a1 < j9)) && (decide (x4 < (0 : Int))))))] ∧ aL ⟨H0, [lo0p], []⟩ H [(lo0p, 3, List.map aA aC)]) ?_ ?_
    · refine sG 4 ?_
      refine uB (t := 21) (e := decide (a1 < j9)) (by kernel_rfl) (fun hg6 => ?_) (fun hg6 => ?_)
      · refine cW 8 [0 ≤ j9 ∧ j9 < (lN aC)] ⟨(c2 hg6), trivial⟩ ?_
        refine JI 0 lo0p 3 (0 + Int.toNat j9) (aA (gD aC j9)) (aA (gD aC j9)) (List.map aA aC) hO (cD (c2 hg6)) ?_
        refine cW 13 [0 ≤ (wR (j9 - (1 : Int))) ∧ (wR (j9 - (1 : Int))) < (lN aC)] ⟨(c3 hg6), trivial⟩ ?_
        refine JI 0 lo0p 3 (0 + Int.toNat (wR (j9 - (1 : Int)))) (aA (gD aC (wR (j9 - (1 : Int))))) (aA (gD aC (wR (j9 - (1 : Int))))) (List.map aA aC) hO (cD (c3 hg6)) ?_
        refine BT cmp3_f (cmp3_a ++ [(aA (gD aC j9)), (aA (gD aC (wR (j9 - (1 : Int)))))] ++ cmp3_c) (eI x4) (by kernel_rfl) (by kernel_rfl) (cmp3_h (gD aC j9) (gD aC (wR (j9 - (1 : Int)))) _ (qW hx5 hg6)) hO ?_
        intro H hO
        refine jB ?_
        exact ⟨⟨[(0, (.msl 3 lo0p 0 (List.length aC))), (1, (eI a1)), (2, (eI b2)), (3, (.fn (.func cmp3_f) cmp3_a cmp3_c)), (8, (eI i8)), (9, (eI j9)), (34, (aK (decide (x4 < (0 : Int)))))], by kernel_rfl, rfl, ⟨bA.refl _, bA.refl _, bA.refl _, bA.refl _, bA.refl _, bA.refl _, bA.eq (congrArg aK (tO hg6 rfl).symm), trivial⟩⟩, hO⟩
      refine jB ?_
      exact ⟨⟨[(0, (.msl 3 lo0p 0 (List.length aC))), (1, (eI a1)), (2, (eI b2)), (3, (.fn (.func cmp3_f) cmp3_a cmp3_c)), (8, (eI i8)), (9, (eI j9)), (34, (aK false))], by kernel_rfl, rfl, ⟨bA.refl _, bA.refl _, bA.refl _, bA.refl _, bA.refl _, bA.refl _, bA.eq (congrArg aK (tO hg6 rfl).symm), trivial⟩⟩, hO⟩
    · rintro T H ⟨hT, hO⟩
      refine cV hT ?_
      clear hT
      refine aH (aG ?_)
      refine bK h2 (fun h2 => ?_) (fun h2 => ?_)
      · refine bO ?_
        refine bL [(0, (.msl 3 lo0p 0 (List.length aC))), (1, (eI a1)), (2, (eI b2)), (3, (.fn (.func cmp3_f) cmp3_a cmp3_c)), (8, (eI i8)), (9, (eI j9))] ?_
        refine aN ?_
        refine bT 3 ?_
        refine fB (fC []) aF 18 ?_
        obtain ⟨c8, h2⟩ := bG h2
        refine cW 9 [0 ≤ (wR (j9 - (1 : Int))) ∧ (wR (j9 - (1 : Int))) < (lN aC)] ⟨c8, trivial⟩ ?_
        refine kO 0 lo0p 3 (0 + Int.toNat (wR (j9 - (1 : Int)))) (aA (gD aC (wR (j9 - (1 : Int))))) (aA (gD aC (wR (j9 - (1 : Int))))) (List.map aA aC) hO (cD c8) ?_
        obtain ⟨c9, h2⟩ := bG h2
        refine cW 13 [0 ≤ j9 ∧ j9 < (lN aC)] ⟨c9, trivial⟩ ?_
        refine kO 0 lo0p 3 (0 + Int.toNat j9) (aA (gD aC j9)) (aA (gD aC j9)) (List.map aA aC) hO (cD c9) ?_
        obtain ⟨c10, h2⟩ := bG h2
        refine cW 15 [0 ≤ j9 ∧ j9 < (lN aC)] ⟨c10, trivial⟩ ?_
        refine wJ 0 lo0p 3 (0 + Int.toNat j9) (aA (gD aC j9)) (aA (gD aC (wR (j9 - (1 : Int))))) (List.map aA aC) [(lo0p, 3, List.map aA (List.set aC (Int.toNat j9) (gD aC (wR (j9 - (1 : Int))))))] hO (cD c10) (by simp only [List.set, mA]) ?_
        intro H hO
        replace hN : List.length (List.set aC (Int.toNat j9) (gD aC (wR (j9 - (1 : Int))))) = N0 := by simpa using hN
        obtain ⟨c11, h2⟩ := bG h2
        refine cW 17 [0 ≤ (wR (j9 - (1 : Int))) ∧ (wR (j9 - (1 : Int))) < (lN aC)] ⟨c11, trivial⟩ ?_
        refine wJ 0 lo0p 3 (0 + Int.toNat (wR (j9 - (1 : Int)))) (aA (gD (List.set aC (Int.toNat j9) (gD aC (wR (j9 - (1 : Int))))) (wR (j9 - (1 : Int))))) (aA (gD aC j9)) (List.map aA (List.set aC (Int.toNat j9) (gD aC (wR (j9 - (1 : Int)))))) [(lo0p, 3, List.map aA (List.set (List.set aC (Int.toNat j9) (gD aC (wR (j9 - (1 : Int))))) (Int.toNat (wR (j9 - (1 : Int)))) (gD aC j9)))] hO (AE c11 (by simp [])) (by simp only [List.set, mA]) ?_
        intro H hO
        replace hN : List.length (List.set (List.set aC (Int.toNat j9) (gD aC (wR (j9 - (1 : Int))))) (Int.toNat (wR (j9 - (1 : Int)))) (gD aC j9)) = N0 := by simpa using hN
        refine CS (by kernel_rfl) ?_
        refine cV (l := [(0, (.msl 3 lo0p 0 (List.length (List.set (List.set aC (Int.toNat j9) (gD aC (wR (j9 - (1 : Int))))) (Int.toNat (wR (j9 - (1 : Int)))) (gD aC j9))))), (1, (eI a1)), (2, (eI b2)), (3, (.fn (.func cmp3_f) cmp3_a cmp3_c)), (8, (eI i8)), (9, (eI j9))]) ⟨[(0, (.msl 3 lo0p 0 (List.length aC))), (1, (eI a1)), (2, (eI b2)), (3, (.fn (.func cmp3_f) cmp3_a cmp3_c)), (8, (eI i8)), (9, (eI j9))], by kernel_rfl, rfl, ⟨bA.eq (by simp []), bA.refl _, bA.refl _, bA.refl _, bA.refl _, bA.refl _, trivial⟩⟩ ?_
        refine aH (aX (aG (?_)))
        refine aV aF 3 ?_
        refine bH ?_
        exact aH (aG (⟨rfl, _, (oI h2).symm, aW, hO, hN⟩))
      refine cX 2 ?_
      obtain rfl := oI h2
      obtain rfl : _ = rr1 := ho1
      replace h1 : fL cmp3 aC a1 b2 i8 = some out1 := h1
      exact aH (aS (aS (bQ (aX (aG (⟨rfl, _, aW, hO, hN, h1⟩))))))
  refine cX 0 ?_
  obtain rfl := oI h1
  obtain rfl : _ = rr0 := ho0
  replace h0 : some aC = some r := h0
  obtain rfl := oI h0
  exact aH (aS (aS (bQ (tR (x := (.tup [])) (by kernel_rfl) (bA.refl _) ⟨rfl, hO.ext, hO.at 0 (by kernel_rfl), by first | rfl | (simp only [List.length_map]; exact hN.trans hN0)⟩))))

theorem mN (lo0p : Nat) (aC : (List aB)) (a1 : Int) (b2 : Int) (n3 : Int) (cmp4_f : Nat) (cmp4_a cmp4_c : List V) (cmp4 : aB → aB → Option Int) (cmp4_h : ∀ a0 a1 r, cmp4 a0 a1 = some r → cE Try.prog cmp4_f (cmp4_a ++ [(aA a0), (aA a1)] ++ cmp4_c) (eI r)) (r : List aB) (h0 : eV aC a1 b2 n3 cmp4 = some r) : nT Try.prog 97 lo0p 3 (List.map aA aC) (List.map aA r) [(.msl 3 lo0p 0 (List.length aC)), (eI a1), (eI b2), (eI n3), (.fn (.func cmp4_f) cmp4_a cmp4_c)] (.tup []) := by
  intro H0 hl0
  refine cF Try.func97 ?_
  have hO := aL.qX hl0
  clear hl0
  obtain ⟨N0, hN0⟩ : ∃ n, n = List.length aC := ⟨_, rfl⟩
  have hN : List.length aC = N0 := hN0.symm
  unfold eV at h0
  refine aU aF 1 [4] [(10, (eI (0 : Int)))] ?_
  refine bT 0 ?_
  refine cS [(0, (.msl 3 lo0p 0 (List.length aC))), (1, (eI a1)), (2, (eI b2)), (3, (eI n3)), (10, (eI (0 : Int)))] ?_
  refine cG (fun T H => ∃ aC : List aB, ∃ i10 : Int, Has T [(0, (.msl 3 lo0p 0 (List.length aC))), (1, (eI a1)), (2, (eI b2)), (3, (eI n3)), (10, (eI i10))] ∧ aL ⟨H0, [lo0p], []⟩ H [(lo0p, 3, List.map aA aC)] ∧ List.length aC = N0 ∧ lQ cmp4 aC a1 b2 n3 i10 = some r) ?_ ⟨aC, (0 : Int), aW, hO, hN, h0⟩
  clear hO hN h0
  rintro T H ⟨aC, i10, hT, hO, hN, h0⟩
  refine bC hT ?_
  clear hT
  unfold lQ at h0
  obtain ⟨rr0, hl0, h0⟩ := bB h0
  refine cZ (fun (s : List aB × Int) T H => Has T [(0, (.msl 3 lo0p 0 (List.length s.1))), (1, (eI a1)), (2, (eI b2)), (3, (eI n3)), (10, (eI s.2))] ∧ aL ⟨H0, [lo0p], []⟩ H [(lo0p, 3, List.map aA s.1)] ∧ List.length s.1 = N0) hl0 ⟨aW, hO, hN⟩ ?_
  clear hO hN
  rintro k0 s out1 T H ⟨hT, hO, hN⟩ h1 ho0
  obtain ⟨aC, i10⟩ := s
  replace h1 : lS cmp4 a1 b2 n3 aC i10 = some out1 := h1
  try dsimp only at hT
  refine bC hT ?_
  clear hT
  unfold lS at h1
  refine aN ?_
  refine aU aF 3 [] [(13, (aK (decide (i10 < n3))))] ?_
  refine bK h1 (fun h1 => ?_) (fun h1 => ?_)
  · refine bO ?_
    refine bL [(0, (.msl 3 lo0p 0 (List.length aC))), (1, (eI a1)), (2, (eI b2)), (3, (eI n3)), (10, (eI i10))] ?_
    refine aN ?_
    refine bT 1 ?_
    refine fB (fC []) aF 24 ?_
    obtain ⟨c2, h1⟩ := bG h1
    refine cW 13 [0 ≤ (wR (b2 + i10)) ∧ (wR (b2 + i10)) < (lN aC)] ⟨c2, trivial⟩ ?_
    refine kO 0 lo0p 3 (0 + Int.toNat (wR (b2 + i10))) (aA (gD aC (wR (b2 + i10)))) (aA (gD aC (wR (b2 + i10)))) (List.map aA aC) hO (cD c2) ?_
    obtain ⟨c3, h1⟩ := bG h1
    refine cW 19 [0 ≤ (wR (a1 + i10)) ∧ (wR (a1 + i10)) < (lN aC)] ⟨c3, trivial⟩ ?_
    refine kO 0 lo0p 3 (0 + Int.toNat (wR (a1 + i10))) (aA (gD aC (wR (a1 + i10)))) (aA (gD aC (wR (a1 + i10)))) (List.map aA aC) hO (cD c3) ?_
    obtain ⟨c4, h1⟩ := bG h1
    refine cW 21 [0 ≤ (wR (a1 + i10)) ∧ (wR (a1 + i10)) < (lN aC)] ⟨c4, trivial⟩ ?_
    refine wJ 0 lo0p 3 (0 + Int.toNat (wR (a1 + i10))) (aA (gD aC (wR (a1 + i10)))) (aA (gD aC (wR (b2 + i10)))) (List.map aA aC) [(lo0p, 3, List.map aA (List.set aC (Int.toNat (wR (a1 + i10))) (gD aC (wR (b2 + i10)))))] hO (cD c4) (by simp only [List.set, mA]) ?_
    intro H hO
    replace hN : List.length (List.set aC (Int.toNat (wR (a1 + i10))) (gD aC (wR (b2 + i10)))) = N0 := by simpa using hN
    obtain ⟨c5, h1⟩ := bG h1
    refine cW 23 [0 ≤ (wR (b2 + i10)) ∧ (wR (b2 + i10)) < (lN aC)] ⟨c5, trivial⟩ ?_
    refine wJ 0 lo0p 3 (0 + Int.toNat (wR (b2 + i10))) (aA (gD (List.set aC (Int.toNat (wR (a1 + i10))) (gD aC (wR (b2 + i10)))) (wR (b2 + i10)))) (aA (gD aC (wR (a1 + i10)))) (List.map aA (List.set aC (Int.toNat (wR (a1 + i10))) (gD aC (wR (b2 + i10))))) [(lo0p, 3, List.map aA (List.set (List.set aC (Int.toNat (wR (a1 + i10))) (gD aC (wR (b2 + i10)))) (Int.toNat (wR (b2 + i10))) (gD aC (wR (a1 + i10)))))] hO (AE c5 (by simp [])) (by simp only [List.set, mA]) ?_
    intro H hO
    replace hN : List.length (List.set (List.set aC (Int.toNat (wR (a1 + i10))) (gD aC (wR (b2 + i10)))) (Int.toNat (wR (b2 + i10))) (gD aC (wR (a1 + i10)))) = N0 := by simpa using hN
    refine CS (by kernel_rfl) ?_
    refine cV (l := [(0, (.msl 3 lo0p 0 (List.length (List.set (List.set aC (Int.toNat (wR (a1 + i10))) (gD aC (wR (b2 + i10)))) (Int.toNat (wR (b2 + i10))) (gD aC (wR (a1 + i10))))))), (1, (eI a1)), (2, (eI b2)), (3, (eI n3)), (10, (eI i10))]) ⟨[(0, (.msl 3 lo0p 0 (List.length aC))), (1, (eI a1)), (2, (eI b2)), (3, (eI n3)), (10, (eI i10))], by kernel_rfl, rfl, ⟨bA.eq (by simp []), bA.refl _, bA.refl _, bA.refl _, bA.refl _, trivial⟩⟩ ?_
    refine aH (aX (aG (?_)))
    refine aV aF 3 ?_
    refine bH ?_
    exact aH (aG (⟨rfl, _, (oI h1).symm, aW, hO, hN⟩))
  refine cX 0 ?_
  obtain rfl := oI h1
  obtain rfl : _ = rr0 := ho0
  replace h0 : some aC = some r := h0
  obtain rfl := oI h0
  exact aH (aS (aS (bQ (tR (x := (.tup [])) (by kernel_rfl) (bA.refl _) ⟨rfl, hO.ext, hO.at 0 (by kernel_rfl), by first | rfl | (simp only [List.length_map]; exact hN.trans hN0)⟩))))

theorem AN (lo0p : Nat) (aC : (List aB)) (a1 : Int) (m2 : Int) (b3 : Int) (cmp4_f : Nat) (cmp4_a cmp4_c : List V) (cmp4 : aB → aB → Option Int) (cmp4_h : ∀ a0 a1 r, cmp4 a0 a1 = some r → cE Try.prog cmp4_f (cmp4_a ++ [(aA a0), (aA a1)] ++ cmp4_c) (eI r)) (r : List aB) (h0 : nW aC a1 m2 b3 cmp4 = some r) : nT Try.prog 91 lo0p 3 (List.map aA aC) (List.map aA r) [(.msl 3 lo0p 0 (List.length aC)), (eI a1), (eI m2), (eI b3), (.fn (.func cmp4_f) cmp4_a cmp4_c)] (.tup []) := by
  intro H0 hl0
  refine cF Try.func91 ?_
  have hO := aL.qX hl0
  clear hl0
  obtain ⟨N0, hN0⟩ : ∃ n, n = List.length aC := ⟨_, rfl⟩
  have hN : List.length aC = N0 := hN0.symm
  unfold nW at h0
  refine aU aF 4 [1] [(10, (eI (wR (m2 - a1))))] ?_
  refine aU aF 4 [3] [(11, (eI (wR (b3 - m2))))] ?_
  refine cK (fun T H => ∃ aC : List aB, ∃ i10 : Int, Has T [(0, (.msl 3 lo0p 0 (List.length aC))), (2, (eI m2)), (4, (.fn (.func cmp4_f) cmp4_a cmp4_c)), (10, (eI i10))] ∧ aL ⟨H0, [lo0p], []⟩ H [(lo0p, 3, List.map aA aC)] ∧ List.length aC = N0 ∧ jM cmp4 aC m2 i10 = some r) ?_ ?_
  · clear hO hN h0
    rintro T H ⟨aC, i10, hT, hO, hN, h0⟩
    refine bC hT ?_
    clear hT
    unfold jM at h0
    refine aV aF 8 ?_
    refine bP 7 ?_
    obtain ⟨x1, hx2, h0⟩ := bB h0
    refine rE [(lo0p, 3, List.map aA x1)] 0 (mN lo0p aC (wR (m2 - i10)) m2 i10 cmp4_f cmp4_a cmp4_c cmp4 cmp4_h _ hx2) hO ?_
    intro H hO hl3
    simp only [List.length_map] at hl3
    replace hN := hl3.trans hN
    refine cT ?_
    refine cV (l := [(0, (.msl 3 lo0p 0 (List.length x1)))]) ⟨[(0, (.msl 3 lo0p 0 (List.length aC)))], by kernel_rfl, rfl, ⟨bA.eq (by simp [hl3]), trivial⟩⟩ ?_
    obtain rfl := oI h0
    exact aH (tR (x := (.tup [])) (by kernel_rfl) (bA.refl _) ⟨rfl, hO.ext, hO.at 0 (by kernel_rfl), by simp only [List.length_map]; exact hN.trans hN0⟩)
  refine bT 0 ?_
  refine cS [(0, (.msl 3 lo0p 0 (List.length aC))), (2, (eI m2)), (4, (.fn (.func cmp4_f) cmp4_a cmp4_c)), (10, (eI (wR (m2 - a1)))), (11, (eI (wR (b3 - m2))))] ?_
  refine cG (fun T H => ∃ aC : List aB, ∃ i10 : Int, ∃ j11 : Int, Has T [(0, (.msl 3 lo0p 0 (List.length aC))), (2, (eI m2)), (4, (.fn (.func cmp4_f) cmp4_a cmp4_c)), (10, (eI i10)), (11, (eI j11))] ∧ aL ⟨H0, [lo0p], []⟩ H [(lo0p, 3, List.map aA aC)] ∧ List.length aC = N0 ∧ nI cmp4 aC m2 i10 j11 = some r) ?_ ⟨aC, wR (m2 - a1), wR (b3 - m2), aW, hO, hN, h0⟩
  clear hO hN h0
  rintro T H ⟨aC, i10, j11, hT, hO, hN, h0⟩
  refine bC hT ?_
  clear hT
  unfold nI at h0
  obtain ⟨rr0, hl0, h0⟩ := bB h0
  refine cZ (fun (s : List aB × Int × Int) T H => Has T [(0, (.msl 3 lo0p 0 (List.length s.1))), (2, (eI m2)), (4, (.fn (.func cmp4_f) cmp4_a cmp4_c)), (10, (eI s.2.1)), (11, (eI s.2.2))] ∧ aL ⟨H0, [lo0p], []⟩ H [(lo0p, 3, List.map aA s.1)] ∧ List.length s.1 = N0) hl0 ⟨aW, hO, hN⟩ ?_
  clear hO hN
  rintro k0 s out1 T H ⟨hT, hO, hN⟩ h1 ho0
  obtain ⟨aC, i10, j11⟩ := s
  replace h1 : nJ cmp4 m2 aC i10 j11 = some out1 := h1
  try dsimp only at hT
  refine bC hT ?_
  clear hT
  unfold nJ at h1
  refine aN ?_
  refine aU aF 3 [] [(20, (aK (!decide (i10 = j11))))] ?_
  refine bK h1 (fun h1 => ?_) (fun h1 => ?_)
  · refine bO ?_
    refine bL [(0, (.msl 3 lo0p 0 (List.length aC))), (2, (eI m2)), (4, (.fn (.func cmp4_f) cmp4_a cmp4_c)), (10, (eI i10)), (11, (eI j11))] ?_
    refine bT 1 ?_
    refine aU aF 3 [] [(23, (aK (decide (j11 < i10))))] ?_
    refine bK h1 (fun h1 => ?_) (fun h1 => ?_)
    · refine aN ?_
      refine aV aF 8 ?_
      refine bP 7 ?_
      obtain ⟨x6, hx7, h1⟩ := bB h1
      refine rE [(lo0p, 3, List.map aA x6)] 0 (mN lo0p aC (wR (m2 - i10)) m2 j11 cmp4_f cmp4_a cmp4_c cmp4 cmp4_h _ hx7) hO ?_
      intro H hO hl8
      simp only [List.length_map] at hl8
      replace hN := hl8.trans hN
      refine cT ?_
      refine cV (l := [(0, (.msl 3 lo0p 0 (List.length x6))), (2, (eI m2)), (4, (.fn (.func cmp4_f) cmp4_a cmp4_c)), (10, (eI i10)), (11, (eI j11))]) ⟨[(0, (.msl 3 lo0p 0 (List.length aC))), (2, (eI m2)), (4, (.fn (.func cmp4_f) cmp4_a cmp4_c)), (10, (eI i10)), (11, (eI j11))], by kernel_rfl, rfl, ⟨bA.eq (by simp [hl8]), bA.refl _, bA.refl _, bA.refl _, bA.refl _, trivial⟩⟩ ?_
      refine aH (aG (?_))
      refine aV aF 4 ?_
      refine bH ?_
      exact aH (aX (aG (⟨rfl, _, (oI h1).symm, aW, hO, hN⟩)))
    refine aN ?_
    refine aV aF 12 ?_
    refine bP 11 ?_
    obtain ⟨x9, hx10, h1⟩ := bB h1
    refine rE [(lo0p, 3, List.map aA x9)] 0 (mN lo0p aC (wR (m2 - i10)) (wR ((wR (m2 + j11)) - i10)) i10 cmp4_f cmp4_a cmp4_c cmp4 cmp4_h _ hx10) hO ?_
    intro H hO hl11
    simp only [List.length_map] at hl11
    replace hN := hl11.trans hN
    refine cT ?_
    refine cV (l := [(0, (.msl 3 lo0p 0 (List.length x9))), (2, (eI m2)), (4, (.fn (.func cmp4_f) cmp4_a cmp4_c)), (10, (eI i10)), (11, (eI j11))]) ⟨[(0, (.msl 3 lo0p 0 (List.length aC))), (2, (eI m2)), (4, (.fn (.func cmp4_f) cmp4_a cmp4_c)), (10, (eI i10)), (11, (eI j11))], by kernel_rfl, rfl, ⟨bA.eq (by simp [hl11]), bA.refl _, bA.refl _, bA.refl _, bA.refl _, trivial⟩⟩ ?_
    refine aH (aG (?_))
    refine aV aF 4 ?_
    refine bH ?_
    exact aH (aX (aG (⟨rfl, _, (oI h1).symm, aW, hO, hN⟩)))
  refine cX 0 ?_
  obtain rfl := oI h1
  obtain rfl : _ = rr0 := ho0
  replace h0 : jM cmp4 aC m2 i10 = some r := h0
  exact aH (aS (aS (bQ (aG (⟨rfl, _, _, aW, hO, hN, h0⟩)))))

theorem wG (cmp4_f : Nat) (cmp4_a cmp4_c : List V) (cmp4 : aB → aB → Option Int) (cmp4_h : ∀ a0 a1 r, cmp4 a0 a1 = some r → cE Try.prog cmp4_f (cmp4_a ++ [(aA a0), (aA a1)] ++ cmp4_c) (eI r)) (rec : (List aB) → Int → Int → Int → Option (List aB)) (ih : ∀ (lo0p : Nat) (aC : (List aB)) (a1 : Int) (m2 : Int) (b3 : Int) (r : List aB), rec aC a1 m2 b3 = some r → nT Try.prog 80 lo0p 3 (List.map aA aC) (List.map aA r) [(.msl 3 lo0p 0 (List.length aC)), (eI a1), (eI m2), (eI b3), (.fn (.func cmp4_f) cmp4_a cmp4_c)] (.tup [])) (lo0p : Nat) (aC : (List aB)) (a1 : Int) (m2 : Int) (b3 : Int) (r : List aB) (h0 : eK cmp4 rec aC a1 m2 b3 = some r) : nT Try.prog 80 lo0p 3 (List.map aA aC) (List.map aA r) [(.msl 3 lo0p 0 (List.length aC)), (eI a1), (eI m2), (eI b3), (.fn (.func cmp4_f) cmp4_a cmp4_c)] (.tup []) := by
  intro H0 hl0
  refine cF Try.func80 ?_
  have hO := aL.qX hl0
  clear hl0
  obtain ⟨N0, hN0⟩ : ∃ n, n = List.length aC := ⟨_, rfl⟩
  have hN : List.length aC = N0 := hN0.symm
  unfold eK at h0
  refine cK (fun T H => ∃ aC : List aB, Has T [(0, (.msl 3 lo0p 0 (List.length aC))), (1, (eI a1)), (2, (eI m2)), (3, (eI b3)), (4, (.fn (.func cmp4_f) cmp4_a cmp4_c))] ∧ aL ⟨H0, [lo0p], []⟩ H [(lo0p, 3, List.map aA aC)] ∧ List.length aC = N0 ∧ mD cmp4 rec aC a1 m2 b3 = some r) ?_ ?_
  · clear hO hN h0
    rintro T H ⟨aC, hT, hO, hN, h0⟩
    refine bC hT ?_
    clear hT
    unfold mD at h0
    refine cK (fun T H => ∃ aC : List aB, Has T [(0, (.msl 3 lo0p 0 (List.length aC))), (1, (eI a1)), (2, (eI m2)), (3, (eI b3)), (4, (.fn (.func cmp4_f) cmp4_a cmp4_c))] ∧ aL ⟨H0, [lo0p], []⟩ H [(lo0p, 3, List.map aA aC)] ∧ List.length aC = N0 ∧ mF cmp4 rec aC a1 m2 b3 = some r) ?_ ?_
    · clear hO hN h0
      rintro T H ⟨aC, hT, hO, hN, h0⟩
      refine bC hT ?_
      clear hT
      unfold mF at h0
      refine aN ?_
      refine aV aF 7 ?_
      obtain ⟨c1, h0⟩ := bG h0
      refine oH [0 ≤ (1 : Int)] ⟨c1, trivial⟩ ?_
      refine bS [] [(18, (eI (wR (Int.fdiv (IntKind.u64.wrap (wR (a1 + b3))) (2 ^ (min (Int.toNat (1 : Int)) 64))))))] ?_
      refine aU aF 4 [] [(19, (eI (wR ((wR (Int.fdiv (IntKind.u64.wrap (wR (a1 + b3))) (2 ^ (min (Int.toNat (1 : Int)) 64)))) + m2))))] ?_
      refine aU aF 2 [] [] ?_
      refine cK (fun T H => ∃ aC : List aB, ∃ bY : Int, ∃ n19 : Int, ∃ aZ : Int, ∃ r21 : Int, Has T [(0, (.msl 3 lo0p 0 (List.length aC))), (1, (eI a1)), (2, (eI m2)), (3, (eI b3)), (4, (.fn (.func cmp4_f) cmp4_a cmp4_c)), (18, (eI bY)), (19, (eI n19)), (20, (eI aZ)), (21, (eI r21))] ∧ aL ⟨H0, [lo0p], []⟩ H [(lo0p, 3, List.map aA aC)] ∧ List.length aC = N0 ∧ iM cmp4 rec aC a1 m2 b3 bY n19 aZ r21 = some r) ?_ ?_
      · clear hO hN h0
        rintro T H ⟨aC, bY, n19, aZ, r21, hT, hO, hN, h0⟩
        refine bC hT ?_
        clear hT
        unfold iM at h0
        refine aU aF 3 [] [(22, (eI (wR (n19 - (1 : Int)))))] ?_
        refine cK (fun T H => ∃ aC : List aB, ∃ aZ : Int, Has T [(0, (.msl 3 lo0p 0 (List.length aC))), (1, (eI a1)), (2, (eI m2)), (3, (eI b3)), (4, (.fn (.func cmp4_f) cmp4_a cmp4_c)), (18, (eI bY)), (19, (eI n19)), (20, (eI aZ))] ∧ aL ⟨H0, [lo0p], []⟩ H [(lo0p, 3, List.map aA aC)] ∧ List.length aC = N0 ∧ iG cmp4 rec aC a1 m2 b3 bY n19 aZ = some r) ?_ ?_
        · clear hO hN h0
          rintro T H ⟨aC, aZ, hT, hO, hN, h0⟩
          refine bC hT ?_
          clear hT
          unfold iG at h0
          refine aU aF 4 [19] [(24, (eI (wR (n19 - aZ))))] ?_
          refine cK (fun T H => ∃ aC : List aB, ∃ eN : Int, Has T [(0, (.msl 3 lo0p 0 (List.length aC))), (1, (eI a1)), (3, (eI b3)), (4, (.fn (.func cmp4_f) cmp4_a cmp4_c)), (18, (eI bY)), (20, (eI aZ)), (24, (eI eN))] ∧ aL ⟨H0, [lo0p], []⟩ H [(lo0p, 3, List.map aA aC)] ∧ List.length aC = N0 ∧ iQ cmp4 rec aC a1 b3 bY aZ eN = some r) ?_ ?_
          · clear hO hN h0
            rintro T H ⟨aC, eN, hT, hO, hN, h0⟩
            refine bC hT ?_
            clear hT
            unfold iQ at h0
            refine cK (fun T H => ∃ aC : List aB, Has T [(0, (.msl 3 lo0p 0 (List.length aC))), (3, (eI b3)), (4, (.fn (.func cmp4_f) cmp4_a cmp4_c)), (18, (eI bY)), (24, (eI eN))] ∧ aL ⟨H0, [lo0p], []⟩ H [(lo0p, 3, List.map aA aC)] ∧ List.length aC = N0 ∧ iK cmp4 rec aC b3 bY eN = some r) ?_ ?_
            · clear hO hN h0
              rintro T H ⟨aC, hT, hO, hN, h0⟩
              refine bC hT ?_
              clear hT
              unfold iK at h0
              refine aU aF 8 [] [(213, (aK ((decide (bY < eN)) && (decide (eN < b3)))))] ?_
              refine bK h0 (fun h0 => ?_) (fun h0 => ?_)
              · refine aV aF 6 ?_
                refine bP 5 ?_
                obtain ⟨x3, hx4, h0⟩ := bB h0
                refine rE [(lo0p, 3, List.map aA x3)] 0 (ih lo0p aC bY eN b3 _ hx4) hO ?_
                intro H hO hl5
                simp only [List.length_map] at hl5
                replace hN := hl5.trans hN
                refine cT ?_
                refine cV (l := [(0, (.msl 3 lo0p 0 (List.length x3)))]) ⟨[(0, (.msl 3 lo0p 0 (List.length aC)))], by kernel_rfl, rfl, ⟨bA.eq (by simp [hl5]), trivial⟩⟩ ?_
                obtain rfl := oI h0
                exact aH (tR (x := (.tup [])) (by kernel_rfl) (bA.refl _) ⟨rfl, hO.ext, hO.at 0 (by kernel_rfl), by simp only [List.length_map]; exact hN.trans hN0⟩)
              refine bO ?_
              obtain rfl := oI h0
              exact aH (tR (x := (.tup [])) (by kernel_rfl) (bA.refl _) ⟨rfl, hO.ext, hO.at 0 (by kernel_rfl), by first | rfl | (simp only [List.length_map]; exact hN.trans hN0)⟩)
            refine aU aF 8 [] [(199, (aK ((decide (a1 < aZ)) && (decide (aZ < bY)))))] ?_
            refine bK h0 (fun h0 => ?_) (fun h0 => ?_)
            · refine aV aF 6 ?_
              refine bP 5 ?_
              obtain ⟨x7, hx8, h0⟩ := bB h0
              refine rE [(lo0p, 3, List.map aA x7)] 0 (ih lo0p aC a1 aZ bY _ hx8) hO ?_
              intro H hO hl9
              simp only [List.length_map] at hl9
              replace hN := hl9.trans hN
              refine cT ?_
              refine cV (l := [(0, (.msl 3 lo0p 0 (List.length x7))), (3, (eI b3)), (4, (.fn (.func cmp4_f) cmp4_a cmp4_c)), (18, (eI bY)), (24, (eI eN))]) ⟨[(0, (.msl 3 lo0p 0 (List.length aC))), (3, (eI b3)), (4, (.fn (.func cmp4_f) cmp4_a cmp4_c)), (18, (eI bY)), (24, (eI eN))], by kernel_rfl, rfl, ⟨bA.eq (by simp [hl9]), bA.refl _, bA.refl _, bA.refl _, bA.refl _, trivial⟩⟩ ?_
              exact aH (aG (⟨rfl, _, aW, hO, hN, h0⟩))
            refine bO ?_
            exact aH (aG (⟨rfl, _, aW, hO, hN, h0⟩))
          refine aU aF 8 [] [(185, (aK ((decide (aZ < m2)) && (decide (m2 < (wR (n19 - aZ)))))))] ?_
          refine bK h0 (fun h0 => ?_) (fun h0 => ?_)
          · refine aV aF 6 ?_
            refine bP 5 ?_
            obtain ⟨x11, hx12, h0⟩ := bB h0
            refine rE [(lo0p, 3, List.map aA x11)] 0 (AN lo0p aC aZ m2 (wR (n19 - aZ)) cmp4_f cmp4_a cmp4_c cmp4 cmp4_h _ hx12) hO ?_
            intro H hO hl13
            simp only [List.length_map] at hl13
            replace hN := hl13.trans hN
            refine cT ?_
            refine cV (l := [(0, (.msl 3 lo0p 0 (List.length x11))), (1, (eI a1)), (3, (eI b3)), (4, (.fn (.func cmp4_f) cmp4_a cmp4_c)), (18, (eI bY)), (20, (eI aZ)), (24, (eI (wR (n19 - aZ))))]) ⟨[(0, (.msl 3 lo0p 0 (List.length aC))), (1, (eI a1)), (3, (eI b3)), (4, (.fn (.func cmp4_f) cmp4_a cmp4_c)), (18, (eI bY)), (20, (eI aZ)), (24, (eI (wR (n19 - aZ))))], by kernel_rfl, rfl, ⟨bA.eq (by simp [hl13]), bA.refl _, bA.refl _, bA.refl _, bA.refl _, bA.refl _, bA.refl _, trivial⟩⟩ ?_
            exact aH (aG (⟨rfl, _, _, aW, hO, hN, h0⟩))
          refine bO ?_
          exact aH (aG (⟨rfl, _, _, aW, hO, hN, h0⟩))
        refine bT 8 ?_
        refine cS [(0, (.msl 3 lo0p 0 (List.length aC))), (1, (eI a1)), (2, (eI m2)), (3, (eI b3)), (4, (.fn (.func cmp4_f) cmp4_a cmp4_c)), (18, (eI bY)), (19, (eI n19)), (20, (eI aZ)), (21, (eI r21)), (22, (eI (wR (n19 - (1 : Int)))))] ?_
        refine cG (fun T H => ∃ aC : List aB, ∃ aZ : Int, ∃ r21 : Int, ∃ p22 : Int, Has T [(0, (.msl 3 lo0p 0 (List.length aC))), (1, (eI a1)), (2, (eI m2)), (3, (eI b3)), (4, (.fn (.func cmp4_f) cmp4_a cmp4_c)), (18, (eI bY)), (19, (eI n19)), (20, (eI aZ)), (21, (eI r21)), (22, (eI p22))] ∧ aL ⟨H0, [lo0p], []⟩ H [(lo0p, 3, List.map aA aC)] ∧ List.length aC = N0 ∧ mB cmp4 rec aC a1 m2 b3 bY n19 aZ r21 p22 = some r) ?_ ⟨aC, aZ, r21, wR (n19 - (1 : Int)), aW, hO, hN, h0⟩
        clear hO hN h0
        rintro T H ⟨aC, aZ, r21, p22, hT, hO, hN, h0⟩
        refine bC hT ?_
        clear hT
        unfold mB at h0
        obtain ⟨rr0, hl0, h0⟩ := bB h0
        refine cZ (fun (s : List aB × Int × Int) T H => Has T [(0, (.msl 3 lo0p 0 (List.length s.1))), (1, (eI a1)), (2, (eI m2)), (3, (eI b3)), (4, (.fn (.func cmp4_f) cmp4_a cmp4_c)), (18, (eI bY)), (19, (eI n19)), (20, (eI s.2.1)), (21, (eI s.2.2)), (22, (eI p22))] ∧ aL ⟨H0, [lo0p], []⟩ H [(lo0p, 3, List.map aA s.1)] ∧ List.length s.1 = N0) hl0 ⟨aW, hO, hN⟩ ?_
        clear hO hN
        rintro k0 s out1 T H ⟨hT, hO, hN⟩ h1 ho0
        obtain ⟨aC, aZ, r21⟩ := s
        replace h1 : mG cmp4 rec a1 m2 b3 bY n19 p22 aC aZ r21 = some out1 := h1
        try dsimp only at hT
        refine bC hT ?_
        clear hT
        unfold mG at h1
        refine aN ?_
        refine aU aF 3 [] [(151, (aK (decide (aZ < r21))))] ?_
        refine bK h1 (fun h1 => ?_) (fun h1 => ?_)
        · refine bO ?_
          refine bL [(0, (.msl 3 lo0p 0 (List.length aC))), (1, (eI a1)), (2, (eI m2)), (3, (eI b3)), (4, (.fn (.func cmp4_f) cmp4_a cmp4_c)), (18, (eI bY)), (19, (eI n19)), (20, (eI aZ)), (21, (eI r21)), (22, (eI p22))] ?_
          refine bT 9 ?_
          refine aN ?_
          refine aV aF 7 ?_
          obtain ⟨c15, h1⟩ := bG h1
          refine oH [0 ≤ (1 : Int)] ⟨c15, trivial⟩ ?_
          refine bS [] [(23, (eI (wR (Int.fdiv (IntKind.u64.wrap (wR (aZ + r21))) (2 ^ (min (Int.toNat (1 : Int)) 64))))))] ?_
          refine aN ?_
          refine fB (fC [169]) aF 14 ?_
          obtain ⟨c16, h1⟩ := bG h1
          refine cW 6 [0 ≤ (wR (p22 - (wR (Int.fdiv (IntKind.u64.wrap (wR (aZ + r21))) (2 ^ (min (Int.toNat (1 : Int)) 64)))))) ∧ (wR (p22 - (wR (Int.fdiv (IntKind.u64.wrap (wR (aZ + r21))) (2 ^ (min (Int.toNat (1 : Int)) 64)))))) < (lN aC)] ⟨c16, trivial⟩ ?_
          refine kO 0 lo0p 3 (0 + Int.toNat (wR (p22 - (wR (Int.fdiv (IntKind.u64.wrap (wR (aZ + r21))) (2 ^ (min (Int.toNat (1 : Int)) 64))))))) (aA (gD aC (wR (p22 - (wR (Int.fdiv (IntKind.u64.wrap (wR (aZ + r21))) (2 ^ (min (Int.toNat (1 : Int)) 64)))))))) (aA (gD aC (wR (p22 - (wR (Int.fdiv (IntKind.u64.wrap (wR (aZ + r21))) (2 ^ (min (Int.toNat (1 : Int)) 64)))))))) (List.map aA aC) hO (cD c16) ?_
          obtain ⟨c17, h1⟩ := bG h1
          refine cW 10 [0 ≤ (wR (Int.fdiv (IntKind.u64.wrap (wR (aZ + r21))) (2 ^ (min (Int.toNat (1 : Int)) 64)))) ∧ (wR (Int.fdiv (IntKind.u64.wrap (wR (aZ + r21))) (2 ^ (min (Int.toNat (1 : Int)) 64)))) < (lN aC)] ⟨c17, trivial⟩ ?_
          refine kO 0 lo0p 3 (0 + Int.toNat (wR (Int.fdiv (IntKind.u64.wrap (wR (aZ + r21))) (2 ^ (min (Int.toNat (1 : Int)) 64))))) (aA (gD aC (wR (Int.fdiv (IntKind.u64.wrap (wR (aZ + r21))) (2 ^ (min (Int.toNat (1 : Int)) 64)))))) (aA (gD aC (wR (Int.fdiv (IntKind.u64.wrap (wR (aZ + r21))) (2 ^ (min (Int.toNat (1 : Int)) 64)))))) (List.map aA aC) hO (cD c17) ?_
          obtain ⟨x18, hx19, h1⟩ := bB h1
          refine BF (cmp4_h (gD aC (wR (p22 - (wR (Int.fdiv (IntKind.u64.wrap (wR (aZ + r21))) (2 ^ (min (Int.toNat (1 : Int)) 64))))))) (gD aC (wR (Int.fdiv (IntKind.u64.wrap (wR (aZ + r21))) (2 ^ (min (Int.toNat (1 : Int)) 64))))) _ hx19) hO ?_
          intro H hO
          refine jB ?_
          refine bS [] [(171, (aK (!(decide (x18 < (0 : Int))))))] ?_
          refine bK h1 (fun h1 => ?_) (fun h1 => ?_)
          · refine aV aF 3 ?_
            refine bH ?_
            exact aH (aX (aG (⟨rfl, _, (oI h1).symm, aW, hO, hN⟩)))
          refine aV aF 2 ?_
          refine bH ?_
          exact aH (aX (aG (⟨rfl, _, (oI h1).symm, aW, hO, hN⟩)))
        refine cX 8 ?_
        obtain rfl := oI h1
        obtain rfl : _ = rr0 := ho0
        replace h0 : iG cmp4 rec aC a1 m2 b3 bY n19 aZ = some r := h0
        exact aH (aS (aS (bQ (aG (⟨rfl, _, _, aW, hO, hN, h0⟩)))))
      refine aU aF 3 [] [(140, (aK (decide ((wR (Int.fdiv (IntKind.u64.wrap (wR (a1 + b3))) (2 ^ (min (Int.toNat (1 : Int)) 64)))) < m2))))] ?_
      refine bK h0 (fun h0 => ?_) (fun h0 => ?_)
      · refine bV aF 4 [(0, (.msl 3 lo0p 0 (List.length aC))), (1, (eI a1)), (2, (eI m2)), (3, (eI b3)), (4, (.fn (.func cmp4_f) cmp4_a cmp4_c)), (18, (eI (wR (Int.fdiv (IntKind.u64.wrap (wR (a1 + b3))) (2 ^ (min (Int.toNat (1 : Int)) 64)))))), (19, (eI (wR ((wR (Int.fdiv (IntKind.u64.wrap (wR (a1 + b3))) (2 ^ (min (Int.toNat (1 : Int)) 64)))) + m2)))), (20, (eI (wR ((wR ((wR (Int.fdiv (IntKind.u64.wrap (wR (a1 + b3))) (2 ^ (min (Int.toNat (1 : Int)) 64)))) + m2)) - b3))))] ?_
        refine aV aF 2 ?_
        refine bH ?_
        exact aH (aG (⟨rfl, _, _, _, _, _, aW, hO, hN, h0⟩))
      refine bV aF 2 [(0, (.msl 3 lo0p 0 (List.length aC))), (1, (eI a1)), (2, (eI m2)), (3, (eI b3)), (4, (.fn (.func cmp4_f) cmp4_a cmp4_c)), (18, (eI (wR (Int.fdiv (IntKind.u64.wrap (wR (a1 + b3))) (2 ^ (min (Int.toNat (1 : Int)) 64)))))), (19, (eI (wR ((wR (Int.fdiv (IntKind.u64.wrap (wR (a1 + b3))) (2 ^ (min (Int.toNat (1 : Int)) 64)))) + m2)))), (20, (eI a1))] ?_
      refine aV aF 2 ?_
      refine bH ?_
      exact aH (aG (⟨rfl, _, _, _, _, _, aW, hO, hN, h0⟩))
    refine aU aF 4 [] [(80, (aK (decide ((wR (b3 - m2)) = (1 : Int)))))] ?_
    refine bK h0 (fun h0 => ?_) (fun h0 => ?_)
    · refine aU aF 2 [1, 3, 80] [(14, (eI a1))] ?_
      refine aU aF 2 [] [(15, (eI m2))] ?_
      refine cK (fun T H => ∃ aC : List aB, ∃ i14 : Int, Has T [(0, (.msl 3 lo0p 0 (List.length aC))), (2, (eI m2)), (14, (eI i14))] ∧ aL ⟨H0, [lo0p], []⟩ H [(lo0p, 3, List.map aA aC)] ∧ List.length aC = N0 ∧ iE cmp4 rec aC m2 i14 = some r) ?_ ?_
      · clear hO hN h0
        rintro T H ⟨aC, i14, hT, hO, hN, h0⟩
        refine bC hT ?_
        clear hT
        unfold iE at h0
        refine cK (fun T H => ∃ aC : List aB, Has T [(0, (.msl 3 lo0p 0 (List.length aC)))] ∧ aL ⟨H0, [lo0p], []⟩ H [(lo0p, 3, List.map aA aC)] ∧ List.length aC = N0 ∧ iH cmp4 rec aC = some r) ?_ ?_
        · clear hO hN h0
          rintro T H ⟨aC, hT, hO, hN, h0⟩
          refine bC hT ?_
          clear hT
          unfold iH at h0
          refine bM ?_
          obtain rfl := oI h0
          exact aH (aP (nU (x := (.tup [])) (by kernel_rfl) (bA.refl _) ⟨rfl, hO.ext, hO.at 0 (by kernel_rfl), by first | rfl | (simp only [List.length_map]; exact hN.trans hN0)⟩))
        refine aU aF 2 [2] [(17, (eI m2))] ?_
        refine bT 6 ?_
        refine cS [(0, (.msl 3 lo0p 0 (List.length aC))), (14, (eI i14)), (17, (eI m2))] ?_
        refine cG (fun T H => ∃ aC : List aB, ∃ k17 : Int, Has T [(0, (.msl 3 lo0p 0 (List.length aC))), (14, (eI i14)), (17, (eI k17))] ∧ aL ⟨H0, [lo0p], []⟩ H [(lo0p, 3, List.map aA aC)] ∧ List.length aC = N0 ∧ lE cmp4 rec aC i14 k17 = some r) ?_ ⟨aC, m2, aW, hO, hN, h0⟩
        clear hO hN h0
        rintro T H ⟨aC, k17, hT, hO, hN, h0⟩
        refine bC hT ?_
        clear hT
        unfold lE at h0
        obtain ⟨rr0, hl0, h0⟩ := bB h0
        refine cZ (fun (s : List aB × Int) T H => Has T [(0, (.msl 3 lo0p 0 (List.length s.1))), (14, (eI i14)), (17, (eI s.2))] ∧ aL ⟨H0, [lo0p], []⟩ H [(lo0p, 3, List.map aA s.1)] ∧ List.length s.1 = N0) hl0 ⟨aW, hO, hN⟩ ?_
        clear hO hN
        rintro k0 s out1 T H ⟨hT, hO, hN⟩ h1 ho0
        obtain ⟨aC, k17⟩ := s
        replace h1 : lH cmp4 rec i14 aC k17 = some out1 := h1
        try dsimp only at hT
        refine bC hT ?_
        clear hT
        unfold lH at h1
        refine aN ?_
        refine aU aF 3 [] [(110, (aK (decide (i14 < k17))))] ?_
        refine bK h1 (fun h1 => ?_) (fun h1 => ?_)
        · refine bO ?_
          refine bL [(0, (.msl 3 lo0p 0 (List.length aC))), (14, (eI i14)), (17, (eI k17))] ?_
          refine aN ?_
          refine bT 7 ?_
          refine fB (fC []) aF 18 ?_
          obtain ⟨c25, h1⟩ := bG h1
          refine cW 9 [0 ≤ (wR (k17 - (1 : Int))) ∧ (wR (k17 - (1 : Int))) < (lN aC)] ⟨c25, trivial⟩ ?_
          refine kO 0 lo0p 3 (0 + Int.toNat (wR (k17 - (1 : Int)))) (aA (gD aC (wR (k17 - (1 : Int))))) (aA (gD aC (wR (k17 - (1 : Int))))) (List.map aA aC) hO (cD c25) ?_
          obtain ⟨c26, h1⟩ := bG h1
          refine cW 13 [0 ≤ k17 ∧ k17 < (lN aC)] ⟨c26, trivial⟩ ?_
          refine kO 0 lo0p 3 (0 + Int.toNat k17) (aA (gD aC k17)) (aA (gD aC k17)) (List.map aA aC) hO (cD c26) ?_
          obtain ⟨c27, h1⟩ := bG h1
          refine cW 15 [0 ≤ k17 ∧ k17 < (lN aC)] ⟨c27, trivial⟩ ?_
          refine wJ 0 lo0p 3 (0 + Int.toNat k17) (aA (gD aC k17)) (aA (gD aC (wR (k17 - (1 : Int))))) (List.map aA aC) [(lo0p, 3, List.map aA (List.set aC (Int.toNat k17) (gD aC (wR (k17 - (1 : Int))))))] hO (cD c27) (by simp only [List.set, mA]) ?_
          intro H hO
          replace hN : List.length (List.set aC (Int.toNat k17) (gD aC (wR (k17 - (1 : Int))))) = N0 := by simpa using hN
          obtain ⟨c28, h1⟩ := bG h1
          refine cW 17 [0 ≤ (wR (k17 - (1 : Int))) ∧ (wR (k17 - (1 : Int))) < (lN aC)] ⟨c28, trivial⟩ ?_
          refine wJ 0 lo0p 3 (0 + Int.toNat (wR (k17 - (1 : Int)))) (aA (gD (List.set aC (Int.toNat k17) (gD aC (wR (k17 - (1 : Int))))) (wR (k17 - (1 : Int))))) (aA (gD aC k17)) (List.map aA (List.set aC (Int.toNat k17) (gD aC (wR (k17 - (1 : Int)))))) [(lo0p, 3, List.map aA (List.set (List.set aC (Int.toNat k17) (gD aC (wR (k17 - (1 : Int))))) (Int.toNat (wR (k17 - (1 : Int)))) (gD aC k17)))] hO (AE c28 (by simp [])) (by simp only [List.set, mA]) ?_
          intro H hO
          replace hN : List.length (List.set (List.set aC (Int.toNat k17) (gD aC (wR (k17 - (1 : Int))))) (Int.toNat (wR (k17 - (1 : Int)))) (gD aC k17)) = N0 := by simpa using hN
          refine CS (by kernel_rfl) ?_
          refine cV (l := [(0, (.msl 3 lo0p 0 (List.length (List.set (List.set aC (Int.toNat k17) (gD aC (wR (k17 - (1 : Int))))) (Int.toNat (wR (k17 - (1 : Int)))) (gD aC k17))))), (14, (eI i14)), (17, (eI k17))]) ⟨[(0, (.msl 3 lo0p 0 (List.length aC))), (14, (eI i14)), (17, (eI k17))], by kernel_rfl, rfl, ⟨bA.eq (by simp []), bA.refl _, bA.refl _, trivial⟩⟩ ?_
          refine aH (aX (aG (?_)))
          refine aV aF 3 ?_
          refine bH ?_
          exact aH (aG (⟨rfl, _, (oI h1).symm, aW, hO, hN⟩))
        refine cX 6 ?_
        obtain rfl := oI h1
        obtain rfl : _ = rr0 := ho0
        replace h0 : iH cmp4 rec aC = some r := h0
        exact aH (aS (aS (bQ (aG (⟨rfl, _, aW, hO, hN, h0⟩)))))
      refine bT 4 ?_
      refine cS [(0, (.msl 3 lo0p 0 (List.length aC))), (2, (eI m2)), (4, (.fn (.func cmp4_f) cmp4_a cmp4_c)), (14, (eI a1)), (15, (eI m2))] ?_
      refine cG (fun T H => ∃ aC : List aB, ∃ i14 : Int, ∃ j15 : Int, Has T [(0, (.msl 3 lo0p 0 (List.length aC))), (2, (eI m2)), (4, (.fn (.func cmp4_f) cmp4_a cmp4_c)), (14, (eI i14)), (15, (eI j15))] ∧ aL ⟨H0, [lo0p], []⟩ H [(lo0p, 3, List.map aA aC)] ∧ List.length aC = N0 ∧ lF cmp4 rec aC m2 i14 j15 = some r) ?_ ⟨aC, a1, m2, aW, hO, hN, h0⟩
      clear hO hN h0
      rintro T H ⟨aC, i14, j15, hT, hO, hN, h0⟩
      refine bC hT ?_
      clear hT
      unfold lF at h0
      obtain ⟨rr0, hl0, h0⟩ := bB h0
      refine cZ (fun (s : List aB × Int × Int) T H => Has T [(0, (.msl 3 lo0p 0 (List.length s.1))), (2, (eI m2)), (4, (.fn (.func cmp4_f) cmp4_a cmp4_c)), (14, (eI s.2.1)), (15, (eI s.2.2))] ∧ aL ⟨H0, [lo0p], []⟩ H [(lo0p, 3, List.map aA s.1)] ∧ List.length s.1 = N0) hl0 ⟨aW, hO, hN⟩ ?_
      clear hO hN
      rintro k0 s out1 T H ⟨hT, hO, hN⟩ h1 ho0
      obtain ⟨aC, i14, j15⟩ := s
      replace h1 : lJ cmp4 rec m2 aC i14 j15 = some out1 := h1
      try dsimp only at hT
      refine bC hT ?_
      clear hT
      unfold lJ at h1
      refine aN ?_
      refine aU aF 3 [] [(85, (aK (decide (i14 < j15))))] ?_
      refine bK h1 (fun h1 => ?_) (fun h1 => ?_)
      · refine bO ?_
        refine bL [(0, (.msl 3 lo0p 0 (List.length aC))), (2, (eI m2)), (4, (.fn (.func cmp4_f) cmp4_a cmp4_c)), (14, (eI i14)), (15, (eI j15))] ?_
        refine bT 5 ?_
        refine aN ?_
        refine aV aF 7 ?_
        obtain ⟨c30, h1⟩ := bG h1
        refine oH [0 ≤ (1 : Int)] ⟨c30, trivial⟩ ?_
        refine bS [] [(16, (eI (wR (Int.fdiv (IntKind.u64.wrap (wR (i14 + j15))) (2 ^ (min (Int.toNat (1 : Int)) 64))))))] ?_
        refine aN ?_
        refine fB (fC [101]) aF 12 ?_
        obtain ⟨c31, h1⟩ := bG h1
        refine cW 4 [0 ≤ m2 ∧ m2 < (lN aC)] ⟨c31, trivial⟩ ?_
        refine kO 0 lo0p 3 (0 + Int.toNat m2) (aA (gD aC m2)) (aA (gD aC m2)) (List.map aA aC) hO (cD c31) ?_
        obtain ⟨c32, h1⟩ := bG h1
        refine cW 8 [0 ≤ (wR (Int.fdiv (IntKind.u64.wrap (wR (i14 + j15))) (2 ^ (min (Int.toNat (1 : Int)) 64)))) ∧ (wR (Int.fdiv (IntKind.u64.wrap (wR (i14 + j15))) (2 ^ (min (Int.toNat (1 : Int)) 64)))) < (lN aC)] ⟨c32, trivial⟩ ?_
        refine kO 0 lo0p 3 (0 + Int.toNat (wR (Int.fdiv (IntKind.u64.wrap (wR (i14 + j15))) (2 ^ (min (Int.toNat (1 : Int)) 64))))) (aA (gD aC (wR (Int.fdiv (IntKind.u64.wrap (wR (i14 + j15))) (2 ^ (min (Int.toNat (1 : Int)) 64)))))) (aA (gD aC (wR (Int.fdiv (IntKind.u64.wrap (wR (i14 + j15))) (2 ^ (min (Int.toNat (1 : Int)) 64)))))) (List.map aA aC) hO (cD c32) ?_
        obtain ⟨x33, hx34, h1⟩ := bB h1
        refine BF (cmp4_h (gD aC m2) (gD aC (wR (Int.fdiv (IntKind.u64.wrap (wR (i14 + j15))) (2 ^ (min (Int.toNat (1 : Int)) 64))))) _ hx34) hO ?_
        intro H hO
        refine jB ?_
        refine bS [] [(103, (aK (!(decide (x33 < (0 : Int))))))] ?_
        refine bK h1 (fun h1 => ?_) (fun h1 => ?_)
        · refine aV aF 3 ?_
          refine bH ?_
          exact aH (aX (aG (⟨rfl, _, (oI h1).symm, aW, hO, hN⟩)))
        refine aV aF 2 ?_
        refine bH ?_
        exact aH (aX (aG (⟨rfl, _, (oI h1).symm, aW, hO, hN⟩)))
      refine cX 4 ?_
      obtain rfl := oI h1
      obtain rfl : _ = rr0 := ho0
      replace h0 : iE cmp4 rec aC m2 i14 = some r := h0
      exact aH (aS (aS (bQ (aG (⟨rfl, _, _, aW, hO, hN, h0⟩)))))
    refine bO ?_
    exact aH (aG (⟨rfl, _, aW, hO, hN, h0⟩))
  refine aU aF 4 [] [(28, (aK (decide ((wR (m2 - a1)) = (1 : Int)))))] ?_
  refine bK h0 (fun h0 => ?_) (fun h0 => ?_)
  · refine aU aF 2 [2, 28] [(10, (eI m2))] ?_
    refine aU aF 2 [3] [(11, (eI b3))] ?_
    refine cK (fun T H => ∃ aC : List aB, ∃ i10 : Int, Has T [(0, (.msl 3 lo0p 0 (List.length aC))), (1, (eI a1)), (10, (eI i10))] ∧ aL ⟨H0, [lo0p], []⟩ H [(lo0p, 3, List.map aA aC)] ∧ List.length aC = N0 ∧ gZ cmp4 rec aC a1 i10 = some r) ?_ ?_
    · clear hO hN h0
      rintro T H ⟨aC, i10, hT, hO, hN, h0⟩
      refine bC hT ?_
      clear hT
      unfold gZ at h0
      refine cK (fun T H => ∃ aC : List aB, Has T [(0, (.msl 3 lo0p 0 (List.length aC)))] ∧ aL ⟨H0, [lo0p], []⟩ H [(lo0p, 3, List.map aA aC)] ∧ List.length aC = N0 ∧ iA cmp4 rec aC = some r) ?_ ?_
      · clear hO hN h0
        rintro T H ⟨aC, hT, hO, hN, h0⟩
        refine bC hT ?_
        clear hT
        unfold iA at h0
        refine bM ?_
        obtain rfl := oI h0
        exact aH (aP (nU (x := (.tup [])) (by kernel_rfl) (bA.refl _) ⟨rfl, hO.ext, hO.at 0 (by kernel_rfl), by first | rfl | (simp only [List.length_map]; exact hN.trans hN0)⟩))
      refine aU aF 2 [1] [(13, (eI a1))] ?_
      refine bT 2 ?_
      refine cS [(0, (.msl 3 lo0p 0 (List.length aC))), (10, (eI i10)), (13, (eI a1))] ?_
      refine cG (fun T H => ∃ aC : List aB, ∃ k13 : Int, Has T [(0, (.msl 3 lo0p 0 (List.length aC))), (10, (eI i10)), (13, (eI k13))] ∧ aL ⟨H0, [lo0p], []⟩ H [(lo0p, 3, List.map aA aC)] ∧ List.length aC = N0 ∧ kZ cmp4 rec aC i10 k13 = some r) ?_ ⟨aC, a1, aW, hO, hN, h0⟩
      clear hO hN h0
      rintro T H ⟨aC, k13, hT, hO, hN, h0⟩
      refine bC hT ?_
      clear hT
      unfold kZ at h0
      obtain ⟨rr0, hl0, h0⟩ := bB h0
      refine cZ (fun (s : List aB × Int) T H => Has T [(0, (.msl 3 lo0p 0 (List.length s.1))), (10, (eI i10)), (13, (eI s.2))] ∧ aL ⟨H0, [lo0p], []⟩ H [(lo0p, 3, List.map aA s.1)] ∧ List.length s.1 = N0) hl0 ⟨aW, hO, hN⟩ ?_
      clear hO hN
      rintro k0 s out1 T H ⟨hT, hO, hN⟩ h1 ho0
      obtain ⟨aC, k13⟩ := s
      replace h1 : lK cmp4 rec i10 aC k13 = some out1 := h1
      try dsimp only at hT
      refine bC hT ?_
      clear hT
      unfold lK at h1
      refine aN ?_
      refine aU aF 4 [] [(58, (aK (decide (k13 < (wR (i10 - (1 : Int)))))))] ?_
      refine bK h1 (fun h1 => ?_) (fun h1 => ?_)
      · refine bO ?_
        refine bL [(0, (.msl 3 lo0p 0 (List.length aC))), (10, (eI i10)), (13, (eI k13))] ?_
        refine aN ?_
        refine bT 3 ?_
        refine fB (fC []) aF 18 ?_
        obtain ⟨c39, h1⟩ := bG h1
        refine cW 9 [0 ≤ (wR (k13 + (1 : Int))) ∧ (wR (k13 + (1 : Int))) < (lN aC)] ⟨c39, trivial⟩ ?_
        refine kO 0 lo0p 3 (0 + Int.toNat (wR (k13 + (1 : Int)))) (aA (gD aC (wR (k13 + (1 : Int))))) (aA (gD aC (wR (k13 + (1 : Int))))) (List.map aA aC) hO (cD c39) ?_
        obtain ⟨c40, h1⟩ := bG h1
        refine cW 13 [0 ≤ k13 ∧ k13 < (lN aC)] ⟨c40, trivial⟩ ?_
        refine kO 0 lo0p 3 (0 + Int.toNat k13) (aA (gD aC k13)) (aA (gD aC k13)) (List.map aA aC) hO (cD c40) ?_
        obtain ⟨c41, h1⟩ := bG h1
        refine cW 15 [0 ≤ k13 ∧ k13 < (lN aC)] ⟨c41, trivial⟩ ?_
        refine wJ 0 lo0p 3 (0 + Int.toNat k13) (aA (gD aC k13)) (aA (gD aC (wR (k13 + (1 : Int))))) (List.map aA aC) [(lo0p, 3, List.map aA (List.set aC (Int.toNat k13) (gD aC (wR (k13 + (1 : Int))))))] hO (cD c41) (by simp only [List.set, mA]) ?_
        intro H hO
        replace hN : List.length (List.set aC (Int.toNat k13) (gD aC (wR (k13 + (1 : Int))))) = N0 := by simpa using hN
        obtain ⟨c42, h1⟩ := bG h1
        refine cW 17 [0 ≤ (wR (k13 + (1 : Int))) ∧ (wR (k13 + (1 : Int))) < (lN aC)] ⟨c42, trivial⟩ ?_
        refine wJ 0 lo0p 3 (0 + Int.toNat (wR (k13 + (1 : Int)))) (aA (gD (List.set aC (Int.toNat k13) (gD aC (wR (k13 + (1 : Int))))) (wR (k13 + (1 : Int))))) (aA (gD aC k13)) (List.map aA (List.set aC (Int.toNat k13) (gD aC (wR (k13 + (1 : Int)))))) [(lo0p, 3, List.map aA (List.set (List.set aC (Int.toNat k13) (gD aC (wR (k13 + (1 : Int))))) (Int.toNat (wR (k13 + (1 : Int)))) (gD aC k13)))] hO (AE c42 (by simp [])) (by simp only [List.set, mA]) ?_
        intro H hO
        replace hN : List.length (List.set (List.set aC (Int.toNat k13) (gD aC (wR (k13 + (1 : Int))))) (Int.toNat (wR (k13 + (1 : Int)))) (gD aC k13)) = N0 := by simpa using hN
        refine CS (by kernel_rfl) ?_
        refine cV (l := [(0, (.msl 3 lo0p 0 (List.length (List.set (List.set aC (Int.toNat k13) (gD aC (wR (k13 + (1 : Int))))) (Int.toNat (wR (k13 + (1 : Int)))) (gD aC k13))))), (10, (eI i10)), (13, (eI k13))]) ⟨[(0, (.msl 3 lo0p 0 (List.length aC))), (10, (eI i10)), (13, (eI k13))], by kernel_rfl, rfl, ⟨bA.eq (by simp []), bA.refl _, bA.refl _, trivial⟩⟩ ?_
        refine aH (aX (aG (?_)))
        refine aV aF 3 ?_
        refine bH ?_
        exact aH (aG (⟨rfl, _, (oI h1).symm, aW, hO, hN⟩))
      refine cX 2 ?_
      obtain rfl := oI h1
      obtain rfl : _ = rr0 := ho0
      replace h0 : iA cmp4 rec aC = some r := h0
      exact aH (aS (aS (bQ (aG (⟨rfl, _, aW, hO, hN, h0⟩)))))
    refine bT 0 ?_
    refine cS [(0, (.msl 3 lo0p 0 (List.length aC))), (1, (eI a1)), (4, (.fn (.func cmp4_f) cmp4_a cmp4_c)), (10, (eI m2)), (11, (eI b3))] ?_
    refine cG (fun T H => ∃ aC : List aB, ∃ i10 : Int, ∃ j11 : Int, Has T [(0, (.msl 3 lo0p 0 (List.length aC))), (1, (eI a1)), (4, (.fn (.func cmp4_f) cmp4_a cmp4_c)), (10, (eI i10)), (11, (eI j11))] ∧ aL ⟨H0, [lo0p], []⟩ H [(lo0p, 3, List.map aA aC)] ∧ List.length aC = N0 ∧ lW cmp4 rec aC a1 i10 j11 = some r) ?_ ⟨aC, m2, b3, aW, hO, hN, h0⟩
    clear hO hN h0
    rintro T H ⟨aC, i10, j11, hT, hO, hN, h0⟩
    refine bC hT ?_
    clear hT
    unfold lW at h0
    obtain ⟨rr0, hl0, h0⟩ := bB h0
    refine cZ (fun (s : List aB × Int × Int) T H => Has T [(0, (.msl 3 lo0p 0 (List.length s.1))), (1, (eI a1)), (4, (.fn (.func cmp4_f) cmp4_a cmp4_c)), (10, (eI s.2.1)), (11, (eI s.2.2))] ∧ aL ⟨H0, [lo0p], []⟩ H [(lo0p, 3, List.map aA s.1)] ∧ List.length s.1 = N0) hl0 ⟨aW, hO, hN⟩ ?_
    clear hO hN
    rintro k0 s out1 T H ⟨hT, hO, hN⟩ h1 ho0
    obtain ⟨aC, i10, j11⟩ := s
    replace h1 : lB cmp4 rec a1 aC i10 j11 = some out1 := h1
    try dsimp only at hT
    refine bC hT ?_
    clear hT
    unfold lB at h1
    refine aN ?_
    refine aU aF 3 [] [(33, (aK (decide (i10 < j11))))] ?_
    refine bK h1 (fun h1 => ?_) (fun h1 => ?_)
    · refine bO ?_
      refine bL [(0, (.msl 3 lo0p 0 (List.length aC))), (1, (eI a1)), (4, (.fn (.func cmp4_f) cmp4_a cmp4_c)), (10, (eI i10)), (11, (eI j11))] ?_
      refine bT 1 ?_
      refine aN ?_
      refine aV aF 7 ?_
      obtain ⟨c44, h1⟩ := bG h1
      refine oH [0 ≤ (1 : Int)] ⟨c44, trivial⟩ ?_
      refine bS [] [(12, (eI (wR (Int.fdiv (IntKind.u64.wrap (wR (i10 + j11))) (2 ^ (min (Int.toNat (1 : Int)) 64))))))] ?_
      refine aN ?_
      refine fB (fC [49]) aF 11 ?_
      obtain ⟨c45, h1⟩ := bG h1
      refine cW 4 [0 ≤ (wR (Int.fdiv (IntKind.u64.wrap (wR (i10 + j11))) (2 ^ (min (Int.toNat (1 : Int)) 64)))) ∧ (wR (Int.fdiv (IntKind.u64.wrap (wR (i10 + j11))) (2 ^ (min (Int.toNat (1 : Int)) 64)))) < (lN aC)] ⟨c45, trivial⟩ ?_
      refine kO 0 lo0p 3 (0 + Int.toNat (wR (Int.fdiv (IntKind.u64.wrap (wR (i10 + j11))) (2 ^ (min (Int.toNat (1 : Int)) 64))))) (aA (gD aC (wR (Int.fdiv (IntKind.u64.wrap (wR (i10 + j11))) (2 ^ (min (Int.toNat (1 : Int)) 64)))))) (aA (gD aC (wR (Int.fdiv (IntKind.u64.wrap (wR (i10 + j11))) (2 ^ (min (Int.toNat (1 : Int)) 64)))))) (List.map aA aC) hO (cD c45) ?_
      obtain ⟨c46, h1⟩ := bG h1
      refine cW 8 [0 ≤ a1 ∧ a1 < (lN aC)] ⟨c46, trivial⟩ ?_
      refine kO 0 lo0p 3 (0 + Int.toNat a1) (aA (gD aC a1)) (aA (gD aC a1)) (List.map aA aC) hO (cD c46) ?_
      obtain ⟨x47, hx48, h1⟩ := bB h1
      refine BF (cmp4_h (gD aC (wR (Int.fdiv (IntKind.u64.wrap (wR (i10 + j11))) (2 ^ (min (Int.toNat (1 : Int)) 64))))) (gD aC a1) _ hx48) hO ?_
      intro H hO
      refine jB ?_
      refine bS [] [(50, (aK (decide (x47 < (0 : Int)))))] ?_
      refine bK h1 (fun h1 => ?_) (fun h1 => ?_)
      · refine aV aF 3 ?_
        refine bH ?_
        exact aH (aX (aG (⟨rfl, _, (oI h1).symm, aW, hO, hN⟩)))
      refine aV aF 2 ?_
      refine bH ?_
      exact aH (aX (aG (⟨rfl, _, (oI h1).symm, aW, hO, hN⟩)))
    refine cX 0 ?_
    obtain rfl := oI h1
    obtain rfl : _ = rr0 := ho0
    replace h0 : gZ cmp4 rec aC a1 i10 = some r := h0
    exact aH (aS (aS (bQ (aG (⟨rfl, _, _, aW, hO, hN, h0⟩)))))
  refine bO ?_
  exact aH (aG (⟨rfl, _, aW, hO, hN, h0⟩))

theorem qM (cmp4_f : Nat) (cmp4_a cmp4_c : List V) (cmp4 : aB → aB → Option Int) (cmp4_h : ∀ a0 a1 r, cmp4 a0 a1 = some r → cE Try.prog cmp4_f (cmp4_a ++ [(aA a0), (aA a1)] ++ cmp4_c) (eI r)) : ∀ (k : Nat) (lo0p : Nat) (aC : (List aB)) (a1 : Int) (m2 : Int) (b3 : Int) (r : List aB), iT cmp4 k aC a1 m2 b3 = some r → nT Try.prog 80 lo0p 3 (List.map aA aC) (List.map aA r) [(.msl 3 lo0p 0 (List.length aC)), (eI a1), (eI m2), (eI b3), (.fn (.func cmp4_f) cmp4_a cmp4_c)] (.tup [])
  | 0, _, _, _, _, _, _, h => by cases h
  | k + 1, lo0p, aC, a1, m2, b3, r, h => wG cmp4_f cmp4_a cmp4_c cmp4 cmp4_h _ (qM cmp4_f cmp4_a cmp4_c cmp4 cmp4_h k) lo0p aC a1 m2 b3 r h

theorem rI (lo0p : Nat) (aC : (List aB)) (a1 : Int) (m2 : Int) (b3 : Int) (cmp4_f : Nat) (cmp4_a cmp4_c : List V) (cmp4 : aB → aB → Option Int) (cmp4_h : ∀ a0 a1 r, cmp4 a0 a1 = some r → cE Try.prog cmp4_f (cmp4_a ++ [(aA a0), (aA a1)] ++ cmp4_c) (eI r)) (r : List aB) (h0 : fI aC a1 m2 b3 cmp4 = some r) : nT Try.prog 80 lo0p 3 (List.map aA aC) (List.map aA r) [(.msl 3 lo0p 0 (List.length aC)), (eI a1), (eI m2), (eI b3), (.fn (.func cmp4_f) cmp4_a cmp4_c)] (.tup []) := by
  obtain ⟨k, hk⟩ := JG h0
  exact qM cmp4_f cmp4_a cmp4_c cmp4 cmp4_h k lo0p aC a1 m2 b3 r hk

end Go.Abs
