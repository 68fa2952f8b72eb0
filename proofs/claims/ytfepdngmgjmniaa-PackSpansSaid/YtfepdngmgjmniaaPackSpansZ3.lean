/- What the law PackSpans stands on: the framework, the given functions as plain functions, their walks, and the plain laws; part 3. -/
import Derived.Test.YtfepdngmgjmniaaPackSpansZ2
set_option linter.unusedSimpArgs false
set_option linter.unusedVariables false
namespace Go.Abs
open Go
noncomputable def oT (tV : (List aB) → Option Bool) (kA : (List aD)) (t4 : Bool) (nZ : (List aI)) (iW : Bool) (t14 : (List aI)) (t15 : (List aB)) : Option ((Bool × (List aI) × Bool) ⊕ (Bool × (List aI) × Bool)) :=
  (pU t14).bind fun x7 =>
  (dF (iW && (!(!x7))) (pF nZ t14)).bind fun x12 =>
  (dF (!((!x7) || (iW && (decide ((0 : Int) ≤ x12))))) (tV t15)).bind fun x15 =>
  cond (((!x7) || (iW && (decide ((0 : Int) ≤ x12)))) || (!x15))
  (some (.inr (false, nZ, iW)))
  (some (.inl (t4, t14, true)))

noncomputable def xC (tV : (List aB) → Option Bool) (t4 : Bool) (nZ : (List aI)) (iW : Bool) (kA : (List aD)) : Option Bool :=
  (mH (fun st t14 t15 => rnd (fun (s : Bool × (List aI) × Bool) => oT tV kA s.1 s.2.1 s.2.2 t14 t15) st) kA (.inl (t4, nZ, iW))).bind (Sum.elim (fun (s : Bool × (List aI) × Bool) =>
  (some true))
  (fun (s : Bool × (List aI) × Bool) =>
  (some s.1)))

noncomputable def sK (l0 : (List aD)) (tV : (List aB) → Option Bool) : Option Bool :=
  cond (decide ((4096 : Int) < ((List.length l0 : Nat) : Int)))
  (some false)
  ((oK l0).bind fun x5 =>
  xC tV false ([]) false x5)

noncomputable def uB (l0 : (List aD)) : Option Bool :=
  (sK l0 (fun y0 => nL y0)).bind fun x1 =>
  some x1

noncomputable def rY (fD : Int) : Option Int :=
  some fD

noncomputable def mS (t24 : (List aB)) (t25 : Int) (v3 : Int) (fD : Int) (t26 : Int) : Option ((Int × Int × Int) ⊕ (Int)) :=
  cond (decide (t26 < t25))
  (bL (0 ≤ t26 ∧ t26 < ((List.length t24 : Nat) : Int)) <|
  some (.inl (IntKind.i64.wrap (v3 + ((List.getD t24 (Int.toNat t26) default).Net)), if (IntKind.i64.wrap (v3 + ((List.getD t24 (Int.toNat t26) default).Net))) < fD then (IntKind.i64.wrap (v3 + ((List.getD t24 (Int.toNat t26) default).Net))) else fD, IntKind.i64.wrap (t26 + (1 : Int)))))
  (some (.inr fD))

noncomputable def rN (v3 : Int) (fD : Int) (t24 : (List aB)) (t25 : Int) (t26 : Int) : Option Int :=
  (lp (fun s => mS t24 t25 s.1 s.2.1 s.2.2) (v3, fD, t26)).bind (fun rr => rY rr)

noncomputable def pI (f0 : (List aB)) (v3 : Int) (fD : Int) : Option Int :=
  rN v3 fD f0 ((List.length f0 : Nat) : Int) (0 : Int)

noncomputable def qD (f0 : (List aB)) : Option Int :=
  (nL f0).bind fun x1 =>
  cond ((!x1) || (decide (((List.length f0 : Nat) : Int) = (0 : Int))))
  (some (0 : Int))
  (bL (0 ≤ (0 : Int) ∧ (0 : Int) < ((List.length f0 : Nat) : Int)) <|
  cond (decide (((List.getD f0 (Int.toNat (0 : Int)) default).At) = (-1 : Int)))
  (bL (0 ≤ (0 : Int) ∧ (0 : Int) < ((List.length f0 : Nat) : Int)) <|
  pI f0 (0 : Int) ((List.getD f0 (Int.toNat (0 : Int)) default).Net))
  (pI f0 (0 : Int) (0 : Int)))

noncomputable def qE (f0 : (List aB)) : Option Bool :=
  (nL f0).bind fun x1 =>
  (dF x1 (qD f0)).bind fun x4 =>
  some (x1 && (decide ((0 : Int) ≤ x4)))

noncomputable def tO (l0 : (List aD)) : Option Bool :=
  (sK l0 (fun y0 => qE y0)).bind fun x1 =>
  some x1

noncomputable def pG (l0 : (List aD)) : Option ((List aD)) :=
  some l0

noncomputable def jH {σ : Type} (eJ : σ → (List aI) → (List aB) → Option (σ × Bool)) (t9c0 : (List aD)) (sg : σ) (t10 : (List aI)) (t11 : (List aB)) : Option ((σ) ⊕ (σ)) :=
  (eJ sg t10 t11).bind fun x7 =>
  cond (!x7.2)
  (some (.inr x7.1))
  (some (.inl x7.1))

noncomputable def pO {σ : Type} (eJ : σ → (List aI) → (List aB) → Option (σ × Bool)) (sg : σ) (t9c0 : (List aD)) : Option σ :=
  (mH (fun st t10 t11 => rnd (fun (s : σ) => jH eJ t9c0 s t10 t11) st) t9c0 (.inl sg)).bind (Sum.elim (fun (s : σ) =>
  (some s))
  (fun (s : σ) =>
  (some s)))

noncomputable def mK {σ : Type} (eJ : σ → (List aI) → (List aB) → Option (σ × Bool)) (t1 : (List aD)) (sg0 : σ) : Option σ :=
  (uB t1).bind fun x1 =>
  cond (!x1)
  (some sg0)
  ((oK t1).bind fun x5 =>
  pO eJ sg0 x5)

noncomputable def tQ (n3 : Int) : Option Int :=
  some n3

noncomputable def nM (t6 : (List aB)) (t7 : Int) (n3 : Int) (t8 : Int) : Option ((Int × Int) ⊕ (Int)) :=
  cond (decide (t8 < t7))
  (bL (0 ≤ t8 ∧ t8 < ((List.length t6 : Nat) : Int)) <|
  some (.inl (IntKind.i64.wrap (n3 + (if (0 : Int) > ((List.getD t6 (Int.toNat t8) default).Net) then (0 : Int) else ((List.getD t6 (Int.toNat t8) default).Net))), IntKind.i64.wrap (t8 + (1 : Int)))))
  (some (.inr n3))

noncomputable def wQ (n3 : Int) (t6 : (List aB)) (t7 : Int) (t8 : Int) : Option Int :=
  (lp (fun s => nM t6 t7 s.1 s.2) (n3, t8)).bind (fun rr => tQ rr)

noncomputable def oF (f0 : (List aB)) : Option Int :=
  wQ (0 : Int) f0 ((List.length f0 : Nat) : Int) (0 : Int)

noncomputable def lP (t0 : Int) (t1 : (List aQ)) (t2 : Int) : Option ((List aQ) × Int) :=
  bL (0 ≤ t2 ∧ t2 < ((List.length t1 : Nat) : Int)) <|
  some (List.set t1 (Int.toNat t2) (aQ.mk (List.getD t1 (Int.toNat t2) default).From t0), IntKind.i64.wrap (t2 + (1 : Int)))

noncomputable def vL (out3 : List aQ) : Option (List aQ) :=
  some out3

noncomputable def lG  (out3 : List aQ) (cC : Int) : Option ((List aQ × Int) ⊕ ((List aQ))) :=
  cond (decide (cC < ((List.length out3 : Nat) : Int)))
  ((lP (1125899906842624 : Int) out3 cC).bind fun x14 =>
  some (.inl (x14.1, x14.2)))
  (some (.inr out3))

noncomputable def vQ (out3 : List aQ) (cC : Int) : Option (List aQ) :=
  (lp (fun s => lG s.1 s.2) (out3, cC)).bind (fun rr => vL rr)

noncomputable def rV (out3 : List aQ) (cC : Int) : Option (List aQ) :=
  vQ out3 cC

noncomputable def sD (out3 : List aQ) (cC : Int) (t12 : (List aB)) (t13 : Int) (t14 : Int) : Option ((List aQ × Int × Int) ⊕ ((List aQ × Int))) :=
  some (.inl (out3, cC, IntKind.i64.wrap (t14 + (1 : Int))))

noncomputable def lH (t12 : (List aB)) (t13 : Int) (t14 : Int) (t31 : Int) (out3 : List aQ) (cC : Int) (j7 : aB) (t32 : Int) : Option ((List aQ × Int × aB × Int) ⊕ ((List aQ × Int))) :=
  cond (decide (t32 < t31))
  ((lP j7.At out3 cC).bind fun x30 =>
  some (.inl (x30.1, x30.2, j7, IntKind.i64.wrap (t32 + (1 : Int)))))
  (some (.inr (out3, cC)))

noncomputable def vJ (out3 : List aQ) (cC : Int) (j7 : aB) (t12 : (List aB)) (t13 : Int) (t14 : Int) (t31 : Int) (t32 : Int) : Option ((List aQ × Int × Int) ⊕ ((List aQ × Int))) :=
  (lp (fun s => lH t12 t13 t14 t31 s.1 s.2.1 s.2.2.1 s.2.2.2) (out3, cC, j7, t32)).bind (fun rr => sD rr.1 rr.2 t12 t13 t14)

noncomputable def rO (out3 : List aQ) (cC : Int) (j7 : aB) (t12 : (List aB)) (t13 : Int) (t14 : Int) : Option ((List aQ × Int × Int) ⊕ ((List aQ × Int))) :=
  vJ out3 cC j7 t12 t13 t14 (IntKind.i64.wrap (0 - j7.Net)) (0 : Int)

noncomputable def lF (t12 : (List aB)) (t13 : Int) (t14 : Int) (t19 : Int) (out3 : List aQ) (cC : Int) (j7 : aB) (t20 : Int) : Option ((List aQ × Int × aB × Int) ⊕ ((List aQ × Int × aB))) :=
  cond (decide (t20 < t19))
  (bL ((List.length out3 + List.length ([aQ.mk j7.At 0])) * 16 ≤ 140737488355328 ∧ List.length out3 + List.length ([aQ.mk j7.At 0]) ≤ 9223372036854775807) <|
  some (.inl (out3 ++ ([aQ.mk j7.At 0]), cC, j7, IntKind.i64.wrap (t20 + (1 : Int)))))
  (some (.inr (out3, cC, j7)))

noncomputable def vT (out3 : List aQ) (cC : Int) (j7 : aB) (t12 : (List aB)) (t13 : Int) (t14 : Int) (t19 : Int) (t20 : Int) : Option ((List aQ × Int × Int) ⊕ ((List aQ × Int))) :=
  (lp (fun s => lF t12 t13 t14 t19 s.1 s.2.1 s.2.2.1 s.2.2.2) (out3, cC, j7, t20)).bind (fun rr => rO rr.1 rr.2.1 rr.2.2 t12 t13 t14)

noncomputable def mO (t12 : (List aB)) (t13 : Int) (out3 : List aQ) (cC : Int) (t14 : Int) : Option ((List aQ × Int × Int) ⊕ ((List aQ × Int))) :=
  cond (decide (t14 < t13))
  (bL (0 ≤ t14 ∧ t14 < ((List.length t12 : Nat) : Int)) <|
  vT out3 cC (List.getD t12 (Int.toNat t14) default) t12 t13 t14 ((List.getD t12 (Int.toNat t14) default).Net) (0 : Int))
  (some (.inr (out3, cC)))

noncomputable def vK (out3 : List aQ) (cC : Int) (t12 : (List aB)) (t13 : Int) (t14 : Int) : Option (List aQ) :=
  (lp (fun s => mO t12 t13 s.1 s.2.1 s.2.2) (out3, cC, t14)).bind (fun rr => rV rr.1 rr.2)

noncomputable def qL (f0 : (List aB)) : Option (List aQ) :=
  (oF f0).bind fun x1 =>
  bL (0 ≤ x1 ∧ (16 : Int) * x1 ≤ 281474976710656 ∧ x1 ≤ 9223372036854775807) <|
  vK ([] : List aQ) (0 : Int) f0 ((List.length f0 : Nat) : Int) (0 : Int)

noncomputable def nG (l0 : (List aD)) (uK : (List aD)) (n4 : Int) (t22 : (List aI)) (t23 : (List aB)) : Option ((Int) ⊕ (Int)) :=
  (oF t23).bind fun x12 =>
  some (.inl (IntKind.i64.wrap (n4 + x12)))

noncomputable def lR (r8 : (List aI)) (t37 : (List aQ)) (t38 : Int) (out7 : List aR) (t39 : Int) : Option ((List aR × Int) ⊕ ((List aR))) :=
  cond (decide (t39 < t38))
  (bL (0 ≤ t39 ∧ t39 < ((List.length t37 : Nat) : Int)) <|
  (rD r8).bind fun x31 =>
  bL ((List.length out7 + List.length ([aR.mk x31 (List.getD t37 (Int.toNat t39) default)])) * 40 ≤ 140737488355328 ∧ List.length out7 + List.length ([aR.mk x31 (List.getD t37 (Int.toNat t39) default)]) ≤ 9223372036854775807) <|
  some (.inl (out7 ++ ([aR.mk x31 (List.getD t37 (Int.toNat t39) default)]), IntKind.i64.wrap (t39 + (1 : Int)))))
  (some (.inr out7))

noncomputable def qM (out7 : List aR) (r8 : (List aI)) (t37 : (List aQ)) (t38 : Int) (t39 : Int) : Option ((List aR) ⊕ (List aR)) :=
  (lp (fun s => lR r8 t37 t38 s.1 s.2) (out7, t39)).bind (fun rr => some (.inl rr))

noncomputable def nD (uD : (List aD)) (out7 : List aR) (t34 : (List aI)) (t35 : (List aB)) : Option ((List aR) ⊕ (List aR)) :=
  (qL t35).bind fun x23 =>
  qM out7 t34 x23 ((List.length x23 : Nat) : Int) (0 : Int)

noncomputable def qK (out7 : List aR) (uD : (List aD)) : Option ((List aR) × Int) :=
  (mK (fun st t34 t35 => rnd (fun (s : List aR) => nD uD s t34 t35) st) uD (.inl out7)).bind (Sum.elim (fun (s : List aR) =>
  (some (s, (0 : Int))))
  (fun (s : List aR) =>
  (none)))

noncomputable def tY (l0 : (List aD)) (n4 : Int) (uK : (List aD)) : Option ((List aR) × Int) :=
  (mK (fun st t22 t23 => rnd (fun (s : Int) => nG l0 uK s t22 t23) st) uK (.inl n4)).bind (Sum.elim (fun (s : Int) =>
  (cond (decide ((4096 : Int) < s))
  (some ([], (7 : Int)))
  (bL (0 ≤ s ∧ (40 : Int) * s ≤ 281474976710656 ∧ s ≤ 9223372036854775807) <|
  (pG l0).bind fun x20 =>
  qK ([] : List aR) x20)))
  (fun (s : Int) =>
  (none)))

noncomputable def rT (l0 : (List aD)) : Option ((List aR) × Int) :=
  (uB l0).bind fun x1 =>
  cond (!x1)
  (some ([], (2 : Int)))
  ((tO l0).bind fun x5 =>
  cond (!x5)
  (some ([], (20 : Int)))
  ((pG l0).bind fun x10 =>
  tY l0 (0 : Int) x10))

noncomputable def sJ (l0 : (List aR)) : Option ((List aR) × Int) :=
  (tT l0).bind fun x1 =>
  cond (!decide (x1.2 = (0 : Int)))
  (some ([], x1.2))
  ((rT x1.1).bind fun x5 =>
  some (x5.1, x5.2))

noncomputable def cF (eq2 : aR → aR → Option Bool)  : Option Bool :=
  some true

noncomputable def cA (eq2 : aR → aR → Option Bool) (s21 : (List aR)) (t15 : (List aR)) (t16 : Int) (t17 : Int) : Option ((Int) ⊕ (Unit ⊕ Bool)) :=
  cond (decide (t17 < t16))
  (bL (0 ≤ t17 ∧ t17 < ((List.length t15 : Nat) : Int)) <|
  bL (0 ≤ t17 ∧ t17 < ((List.length s21 : Nat) : Int)) <|
  (eq2 (List.getD t15 (Int.toNat t17) default) (List.getD s21 (Int.toNat t17) default)).bind fun x7 =>
  cond (!x7)
  (some (.inr (.inr false)))
  (some (.inl (IntKind.i64.wrap (t17 + (1 : Int))))))
  (some (.inr (.inl ())))

noncomputable def cO (eq2 : aR → aR → Option Bool) (s21 : (List aR)) (t15 : (List aR)) (t16 : Int) (t17 : Int) : Option Bool :=
  (lp (fun s => cA eq2 s21 t15 t16 s) t17).bind (Sum.elim (fun rr => cF eq2 ) (fun rr => some rr))

noncomputable def cP (s10 : (List aR)) (s21 : (List aR)) (eq2 : aR → aR → Option Bool) : Option Bool :=
  cond (!decide (((List.length s10 : Nat) : Int) = ((List.length s21 : Nat) : Int)))
  (some false)
  (cO eq2 s21 s10 ((List.length s10 : Nat) : Int) (0 : Int))

noncomputable def nV (x0 : aR) (y1 : aR) : Option Bool :=
  (dF ((decide (x0.Span.From = y1.Span.From)) && ((decide (x0.Span.To = y1.Span.To)) && true)) (tW x0.Row y1.Row)).bind fun x1 =>
  some (((decide (x0.Span.From = y1.Span.From)) && ((decide (x0.Span.To = y1.Span.To)) && true)) && x1)

noncomputable def sP (a0 : (List aR)) (b1 : (List aR)) : Option Bool :=
  (cP a0 b1 (fun y0 y1 => nV y0 y1)).bind fun x1 =>
  some x1

noncomputable def sF  : Option Bool :=
  some true

noncomputable def oZ (a0 : (List aI)) (b1 : (List aI)) (i5 : Int) : Option ((Int) ⊕ (Unit ⊕ Bool)) :=
  cond (decide (i5 < ((List.length a0 : Nat) : Int)))
  (bL (0 ≤ i5 ∧ i5 < ((List.length a0 : Nat) : Int)) <|
  bL (0 ≤ i5 ∧ i5 < ((List.length b1 : Nat) : Int)) <|
  cond (!((decide (((List.getD a0 (Int.toNat i5) default).Kind) = ((List.getD b1 (Int.toNat i5) default).Kind))) && ((decide (((List.getD a0 (Int.toNat i5) default).Num) = ((List.getD b1 (Int.toNat i5) default).Num))) && ((nX ((List.getD a0 (Int.toNat i5) default).Text) ((List.getD b1 (Int.toNat i5) default).Text)) && true))))
  (some (.inr (.inr false)))
  (some (.inl (IntKind.i64.wrap (i5 + (1 : Int))))))
  (some (.inr (.inl ())))

noncomputable def vN (a0 : (List aI)) (b1 : (List aI)) (i5 : Int) : Option Bool :=
  (lp (fun s => oZ a0 b1 s) i5).bind (Sum.elim (fun rr => sF ) (fun rr => some rr))

noncomputable def sZ (a0 : (List aI)) (b1 : (List aI)) : Option Bool :=
  cond (!decide (((List.length a0 : Nat) : Int) = ((List.length b1 : Nat) : Int)))
  (some false)
  (vN a0 b1 (0 : Int))

noncomputable def rK  : Option Bool :=
  some true

noncomputable def pH (a0 : (List aR)) (b1 : (List aR)) (i5 : Int) : Option ((Int) ⊕ (Unit ⊕ Bool)) :=
  cond (decide (i5 < ((List.length a0 : Nat) : Int)))
  (bL (0 ≤ i5 ∧ i5 < ((List.length a0 : Nat) : Int)) <|
  bL (0 ≤ i5 ∧ i5 < ((List.length b1 : Nat) : Int)) <|
  bL ((((!(!((decide ((((List.getD a0 (Int.toNat i5) default).Span).From) = (((List.getD b1 (Int.toNat i5) default).Span).From))) && ((decide ((((List.getD a0 (Int.toNat i5) default).Span).To) = (((List.getD b1 (Int.toNat i5) default).Span).To))) && true))))) = true → 0 ≤ i5 ∧ i5 < ((List.length a0 : Nat) : Int))) <|
  bL ((((!(!((decide ((((List.getD a0 (Int.toNat i5) default).Span).From) = (((List.getD b1 (Int.toNat i5) default).Span).From))) && ((decide ((((List.getD a0 (Int.toNat i5) default).Span).To) = (((List.getD b1 (Int.toNat i5) default).Span).To))) && true))))) = true → 0 ≤ i5 ∧ i5 < ((List.length b1 : Nat) : Int))) <|
  (dF (!(!((decide ((((List.getD a0 (Int.toNat i5) default).Span).From) = (((List.getD b1 (Int.toNat i5) default).Span).From))) && ((decide ((((List.getD a0 (Int.toNat i5) default).Span).To) = (((List.getD b1 (Int.toNat i5) default).Span).To))) && true)))) (sZ ((List.getD a0 (Int.toNat i5) default).Row) ((List.getD b1 (Int.toNat i5) default).Row))).bind fun x7 =>
  cond ((!((decide ((((List.getD a0 (Int.toNat i5) default).Span).From) = (((List.getD b1 (Int.toNat i5) default).Span).From))) && ((decide ((((List.getD a0 (Int.toNat i5) default).Span).To) = (((List.getD b1 (Int.toNat i5) default).Span).To))) && true))) || (!x7))
  (some (.inr (.inr false)))
  (some (.inl (IntKind.i64.wrap (i5 + (1 : Int))))))
  (some (.inr (.inl ())))

noncomputable def vO (a0 : (List aR)) (b1 : (List aR)) (i5 : Int) : Option Bool :=
  (lp (fun s => pH a0 b1 s) i5).bind (Sum.elim (fun rr => rK ) (fun rr => some rr))

noncomputable def qW (a0 : (List aR)) (b1 : (List aR)) : Option Bool :=
  cond (!decide (((List.length a0 : Nat) : Int) = ((List.length b1 : Nat) : Int)))
  (some false)
  (vO a0 b1 (0 : Int))

noncomputable def qF  : Option Bool :=
  (jI (5 : Int) (9 : Int)).bind fun x1 =>
  (jI (2 : Int) (5 : Int)).bind fun x4 =>
  (sJ ([x1, x4])).bind fun x7 =>
  (jI (1 : Int) (10 : Int)).bind fun x10 =>
  (jI (3 : Int) (5 : Int)).bind fun x13 =>
  (sJ ([x10, x13])).bind fun x16 =>
  (dF ((decide (x7.2 = (0 : Int))) && (decide (x16.2 = (0 : Int)))) (jI (2 : Int) (9 : Int))).bind fun x19 =>
  (dF ((decide (x7.2 = (0 : Int))) && (decide (x16.2 = (0 : Int)))) (sP x7.1 ([x19]))).bind fun x22 =>
  (dF (((decide (x7.2 = (0 : Int))) && (decide (x16.2 = (0 : Int)))) && x22) (jI (1 : Int) (5 : Int))).bind fun x25 =>
  (dF (((decide (x7.2 = (0 : Int))) && (decide (x16.2 = (0 : Int)))) && x22) (jI (3 : Int) (10 : Int))).bind fun x28 =>
  (dF (((decide (x7.2 = (0 : Int))) && (decide (x16.2 = (0 : Int)))) && x22) (qW x16.1 ([x25, x28]))).bind fun x31 =>
  (dF ((((decide (x7.2 = (0 : Int))) && (decide (x16.2 = (0 : Int)))) && x22) && x31) (jI (-1 : Int) (0 : Int))).bind fun x34 =>
  (dF ((((decide (x7.2 = (0 : Int))) && (decide (x16.2 = (0 : Int)))) && x22) && x31) (rE x34)).bind fun x37 =>
  (dF (((((decide (x7.2 = (0 : Int))) && (decide (x16.2 = (0 : Int)))) && x22) && x31) && x37) (jI (3 : Int) (3 : Int))).bind fun x40 =>
  (dF (((((decide (x7.2 = (0 : Int))) && (decide (x16.2 = (0 : Int)))) && x22) && x31) && x37) (rE x40)).bind fun x43 =>
  some ((((((decide (x7.2 = (0 : Int))) && (decide (x16.2 = (0 : Int)))) && x22) && x31) && x37) && (!x43))

noncomputable def yF (n0 : Int) : Option Bool :=
  some (decide (n0 ≤ (60 : Int)))

noncomputable def tA (f0 : (List aB)) : Option ((List aQ) × Int) :=
  (nL f0).bind fun x1 =>
  cond (!x1)
  (some ([], (2 : Int)))
  ((qD f0).bind fun x5 =>
  cond (decide (x5 < (0 : Int)))
  (some ([], (20 : Int)))
  ((oF f0).bind fun x9 =>
  cond (decide ((4096 : Int) < x9))
  (some ([], (7 : Int)))
  ((qL f0).bind fun x13 =>
  some (x13, (0 : Int)))))

noncomputable def tD  : Option Bool :=
  some true

noncomputable def lC (f0 : (List aB)) (i3 : Int) : Option ((Int) ⊕ (Unit ⊕ Bool)) :=
  cond (decide (i3 < ((List.length f0 : Nat) : Int)))
  (bL (0 ≤ i3 ∧ i3 < ((List.length f0 : Nat) : Int)) <|
  bL ((((!(decide (((List.getD f0 (Int.toNat i3) default).At) < (-1 : Int))))) = true → 0 ≤ i3 ∧ i3 < ((List.length f0 : Nat) : Int))) <|
  bL ((((!((decide (((List.getD f0 (Int.toNat i3) default).At) < (-1 : Int))) || (decide ((1125899906842624 : Int) ≤ ((List.getD f0 (Int.toNat i3) default).At)))))) = true → 0 ≤ i3 ∧ i3 < ((List.length f0 : Nat) : Int))) <|
  bL ((((!(((decide (((List.getD f0 (Int.toNat i3) default).At) < (-1 : Int))) || (decide ((1125899906842624 : Int) ≤ ((List.getD f0 (Int.toNat i3) default).At)))) || (decide (((List.getD f0 (Int.toNat i3) default).Net) = (0 : Int)))))) = true → 0 ≤ i3 ∧ i3 < ((List.length f0 : Nat) : Int))) <|
  bL ((((!((((decide (((List.getD f0 (Int.toNat i3) default).At) < (-1 : Int))) || (decide ((1125899906842624 : Int) ≤ ((List.getD f0 (Int.toNat i3) default).At)))) || (decide (((List.getD f0 (Int.toNat i3) default).Net) = (0 : Int)))) || (decide ((1048576 : Int) < ((List.getD f0 (Int.toNat i3) default).Net)))))) = true → 0 ≤ i3 ∧ i3 < ((List.length f0 : Nat) : Int))) <|
  cond (((((decide (((List.getD f0 (Int.toNat i3) default).At) < (-1 : Int))) || (decide ((1125899906842624 : Int) ≤ ((List.getD f0 (Int.toNat i3) default).At)))) || (decide (((List.getD f0 (Int.toNat i3) default).Net) = (0 : Int)))) || (decide ((1048576 : Int) < ((List.getD f0 (Int.toNat i3) default).Net)))) || (decide (((List.getD f0 (Int.toNat i3) default).Net) < (-1048576 : Int))))
  (some (.inr (.inr false)))
  (bL ((((decide ((0 : Int) < i3))) = true → 0 ≤ i3 ∧ i3 < ((List.length f0 : Nat) : Int))) <|
  bL ((((decide ((0 : Int) < i3))) = true → 0 ≤ (IntKind.i64.wrap (i3 - (1 : Int))) ∧ (IntKind.i64.wrap (i3 - (1 : Int))) < ((List.length f0 : Nat) : Int))) <|
  cond ((decide ((0 : Int) < i3)) && (decide (((List.getD f0 (Int.toNat i3) default).At) ≤ ((List.getD f0 (Int.toNat (IntKind.i64.wrap (i3 - (1 : Int)))) default).At))))
  (some (.inr (.inr false)))
  (some (.inl (IntKind.i64.wrap (i3 + (1 : Int)))))))
  (some (.inr (.inl ())))

noncomputable def xJ (f0 : (List aB)) (i3 : Int) : Option Bool :=
  (lp (fun s => lC f0 s) i3).bind (Sum.elim (fun rr => tD ) (fun rr => some rr))

noncomputable def sN (f0 : (List aB)) : Option Bool :=
  cond (decide ((1024 : Int) < ((List.length f0 : Nat) : Int)))
  (some false)
  (xJ f0 (0 : Int))

noncomputable def qQ (v5 : Int) : Option Int :=
  some v5

noncomputable def oL (f0 : (List aB)) (t1 : Int) (v5 : Int) (i6 : Int) : Option ((Int × Int) ⊕ (Int)) :=
  some (.inl (v5, IntKind.i64.wrap (i6 + (1 : Int))))

noncomputable def iS (f0 : (List aB)) (t1 : Int) (v5 : Int) (i6 : Int) : Option ((Int × Int) ⊕ (Int)) :=
  cond (decide (i6 < ((List.length f0 : Nat) : Int)))
  (bL (0 ≤ i6 ∧ i6 < ((List.length f0 : Nat) : Int)) <|
  cond (decide (((List.getD f0 (Int.toNat i6) default).At) ≤ t1))
  (bL (0 ≤ i6 ∧ i6 < ((List.length f0 : Nat) : Int)) <|
  oL f0 t1 (IntKind.i64.wrap (v5 + ((List.getD f0 (Int.toNat i6) default).Net))) i6)
  (oL f0 t1 v5 i6))
  (some (.inr v5))

noncomputable def tX (f0 : (List aB)) (t1 : Int) (v5 : Int) (i6 : Int) : Option Int :=
  (lp (fun s => iS f0 t1 s.1 s.2) (v5, i6)).bind (fun rr => qQ rr)

noncomputable def mM (f0 : (List aB)) (t1 : Int) : Option Int :=
  tX f0 t1 (0 : Int) (0 : Int)

noncomputable def qT (m3 : Int) : Option Int :=
  some m3

noncomputable def qR (f0 : (List aB)) (m3 : Int) (i4 : Int) : Option ((Int × Int) ⊕ (Int)) :=
  some (.inl (m3, IntKind.i64.wrap (i4 + (1 : Int))))

noncomputable def lS (f0 : (List aB)) (m3 : Int) (i4 : Int) : Option ((Int × Int) ⊕ (Int)) :=
  cond (decide (i4 < ((List.length f0 : Nat) : Int)))
  (bL (0 ≤ i4 ∧ i4 < ((List.length f0 : Nat) : Int)) <|
  (mM f0 ((List.getD f0 (Int.toNat i4) default).At)).bind fun x10 =>
  cond (decide (x10 < m3))
  (bL (0 ≤ i4 ∧ i4 < ((List.length f0 : Nat) : Int)) <|
  (mM f0 ((List.getD f0 (Int.toNat i4) default).At)).bind fun x15 =>
  qR f0 x15 i4)
  (qR f0 m3 i4))
  (some (.inr m3))

noncomputable def uE (f0 : (List aB)) (m3 : Int) (i4 : Int) : Option Int :=
  (lp (fun s => lS f0 s.1 s.2) (m3, i4)).bind (fun rr => qT rr)

noncomputable def rR (f0 : (List aB)) : Option Int :=
  (sN f0).bind fun x1 =>
  cond (!x1)
  (some (0 : Int))
  ((mM f0 (-1 : Int)).bind fun x5 =>
  uE f0 x5 (0 : Int))

noncomputable def uA (dW : List aQ) : Option ((List aQ) × Int) :=
  some (dW, (0 : Int))

noncomputable def oN (bC : List Int) (bI : List Int) (dW : List aQ) (i12 : Int) (s13 : aQ) : Option ((List Int × List Int × List aQ × Int) ⊕ ((List aQ))) :=
  bL ((List.length dW + List.length ([s13])) * 16 ≤ 140737488355328 ∧ List.length dW + List.length ([s13]) ≤ 9223372036854775807) <|
  some (.inl (bC, bI, dW ++ ([s13]), IntKind.i64.wrap (i12 + (1 : Int))))

noncomputable def iR  (bC : List Int) (bI : List Int) (dW : List aQ) (i12 : Int) : Option ((List Int × List Int × List aQ × Int) ⊕ ((List aQ))) :=
  cond (decide (i12 < ((List.length bC : Nat) : Int)))
  (bL (0 ≤ i12 ∧ i12 < ((List.length bC : Nat) : Int)) <|
  cond (decide (i12 < ((List.length bI : Nat) : Int)))
  (bL (0 ≤ i12 ∧ i12 < ((List.length bI : Nat) : Int)) <|
  oN bC bI dW i12 (aQ.mk (aQ.mk (List.getD bC (Int.toNat i12) default) (1125899906842624 : Int)).From (List.getD bI (Int.toNat i12) default)))
  (oN bC bI dW i12 (aQ.mk (List.getD bC (Int.toNat i12) default) (1125899906842624 : Int))))
  (some (.inr dW))

noncomputable def qP (bC : List Int) (bI : List Int) (dW : List aQ) (i12 : Int) : Option ((List aQ) × Int) :=
  (lp (fun s => iR s.1 s.2.1 s.2.2.1 s.2.2.2) (bC, bI, dW, i12)).bind (fun rr => uA rr)

noncomputable def qU (bC : List Int) (bI : List Int) : Option ((List aQ) × Int) :=
  qP bC bI ([] : List aQ) (0 : Int)

noncomputable def qN (f0 : (List aB)) (bC : List Int) (bI : List Int) (i8 : Int) : Option ((List Int × List Int × Int) ⊕ ((List Int × List Int))) :=
  some (.inl (bC, bI, IntKind.i64.wrap (i8 + (1 : Int))))

noncomputable def lU (f0 : (List aB)) (i8 : Int) (bC : List Int) (bI : List Int) (k10 : Int) : Option ((List Int × List Int × Int) ⊕ ((List Int × List Int))) :=
  bL (0 ≤ i8 ∧ i8 < ((List.length f0 : Nat) : Int)) <|
  cond (decide (k10 < (IntKind.i64.wrap (0 - ((List.getD f0 (Int.toNat i8) default).Net)))))
  (bL (0 ≤ i8 ∧ i8 < ((List.length f0 : Nat) : Int)) <|
  bL ((List.length bI + List.length ([(List.getD f0 (Int.toNat i8) default).At])) * 8 ≤ 140737488355328 ∧ List.length bI + List.length ([(List.getD f0 (Int.toNat i8) default).At]) ≤ 9223372036854775807) <|
  some (.inl (bC, bI ++ ([(List.getD f0 (Int.toNat i8) default).At]), IntKind.i64.wrap (k10 + (1 : Int)))))
  (some (.inr (bC, bI)))

noncomputable def uJ (f0 : (List aB)) (bC : List Int) (bI : List Int) (i8 : Int) (k10 : Int) : Option ((List Int × List Int × Int) ⊕ ((List Int × List Int))) :=
  (lp (fun s => lU f0 i8 s.1 s.2.1 s.2.2) (bC, bI, k10)).bind (fun rr => qN f0 rr.1 rr.2 i8)

noncomputable def qS (f0 : (List aB)) (bC : List Int) (bI : List Int) (i8 : Int) : Option ((List Int × List Int × Int) ⊕ ((List Int × List Int))) :=
  uJ f0 bC bI i8 (0 : Int)

noncomputable def kX (f0 : (List aB)) (i8 : Int) (bC : List Int) (bI : List Int) (k9 : Int) : Option ((List Int × List Int × Int) ⊕ ((List Int × List Int))) :=
  bL (0 ≤ i8 ∧ i8 < ((List.length f0 : Nat) : Int)) <|
  cond (decide (k9 < ((List.getD f0 (Int.toNat i8) default).Net)))
  (bL (0 ≤ i8 ∧ i8 < ((List.length f0 : Nat) : Int)) <|
  bL ((List.length bC + List.length ([(List.getD f0 (Int.toNat i8) default).At])) * 8 ≤ 140737488355328 ∧ List.length bC + List.length ([(List.getD f0 (Int.toNat i8) default).At]) ≤ 9223372036854775807) <|
  some (.inl (bC ++ ([(List.getD f0 (Int.toNat i8) default).At]), bI, IntKind.i64.wrap (k9 + (1 : Int)))))
  (some (.inr (bC, bI)))

noncomputable def sX (f0 : (List aB)) (bC : List Int) (bI : List Int) (i8 : Int) (k9 : Int) : Option ((List Int × List Int × Int) ⊕ ((List Int × List Int))) :=
  (lp (fun s => kX f0 i8 s.1 s.2.1 s.2.2) (bC, bI, k9)).bind (fun rr => qS f0 rr.1 rr.2 i8)

noncomputable def lQ (f0 : (List aB)) (bC : List Int) (bI : List Int) (i8 : Int) : Option ((List Int × List Int × Int) ⊕ ((List Int × List Int))) :=
  cond (decide (i8 < ((List.length f0 : Nat) : Int)))
  (sX f0 bC bI i8 (0 : Int))
  (some (.inr (bC, bI)))

noncomputable def qG (f0 : (List aB)) (bC : List Int) (bI : List Int) (i8 : Int) : Option ((List aQ) × Int) :=
  (lp (fun s => lQ f0 s.1 s.2.1 s.2.2) (bC, bI, i8)).bind (fun rr => qU rr.1 rr.2)

noncomputable def oP (f0 : (List aB)) (bC : List Int) (bI : List Int) (n6 : Int) : Option ((List aQ) × Int) :=
  cond (decide ((4096 : Int) < n6))
  (some ([], (7 : Int)))
  (qG f0 bC bI (0 : Int))

noncomputable def nS (f0 : (List aB)) (bC : List Int) (bI : List Int) (n6 : Int) (i7 : Int) : Option ((List Int × List Int × Int × Int) ⊕ ((List Int × List Int × Int))) :=
  some (.inl (bC, bI, n6, IntKind.i64.wrap (i7 + (1 : Int))))

noncomputable def kW (f0 : (List aB)) (bC : List Int) (bI : List Int) (n6 : Int) (i7 : Int) : Option ((List Int × List Int × Int × Int) ⊕ ((List Int × List Int × Int))) :=
  cond (decide (i7 < ((List.length f0 : Nat) : Int)))
  (bL (0 ≤ i7 ∧ i7 < ((List.length f0 : Nat) : Int)) <|
  cond (decide ((0 : Int) < ((List.getD f0 (Int.toNat i7) default).Net)))
  (bL (0 ≤ i7 ∧ i7 < ((List.length f0 : Nat) : Int)) <|
  nS f0 bC bI (IntKind.i64.wrap (n6 + ((List.getD f0 (Int.toNat i7) default).Net))) i7)
  (nS f0 bC bI n6 i7))
  (some (.inr (bC, bI, n6)))

noncomputable def pP (f0 : (List aB)) (bC : List Int) (bI : List Int) (n6 : Int) (i7 : Int) : Option ((List aQ) × Int) :=
  (lp (fun s => kW f0 s.1 s.2.1 s.2.2.1 s.2.2.2) (bC, bI, n6, i7)).bind (fun rr => oP f0 rr.1 rr.2.1 rr.2.2)

noncomputable def rU (f0 : (List aB)) : Option ((List aQ) × Int) :=
  (sN f0).bind fun x1 =>
  cond (!x1)
  (some ([], (2 : Int)))
  ((rR f0).bind fun x5 =>
  cond (decide (x5 < (0 : Int)))
  (some ([], (20 : Int)))
  (pP f0 ([] : List Int) ([] : List Int) (0 : Int) (0 : Int)))

noncomputable def nP  : Option Bool :=
  (qF ).bind fun x15 =>
  some x15

noncomputable def jC (a3 : (List aQ)) (b5 : (List aQ)) (i7 : Int) : Option ((Int) ⊕ (Unit ⊕ Bool)) :=
  cond (decide (i7 < ((List.length a3 : Nat) : Int)))
  (bL (0 ≤ i7 ∧ i7 < ((List.length a3 : Nat) : Int)) <|
  bL (0 ≤ i7 ∧ i7 < ((List.length b5 : Nat) : Int)) <|
  cond (!((decide (((List.getD a3 (Int.toNat i7) default).From) = ((List.getD b5 (Int.toNat i7) default).From))) && ((decide (((List.getD a3 (Int.toNat i7) default).To) = ((List.getD b5 (Int.toNat i7) default).To))) && true)))
  (some (.inr (.inr false)))
  (some (.inl (IntKind.i64.wrap (i7 + (1 : Int))))))
  (some (.inr (.inl ())))

noncomputable def pT (a3 : (List aQ)) (b5 : (List aQ)) (i7 : Int) : Option Bool :=
  (lp (fun s => jC a3 b5 s) i7).bind (Sum.elim (fun rr => nP ) (fun rr => some rr))

noncomputable def qA (f0 : (List aB)) : Option Bool :=
  (yF ((List.length f0 : Nat) : Int)).bind fun x1 =>
  cond (!x1)
  ((qF ).bind fun x5 =>
  some x5)
  ((tA f0).bind fun x8 =>
  (rU f0).bind fun x11 =>
  cond ((!decide (x8.2 = x11.2)) || (!decide (((List.length x8.1 : Nat) : Int) = ((List.length x11.1 : Nat) : Int))))
  (some false)
  (pT x8.1 x11.1 (0 : Int)))

end Go.Abs
namespace Go.Abs
open Go Go.RowKit
def xZ (x : aB) : Prop := JU x.At ∧ JU x.Net ∧ True

end Go.Abs
namespace Go.Abs
open Go Go.RowKit Go.Proofs
noncomputable def tt : TT := ⟨TM Try.prog, PX Try.prog⟩

theorem aF : eM Try.prog tt := eM.of Try.prog

theorem nK (nR : Int) (to1 : Int) (r : aR) (h0 : jI nR to1 = some r) : bW Try.prog 44 [(eI nR), (eI to1)] (aK r) := by
  intro H0
  refine BV aF Try.func44 (by kernel_rfl) (by kernel_rfl) (by kernel_rfl) ?_
  have hO := aM.start H0
  unfold jI at h0
  refine aP ?_
  refine aT aF 1 ?_
  refine rI 3 (.agg [(.sl true 0 (fun _ => .bad)), (eI 0), (eI 0)]) (aK (aR.mk ([]) (aQ.mk 0 0))) (by kernel_rfl) (by kernel_rfl) (by kernel_rfl) (FE (xs := [(.sl true 0 (fun _ => .bad)), (eI 0), (eI 0)]) (ys := [(eL aL ([])), (eI 0), (eI 0)]) ⟨eF, aZ.refl _, aZ.refl _, trivial⟩) (by kernel_rfl) (by kernel_rfl) hO ?_
  intro lo1 H hO
  refine cJ ?_
  refine bS [] [(4, (.lp lo1 0 0))] ?_
  refine aP ?_
  refine aT aF 7 ?_
  refine bO 1 ?_
  refine pL (xs := [(aL (aI.mk (1 : Int) (1 : Int) ByteArray.empty))]) (k := 3) (by kernel_rfl) (by kernel_rfl) ?_
  refine bO 6 ?_
  refine iY 0 lo1 3 0 (aK (aR.mk ([]) (aQ.mk 0 0))) (.agg [(dY [(aL (aI.mk (1 : Int) (1 : Int) ByteArray.empty))]), (eI ((aQ.mk nR to1).From)), (eI ((aQ.mk nR to1).To))]) [(aK (aR.mk ([]) (aQ.mk 0 0)))] [(lo1, 3, [(.agg [(dY [(aL (aI.mk (1 : Int) (1 : Int) ByteArray.empty))]), (eI ((aQ.mk nR to1).From)), (eI ((aQ.mk nR to1).To))])])] hO rfl (by kernel_rfl) ?_
  intro H hO
  refine cJ ?_
  refine GZ 0 lo1 3 (.agg [(dY [(aL (aI.mk (1 : Int) (1 : Int) ByteArray.empty))]), (eI ((aQ.mk nR to1).From)), (eI ((aQ.mk nR to1).To))]) (aK (aR.mk ([aI.mk (1 : Int) (1 : Int) ByteArray.empty]) (aQ.mk nR to1))) [(lo1, 3, [(aK (aR.mk ([aI.mk (1 : Int) (1 : Int) ByteArray.empty]) (aQ.mk nR to1)))])] hO (by kernel_rfl) (by kernel_rfl) (FE (xs := [(dY [(aL (aI.mk (1 : Int) (1 : Int) ByteArray.empty))]), (eI ((aQ.mk nR to1).From)), (eI ((aQ.mk nR to1).To))]) (ys := [(eL aL ([aI.mk (1 : Int) (1 : Int) ByteArray.empty])), (eI ((aQ.mk nR to1).From)), (eI ((aQ.mk nR to1).To))]) ⟨BW (l := [aI.mk (1 : Int) (1 : Int) ByteArray.empty]), aZ.refl _, aZ.refl _, trivial⟩) (by kernel_rfl) ?_
  intro H hO
  refine bG [(4, (.lp lo1 0 0))] ?_
  refine bM ?_
  obtain rfl := oI h0
  exact aH (QM0 (.inr rfl) (rs := [.cell 4 32]) (xs := [(aK (aR.mk ([aI.mk (1 : Int) (1 : Int) ByteArray.empty]) (aQ.mk nR to1)))]) (x := (aK (aR.mk ([aI.mk (1 : Int) (1 : Int) ByteArray.empty]) (aQ.mk nR to1)))) (by kernel_rfl) (wE (lo := lo1) (k := 3) (y := (aK (aR.mk ([aI.mk (1 : Int) (1 : Int) ByteArray.empty]) (aQ.mk nR to1)))) (x := (aK (aR.mk ([aI.mk (1 : Int) (1 : Int) ByteArray.empty]) (aQ.mk nR to1)))) 0 hO (by kernel_rfl) (by kernel_rfl) (by kernel_rfl) (by kernel_rfl) qO) (by kernel_rfl) ⟨rfl, hO.out⟩)

theorem sU (s0 : (List aR)) (f1_f : Nat) (f1_a f1_c : List V) (f1 : aR → Option Bool) (f1_h : ∀ a0 r, f1 a0 = some r → bW Try.prog f1_f (f1_a ++ [(aK a0)] ++ f1_c) (aJ r)) (r : Int) (h0 : fA s0 f1 = some r) : bW Try.prog 116 [(eL aK s0), (.fn (.func f1_f) f1_a f1_c)] (eI r) := by
  intro H0
  refine cH Try.func116 ?_
  have hO := aM.start H0
  unfold fA at h0
  refine aX aF 1 [] [] ?_
  refine cU (fun T H => Has T [] ∧ aM ⟨H0, [], []⟩ H [] ∧ dI f1  = some r) ?_ ?_
  · clear hO h0
    rintro T H ⟨hT, hO, h0⟩
    refine bD hT ?_
    clear hT
    unfold dI at h0
    refine bV aF 1 [(4, (eI (-1 : Int)))] ?_
    refine bM ?_
    obtain rfl := oI h0
    exact aH (Q_r hO)
  refine aX aF 3 [] [(7, (eI (lN s0))), (8, (eI (0 : Int)))] ?_
  refine bR 0 ?_
  refine cR [(0, (eL aK s0)), (1, (.fn (.func f1_f) f1_a f1_c)), (7, (eI (lN s0))), (8, (eI (0 : Int)))] ?_
  refine cK (fun T H => ∃ t7 : Int, ∃ t8 : Int, Has T [(0, (eL aK s0)), (1, (.fn (.func f1_f) f1_a f1_c)), (7, (eI t7)), (8, (eI t8))] ∧ aM ⟨H0, [], []⟩ H [] ∧ eO f1 s0 t7 t8 = some r) ?_ ⟨(lN s0), (0 : Int), .eq (by kernel_rfl), hO, h0⟩
  clear hO h0
  rintro T H ⟨t7, t8, hT, hO, h0⟩
  refine bD hT ?_
  clear hT
  unfold eO at h0
  obtain ⟨rr0, hl0, h0⟩ := aY h0
  refine cB (by kernel_rfl) (fun (s : Int) T H => Has T [(0, (eL aK s0)), (1, (.fn (.func f1_f) f1_a f1_c)), (7, (eI t7)), (8, (eI s))] ∧ aM ⟨H0, [], []⟩ H []) hl0 ⟨.eq (by kernel_rfl), hO⟩ ?_
  clear hO
  rintro k0 s out1 T H ⟨hT, hO⟩ h1 ho0
  obtain ⟨t8, rfl⟩ : ∃ x, x = s := ⟨_, rfl⟩
  replace h1 : eR f1 s0 t7 t8 = some out1 := h1
  refine bD hT ?_
  clear hT
  unfold eR at h1
  refine aX aF 1 [] [(9, (aJ (decide (t8 < t7))))] ?_
  refine aP ?_
  refine bN h1 (fun h1 => ?_) (fun h1 => ?_)
  · refine bP ?_
    refine bG [(0, (eL aK s0)), (1, (.fn (.func f1_f) f1_a f1_c)), (7, (eI t7)), (8, (eI t8))] ?_
    refine aP ?_
    refine bR 1 ?_
    refine aX aF 2 [] [(5, (eI t8))] ?_
    refine aP ?_
    refine aT aF 6 ?_
    obtain ⟨c2, h1⟩ := bK h1
    refine oS 5 [0 ≤ t8 ∧ t8 < (lN s0)] ⟨c2, trivial⟩ ?_
    obtain ⟨x3, hx4, h1⟩ := aY h1
    refine cI (f1_h (gD s0 t8) _ hx4) hO ?_
    intro H hO
    refine cJ ?_
    refine bS [] [(16, (aJ x3))] ?_
    refine bN h1 (fun h1 => ?_) (fun h1 => ?_)
    · refine bV aF 2 [(4, (eI t8))] ?_
      refine bM ?_
      obtain rfl := oI h1
      obtain rfl : _ = rr0 := ho0
      replace h0 : some t8 = some r := h0
      obtain rfl := oI h0
      exact aH (bU (bB (bB (bU (bB (Q_r hO))))))
    refine bP ?_
    refine cX [(0, (eL aK s0)), (1, (.fn (.func f1_f) f1_a f1_c)), (7, (eI t7)), (8, (eI t8))] ?_
    refine aH (aV (aG (?_)))
    refine aT aF 2 ?_
    refine bF ?_
    exact aH (aG (⟨rfl, _, (oI h1).symm, .eq (by kernel_rfl), hO⟩))
  refine dJ 0 ?_
  obtain rfl := oI h1
  obtain rfl : _ = rr0 := ho0
  replace h0 : dI f1  = some r := h0
  exact aH (aU (aU (bQ (aG (⟨rfl, .eq (by kernel_rfl), hO, h0⟩)))))

theorem qX (s0 : (List aR)) (f1_f : Nat) (f1_a f1_c : List V) (f1 : aR → Option Bool) (f1_h : ∀ a0 r, f1 a0 = some r → bW Try.prog f1_f (f1_a ++ [(aK a0)] ++ f1_c) (aJ r)) (r : Bool) (h0 : cZ s0 f1 = some r) : bW Try.prog 74 [(eL aK s0), (.fn (.func f1_f) f1_a f1_c)] (aJ r) := by
  intro H0
  refine cH Try.func74 ?_
  have hO := aM.start H0
  unfold cZ at h0
  refine aX aF 1 [] [] ?_
  refine aP ?_
  refine aT aF 5 ?_
  refine bO 2 ?_
  obtain ⟨x1, hx2, h0⟩ := aY h0
  refine cI (sU s0 f1_f f1_a f1_c f1 f1_h _ hx2) hO ?_
  intro H hO
  refine bF ?_
  refine bG [(4, (aJ (decide ((0 : Int) ≤ x1))))] ?_
  refine bM ?_
  obtain rfl := oI h0
  exact aH (Q_r hO)

theorem tS (s0 : (List aI)) (f1_f : Nat) (f1_a f1_c : List V) (f1 : aI → Option Bool) (f1_h : ∀ a0 r, f1 a0 = some r → bW Try.prog f1_f (f1_a ++ [(aL a0)] ++ f1_c) (aJ r)) (r : Int) (h0 : fL s0 f1 = some r) : bW Try.prog 100 [(eL aL s0), (.fn (.func f1_f) f1_a f1_c)] (eI r) := by
  intro H0
  refine cH Try.func100 ?_
  have hO := aM.start H0
  unfold fL at h0
  refine aX aF 1 [] [] ?_
  refine cU (fun T H => Has T [] ∧ aM ⟨H0, [], []⟩ H [] ∧ dR f1  = some r) ?_ ?_
  · clear hO h0
    rintro T H ⟨hT, hO, h0⟩
    refine bD hT ?_
    clear hT
    unfold dR at h0
    refine bV aF 1 [(4, (eI (-1 : Int)))] ?_
    refine bM ?_
    obtain rfl := oI h0
    exact aH (Q_r hO)
  refine aX aF 3 [] [(7, (eI (lN s0))), (8, (eI (0 : Int)))] ?_
  refine bR 0 ?_
  refine cR [(0, (eL aL s0)), (1, (.fn (.func f1_f) f1_a f1_c)), (7, (eI (lN s0))), (8, (eI (0 : Int)))] ?_
  refine cK (fun T H => ∃ t7 : Int, ∃ t8 : Int, Has T [(0, (eL aL s0)), (1, (.fn (.func f1_f) f1_a f1_c)), (7, (eI t7)), (8, (eI t8))] ∧ aM ⟨H0, [], []⟩ H [] ∧ fE f1 s0 t7 t8 = some r) ?_ ⟨(lN s0), (0 : Int), .eq (by kernel_rfl), hO, h0⟩
  clear hO h0
  rintro T H ⟨t7, t8, hT, hO, h0⟩
  refine bD hT ?_
  clear hT
  unfold fE at h0
  obtain ⟨rr0, hl0, h0⟩ := aY h0
  refine cB (by kernel_rfl) (fun (s : Int) T H => Has T [(0, (eL aL s0)), (1, (.fn (.func f1_f) f1_a f1_c)), (7, (eI t7)), (8, (eI s))] ∧ aM ⟨H0, [], []⟩ H []) hl0 ⟨.eq (by kernel_rfl), hO⟩ ?_
  clear hO
  rintro k0 s out1 T H ⟨hT, hO⟩ h1 ho0
  obtain ⟨t8, rfl⟩ : ∃ x, x = s := ⟨_, rfl⟩
  replace h1 : fI f1 s0 t7 t8 = some out1 := h1
  refine bD hT ?_
  clear hT
  unfold fI at h1
  refine aX aF 1 [] [(9, (aJ (decide (t8 < t7))))] ?_
  refine aP ?_
  refine bN h1 (fun h1 => ?_) (fun h1 => ?_)
  · refine bP ?_
    refine bG [(0, (eL aL s0)), (1, (.fn (.func f1_f) f1_a f1_c)), (7, (eI t7)), (8, (eI t8))] ?_
    refine aP ?_
    refine bR 1 ?_
    refine aX aF 2 [] [(5, (eI t8))] ?_
    refine aP ?_
    refine aT aF 6 ?_
    obtain ⟨c2, h1⟩ := bK h1
    refine oS 5 [0 ≤ t8 ∧ t8 < (lN s0)] ⟨c2, trivial⟩ ?_
    obtain ⟨x3, hx4, h1⟩ := aY h1
    refine cI (f1_h (gD s0 t8) _ hx4) hO ?_
    intro H hO
    refine cJ ?_
    refine bS [] [(16, (aJ x3))] ?_
    refine bN h1 (fun h1 => ?_) (fun h1 => ?_)
    · refine bV aF 2 [(4, (eI t8))] ?_
      refine bM ?_
      obtain rfl := oI h1
      obtain rfl : _ = rr0 := ho0
      replace h0 : some t8 = some r := h0
      obtain rfl := oI h0
      exact aH (bU (bB (bB (bU (bB (Q_r hO))))))
    refine bP ?_
    refine cX [(0, (eL aL s0)), (1, (.fn (.func f1_f) f1_a f1_c)), (7, (eI t7)), (8, (eI t8))] ?_
    refine aH (aV (aG (?_)))
    refine aT aF 2 ?_
    refine bF ?_
    exact aH (aG (⟨rfl, _, (oI h1).symm, .eq (by kernel_rfl), hO⟩))
  refine dJ 0 ?_
  obtain rfl := oI h1
  obtain rfl : _ = rr0 := ho0
  replace h0 : dR f1  = some r := h0
  exact aH (aU (aU (bQ (aG (⟨rfl, .eq (by kernel_rfl), hO, h0⟩)))))

theorem sC (s0 : (List aI)) (f1_f : Nat) (f1_a f1_c : List V) (f1 : aI → Option Bool) (f1_h : ∀ a0 r, f1 a0 = some r → bW Try.prog f1_f (f1_a ++ [(aL a0)] ++ f1_c) (aJ r)) (r : Bool) (h0 : dG s0 f1 = some r) : bW Try.prog 96 [(eL aL s0), (.fn (.func f1_f) f1_a f1_c)] (aJ r) := by
  intro H0
  refine cH Try.func96 ?_
  have hO := aM.start H0
  unfold dG at h0
  refine aX aF 1 [] [] ?_
  refine aP ?_
  refine aT aF 5 ?_
  refine bO 2 ?_
  obtain ⟨x1, hx2, h0⟩ := aY h0
  refine cI (tS s0 f1_f f1_a f1_c f1 f1_h _ hx2) hO ?_
  intro H hO
  refine bF ?_
  refine bG [(4, (aJ (decide ((0 : Int) ≤ x1))))] ?_
  refine bM ?_
  obtain rfl := oI h0
  exact aH (Q_r hO)

theorem xD (v0 : aI) (r : (bJ × Bool)) (h0 : lI v0 = some r) : bW Try.prog 126 [(aL v0)] (.tup [(bH r.1), (aJ r.2)]) := by
  intro H0
  refine cH Try.func126 ?_
  have hO := aM.start H0
  unfold lI at h0
  refine aP ?_
  refine aT aF 3 ?_
  refine gP 3 (aL v0) (by kernel_rfl) (by kernel_rfl) ?_
  refine bF ?_
  refine bG [(1, (.rp (aL v0)))] ?_
  refine aP ?_
  refine bR 0 ?_
  refine aX aF 9 [] [(4, (aJ ((decide (v0.Kind = (1 : Int))) && (nX v0.Text (⟨#[]⟩ : ByteArray)))))] ?_
  refine bN h0 (fun h0 => ?_) (fun h0 => ?_)
  · refine bV aF 5 [(2, (bH (bJ.k_number v0.Num))), (3, (aJ true))] ?_
    refine bM ?_
    obtain rfl := oI h0
    exact aH (bU (bB (Q_r hO)))
  refine aX aF 15 [4] [(16, (aJ (((decide (v0.Kind = (2 : Int))) && (decide (v0.Num = (0 : Int)))) && (decide (((ByteArray.size v0.Text : Nat) : Int) ≤ (64 : Int))))))] ?_
  refine bN h0 (fun h0 => ?_) (fun h0 => ?_)
  · refine bV aF 5 [(2, (bH (bJ.k_words v0.Text))), (3, (aJ true))] ?_
    refine bM ?_
    obtain rfl := oI h0
    exact aH (bU (bB (Q_r hO)))
  refine bP ?_
  refine cX [] ?_
  refine aH (aV (aG (?_)))
  refine bV aF 2 [(2, (bH bJ.none_)), (3, (aJ false))] ?_
  refine bM ?_
  obtain rfl := oI h0
  exact aH (Q_r hO)

theorem RE (v0 : aI) (r : Bool) (h0 : uT v0 = some r) : bW Try.prog 98 [(aL v0)] (aJ r) := by
  intro H0
  refine cH Try.func98 ?_
  have hO := aM.start H0
  unfold uT at h0
  refine aP ?_
  refine aT aF 2 ?_
  refine gP 3 (aL v0) (by kernel_rfl) (by kernel_rfl) ?_
  refine bF ?_
  refine bG [(1, (.rp (aL v0)))] ?_
  refine aP ?_
  refine aT aF 7 ?_
  refine bO 1 ?_
  obtain ⟨⟨x1_0, x1_1⟩, hx2, h0⟩ := aY h0
  refine cI (xD v0 _ hx2) hO ?_
  intro H hO
  rcases x1_0 with _ | y4 | y5
  · replace h0 : (some x1_1) = some r := h0
    refine bF ?_
    refine bG [(4, (aJ x1_1))] ?_
    refine bV aF 2 [(2, (aJ x1_1))] ?_
    refine bM ?_
    obtain rfl := oI h0
    exact aH (Q_r hO)
  · replace h0 : (some x1_1) = some r := h0
    refine bF ?_
    refine bG [(4, (aJ x1_1))] ?_
    refine bV aF 2 [(2, (aJ x1_1))] ?_
    refine bM ?_
    obtain rfl := oI h0
    exact aH (Q_r hO)
  · replace h0 : (some x1_1) = some r := h0
    refine bF ?_
    refine bG [(4, (aJ x1_1))] ?_
    refine bV aF 2 [(2, (aJ x1_1))] ?_
    refine bM ?_
    obtain rfl := oI h0
    exact aH (Q_r hO)

theorem RA (v0 : aI) (r : Bool) (h0 : uW v0 = some r) : bW Try.prog 97 [(aL v0)] (aJ r) := by
  intro H0
  refine cH Try.func97 ?_
  have hO := aM.start H0
  unfold uW at h0
  refine aP ?_
  refine aT aF 2 ?_
  refine gP 3 (aL v0) (by kernel_rfl) (by kernel_rfl) ?_
  refine bF ?_
  refine bG [(1, (.rp (aL v0)))] ?_
  refine aP ?_
  refine aT aF 4 ?_
  refine bO 1 ?_
  obtain ⟨x1, hx2, h0⟩ := aY h0
  refine cI (RE v0 _ hx2) hO ?_
  intro H hO
  refine bF ?_
  refine bG [(2, (aJ (!x1)))] ?_
  refine bM ?_
  obtain rfl := oI h0
  exact aH (Q_r hO)

theorem yM (r0 : (List aI)) (r : Bool) (h0 : pU r0 = some r) : bW Try.prog 57 [(eL aL r0)] (aJ r) := by
  intro H0
  refine cH Try.func57 ?_
  have hO := aM.start H0
  unfold pU at h0
  refine aX aF 1 [] [] ?_
  refine aP ?_
  refine aX aF 3 [] [(5, (aJ (decide ((8 : Int) < (lN r0)))))] ?_
  refine bN h0 (fun h0 => ?_) (fun h0 => ?_)
  · refine bV aF 1 [(2, (aJ false))] ?_
    refine bM ?_
    obtain rfl := oI h0
    exact aH (bB (Q_r hO))
  refine bP ?_
  refine bG [(0, (eL aL r0))] ?_
  refine aP ?_
  refine aT aF 4 ?_
  refine bO 1 ?_
  obtain ⟨x2, hx3, h0⟩ := aY h0
  refine cI (sC r0 97 [] [] (fun y0 => uW y0) (fun y0 r h => RA y0 r h) _ hx3) hO ?_
  intro H hO
  refine bF ?_
  refine bG [(2, (aJ (!x2)))] ?_
  refine bM ?_
  obtain rfl := oI h0
  exact aH (Q_r hO)

theorem GI (t0 : Int) (r : Bool) (h0 : vF t0 = some r) : bW Try.prog 134 [(eI t0)] (aJ r) := by
  intro H0
  refine cH Try.func134 ?_
  have hO := aM.start H0
  unfold vF at h0
  refine aX aF 1 [] [] ?_
  refine bV aF 7 [(2, (aJ ((decide ((0 : Int) ≤ t0)) && (decide (t0 ≤ (1125899906842624 : Int))))))] ?_
  refine bM ?_
  obtain rfl := oI h0
  exact aH (Q_r hO)

theorem TH (s0 : aQ) (r : Bool) (h0 : wO s0 = some r) : bW Try.prog 120 [(aW s0)] (aJ r) := by
  intro H0
  refine cH Try.func120 ?_
  have hO := aM.start H0
  unfold wO at h0
  refine aP ?_
  refine aT aF 2 ?_
  refine gP 2 (aW s0) (by kernel_rfl) (by kernel_rfl) ?_
  refine bF ?_
  refine bG [(1, (.rp (aW s0)))] ?_
  refine aP ?_
  refine aT aF 16 ?_
  refine bO 2 ?_
  obtain ⟨x1, hx2, h0⟩ := aY h0
  refine cI (GI s0.From _ hx2) hO ?_
  intro H hO
  refine bO 6 ?_
  obtain ⟨x4, hx5, h0⟩ := aY h0
  refine iZ [(6, true)] 134 [(eI s0.To)] (aJ x4) x1 (by kernel_rfl) (by kernel_rfl) (by kernel_rfl) (fun hb6 => (GI s0.To _ (lE hx5 hb6))) hO ?_
  intro H hO
  refine bF ?_
  refine bG [(2, (aJ ((x1 && x4) && (decide (s0.From < s0.To)))))] ?_
  refine bM ?_
  obtain rfl := oI h0
  exact aH (Q_r hO)

theorem QE (s0 : aQ) (r : Bool) (h0 : yE s0 = some r) : bW Try.prog 87 [(aW s0)] (aJ r) := by
  intro H0
  refine cH Try.func87 ?_
  have hO := aM.start H0
  unfold yE at h0
  refine aP ?_
  refine aT aF 2 ?_
  refine gP 2 (aW s0) (by kernel_rfl) (by kernel_rfl) ?_
  refine bF ?_
  refine bG [(1, (.rp (aW s0)))] ?_
  refine aP ?_
  refine aT aF 18 ?_
  refine bO 1 ?_
  obtain ⟨x1, hx2, h0⟩ := aY h0
  refine cI (TH s0 _ hx2) hO ?_
  intro H hO
  refine bF ?_
  refine bG [(2, (aJ (x1 || (((decide (s0.From = (-1 : Int))) && (decide ((0 : Int) ≤ s0.To))) && (decide (s0.To ≤ (1125899906842624 : Int)))))))] ?_
  refine bM ?_
  obtain rfl := oI h0
  exact aH (Q_r hO)

theorem CW (p0 : aR) (r : Bool) (h0 : rE p0 = some r) : bW Try.prog 45 [(aK p0)] (aJ r) := by
  intro H0
  refine cH Try.func45 ?_
  have hO := aM.start H0
  unfold rE at h0
  refine aP ?_
  refine aT aF 2 ?_
  refine gP 3 (aK p0) (by kernel_rfl) (by kernel_rfl) ?_
  refine bF ?_
  refine bG [(1, (.rp (aK p0)))] ?_
  refine aP ?_
  refine aT aF 9 ?_
  refine bO 2 ?_
  obtain ⟨x1, hx2, h0⟩ := aY h0
  refine cI (yM p0.Row _ hx2) hO ?_
  intro H hO
  refine bO 6 ?_
  obtain ⟨x4, hx5, h0⟩ := aY h0
  refine iZ [(6, true)] 87 [(aW p0.Span)] (aJ x4) x1 (by kernel_rfl) (by kernel_rfl) (by kernel_rfl) (fun hb6 => (QE p0.Span _ (lE hx5 hb6))) hO ?_
  intro H hO
  refine bF ?_
  refine bG [(2, (aJ (x1 && x4)))] ?_
  refine bM ?_
  obtain rfl := oI h0
  exact aH (Q_r hO)

theorem KK (p0 : aR) (r : Bool) (h0 : qJ p0 = some r) : bW Try.prog 75 [(aK p0)] (aJ r) := by
  intro H0
  refine cH Try.func75 ?_
  have hO := aM.start H0
  unfold qJ at h0
  refine aP ?_
  refine aT aF 2 ?_
  refine gP 3 (aK p0) (by kernel_rfl) (by kernel_rfl) ?_
  refine bF ?_
  refine bG [(1, (.rp (aK p0)))] ?_
  refine aP ?_
  refine aT aF 4 ?_
  refine bO 1 ?_
  obtain ⟨x1, hx2, h0⟩ := aY h0
  refine cI (CW p0 _ hx2) hO ?_
  intro H hO
  refine bF ?_
  refine bG [(2, (aJ (!x1)))] ?_
  refine bM ?_
  obtain rfl := oI h0
  exact aH (Q_r hO)

theorem tK (s0 : (List aD)) (f1_f : Nat) (f1_a f1_c : List V) (f1 : aD → Option Bool) (f1_h : ∀ a0 r, f1 a0 = some r → bW Try.prog f1_f (f1_a ++ [(aE a0)] ++ f1_c) (aJ r)) (r : Int) (h0 : fK s0 f1 = some r) : bW Try.prog 89 [(eL aE s0), (.fn (.func f1_f) f1_a f1_c)] (eI r) := by
  intro H0
  refine cH Try.func89 ?_
  have hO := aM.start H0
  unfold fK at h0
  refine aX aF 1 [] [] ?_
  refine cU (fun T H => Has T [] ∧ aM ⟨H0, [], []⟩ H [] ∧ dQ f1  = some r) ?_ ?_
  · clear hO h0
    rintro T H ⟨hT, hO, h0⟩
    refine bD hT ?_
    clear hT
    unfold dQ at h0
    refine bV aF 1 [(4, (eI (-1 : Int)))] ?_
    refine bM ?_
    obtain rfl := oI h0
    exact aH (Q_r hO)
  refine aX aF 3 [] [(7, (eI (lN s0))), (8, (eI (0 : Int)))] ?_
  refine bR 0 ?_
  refine cR [(0, (eL aE s0)), (1, (.fn (.func f1_f) f1_a f1_c)), (7, (eI (lN s0))), (8, (eI (0 : Int)))] ?_
  refine cK (fun T H => ∃ t7 : Int, ∃ t8 : Int, Has T [(0, (eL aE s0)), (1, (.fn (.func f1_f) f1_a f1_c)), (7, (eI t7)), (8, (eI t8))] ∧ aM ⟨H0, [], []⟩ H [] ∧ fF f1 s0 t7 t8 = some r) ?_ ⟨(lN s0), (0 : Int), .eq (by kernel_rfl), hO, h0⟩
  clear hO h0
  rintro T H ⟨t7, t8, hT, hO, h0⟩
  refine bD hT ?_
  clear hT
  unfold fF at h0
  obtain ⟨rr0, hl0, h0⟩ := aY h0
  refine cB (by kernel_rfl) (fun (s : Int) T H => Has T [(0, (eL aE s0)), (1, (.fn (.func f1_f) f1_a f1_c)), (7, (eI t7)), (8, (eI s))] ∧ aM ⟨H0, [], []⟩ H []) hl0 ⟨.eq (by kernel_rfl), hO⟩ ?_
  clear hO
  rintro k0 s out1 T H ⟨hT, hO⟩ h1 ho0
  obtain ⟨t8, rfl⟩ : ∃ x, x = s := ⟨_, rfl⟩
  replace h1 : fG f1 s0 t7 t8 = some out1 := h1
  refine bD hT ?_
  clear hT
  unfold fG at h1
  refine aX aF 1 [] [(9, (aJ (decide (t8 < t7))))] ?_
  refine aP ?_
  refine bN h1 (fun h1 => ?_) (fun h1 => ?_)
  · refine bP ?_
    refine bG [(0, (eL aE s0)), (1, (.fn (.func f1_f) f1_a f1_c)), (7, (eI t7)), (8, (eI t8))] ?_
    refine aP ?_
    refine bR 1 ?_
    refine aX aF 2 [] [(5, (eI t8))] ?_
    refine aP ?_
    refine aT aF 6 ?_
    obtain ⟨c2, h1⟩ := bK h1
    refine oS 5 [0 ≤ t8 ∧ t8 < (lN s0)] ⟨c2, trivial⟩ ?_
    obtain ⟨x3, hx4, h1⟩ := aY h1
    refine cI (f1_h (gD s0 t8) _ hx4) hO ?_
    intro H hO
    refine cJ ?_
    refine bS [] [(16, (aJ x3))] ?_
    refine bN h1 (fun h1 => ?_) (fun h1 => ?_)
    · refine bV aF 2 [(4, (eI t8))] ?_
      refine bM ?_
      obtain rfl := oI h1
      obtain rfl : _ = rr0 := ho0
      replace h0 : some t8 = some r := h0
      obtain rfl := oI h0
      exact aH (bU (bB (bB (bU (bB (Q_r hO))))))
    refine bP ?_
    refine cX [(0, (eL aE s0)), (1, (.fn (.func f1_f) f1_a f1_c)), (7, (eI t7)), (8, (eI t8))] ?_
    refine aH (aV (aG (?_)))
    refine aT aF 2 ?_
    refine bF ?_
    exact aH (aG (⟨rfl, _, (oI h1).symm, .eq (by kernel_rfl), hO⟩))
  refine dJ 0 ?_
  obtain rfl := oI h1
  obtain rfl : _ = rr0 := ho0
  replace h0 : dQ f1  = some r := h0
  exact aH (aU (aU (bQ (aG (⟨rfl, .eq (by kernel_rfl), hO, h0⟩)))))

theorem mP (s0 : (List aD)) (f1_f : Nat) (f1_a f1_c : List V) (f1 : aD → Option Bool) (f1_h : ∀ a0 r, f1 a0 = some r → bW Try.prog f1_f (f1_a ++ [(aE a0)] ++ f1_c) (aJ r)) (r : Bool) (h0 : cT s0 f1 = some r) : bW Try.prog 50 [(eL aE s0), (.fn (.func f1_f) f1_a f1_c)] (aJ r) := by
  intro H0
  refine cH Try.func50 ?_
  have hO := aM.start H0
  unfold cT at h0
  refine aX aF 1 [] [] ?_
  refine aP ?_
  refine aT aF 5 ?_
  refine bO 2 ?_
  obtain ⟨x1, hx2, h0⟩ := aY h0
  refine cI (tK s0 f1_f f1_a f1_c f1 f1_h _ hx2) hO ?_
  intro H hO
  refine bF ?_
  refine bG [(4, (aJ (decide ((0 : Int) ≤ x1))))] ?_
  refine bM ?_
  obtain rfl := oI h0
  exact aH (Q_r hO)

theorem MP (x0 : aD) (r : Bool) (h0 : rM x0 = some r) : bW Try.prog 56 [(aE x0)] (aJ r) := by
  intro H0
  refine cH Try.func56 ?_
  have hO := aM.start H0
  unfold rM at h0
  refine aP ?_
  refine aT aF 2 ?_
  refine gP 3 (aE x0) (by kernel_rfl) (by kernel_rfl) ?_
  refine bF ?_
  refine bG [(1, (.rp (aE x0)))] ?_
  refine aP ?_
  refine aT aF 15 ?_
  refine bO 2 ?_
  obtain ⟨x1, hx2, h0⟩ := aY h0
  refine cI (yM x0.Row _ hx2) hO ?_
  intro H hO
  refine bF ?_
  refine bG [(2, (aJ (((!x1) || (decide ((1048576 : Int) < x0.Net))) || (decide (x0.Net < (-1048576 : Int))))))] ?_
  refine bM ?_
  obtain rfl := oI h0
  exact aH (Q_r hO)

theorem ME (x0 : aD) (r : Bool) (h0 : rQ x0 = some r) : bW Try.prog 58 [(aE x0)] (aJ r) := by
  intro H0
  refine cH Try.func58 ?_
  have hO := aM.start H0
  unfold rQ at h0
  refine aP ?_
  refine aT aF 2 ?_
  refine gP 3 (aE x0) (by kernel_rfl) (by kernel_rfl) ?_
  refine bF ?_
  refine bG [(1, (.rp (aE x0)))] ?_
  refine bV aF 9 [(2, (aJ ((decide (x0.At < (-1 : Int))) || (decide ((1125899906842624 : Int) < x0.At)))))] ?_
  refine bM ?_
  obtain rfl := oI h0
  exact aH (Q_r hO)

theorem wD (s0 : (List aD)) (r : (List aD)) (h0 : eW s0 = some r) : zE Try.prog 59 [(eL aE s0)] (fun lo => (.msl 3 lo 0 (List.length r))) 3 (List.map aE r) := by
  intro H0
  refine cH Try.func59 ?_
  have hO := aM.start H0
  unfold eW at h0
  refine aX aF 1 [] [] ?_
  refine aP ?_
  refine aP ?_
  refine aT aF 2 ?_
  refine bO 1 ?_
  refine YY false (List.length s0) (fun i => aE (List.getD s0 i default)) (by kernel_rfl) (by kernel_rfl) ?_
  intro b1 hn2
  refine cJ ?_
  refine bS [] [(4, (aJ b1))] ?_
  refine nW (b1) (fun hc3 => ?_) (fun hc3 => ?_)
  · replace h0 : some ([] : List aD) = some r := by
      have hl := List.eq_nil_of_length_eq_zero (hn2 hc3)
      rw [hl] at h0
      exact (bK h0).2
    refine bV aF 1 [(2, (.sl true 0 (fun _ => .bad)))] ?_
    refine bM ?_
    refine cX [(2, (.sl true 0 (fun _ => .bad)))] ?_
    refine WS (el := (fun _ => .bad)) 0 2 3 hO (by kernel_rfl) ?_
    intro lo4 H5 hO
    obtain rfl := oI h0
    exact aH (bB (pQ (x := (.msl 3 lo4 0 (List.length ([] : List aD)))) (by kernel_rfl) (aZ.refl _) ⟨lo4, rfl, hO⟩))
  · refine bP ?_
    refine bG [(0, (eL aE s0))] ?_
    refine aP ?_
    refine aT aF 4 ?_
    refine pL (xs := []) (k := 3) (by kernel_rfl) (by kernel_rfl) ?_
    refine bO 2 ?_
    obtain ⟨c7, h0⟩ := bK h0
    refine SB (e := aE) s0 (fun _ => .bad) 3 40 (eL aE s0) (fun lo6 => [(lo6, 3, List.map aE s0)]) (by kernel_rfl) (by kernel_rfl) hO (KO (fun _ => by kernel_rfl)) c7 (fun _ => by kernel_rfl) ?_
    intro lo6 H hO
    refine bF ?_
    refine bG [(2, (.msl 3 lo6 0 (List.length s0)))] ?_
    refine bM ?_
    obtain rfl := oI h0
    exact aH (pQ (x := (.msl 3 lo6 0 (List.length s0))) (by kernel_rfl) (aZ.refl _) ⟨lo6, rfl, hO⟩)

theorem mY (lo0p : Nat) (aA : (List aD)) (a1 : Int) (b2 : Int) (cmp3_f : Nat) (cmp3_a cmp3_c : List V) (cmp3 : aD → aD → Option Int) (cmp3_h : ∀ a0 a1 r, cmp3 a0 a1 = some r → bW Try.prog cmp3_f (cmp3_a ++ [(aE a0), (aE a1)] ++ cmp3_c) (eI r)) (r : List aD) (h0 : dL aA a1 b2 cmp3 = some r) : kV Try.prog 127 lo0p 3 (List.map aE aA) (List.map aE r) [(.msl 3 lo0p 0 (List.length aA)), (eI a1), (eI b2), (.fn (.func cmp3_f) cmp3_a cmp3_c)] (.tup []) := by
  intro H0 hl0
  refine cH Try.func127 ?_
  have hO := aM.pS hl0
  clear hl0
  obtain ⟨N0, hN0⟩ : ∃ n, n = List.length aA := ⟨_, rfl⟩
  have hN : List.length aA = N0 := hN0.symm
  unfold dL at h0
  refine aX aF 3 [] [(8, (eI (wR (a1 + (1 : Int)))))] ?_
  refine bR 0 ?_
  refine cR [(0, (.msl 3 lo0p 0 (List.length aA))), (1, (eI a1)), (2, (eI b2)), (3, (.fn (.func cmp3_f) cmp3_a cmp3_c)), (8, (eI (wR (a1 + (1 : Int)))))] ?_
  refine cK (fun T H => ∃ aA : List aD, ∃ i8 : Int, Has T [(0, (.msl 3 lo0p 0 (List.length aA))), (1, (eI a1)), (2, (eI b2)), (3, (.fn (.func cmp3_f) cmp3_a cmp3_c)), (8, (eI i8))] ∧ aM ⟨H0, [lo0p], []⟩ H [(lo0p, 3, List.map aE aA)] ∧ List.length aA = N0 ∧ iN cmp3 aA a1 b2 i8 = some r) ?_ ⟨aA, wR (a1 + (1 : Int)), .eq (by kernel_rfl), hO, hN, h0⟩
  clear hO hN h0
  rintro T H ⟨aA, i8, hT, hO, hN, h0⟩
  refine bD hT ?_
  clear hT
  unfold iN at h0
  obtain ⟨rr0, hl0, h0⟩ := aY h0
  refine cB (by kernel_rfl) (fun (s : List aD × Int) T H => Has T [(0, (.msl 3 lo0p 0 (List.length s.1))), (1, (eI a1)), (2, (eI b2)), (3, (.fn (.func cmp3_f) cmp3_a cmp3_c)), (8, (eI s.2))] ∧ aM ⟨H0, [lo0p], []⟩ H [(lo0p, 3, List.map aE s.1)] ∧ List.length s.1 = N0) hl0 ⟨.eq (by kernel_rfl), hO, hN⟩ ?_
  clear hO hN
  rintro k0 s out1 T H ⟨hT, hO, hN⟩ h1 ho0
  obtain ⟨aA, i8⟩ := s
  replace h1 : iK cmp3 a1 b2 aA i8 = some out1 := h1
  try dsimp only at hT
  refine bD hT ?_
  clear hT
  unfold iK at h1
  refine aP ?_
  refine aX aF 3 [] [(14, (aJ (decide (i8 < b2))))] ?_
  refine bN h1 (fun h1 => ?_) (fun h1 => ?_)
  · refine bP ?_
    refine bG [(0, (.msl 3 lo0p 0 (List.length aA))), (1, (eI a1)), (2, (eI b2)), (3, (.fn (.func cmp3_f) cmp3_a cmp3_c)), (8, (eI i8))] ?_
    refine cU (fun T H => ∃ aA : List aD, Has T [(0, (.msl 3 lo0p 0 (List.length aA))), (1, (eI a1)), (2, (eI b2)), (3, (.fn (.func cmp3_f) cmp3_a cmp3_c)), (8, (eI i8))] ∧ aM ⟨H0, [lo0p], []⟩ H [(lo0p, 3, List.map aE aA)] ∧ List.length aA = N0 ∧ eP cmp3 aA a1 b2 i8 = some out1) ?_ ?_
    · clear hO hN h1
      rintro T H ⟨aA, hT, hO, hN, h1⟩
      refine bD hT ?_
      clear hT
      unfold eP at h1
      refine aT aF 3 ?_
      refine bF ?_
      exact aH (aG (⟨rfl, _, (oI h1).symm, .eq (by kernel_rfl), hO, hN⟩))
    refine bR 1 ?_
    refine aX aF 2 [] [(9, (eI i8))] ?_
    refine bR 2 ?_
    refine cR [(0, (.msl 3 lo0p 0 (List.length aA))), (1, (eI a1)), (2, (eI b2)), (3, (.fn (.func cmp3_f) cmp3_a cmp3_c)), (8, (eI i8)), (9, (eI i8))] ?_
    refine cK (fun T H => ∃ aA : List aD, ∃ j9 : Int, Has T [(0, (.msl 3 lo0p 0 (List.length aA))), (1, (eI a1)), (2, (eI b2)), (3, (.fn (.func cmp3_f) cmp3_a cmp3_c)), (8, (eI i8)), (9, (eI j9))] ∧ aM ⟨H0, [lo0p], []⟩ H [(lo0p, 3, List.map aE aA)] ∧ List.length aA = N0 ∧ iO cmp3 aA a1 b2 i8 j9 = some out1) ?_ ⟨aA, i8, .eq (by kernel_rfl), hO, hN, h1⟩
    clear hO hN h1
    rintro T H ⟨aA, j9, hT, hO, hN, h1⟩
    refine bD hT ?_
    clear hT
    unfold iO at h1
    obtain ⟨rr1, hl1, h1⟩ := aY h1
    refine cB (by kernel_rfl) (fun (s : List aD × Int) T H => Has T [(0, (.msl 3 lo0p 0 (List.length s.1))), (1, (eI a1)), (2, (eI b2)), (3, (.fn (.func cmp3_f) cmp3_a cmp3_c)), (8, (eI i8)), (9, (eI s.2))] ∧ aM ⟨H0, [lo0p], []⟩ H [(lo0p, 3, List.map aE s.1)] ∧ List.length s.1 = N0) hl1 ⟨.eq (by kernel_rfl), hO, hN⟩ ?_
    clear hO hN
    rintro k1 s out2 T H ⟨hT, hO, hN⟩ h2 ho1
    obtain ⟨aA, j9⟩ := s
    replace h2 : iM cmp3 a1 b2 i8 aA j9 = some out2 := h2
    try dsimp only at hT
    refine bD hT ?_
    clear hT
    unfold iM at h2
    refine aP ?_
    refine aP ?_
    obtain ⟨c2, h2⟩ := bK h2
    obtain ⟨c3, h2⟩ := bK h2
    obtain ⟨x4, hx5, h2⟩ := aY h2
    refine jF (jG []) aF 17 ?_
    refine BY (K := fun T H => Has (lift T) [(0, (.msl 3 lo0p 0 (List.length aA))), (1, (eI a1)), (2, (eI b2)), (3, (.fn (.func cmp3_f) cmp3_a cmp3_c)), (8, (eI i8)), (9, (eI j9)), (34, (aJ ((decide (a1 < j9)) && (decide (x4 < (0 : Int))))))] ∧ aM ⟨H0, [lo0p], []⟩ H [(lo0p, 3, List.map aE aA)]) ?_ ?_
    · refine tJ 4 ?_
      refine BU (t := 21) (e := decide (a1 < j9)) (by kernel_rfl) (fun hg6 => ?_) (fun hg6 => ?_)
      · refine dN 8 [0 ≤ j9 ∧ j9 < (lN aA)] ⟨(c2 hg6), trivial⟩ ?_
        refine zP 0 lo0p 3 (0 + Int.toNat j9) (aE (gD aA j9)) (aE (gD aA j9)) (List.map aE aA) (by kernel_rfl) (by kernel_rfl) (by kernel_rfl) hO (by kernel_rfl) (cQ (c2 hg6)) ?_
        refine dN 13 [0 ≤ (wR (j9 - (1 : Int))) ∧ (wR (j9 - (1 : Int))) < (lN aA)] ⟨(c3 hg6), trivial⟩ ?_
        refine zP 0 lo0p 3 (0 + Int.toNat (wR (j9 - (1 : Int)))) (aE (gD aA (wR (j9 - (1 : Int))))) (aE (gD aA (wR (j9 - (1 : Int))))) (List.map aE aA) (by kernel_rfl) (by kernel_rfl) (by kernel_rfl) hO (by kernel_rfl) (cQ (c3 hg6)) ?_
        refine JY cmp3_f (cmp3_a ++ [(aE (gD aA j9)), (aE (gD aA (wR (j9 - (1 : Int)))))] ++ cmp3_c) (eI x4) (by kernel_rfl) (by kernel_rfl) (cmp3_h (gD aA j9) (gD aA (wR (j9 - (1 : Int)))) _ (lE hx5 hg6)) hO ?_
        intro H hO
        refine pV ?_
        exact ⟨⟨[(0, (.msl 3 lo0p 0 (List.length aA))), (1, (eI a1)), (2, (eI b2)), (3, (.fn (.func cmp3_f) cmp3_a cmp3_c)), (8, (eI i8)), (9, (eI j9)), (34, (aJ (decide (x4 < (0 : Int)))))], by kernel_rfl, rfl, ⟨aZ.refl _, aZ.refl _, aZ.refl _, aZ.refl _, aZ.refl _, aZ.refl _, aZ.eq (congrArg aJ (AR hg6 rfl).symm), trivial⟩⟩, hO⟩
      refine pV ?_
      exact ⟨⟨[(0, (.msl 3 lo0p 0 (List.length aA))), (1, (eI a1)), (2, (eI b2)), (3, (.fn (.func cmp3_f) cmp3_a cmp3_c)), (8, (eI i8)), (9, (eI j9)), (34, (aJ false))], by kernel_rfl, rfl, ⟨aZ.refl _, aZ.refl _, aZ.refl _, aZ.refl _, aZ.refl _, aZ.refl _, aZ.eq (congrArg aJ (AR hg6 rfl).symm), trivial⟩⟩, hO⟩
    · rintro T H ⟨hT, hO⟩
      refine cN hT ?_
      clear hT
      refine aH (aG ?_)
      refine bN h2 (fun h2 => ?_) (fun h2 => ?_)
      · refine bP ?_
        refine bG [(0, (.msl 3 lo0p 0 (List.length aA))), (1, (eI a1)), (2, (eI b2)), (3, (.fn (.func cmp3_f) cmp3_a cmp3_c)), (8, (eI i8)), (9, (eI j9))] ?_
        refine aP ?_
        refine bR 3 ?_
        refine jF (jG []) aF 18 ?_
        obtain ⟨c8, h2⟩ := bK h2
        refine dN 9 [0 ≤ (wR (j9 - (1 : Int))) ∧ (wR (j9 - (1 : Int))) < (lN aA)] ⟨c8, trivial⟩ ?_
        refine kP 0 lo0p 3 (0 + Int.toNat (wR (j9 - (1 : Int)))) (aE (gD aA (wR (j9 - (1 : Int))))) (aE (gD aA (wR (j9 - (1 : Int))))) (List.map aE aA) hO (cQ c8) ?_
        obtain ⟨c9, h2⟩ := bK h2
        refine dN 13 [0 ≤ j9 ∧ j9 < (lN aA)] ⟨c9, trivial⟩ ?_
        refine kP 0 lo0p 3 (0 + Int.toNat j9) (aE (gD aA j9)) (aE (gD aA j9)) (List.map aE aA) hO (cQ c9) ?_
        obtain ⟨c10, h2⟩ := bK h2
        refine dN 15 [0 ≤ j9 ∧ j9 < (lN aA)] ⟨c10, trivial⟩ ?_
        refine rF 0 lo0p 3 (0 + Int.toNat j9) (aE (gD aA j9)) (aE (gD aA (wR (j9 - (1 : Int))))) (List.map aE aA) [(lo0p, 3, List.map aE (List.set aA (Int.toNat j9) (gD aA (wR (j9 - (1 : Int))))))] hO (cQ c10) (by simp only [List.set, nN]) ?_
        intro H hO
        replace hN : List.length (List.set aA (Int.toNat j9) (gD aA (wR (j9 - (1 : Int))))) = N0 := by simpa using hN
        obtain ⟨c11, h2⟩ := bK h2
        refine dN 17 [0 ≤ (wR (j9 - (1 : Int))) ∧ (wR (j9 - (1 : Int))) < (lN aA)] ⟨c11, trivial⟩ ?_
        refine rF 0 lo0p 3 (0 + Int.toNat (wR (j9 - (1 : Int)))) (aE (gD (List.set aA (Int.toNat j9) (gD aA (wR (j9 - (1 : Int))))) (wR (j9 - (1 : Int))))) (aE (gD aA j9)) (List.map aE (List.set aA (Int.toNat j9) (gD aA (wR (j9 - (1 : Int)))))) [(lo0p, 3, List.map aE (List.set (List.set aA (Int.toNat j9) (gD aA (wR (j9 - (1 : Int))))) (Int.toNat (wR (j9 - (1 : Int)))) (gD aA j9)))] hO (wI c11 (by simp [])) (by simp only [List.set, nN]) ?_
        intro H hO
        replace hN : List.length (List.set (List.set aA (Int.toNat j9) (gD aA (wR (j9 - (1 : Int))))) (Int.toNat (wR (j9 - (1 : Int)))) (gD aA j9)) = N0 := by simpa using hN
        refine wT (by kernel_rfl) ?_
        refine cN (l := [(0, (.msl 3 lo0p 0 (List.length (List.set (List.set aA (Int.toNat j9) (gD aA (wR (j9 - (1 : Int))))) (Int.toNat (wR (j9 - (1 : Int)))) (gD aA j9))))), (1, (eI a1)), (2, (eI b2)), (3, (.fn (.func cmp3_f) cmp3_a cmp3_c)), (8, (eI i8)), (9, (eI j9))]) ⟨[(0, (.msl 3 lo0p 0 (List.length aA))), (1, (eI a1)), (2, (eI b2)), (3, (.fn (.func cmp3_f) cmp3_a cmp3_c)), (8, (eI i8)), (9, (eI j9))], by kernel_rfl, rfl, ⟨aZ.eq (by simp []), aZ.refl _, aZ.refl _, aZ.refl _, aZ.refl _, aZ.refl _, trivial⟩⟩ ?_
        refine aH (aV (aG (?_)))
        refine aT aF 3 ?_
        refine bF ?_
        exact aH (aG (⟨rfl, _, (oI h2).symm, .eq (by kernel_rfl), hO, hN⟩))
      refine dJ 2 ?_
      obtain rfl := oI h2
      obtain rfl : _ = rr1 := ho1
      replace h1 : eP cmp3 aA a1 b2 i8 = some out1 := h1
      exact aH (aU (aU (bQ (aV (aG (⟨rfl, _, .eq (by kernel_rfl), hO, hN, h1⟩))))))
  refine dJ 0 ?_
  obtain rfl := oI h1
  obtain rfl : _ = rr0 := ho0
  replace h0 : some aA = some r := h0
  obtain rfl := oI h0
  exact aH (aU (aU (bQ (qB (x := (.tup [])) (by kernel_rfl) (aZ.refl _) ⟨rfl, hO.ext, hO.at 0 (by kernel_rfl), by simp only [List.length_map]; exact hN.trans hN0⟩))))

theorem kO (lo0p : Nat) (aA : (List aD)) (a1 : Int) (b2 : Int) (n3 : Int) (cmp4_f : Nat) (cmp4_a cmp4_c : List V) (cmp4 : aD → aD → Option Int) (cmp4_h : ∀ a0 a1 r, cmp4 a0 a1 = some r → bW Try.prog cmp4_f (cmp4_a ++ [(aE a0), (aE a1)] ++ cmp4_c) (eI r)) (r : List aD) (h0 : eD aA a1 b2 n3 cmp4 = some r) : kV Try.prog 142 lo0p 3 (List.map aE aA) (List.map aE r) [(.msl 3 lo0p 0 (List.length aA)), (eI a1), (eI b2), (eI n3), (.fn (.func cmp4_f) cmp4_a cmp4_c)] (.tup []) := by
  intro H0 hl0
  refine cH Try.func142 ?_
  have hO := aM.pS hl0
  clear hl0
  obtain ⟨N0, hN0⟩ : ∃ n, n = List.length aA := ⟨_, rfl⟩
  have hN : List.length aA = N0 := hN0.symm
  unfold eD at h0
  refine aX aF 1 [4] [(10, (eI (0 : Int)))] ?_
  refine bR 0 ?_
  refine cR [(0, (.msl 3 lo0p 0 (List.length aA))), (1, (eI a1)), (2, (eI b2)), (3, (eI n3)), (10, (eI (0 : Int)))] ?_
  refine cK (fun T H => ∃ aA : List aD, ∃ i10 : Int, Has T [(0, (.msl 3 lo0p 0 (List.length aA))), (1, (eI a1)), (2, (eI b2)), (3, (eI n3)), (10, (eI i10))] ∧ aM ⟨H0, [lo0p], []⟩ H [(lo0p, 3, List.map aE aA)] ∧ List.length aA = N0 ∧ jL cmp4 aA a1 b2 n3 i10 = some r) ?_ ⟨aA, (0 : Int), .eq (by kernel_rfl), hO, hN, h0⟩
  clear hO hN h0
  rintro T H ⟨aA, i10, hT, hO, hN, h0⟩
  refine bD hT ?_
  clear hT
  unfold jL at h0
  obtain ⟨rr0, hl0, h0⟩ := aY h0
  refine cB (by kernel_rfl) (fun (s : List aD × Int) T H => Has T [(0, (.msl 3 lo0p 0 (List.length s.1))), (1, (eI a1)), (2, (eI b2)), (3, (eI n3)), (10, (eI s.2))] ∧ aM ⟨H0, [lo0p], []⟩ H [(lo0p, 3, List.map aE s.1)] ∧ List.length s.1 = N0) hl0 ⟨.eq (by kernel_rfl), hO, hN⟩ ?_
  clear hO hN
  rintro k0 s out1 T H ⟨hT, hO, hN⟩ h1 ho0
  obtain ⟨aA, i10⟩ := s
  replace h1 : jX cmp4 a1 b2 n3 aA i10 = some out1 := h1
  try dsimp only at hT
  refine bD hT ?_
  clear hT
  unfold jX at h1
  refine aP ?_
  refine aX aF 3 [] [(13, (aJ (decide (i10 < n3))))] ?_
  refine bN h1 (fun h1 => ?_) (fun h1 => ?_)
  · refine bP ?_
    refine bG [(0, (.msl 3 lo0p 0 (List.length aA))), (1, (eI a1)), (2, (eI b2)), (3, (eI n3)), (10, (eI i10))] ?_
    refine aP ?_
    refine bR 1 ?_
    refine jF (jG []) aF 24 ?_
    obtain ⟨c2, h1⟩ := bK h1
    refine dN 13 [0 ≤ (wR (b2 + i10)) ∧ (wR (b2 + i10)) < (lN aA)] ⟨c2, trivial⟩ ?_
    refine kP 0 lo0p 3 (0 + Int.toNat (wR (b2 + i10))) (aE (gD aA (wR (b2 + i10)))) (aE (gD aA (wR (b2 + i10)))) (List.map aE aA) hO (cQ c2) ?_
    obtain ⟨c3, h1⟩ := bK h1
    refine dN 19 [0 ≤ (wR (a1 + i10)) ∧ (wR (a1 + i10)) < (lN aA)] ⟨c3, trivial⟩ ?_
    refine kP 0 lo0p 3 (0 + Int.toNat (wR (a1 + i10))) (aE (gD aA (wR (a1 + i10)))) (aE (gD aA (wR (a1 + i10)))) (List.map aE aA) hO (cQ c3) ?_
    obtain ⟨c4, h1⟩ := bK h1
    refine dN 21 [0 ≤ (wR (a1 + i10)) ∧ (wR (a1 + i10)) < (lN aA)] ⟨c4, trivial⟩ ?_
    refine rF 0 lo0p 3 (0 + Int.toNat (wR (a1 + i10))) (aE (gD aA (wR (a1 + i10)))) (aE (gD aA (wR (b2 + i10)))) (List.map aE aA) [(lo0p, 3, List.map aE (List.set aA (Int.toNat (wR (a1 + i10))) (gD aA (wR (b2 + i10)))))] hO (cQ c4) (by simp only [List.set, nN]) ?_
    intro H hO
    replace hN : List.length (List.set aA (Int.toNat (wR (a1 + i10))) (gD aA (wR (b2 + i10)))) = N0 := by simpa using hN
    obtain ⟨c5, h1⟩ := bK h1
    refine dN 23 [0 ≤ (wR (b2 + i10)) ∧ (wR (b2 + i10)) < (lN aA)] ⟨c5, trivial⟩ ?_
    refine rF 0 lo0p 3 (0 + Int.toNat (wR (b2 + i10))) (aE (gD (List.set aA (Int.toNat (wR (a1 + i10))) (gD aA (wR (b2 + i10)))) (wR (b2 + i10)))) (aE (gD aA (wR (a1 + i10)))) (List.map aE (List.set aA (Int.toNat (wR (a1 + i10))) (gD aA (wR (b2 + i10))))) [(lo0p, 3, List.map aE (List.set (List.set aA (Int.toNat (wR (a1 + i10))) (gD aA (wR (b2 + i10)))) (Int.toNat (wR (b2 + i10))) (gD aA (wR (a1 + i10)))))] hO (wI c5 (by simp [])) (by simp only [List.set, nN]) ?_
    intro H hO
    replace hN : List.length (List.set (List.set aA (Int.toNat (wR (a1 + i10))) (gD aA (wR (b2 + i10)))) (Int.toNat (wR (b2 + i10))) (gD aA (wR (a1 + i10)))) = N0 := by simpa using hN
    refine wT (by kernel_rfl) ?_
    refine cN (l := [(0, (.msl 3 lo0p 0 (List.length (List.set (List.set aA (Int.toNat (wR (a1 + i10))) (gD aA (wR (b2 + i10)))) (Int.toNat (wR (b2 + i10))) (gD aA (wR (a1 + i10))))))), (1, (eI a1)), (2, (eI b2)), (3, (eI n3)), (10, (eI i10))]) ⟨[(0, (.msl 3 lo0p 0 (List.length aA))), (1, (eI a1)), (2, (eI b2)), (3, (eI n3)), (10, (eI i10))], by kernel_rfl, rfl, ⟨aZ.eq (by simp []), aZ.refl _, aZ.refl _, aZ.refl _, aZ.refl _, trivial⟩⟩ ?_
    refine aH (aV (aG (?_)))
    refine aT aF 3 ?_
    refine bF ?_
    exact aH (aG (⟨rfl, _, (oI h1).symm, .eq (by kernel_rfl), hO, hN⟩))
  refine dJ 0 ?_
  obtain rfl := oI h1
  obtain rfl : _ = rr0 := ho0
  replace h0 : some aA = some r := h0
  obtain rfl := oI h0
  exact aH (aU (aU (bQ (qB (x := (.tup [])) (by kernel_rfl) (aZ.refl _) ⟨rfl, hO.ext, hO.at 0 (by kernel_rfl), by simp only [List.length_map]; exact hN.trans hN0⟩))))

theorem wM (lo0p : Nat) (aA : (List aD)) (a1 : Int) (m2 : Int) (b3 : Int) (cmp4_f : Nat) (cmp4_a cmp4_c : List V) (cmp4 : aD → aD → Option Int) (cmp4_h : ∀ a0 a1 r, cmp4 a0 a1 = some r → bW Try.prog cmp4_f (cmp4_a ++ [(aE a0), (aE a1)] ++ cmp4_c) (eI r)) (r : List aD) (h0 : lZ aA a1 m2 b3 cmp4 = some r) : kV Try.prog 137 lo0p 3 (List.map aE aA) (List.map aE r) [(.msl 3 lo0p 0 (List.length aA)), (eI a1), (eI m2), (eI b3), (.fn (.func cmp4_f) cmp4_a cmp4_c)] (.tup []) := by
  intro H0 hl0
  refine cH Try.func137 ?_
  have hO := aM.pS hl0
  clear hl0
  obtain ⟨N0, hN0⟩ : ∃ n, n = List.length aA := ⟨_, rfl⟩
  have hN : List.length aA = N0 := hN0.symm
  unfold lZ at h0
  refine aX aF 4 [1] [(10, (eI (wR (m2 - a1))))] ?_
  refine aX aF 4 [3] [(11, (eI (wR (b3 - m2))))] ?_
  refine cU (fun T H => ∃ aA : List aD, ∃ i10 : Int, Has T [(0, (.msl 3 lo0p 0 (List.length aA))), (2, (eI m2)), (4, (.fn (.func cmp4_f) cmp4_a cmp4_c)), (10, (eI i10))] ∧ aM ⟨H0, [lo0p], []⟩ H [(lo0p, 3, List.map aE aA)] ∧ List.length aA = N0 ∧ hM cmp4 aA m2 i10 = some r) ?_ ?_
  · clear hO hN h0
    rintro T H ⟨aA, i10, hT, hO, hN, h0⟩
    refine bD hT ?_
    clear hT
    unfold hM at h0
    refine aT aF 8 ?_
    refine bO 7 ?_
    obtain ⟨x1, hx2, h0⟩ := aY h0
    refine nY [(lo0p, 3, List.map aE x1)] 0 (kO lo0p aA (wR (m2 - i10)) m2 i10 cmp4_f cmp4_a cmp4_c cmp4 cmp4_h _ hx2) hO ?_
    intro H hO hl3
    simp only [List.length_map] at hl3
    replace hN := hl3.trans hN
    refine cJ ?_
    refine cN (l := [(0, (.msl 3 lo0p 0 (List.length x1)))]) ⟨[(0, (.msl 3 lo0p 0 (List.length aA)))], by kernel_rfl, rfl, ⟨aZ.eq (by simp [hl3]), trivial⟩⟩ ?_
    obtain rfl := oI h0
    exact aH (qB (x := (.tup [])) (by kernel_rfl) (aZ.refl _) ⟨rfl, hO.ext, hO.at 0 (by kernel_rfl), by simp only [List.length_map]; exact hN.trans hN0⟩)
  refine bR 0 ?_
  refine cR [(0, (.msl 3 lo0p 0 (List.length aA))), (2, (eI m2)), (4, (.fn (.func cmp4_f) cmp4_a cmp4_c)), (10, (eI (wR (m2 - a1)))), (11, (eI (wR (b3 - m2))))] ?_
  refine cK (fun T H => ∃ aA : List aD, ∃ i10 : Int, ∃ j11 : Int, Has T [(0, (.msl 3 lo0p 0 (List.length aA))), (2, (eI m2)), (4, (.fn (.func cmp4_f) cmp4_a cmp4_c)), (10, (eI i10)), (11, (eI j11))] ∧ aM ⟨H0, [lo0p], []⟩ H [(lo0p, 3, List.map aE aA)] ∧ List.length aA = N0 ∧ lK cmp4 aA m2 i10 j11 = some r) ?_ ⟨aA, wR (m2 - a1), wR (b3 - m2), .eq (by kernel_rfl), hO, hN, h0⟩
  clear hO hN h0
  rintro T H ⟨aA, i10, j11, hT, hO, hN, h0⟩
  refine bD hT ?_
  clear hT
  unfold lK at h0
  obtain ⟨rr0, hl0, h0⟩ := aY h0
  refine cB (by kernel_rfl) (fun (s : List aD × Int × Int) T H => Has T [(0, (.msl 3 lo0p 0 (List.length s.1))), (2, (eI m2)), (4, (.fn (.func cmp4_f) cmp4_a cmp4_c)), (10, (eI s.2.1)), (11, (eI s.2.2))] ∧ aM ⟨H0, [lo0p], []⟩ H [(lo0p, 3, List.map aE s.1)] ∧ List.length s.1 = N0) hl0 ⟨.eq (by kernel_rfl), hO, hN⟩ ?_
  clear hO hN
  rintro k0 s out1 T H ⟨hT, hO, hN⟩ h1 ho0
  obtain ⟨aA, i10, j11⟩ := s
  replace h1 : lO cmp4 m2 aA i10 j11 = some out1 := h1
  try dsimp only at hT
  refine bD hT ?_
  clear hT
  unfold lO at h1
  refine aP ?_
  refine aX aF 3 [] [(20, (aJ (!decide (i10 = j11))))] ?_
  refine bN h1 (fun h1 => ?_) (fun h1 => ?_)
  · refine bP ?_
    refine bG [(0, (.msl 3 lo0p 0 (List.length aA))), (2, (eI m2)), (4, (.fn (.func cmp4_f) cmp4_a cmp4_c)), (10, (eI i10)), (11, (eI j11))] ?_
    refine bR 1 ?_
    refine aX aF 3 [] [(23, (aJ (decide (j11 < i10))))] ?_
    refine bN h1 (fun h1 => ?_) (fun h1 => ?_)
    · refine aP ?_
      refine aT aF 8 ?_
      refine bO 7 ?_
      obtain ⟨x6, hx7, h1⟩ := aY h1
      refine nY [(lo0p, 3, List.map aE x6)] 0 (kO lo0p aA (wR (m2 - i10)) m2 j11 cmp4_f cmp4_a cmp4_c cmp4 cmp4_h _ hx7) hO ?_
      intro H hO hl8
      simp only [List.length_map] at hl8
      replace hN := hl8.trans hN
      refine cJ ?_
      refine cN (l := [(0, (.msl 3 lo0p 0 (List.length x6))), (2, (eI m2)), (4, (.fn (.func cmp4_f) cmp4_a cmp4_c)), (10, (eI i10)), (11, (eI j11))]) ⟨[(0, (.msl 3 lo0p 0 (List.length aA))), (2, (eI m2)), (4, (.fn (.func cmp4_f) cmp4_a cmp4_c)), (10, (eI i10)), (11, (eI j11))], by kernel_rfl, rfl, ⟨aZ.eq (by simp [hl8]), aZ.refl _, aZ.refl _, aZ.refl _, aZ.refl _, trivial⟩⟩ ?_
      refine aH (aG (?_))
      refine aT aF 4 ?_
      refine bF ?_
      exact aH (aV (aG (⟨rfl, _, (oI h1).symm, .eq (by kernel_rfl), hO, hN⟩)))
    refine aP ?_
    refine aT aF 12 ?_
    refine bO 11 ?_
    obtain ⟨x9, hx10, h1⟩ := aY h1
    refine nY [(lo0p, 3, List.map aE x9)] 0 (kO lo0p aA (wR (m2 - i10)) (wR ((wR (m2 + j11)) - i10)) i10 cmp4_f cmp4_a cmp4_c cmp4 cmp4_h _ hx10) hO ?_
    intro H hO hl11
    simp only [List.length_map] at hl11
    replace hN := hl11.trans hN
    refine cJ ?_
    refine cN (l := [(0, (.msl 3 lo0p 0 (List.length x9))), (2, (eI m2)), (4, (.fn (.func cmp4_f) cmp4_a cmp4_c)), (10, (eI i10)), (11, (eI j11))]) ⟨[(0, (.msl 3 lo0p 0 (List.length aA))), (2, (eI m2)), (4, (.fn (.func cmp4_f) cmp4_a cmp4_c)), (10, (eI i10)), (11, (eI j11))], by kernel_rfl, rfl, ⟨aZ.eq (by simp [hl11]), aZ.refl _, aZ.refl _, aZ.refl _, aZ.refl _, trivial⟩⟩ ?_
    refine aH (aG (?_))
    refine aT aF 4 ?_
    refine bF ?_
    exact aH (aV (aG (⟨rfl, _, (oI h1).symm, .eq (by kernel_rfl), hO, hN⟩)))
  refine dJ 0 ?_
  obtain rfl := oI h1
  obtain rfl : _ = rr0 := ho0
  replace h0 : hM cmp4 aA m2 i10 = some r := h0
  exact aH (aU (aU (bQ (aG (⟨rfl, _, _, .eq (by kernel_rfl), hO, hN, h0⟩)))))

theorem sS (cmp4_f : Nat) (cmp4_a cmp4_c : List V) (cmp4 : aD → aD → Option Int) (cmp4_h : ∀ a0 a1 r, cmp4 a0 a1 = some r → bW Try.prog cmp4_f (cmp4_a ++ [(aE a0), (aE a1)] ++ cmp4_c) (eI r)) (rec : (List aD) → Int → Int → Int → Option (List aD)) (ih : ∀ (lo0p : Nat) (aA : (List aD)) (a1 : Int) (m2 : Int) (b3 : Int) (r : List aD), rec aA a1 m2 b3 = some r → kV Try.prog 128 lo0p 3 (List.map aE aA) (List.map aE r) [(.msl 3 lo0p 0 (List.length aA)), (eI a1), (eI m2), (eI b3), (.fn (.func cmp4_f) cmp4_a cmp4_c)] (.tup [])) (lo0p : Nat) (aA : (List aD)) (a1 : Int) (m2 : Int) (b3 : Int) (r : List aD) (h0 : dU cmp4 rec aA a1 m2 b3 = some r) : kV Try.prog 128 lo0p 3 (List.map aE aA) (List.map aE r) [(.msl 3 lo0p 0 (List.length aA)), (eI a1), (eI m2), (eI b3), (.fn (.func cmp4_f) cmp4_a cmp4_c)] (.tup []) := by
  intro H0 hl0
  refine cH Try.func128 ?_
  have hO := aM.pS hl0
  clear hl0
  obtain ⟨N0, hN0⟩ : ∃ n, n = List.length aA := ⟨_, rfl⟩
  have hN : List.length aA = N0 := hN0.symm
  unfold dU at h0
  refine cU (fun T H => ∃ aA : List aD, Has T [(0, (.msl 3 lo0p 0 (List.length aA))), (1, (eI a1)), (2, (eI m2)), (3, (eI b3)), (4, (.fn (.func cmp4_f) cmp4_a cmp4_c))] ∧ aM ⟨H0, [lo0p], []⟩ H [(lo0p, 3, List.map aE aA)] ∧ List.length aA = N0 ∧ kI cmp4 rec aA a1 m2 b3 = some r) ?_ ?_
  · clear hO hN h0
    rintro T H ⟨aA, hT, hO, hN, h0⟩
    refine bD hT ?_
    clear hT
    unfold kI at h0
    refine cU (fun T H => ∃ aA : List aD, Has T [(0, (.msl 3 lo0p 0 (List.length aA))), (1, (eI a1)), (2, (eI m2)), (3, (eI b3)), (4, (.fn (.func cmp4_f) cmp4_a cmp4_c))] ∧ aM ⟨H0, [lo0p], []⟩ H [(lo0p, 3, List.map aE aA)] ∧ List.length aA = N0 ∧ kJ cmp4 rec aA a1 m2 b3 = some r) ?_ ?_
    · clear hO hN h0
      rintro T H ⟨aA, hT, hO, hN, h0⟩
      refine bD hT ?_
      clear hT
      unfold kJ at h0
      refine aP ?_
      refine aT aF 7 ?_
      obtain ⟨c1, h0⟩ := bK h0
      refine rG [0 ≤ (1 : Int)] ⟨c1, trivial⟩ ?_
      refine bS [] [(18, (eI (wR (Int.fdiv (IntKind.u64.wrap (wR (a1 + b3))) (2 ^ (min (Int.toNat (1 : Int)) 64))))))] ?_
      refine aX aF 4 [] [(19, (eI (wR ((wR (Int.fdiv (IntKind.u64.wrap (wR (a1 + b3))) (2 ^ (min (Int.toNat (1 : Int)) 64)))) + m2))))] ?_
      refine aX aF 2 [] [] ?_
      refine cU (fun T H => ∃ aA : List aD, ∃ bT : Int, ∃ n19 : Int, ∃ aS : Int, ∃ r21 : Int, Has T [(0, (.msl 3 lo0p 0 (List.length aA))), (1, (eI a1)), (2, (eI m2)), (3, (eI b3)), (4, (.fn (.func cmp4_f) cmp4_a cmp4_c)), (18, (eI bT)), (19, (eI n19)), (20, (eI aS)), (21, (eI r21))] ∧ aM ⟨H0, [lo0p], []⟩ H [(lo0p, 3, List.map aE aA)] ∧ List.length aA = N0 ∧ gC cmp4 rec aA a1 m2 b3 bT n19 aS r21 = some r) ?_ ?_
      · clear hO hN h0
        rintro T H ⟨aA, bT, n19, aS, r21, hT, hO, hN, h0⟩
        refine bD hT ?_
        clear hT
        unfold gC at h0
        refine aX aF 3 [] [(22, (eI (wR (n19 - (1 : Int)))))] ?_
        refine cU (fun T H => ∃ aA : List aD, ∃ aS : Int, Has T [(0, (.msl 3 lo0p 0 (List.length aA))), (1, (eI a1)), (2, (eI m2)), (3, (eI b3)), (4, (.fn (.func cmp4_f) cmp4_a cmp4_c)), (18, (eI bT)), (19, (eI n19)), (20, (eI aS))] ∧ aM ⟨H0, [lo0p], []⟩ H [(lo0p, 3, List.map aE aA)] ∧ List.length aA = N0 ∧ gF cmp4 rec aA a1 m2 b3 bT n19 aS = some r) ?_ ?_
        · clear hO hN h0
          rintro T H ⟨aA, aS, hT, hO, hN, h0⟩
          refine bD hT ?_
          clear hT
          unfold gF at h0
          refine aX aF 4 [19] [(24, (eI (wR (n19 - aS))))] ?_
          refine cU (fun T H => ∃ aA : List aD, ∃ dV : Int, Has T [(0, (.msl 3 lo0p 0 (List.length aA))), (1, (eI a1)), (3, (eI b3)), (4, (.fn (.func cmp4_f) cmp4_a cmp4_c)), (18, (eI bT)), (20, (eI aS)), (24, (eI dV))] ∧ aM ⟨H0, [lo0p], []⟩ H [(lo0p, 3, List.map aE aA)] ∧ List.length aA = N0 ∧ fV cmp4 rec aA a1 b3 bT aS dV = some r) ?_ ?_
          · clear hO hN h0
            rintro T H ⟨aA, dV, hT, hO, hN, h0⟩
            refine bD hT ?_
            clear hT
            unfold fV at h0
            refine cU (fun T H => ∃ aA : List aD, Has T [(0, (.msl 3 lo0p 0 (List.length aA))), (3, (eI b3)), (4, (.fn (.func cmp4_f) cmp4_a cmp4_c)), (18, (eI bT)), (24, (eI dV))] ∧ aM ⟨H0, [lo0p], []⟩ H [(lo0p, 3, List.map aE aA)] ∧ List.length aA = N0 ∧ gE cmp4 rec aA b3 bT dV = some r) ?_ ?_
            · clear hO hN h0
              rintro T H ⟨aA, hT, hO, hN, h0⟩
              refine bD hT ?_
              clear hT
              unfold gE at h0
              refine aX aF 8 [] [(213, (aJ ((decide (bT < dV)) && (decide (dV < b3)))))] ?_
              refine bN h0 (fun h0 => ?_) (fun h0 => ?_)
              · refine aT aF 6 ?_
                refine bO 5 ?_
                obtain ⟨x3, hx4, h0⟩ := aY h0
                refine nY [(lo0p, 3, List.map aE x3)] 0 (ih lo0p aA bT dV b3 _ hx4) hO ?_
                intro H hO hl5
                simp only [List.length_map] at hl5
                replace hN := hl5.trans hN
                refine cJ ?_
                refine cN (l := [(0, (.msl 3 lo0p 0 (List.length x3)))]) ⟨[(0, (.msl 3 lo0p 0 (List.length aA)))], by kernel_rfl, rfl, ⟨aZ.eq (by simp [hl5]), trivial⟩⟩ ?_
                obtain rfl := oI h0
                exact aH (qB (x := (.tup [])) (by kernel_rfl) (aZ.refl _) ⟨rfl, hO.ext, hO.at 0 (by kernel_rfl), by simp only [List.length_map]; exact hN.trans hN0⟩)
              refine bP ?_
              obtain rfl := oI h0
              exact aH (qB (x := (.tup [])) (by kernel_rfl) (aZ.refl _) ⟨rfl, hO.ext, hO.at 0 (by kernel_rfl), by simp only [List.length_map]; exact hN.trans hN0⟩)
            refine aX aF 8 [] [(199, (aJ ((decide (a1 < aS)) && (decide (aS < bT)))))] ?_
            refine bN h0 (fun h0 => ?_) (fun h0 => ?_)
            · refine aT aF 6 ?_
              refine bO 5 ?_
              obtain ⟨x7, hx8, h0⟩ := aY h0
              refine nY [(lo0p, 3, List.map aE x7)] 0 (ih lo0p aA a1 aS bT _ hx8) hO ?_
              intro H hO hl9
              simp only [List.length_map] at hl9
              replace hN := hl9.trans hN
              refine cJ ?_
              refine cN (l := [(0, (.msl 3 lo0p 0 (List.length x7))), (3, (eI b3)), (4, (.fn (.func cmp4_f) cmp4_a cmp4_c)), (18, (eI bT)), (24, (eI dV))]) ⟨[(0, (.msl 3 lo0p 0 (List.length aA))), (3, (eI b3)), (4, (.fn (.func cmp4_f) cmp4_a cmp4_c)), (18, (eI bT)), (24, (eI dV))], by kernel_rfl, rfl, ⟨aZ.eq (by simp [hl9]), aZ.refl _, aZ.refl _, aZ.refl _, aZ.refl _, trivial⟩⟩ ?_
              exact aH (aG (⟨rfl, _, .eq (by kernel_rfl), hO, hN, h0⟩))
            refine bP ?_
            exact aH (aG (⟨rfl, _, .eq (by kernel_rfl), hO, hN, h0⟩))
          refine aX aF 8 [] [(185, (aJ ((decide (aS < m2)) && (decide (m2 < (wR (n19 - aS)))))))] ?_
          refine bN h0 (fun h0 => ?_) (fun h0 => ?_)
          · refine aT aF 6 ?_
            refine bO 5 ?_
            obtain ⟨x11, hx12, h0⟩ := aY h0
            refine nY [(lo0p, 3, List.map aE x11)] 0 (wM lo0p aA aS m2 (wR (n19 - aS)) cmp4_f cmp4_a cmp4_c cmp4 cmp4_h _ hx12) hO ?_
            intro H hO hl13
            simp only [List.length_map] at hl13
            replace hN := hl13.trans hN
            refine cJ ?_
            refine cN (l := [(0, (.msl 3 lo0p 0 (List.length x11))), (1, (eI a1)), (3, (eI b3)), (4, (.fn (.func cmp4_f) cmp4_a cmp4_c)), (18, (eI bT)), (20, (eI aS)), (24, (eI (wR (n19 - aS))))]) ⟨[(0, (.msl 3 lo0p 0 (List.length aA))), (1, (eI a1)), (3, (eI b3)), (4, (.fn (.func cmp4_f) cmp4_a cmp4_c)), (18, (eI bT)), (20, (eI aS)), (24, (eI (wR (n19 - aS))))], by kernel_rfl, rfl, ⟨aZ.eq (by simp [hl13]), aZ.refl _, aZ.refl _, aZ.refl _, aZ.refl _, aZ.refl _, aZ.refl _, trivial⟩⟩ ?_
            exact aH (aG (⟨rfl, _, _, .eq (by kernel_rfl), hO, hN, h0⟩))
          refine bP ?_
          exact aH (aG (⟨rfl, _, _, .eq (by kernel_rfl), hO, hN, h0⟩))
        refine bR 8 ?_
        refine cR [(0, (.msl 3 lo0p 0 (List.length aA))), (1, (eI a1)), (2, (eI m2)), (3, (eI b3)), (4, (.fn (.func cmp4_f) cmp4_a cmp4_c)), (18, (eI bT)), (19, (eI n19)), (20, (eI aS)), (21, (eI r21)), (22, (eI (wR (n19 - (1 : Int)))))] ?_
        refine cK (fun T H => ∃ aA : List aD, ∃ aS : Int, ∃ r21 : Int, ∃ p22 : Int, Has T [(0, (.msl 3 lo0p 0 (List.length aA))), (1, (eI a1)), (2, (eI m2)), (3, (eI b3)), (4, (.fn (.func cmp4_f) cmp4_a cmp4_c)), (18, (eI bT)), (19, (eI n19)), (20, (eI aS)), (21, (eI r21)), (22, (eI p22))] ∧ aM ⟨H0, [lo0p], []⟩ H [(lo0p, 3, List.map aE aA)] ∧ List.length aA = N0 ∧ kN cmp4 rec aA a1 m2 b3 bT n19 aS r21 p22 = some r) ?_ ⟨aA, aS, r21, wR (n19 - (1 : Int)), .eq (by kernel_rfl), hO, hN, h0⟩
        clear hO hN h0
        rintro T H ⟨aA, aS, r21, p22, hT, hO, hN, h0⟩
        refine bD hT ?_
        clear hT
        unfold kN at h0
        obtain ⟨rr0, hl0, h0⟩ := aY h0
        refine cB (by kernel_rfl) (fun (s : List aD × Int × Int) T H => Has T [(0, (.msl 3 lo0p 0 (List.length s.1))), (1, (eI a1)), (2, (eI m2)), (3, (eI b3)), (4, (.fn (.func cmp4_f) cmp4_a cmp4_c)), (18, (eI bT)), (19, (eI n19)), (20, (eI s.2.1)), (21, (eI s.2.2)), (22, (eI p22))] ∧ aM ⟨H0, [lo0p], []⟩ H [(lo0p, 3, List.map aE s.1)] ∧ List.length s.1 = N0) hl0 ⟨.eq (by kernel_rfl), hO, hN⟩ ?_
        clear hO hN
        rintro k0 s out1 T H ⟨hT, hO, hN⟩ h1 ho0
        obtain ⟨aA, aS, r21⟩ := s
        replace h1 : kS cmp4 rec a1 m2 b3 bT n19 p22 aA aS r21 = some out1 := h1
        try dsimp only at hT
        refine bD hT ?_
        clear hT
        unfold kS at h1
        refine aP ?_
        refine aX aF 3 [] [(151, (aJ (decide (aS < r21))))] ?_
        refine bN h1 (fun h1 => ?_) (fun h1 => ?_)
        · refine bP ?_
          refine bG [(0, (.msl 3 lo0p 0 (List.length aA))), (1, (eI a1)), (2, (eI m2)), (3, (eI b3)), (4, (.fn (.func cmp4_f) cmp4_a cmp4_c)), (18, (eI bT)), (19, (eI n19)), (20, (eI aS)), (21, (eI r21)), (22, (eI p22))] ?_
          refine bR 9 ?_
          refine aP ?_
          refine aT aF 7 ?_
          obtain ⟨c15, h1⟩ := bK h1
          refine rG [0 ≤ (1 : Int)] ⟨c15, trivial⟩ ?_
          refine bS [] [(23, (eI (wR (Int.fdiv (IntKind.u64.wrap (wR (aS + r21))) (2 ^ (min (Int.toNat (1 : Int)) 64))))))] ?_
          refine aP ?_
          refine jF (jG [169]) aF 14 ?_
          obtain ⟨c16, h1⟩ := bK h1
          refine dN 6 [0 ≤ (wR (p22 - (wR (Int.fdiv (IntKind.u64.wrap (wR (aS + r21))) (2 ^ (min (Int.toNat (1 : Int)) 64)))))) ∧ (wR (p22 - (wR (Int.fdiv (IntKind.u64.wrap (wR (aS + r21))) (2 ^ (min (Int.toNat (1 : Int)) 64)))))) < (lN aA)] ⟨c16, trivial⟩ ?_
          refine kP 0 lo0p 3 (0 + Int.toNat (wR (p22 - (wR (Int.fdiv (IntKind.u64.wrap (wR (aS + r21))) (2 ^ (min (Int.toNat (1 : Int)) 64))))))) (aE (gD aA (wR (p22 - (wR (Int.fdiv (IntKind.u64.wrap (wR (aS + r21))) (2 ^ (min (Int.toNat (1 : Int)) 64)))))))) (aE (gD aA (wR (p22 - (wR (Int.fdiv (IntKind.u64.wrap (wR (aS + r21))) (2 ^ (min (Int.toNat (1 : Int)) 64)))))))) (List.map aE aA) hO (cQ c16) ?_
          obtain ⟨c17, h1⟩ := bK h1
          refine dN 10 [0 ≤ (wR (Int.fdiv (IntKind.u64.wrap (wR (aS + r21))) (2 ^ (min (Int.toNat (1 : Int)) 64)))) ∧ (wR (Int.fdiv (IntKind.u64.wrap (wR (aS + r21))) (2 ^ (min (Int.toNat (1 : Int)) 64)))) < (lN aA)] ⟨c17, trivial⟩ ?_
          refine kP 0 lo0p 3 (0 + Int.toNat (wR (Int.fdiv (IntKind.u64.wrap (wR (aS + r21))) (2 ^ (min (Int.toNat (1 : Int)) 64))))) (aE (gD aA (wR (Int.fdiv (IntKind.u64.wrap (wR (aS + r21))) (2 ^ (min (Int.toNat (1 : Int)) 64)))))) (aE (gD aA (wR (Int.fdiv (IntKind.u64.wrap (wR (aS + r21))) (2 ^ (min (Int.toNat (1 : Int)) 64)))))) (List.map aE aA) hO (cQ c17) ?_
          obtain ⟨x18, hx19, h1⟩ := aY h1
          refine xN (cmp4_h (gD aA (wR (p22 - (wR (Int.fdiv (IntKind.u64.wrap (wR (aS + r21))) (2 ^ (min (Int.toNat (1 : Int)) 64))))))) (gD aA (wR (Int.fdiv (IntKind.u64.wrap (wR (aS + r21))) (2 ^ (min (Int.toNat (1 : Int)) 64))))) _ hx19) hO ?_
          intro H hO
          refine pV ?_
          refine bS [] [(171, (aJ (!(decide (x18 < (0 : Int))))))] ?_
          refine bN h1 (fun h1 => ?_) (fun h1 => ?_)
          · refine aT aF 3 ?_
            refine bF ?_
            exact aH (aV (aG (⟨rfl, _, (oI h1).symm, .eq (by kernel_rfl), hO, hN⟩)))
          refine aT aF 2 ?_
          refine bF ?_
          exact aH (aV (aG (⟨rfl, _, (oI h1).symm, .eq (by kernel_rfl), hO, hN⟩)))
        refine dJ 8 ?_
        obtain rfl := oI h1
        obtain rfl : _ = rr0 := ho0
        replace h0 : gF cmp4 rec aA a1 m2 b3 bT n19 aS = some r := h0
        exact aH (aU (aU (bQ (aG (⟨rfl, _, _, .eq (by kernel_rfl), hO, hN, h0⟩)))))
      refine aX aF 3 [] [(140, (aJ (decide ((wR (Int.fdiv (IntKind.u64.wrap (wR (a1 + b3))) (2 ^ (min (Int.toNat (1 : Int)) 64)))) < m2))))] ?_
      refine bN h0 (fun h0 => ?_) (fun h0 => ?_)
      · refine bV aF 4 [(0, (.msl 3 lo0p 0 (List.length aA))), (1, (eI a1)), (2, (eI m2)), (3, (eI b3)), (4, (.fn (.func cmp4_f) cmp4_a cmp4_c)), (18, (eI (wR (Int.fdiv (IntKind.u64.wrap (wR (a1 + b3))) (2 ^ (min (Int.toNat (1 : Int)) 64)))))), (19, (eI (wR ((wR (Int.fdiv (IntKind.u64.wrap (wR (a1 + b3))) (2 ^ (min (Int.toNat (1 : Int)) 64)))) + m2)))), (20, (eI (wR ((wR ((wR (Int.fdiv (IntKind.u64.wrap (wR (a1 + b3))) (2 ^ (min (Int.toNat (1 : Int)) 64)))) + m2)) - b3))))] ?_
        refine aT aF 2 ?_
        refine bF ?_
        exact aH (aG (⟨rfl, _, _, _, _, _, .eq (by kernel_rfl), hO, hN, h0⟩))
      refine bV aF 2 [(0, (.msl 3 lo0p 0 (List.length aA))), (1, (eI a1)), (2, (eI m2)), (3, (eI b3)), (4, (.fn (.func cmp4_f) cmp4_a cmp4_c)), (18, (eI (wR (Int.fdiv (IntKind.u64.wrap (wR (a1 + b3))) (2 ^ (min (Int.toNat (1 : Int)) 64)))))), (19, (eI (wR ((wR (Int.fdiv (IntKind.u64.wrap (wR (a1 + b3))) (2 ^ (min (Int.toNat (1 : Int)) 64)))) + m2)))), (20, (eI a1))] ?_
      refine aT aF 2 ?_
      refine bF ?_
      exact aH (aG (⟨rfl, _, _, _, _, _, .eq (by kernel_rfl), hO, hN, h0⟩))
    refine aX aF 4 [] [(80, (aJ (decide ((wR (b3 - m2)) = (1 : Int)))))] ?_
    refine bN h0 (fun h0 => ?_) (fun h0 => ?_)
    · refine aX aF 2 [1, 3, 80] [(14, (eI a1))] ?_
      refine aX aF 2 [] [(15, (eI m2))] ?_
      refine cU (fun T H => ∃ aA : List aD, ∃ i14 : Int, Has T [(0, (.msl 3 lo0p 0 (List.length aA))), (2, (eI m2)), (14, (eI i14))] ∧ aM ⟨H0, [lo0p], []⟩ H [(lo0p, 3, List.map aE aA)] ∧ List.length aA = N0 ∧ gG cmp4 rec aA m2 i14 = some r) ?_ ?_
      · clear hO hN h0
        rintro T H ⟨aA, i14, hT, hO, hN, h0⟩
        refine bD hT ?_
        clear hT
        unfold gG at h0
        refine cU (fun T H => ∃ aA : List aD, Has T [(0, (.msl 3 lo0p 0 (List.length aA)))] ∧ aM ⟨H0, [lo0p], []⟩ H [(lo0p, 3, List.map aE aA)] ∧ List.length aA = N0 ∧ gI cmp4 rec aA = some r) ?_ ?_
        · clear hO hN h0
          rintro T H ⟨aA, hT, hO, hN, h0⟩
          refine bD hT ?_
          clear hT
          unfold gI at h0
          refine bM ?_
          obtain rfl := oI h0
          exact aH (bB (pQ (x := (.tup [])) (by kernel_rfl) (aZ.refl _) ⟨rfl, hO.ext, hO.at 0 (by kernel_rfl), by simp only [List.length_map]; exact hN.trans hN0⟩))
        refine aX aF 2 [2] [(17, (eI m2))] ?_
        refine bR 6 ?_
        refine cR [(0, (.msl 3 lo0p 0 (List.length aA))), (14, (eI i14)), (17, (eI m2))] ?_
        refine cK (fun T H => ∃ aA : List aD, ∃ k17 : Int, Has T [(0, (.msl 3 lo0p 0 (List.length aA))), (14, (eI i14)), (17, (eI k17))] ∧ aM ⟨H0, [lo0p], []⟩ H [(lo0p, 3, List.map aE aA)] ∧ List.length aA = N0 ∧ jV cmp4 rec aA i14 k17 = some r) ?_ ⟨aA, m2, .eq (by kernel_rfl), hO, hN, h0⟩
        clear hO hN h0
        rintro T H ⟨aA, k17, hT, hO, hN, h0⟩
        refine bD hT ?_
        clear hT
        unfold jV at h0
        obtain ⟨rr0, hl0, h0⟩ := aY h0
        refine cB (by kernel_rfl) (fun (s : List aD × Int) T H => Has T [(0, (.msl 3 lo0p 0 (List.length s.1))), (14, (eI i14)), (17, (eI s.2))] ∧ aM ⟨H0, [lo0p], []⟩ H [(lo0p, 3, List.map aE s.1)] ∧ List.length s.1 = N0) hl0 ⟨.eq (by kernel_rfl), hO, hN⟩ ?_
        clear hO hN
        rintro k0 s out1 T H ⟨hT, hO, hN⟩ h1 ho0
        obtain ⟨aA, k17⟩ := s
        replace h1 : jS cmp4 rec i14 aA k17 = some out1 := h1
        try dsimp only at hT
        refine bD hT ?_
        clear hT
        unfold jS at h1
        refine aP ?_
        refine aX aF 3 [] [(110, (aJ (decide (i14 < k17))))] ?_
        refine bN h1 (fun h1 => ?_) (fun h1 => ?_)
        · refine bP ?_
          refine bG [(0, (.msl 3 lo0p 0 (List.length aA))), (14, (eI i14)), (17, (eI k17))] ?_
          refine aP ?_
          refine bR 7 ?_
          refine jF (jG []) aF 18 ?_
          obtain ⟨c25, h1⟩ := bK h1
          refine dN 9 [0 ≤ (wR (k17 - (1 : Int))) ∧ (wR (k17 - (1 : Int))) < (lN aA)] ⟨c25, trivial⟩ ?_
          refine kP 0 lo0p 3 (0 + Int.toNat (wR (k17 - (1 : Int)))) (aE (gD aA (wR (k17 - (1 : Int))))) (aE (gD aA (wR (k17 - (1 : Int))))) (List.map aE aA) hO (cQ c25) ?_
          obtain ⟨c26, h1⟩ := bK h1
          refine dN 13 [0 ≤ k17 ∧ k17 < (lN aA)] ⟨c26, trivial⟩ ?_
          refine kP 0 lo0p 3 (0 + Int.toNat k17) (aE (gD aA k17)) (aE (gD aA k17)) (List.map aE aA) hO (cQ c26) ?_
          obtain ⟨c27, h1⟩ := bK h1
          refine dN 15 [0 ≤ k17 ∧ k17 < (lN aA)] ⟨c27, trivial⟩ ?_
          refine rF 0 lo0p 3 (0 + Int.toNat k17) (aE (gD aA k17)) (aE (gD aA (wR (k17 - (1 : Int))))) (List.map aE aA) [(lo0p, 3, List.map aE (List.set aA (Int.toNat k17) (gD aA (wR (k17 - (1 : Int))))))] hO (cQ c27) (by simp only [List.set, nN]) ?_
          intro H hO
          replace hN : List.length (List.set aA (Int.toNat k17) (gD aA (wR (k17 - (1 : Int))))) = N0 := by simpa using hN
          obtain ⟨c28, h1⟩ := bK h1
          refine dN 17 [0 ≤ (wR (k17 - (1 : Int))) ∧ (wR (k17 - (1 : Int))) < (lN aA)] ⟨c28, trivial⟩ ?_
          refine rF 0 lo0p 3 (0 + Int.toNat (wR (k17 - (1 : Int)))) (aE (gD (List.set aA (Int.toNat k17) (gD aA (wR (k17 - (1 : Int))))) (wR (k17 - (1 : Int))))) (aE (gD aA k17)) (List.map aE (List.set aA (Int.toNat k17) (gD aA (wR (k17 - (1 : Int)))))) [(lo0p, 3, List.map aE (List.set (List.set aA (Int.toNat k17) (gD aA (wR (k17 - (1 : Int))))) (Int.toNat (wR (k17 - (1 : Int)))) (gD aA k17)))] hO (wI c28 (by simp [])) (by simp only [List.set, nN]) ?_
          intro H hO
          replace hN : List.length (List.set (List.set aA (Int.toNat k17) (gD aA (wR (k17 - (1 : Int))))) (Int.toNat (wR (k17 - (1 : Int)))) (gD aA k17)) = N0 := by simpa using hN
          refine wT (by kernel_rfl) ?_
          refine cN (l := [(0, (.msl 3 lo0p 0 (List.length (List.set (List.set aA (Int.toNat k17) (gD aA (wR (k17 - (1 : Int))))) (Int.toNat (wR (k17 - (1 : Int)))) (gD aA k17))))), (14, (eI i14)), (17, (eI k17))]) ⟨[(0, (.msl 3 lo0p 0 (List.length aA))), (14, (eI i14)), (17, (eI k17))], by kernel_rfl, rfl, ⟨aZ.eq (by simp []), aZ.refl _, aZ.refl _, trivial⟩⟩ ?_
          refine aH (aV (aG (?_)))
          refine aT aF 3 ?_
          refine bF ?_
          exact aH (aG (⟨rfl, _, (oI h1).symm, .eq (by kernel_rfl), hO, hN⟩))
        refine dJ 6 ?_
        obtain rfl := oI h1
        obtain rfl : _ = rr0 := ho0
        replace h0 : gI cmp4 rec aA = some r := h0
        exact aH (aU (aU (bQ (aG (⟨rfl, _, .eq (by kernel_rfl), hO, hN, h0⟩)))))
      refine bR 4 ?_
      refine cR [(0, (.msl 3 lo0p 0 (List.length aA))), (2, (eI m2)), (4, (.fn (.func cmp4_f) cmp4_a cmp4_c)), (14, (eI a1)), (15, (eI m2))] ?_
      refine cK (fun T H => ∃ aA : List aD, ∃ i14 : Int, ∃ j15 : Int, Has T [(0, (.msl 3 lo0p 0 (List.length aA))), (2, (eI m2)), (4, (.fn (.func cmp4_f) cmp4_a cmp4_c)), (14, (eI i14)), (15, (eI j15))] ∧ aM ⟨H0, [lo0p], []⟩ H [(lo0p, 3, List.map aE aA)] ∧ List.length aA = N0 ∧ jK cmp4 rec aA m2 i14 j15 = some r) ?_ ⟨aA, a1, m2, .eq (by kernel_rfl), hO, hN, h0⟩
      clear hO hN h0
      rintro T H ⟨aA, i14, j15, hT, hO, hN, h0⟩
      refine bD hT ?_
      clear hT
      unfold jK at h0
      obtain ⟨rr0, hl0, h0⟩ := aY h0
      refine cB (by kernel_rfl) (fun (s : List aD × Int × Int) T H => Has T [(0, (.msl 3 lo0p 0 (List.length s.1))), (2, (eI m2)), (4, (.fn (.func cmp4_f) cmp4_a cmp4_c)), (14, (eI s.2.1)), (15, (eI s.2.2))] ∧ aM ⟨H0, [lo0p], []⟩ H [(lo0p, 3, List.map aE s.1)] ∧ List.length s.1 = N0) hl0 ⟨.eq (by kernel_rfl), hO, hN⟩ ?_
      clear hO hN
      rintro k0 s out1 T H ⟨hT, hO, hN⟩ h1 ho0
      obtain ⟨aA, i14, j15⟩ := s
      replace h1 : jR cmp4 rec m2 aA i14 j15 = some out1 := h1
      try dsimp only at hT
      refine bD hT ?_
      clear hT
      unfold jR at h1
      refine aP ?_
      refine aX aF 3 [] [(85, (aJ (decide (i14 < j15))))] ?_
      refine bN h1 (fun h1 => ?_) (fun h1 => ?_)
      · refine bP ?_
        refine bG [(0, (.msl 3 lo0p 0 (List.length aA))), (2, (eI m2)), (4, (.fn (.func cmp4_f) cmp4_a cmp4_c)), (14, (eI i14)), (15, (eI j15))] ?_
        refine bR 5 ?_
        refine aP ?_
        refine aT aF 7 ?_
        obtain ⟨c30, h1⟩ := bK h1
        refine rG [0 ≤ (1 : Int)] ⟨c30, trivial⟩ ?_
        refine bS [] [(16, (eI (wR (Int.fdiv (IntKind.u64.wrap (wR (i14 + j15))) (2 ^ (min (Int.toNat (1 : Int)) 64))))))] ?_
        refine aP ?_
        refine jF (jG [101]) aF 12 ?_
        obtain ⟨c31, h1⟩ := bK h1
        refine dN 4 [0 ≤ m2 ∧ m2 < (lN aA)] ⟨c31, trivial⟩ ?_
        refine kP 0 lo0p 3 (0 + Int.toNat m2) (aE (gD aA m2)) (aE (gD aA m2)) (List.map aE aA) hO (cQ c31) ?_
        obtain ⟨c32, h1⟩ := bK h1
        refine dN 8 [0 ≤ (wR (Int.fdiv (IntKind.u64.wrap (wR (i14 + j15))) (2 ^ (min (Int.toNat (1 : Int)) 64)))) ∧ (wR (Int.fdiv (IntKind.u64.wrap (wR (i14 + j15))) (2 ^ (min (Int.toNat (1 : Int)) 64)))) < (lN aA)] ⟨c32, trivial⟩ ?_
        refine kP 0 lo0p 3 (0 + Int.toNat (wR (Int.fdiv (IntKind.u64.wrap (wR (i14 + j15))) (2 ^ (min (Int.toNat (1 : Int)) 64))))) (aE (gD aA (wR (Int.fdiv (IntKind.u64.wrap (wR (i14 + j15))) (2 ^ (min (Int.toNat (1 : Int)) 64)))))) (aE (gD aA (wR (Int.fdiv (IntKind.u64.wrap (wR (i14 + j15))) (2 ^ (min (Int.toNat (1 : Int)) 64)))))) (List.map aE aA) hO (cQ c32) ?_
        obtain ⟨x33, hx34, h1⟩ := aY h1
        refine xN (cmp4_h (gD aA m2) (gD aA (wR (Int.fdiv (IntKind.u64.wrap (wR (i14 + j15))) (2 ^ (min (Int.toNat (1 : Int)) 64))))) _ hx34) hO ?_
        intro H hO
        refine pV ?_
        refine bS [] [(103, (aJ (!(decide (x33 < (0 : Int))))))] ?_
        refine bN h1 (fun h1 => ?_) (fun h1 => ?_)
        · refine aT aF 3 ?_
          refine bF ?_
          exact aH (aV (aG (⟨rfl, _, (oI h1).symm, .eq (by kernel_rfl), hO, hN⟩)))
        refine aT aF 2 ?_
        refine bF ?_
        exact aH (aV (aG (⟨rfl, _, (oI h1).symm, .eq (by kernel_rfl), hO, hN⟩)))
      refine dJ 4 ?_
      obtain rfl := oI h1
      obtain rfl : _ = rr0 := ho0
      replace h0 : gG cmp4 rec aA m2 i14 = some r := h0
      exact aH (aU (aU (bQ (aG (⟨rfl, _, _, .eq (by kernel_rfl), hO, hN, h0⟩)))))
    refine bP ?_
    exact aH (aG (⟨rfl, _, .eq (by kernel_rfl), hO, hN, h0⟩))
  refine aX aF 4 [] [(28, (aJ (decide ((wR (m2 - a1)) = (1 : Int)))))] ?_
  refine bN h0 (fun h0 => ?_) (fun h0 => ?_)
  · refine aX aF 2 [2, 28] [(10, (eI m2))] ?_
    refine aX aF 2 [3] [(11, (eI b3))] ?_
    refine cU (fun T H => ∃ aA : List aD, ∃ i10 : Int, Has T [(0, (.msl 3 lo0p 0 (List.length aA))), (1, (eI a1)), (10, (eI i10))] ∧ aM ⟨H0, [lo0p], []⟩ H [(lo0p, 3, List.map aE aA)] ∧ List.length aA = N0 ∧ fQ cmp4 rec aA a1 i10 = some r) ?_ ?_
    · clear hO hN h0
      rintro T H ⟨aA, i10, hT, hO, hN, h0⟩
      refine bD hT ?_
      clear hT
      unfold fQ at h0
      refine cU (fun T H => ∃ aA : List aD, Has T [(0, (.msl 3 lo0p 0 (List.length aA)))] ∧ aM ⟨H0, [lo0p], []⟩ H [(lo0p, 3, List.map aE aA)] ∧ List.length aA = N0 ∧ fO cmp4 rec aA = some r) ?_ ?_
      · clear hO hN h0
        rintro T H ⟨aA, hT, hO, hN, h0⟩
        refine bD hT ?_
        clear hT
        unfold fO at h0
        refine bM ?_
        obtain rfl := oI h0
        exact aH (bB (pQ (x := (.tup [])) (by kernel_rfl) (aZ.refl _) ⟨rfl, hO.ext, hO.at 0 (by kernel_rfl), by simp only [List.length_map]; exact hN.trans hN0⟩))
      refine aX aF 2 [1] [(13, (eI a1))] ?_
      refine bR 2 ?_
      refine cR [(0, (.msl 3 lo0p 0 (List.length aA))), (10, (eI i10)), (13, (eI a1))] ?_
      refine cK (fun T H => ∃ aA : List aD, ∃ k13 : Int, Has T [(0, (.msl 3 lo0p 0 (List.length aA))), (10, (eI i10)), (13, (eI k13))] ∧ aM ⟨H0, [lo0p], []⟩ H [(lo0p, 3, List.map aE aA)] ∧ List.length aA = N0 ∧ jZ cmp4 rec aA i10 k13 = some r) ?_ ⟨aA, a1, .eq (by kernel_rfl), hO, hN, h0⟩
      clear hO hN h0
      rintro T H ⟨aA, k13, hT, hO, hN, h0⟩
      refine bD hT ?_
      clear hT
      unfold jZ at h0
      obtain ⟨rr0, hl0, h0⟩ := aY h0
      refine cB (by kernel_rfl) (fun (s : List aD × Int) T H => Has T [(0, (.msl 3 lo0p 0 (List.length s.1))), (10, (eI i10)), (13, (eI s.2))] ∧ aM ⟨H0, [lo0p], []⟩ H [(lo0p, 3, List.map aE s.1)] ∧ List.length s.1 = N0) hl0 ⟨.eq (by kernel_rfl), hO, hN⟩ ?_
      clear hO hN
      rintro k0 s out1 T H ⟨hT, hO, hN⟩ h1 ho0
      obtain ⟨aA, k13⟩ := s
      replace h1 : kH cmp4 rec i10 aA k13 = some out1 := h1
      try dsimp only at hT
      refine bD hT ?_
      clear hT
      unfold kH at h1
      refine aP ?_
      refine aX aF 4 [] [(58, (aJ (decide (k13 < (wR (i10 - (1 : Int)))))))] ?_
      refine bN h1 (fun h1 => ?_) (fun h1 => ?_)
      · refine bP ?_
        refine bG [(0, (.msl 3 lo0p 0 (List.length aA))), (10, (eI i10)), (13, (eI k13))] ?_
        refine aP ?_
        refine bR 3 ?_
        refine jF (jG []) aF 18 ?_
        obtain ⟨c39, h1⟩ := bK h1
        refine dN 9 [0 ≤ (wR (k13 + (1 : Int))) ∧ (wR (k13 + (1 : Int))) < (lN aA)] ⟨c39, trivial⟩ ?_
        refine kP 0 lo0p 3 (0 + Int.toNat (wR (k13 + (1 : Int)))) (aE (gD aA (wR (k13 + (1 : Int))))) (aE (gD aA (wR (k13 + (1 : Int))))) (List.map aE aA) hO (cQ c39) ?_
        obtain ⟨c40, h1⟩ := bK h1
        refine dN 13 [0 ≤ k13 ∧ k13 < (lN aA)] ⟨c40, trivial⟩ ?_
        refine kP 0 lo0p 3 (0 + Int.toNat k13) (aE (gD aA k13)) (aE (gD aA k13)) (List.map aE aA) hO (cQ c40) ?_
        obtain ⟨c41, h1⟩ := bK h1
        refine dN 15 [0 ≤ k13 ∧ k13 < (lN aA)] ⟨c41, trivial⟩ ?_
        refine rF 0 lo0p 3 (0 + Int.toNat k13) (aE (gD aA k13)) (aE (gD aA (wR (k13 + (1 : Int))))) (List.map aE aA) [(lo0p, 3, List.map aE (List.set aA (Int.toNat k13) (gD aA (wR (k13 + (1 : Int))))))] hO (cQ c41) (by simp only [List.set, nN]) ?_
        intro H hO
        replace hN : List.length (List.set aA (Int.toNat k13) (gD aA (wR (k13 + (1 : Int))))) = N0 := by simpa using hN
        obtain ⟨c42, h1⟩ := bK h1
        refine dN 17 [0 ≤ (wR (k13 + (1 : Int))) ∧ (wR (k13 + (1 : Int))) < (lN aA)] ⟨c42, trivial⟩ ?_
        refine rF 0 lo0p 3 (0 + Int.toNat (wR (k13 + (1 : Int)))) (aE (gD (List.set aA (Int.toNat k13) (gD aA (wR (k13 + (1 : Int))))) (wR (k13 + (1 : Int))))) (aE (gD aA k13)) (List.map aE (List.set aA (Int.toNat k13) (gD aA (wR (k13 + (1 : Int)))))) [(lo0p, 3, List.map aE (List.set (List.set aA (Int.toNat k13) (gD aA (wR (k13 + (1 : Int))))) (Int.toNat (wR (k13 + (1 : Int)))) (gD aA k13)))] hO (wI c42 (by simp [])) (by simp only [List.set, nN]) ?_
        intro H hO
        replace hN : List.length (List.set (List.set aA (Int.toNat k13) (gD aA (wR (k13 + (1 : Int))))) (Int.toNat (wR (k13 + (1 : Int)))) (gD aA k13)) = N0 := by simpa using hN
        refine wT (by kernel_rfl) ?_
        refine cN (l := [(0, (.msl 3 lo0p 0 (List.length (List.set (List.set aA (Int.toNat k13) (gD aA (wR (k13 + (1 : Int))))) (Int.toNat (wR (k13 + (1 : Int)))) (gD aA k13))))), (10, (eI i10)), (13, (eI k13))]) ⟨[(0, (.msl 3 lo0p 0 (List.length aA))), (10, (eI i10)), (13, (eI k13))], by kernel_rfl, rfl, ⟨aZ.eq (by simp []), aZ.refl _, aZ.refl _, trivial⟩⟩ ?_
        refine aH (aV (aG (?_)))
        refine aT aF 3 ?_
        refine bF ?_
        exact aH (aG (⟨rfl, _, (oI h1).symm, .eq (by kernel_rfl), hO, hN⟩))
      refine dJ 2 ?_
      obtain rfl := oI h1
      obtain rfl : _ = rr0 := ho0
      replace h0 : fO cmp4 rec aA = some r := h0
      exact aH (aU (aU (bQ (aG (⟨rfl, _, .eq (by kernel_rfl), hO, hN, h0⟩)))))
    refine bR 0 ?_
    refine cR [(0, (.msl 3 lo0p 0 (List.length aA))), (1, (eI a1)), (4, (.fn (.func cmp4_f) cmp4_a cmp4_c)), (10, (eI m2)), (11, (eI b3))] ?_
    refine cK (fun T H => ∃ aA : List aD, ∃ i10 : Int, ∃ j11 : Int, Has T [(0, (.msl 3 lo0p 0 (List.length aA))), (1, (eI a1)), (4, (.fn (.func cmp4_f) cmp4_a cmp4_c)), (10, (eI i10)), (11, (eI j11))] ∧ aM ⟨H0, [lo0p], []⟩ H [(lo0p, 3, List.map aE aA)] ∧ List.length aA = N0 ∧ jQ cmp4 rec aA a1 i10 j11 = some r) ?_ ⟨aA, m2, b3, .eq (by kernel_rfl), hO, hN, h0⟩
    clear hO hN h0
    rintro T H ⟨aA, i10, j11, hT, hO, hN, h0⟩
    refine bD hT ?_
    clear hT
    unfold jQ at h0
    obtain ⟨rr0, hl0, h0⟩ := aY h0
    refine cB (by kernel_rfl) (fun (s : List aD × Int × Int) T H => Has T [(0, (.msl 3 lo0p 0 (List.length s.1))), (1, (eI a1)), (4, (.fn (.func cmp4_f) cmp4_a cmp4_c)), (10, (eI s.2.1)), (11, (eI s.2.2))] ∧ aM ⟨H0, [lo0p], []⟩ H [(lo0p, 3, List.map aE s.1)] ∧ List.length s.1 = N0) hl0 ⟨.eq (by kernel_rfl), hO, hN⟩ ?_
    clear hO hN
    rintro k0 s out1 T H ⟨hT, hO, hN⟩ h1 ho0
    obtain ⟨aA, i10, j11⟩ := s
    replace h1 : kE cmp4 rec a1 aA i10 j11 = some out1 := h1
    try dsimp only at hT
    refine bD hT ?_
    clear hT
    unfold kE at h1
    refine aP ?_
    refine aX aF 3 [] [(33, (aJ (decide (i10 < j11))))] ?_
    refine bN h1 (fun h1 => ?_) (fun h1 => ?_)
    · refine bP ?_
      refine bG [(0, (.msl 3 lo0p 0 (List.length aA))), (1, (eI a1)), (4, (.fn (.func cmp4_f) cmp4_a cmp4_c)), (10, (eI i10)), (11, (eI j11))] ?_
      refine bR 1 ?_
      refine aP ?_
      refine aT aF 7 ?_
      obtain ⟨c44, h1⟩ := bK h1
      refine rG [0 ≤ (1 : Int)] ⟨c44, trivial⟩ ?_
      refine bS [] [(12, (eI (wR (Int.fdiv (IntKind.u64.wrap (wR (i10 + j11))) (2 ^ (min (Int.toNat (1 : Int)) 64))))))] ?_
      refine aP ?_
      refine jF (jG [49]) aF 11 ?_
      obtain ⟨c45, h1⟩ := bK h1
      refine dN 4 [0 ≤ (wR (Int.fdiv (IntKind.u64.wrap (wR (i10 + j11))) (2 ^ (min (Int.toNat (1 : Int)) 64)))) ∧ (wR (Int.fdiv (IntKind.u64.wrap (wR (i10 + j11))) (2 ^ (min (Int.toNat (1 : Int)) 64)))) < (lN aA)] ⟨c45, trivial⟩ ?_
      refine kP 0 lo0p 3 (0 + Int.toNat (wR (Int.fdiv (IntKind.u64.wrap (wR (i10 + j11))) (2 ^ (min (Int.toNat (1 : Int)) 64))))) (aE (gD aA (wR (Int.fdiv (IntKind.u64.wrap (wR (i10 + j11))) (2 ^ (min (Int.toNat (1 : Int)) 64)))))) (aE (gD aA (wR (Int.fdiv (IntKind.u64.wrap (wR (i10 + j11))) (2 ^ (min (Int.toNat (1 : Int)) 64)))))) (List.map aE aA) hO (cQ c45) ?_
      obtain ⟨c46, h1⟩ := bK h1
      refine dN 8 [0 ≤ a1 ∧ a1 < (lN aA)] ⟨c46, trivial⟩ ?_
      refine kP 0 lo0p 3 (0 + Int.toNat a1) (aE (gD aA a1)) (aE (gD aA a1)) (List.map aE aA) hO (cQ c46) ?_
      obtain ⟨x47, hx48, h1⟩ := aY h1
      refine xN (cmp4_h (gD aA (wR (Int.fdiv (IntKind.u64.wrap (wR (i10 + j11))) (2 ^ (min (Int.toNat (1 : Int)) 64))))) (gD aA a1) _ hx48) hO ?_
      intro H hO
      refine pV ?_
      refine bS [] [(50, (aJ (decide (x47 < (0 : Int)))))] ?_
      refine bN h1 (fun h1 => ?_) (fun h1 => ?_)
      · refine aT aF 3 ?_
        refine bF ?_
        exact aH (aV (aG (⟨rfl, _, (oI h1).symm, .eq (by kernel_rfl), hO, hN⟩)))
      refine aT aF 2 ?_
      refine bF ?_
      exact aH (aV (aG (⟨rfl, _, (oI h1).symm, .eq (by kernel_rfl), hO, hN⟩)))
    refine dJ 0 ?_
    obtain rfl := oI h1
    obtain rfl : _ = rr0 := ho0
    replace h0 : fQ cmp4 rec aA a1 i10 = some r := h0
    exact aH (aU (aU (bQ (aG (⟨rfl, _, _, .eq (by kernel_rfl), hO, hN, h0⟩)))))
  refine bP ?_
  exact aH (aG (⟨rfl, _, .eq (by kernel_rfl), hO, hN, h0⟩))

theorem nO (cmp4_f : Nat) (cmp4_a cmp4_c : List V) (cmp4 : aD → aD → Option Int) (cmp4_h : ∀ a0 a1 r, cmp4 a0 a1 = some r → bW Try.prog cmp4_f (cmp4_a ++ [(aE a0), (aE a1)] ++ cmp4_c) (eI r)) : ∀ (k : Nat) (lo0p : Nat) (aA : (List aD)) (a1 : Int) (m2 : Int) (b3 : Int) (r : List aD), fZ cmp4 k aA a1 m2 b3 = some r → kV Try.prog 128 lo0p 3 (List.map aE aA) (List.map aE r) [(.msl 3 lo0p 0 (List.length aA)), (eI a1), (eI m2), (eI b3), (.fn (.func cmp4_f) cmp4_a cmp4_c)] (.tup [])
  | 0, _, _, _, _, _, _, h => by cases h
  | k + 1, lo0p, aA, a1, m2, b3, r, h => sS cmp4_f cmp4_a cmp4_c cmp4 cmp4_h _ (nO cmp4_f cmp4_a cmp4_c cmp4 cmp4_h k) lo0p aA a1 m2 b3 r h

theorem oJ (lo0p : Nat) (aA : (List aD)) (a1 : Int) (m2 : Int) (b3 : Int) (cmp4_f : Nat) (cmp4_a cmp4_c : List V) (cmp4 : aD → aD → Option Int) (cmp4_h : ∀ a0 a1 r, cmp4 a0 a1 = some r → bW Try.prog cmp4_f (cmp4_a ++ [(aE a0), (aE a1)] ++ cmp4_c) (eI r)) (r : List aD) (h0 : eH aA a1 m2 b3 cmp4 = some r) : kV Try.prog 128 lo0p 3 (List.map aE aA) (List.map aE r) [(.msl 3 lo0p 0 (List.length aA)), (eI a1), (eI m2), (eI b3), (.fn (.func cmp4_f) cmp4_a cmp4_c)] (.tup []) := by
  obtain ⟨k, hk⟩ := EI h0
  exact nO cmp4_f cmp4_a cmp4_c cmp4 cmp4_h k lo0p aA a1 m2 b3 r hk

theorem wK (lo0p : Nat) (aA : (List aD)) (n1 : Int) (cmp2_f : Nat) (cmp2_a cmp2_c : List V) (cmp2 : aD → aD → Option Int) (cmp2_h : ∀ a0 a1 r, cmp2 a0 a1 = some r → bW Try.prog cmp2_f (cmp2_a ++ [(aE a0), (aE a1)] ++ cmp2_c) (eI r)) (r : List aD) (h0 : fC aA n1 cmp2 = some r) : kV Try.prog 99 lo0p 3 (List.map aE aA) (List.map aE r) [(.msl 3 lo0p 0 (List.length aA)), (eI n1), (.fn (.func cmp2_f) cmp2_a cmp2_c)] (.tup []) := by
  intro H0 hl0
  refine cH Try.func99 ?_
  have hO := aM.pS hl0
  clear hl0
  obtain ⟨N0, hN0⟩ : ∃ n, n = List.length aA := ⟨_, rfl⟩
  have hN : List.length aA = N0 := hN0.symm
  unfold fC at h0
  refine aX aF 1 [] [(6, (eI (20 : Int)))] ?_
  refine aX aF 3 [] [(7, (eI (0 : Int))), (8, (eI (20 : Int)))] ?_
  refine cU (fun T H => ∃ aA : List aD, ∃ aO : Int, ∃ a7 : Int, Has T [(0, (.msl 3 lo0p 0 (List.length aA))), (1, (eI n1)), (2, (.fn (.func cmp2_f) cmp2_a cmp2_c)), (6, (eI aO)), (7, (eI a7))] ∧ aM ⟨H0, [lo0p], []⟩ H [(lo0p, 3, List.map aE aA)] ∧ List.length aA = N0 ∧ eU cmp2 aA n1 aO a7 = some r) ?_ ?_
  · clear hO hN h0
    rintro T H ⟨aA, aO, a7, hT, hO, hN, h0⟩
    refine bD hT ?_
    clear hT
    unfold eU at h0
    refine aP ?_
    refine aT aF 5 ?_
    refine bO 4 ?_
    obtain ⟨x1, hx2, h0⟩ := aY h0
    refine nY [(lo0p, 3, List.map aE x1)] 0 (mY lo0p aA a7 n1 cmp2_f cmp2_a cmp2_c cmp2 cmp2_h _ hx2) hO ?_
    intro H hO hl3
    simp only [List.length_map] at hl3
    replace hN := hl3.trans hN
    refine cJ ?_
    refine cN (l := [(0, (.msl 3 lo0p 0 (List.length x1))), (1, (eI n1)), (2, (.fn (.func cmp2_f) cmp2_a cmp2_c)), (6, (eI aO))]) ⟨[(0, (.msl 3 lo0p 0 (List.length aA))), (1, (eI n1)), (2, (.fn (.func cmp2_f) cmp2_a cmp2_c)), (6, (eI aO))], by kernel_rfl, rfl, ⟨aZ.eq (by simp [hl3]), aZ.refl _, aZ.refl _, aZ.refl _, trivial⟩⟩ ?_
    refine aH (aG (?_))
    refine bR 2 ?_
    refine cR [(0, (.msl 3 lo0p 0 (List.length x1))), (1, (eI n1)), (2, (.fn (.func cmp2_f) cmp2_a cmp2_c)), (6, (eI aO))] ?_
    refine cK (fun T H => ∃ aA : List aD, ∃ aO : Int, Has T [(0, (.msl 3 lo0p 0 (List.length aA))), (1, (eI n1)), (2, (.fn (.func cmp2_f) cmp2_a cmp2_c)), (6, (eI aO))] ∧ aM ⟨H0, [lo0p], []⟩ H [(lo0p, 3, List.map aE aA)] ∧ List.length aA = N0 ∧ gS cmp2 aA n1 aO = some r) ?_ ⟨x1, aO, .eq (by kernel_rfl), hO, hN, h0⟩
    clear hO hN h0
    rintro T H ⟨aA, aO, hT, hO, hN, h0⟩
    refine bD hT ?_
    clear hT
    unfold gS at h0
    obtain ⟨rr0, hl0, h0⟩ := aY h0
    refine cB (by kernel_rfl) (fun (s : List aD × Int) T H => Has T [(0, (.msl 3 lo0p 0 (List.length s.1))), (1, (eI n1)), (2, (.fn (.func cmp2_f) cmp2_a cmp2_c)), (6, (eI s.2))] ∧ aM ⟨H0, [lo0p], []⟩ H [(lo0p, 3, List.map aE s.1)] ∧ List.length s.1 = N0) hl0 ⟨.eq (by kernel_rfl), hO, hN⟩ ?_
    clear hO hN
    rintro k0 s out1 T H ⟨hT, hO, hN⟩ h1 ho0
    obtain ⟨aA, aO⟩ := s
    replace h1 : iB cmp2 n1 aA aO = some out1 := h1
    try dsimp only at hT
    refine bD hT ?_
    clear hT
    unfold iB at h1
    refine aP ?_
    refine aX aF 3 [] [(30, (aJ (decide (aO < n1))))] ?_
    refine bN h1 (fun h1 => ?_) (fun h1 => ?_)
    · refine bP ?_
      refine bG [(0, (.msl 3 lo0p 0 (List.length aA))), (1, (eI n1)), (2, (.fn (.func cmp2_f) cmp2_a cmp2_c)), (6, (eI aO))] ?_
      refine bR 3 ?_
      refine aX aF 4 [] [(7, (eI (0 : Int))), (8, (eI (wR ((2 : Int) * aO))))] ?_
      refine cU (fun T H => ∃ aA : List aD, ∃ a7 : Int, Has T [(0, (.msl 3 lo0p 0 (List.length aA))), (1, (eI n1)), (2, (.fn (.func cmp2_f) cmp2_a cmp2_c)), (6, (eI aO)), (7, (eI a7))] ∧ aM ⟨H0, [lo0p], []⟩ H [(lo0p, 3, List.map aE aA)] ∧ List.length aA = N0 ∧ eX cmp2 aA n1 aO a7 = some out1) ?_ ?_
      · clear hO hN h1
        rintro T H ⟨aA, a7, hT, hO, hN, h1⟩
        refine bD hT ?_
        clear hT
        unfold eX at h1
        refine cU (fun T H => ∃ aA : List aD, Has T [(0, (.msl 3 lo0p 0 (List.length aA))), (1, (eI n1)), (2, (.fn (.func cmp2_f) cmp2_a cmp2_c)), (6, (eI aO))] ∧ aM ⟨H0, [lo0p], []⟩ H [(lo0p, 3, List.map aE aA)] ∧ List.length aA = N0 ∧ gU cmp2 aA n1 aO = some out1) ?_ ?_
        · clear hO hN h1
          rintro T H ⟨aA, hT, hO, hN, h1⟩
          refine bD hT ?_
          clear hT
          unfold gU at h1
          refine aT aF 3 ?_
          refine bF ?_
          exact aH (aV (aG (⟨rfl, _, (oI h1).symm, .eq (by kernel_rfl), hO, hN⟩)))
        refine aX aF 4 [] [(9, (eI (wR (a7 + aO))))] ?_
        refine aX aF 3 [] [(54, (aJ (decide ((wR (a7 + aO)) < n1))))] ?_
        refine bN h1 (fun h1 => ?_) (fun h1 => ?_)
        · refine aT aF 6 ?_
          refine bO 5 ?_
          obtain ⟨x6, hx7, h1⟩ := aY h1
          refine nY [(lo0p, 3, List.map aE x6)] 0 (oJ lo0p aA a7 (wR (a7 + aO)) n1 cmp2_f cmp2_a cmp2_c cmp2 cmp2_h _ hx7) hO ?_
          intro H hO hl8
          simp only [List.length_map] at hl8
          replace hN := hl8.trans hN
          refine cJ ?_
          refine cN (l := [(0, (.msl 3 lo0p 0 (List.length x6))), (1, (eI n1)), (2, (.fn (.func cmp2_f) cmp2_a cmp2_c)), (6, (eI aO))]) ⟨[(0, (.msl 3 lo0p 0 (List.length aA))), (1, (eI n1)), (2, (.fn (.func cmp2_f) cmp2_a cmp2_c)), (6, (eI aO))], by kernel_rfl, rfl, ⟨aZ.eq (by simp [hl8]), aZ.refl _, aZ.refl _, aZ.refl _, trivial⟩⟩ ?_
          exact aH (aG (⟨rfl, _, .eq (by kernel_rfl), hO, hN, h1⟩))
        refine bP ?_
        exact aH (aG (⟨rfl, _, .eq (by kernel_rfl), hO, hN, h1⟩))
      refine bR 4 ?_
      refine cR [(0, (.msl 3 lo0p 0 (List.length aA))), (1, (eI n1)), (2, (.fn (.func cmp2_f) cmp2_a cmp2_c)), (6, (eI aO)), (7, (eI (0 : Int))), (8, (eI (wR ((2 : Int) * aO))))] ?_
      refine cK (fun T H => ∃ aA : List aD, ∃ a7 : Int, ∃ b8 : Int, Has T [(0, (.msl 3 lo0p 0 (List.length aA))), (1, (eI n1)), (2, (.fn (.func cmp2_f) cmp2_a cmp2_c)), (6, (eI aO)), (7, (eI a7)), (8, (eI b8))] ∧ aM ⟨H0, [lo0p], []⟩ H [(lo0p, 3, List.map aE aA)] ∧ List.length aA = N0 ∧ gV cmp2 aA n1 aO a7 b8 = some out1) ?_ ⟨aA, (0 : Int), wR ((2 : Int) * aO), .eq (by kernel_rfl), hO, hN, h1⟩
      clear hO hN h1
      rintro T H ⟨aA, a7, b8, hT, hO, hN, h1⟩
      refine bD hT ?_
      clear hT
      unfold gV at h1
      obtain ⟨rr1, hl1, h1⟩ := aY h1
      refine cB (by kernel_rfl) (fun (s : List aD × Int × Int) T H => Has T [(0, (.msl 3 lo0p 0 (List.length s.1))), (1, (eI n1)), (2, (.fn (.func cmp2_f) cmp2_a cmp2_c)), (6, (eI aO)), (7, (eI s.2.1)), (8, (eI s.2.2))] ∧ aM ⟨H0, [lo0p], []⟩ H [(lo0p, 3, List.map aE s.1)] ∧ List.length s.1 = N0) hl1 ⟨.eq (by kernel_rfl), hO, hN⟩ ?_
      clear hO hN
      rintro k1 s out2 T H ⟨hT, hO, hN⟩ h2 ho1
      obtain ⟨aA, a7, b8⟩ := s
      replace h2 : hU cmp2 n1 aO aA a7 b8 = some out2 := h2
      try dsimp only at hT
      refine bD hT ?_
      clear hT
      unfold hU at h2
      refine aP ?_
      refine aX aF 3 [] [(35, (aJ (decide (b8 ≤ n1))))] ?_
      refine bN h2 (fun h2 => ?_) (fun h2 => ?_)
      · refine bP ?_
        refine bG [(0, (.msl 3 lo0p 0 (List.length aA))), (1, (eI n1)), (2, (.fn (.func cmp2_f) cmp2_a cmp2_c)), (6, (eI aO)), (7, (eI a7)), (8, (eI b8))] ?_
        refine bR 5 ?_
        refine aP ?_
        refine aT aF 8 ?_
        refine bO 7 ?_
        obtain ⟨x10, hx11, h2⟩ := aY h2
        refine nY [(lo0p, 3, List.map aE x10)] 0 (oJ lo0p aA a7 (wR (a7 + aO)) b8 cmp2_f cmp2_a cmp2_c cmp2 cmp2_h _ hx11) hO ?_
        intro H hO hl12
        simp only [List.length_map] at hl12
        replace hN := hl12.trans hN
        refine cJ ?_
        refine cN (l := [(0, (.msl 3 lo0p 0 (List.length x10))), (1, (eI n1)), (2, (.fn (.func cmp2_f) cmp2_a cmp2_c)), (6, (eI aO)), (8, (eI b8))]) ⟨[(0, (.msl 3 lo0p 0 (List.length aA))), (1, (eI n1)), (2, (.fn (.func cmp2_f) cmp2_a cmp2_c)), (6, (eI aO)), (8, (eI b8))], by kernel_rfl, rfl, ⟨aZ.eq (by simp [hl12]), aZ.refl _, aZ.refl _, aZ.refl _, aZ.refl _, trivial⟩⟩ ?_
        refine aH (aG (?_))
        refine aX aF 2 [] [(7, (eI b8))] ?_
        refine aT aF 5 ?_
        refine bF ?_
        exact aH (aV (aG (⟨rfl, _, (oI h2).symm, .eq (by kernel_rfl), hO, hN⟩)))
      refine dJ 4 ?_
      obtain rfl := oI h2
      obtain rfl : _ = rr1 := ho1
      replace h1 : eX cmp2 aA n1 aO a7 = some out1 := h1
      exact aH (aU (aU (bQ (aG (⟨rfl, _, _, .eq (by kernel_rfl), hO, hN, h1⟩)))))
    refine dJ 2 ?_
    obtain rfl := oI h1
    obtain rfl : _ = rr0 := ho0
    replace h0 : some aA = some r := h0
    obtain rfl := oI h0
    exact aH (aU (aU (bQ (qB (x := (.tup [])) (by kernel_rfl) (aZ.refl _) ⟨rfl, hO.ext, hO.at 0 (by kernel_rfl), by simp only [List.length_map]; exact hN.trans hN0⟩))))
  refine bR 0 ?_
  refine cR [(0, (.msl 3 lo0p 0 (List.length aA))), (1, (eI n1)), (2, (.fn (.func cmp2_f) cmp2_a cmp2_c)), (6, (eI (20 : Int))), (7, (eI (0 : Int))), (8, (eI (20 : Int)))] ?_
  refine cK (fun T H => ∃ aA : List aD, ∃ aO : Int, ∃ a7 : Int, ∃ b8 : Int, Has T [(0, (.msl 3 lo0p 0 (List.length aA))), (1, (eI n1)), (2, (.fn (.func cmp2_f) cmp2_a cmp2_c)), (6, (eI aO)), (7, (eI a7)), (8, (eI b8))] ∧ aM ⟨H0, [lo0p], []⟩ H [(lo0p, 3, List.map aE aA)] ∧ List.length aA = N0 ∧ gT cmp2 aA n1 aO a7 b8 = some r) ?_ ⟨aA, (20 : Int), (0 : Int), (20 : Int), .eq (by kernel_rfl), hO, hN, h0⟩
  clear hO hN h0
  rintro T H ⟨aA, aO, a7, b8, hT, hO, hN, h0⟩
  refine bD hT ?_
  clear hT
  unfold gT at h0
  obtain ⟨rr0, hl0, h0⟩ := aY h0
  refine cB (by kernel_rfl) (fun (s : List aD × Int × Int) T H => Has T [(0, (.msl 3 lo0p 0 (List.length s.1))), (1, (eI n1)), (2, (.fn (.func cmp2_f) cmp2_a cmp2_c)), (6, (eI aO)), (7, (eI s.2.1)), (8, (eI s.2.2))] ∧ aM ⟨H0, [lo0p], []⟩ H [(lo0p, 3, List.map aE s.1)] ∧ List.length s.1 = N0) hl0 ⟨.eq (by kernel_rfl), hO, hN⟩ ?_
  clear hO hN
  rintro k0 s out1 T H ⟨hT, hO, hN⟩ h1 ho0
  obtain ⟨aA, a7, b8⟩ := s
  replace h1 : gZ cmp2 n1 aO aA a7 b8 = some out1 := h1
  try dsimp only at hT
  refine bD hT ?_
  clear hT
  unfold gZ at h1
  refine aP ?_
  refine aX aF 3 [] [(13, (aJ (decide (b8 ≤ n1))))] ?_
  refine bN h1 (fun h1 => ?_) (fun h1 => ?_)
  · refine bP ?_
    refine bG [(0, (.msl 3 lo0p 0 (List.length aA))), (1, (eI n1)), (2, (.fn (.func cmp2_f) cmp2_a cmp2_c)), (6, (eI aO)), (7, (eI a7)), (8, (eI b8))] ?_
    refine bR 1 ?_
    refine aP ?_
    refine aT aF 5 ?_
    refine bO 4 ?_
    obtain ⟨x14, hx15, h1⟩ := aY h1
    refine nY [(lo0p, 3, List.map aE x14)] 0 (mY lo0p aA a7 b8 cmp2_f cmp2_a cmp2_c cmp2 cmp2_h _ hx15) hO ?_
    intro H hO hl16
    simp only [List.length_map] at hl16
    replace hN := hl16.trans hN
    refine cJ ?_
    refine cN (l := [(0, (.msl 3 lo0p 0 (List.length x14))), (1, (eI n1)), (2, (.fn (.func cmp2_f) cmp2_a cmp2_c)), (6, (eI aO)), (8, (eI b8))]) ⟨[(0, (.msl 3 lo0p 0 (List.length aA))), (1, (eI n1)), (2, (.fn (.func cmp2_f) cmp2_a cmp2_c)), (6, (eI aO)), (8, (eI b8))], by kernel_rfl, rfl, ⟨aZ.eq (by simp [hl16]), aZ.refl _, aZ.refl _, aZ.refl _, aZ.refl _, trivial⟩⟩ ?_
    refine aH (aG (?_))
    refine aX aF 2 [] [(7, (eI b8))] ?_
    refine aT aF 4 ?_
    refine bF ?_
    exact aH (aV (aG (⟨rfl, _, (oI h1).symm, .eq (by kernel_rfl), hO, hN⟩)))
  refine dJ 0 ?_
  obtain rfl := oI h1
  obtain rfl : _ = rr0 := ho0
  replace h0 : eU cmp2 aA n1 aO a7 = some r := h0
  exact aH (aU (aU (bQ (aG (⟨rfl, _, _, _, .eq (by kernel_rfl), hO, hN, h0⟩)))))

theorem qY (lo0p : Nat) (x0 : (List aD)) (cmp1_f : Nat) (cmp1_a cmp1_c : List V) (cmp1 : aD → aD → Option Int) (cmp1_h : ∀ a0 a1 r, cmp1 a0 a1 = some r → bW Try.prog cmp1_f (cmp1_a ++ [(aE a0), (aE a1)] ++ cmp1_c) (eI r)) (r : List aD) (h0 : cY x0 cmp1 = some r) : kV Try.prog 60 lo0p 3 (List.map aE x0) (List.map aE r) [(.msl 3 lo0p 0 (List.length x0)), (.fn (.func cmp1_f) cmp1_a cmp1_c)] (.tup []) := by
  intro H0 hl0
  refine cH Try.func60 ?_
  have hO := aM.pS hl0
  clear hl0
  obtain ⟨N0, hN0⟩ : ∃ n, n = List.length x0 := ⟨_, rfl⟩
  have hN : List.length x0 = N0 := hN0.symm
  unfold cY at h0
  refine aT aF 5 ?_
  refine bO 4 ?_
  obtain ⟨x1, hx2, h0⟩ := aY h0
  refine nY [(lo0p, 3, List.map aE x1)] 0 (wK lo0p x0 (lN x0) cmp1_f cmp1_a cmp1_c cmp1 cmp1_h _ hx2) hO ?_
  intro H hO hl3
  simp only [List.length_map] at hl3
  replace hN := hl3.trans hN
  refine cJ ?_
  refine cN (l := [(0, (.msl 3 lo0p 0 (List.length x1)))]) ⟨[(0, (.msl 3 lo0p 0 (List.length x0)))], by kernel_rfl, rfl, ⟨aZ.eq (by simp [hl3]), trivial⟩⟩ ?_
  obtain rfl := oI h0
  exact aH (qB (x := (.tup [])) (by kernel_rfl) (aZ.refl _) ⟨rfl, hO.ext, hO.at 0 (by kernel_rfl), by simp only [List.length_map]; exact hN.trans hN0⟩)

theorem IC (t0 : (List aI)) (r : (Int × (List aI))) (h0 : sV t0 = some r) : zE Try.prog 101 [(.rp (eL aL t0))] (fun lo => (.fn (.func 102) [] [(.lp lo 0 0), (.rp (eL aL r.2))])) 1 [(eI r.1)] := by
  intro H0
  refine cH Try.func101 ?_
  have hO := aM.start H0
  unfold sV at h0
  refine aX aF 1 [] [] ?_
  refine aP ?_
  refine aT aF 2 ?_
  refine mG 1 (eI 0) (by kernel_rfl) (by kernel_rfl) hO ?_
  intro lo1 H hO
  refine iY 0 lo1 1 0 (eI 0) (eI (-1 : Int)) [(eI 0)] [(lo1, 1, [(eI (-1 : Int))])] hO rfl (by kernel_rfl) ?_
  intro H hO
  refine cJ ?_
  refine bS [] [(2, (.lp lo1 0 0))] ?_
  refine aX aF 2 [0] [(1, (.fn (.func 102) [] [(.lp lo1 0 0), (.rp (eL aL t0))]))] ?_
  refine bM ?_
  obtain rfl := oI h0
  exact aH (pQ (x := (.fn (.func 102) [] [(.lp lo1 0 0), (.rp (eL aL t0))])) (by kernel_rfl) (aZ.refl _) ⟨lo1, rfl, hO⟩)

theorem sQ {σ : Type} (I : σ → Gs → Prop) (s0 : (List aI)) (f1_v : V) (f1 : σ → aI → Option (σ × Bool)) (f1_h : ∀ st a0 st2 r, f1 st a0 = some (st2, r) → FQ Try.prog f1_v I st [(aL a0)] st2 (aJ r)) (sg0 : σ) (r : (σ × Int)) (h0 : eZ s0 f1 sg0 = some r) : zF Try.prog 100 I sg0 [(eL aL s0), f1_v] r.1 (eI r.2) := by
  intro H0 G0 hI hg
  refine cH Try.func100 ?_
  obtain ⟨G, hO, hI⟩ : ∃ G, aM ⟨H0, List.map (fun p : Nat × cV => p.1) G0, G⟩ H0 [] ∧ I sg0 G := ⟨G0, aM.IE hg, hI⟩
  clear hg
  unfold eZ at h0
  refine aX aF 1 [] [] ?_
  refine cU (fun T H => ∃ sg : σ, ∃ G : Gs, Has T [] ∧ aM ⟨H0, List.map (fun p : Nat × cV => p.1) G0, G⟩ H [] ∧ I sg G ∧ dH f1 sg = some r) ?_ ?_
  · clear hO hI h0
    rintro T H ⟨sg, G, hT, hO, hI, h0⟩
    refine bD hT ?_
    clear hT
    unfold dH at h0
    refine bV aF 1 [(4, (eI (-1 : Int)))] ?_
    refine bM ?_
    obtain rfl := oI h0
    exact aH (pQ (x := (eI (-1 : Int))) (by kernel_rfl) (aZ.refl _) ⟨rfl, G, hI, hO.FH⟩)
  refine aX aF 3 [] [(7, (eI (lN s0))), (8, (eI (0 : Int)))] ?_
  refine bR 0 ?_
  refine cR [(0, (eL aL s0)), (1, f1_v), (7, (eI (lN s0))), (8, (eI (0 : Int)))] ?_
  refine cK (fun T H => ∃ sg : σ, ∃ t7 : Int, ∃ t8 : Int, ∃ G : Gs, Has T [(0, (eL aL s0)), (1, f1_v), (7, (eI t7)), (8, (eI t8))] ∧ aM ⟨H0, List.map (fun p : Nat × cV => p.1) G0, G⟩ H [] ∧ I sg G ∧ eS f1 sg s0 t7 t8 = some r) ?_ ⟨sg0, (lN s0), (0 : Int), G, .eq (by kernel_rfl), hO, hI, h0⟩
  clear hO hI h0
  rintro T H ⟨sg, t7, t8, G, hT, hO, hI, h0⟩
  refine bD hT ?_
  clear hT
  unfold eS at h0
  obtain ⟨rr0, hl0, h0⟩ := aY h0
  refine cB (by kernel_rfl) (fun (s : σ × Int) T H => ∃ G : Gs, Has T [(0, (eL aL s0)), (1, f1_v), (7, (eI t7)), (8, (eI s.2))] ∧ aM ⟨H0, List.map (fun p : Nat × cV => p.1) G0, G⟩ H [] ∧ I s.1 G) hl0 ⟨G, .eq (by kernel_rfl), hO, hI⟩ ?_
  clear hO hI
  rintro k0 s out1 T H ⟨G, hT, hO, hI⟩ h1 ho0
  obtain ⟨sg, t8⟩ := s
  replace h1 : bY f1 s0 t7 sg t8 = some out1 := h1
  try dsimp only at hT
  refine bD hT ?_
  clear hT
  unfold bY at h1
  refine aX aF 1 [] [(9, (aJ (decide (t8 < t7))))] ?_
  refine aP ?_
  refine bN h1 (fun h1 => ?_) (fun h1 => ?_)
  · refine bP ?_
    refine bG [(0, (eL aL s0)), (1, f1_v), (7, (eI t7)), (8, (eI t8))] ?_
    refine aP ?_
    refine bR 1 ?_
    refine aX aF 2 [] [(5, (eI t8))] ?_
    refine aP ?_
    refine aT aF 6 ?_
    obtain ⟨c2, h1⟩ := bK h1
    refine oS 5 [0 ≤ t8 ∧ t8 < (lN s0)] ⟨c2, trivial⟩ ?_
    obtain ⟨x3, hx4, h1⟩ := aY h1
    refine RY (I := I) f1_v [(aL (gD s0 t8))] (aJ x3.2) (by kernel_rfl) (by kernel_rfl) (f1_h _ (gD s0 t8) x3.1 x3.2 hx4) hO hI ?_
    intro G H hO hI
    refine cJ ?_
    refine bS [] [(16, (aJ x3.2))] ?_
    refine bN h1 (fun h1 => ?_) (fun h1 => ?_)
    · refine bV aF 2 [(4, (eI t8))] ?_
      refine bM ?_
      obtain rfl := oI h1
      obtain rfl : _ = rr0 := ho0
      replace h0 : some (x3.1, t8) = some r := h0
      obtain rfl := oI h0
      exact aH (bU (bB (bB (bU (bB (pQ (x := (eI t8)) (by kernel_rfl) (aZ.refl _) ⟨rfl, G, hI, hO.FH⟩))))))
    refine bP ?_
    refine cX [(0, (eL aL s0)), (1, f1_v), (7, (eI t7)), (8, (eI t8))] ?_
    refine aH (aV (aG (?_)))
    refine aT aF 2 ?_
    refine bF ?_
    exact aH (aG (⟨rfl, _, (oI h1).symm, _, .eq (by kernel_rfl), hO, hI⟩))
  refine dJ 0 ?_
  obtain rfl := oI h1
  obtain rfl : _ = rr0 := ho0
  replace h0 : dH f1 sg = some r := h0
  exact aH (aU (aU (bQ (aG (⟨rfl, _, _, .eq (by kernel_rfl), hO, hI, h0⟩)))))

theorem FZ (v0 : aI) (lo1p : Nat) (t1 : Int) (t2 : (List aI)) (r : (Bool × Int)) (h0 : iU v0 t1 t2 = some r) : kV Try.prog 102 lo1p 1 [(eI t1)] [(eI r.2)] [(aL v0), (.lp lo1p 0 0), (.rp (eL aL t2))] (aJ r.1) := by
  intro H0 hl0
  refine cH Try.func102 ?_
  have hO := aM.pS hl0
  clear hl0
  unfold iU at h0
  refine aP ?_
  refine aT aF 2 ?_
  refine gP 3 (aL v0) (by kernel_rfl) (by kernel_rfl) ?_
  refine bF ?_
  refine bS [0] [(3, (.rp (aL v0)))] ?_
  refine aP ?_
  refine aT aF 3 ?_
  refine kC 0 lo1p 1 0 (eI t1) (eI t1) [(eI t1)] hO rfl ?_
  refine bO 2 ?_
  refine iY 0 lo1p 1 0 (eI t1) (eI (wR (t1 + (1 : Int)))) [(eI t1)] [(lo1p, 1, [(eI (wR (t1 + (1 : Int))))])] hO rfl (by kernel_rfl) ?_
  intro H hO
  refine cJ ?_
  refine bS [] [] ?_
  refine aP ?_
  refine jF (jG [7, 8, 11]) aF 7 ?_
  refine tJ 2 ?_
  refine kP 0 lo1p 1 0 (eI (wR (t1 + (1 : Int)))) (eI (wR (t1 + (1 : Int)))) [(eI (wR (t1 + (1 : Int))))] hO rfl ?_
  obtain ⟨c1, h0⟩ := bK h0
  refine FW (Ds := [0 ≤ (wR (t1 + (1 : Int))) ∧ (wR (t1 + (1 : Int))) < (lN t2)]) (by kernel_rfl) ⟨c1, trivial⟩ ?_
  refine bG [(1, (.lp lo1p 0 0)), (4, (aJ (!((decide (v0.Kind = ((gD t2 (wR (t1 + (1 : Int)))).Kind))) && ((decide (v0.Num = ((gD t2 (wR (t1 + (1 : Int)))).Num))) && ((nX v0.Text ((gD t2 (wR (t1 + (1 : Int)))).Text)) && true))))))] ?_
  refine bM ?_
  obtain rfl := oI h0
  exact aH (pQ (x := (aJ (!((decide (v0.Kind = ((gD t2 (wR (t1 + (1 : Int)))).Kind))) && ((decide (v0.Num = ((gD t2 (wR (t1 + (1 : Int)))).Num))) && ((nX v0.Text ((gD t2 (wR (t1 + (1 : Int)))).Text)) && true)))))) (by kernel_rfl) (aZ.refl _) ⟨rfl, hO.ext, hO.at 0 (by kernel_rfl), rfl⟩)

theorem AU (x0 : Int) (r : Bool) (h0 : nT x0 = some r) : bW Try.prog 104 [(eI x0)] (aJ r) := by
  intro H0
  refine cH Try.func104 ?_
  have hO := aM.start H0
  unfold nT at h0
  refine aX aF 1 [] [] ?_
  refine bV aF 4 [(2, (aJ (!decide (x0 = x0))))] ?_
  refine bM ?_
  obtain rfl := oI h0
  exact aH (Q_r hO)

theorem uO (x0 : Int) (y1 : Int) (r : Int) (h0 : iT x0 y1 = some r) : bW Try.prog 64 [(eI x0), (eI y1)] (eI r) := by
  intro H0
  refine cH Try.func64 ?_
  have hO := aM.start H0
  unfold iT at h0
  refine aX aF 1 [] [] ?_
  refine aP ?_
  refine aT aF 3 ?_
  refine bO 1 ?_
  obtain ⟨x1, hx2, h0⟩ := aY h0
  refine cI (AU x0 _ hx2) hO ?_
  intro H hO
  refine bF ?_
  refine bS [] [(5, (aJ x1))] ?_
  refine aP ?_
  refine aT aF 3 ?_
  refine bO 1 ?_
  obtain ⟨x4, hx5, h0⟩ := aY h0
  refine cI (AU y1 _ hx5) hO ?_
  intro H hO
  refine bF ?_
  refine bS [] [(6, (aJ x4))] ?_
  refine aP ?_
  refine aX aF 1 [5] [(11, (aJ x1))] ?_
  refine bN h0 (fun h0 => ?_) (fun h0 => ?_)
  · refine aP ?_
    refine bV aF 1 [(12, (aJ x4))] ?_
    refine bN h0 (fun h0 => ?_) (fun h0 => ?_)
    · refine bV aF 1 [(4, (eI (0 : Int)))] ?_
      refine bM ?_
      obtain rfl := oI h0
      exact aH (bB (bB (Q_r hO)))
    refine bP ?_
    refine bG [] ?_
    refine bV aF 1 [(4, (eI (-1 : Int)))] ?_
    refine bM ?_
    obtain rfl := oI h0
    exact aH (bB (Q_r hO))
  refine bP ?_
  refine bG [(0, (eI x0)), (1, (eI y1)), (6, (aJ x4))] ?_
  refine aP ?_
  refine aX aF 1 [6] [(13, (aJ x4))] ?_
  refine bN h0 (fun h0 => ?_) (fun h0 => ?_)
  · refine bV aF 1 [(4, (eI (1 : Int)))] ?_
    refine bM ?_
    obtain rfl := oI h0
    exact aH (bB (Q_r hO))
  refine bP ?_
  refine bG [(0, (eI x0)), (1, (eI y1))] ?_
  refine aP ?_
  refine aX aF 3 [] [(16, (aJ (decide (x0 < y1))))] ?_
  refine bN h0 (fun h0 => ?_) (fun h0 => ?_)
  · refine bV aF 1 [(4, (eI (-1 : Int)))] ?_
    refine bM ?_
    obtain rfl := oI h0
    exact aH (bB (Q_r hO))
  refine bP ?_
  refine bG [(0, (eI x0)), (1, (eI y1))] ?_
  refine aP ?_
  refine bV aF 3 [(19, (aJ (decide (y1 < x0))))] ?_
  refine bN h0 (fun h0 => ?_) (fun h0 => ?_)
  · refine bV aF 1 [(4, (eI (1 : Int)))] ?_
    refine bM ?_
    obtain rfl := oI h0
    exact aH (bB (Q_r hO))
  refine bP ?_
  refine bG [] ?_
  refine bV aF 1 [(4, (eI (0 : Int)))] ?_
  refine bM ?_
  obtain rfl := oI h0
  exact aH (Q_r hO)

theorem tI (x0 : Int) (r : Bool) (h0 : jB x0 = some r) : bW Try.prog 138 [(eI x0)] (aJ r) := by
  intro H0
  refine cH Try.func138 ?_
  have hO := aM.start H0
  unfold jB at h0
  refine aX aF 1 [] [] ?_
  refine bV aF 4 [(2, (aJ (!decide (x0 = x0))))] ?_
  refine bM ?_
  obtain rfl := oI h0
  exact aH (Q_r hO)

theorem zA (x0 : Int) (y1 : Int) (r : Int) (h0 : dZ x0 y1 = some r) : bW Try.prog 129 [(eI x0), (eI y1)] (eI r) := by
  intro H0
  refine cH Try.func129 ?_
  have hO := aM.start H0
  unfold dZ at h0
  refine aX aF 1 [] [] ?_
  refine aP ?_
  refine aT aF 3 ?_
  refine bO 1 ?_
  obtain ⟨x1, hx2, h0⟩ := aY h0
  refine cI (tI x0 _ hx2) hO ?_
  intro H hO
  refine bF ?_
  refine bS [] [(5, (aJ x1))] ?_
  refine aP ?_
  refine aT aF 3 ?_
  refine bO 1 ?_
  obtain ⟨x4, hx5, h0⟩ := aY h0
  refine cI (tI y1 _ hx5) hO ?_
  intro H hO
  refine bF ?_
  refine bS [] [(6, (aJ x4))] ?_
  refine aP ?_
  refine aX aF 1 [5] [(11, (aJ x1))] ?_
  refine bN h0 (fun h0 => ?_) (fun h0 => ?_)
  · refine aP ?_
    refine bV aF 1 [(12, (aJ x4))] ?_
    refine bN h0 (fun h0 => ?_) (fun h0 => ?_)
    · refine bV aF 1 [(4, (eI (0 : Int)))] ?_
      refine bM ?_
      obtain rfl := oI h0
      exact aH (bB (bB (Q_r hO)))
    refine bP ?_
    refine bG [] ?_
    refine bV aF 1 [(4, (eI (-1 : Int)))] ?_
    refine bM ?_
    obtain rfl := oI h0
    exact aH (bB (Q_r hO))
  refine bP ?_
  refine bG [(0, (eI x0)), (1, (eI y1)), (6, (aJ x4))] ?_
  refine aP ?_
  refine aX aF 1 [6] [(13, (aJ x4))] ?_
  refine bN h0 (fun h0 => ?_) (fun h0 => ?_)
  · refine bV aF 1 [(4, (eI (1 : Int)))] ?_
    refine bM ?_
    obtain rfl := oI h0
    exact aH (bB (Q_r hO))
  refine bP ?_
  refine bG [(0, (eI x0)), (1, (eI y1))] ?_
  refine aP ?_
  refine aX aF 3 [] [(16, (aJ (decide (x0 < y1))))] ?_
  refine bN h0 (fun h0 => ?_) (fun h0 => ?_)
  · refine bV aF 1 [(4, (eI (-1 : Int)))] ?_
    refine bM ?_
    obtain rfl := oI h0
    exact aH (bB (Q_r hO))
  refine bP ?_
  refine bG [(0, (eI x0)), (1, (eI y1))] ?_
  refine aP ?_
  refine bV aF 3 [(19, (aJ (decide (y1 < x0))))] ?_
  refine bN h0 (fun h0 => ?_) (fun h0 => ?_)
  · refine bV aF 1 [(4, (eI (1 : Int)))] ?_
    refine bM ?_
    obtain rfl := oI h0
    exact aH (bB (Q_r hO))
  refine bP ?_
  refine bG [] ?_
  refine bV aF 1 [(4, (eI (0 : Int)))] ?_
  refine bM ?_
  obtain rfl := oI h0
  exact aH (Q_r hO)

theorem vZ (a0 : ByteArray) (b1 : ByteArray) (r : Int) (h0 : iC a0 b1 = some r) : bW Try.prog 139 [(BN a0), (BN b1)] (eI r) := by
  intro H0
  refine cH Try.func139 ?_
  have hO := aM.start H0
  unfold iC at h0
  refine aX aF 1 [] [] ?_
  refine aP ?_
  refine aT aF 4 ?_
  refine bO 2 ?_
  refine ZR 143 [(BN a0), (BN b1)] (eI (JR a0 b1)) (by kernel_rfl) (by kernel_rfl) (YM Try.func143 (by kernel_rfl) (by kernel_rfl) (by kernel_rfl) (by kernel_rfl) a0 b1) hO ?_
  intro H hO
  refine bF ?_
  refine bG [(4, (eI (JR a0 b1)))] ?_
  refine bM ?_
  obtain rfl := oI h0
  exact aH (Q_r hO)

theorem FY (a0 : ByteArray) (b1 : ByteArray) (r : Int) (h0 : mL a0 b1 = some r) : bW Try.prog 130 [(BN a0), (BN b1)] (eI r) := by
  intro H0
  refine cH Try.func130 ?_
  have hO := aM.start H0
  unfold mL at h0
  refine aX aF 1 [] [] ?_
  refine aP ?_
  refine aT aF 4 ?_
  refine bO 2 ?_
  obtain ⟨x1, hx2, h0⟩ := aY h0
  refine cI (vZ a0 b1 _ hx2) hO ?_
  intro H hO
  refine bF ?_
  refine bG [(4, (eI x1))] ?_
  refine bM ?_
  obtain rfl := oI h0
  exact aH (Q_r hO)

theorem IQ (a0 : aI) (b1 : aI) (r : Int) (h0 : pM a0 b1 = some r) : bW Try.prog 103 [(aL a0), (aL b1)] (eI r) := by
  intro H0
  refine cH Try.func103 ?_
  have hO := aM.start H0
  unfold pM at h0
  refine aP ?_
  refine aT aF 3 ?_
  refine gP 3 (aL a0) (by kernel_rfl) (by kernel_rfl) ?_
  refine gP 3 (aL b1) (by kernel_rfl) (by kernel_rfl) ?_
  refine bF ?_
  refine bG [(2, (.rp (aL a0))), (3, (.rp (aL b1)))] ?_
  refine aP ?_
  refine aT aF 7 ?_
  refine bO 1 ?_
  obtain ⟨⟨x1_0, x1_1⟩, hx2, h0⟩ := aY h0
  refine cI (xD a0 _ hx2) hO ?_
  intro H hO
  rcases x1_0 with _ | y4 | y5
  · replace h0 : ((lI b1).bind fun (x6_0, x6_1) => match x6_0 with | .none_ => (cond ((!x1_1) || (!x6_1)) (some (0 : Int)) (none)) | .k_number y9 => (cond ((!x1_1) || (!x6_1)) (some (0 : Int)) (some (1 : Int))) | .k_words y10 => (cond ((!x1_1) || (!x6_1)) (some (0 : Int)) (none))) = some r := h0
    refine bF ?_
    refine bS [2] [(5, (bH bJ.none_)), (6, (aJ x1_1))] ?_
    refine aP ?_
    refine aT aF 7 ?_
    refine bO 1 ?_
    obtain ⟨⟨x6_0, x6_1⟩, hx7, h0⟩ := aY h0
    refine cI (xD b1 _ hx7) hO ?_
    intro H hO
    rcases x6_0 with _ | y9 | y10
    · replace h0 : (cond ((!x1_1) || (!x6_1)) (some (0 : Int)) (none)) = some r := h0
      refine bF ?_
      refine bS [3] [(7, (bH bJ.none_)), (8, (aJ x6_1))] ?_
      refine aP ?_
      refine aX aF 6 [6, 8] [(28, (aJ ((!x1_1) || (!x6_1))))] ?_
      refine bN h0 (fun h0 => ?_) (fun h0 => ?_)
      · refine bV aF 1 [(4, (eI (0 : Int)))] ?_
        refine bM ?_
        obtain rfl := oI h0
        exact aH (bB (Q_r hO))
      refine bP ?_
      refine bG [(5, (bH bJ.none_)), (7, (bH bJ.none_))] ?_
      refine aX aF 7 [] [(9, (eI 0)), (10, (aJ false))] ?_
      refine aX aF 7 [] [(11, (eI 0)), (12, (aJ false))] ?_
      refine aP ?_
      refine bR 0 ?_
      refine aX aF 5 [] [(39, (aJ false))] ?_
      refine nW (false) (fun hc12 => ?_) (fun hc12 => ?_)
      · cases hc12
      · refine aX aF 2 [9, 10, 11, 39] [(47, (aJ false))] ?_
        refine nW (false) (fun hc13 => ?_) (fun hc13 => ?_)
        · cases hc13
        · refine bV aF 2 [(5, (bH bJ.none_)), (7, (bH bJ.none_)), (49, (aJ false))] ?_
          refine nW (false) (fun hc14 => ?_) (fun hc14 => ?_)
          · cases hc14
          · refine bP ?_
            refine cX [(5, (bH bJ.none_)), (7, (bH bJ.none_))] ?_
            refine aH (aV (aG (?_)))
            refine aP ?_
            refine jF (jG []) aF 6 ?_
            cases h0
    · replace h0 : (cond ((!x1_1) || (!x6_1)) (some (0 : Int)) (some (1 : Int))) = some r := h0
      refine bF ?_
      refine bS [3] [(7, (bH (bJ.k_number y9))), (8, (aJ x6_1))] ?_
      refine aP ?_
      refine aX aF 6 [6, 8] [(28, (aJ ((!x1_1) || (!x6_1))))] ?_
      refine bN h0 (fun h0 => ?_) (fun h0 => ?_)
      · refine bV aF 1 [(4, (eI (0 : Int)))] ?_
        refine bM ?_
        obtain rfl := oI h0
        exact aH (bB (Q_r hO))
      refine bP ?_
      refine bG [(5, (bH bJ.none_)), (7, (bH (bJ.k_number y9)))] ?_
      refine aX aF 7 [] [(9, (eI 0)), (10, (aJ false))] ?_
      refine aX aF 7 [] [(11, (eI y9)), (12, (aJ true))] ?_
      refine aP ?_
      refine bR 0 ?_
      refine aX aF 5 [] [(39, (aJ false))] ?_
      refine nW (false) (fun hc16 => ?_) (fun hc16 => ?_)
      · cases hc16
      · refine aX aF 2 [9, 10, 11, 39] [(47, (aJ false))] ?_
        refine nW (false) (fun hc17 => ?_) (fun hc17 => ?_)
        · cases hc17
        · refine bV aF 2 [(5, (bH bJ.none_)), (7, (bH (bJ.k_number y9))), (49, (aJ true))] ?_
          refine nW (true) (fun hc18 => ?_) (fun hc18 => ?_)
          · refine bV aF 1 [(4, (eI (1 : Int)))] ?_
            refine bM ?_
            obtain rfl := oI h0
            exact aH (bU (bB (Q_r hO)))
          · cases hc18
    · replace h0 : (cond ((!x1_1) || (!x6_1)) (some (0 : Int)) (none)) = some r := h0
      refine bF ?_
      refine bS [3] [(7, (bH (bJ.k_words y10))), (8, (aJ x6_1))] ?_
      refine aP ?_
      refine aX aF 6 [6, 8] [(28, (aJ ((!x1_1) || (!x6_1))))] ?_
      refine bN h0 (fun h0 => ?_) (fun h0 => ?_)
      · refine bV aF 1 [(4, (eI (0 : Int)))] ?_
        refine bM ?_
        obtain rfl := oI h0
        exact aH (bB (Q_r hO))
      refine bP ?_
      refine bG [(5, (bH bJ.none_)), (7, (bH (bJ.k_words y10)))] ?_
      refine aX aF 7 [] [(9, (eI 0)), (10, (aJ false))] ?_
      refine aX aF 7 [] [(11, (eI 0)), (12, (aJ false))] ?_
      refine aP ?_
      refine bR 0 ?_
      refine aX aF 5 [] [(39, (aJ false))] ?_
      refine nW (false) (fun hc20 => ?_) (fun hc20 => ?_)
      · cases hc20
      · refine aX aF 2 [9, 10, 11, 39] [(47, (aJ false))] ?_
        refine nW (false) (fun hc21 => ?_) (fun hc21 => ?_)
        · cases hc21
        · refine bV aF 2 [(5, (bH bJ.none_)), (7, (bH (bJ.k_words y10))), (49, (aJ false))] ?_
          refine nW (false) (fun hc22 => ?_) (fun hc22 => ?_)
          · cases hc22
          · refine bP ?_
            refine cX [(5, (bH bJ.none_)), (7, (bH (bJ.k_words y10)))] ?_
            refine aH (aV (aG (?_)))
            refine aP ?_
            refine jF (jG []) aF 6 ?_
            cases h0
  · replace h0 : ((lI b1).bind fun (x23_0, x23_1) => match x23_0 with | .none_ => (cond ((!x1_1) || (!x23_1)) (some (0 : Int)) (some (-1 : Int))) | .k_number y26 => (cond ((!x1_1) || (!x23_1)) (some (0 : Int)) ((dZ y4 y26).bind fun x33 => some x33)) | .k_words y27 => (cond ((!x1_1) || (!x23_1)) (some (0 : Int)) (some (-1 : Int)))) = some r := h0
    refine bF ?_
    refine bS [2] [(5, (bH (bJ.k_number y4))), (6, (aJ x1_1))] ?_
    refine aP ?_
    refine aT aF 7 ?_
    refine bO 1 ?_
    obtain ⟨⟨x23_0, x23_1⟩, hx24, h0⟩ := aY h0
    refine cI (xD b1 _ hx24) hO ?_
    intro H hO
    rcases x23_0 with _ | y26 | y27
    · replace h0 : (cond ((!x1_1) || (!x23_1)) (some (0 : Int)) (some (-1 : Int))) = some r := h0
      refine bF ?_
      refine bS [3] [(7, (bH bJ.none_)), (8, (aJ x23_1))] ?_
      refine aP ?_
      refine aX aF 6 [6, 8] [(28, (aJ ((!x1_1) || (!x23_1))))] ?_
      refine bN h0 (fun h0 => ?_) (fun h0 => ?_)
      · refine bV aF 1 [(4, (eI (0 : Int)))] ?_
        refine bM ?_
        obtain rfl := oI h0
        exact aH (bB (Q_r hO))
      refine bP ?_
      refine bG [(5, (bH (bJ.k_number y4))), (7, (bH bJ.none_))] ?_
      refine aX aF 7 [] [(9, (eI y4)), (10, (aJ true))] ?_
      refine aX aF 7 [] [(11, (eI 0)), (12, (aJ false))] ?_
      refine aP ?_
      refine bR 0 ?_
      refine aX aF 5 [] [(39, (aJ false))] ?_
      refine nW (false) (fun hc29 => ?_) (fun hc29 => ?_)
      · cases hc29
      · refine aX aF 2 [9, 10, 11, 39] [(47, (aJ true))] ?_
        refine nW (true) (fun hc30 => ?_) (fun hc30 => ?_)
        · refine bV aF 1 [(4, (eI (-1 : Int)))] ?_
          refine bM ?_
          obtain rfl := oI h0
          exact aH (bU (bB (Q_r hO)))
        · cases hc30
    · replace h0 : (cond ((!x1_1) || (!x23_1)) (some (0 : Int)) ((dZ y4 y26).bind fun x33 => some x33)) = some r := h0
      refine bF ?_
      refine bS [3] [(7, (bH (bJ.k_number y26))), (8, (aJ x23_1))] ?_
      refine aP ?_
      refine aX aF 6 [6, 8] [(28, (aJ ((!x1_1) || (!x23_1))))] ?_
      refine bN h0 (fun h0 => ?_) (fun h0 => ?_)
      · refine bV aF 1 [(4, (eI (0 : Int)))] ?_
        refine bM ?_
        obtain rfl := oI h0
        exact aH (bB (Q_r hO))
      refine bP ?_
      refine bG [(5, (bH (bJ.k_number y4))), (7, (bH (bJ.k_number y26)))] ?_
      refine aX aF 7 [] [(9, (eI y4)), (10, (aJ true))] ?_
      refine aX aF 7 [] [(11, (eI y26)), (12, (aJ true))] ?_
      refine aP ?_
      refine bR 0 ?_
      refine aX aF 5 [] [(39, (aJ true))] ?_
      refine nW (true) (fun hc32 => ?_) (fun hc32 => ?_)
      · refine aP ?_
        refine aT aF 4 ?_
        refine bO 2 ?_
        obtain ⟨x33, hx34, h0⟩ := aY h0
        refine cI (zA y4 y26 _ hx34) hO ?_
        intro H hO
        refine bF ?_
        refine bG [(4, (eI x33))] ?_
        refine bM ?_
        obtain rfl := oI h0
        exact aH (bU (bB (Q_r hO)))
      · cases hc32
    · replace h0 : (cond ((!x1_1) || (!x23_1)) (some (0 : Int)) (some (-1 : Int))) = some r := h0
      refine bF ?_
      refine bS [3] [(7, (bH (bJ.k_words y27))), (8, (aJ x23_1))] ?_
      refine aP ?_
      refine aX aF 6 [6, 8] [(28, (aJ ((!x1_1) || (!x23_1))))] ?_
      refine bN h0 (fun h0 => ?_) (fun h0 => ?_)
      · refine bV aF 1 [(4, (eI (0 : Int)))] ?_
        refine bM ?_
        obtain rfl := oI h0
        exact aH (bB (Q_r hO))
      refine bP ?_
      refine bG [(5, (bH (bJ.k_number y4))), (7, (bH (bJ.k_words y27)))] ?_
      refine aX aF 7 [] [(9, (eI y4)), (10, (aJ true))] ?_
      refine aX aF 7 [] [(11, (eI 0)), (12, (aJ false))] ?_
      refine aP ?_
      refine bR 0 ?_
      refine aX aF 5 [] [(39, (aJ false))] ?_
      refine nW (false) (fun hc37 => ?_) (fun hc37 => ?_)
      · cases hc37
      · refine aX aF 2 [9, 10, 11, 39] [(47, (aJ true))] ?_
        refine nW (true) (fun hc38 => ?_) (fun hc38 => ?_)
        · refine bV aF 1 [(4, (eI (-1 : Int)))] ?_
          refine bM ?_
          obtain rfl := oI h0
          exact aH (bU (bB (Q_r hO)))
        · cases hc38
  · replace h0 : ((lI b1).bind fun (x39_0, x39_1) => match x39_0 with | .none_ => (cond ((!x1_1) || (!x39_1)) (some (0 : Int)) (none)) | .k_number y42 => (cond ((!x1_1) || (!x39_1)) (some (0 : Int)) (some (1 : Int))) | .k_words y43 => (cond ((!x1_1) || (!x39_1)) (some (0 : Int)) ((mL y5 y43).bind fun x56 => some x56))) = some r := h0
    refine bF ?_
    refine bS [2] [(5, (bH (bJ.k_words y5))), (6, (aJ x1_1))] ?_
    refine aP ?_
    refine aT aF 7 ?_
    refine bO 1 ?_
    obtain ⟨⟨x39_0, x39_1⟩, hx40, h0⟩ := aY h0
    refine cI (xD b1 _ hx40) hO ?_
    intro H hO
    rcases x39_0 with _ | y42 | y43
    · replace h0 : (cond ((!x1_1) || (!x39_1)) (some (0 : Int)) (none)) = some r := h0
      refine bF ?_
      refine bS [3] [(7, (bH bJ.none_)), (8, (aJ x39_1))] ?_
      refine aP ?_
      refine aX aF 6 [6, 8] [(28, (aJ ((!x1_1) || (!x39_1))))] ?_
      refine bN h0 (fun h0 => ?_) (fun h0 => ?_)
      · refine bV aF 1 [(4, (eI (0 : Int)))] ?_
        refine bM ?_
        obtain rfl := oI h0
        exact aH (bB (Q_r hO))
      refine bP ?_
      refine bG [(5, (bH (bJ.k_words y5))), (7, (bH bJ.none_))] ?_
      refine aX aF 7 [] [(9, (eI 0)), (10, (aJ false))] ?_
      refine aX aF 7 [] [(11, (eI 0)), (12, (aJ false))] ?_
      refine aP ?_
      refine bR 0 ?_
      refine aX aF 5 [] [(39, (aJ false))] ?_
      refine nW (false) (fun hc45 => ?_) (fun hc45 => ?_)
      · cases hc45
      · refine aX aF 2 [9, 10, 11, 39] [(47, (aJ false))] ?_
        refine nW (false) (fun hc46 => ?_) (fun hc46 => ?_)
        · cases hc46
        · refine bV aF 2 [(5, (bH (bJ.k_words y5))), (7, (bH bJ.none_)), (49, (aJ false))] ?_
          refine nW (false) (fun hc47 => ?_) (fun hc47 => ?_)
          · cases hc47
          · refine bP ?_
            refine cX [(5, (bH (bJ.k_words y5))), (7, (bH bJ.none_))] ?_
            refine aH (aV (aG (?_)))
            refine aP ?_
            refine jF (jG []) aF 6 ?_
            cases h0
    · replace h0 : (cond ((!x1_1) || (!x39_1)) (some (0 : Int)) (some (1 : Int))) = some r := h0
      refine bF ?_
      refine bS [3] [(7, (bH (bJ.k_number y42))), (8, (aJ x39_1))] ?_
      refine aP ?_
      refine aX aF 6 [6, 8] [(28, (aJ ((!x1_1) || (!x39_1))))] ?_
      refine bN h0 (fun h0 => ?_) (fun h0 => ?_)
      · refine bV aF 1 [(4, (eI (0 : Int)))] ?_
        refine bM ?_
        obtain rfl := oI h0
        exact aH (bB (Q_r hO))
      refine bP ?_
      refine bG [(5, (bH (bJ.k_words y5))), (7, (bH (bJ.k_number y42)))] ?_
      refine aX aF 7 [] [(9, (eI 0)), (10, (aJ false))] ?_
      refine aX aF 7 [] [(11, (eI y42)), (12, (aJ true))] ?_
      refine aP ?_
      refine bR 0 ?_
      refine aX aF 5 [] [(39, (aJ false))] ?_
      refine nW (false) (fun hc49 => ?_) (fun hc49 => ?_)
      · cases hc49
      · refine aX aF 2 [9, 10, 11, 39] [(47, (aJ false))] ?_
        refine nW (false) (fun hc50 => ?_) (fun hc50 => ?_)
        · cases hc50
        · refine bV aF 2 [(5, (bH (bJ.k_words y5))), (7, (bH (bJ.k_number y42))), (49, (aJ true))] ?_
          refine nW (true) (fun hc51 => ?_) (fun hc51 => ?_)
          · refine bV aF 1 [(4, (eI (1 : Int)))] ?_
            refine bM ?_
            obtain rfl := oI h0
            exact aH (bU (bB (Q_r hO)))
          · cases hc51
    · replace h0 : (cond ((!x1_1) || (!x39_1)) (some (0 : Int)) ((mL y5 y43).bind fun x56 => some x56)) = some r := h0
      refine bF ?_
      refine bS [3] [(7, (bH (bJ.k_words y43))), (8, (aJ x39_1))] ?_
      refine aP ?_
      refine aX aF 6 [6, 8] [(28, (aJ ((!x1_1) || (!x39_1))))] ?_
      refine bN h0 (fun h0 => ?_) (fun h0 => ?_)
      · refine bV aF 1 [(4, (eI (0 : Int)))] ?_
        refine bM ?_
        obtain rfl := oI h0
        exact aH (bB (Q_r hO))
      refine bP ?_
      refine bG [(5, (bH (bJ.k_words y5))), (7, (bH (bJ.k_words y43)))] ?_
      refine aX aF 7 [] [(9, (eI 0)), (10, (aJ false))] ?_
      refine aX aF 7 [] [(11, (eI 0)), (12, (aJ false))] ?_
      refine aP ?_
      refine bR 0 ?_
      refine aX aF 5 [] [(39, (aJ false))] ?_
      refine nW (false) (fun hc53 => ?_) (fun hc53 => ?_)
      · cases hc53
      · refine aX aF 2 [9, 10, 11, 39] [(47, (aJ false))] ?_
        refine nW (false) (fun hc54 => ?_) (fun hc54 => ?_)
        · cases hc54
        · refine bV aF 2 [(5, (bH (bJ.k_words y5))), (7, (bH (bJ.k_words y43))), (49, (aJ false))] ?_
          refine nW (false) (fun hc55 => ?_) (fun hc55 => ?_)
          · cases hc55
          · refine bP ?_
            refine cX [(5, (bH (bJ.k_words y5))), (7, (bH (bJ.k_words y43)))] ?_
            refine aH (aV (aG (?_)))
            refine aP ?_
            refine jF (jG []) aF 6 ?_
            refine tJ 4 ?_
            obtain ⟨x56, hx57, h0⟩ := aY h0
            refine xN (FY y5 y43 _ hx57) hO ?_
            intro H hO
            refine pV ?_
            refine bG [(4, (eI x56))] ?_
            refine bM ?_
            obtain rfl := oI h0
            exact aH (Q_r hO)

theorem DX (a0 : (List aI)) (b1 : (List aI)) (r : Int) (h0 : pF a0 b1 = some r) : bW Try.prog 63 [(eL aL a0), (eL aL b1)] (eI r) := by
  intro H0
  refine cH Try.func63 ?_
  have hO := aM.start H0
  unfold pF at h0
  refine aP ?_
  refine aT aF 2 ?_
  refine gP 1 (eL aL b1) (by kernel_rfl) (by kernel_rfl) ?_
  refine bF ?_
  refine bS [1] [(3, (.rp (eL aL b1)))] ?_
  refine aP ?_
  refine aP ?_
  refine aT aF 8 ?_
  refine bO 1 ?_
  obtain ⟨x1, hx2, h0⟩ := aY h0
  refine cI (yM a0 _ hx2) hO ?_
  intro H hO
  refine bO 5 ?_
  obtain ⟨x4, hx5, h0⟩ := aY h0
  refine iZ [(10, false)] 57 [(eL aL b1)] (aJ x4) (!(!x1)) (by kernel_rfl) (by kernel_rfl) (by kernel_rfl) (fun hb6 => (yM b1 _ (lE hx5 hb6))) hO ?_
  intro H hO
  refine bF ?_
  refine bS [] [(14, (aJ ((!x1) || (!x4))))] ?_
  refine bN h0 (fun h0 => ?_) (fun h0 => ?_)
  · refine bV aF 1 [(4, (eI (0 : Int)))] ?_
    refine bM ?_
    obtain rfl := oI h0
    exact aH (bB (Q_r hO))
  refine bP ?_
  refine bG [(0, (eL aL a0)), (3, (.rp (eL aL b1)))] ?_
  refine aX aF 6 [] [(5, (eI (if (lN b1) < (lN a0) then (lN b1) else (lN a0))))] ?_
  refine aP ?_
  refine jF (jG []) aF 7 ?_
  obtain ⟨c8, h0⟩ := bK h0
  refine dN 4 [0 ≤ (if (lN b1) < (lN a0) then (lN b1) else (lN a0)) ∧ (if (lN b1) < (lN a0) then (lN b1) else (lN a0)) ≤ (lN a0)] ⟨c8, trivial⟩ ?_
  obtain ⟨x9, hx10, h0⟩ := aY h0
  refine ZC (L' := fun lo11 => [(lo11, 1, [(eI x9.1)])]) 1 [(eI x9.1)] 101 [(.rp (eL aL b1))] (fun lo11 => (.fn (.func 102) [] [(.lp lo11 0 0), (.rp (eL aL x9.2))])) (by kernel_rfl) (by kernel_rfl) (IC b1 _ hx10) hO (fun _ => by kernel_rfl) ?_
  intro lo11 H hO
  obtain ⟨x12, hx13, h0⟩ := aY h0
  refine ZK (fun st G' => G' = up [(lo11, 1, [(eI st)])] ++ []) [(lo11, 1, [(eI x12.1)])] x9.1 x12.1 100 [(.sl false (Int.toNat (if (lN b1) < (lN a0) then (lN b1) else (lN a0))) (fun i => aL (List.getD a0 i default))), (.fn (.func 102) [] [(.lp lo11 0 0), (.rp (eL aL x9.2))])] (eI x12.2) (by kernel_rfl) (by kernel_rfl) (zF.sub (as0' := [(eL aL (List.take (Int.toNat (if (lN b1) < (lN a0) then (lN b1) else (lN a0))) a0)), (.fn (.func 102) [] [(.lp lo11 0 0), (.rp (eL aL x9.2))])]) (sQ _ (List.take (Int.toNat (if (lN b1) < (lN a0) then (lN b1) else (lN a0))) a0) (.fn (.func 102) [] [(.lp lo11 0 0), (.rp (eL aL x9.2))]) (fun st y0 => (iU y0 st x9.2).bind fun o => some (o.2, o.1)) (fun st y0 st2 rr hr => (FZ y0 lo11 st x9.2 _ (aAZ hr)).toV (ys := []) (zs := [(aL y0)]) (cs := [(.lp lo11 0 0), (.rp (eL aL x9.2))]) (fun Gx hG => ⟨up [], up [] ++ [], hG, rfl⟩)) _ _ hx13) ⟨ZA (Int.toNat_le.2 (And.right c8)), aZ.refl _, trivial⟩) hO rfl (fun _ h => h) ?_
  intro H hO
  refine pV ?_
  replace hO := hO.pick (L' := []) [] (by decide) (by kernel_rfl)
  refine bS [5] [(6, (eI x12.2))] ?_
  refine aP ?_
  refine aX aF 2 [] [(27, (aJ (decide (x12.2 < (0 : Int)))))] ?_
  refine bN h0 (fun h0 => ?_) (fun h0 => ?_)
  · refine aP ?_
    refine aT aF 6 ?_
    refine bO 4 ?_
    obtain ⟨x15, hx16, h0⟩ := aY h0
    refine cI (uO (lN a0) (lN b1) _ hx16) hO ?_
    intro H hO
    refine bF ?_
    refine bG [(4, (eI x15))] ?_
    refine bM ?_
    obtain rfl := oI h0
    exact aH (bB (Q_r hO))
  refine bP ?_
  refine bG [(0, (eL aL a0)), (3, (.rp (eL aL b1))), (6, (eI x12.2))] ?_
  refine aP ?_
  refine jF (jG [36, 37, 40, 41]) aF 10 ?_
  obtain ⟨c18, h0⟩ := bK h0
  obtain ⟨c19, h0⟩ := bK h0
  refine dN 8 [0 ≤ x12.2 ∧ x12.2 < (lN a0), 0 ≤ x12.2 ∧ x12.2 < (lN b1)] ⟨c18, c19, trivial⟩ ?_
  obtain ⟨x20, hx21, h0⟩ := aY h0
  refine xN (IQ (gD a0 x12.2) (gD b1 x12.2) _ hx21) hO ?_
  intro H hO
  refine pV ?_
  refine bG [(4, (eI x20))] ?_
  refine bM ?_
  obtain rfl := oI h0
  exact aH (Q_r hO)

theorem NV (wS : (List Int)) (r : Int) (h0 : tH wS = some r) : bW Try.prog 62 [(eL (eI) wS)] (eI r) := by
  intro H0
  refine cH Try.func62 ?_
  have hO := aM.start H0
  unfold tH at h0
  refine aX aF 1 [] [] ?_
  refine aX aF 1 [] [(3, (eI (0 : Int)))] ?_
  refine cU (fun T H => ∃ nJ : Int, Has T [(3, (eI nJ))] ∧ aM ⟨H0, [], []⟩ H [] ∧ sG nJ = some r) ?_ ?_
  · clear hO h0
    rintro T H ⟨nJ, hT, hO, h0⟩
    refine bD hT ?_
    clear hT
    unfold sG at h0
    refine bV aF 2 [(2, (eI nJ))] ?_
    refine bM ?_
    obtain rfl := oI h0
    exact aH (Q_r hO)
  refine aX aF 3 [0] [(6, (eL (eI) wS)), (7, (eI (lN wS))), (8, (eI (0 : Int)))] ?_
  refine bR 0 ?_
  refine cR [(3, (eI (0 : Int))), (6, (eL (eI) wS)), (7, (eI (lN wS))), (8, (eI (0 : Int)))] ?_
  refine cK (fun T H => ∃ nJ : Int, ∃ t6 : (List Int), ∃ t7 : Int, ∃ t8 : Int, Has T [(3, (eI nJ)), (6, (eL (eI) t6)), (7, (eI t7)), (8, (eI t8))] ∧ aM ⟨H0, [], []⟩ H [] ∧ vW nJ t6 t7 t8 = some r) ?_ ⟨(0 : Int), wS, (lN wS), (0 : Int), .eq (by kernel_rfl), hO, h0⟩
  clear hO h0
  rintro T H ⟨nJ, t6, t7, t8, hT, hO, h0⟩
  refine bD hT ?_
  clear hT
  unfold vW at h0
  obtain ⟨rr0, hl0, h0⟩ := aY h0
  refine cB (by kernel_rfl) (fun (s : Int) T H => Has T [(3, (eI nJ)), (6, (eL (eI) t6)), (7, (eI t7)), (8, (eI s))] ∧ aM ⟨H0, [], []⟩ H []) hl0 ⟨.eq (by kernel_rfl), hO⟩ ?_
  clear hO
  rintro k0 s out1 T H ⟨hT, hO⟩ h1 ho0
  obtain ⟨t8, rfl⟩ : ∃ x, x = s := ⟨_, rfl⟩
  replace h1 : gM nJ t6 t7 t8 = some out1 := h1
  refine bD hT ?_
  clear hT
  unfold gM at h1
  refine aX aF 1 [] [(9, (aJ (decide (t8 < t7))))] ?_
  refine aP ?_
  refine bN h1 (fun h1 => ?_) (fun h1 => ?_)
  · refine bP ?_
    refine bG [(3, (eI nJ)), (6, (eL (eI) t6)), (7, (eI t7)), (8, (eI t8))] ?_
    refine aP ?_
    refine bR 1 ?_
    refine aP ?_
    refine aT aF 3 ?_
    obtain ⟨c2, h1⟩ := bK h1
    refine rG [0 ≤ t8 ∧ t8 < (lN t6)] ⟨c2, trivial⟩ ?_
    refine bS [] [(5, (eI (gD t6 t8)))] ?_
    refine aX aF 3 [] [(14, (aJ (!decide ((gD t6 t8) = nJ))))] ?_
    refine bN h1 (fun h1 => ?_) (fun h1 => ?_)
    · refine bV aF 2 [(2, (eI (gD t6 t8)))] ?_
      refine bM ?_
      obtain rfl := oI h1
      obtain rfl : _ = rr0 := ho0
      replace h0 : some (gD t6 t8) = some r := h0
      obtain rfl := oI h0
      exact aH (bU (bB (bB (bU (bB (Q_r hO))))))
    refine bP ?_
    refine cX [(3, (eI nJ)), (6, (eL (eI) t6)), (7, (eI t7)), (8, (eI t8))] ?_
    refine aH (aV (aG (?_)))
    refine aT aF 2 ?_
    refine bF ?_
    exact aH (aG (⟨rfl, _, (oI h1).symm, .eq (by kernel_rfl), hO⟩))
  refine dJ 0 ?_
  obtain rfl := oI h1
  obtain rfl : _ = rr0 := ho0
  replace h0 : sG nJ = some r := h0
  exact aH (aU (aU (bQ (aG (⟨rfl, _, .eq (by kernel_rfl), hO, h0⟩)))))

theorem MO (x0 : aD) (y1 : aD) (r : Int) (h0 : mU x0 y1 = some r) : bW Try.prog 61 [(aE x0), (aE y1)] (eI r) := by
  intro H0
  refine cH Try.func61 ?_
  have hO := aM.start H0
  unfold mU at h0
  refine aP ?_
  refine aT aF 3 ?_
  refine gP 3 (aE x0) (by kernel_rfl) (by kernel_rfl) ?_
  refine gP 3 (aE y1) (by kernel_rfl) (by kernel_rfl) ?_
  refine bF ?_
  refine bG [(2, (.rp (aE x0))), (3, (.rp (aE y1)))] ?_
  refine aP ?_
  refine jF (jG [6, 8, 9, 11, 13, 14, 15, 16]) aF 13 ?_
  refine tJ 4 ?_
  obtain ⟨x1, hx2, h0⟩ := aY h0
  refine xN (DX x0.Row y1.Row _ hx2) hO ?_
  intro H hO
  refine tJ 9 ?_
  obtain ⟨x4, hx5, h0⟩ := aY h0
  refine xN (uO x0.At y1.At _ hx5) hO ?_
  intro H hO
  refine MT (xs := [(eI x1), (eI x4)]) (k := 1) (by kernel_rfl) (by kernel_rfl) ?_
  obtain ⟨x7, hx8, h0⟩ := aY h0
  refine RS 62 [(dY [(eI x1), (eI x4)])] (eI x7) (by kernel_rfl) (by kernel_rfl) (bW.sub (NV ([x1, x4]) _ hx8) ⟨BW (l := [x1, x4]), trivial⟩) hO ?_
  intro H hO
  refine pV ?_
  refine bG [(4, (eI x7))] ?_
  refine bM ?_
  obtain rfl := oI h0
  exact aH (Q_r hO)

theorem BM (l0 : (List aD)) (r : (List aD)) (h0 : oK l0 = some r) : bW Try.prog 105 [(eL aE l0)] (.fn (.func 131) [] [(.rp (eL aE r))]) := by
  intro H0
  refine cH Try.func105 ?_
  have hO := aM.start H0
  unfold oK at h0
  refine aP ?_
  refine aT aF 2 ?_
  refine gP 1 (eL aE l0) (by kernel_rfl) (by kernel_rfl) ?_
  refine bF ?_
  refine bG [(1, (.rp (eL aE l0)))] ?_
  refine bV aF 2 [(2, (.fn (.func 131) [] [(.rp (eL aE l0))]))] ?_
  refine bM ?_
  obtain rfl := oI h0
  exact aH (pQ (x := (.fn (.func 131) [] [(.rp (eL aE l0))])) (by kernel_rfl) (aZ.refl _) ⟨rfl, hO.out⟩)

theorem wA (s10 : (List aI)) (s21 : (List aI)) (r : Bool) (h0 : gX s10 s21 = some r) : bW Try.prog 118 [(eL aL s10), (eL aL s21)] (aJ r) := by
  intro H0
  refine cH Try.func118 ?_
  have hO := aM.start H0
  unfold gX at h0
  refine aX aF 1 [] [] ?_
  refine aP ?_
  refine aX aF 5 [] [(10, (aJ (!decide ((lN s10) = (lN s21)))))] ?_
  refine bN h0 (fun h0 => ?_) (fun h0 => ?_)
  · refine bV aF 1 [(4, (aJ false))] ?_
    refine bM ?_
    obtain rfl := oI h0
    exact aH (bB (Q_r hO))
  refine bP ?_
  refine bG [(0, (eL aL s10)), (1, (eL aL s21))] ?_
  refine cU (fun T H => Has T [] ∧ aM ⟨H0, [], []⟩ H [] ∧ eK  = some r) ?_ ?_
  · clear hO h0
    rintro T H ⟨hT, hO, h0⟩
    refine bD hT ?_
    clear hT
    unfold eK at h0
    refine bV aF 1 [(4, (aJ true))] ?_
    refine bM ?_
    obtain rfl := oI h0
    exact aH (Q_r hO)
  refine aX aF 3 [] [(12, (eI (lN s10))), (13, (eI (0 : Int)))] ?_
  refine bR 0 ?_
  refine cR [(0, (eL aL s10)), (1, (eL aL s21)), (12, (eI (lN s10))), (13, (eI (0 : Int)))] ?_
  refine cK (fun T H => ∃ t12 : Int, ∃ t13 : Int, Has T [(0, (eL aL s10)), (1, (eL aL s21)), (12, (eI t12)), (13, (eI t13))] ∧ aM ⟨H0, [], []⟩ H [] ∧ gO s10 s21 t12 t13 = some r) ?_ ⟨(lN s10), (0 : Int), .eq (by kernel_rfl), hO, h0⟩
  clear hO h0
  rintro T H ⟨t12, t13, hT, hO, h0⟩
  refine bD hT ?_
  clear hT
  unfold gO at h0
  obtain ⟨rr0, hl0, h0⟩ := aY h0
  refine cB (by kernel_rfl) (fun (s : Int) T H => Has T [(0, (eL aL s10)), (1, (eL aL s21)), (12, (eI t12)), (13, (eI s))] ∧ aM ⟨H0, [], []⟩ H []) hl0 ⟨.eq (by kernel_rfl), hO⟩ ?_
  clear hO
  rintro k0 s out1 T H ⟨hT, hO⟩ h1 ho0
  obtain ⟨t13, rfl⟩ : ∃ x, x = s := ⟨_, rfl⟩
  replace h1 : dK s10 s21 t12 t13 = some out1 := h1
  refine bD hT ?_
  clear hT
  unfold dK at h1
  refine aX aF 1 [] [(14, (aJ (decide (t13 < t12))))] ?_
  refine aP ?_
  refine bN h1 (fun h1 => ?_) (fun h1 => ?_)
  · refine bP ?_
    refine bG [(0, (eL aL s10)), (1, (eL aL s21)), (12, (eI t12)), (13, (eI t13))] ?_
    refine aP ?_
    refine bR 1 ?_
    refine aX aF 2 [] [(5, (eI t13))] ?_
    refine aP ?_
    refine jF (jG [19, 23]) aF 9 ?_
    obtain ⟨c3, h1⟩ := bK h1
    obtain ⟨c4, h1⟩ := bK h1
    refine FW (Ds := [0 ≤ t13 ∧ t13 < (lN s10), 0 ≤ t13 ∧ t13 < (lN s21)]) (by kernel_rfl) ⟨c3, c4, trivial⟩ ?_
    refine bS [5] [(24, (aJ (!((decide (((gD s10 t13).Kind) = ((gD s21 t13).Kind))) && ((decide (((gD s10 t13).Num) = ((gD s21 t13).Num))) && ((nX ((gD s10 t13).Text) ((gD s21 t13).Text)) && true))))))] ?_
    refine bN h1 (fun h1 => ?_) (fun h1 => ?_)
    · refine bV aF 1 [(4, (aJ false))] ?_
      refine bM ?_
      obtain rfl := oI h1
      obtain rfl : _ = rr0 := ho0
      replace h0 : some false = some r := h0
      obtain rfl := oI h0
      exact aH (bU (bB (bB (bU (bB (Q_r hO))))))
    refine bP ?_
    refine cX [(0, (eL aL s10)), (1, (eL aL s21)), (12, (eI t12)), (13, (eI t13))] ?_
    refine aH (aV (aG (?_)))
    refine aT aF 2 ?_
    refine bF ?_
    exact aH (aG (⟨rfl, _, (oI h1).symm, .eq (by kernel_rfl), hO⟩))
  refine dJ 0 ?_
  obtain rfl := oI h1
  obtain rfl : _ = rr0 := ho0
  replace h0 : eK  = some r := h0
  exact aH (aU (aU (bQ (aG (⟨rfl, .eq (by kernel_rfl), hO, h0⟩)))))

theorem JH (a0 : (List aI)) (b1 : (List aI)) (r : Bool) (h0 : tW a0 b1 = some r) : bW Try.prog 78 [(eL aL a0), (eL aL b1)] (aJ r) := by
  intro H0
  refine cH Try.func78 ?_
  have hO := aM.start H0
  unfold tW at h0
  refine aX aF 1 [] [] ?_
  refine aP ?_
  refine aT aF 4 ?_
  refine bO 2 ?_
  obtain ⟨x1, hx2, h0⟩ := aY h0
  refine cI (wA a0 b1 _ hx2) hO ?_
  intro H hO
  refine bF ?_
  refine bG [(4, (aJ x1))] ?_
  refine bM ?_
  obtain rfl := oI h0
  exact aH (Q_r hO)

theorem DO (r0 : (List aI)) (r : (List aI)) (h0 : rD r0 = some r) : bW Try.prog 80 [(eL aL r0)] (eL aL r) := by
  intro H0
  refine cH Try.func80 ?_
  have hO := aM.start H0
  unfold rD at h0
  refine aX aF 1 [] [] ?_
  refine aP ?_
  refine aT aF 6 ?_
  refine bO 2 ?_
  obtain ⟨c1, h0⟩ := bK h0
  refine FO 3 32 (lN r0) (by kernel_rfl) (by kernel_rfl) c1 hO ?_
  intro lo2 H hO
  refine bO 4 ?_
  obtain ⟨c4, h0⟩ := bK h0
  refine xM (e := aL) ([] : List aI) r0 0 lo2 3 32 (eL aL r0) (fun lo3 => [(lo3, 3, List.map aL (([] : List aI) ++ r0))]) (by kernel_rfl) (by kernel_rfl) hO (by kernel_rfl) (KO (fun _ => by kernel_rfl)) c4 (fun _ => by kernel_rfl) ?_
  intro lo3 H hO
  refine bF ?_
  refine bG [(2, (.msl 3 lo3 0 (List.length (([] : List aI) ++ r0))))] ?_
  refine bM ?_
  refine cX [(2, (.msl 3 lo3 0 (List.length (([] : List aI) ++ r0))))] ?_
  refine AV (en := aL) (([] : List aI) ++ r0) 0 0 2 3 lo3 (List.length (([] : List aI) ++ r0)) hO (by kernel_rfl) (by kernel_rfl) (by kernel_rfl) (L' := []) (by kernel_rfl) ?_
  intro H5 hO
  obtain rfl := oI h0
  exact aH (Q_r hO)

theorem xA {σ : Type} (I : σ → Gs → Prop) (yield0_b : Nat) (eJ : σ → (List aI) → (List aB) → Option (σ × Bool)) (yield0_h : ∀ st a0 a1 st2 r, eJ st a0 a1 = some (st2, r) → FQ Try.prog (yv yield0_b) I st [(eL aL a0), (eL aC a1)] st2 (aJ r)) (t1 : (List aD)) (sg0 : σ) (r : σ) (h0 : mH eJ t1 sg0 = some r) : zF Try.prog 131 I sg0 [(yv yield0_b), (.rp (eL aE t1))] r (.tup []) := by
  intro H0 G0 hI hg
  refine cH Try.func131 ?_
  obtain ⟨G, hO, hI⟩ : ∃ G, aM ⟨H0, List.map (fun p : Nat × cV => p.1) G0, G⟩ H0 [] ∧ I sg0 G := ⟨G0, aM.IE hg, hI⟩
  clear hg
  unfold mH at h0
  refine aX aF 1 [] [(3, (eI (0 : Int)))] ?_
  refine bR 0 ?_
  refine cR [(0, (yv yield0_b)), (1, (.rp (eL aE t1))), (3, (eI (0 : Int)))] ?_
  refine cK (fun T H => ∃ sg : σ, ∃ i3 : Int, ∃ G : Gs, Has T [(0, (yv yield0_b)), (1, (.rp (eL aE t1))), (3, (eI i3))] ∧ aM ⟨H0, List.map (fun p : Nat × cV => p.1) G0, G⟩ H [] ∧ I sg G ∧ rC eJ sg t1 i3 = some r) ?_ ⟨sg0, (0 : Int), G, .eq (by kernel_rfl), hO, hI, h0⟩
  clear hO hI h0
  rintro T H ⟨sg, i3, G, hT, hO, hI, h0⟩
  refine bD hT ?_
  clear hT
  unfold rC at h0
  obtain ⟨rr0, hl0, h0⟩ := aY h0
  refine cB (by kernel_rfl) (fun (s : σ × Int) T H => ∃ G : Gs, Has T [(0, (yv yield0_b)), (1, (.rp (eL aE t1))), (3, (eI s.2))] ∧ aM ⟨H0, List.map (fun p : Nat × cV => p.1) G0, G⟩ H [] ∧ I s.1 G) hl0 ⟨G, .eq (by kernel_rfl), hO, hI⟩ ?_
  clear hO hI
  rintro k0 s out1 T H ⟨G, hT, hO, hI⟩ h1 ho0
  obtain ⟨sg, i3⟩ := s
  replace h1 : fN eJ t1 sg i3 = some out1 := h1
  try dsimp only at hT
  refine bD hT ?_
  clear hT
  unfold fN at h1
  refine aP ?_
  refine aX aF 4 [] [(9, (aJ (decide (i3 < (lN t1)))))] ?_
  refine bN h1 (fun h1 => ?_) (fun h1 => ?_)
  · refine bP ?_
    refine bG [(0, (yv yield0_b)), (1, (.rp (eL aE t1))), (3, (eI i3))] ?_
    refine bR 1 ?_
    refine aP ?_
    refine aT aF 6 ?_
    obtain ⟨c2, h1⟩ := bK h1
    refine rG [0 ≤ i3 ∧ i3 < (lN t1)] ⟨c2, trivial⟩ ?_
    refine bS [] [(4, (eL aL ((gD t1 i3).Row)))] ?_
    refine aP ?_
    refine aT aF 2 ?_
    refine pL (xs := []) (k := 2) (by kernel_rfl) (by kernel_rfl) ?_
    refine bF ?_
    refine bS [] [(5, (.sl true 0 (fun _ => .bad)))] ?_
    refine cU (fun T H => ∃ sg : σ, ∃ i3 : Int, ∃ r4 : (List aI), ∃ f5 : List aB, ∃ lo3 : Nat, ∃ G : Gs, Has T [(0, (yv yield0_b)), (1, (.rp (eL aE t1))), (3, (eI i3)), (4, (eL aL r4)), (5, (.msl 2 lo3 0 (List.length f5)))] ∧ aM ⟨H0, List.map (fun p : Nat × cV => p.1) G0, G⟩ H [(lo3, 2, List.map aC f5)] ∧ I sg G ∧ oR eJ sg t1 i3 r4 f5 = some out1) ?_ ?_
    · clear hO hI h1
      rintro T H ⟨sg, i3, r4, f5, lo3, G, hT, hO, hI, h1⟩
      refine bD hT ?_
      clear hT
      unfold oR at h1
      refine aP ?_
      refine aT aF 6 ?_
      refine AY (e := aC) f5 0 5 2 lo3 (List.length f5) [] (by kernel_rfl) hO (by kernel_rfl) (by kernel_rfl) (by kernel_rfl) (by kernel_rfl) ?_
      intro H hO
      refine bO 2 ?_
      obtain ⟨x7, hx8, h1⟩ := aY h1
      refine cI (DO r4 _ hx8) hO ?_
      intro H hO
      refine bO 4 ?_
      obtain ⟨x10, hx11, h1⟩ := aY h1
      refine RY (I := I) (yv yield0_b) [(eL aL x7), (eL aC f5)] (aJ x10.2) (by kernel_rfl) (by kernel_rfl) (yield0_h _ x7 f5 x10.1 x10.2 hx11) hO hI ?_
      intro G H hO hI
      refine bF ?_
      refine bS [4, 5] [(50, (aJ (!x10.2)))] ?_
      refine bN h1 (fun h1 => ?_) (fun h1 => ?_)
      · refine bM ?_
        obtain rfl := oI h1
        obtain rfl : _ = rr0 := ho0
        replace h0 : some x10.1 = some r := h0
        obtain rfl := oI h0
        exact aH (bU (bB (bU (pQ (x := (.tup [])) (by kernel_rfl) (aZ.refl _) ⟨rfl, G, hI, hO.FH⟩))))
      refine bP ?_
      exact aH (aV (aG (⟨rfl, _, (oI h1).symm, _, .eq (by kernel_rfl), hO, hI⟩)))
    refine bR 2 ?_
    refine cR [(0, (yv yield0_b)), (1, (.rp (eL aE t1))), (3, (eI i3)), (4, (eL aL ((gD t1 i3).Row))), (5, (.sl true 0 (fun _ => .bad)))] ?_
    refine EN (el := (fun _ => .bad)) 4 5 2 hO (by kernel_rfl) ?_
    intro lo24 H25 hO
    refine cK (fun T H => ∃ sg : σ, ∃ i3 : Int, ∃ r4 : (List aI), ∃ f5 : List aB, ∃ lo14 : Nat, ∃ G : Gs, Has T [(0, (yv yield0_b)), (1, (.rp (eL aE t1))), (3, (eI i3)), (4, (eL aL r4)), (5, (.msl 2 lo14 0 (List.length f5)))] ∧ aM ⟨H0, List.map (fun p : Nat × cV => p.1) G0, G⟩ H [(lo14, 2, List.map aC f5)] ∧ I sg G ∧ rH eJ sg t1 i3 r4 f5 = some out1) ?_ ⟨sg, i3, (gD t1 i3).Row, ([] : List aB), lo24, G, .eq (by kernel_rfl), hO, hI, h1⟩
    clear hO hI h1
    rintro T H ⟨sg, i3, r4, f5, lo14, G, hT, hO, hI, h1⟩
    refine bD hT ?_
    clear hT
    unfold rH at h1
    obtain ⟨rr1, hl1, h1⟩ := aY h1
    refine cB (by kernel_rfl) (fun (s : σ × Int × List aB) T H => ∃ lo14 : Nat, ∃ G : Gs, Has T [(0, (yv yield0_b)), (1, (.rp (eL aE t1))), (3, (eI s.2.1)), (4, (eL aL r4)), (5, (.msl 2 lo14 0 (List.length s.2.2)))] ∧ aM ⟨H0, List.map (fun p : Nat × cV => p.1) G0, G⟩ H [(lo14, 2, List.map aC s.2.2)] ∧ I s.1 G) hl1 ⟨lo14, G, .eq (by kernel_rfl), hO, hI⟩ ?_
    clear hO hI
    rintro k1 s out2 T H ⟨lo14, G, hT, hO, hI⟩ h2 ho1
    obtain ⟨sg, i3, f5⟩ := s
    replace h2 : iF eJ t1 r4 sg i3 f5 = some out2 := h2
    try dsimp only at hT
    refine bD hT ?_
    clear hT
    unfold iF at h2
    refine aP ?_
    refine aP ?_
    refine aT aF 13 ?_
    obtain ⟨c15, h2⟩ := bK h2
    refine oS 11 [(((decide (i3 < (lN t1)))) = true → 0 ≤ i3 ∧ i3 < (lN t1))] ⟨c15, trivial⟩ ?_
    obtain ⟨x16, hx17, h2⟩ := aY h2
    refine iZ [(20, true)] 78 [(eL aL ((gD t1 i3).Row)), (eL aL r4)] (aJ x16) (decide (i3 < (lN t1))) (by kernel_rfl) (by kernel_rfl) (by kernel_rfl) (fun hb18 => (JH ((gD t1 i3).Row) r4 _ (lE hx17 hb18))) hO ?_
    intro H hO
    refine bF ?_
    refine bS [] [(28, (aJ ((decide (i3 < (lN t1))) && x16)))] ?_
    refine bN h2 (fun h2 => ?_) (fun h2 => ?_)
    · refine bP ?_
      refine bG [(0, (yv yield0_b)), (1, (.rp (eL aE t1))), (3, (eI i3)), (4, (eL aL r4)), (5, (.msl 2 lo14 0 (List.length f5)))] ?_
      refine aP ?_
      refine bR 3 ?_
      refine jF (jG [32, 36, 37, 41, 43]) aF 15 ?_
      obtain ⟨c20, h2⟩ := bK h2
      obtain ⟨c21, h2⟩ := bK h2
      refine dN 12 [0 ≤ i3 ∧ i3 < (lN t1), 0 ≤ i3 ∧ i3 < (lN t1)] ⟨c20, c21, trivial⟩ ?_
      refine MT (xs := [(aC (aB.mk ((gD t1 i3).At) ((gD t1 i3).Net)))]) (k := 2) (by kernel_rfl) (by kernel_rfl) ?_
      obtain ⟨c23, h2⟩ := bK h2
      refine KC (e := aC) f5 ([aB.mk ((gD t1 i3).At) ((gD t1 i3).Net)]) 0 lo14 2 16 (dY [(aC (aB.mk ((gD t1 i3).At) ((gD t1 i3).Net)))]) (fun lo22 => [(lo22, 2, List.map aC (f5 ++ ([aB.mk ((gD t1 i3).At) ((gD t1 i3).Net)])))]) (by kernel_rfl) (by kernel_rfl) hO (by kernel_rfl) (by kernel_rfl) c23 (fun _ => by kernel_rfl) ?_
      intro lo22 H hO
      refine pV ?_
      refine cX [(0, (yv yield0_b)), (1, (.rp (eL aE t1))), (3, (eI i3)), (4, (eL aL r4)), (5, (.msl 2 lo22 0 (List.length (f5 ++ ([aB.mk ((gD t1 i3).At) ((gD t1 i3).Net)])))))] ?_
      refine aH (aV (aG (?_)))
      refine aT aF 3 ?_
      refine bF ?_
      exact aH (aG (⟨rfl, _, (oI h2).symm, _, _, .eq (by kernel_rfl), hO, hI⟩))
    refine dJ 2 ?_
    obtain rfl := oI h2
    obtain rfl : _ = rr1 := ho1
    replace h1 : oR eJ sg t1 i3 r4 f5 = some out1 := h1
    exact aH (aU (aU (bQ (aG (⟨rfl, _, _, _, _, _, _, .eq (by kernel_rfl), hO, hI, h1⟩)))))
  refine dJ 0 ?_
  obtain rfl := oI h1
  obtain rfl : _ = rr0 := ho0
  replace h0 : some sg = some r := h0
  obtain rfl := oI h0
  exact aH (aU (aU (bQ (qB (x := (.tup [])) (by kernel_rfl) (aZ.refl _) ⟨rfl, G, hI, hO.FH⟩))))

theorem TZ (lo0p : Nat) (l0 : (List aD)) (r1 : (List aI)) (f2 : (List aB)) (r : (List aD)) (h0 : wV l0 r1 f2 = some r) : DE Try.prog 106 lo0p 3 (List.map aE l0) [(.msl 3 lo0p 0 (List.length l0)), (eL aL r1), (eL aC f2)] (fun lo => .msl 3 lo 0 (List.length r)) (List.map aE r) := by
  intro H0 hl0
  refine cH Try.func106 ?_
  have hO := aM.pS hl0
  clear hl0
  unfold wV at h0
  refine aX aF 1 [] [] ?_
  refine cU (fun T H => ∃ l0 : List aD, ∃ lo1 : Nat, Has T [(0, (.msl 3 lo1 0 (List.length l0)))] ∧ aM ⟨H0, [lo0p], []⟩ H [(lo1, 3, List.map aE l0)] ∧ yG l0 = some r) ?_ ?_
  · clear hO h0
    rintro T H ⟨l0, lo1, hT, hO, h0⟩
    refine bD hT ?_
    clear hT
    unfold yG at h0
    refine bV aF 2 [(6, (.msl 3 lo1 0 (List.length l0)))] ?_
    refine bM ?_
    obtain rfl := oI h0
    exact aH (pQ (x := (.msl 3 lo1 0 (List.length l0))) (by kernel_rfl) (aZ.refl _) ⟨lo1, rfl, hO⟩)
  refine aX aF 3 [2] [(9, (eL aC f2)), (10, (eI (lN f2))), (11, (eI (0 : Int)))] ?_
  refine bR 0 ?_
  refine cR [(0, (.msl 3 lo0p 0 (List.length l0))), (1, (eL aL r1)), (9, (eL aC f2)), (10, (eI (lN f2))), (11, (eI (0 : Int)))] ?_
  refine cK (fun T H => ∃ l0 : List aD, ∃ t9 : (List aB), ∃ t10 : Int, ∃ t11 : Int, ∃ lo3 : Nat, Has T [(0, (.msl 3 lo3 0 (List.length l0))), (1, (eL aL r1)), (9, (eL aC t9)), (10, (eI t10)), (11, (eI t11))] ∧ aM ⟨H0, [lo0p], []⟩ H [(lo3, 3, List.map aE l0)] ∧ xX l0 r1 t9 t10 t11 = some r) ?_ ⟨l0, f2, (lN f2), (0 : Int), lo0p, .eq (by kernel_rfl), hO, h0⟩
  clear hO h0
  rintro T H ⟨l0, t9, t10, t11, lo3, hT, hO, h0⟩
  refine bD hT ?_
  clear hT
  unfold xX at h0
  obtain ⟨rr0, hl0, h0⟩ := aY h0
  refine cB (by kernel_rfl) (fun (s : List aD × Int) T H => ∃ lo3 : Nat, Has T [(0, (.msl 3 lo3 0 (List.length s.1))), (1, (eL aL r1)), (9, (eL aC t9)), (10, (eI t10)), (11, (eI s.2))] ∧ aM ⟨H0, [lo0p], []⟩ H [(lo3, 3, List.map aE s.1)]) hl0 ⟨lo3, .eq (by kernel_rfl), hO⟩ ?_
  clear hO
  rintro k0 s out1 T H ⟨lo3, hT, hO⟩ h1 ho0
  obtain ⟨l0, t11⟩ := s
  replace h1 : oH r1 t9 t10 l0 t11 = some out1 := h1
  try dsimp only at hT
  refine bD hT ?_
  clear hT
  unfold oH at h1
  refine aX aF 1 [] [(12, (aJ (decide (t11 < t10))))] ?_
  refine aP ?_
  refine bN h1 (fun h1 => ?_) (fun h1 => ?_)
  · refine bP ?_
    refine bG [(0, (.msl 3 lo3 0 (List.length l0))), (1, (eL aL r1)), (9, (eL aC t9)), (10, (eI t10)), (11, (eI t11))] ?_
    refine aP ?_
    refine bR 1 ?_
    refine aP ?_
    refine aT aF 4 ?_
    obtain ⟨c5, h1⟩ := bK h1
    refine oS 2 [0 ≤ t11 ∧ t11 < (lN t9)] ⟨c5, trivial⟩ ?_
    refine mG 2 (aC (aB.mk 0 0)) (by kernel_rfl) (by kernel_rfl) hO ?_
    intro lo6 H hO
    refine iY 1 lo6 2 0 (aC (aB.mk 0 0)) (aC (gD t9 t11)) [(aC (aB.mk 0 0))] [(lo3, 3, List.map aE l0), (lo6, 2, [(aC (gD t9 t11))])] hO rfl (by kernel_rfl) ?_
    intro H hO
    refine cJ ?_
    refine bS [] [(8, (.lp lo6 0 0))] ?_
    refine cR [(0, (.msl 3 lo3 0 (List.length l0))), (1, (eL aL r1)), (8, (.lp lo6 0 0)), (9, (eL aC t9)), (10, (eI t10)), (11, (eI t11))] ?_
    refine LL 2 1 8 2 lo6 (aC (gD t9 t11)) [(lo3, 3, List.map aE l0)] hO (by kernel_rfl) (by kernel_rfl) (by kernel_rfl) ?_
    intro H hO
    refine jF (jG [19, 21, 23]) aF 11 ?_
    refine tJ 2 ?_
    obtain ⟨x7, hx8, h1⟩ := aY h1
    refine xN (DO r1 _ hx8) hO ?_
    intro H hO
    refine tJ 8 ?_
    refine MT (xs := [(aE (aD.mk x7 ((gD t9 t11).At) ((gD t9 t11).Net)))]) (k := 3) (by kernel_rfl) (by kernel_rfl) ?_
    obtain ⟨c11, h1⟩ := bK h1
    refine KC (e := aE) l0 ([aD.mk x7 ((gD t9 t11).At) ((gD t9 t11).Net)]) 0 lo3 3 40 (dY [(aE (aD.mk x7 ((gD t9 t11).At) ((gD t9 t11).Net)))]) (fun lo10 => [(lo10, 3, List.map aE (l0 ++ ([aD.mk x7 ((gD t9 t11).At) ((gD t9 t11).Net)])))]) (by kernel_rfl) (by kernel_rfl) hO (by kernel_rfl) (by kernel_rfl) c11 (fun _ => by kernel_rfl) ?_
    intro lo10 H hO
    refine pV ?_
    refine cX [(0, (.msl 3 lo10 0 (List.length (l0 ++ ([aD.mk x7 ((gD t9 t11).At) ((gD t9 t11).Net)]))))), (1, (eL aL r1)), (9, (eL aC t9)), (10, (eI t10)), (11, (eI t11))] ?_
    refine aH (aV (aG (?_)))
    refine aT aF 2 ?_
    refine bF ?_
    exact aH (aG (⟨rfl, _, (oI h1).symm, _, .eq (by kernel_rfl), hO⟩))
  refine dJ 0 ?_
  obtain rfl := oI h1
  obtain rfl : _ = rr0 := ho0
  replace h0 : yG l0 = some r := h0
  exact aH (aU (aU (bQ (aG (⟨rfl, _, _, .eq (by kernel_rfl), hO, h0⟩)))))

theorem MF (l0 : (List aD)) (by1_f : Nat) (by1_a by1_c : List V) (by1 : (List aB) → Option ((List aB) × Int)) (by1_h : ∀ a0 r, by1 a0 = some r → bW Try.prog by1_f (by1_a ++ [(eL aC a0)] ++ by1_c) (.tup [(eL aC r.1), (eI r.2)])) (r : ((List aD) × Int)) (h0 : sE l0 by1 = some r) : bW Try.prog 65 [(eL aE l0), (.fn (.func by1_f) by1_a by1_c)] (.tup [(eL aE r.1), (eI r.2)]) := by
  intro H0
  refine BV aF Try.func65 (by kernel_rfl) (by kernel_rfl) (by kernel_rfl) ?_
  have hO := aM.start H0
  unfold sE at h0
  refine aP ?_
  refine aT aF 3 ?_
  refine gP 1 (.fn (.func by1_f) by1_a by1_c) (by kernel_rfl) (by kernel_rfl) ?_
  refine rI 1 (.sl true 0 (fun _ => .bad)) (eL aE ([])) (by kernel_rfl) (by kernel_rfl) (by kernel_rfl) (eF) (by kernel_rfl) (by kernel_rfl) hO ?_
  intro lo1 H hO
  refine mG 1 (eI 0) (by kernel_rfl) (by kernel_rfl) hO ?_
  intro lo2 H hO
  refine cJ ?_
  refine bS [1] [(3, (.rp (.fn (.func by1_f) by1_a by1_c))), (4, (.lp lo1 0 0)), (5, (.lp lo2 0 0))] ?_
  refine aP ?_
  refine aT aF 3 ?_
  refine pL (xs := []) (k := 3) (by kernel_rfl) (by kernel_rfl) ?_
  refine rI 1 (.sl true 0 (fun _ => .bad)) (eL aE ([])) (by kernel_rfl) (by kernel_rfl) (by kernel_rfl) (eF) (by kernel_rfl) (by kernel_rfl) hO ?_
  intro lo3 H hO
  refine aAp 11 3 (fun _ => .bad) (by kernel_rfl) hO (by kernel_rfl) ?_
  intro lo4 H hO
  refine iY 2 lo3 1 0 (eL aE ([])) (.msl 3 lo4 0 (List.length ([] : List aD))) [(eL aE ([]))] [(lo1, 1, [(eL aE ([]))]), (lo2, 1, [(eI 0)]), (lo3, 1, [(.msl 3 lo4 0 (List.length ([] : List aD)))]), (lo4, 3, List.map aE ([] : List aD))] hO rfl (by kernel_rfl) ?_
  intro H hO
  refine cJ ?_
  refine bS [] [(6, (.lp lo3 0 0))] ?_
  refine aP ?_
  refine aP ?_
  refine aT aF 2 ?_
  refine bO 1 ?_
  obtain ⟨x5, hx6, h0⟩ := aY h0
  refine cI (BM l0 _ hx6) hO ?_
  intro H hO
  refine cJ ?_
  refine bS [0] [(13, (.fn (.func 131) [] [(.rp (eL aE x5))]))] ?_
  refine bR 0 ?_
  refine cR [(3, (.rp (.fn (.func by1_f) by1_a by1_c))), (4, (.lp lo1 0 0)), (5, (.lp lo2 0 0)), (6, (.lp lo3 0 0)), (13, (.fn (.func 131) [] [(.rp (eL aE x5))]))] ?_
  refine cK (fun T H => ∃ t4 : (List aD), ∃ t5 : Int, ∃ out6 : List aD, ∃ kA : (List aD), ∃ lo7 : Nat, Has T [(3, (.rp (.fn (.func by1_f) by1_a by1_c))), (4, (.lp lo1 0 0)), (5, (.lp lo2 0 0)), (6, (.lp lo3 0 0)), (13, (.fn (.func 131) [] [(.rp (eL aE kA))]))] ∧ aM ⟨H0, [], []⟩ H [(lo1, 1, [(eL aE t4)]), (lo2, 1, [(eI t5)]), (lo3, 1, [(.msl 3 lo7 0 (List.length out6))]), (lo7, 3, List.map aE out6)] ∧ uH by1 t4 t5 out6 kA = some r) ?_ ⟨[], 0, ([] : List aD), x5, lo4, .eq (by kernel_rfl), hO, h0⟩
  clear hO h0
  rintro T H ⟨t4, t5, out6, kA, lo7, hT, hO, h0⟩
  refine bD (l := [(3, (.rp (.fn (.func by1_f) by1_a by1_c))), (4, (.lp lo1 0 0)), (5, (.lp lo2 0 0)), (6, (.lp lo3 0 0)), (13, (.fn (.func 131) [] [(.rp (eL aE kA))]))]) hT ?_
  clear hT
  unfold uH at h0
  obtain ⟨o0, hl0, h0⟩ := aY h0
  refine AD (fid := 131) (ys := []) (cs := [(.rp (eL aE kA))]) #[14, 15] (fun (A : xU) (b lL : Nat) (st : ((List aD) × Int × List aD) ⊕ ((List aD) × Int × List aD)) (G' : Gs) => Sum.elim (fun (s : (List aD) × Int × List aD) => ∃ lo7 : Nat, G' = (lL, .raw (jM b A .ready none)) :: (up [(lo1, 1, [(eL aE s.1)]), (lo2, 1, [(eI s.2.1)]), (lo3, 1, [(.msl 3 lo7 0 (List.length s.2.2))]), (lo7, 3, List.map aE s.2.2)] ++ [])) (fun (s : (List aD) × Int × List aD) => ∃ lo7 : Nat, G' = (lL, .raw (jM b A .done (some .ret))) :: (up [(lo1, 1, [(eL aE s.1)]), (lo2, 1, [(eI s.2.1)]), (lo3, 1, [(.msl 3 lo7 0 (List.length s.2.2))]), (lo7, 3, List.map aE s.2.2)] ++ [])) st) (.inl (t4, t5, out6)) o0 (.tup []) (by kernel_rfl) (by kernel_rfl) (by kernel_rfl) hO (fun _ _ => ⟨lo7, rfl⟩) ?_ ?_
  · intro b lL
    clear hO h0
    refine xA _ b (fun st t14 t15 => rnd (fun (s : (List aD) × Int × List aD) => nA by1 kA s.1 s.2.1 s.2.2 t14 t15) st) ?_ kA _ _ hl0
    intro st t14 t15 out1 rr hr
    obtain ⟨s, rfl, h1, rfl⟩ := PM hr
    clear hr
    intro Hr Gr hi hg
    obtain ⟨t4, t5, out6⟩ := s
    dsimp only [Sum.elim_inl] at hi
    obtain ⟨lo7, rfl⟩ := hi
    replace h1 : nA by1 kA t4 t5 out6 t14 t15 = some out1 := h1
    unfold nA at h1
    obtain ⟨E1, hE, hO⟩ := uV hg
    refine uU (AJ (hO.gm 0 _ rfl).2 (by kernel_rfl) (by kernel_rfl) ?_)
    refine cR [(3, (.rp (.fn (.func by1_f) by1_a by1_c))), (4, (.lp lo1 0 0)), (5, (.lp lo2 0 0)), (6, (.lp lo3 0 0)), (13, (.fn (.func 131) [] [(.rp (eL aE kA))])), (14, (eL aL t14)), (15, (eL aC t15))] ?_
    refine aX aF 1 [13, 14] [(7, (eL aL t14))] ?_
    refine aT aF 1 ?_
    refine bF ?_
    refine cX [(3, (.rp (.fn (.func by1_f) by1_a by1_c))), (4, (.lp lo1 0 0)), (5, (.lp lo2 0 0)), (6, (.lp lo3 0 0)), (7, (eL aL t14)), (8, (eL aC t15))] ?_
    refine aH (⟨rfl, rfl, (hO.gm 0 _ rfl).2, ?_⟩)
    intro o1 ho1
    replace hO := hO.uP o1
    refine bR 1 ?_
    refine aP ?_
    refine aT aF 8 ?_
    refine bO 2 ?_
    obtain ⟨x8, hx9, h1⟩ := aY h1
    refine cI (by1_h t15 _ hx9) hO ?_
    intro H hO
    refine bF ?_
    refine bS [3, 8] [(9, (eL aC x8.1)), (10, (eI x8.2))] ?_
    refine aP ?_
    refine aX aF 2 [] [(23, (aJ (!decide (x8.2 = (0 : Int)))))] ?_
    refine bN h1 (fun h1 => ?_) (fun h1 => ?_)
    · refine aP ?_
      refine aT aF 3 ?_
      refine bO 1 ?_
      refine iY 0 lo1 1 0 (eL aE t4) (.sl true 0 (fun _ => .bad)) [(eL aE t4)] [(lo1, 1, [(.sl true 0 (fun _ => .bad))]), (lo2, 1, [(eI t5)]), (lo3, 1, [(.msl 3 lo7 0 (List.length out6))]), (lo7, 3, List.map aE out6)] hO rfl (by kernel_rfl) ?_
      intro H hO
      refine iY 1 lo2 1 0 (eI t5) (eI x8.2) [(eI t5)] [(lo1, 1, [(.sl true 0 (fun _ => .bad))]), (lo2, 1, [(eI x8.2)]), (lo3, 1, [(.msl 3 lo7 0 (List.length out6))]), (lo7, 3, List.map aE out6)] hO rfl (by kernel_rfl) ?_
      intro H hO
      refine cJ ?_
      refine GZ 0 lo1 1 (.sl true 0 (fun _ => .bad)) (eL aE ([])) [(lo1, 1, [(eL aE ([]))]), (lo2, 1, [(eI x8.2)]), (lo3, 1, [(.msl 3 lo7 0 (List.length out6))]), (lo7, 3, List.map aE out6)] hO (by kernel_rfl) (by kernel_rfl) eF (by kernel_rfl) ?_
      intro H hO
      refine bG [(4, (.lp lo1 0 0)), (5, (.lp lo2 0 0)), (6, (.lp lo3 0 0))] ?_
      refine bM ?_
      refine cX [(4, (.lp lo1 0 0)), (5, (.lp lo2 0 0)), (6, (.lp lo3 0 0))] ?_
      obtain rfl := oI h1
      exact aH (bB (bU (⟨(fS hO hE ho1 .dead).1, rfl, _, ⟨lo7, rfl⟩, (fS hO hE ho1 _).2⟩)))
    refine bP ?_
    refine bG [(4, (.lp lo1 0 0)), (5, (.lp lo2 0 0)), (6, (.lp lo3 0 0)), (7, (eL aL t14)), (9, (eL aC x8.1))] ?_
    refine aP ?_
    refine aT aF 5 ?_
    refine kC 2 lo3 1 0 (.msl 3 lo7 0 (List.length out6)) (.msl 3 lo7 0 (List.length out6)) [(.msl 3 lo7 0 (List.length out6))] hO rfl ?_
    refine bO 3 ?_
    obtain ⟨x12, hx13, h1⟩ := aY h1
    refine ZI (L' := fun lo14 => [(lo1, 1, [(eL aE t4)]), (lo2, 1, [(eI t5)]), (lo3, 1, [(.msl 3 lo7 0 (List.length out6))]), (lo14, 3, List.map aE x12)]) 3 lo7 3 (List.map aE out6) (List.map aE x12) 106 [(.msl 3 lo7 0 (List.length out6)), (eL aL t14), (eL aC x8.1)] (fun lo14 => (.msl 3 lo14 0 (List.length x12))) (by kernel_rfl) (by kernel_rfl) (TZ lo7 out6 t14 x8.1 _ hx13) hO (by kernel_rfl) (fun _ => by kernel_rfl) ?_
    intro lo14 H hO
    refine iY 2 lo3 1 0 (.msl 3 lo7 0 (List.length out6)) (.msl 3 lo14 0 (List.length x12)) [(.msl 3 lo7 0 (List.length out6))] [(lo1, 1, [(eL aE t4)]), (lo2, 1, [(eI t5)]), (lo3, 1, [(.msl 3 lo14 0 (List.length x12))]), (lo14, 3, List.map aE x12)] hO rfl (by kernel_rfl) ?_
    intro H hO
    refine cJ ?_
    refine bS [7, 9] [] ?_
    refine aP ?_
    refine aT aF 3 ?_
    refine kC 2 lo3 1 0 (.msl 3 lo14 0 (List.length x12)) (.msl 3 lo14 0 (List.length x12)) [(.msl 3 lo14 0 (List.length x12))] hO rfl ?_
    refine bF ?_
    refine bS [] [(31, (aJ (decide ((4096 : Int) < (lN x12)))))] ?_
    refine bN h1 (fun h1 => ?_) (fun h1 => ?_)
    · refine aP ?_
      refine aT aF 2 ?_
      refine iY 0 lo1 1 0 (eL aE t4) (.sl true 0 (fun _ => .bad)) [(eL aE t4)] [(lo1, 1, [(.sl true 0 (fun _ => .bad))]), (lo2, 1, [(eI t5)]), (lo3, 1, [(.msl 3 lo14 0 (List.length x12))]), (lo14, 3, List.map aE x12)] hO rfl (by kernel_rfl) ?_
      intro H hO
      refine iY 1 lo2 1 0 (eI t5) (eI (7 : Int)) [(eI t5)] [(lo1, 1, [(.sl true 0 (fun _ => .bad))]), (lo2, 1, [(eI (7 : Int))]), (lo3, 1, [(.msl 3 lo14 0 (List.length x12))]), (lo14, 3, List.map aE x12)] hO rfl (by kernel_rfl) ?_
      intro H hO
      refine cJ ?_
      refine GZ 0 lo1 1 (.sl true 0 (fun _ => .bad)) (eL aE ([])) [(lo1, 1, [(eL aE ([]))]), (lo2, 1, [(eI (7 : Int))]), (lo3, 1, [(.msl 3 lo14 0 (List.length x12))]), (lo14, 3, List.map aE x12)] hO (by kernel_rfl) (by kernel_rfl) eF (by kernel_rfl) ?_
      intro H hO
      refine bG [(4, (.lp lo1 0 0)), (5, (.lp lo2 0 0)), (6, (.lp lo3 0 0))] ?_
      refine bM ?_
      refine cX [(4, (.lp lo1 0 0)), (5, (.lp lo2 0 0)), (6, (.lp lo3 0 0))] ?_
      obtain rfl := oI h1
      exact aH (bU (⟨(fS hO hE ho1 .dead).1, rfl, _, ⟨lo14, rfl⟩, (fS hO hE ho1 _).2⟩))
    refine bP ?_
    refine cX [(4, (.lp lo1 0 0)), (5, (.lp lo2 0 0)), (6, (.lp lo3 0 0))] ?_
    obtain rfl := oI h1
    exact aH (aV (⟨(fS hO hE ho1 .dead).1, rfl, _, ⟨lo14, rfl⟩, (fS hO hE ho1 _).2⟩))
  · intro b lD16 lL H' G' hi hO
    rcases o0 with s | s
    · dsimp only [Sum.elim_inl] at hi
      obtain ⟨lo7, rfl⟩ := hi
      replace h0 : (some (s.2.2, (0 : Int))) = some r := h0
      obtain ⟨hlL, hO⟩ := pN hO
      refine ⟨_, _, hlL, (by intro e; cases e), ?_⟩
      refine cX [(4, (.lp lo1 0 0)), (5, (.lp lo2 0 0)), (6, (.lp lo3 0 0))] ?_
      refine aH (aV (aG (?_)))
      refine aP ?_
      refine TU (e := aE) s.2.2 2 3 1 3 lo3 lo7 (List.length s.2.2) [(lo1, 1, [(eL aE s.1)]), (lo2, 1, [(eI s.2.1)]), (lo3, 1, [(eL aE s.2.2)])] hO (by kernel_rfl) (by kernel_rfl) (by kernel_rfl) (.inr (by decide)) (by kernel_rfl) ?_
      intro H hO
      refine aT aF 3 ?_
      refine kC 2 lo3 1 0 (eL aE s.2.2) (eL aE s.2.2) [(eL aE s.2.2)] hO rfl ?_
      refine iY 0 lo1 1 0 (eL aE s.1) (eL aE s.2.2) [(eL aE s.1)] [(lo1, 1, [(eL aE s.2.2)]), (lo2, 1, [(eI s.2.1)]), (lo3, 1, [(eL aE s.2.2)])] hO rfl (by kernel_rfl) ?_
      intro H hO
      refine iY 1 lo2 1 0 (eI s.2.1) (eI (0 : Int)) [(eI s.2.1)] [(lo1, 1, [(eL aE s.2.2)]), (lo2, 1, [(eI (0 : Int))]), (lo3, 1, [(eL aE s.2.2)])] hO rfl (by kernel_rfl) ?_
      intro H hO
      refine cJ ?_
      replace hO := hO.pick (L' := [(lo1, 1, [(eL aE s.2.2)]), (lo2, 1, [(eI (0 : Int))])]) [0, 1] (by decide) (by kernel_rfl)
      refine bS [6] [] ?_
      refine bM ?_
      obtain rfl := oI h0
      have hD := (hO.gm 0 _ rfl).2
      replace hO := (hO.uP .dead).uC
      exact aH (QM1 (.inr rfl) hD (rs := [.cell 4 45, .cell 5 24]) (xs := [(eL aE s.2.2), (eI (0 : Int))]) (x := (.tup [(eL aE s.2.2), (eI (0 : Int))])) (by kernel_rfl) (wE (lo := lo1) (k := 1) (y := (eL aE s.2.2)) (x := (eL aE s.2.2)) 0 hO (by kernel_rfl) (by kernel_rfl) (by kernel_rfl) (by kernel_rfl) (wE (lo := lo2) (k := 1) (y := (eI (0 : Int))) (x := (eI (0 : Int))) 1 hO (by kernel_rfl) (by kernel_rfl) (by kernel_rfl) (by kernel_rfl) qO)) (by kernel_rfl) ⟨rfl, hO.out⟩)
    · dsimp only [Sum.elim_inr] at hi
      obtain ⟨lo7, rfl⟩ := hi
      replace h0 : (some (s.1, s.2.1)) = some r := h0
      obtain ⟨hlL, hO⟩ := pN hO
      refine ⟨_, _, hlL, (by intro e; cases e), ?_⟩
      refine bM ?_
      replace hO := hO.pick (L' := [(lo1, 1, [(eL aE s.1)]), (lo2, 1, [(eI s.2.1)])]) [0, 1] (by decide) (by kernel_rfl)
      obtain rfl := oI h0
      have hD := (hO.gm 0 _ rfl).2
      replace hO := (hO.uP .dead).uC
      exact aH (bU (bB (QM1 (.inr rfl) hD (rs := [.cell 4 45, .cell 5 24]) (xs := [(eL aE s.1), (eI s.2.1)]) (x := (.tup [(eL aE s.1), (eI s.2.1)])) (by kernel_rfl) (wE (lo := lo1) (k := 1) (y := (eL aE s.1)) (x := (eL aE s.1)) 0 hO (by kernel_rfl) (by kernel_rfl) (by kernel_rfl) (by kernel_rfl) (wE (lo := lo2) (k := 1) (y := (eI s.2.1)) (x := (eI s.2.1)) 1 hO (by kernel_rfl) (by kernel_rfl) (by kernel_rfl) (by kernel_rfl) qO)) (by kernel_rfl) ⟨rfl, hO.out⟩)))

theorem tN (s0 : (List aB)) (f1_f : Nat) (f1_a f1_c : List V) (f1 : aB → Option Bool) (f1_h : ∀ a0 r, f1 a0 = some r → bW Try.prog f1_f (f1_a ++ [(aC a0)] ++ f1_c) (aJ r)) (r : Int) (h0 : fM s0 f1 = some r) : bW Try.prog 132 [(eL aC s0), (.fn (.func f1_f) f1_a f1_c)] (eI r) := by
  intro H0
  refine cH Try.func132 ?_
  have hO := aM.start H0
  unfold fM at h0
  refine aX aF 1 [] [] ?_
  refine cU (fun T H => Has T [] ∧ aM ⟨H0, [], []⟩ H [] ∧ dP f1  = some r) ?_ ?_
  · clear hO h0
    rintro T H ⟨hT, hO, h0⟩
    refine bD hT ?_
    clear hT
    unfold dP at h0
    refine bV aF 1 [(4, (eI (-1 : Int)))] ?_
    refine bM ?_
    obtain rfl := oI h0
    exact aH (Q_r hO)
  refine aX aF 3 [] [(7, (eI (lN s0))), (8, (eI (0 : Int)))] ?_
  refine bR 0 ?_
  refine cR [(0, (eL aC s0)), (1, (.fn (.func f1_f) f1_a f1_c)), (7, (eI (lN s0))), (8, (eI (0 : Int)))] ?_
  refine cK (fun T H => ∃ t7 : Int, ∃ t8 : Int, Has T [(0, (eL aC s0)), (1, (.fn (.func f1_f) f1_a f1_c)), (7, (eI t7)), (8, (eI t8))] ∧ aM ⟨H0, [], []⟩ H [] ∧ fJ f1 s0 t7 t8 = some r) ?_ ⟨(lN s0), (0 : Int), .eq (by kernel_rfl), hO, h0⟩
  clear hO h0
  rintro T H ⟨t7, t8, hT, hO, h0⟩
  refine bD hT ?_
  clear hT
  unfold fJ at h0
  obtain ⟨rr0, hl0, h0⟩ := aY h0
  refine cB (by kernel_rfl) (fun (s : Int) T H => Has T [(0, (eL aC s0)), (1, (.fn (.func f1_f) f1_a f1_c)), (7, (eI t7)), (8, (eI s))] ∧ aM ⟨H0, [], []⟩ H []) hl0 ⟨.eq (by kernel_rfl), hO⟩ ?_
  clear hO
  rintro k0 s out1 T H ⟨hT, hO⟩ h1 ho0
  obtain ⟨t8, rfl⟩ : ∃ x, x = s := ⟨_, rfl⟩
  replace h1 : fH f1 s0 t7 t8 = some out1 := h1
  refine bD hT ?_
  clear hT
  unfold fH at h1
  refine aX aF 1 [] [(9, (aJ (decide (t8 < t7))))] ?_
  refine aP ?_
  refine bN h1 (fun h1 => ?_) (fun h1 => ?_)
  · refine bP ?_
    refine bG [(0, (eL aC s0)), (1, (.fn (.func f1_f) f1_a f1_c)), (7, (eI t7)), (8, (eI t8))] ?_
    refine aP ?_
    refine bR 1 ?_
    refine aX aF 2 [] [(5, (eI t8))] ?_
    refine aP ?_
    refine aT aF 6 ?_
    obtain ⟨c2, h1⟩ := bK h1
    refine oS 5 [0 ≤ t8 ∧ t8 < (lN s0)] ⟨c2, trivial⟩ ?_
    obtain ⟨x3, hx4, h1⟩ := aY h1
    refine cI (f1_h (gD s0 t8) _ hx4) hO ?_
    intro H hO
    refine cJ ?_
    refine bS [] [(16, (aJ x3))] ?_
    refine bN h1 (fun h1 => ?_) (fun h1 => ?_)
    · refine bV aF 2 [(4, (eI t8))] ?_
      refine bM ?_
      obtain rfl := oI h1
      obtain rfl : _ = rr0 := ho0
      replace h0 : some t8 = some r := h0
      obtain rfl := oI h0
      exact aH (bU (bB (bB (bU (bB (Q_r hO))))))
    refine bP ?_
    refine cX [(0, (eL aC s0)), (1, (.fn (.func f1_f) f1_a f1_c)), (7, (eI t7)), (8, (eI t8))] ?_
    refine aH (aV (aG (?_)))
    refine aT aF 2 ?_
    refine bF ?_
    exact aH (aG (⟨rfl, _, (oI h1).symm, .eq (by kernel_rfl), hO⟩))
  refine dJ 0 ?_
  obtain rfl := oI h1
  obtain rfl : _ = rr0 := ho0
  replace h0 : dP f1  = some r := h0
  exact aH (aU (aU (bQ (aG (⟨rfl, .eq (by kernel_rfl), hO, h0⟩)))))

theorem mN (s0 : (List aB)) (f1_f : Nat) (f1_a f1_c : List V) (f1 : aB → Option Bool) (f1_h : ∀ a0 r, f1 a0 = some r → bW Try.prog f1_f (f1_a ++ [(aC a0)] ++ f1_c) (aJ r)) (r : Bool) (h0 : cS s0 f1 = some r) : bW Try.prog 107 [(eL aC s0), (.fn (.func f1_f) f1_a f1_c)] (aJ r) := by
  intro H0
  refine cH Try.func107 ?_
  have hO := aM.start H0
  unfold cS at h0
  refine aX aF 1 [] [] ?_
  refine aP ?_
  refine aT aF 5 ?_
  refine bO 2 ?_
  obtain ⟨x1, hx2, h0⟩ := aY h0
  refine cI (tN s0 f1_f f1_a f1_c f1 f1_h _ hx2) hO ?_
  intro H hO
  refine bF ?_
  refine bG [(4, (aJ (decide ((0 : Int) ≤ x1))))] ?_
  refine bM ?_
  obtain rfl := oI h0
  exact aH (Q_r hO)

theorem GH (n0 : Int) (r : Bool) (h0 : uZ n0 = some r) : bW Try.prog 109 [(eI n0)] (aJ r) := by
  intro H0
  refine cH Try.func109 ?_
  have hO := aM.start H0
  unfold uZ at h0
  refine aX aF 1 [] [] ?_
  refine bV aF 7 [(2, (aJ ((decide (n0 ≤ (1048576 : Int))) && (decide ((-1048576 : Int) ≤ n0)))))] ?_
  refine bM ?_
  obtain rfl := oI h0
  exact aH (Q_r hO)

theorem MK (j0 : aB) (r : Bool) (h0 : sH j0 = some r) : bW Try.prog 108 [(aC j0)] (aJ r) := by
  intro H0
  refine cH Try.func108 ?_
  have hO := aM.start H0
  unfold sH at h0
  refine aP ?_
  refine aT aF 2 ?_
  refine gP 2 (aC j0) (by kernel_rfl) (by kernel_rfl) ?_
  refine bF ?_
  refine bG [(1, (.rp (aC j0)))] ?_
  refine aP ?_
  refine aT aF 5 ?_
  refine bO 2 ?_
  obtain ⟨x1, hx2, h0⟩ := aY h0
  refine cI (GH j0.Net _ hx2) hO ?_
  intro H hO
  refine bF ?_
  refine bG [(2, (aJ (!x1)))] ?_
  refine bM ?_
  obtain rfl := oI h0
  exact aH (Q_r hO)

theorem MD (j0 : aB) (r : Bool) (h0 : rX j0 = some r) : bW Try.prog 110 [(aC j0)] (aJ r) := by
  intro H0
  refine cH Try.func110 ?_
  have hO := aM.start H0
  unfold rX at h0
  refine aP ?_
  refine aT aF 2 ?_
  refine gP 2 (aC j0) (by kernel_rfl) (by kernel_rfl) ?_
  refine bF ?_
  refine bG [(1, (.rp (aC j0)))] ?_
  refine bV aF 9 [(2, (aJ ((decide (j0.At < (-1 : Int))) || (decide ((1125899906842624 : Int) < j0.At)))))] ?_
  refine bM ?_
  obtain rfl := oI h0
  exact aH (Q_r hO)

theorem wC (s0 : (List aB)) (r : (List aB)) (h0 : eT s0 = some r) : zE Try.prog 111 [(eL aC s0)] (fun lo => (.msl 2 lo 0 (List.length r))) 2 (List.map aC r) := by
  intro H0
  refine cH Try.func111 ?_
  have hO := aM.start H0
  unfold eT at h0
  refine aX aF 1 [] [] ?_
  refine aP ?_
  refine aP ?_
  refine aT aF 2 ?_
  refine bO 1 ?_
  refine YY false (List.length s0) (fun i => aC (List.getD s0 i default)) (by kernel_rfl) (by kernel_rfl) ?_
  intro b1 hn2
  refine cJ ?_
  refine bS [] [(4, (aJ b1))] ?_
  refine nW (b1) (fun hc3 => ?_) (fun hc3 => ?_)
  · replace h0 : some ([] : List aB) = some r := by
      have hl := List.eq_nil_of_length_eq_zero (hn2 hc3)
      rw [hl] at h0
      exact (bK h0).2
    refine bV aF 1 [(2, (.sl true 0 (fun _ => .bad)))] ?_
    refine bM ?_
    refine cX [(2, (.sl true 0 (fun _ => .bad)))] ?_
    refine WS (el := (fun _ => .bad)) 0 2 2 hO (by kernel_rfl) ?_
    intro lo4 H5 hO
    obtain rfl := oI h0
    exact aH (bB (pQ (x := (.msl 2 lo4 0 (List.length ([] : List aB)))) (by kernel_rfl) (aZ.refl _) ⟨lo4, rfl, hO⟩))
  · refine bP ?_
    refine bG [(0, (eL aC s0))] ?_
    refine aP ?_
    refine aT aF 4 ?_
    refine pL (xs := []) (k := 2) (by kernel_rfl) (by kernel_rfl) ?_
    refine bO 2 ?_
    obtain ⟨c7, h0⟩ := bK h0
    refine SB (e := aC) s0 (fun _ => .bad) 2 16 (eL aC s0) (fun lo6 => [(lo6, 2, List.map aC s0)]) (by kernel_rfl) (by kernel_rfl) hO (KO (fun _ => by kernel_rfl)) c7 (fun _ => by kernel_rfl) ?_
    intro lo6 H hO
    refine bF ?_
    refine bG [(2, (.msl 2 lo6 0 (List.length s0)))] ?_
    refine bM ?_
    obtain rfl := oI h0
    exact aH (pQ (x := (.msl 2 lo6 0 (List.length s0))) (by kernel_rfl) (aZ.refl _) ⟨lo6, rfl, hO⟩)

theorem mX (lo0p : Nat) (aA : (List aB)) (a1 : Int) (b2 : Int) (cmp3_f : Nat) (cmp3_a cmp3_c : List V) (cmp3 : aB → aB → Option Int) (cmp3_h : ∀ a0 a1 r, cmp3 a0 a1 = some r → bW Try.prog cmp3_f (cmp3_a ++ [(aC a0), (aC a1)] ++ cmp3_c) (eI r)) (r : List aB) (h0 : dM aA a1 b2 cmp3 = some r) : kV Try.prog 140 lo0p 2 (List.map aC aA) (List.map aC r) [(.msl 2 lo0p 0 (List.length aA)), (eI a1), (eI b2), (.fn (.func cmp3_f) cmp3_a cmp3_c)] (.tup []) := by
  intro H0 hl0
  refine cH Try.func140 ?_
  have hO := aM.pS hl0
  clear hl0
  obtain ⟨N0, hN0⟩ : ∃ n, n = List.length aA := ⟨_, rfl⟩
  have hN : List.length aA = N0 := hN0.symm
  unfold dM at h0
  refine aX aF 3 [] [(8, (eI (wR (a1 + (1 : Int)))))] ?_
  refine bR 0 ?_
  refine cR [(0, (.msl 2 lo0p 0 (List.length aA))), (1, (eI a1)), (2, (eI b2)), (3, (.fn (.func cmp3_f) cmp3_a cmp3_c)), (8, (eI (wR (a1 + (1 : Int)))))] ?_
  refine cK (fun T H => ∃ aA : List aB, ∃ i8 : Int, Has T [(0, (.msl 2 lo0p 0 (List.length aA))), (1, (eI a1)), (2, (eI b2)), (3, (.fn (.func cmp3_f) cmp3_a cmp3_c)), (8, (eI i8))] ∧ aM ⟨H0, [lo0p], []⟩ H [(lo0p, 2, List.map aC aA)] ∧ List.length aA = N0 ∧ iL cmp3 aA a1 b2 i8 = some r) ?_ ⟨aA, wR (a1 + (1 : Int)), .eq (by kernel_rfl), hO, hN, h0⟩
  clear hO hN h0
  rintro T H ⟨aA, i8, hT, hO, hN, h0⟩
  refine bD hT ?_
  clear hT
  unfold iL at h0
  obtain ⟨rr0, hl0, h0⟩ := aY h0
  refine cB (by kernel_rfl) (fun (s : List aB × Int) T H => Has T [(0, (.msl 2 lo0p 0 (List.length s.1))), (1, (eI a1)), (2, (eI b2)), (3, (.fn (.func cmp3_f) cmp3_a cmp3_c)), (8, (eI s.2))] ∧ aM ⟨H0, [lo0p], []⟩ H [(lo0p, 2, List.map aC s.1)] ∧ List.length s.1 = N0) hl0 ⟨.eq (by kernel_rfl), hO, hN⟩ ?_
  clear hO hN
  rintro k0 s out1 T H ⟨hT, hO, hN⟩ h1 ho0
  obtain ⟨aA, i8⟩ := s
  replace h1 : iJ cmp3 a1 b2 aA i8 = some out1 := h1
  try dsimp only at hT
  refine bD hT ?_
  clear hT
  unfold iJ at h1
  refine aP ?_
  refine aX aF 3 [] [(14, (aJ (decide (i8 < b2))))] ?_
  refine bN h1 (fun h1 => ?_) (fun h1 => ?_)
  · refine bP ?_
    refine bG [(0, (.msl 2 lo0p 0 (List.length aA))), (1, (eI a1)), (2, (eI b2)), (3, (.fn (.func cmp3_f) cmp3_a cmp3_c)), (8, (eI i8))] ?_
    refine cU (fun T H => ∃ aA : List aB, Has T [(0, (.msl 2 lo0p 0 (List.length aA))), (1, (eI a1)), (2, (eI b2)), (3, (.fn (.func cmp3_f) cmp3_a cmp3_c)), (8, (eI i8))] ∧ aM ⟨H0, [lo0p], []⟩ H [(lo0p, 2, List.map aC aA)] ∧ List.length aA = N0 ∧ eN cmp3 aA a1 b2 i8 = some out1) ?_ ?_
    · clear hO hN h1
      rintro T H ⟨aA, hT, hO, hN, h1⟩
      refine bD hT ?_
      clear hT
      unfold eN at h1
      refine aT aF 3 ?_
      refine bF ?_
      exact aH (aG (⟨rfl, _, (oI h1).symm, .eq (by kernel_rfl), hO, hN⟩))
    refine bR 1 ?_
    refine aX aF 2 [] [(9, (eI i8))] ?_
    refine bR 2 ?_
    refine cR [(0, (.msl 2 lo0p 0 (List.length aA))), (1, (eI a1)), (2, (eI b2)), (3, (.fn (.func cmp3_f) cmp3_a cmp3_c)), (8, (eI i8)), (9, (eI i8))] ?_
    refine cK (fun T H => ∃ aA : List aB, ∃ j9 : Int, Has T [(0, (.msl 2 lo0p 0 (List.length aA))), (1, (eI a1)), (2, (eI b2)), (3, (.fn (.func cmp3_f) cmp3_a cmp3_c)), (8, (eI i8)), (9, (eI j9))] ∧ aM ⟨H0, [lo0p], []⟩ H [(lo0p, 2, List.map aC aA)] ∧ List.length aA = N0 ∧ iP cmp3 aA a1 b2 i8 j9 = some out1) ?_ ⟨aA, i8, .eq (by kernel_rfl), hO, hN, h1⟩
    clear hO hN h1
    rintro T H ⟨aA, j9, hT, hO, hN, h1⟩
    refine bD hT ?_
    clear hT
    unfold iP at h1
    obtain ⟨rr1, hl1, h1⟩ := aY h1
    refine cB (by kernel_rfl) (fun (s : List aB × Int) T H => Has T [(0, (.msl 2 lo0p 0 (List.length s.1))), (1, (eI a1)), (2, (eI b2)), (3, (.fn (.func cmp3_f) cmp3_a cmp3_c)), (8, (eI i8)), (9, (eI s.2))] ∧ aM ⟨H0, [lo0p], []⟩ H [(lo0p, 2, List.map aC s.1)] ∧ List.length s.1 = N0) hl1 ⟨.eq (by kernel_rfl), hO, hN⟩ ?_
    clear hO hN
    rintro k1 s out2 T H ⟨hT, hO, hN⟩ h2 ho1
    obtain ⟨aA, j9⟩ := s
    replace h2 : iI cmp3 a1 b2 i8 aA j9 = some out2 := h2
    try dsimp only at hT
    refine bD hT ?_
    clear hT
    unfold iI at h2
    refine aP ?_
    refine aP ?_
    obtain ⟨c2, h2⟩ := bK h2
    obtain ⟨c3, h2⟩ := bK h2
    obtain ⟨x4, hx5, h2⟩ := aY h2
    refine jF (jG []) aF 17 ?_
    refine BY (K := fun T H => Has (lift T) [(0, (.msl 2 lo0p 0 (List.length aA))), (1, (eI a1)), (2, (eI b2)), (3, (.fn (.func cmp3_f) cmp3_a cmp3_c)), (8, (eI i8)), (9, (eI j9)), (34, (aJ ((decide (a1 < j9)) && (decide (x4 < (0 : Int))))))] ∧ aM ⟨H0, [lo0p], []⟩ H [(lo0p, 2, List.map aC aA)]) ?_ ?_
    · refine tJ 4 ?_
      refine BU (t := 21) (e := decide (a1 < j9)) (by kernel_rfl) (fun hg6 => ?_) (fun hg6 => ?_)
      · refine dN 8 [0 ≤ j9 ∧ j9 < (lN aA)] ⟨(c2 hg6), trivial⟩ ?_
        refine zP 0 lo0p 2 (0 + Int.toNat j9) (aC (gD aA j9)) (aC (gD aA j9)) (List.map aC aA) (by kernel_rfl) (by kernel_rfl) (by kernel_rfl) hO (by kernel_rfl) (cQ (c2 hg6)) ?_
        refine dN 13 [0 ≤ (wR (j9 - (1 : Int))) ∧ (wR (j9 - (1 : Int))) < (lN aA)] ⟨(c3 hg6), trivial⟩ ?_
        refine zP 0 lo0p 2 (0 + Int.toNat (wR (j9 - (1 : Int)))) (aC (gD aA (wR (j9 - (1 : Int))))) (aC (gD aA (wR (j9 - (1 : Int))))) (List.map aC aA) (by kernel_rfl) (by kernel_rfl) (by kernel_rfl) hO (by kernel_rfl) (cQ (c3 hg6)) ?_
        refine JY cmp3_f (cmp3_a ++ [(aC (gD aA j9)), (aC (gD aA (wR (j9 - (1 : Int)))))] ++ cmp3_c) (eI x4) (by kernel_rfl) (by kernel_rfl) (cmp3_h (gD aA j9) (gD aA (wR (j9 - (1 : Int)))) _ (lE hx5 hg6)) hO ?_
        intro H hO
        refine pV ?_
        exact ⟨⟨[(0, (.msl 2 lo0p 0 (List.length aA))), (1, (eI a1)), (2, (eI b2)), (3, (.fn (.func cmp3_f) cmp3_a cmp3_c)), (8, (eI i8)), (9, (eI j9)), (34, (aJ (decide (x4 < (0 : Int)))))], by kernel_rfl, rfl, ⟨aZ.refl _, aZ.refl _, aZ.refl _, aZ.refl _, aZ.refl _, aZ.refl _, aZ.eq (congrArg aJ (AR hg6 rfl).symm), trivial⟩⟩, hO⟩
      refine pV ?_
      exact ⟨⟨[(0, (.msl 2 lo0p 0 (List.length aA))), (1, (eI a1)), (2, (eI b2)), (3, (.fn (.func cmp3_f) cmp3_a cmp3_c)), (8, (eI i8)), (9, (eI j9)), (34, (aJ false))], by kernel_rfl, rfl, ⟨aZ.refl _, aZ.refl _, aZ.refl _, aZ.refl _, aZ.refl _, aZ.refl _, aZ.eq (congrArg aJ (AR hg6 rfl).symm), trivial⟩⟩, hO⟩
    · rintro T H ⟨hT, hO⟩
      refine cN hT ?_
      clear hT
      refine aH (aG ?_)
      refine bN h2 (fun h2 => ?_) (fun h2 => ?_)
      · refine bP ?_
        refine bG [(0, (.msl 2 lo0p 0 (List.length aA))), (1, (eI a1)), (2, (eI b2)), (3, (.fn (.func cmp3_f) cmp3_a cmp3_c)), (8, (eI i8)), (9, (eI j9))] ?_
        refine aP ?_
        refine bR 3 ?_
        refine jF (jG []) aF 18 ?_
        obtain ⟨c8, h2⟩ := bK h2
        refine dN 9 [0 ≤ (wR (j9 - (1 : Int))) ∧ (wR (j9 - (1 : Int))) < (lN aA)] ⟨c8, trivial⟩ ?_
        refine kP 0 lo0p 2 (0 + Int.toNat (wR (j9 - (1 : Int)))) (aC (gD aA (wR (j9 - (1 : Int))))) (aC (gD aA (wR (j9 - (1 : Int))))) (List.map aC aA) hO (cQ c8) ?_
        obtain ⟨c9, h2⟩ := bK h2
        refine dN 13 [0 ≤ j9 ∧ j9 < (lN aA)] ⟨c9, trivial⟩ ?_
        refine kP 0 lo0p 2 (0 + Int.toNat j9) (aC (gD aA j9)) (aC (gD aA j9)) (List.map aC aA) hO (cQ c9) ?_
        obtain ⟨c10, h2⟩ := bK h2
        refine dN 15 [0 ≤ j9 ∧ j9 < (lN aA)] ⟨c10, trivial⟩ ?_
        refine rF 0 lo0p 2 (0 + Int.toNat j9) (aC (gD aA j9)) (aC (gD aA (wR (j9 - (1 : Int))))) (List.map aC aA) [(lo0p, 2, List.map aC (List.set aA (Int.toNat j9) (gD aA (wR (j9 - (1 : Int))))))] hO (cQ c10) (by simp only [List.set, nN]) ?_
        intro H hO
        replace hN : List.length (List.set aA (Int.toNat j9) (gD aA (wR (j9 - (1 : Int))))) = N0 := by simpa using hN
        obtain ⟨c11, h2⟩ := bK h2
        refine dN 17 [0 ≤ (wR (j9 - (1 : Int))) ∧ (wR (j9 - (1 : Int))) < (lN aA)] ⟨c11, trivial⟩ ?_
        refine rF 0 lo0p 2 (0 + Int.toNat (wR (j9 - (1 : Int)))) (aC (gD (List.set aA (Int.toNat j9) (gD aA (wR (j9 - (1 : Int))))) (wR (j9 - (1 : Int))))) (aC (gD aA j9)) (List.map aC (List.set aA (Int.toNat j9) (gD aA (wR (j9 - (1 : Int)))))) [(lo0p, 2, List.map aC (List.set (List.set aA (Int.toNat j9) (gD aA (wR (j9 - (1 : Int))))) (Int.toNat (wR (j9 - (1 : Int)))) (gD aA j9)))] hO (wI c11 (by simp [])) (by simp only [List.set, nN]) ?_
        intro H hO
        replace hN : List.length (List.set (List.set aA (Int.toNat j9) (gD aA (wR (j9 - (1 : Int))))) (Int.toNat (wR (j9 - (1 : Int)))) (gD aA j9)) = N0 := by simpa using hN
        refine wT (by kernel_rfl) ?_
        refine cN (l := [(0, (.msl 2 lo0p 0 (List.length (List.set (List.set aA (Int.toNat j9) (gD aA (wR (j9 - (1 : Int))))) (Int.toNat (wR (j9 - (1 : Int)))) (gD aA j9))))), (1, (eI a1)), (2, (eI b2)), (3, (.fn (.func cmp3_f) cmp3_a cmp3_c)), (8, (eI i8)), (9, (eI j9))]) ⟨[(0, (.msl 2 lo0p 0 (List.length aA))), (1, (eI a1)), (2, (eI b2)), (3, (.fn (.func cmp3_f) cmp3_a cmp3_c)), (8, (eI i8)), (9, (eI j9))], by kernel_rfl, rfl, ⟨aZ.eq (by simp []), aZ.refl _, aZ.refl _, aZ.refl _, aZ.refl _, aZ.refl _, trivial⟩⟩ ?_
        refine aH (aV (aG (?_)))
        refine aT aF 3 ?_
        refine bF ?_
        exact aH (aG (⟨rfl, _, (oI h2).symm, .eq (by kernel_rfl), hO, hN⟩))
      refine dJ 2 ?_
      obtain rfl := oI h2
      obtain rfl : _ = rr1 := ho1
      replace h1 : eN cmp3 aA a1 b2 i8 = some out1 := h1
      exact aH (aU (aU (bQ (aV (aG (⟨rfl, _, .eq (by kernel_rfl), hO, hN, h1⟩))))))
  refine dJ 0 ?_
  obtain rfl := oI h1
  obtain rfl : _ = rr0 := ho0
  replace h0 : some aA = some r := h0
  obtain rfl := oI h0
  exact aH (aU (aU (bQ (qB (x := (.tup [])) (by kernel_rfl) (aZ.refl _) ⟨rfl, hO.ext, hO.at 0 (by kernel_rfl), by simp only [List.length_map]; exact hN.trans hN0⟩))))

theorem kQ (lo0p : Nat) (aA : (List aB)) (a1 : Int) (b2 : Int) (n3 : Int) (cmp4_f : Nat) (cmp4_a cmp4_c : List V) (cmp4 : aB → aB → Option Int) (cmp4_h : ∀ a0 a1 r, cmp4 a0 a1 = some r → bW Try.prog cmp4_f (cmp4_a ++ [(aC a0), (aC a1)] ++ cmp4_c) (eI r)) (r : List aB) (h0 : eC aA a1 b2 n3 cmp4 = some r) : kV Try.prog 145 lo0p 2 (List.map aC aA) (List.map aC r) [(.msl 2 lo0p 0 (List.length aA)), (eI a1), (eI b2), (eI n3), (.fn (.func cmp4_f) cmp4_a cmp4_c)] (.tup []) := by
  intro H0 hl0
  refine cH Try.func145 ?_
  have hO := aM.pS hl0
  clear hl0
  obtain ⟨N0, hN0⟩ : ∃ n, n = List.length aA := ⟨_, rfl⟩
  have hN : List.length aA = N0 := hN0.symm
  unfold eC at h0
  refine aX aF 1 [4] [(10, (eI (0 : Int)))] ?_
  refine bR 0 ?_
  refine cR [(0, (.msl 2 lo0p 0 (List.length aA))), (1, (eI a1)), (2, (eI b2)), (3, (eI n3)), (10, (eI (0 : Int)))] ?_
  refine cK (fun T H => ∃ aA : List aB, ∃ i10 : Int, Has T [(0, (.msl 2 lo0p 0 (List.length aA))), (1, (eI a1)), (2, (eI b2)), (3, (eI n3)), (10, (eI i10))] ∧ aM ⟨H0, [lo0p], []⟩ H [(lo0p, 2, List.map aC aA)] ∧ List.length aA = N0 ∧ jU cmp4 aA a1 b2 n3 i10 = some r) ?_ ⟨aA, (0 : Int), .eq (by kernel_rfl), hO, hN, h0⟩
  clear hO hN h0
  rintro T H ⟨aA, i10, hT, hO, hN, h0⟩
  refine bD hT ?_
  clear hT
  unfold jU at h0
  obtain ⟨rr0, hl0, h0⟩ := aY h0
  refine cB (by kernel_rfl) (fun (s : List aB × Int) T H => Has T [(0, (.msl 2 lo0p 0 (List.length s.1))), (1, (eI a1)), (2, (eI b2)), (3, (eI n3)), (10, (eI s.2))] ∧ aM ⟨H0, [lo0p], []⟩ H [(lo0p, 2, List.map aC s.1)] ∧ List.length s.1 = N0) hl0 ⟨.eq (by kernel_rfl), hO, hN⟩ ?_
  clear hO hN
  rintro k0 s out1 T H ⟨hT, hO, hN⟩ h1 ho0
  obtain ⟨aA, i10⟩ := s
  replace h1 : jY cmp4 a1 b2 n3 aA i10 = some out1 := h1
  try dsimp only at hT
  refine bD hT ?_
  clear hT
  unfold jY at h1
  refine aP ?_
  refine aX aF 3 [] [(13, (aJ (decide (i10 < n3))))] ?_
  refine bN h1 (fun h1 => ?_) (fun h1 => ?_)
  · refine bP ?_
    refine bG [(0, (.msl 2 lo0p 0 (List.length aA))), (1, (eI a1)), (2, (eI b2)), (3, (eI n3)), (10, (eI i10))] ?_
    refine aP ?_
    refine bR 1 ?_
    refine jF (jG []) aF 24 ?_
    obtain ⟨c2, h1⟩ := bK h1
    refine dN 13 [0 ≤ (wR (b2 + i10)) ∧ (wR (b2 + i10)) < (lN aA)] ⟨c2, trivial⟩ ?_
    refine kP 0 lo0p 2 (0 + Int.toNat (wR (b2 + i10))) (aC (gD aA (wR (b2 + i10)))) (aC (gD aA (wR (b2 + i10)))) (List.map aC aA) hO (cQ c2) ?_
    obtain ⟨c3, h1⟩ := bK h1
    refine dN 19 [0 ≤ (wR (a1 + i10)) ∧ (wR (a1 + i10)) < (lN aA)] ⟨c3, trivial⟩ ?_
    refine kP 0 lo0p 2 (0 + Int.toNat (wR (a1 + i10))) (aC (gD aA (wR (a1 + i10)))) (aC (gD aA (wR (a1 + i10)))) (List.map aC aA) hO (cQ c3) ?_
    obtain ⟨c4, h1⟩ := bK h1
    refine dN 21 [0 ≤ (wR (a1 + i10)) ∧ (wR (a1 + i10)) < (lN aA)] ⟨c4, trivial⟩ ?_
    refine rF 0 lo0p 2 (0 + Int.toNat (wR (a1 + i10))) (aC (gD aA (wR (a1 + i10)))) (aC (gD aA (wR (b2 + i10)))) (List.map aC aA) [(lo0p, 2, List.map aC (List.set aA (Int.toNat (wR (a1 + i10))) (gD aA (wR (b2 + i10)))))] hO (cQ c4) (by simp only [List.set, nN]) ?_
    intro H hO
    replace hN : List.length (List.set aA (Int.toNat (wR (a1 + i10))) (gD aA (wR (b2 + i10)))) = N0 := by simpa using hN
    obtain ⟨c5, h1⟩ := bK h1
    refine dN 23 [0 ≤ (wR (b2 + i10)) ∧ (wR (b2 + i10)) < (lN aA)] ⟨c5, trivial⟩ ?_
    refine rF 0 lo0p 2 (0 + Int.toNat (wR (b2 + i10))) (aC (gD (List.set aA (Int.toNat (wR (a1 + i10))) (gD aA (wR (b2 + i10)))) (wR (b2 + i10)))) (aC (gD aA (wR (a1 + i10)))) (List.map aC (List.set aA (Int.toNat (wR (a1 + i10))) (gD aA (wR (b2 + i10))))) [(lo0p, 2, List.map aC (List.set (List.set aA (Int.toNat (wR (a1 + i10))) (gD aA (wR (b2 + i10)))) (Int.toNat (wR (b2 + i10))) (gD aA (wR (a1 + i10)))))] hO (wI c5 (by simp [])) (by simp only [List.set, nN]) ?_
    intro H hO
    replace hN : List.length (List.set (List.set aA (Int.toNat (wR (a1 + i10))) (gD aA (wR (b2 + i10)))) (Int.toNat (wR (b2 + i10))) (gD aA (wR (a1 + i10)))) = N0 := by simpa using hN
    refine wT (by kernel_rfl) ?_
    refine cN (l := [(0, (.msl 2 lo0p 0 (List.length (List.set (List.set aA (Int.toNat (wR (a1 + i10))) (gD aA (wR (b2 + i10)))) (Int.toNat (wR (b2 + i10))) (gD aA (wR (a1 + i10))))))), (1, (eI a1)), (2, (eI b2)), (3, (eI n3)), (10, (eI i10))]) ⟨[(0, (.msl 2 lo0p 0 (List.length aA))), (1, (eI a1)), (2, (eI b2)), (3, (eI n3)), (10, (eI i10))], by kernel_rfl, rfl, ⟨aZ.eq (by simp []), aZ.refl _, aZ.refl _, aZ.refl _, aZ.refl _, trivial⟩⟩ ?_
    refine aH (aV (aG (?_)))
    refine aT aF 3 ?_
    refine bF ?_
    exact aH (aG (⟨rfl, _, (oI h1).symm, .eq (by kernel_rfl), hO, hN⟩))
  refine dJ 0 ?_
  obtain rfl := oI h1
  obtain rfl : _ = rr0 := ho0
  replace h0 : some aA = some r := h0
  obtain rfl := oI h0
  exact aH (aU (aU (bQ (qB (x := (.tup [])) (by kernel_rfl) (aZ.refl _) ⟨rfl, hO.ext, hO.at 0 (by kernel_rfl), by simp only [List.length_map]; exact hN.trans hN0⟩))))

theorem wJ (lo0p : Nat) (aA : (List aB)) (a1 : Int) (m2 : Int) (b3 : Int) (cmp4_f : Nat) (cmp4_a cmp4_c : List V) (cmp4 : aB → aB → Option Int) (cmp4_h : ∀ a0 a1 r, cmp4 a0 a1 = some r → bW Try.prog cmp4_f (cmp4_a ++ [(aC a0), (aC a1)] ++ cmp4_c) (eI r)) (r : List aB) (h0 : lY aA a1 m2 b3 cmp4 = some r) : kV Try.prog 144 lo0p 2 (List.map aC aA) (List.map aC r) [(.msl 2 lo0p 0 (List.length aA)), (eI a1), (eI m2), (eI b3), (.fn (.func cmp4_f) cmp4_a cmp4_c)] (.tup []) := by
  intro H0 hl0
  refine cH Try.func144 ?_
  have hO := aM.pS hl0
  clear hl0
  obtain ⟨N0, hN0⟩ : ∃ n, n = List.length aA := ⟨_, rfl⟩
  have hN : List.length aA = N0 := hN0.symm
  unfold lY at h0
  refine aX aF 4 [1] [(10, (eI (wR (m2 - a1))))] ?_
  refine aX aF 4 [3] [(11, (eI (wR (b3 - m2))))] ?_
  refine cU (fun T H => ∃ aA : List aB, ∃ i10 : Int, Has T [(0, (.msl 2 lo0p 0 (List.length aA))), (2, (eI m2)), (4, (.fn (.func cmp4_f) cmp4_a cmp4_c)), (10, (eI i10))] ∧ aM ⟨H0, [lo0p], []⟩ H [(lo0p, 2, List.map aC aA)] ∧ List.length aA = N0 ∧ gY cmp4 aA m2 i10 = some r) ?_ ?_
  · clear hO hN h0
    rintro T H ⟨aA, i10, hT, hO, hN, h0⟩
    refine bD hT ?_
    clear hT
    unfold gY at h0
    refine aT aF 8 ?_
    refine bO 7 ?_
    obtain ⟨x1, hx2, h0⟩ := aY h0
    refine nY [(lo0p, 2, List.map aC x1)] 0 (kQ lo0p aA (wR (m2 - i10)) m2 i10 cmp4_f cmp4_a cmp4_c cmp4 cmp4_h _ hx2) hO ?_
    intro H hO hl3
    simp only [List.length_map] at hl3
    replace hN := hl3.trans hN
    refine cJ ?_
    refine cN (l := [(0, (.msl 2 lo0p 0 (List.length x1)))]) ⟨[(0, (.msl 2 lo0p 0 (List.length aA)))], by kernel_rfl, rfl, ⟨aZ.eq (by simp [hl3]), trivial⟩⟩ ?_
    obtain rfl := oI h0
    exact aH (qB (x := (.tup [])) (by kernel_rfl) (aZ.refl _) ⟨rfl, hO.ext, hO.at 0 (by kernel_rfl), by simp only [List.length_map]; exact hN.trans hN0⟩)
  refine bR 0 ?_
  refine cR [(0, (.msl 2 lo0p 0 (List.length aA))), (2, (eI m2)), (4, (.fn (.func cmp4_f) cmp4_a cmp4_c)), (10, (eI (wR (m2 - a1)))), (11, (eI (wR (b3 - m2))))] ?_
  refine cK (fun T H => ∃ aA : List aB, ∃ i10 : Int, ∃ j11 : Int, Has T [(0, (.msl 2 lo0p 0 (List.length aA))), (2, (eI m2)), (4, (.fn (.func cmp4_f) cmp4_a cmp4_c)), (10, (eI i10)), (11, (eI j11))] ∧ aM ⟨H0, [lo0p], []⟩ H [(lo0p, 2, List.map aC aA)] ∧ List.length aA = N0 ∧ lM cmp4 aA m2 i10 j11 = some r) ?_ ⟨aA, wR (m2 - a1), wR (b3 - m2), .eq (by kernel_rfl), hO, hN, h0⟩
  clear hO hN h0
  rintro T H ⟨aA, i10, j11, hT, hO, hN, h0⟩
  refine bD hT ?_
  clear hT
  unfold lM at h0
  obtain ⟨rr0, hl0, h0⟩ := aY h0
  refine cB (by kernel_rfl) (fun (s : List aB × Int × Int) T H => Has T [(0, (.msl 2 lo0p 0 (List.length s.1))), (2, (eI m2)), (4, (.fn (.func cmp4_f) cmp4_a cmp4_c)), (10, (eI s.2.1)), (11, (eI s.2.2))] ∧ aM ⟨H0, [lo0p], []⟩ H [(lo0p, 2, List.map aC s.1)] ∧ List.length s.1 = N0) hl0 ⟨.eq (by kernel_rfl), hO, hN⟩ ?_
  clear hO hN
  rintro k0 s out1 T H ⟨hT, hO, hN⟩ h1 ho0
  obtain ⟨aA, i10, j11⟩ := s
  replace h1 : lJ cmp4 m2 aA i10 j11 = some out1 := h1
  try dsimp only at hT
  refine bD hT ?_
  clear hT
  unfold lJ at h1
  refine aP ?_
  refine aX aF 3 [] [(20, (aJ (!decide (i10 = j11))))] ?_
  refine bN h1 (fun h1 => ?_) (fun h1 => ?_)
  · refine bP ?_
    refine bG [(0, (.msl 2 lo0p 0 (List.length aA))), (2, (eI m2)), (4, (.fn (.func cmp4_f) cmp4_a cmp4_c)), (10, (eI i10)), (11, (eI j11))] ?_
    refine bR 1 ?_
    refine aX aF 3 [] [(23, (aJ (decide (j11 < i10))))] ?_
    refine bN h1 (fun h1 => ?_) (fun h1 => ?_)
    · refine aP ?_
      refine aT aF 8 ?_
      refine bO 7 ?_
      obtain ⟨x6, hx7, h1⟩ := aY h1
      refine nY [(lo0p, 2, List.map aC x6)] 0 (kQ lo0p aA (wR (m2 - i10)) m2 j11 cmp4_f cmp4_a cmp4_c cmp4 cmp4_h _ hx7) hO ?_
      intro H hO hl8
      simp only [List.length_map] at hl8
      replace hN := hl8.trans hN
      refine cJ ?_
      refine cN (l := [(0, (.msl 2 lo0p 0 (List.length x6))), (2, (eI m2)), (4, (.fn (.func cmp4_f) cmp4_a cmp4_c)), (10, (eI i10)), (11, (eI j11))]) ⟨[(0, (.msl 2 lo0p 0 (List.length aA))), (2, (eI m2)), (4, (.fn (.func cmp4_f) cmp4_a cmp4_c)), (10, (eI i10)), (11, (eI j11))], by kernel_rfl, rfl, ⟨aZ.eq (by simp [hl8]), aZ.refl _, aZ.refl _, aZ.refl _, aZ.refl _, trivial⟩⟩ ?_
      refine aH (aG (?_))
      refine aT aF 4 ?_
      refine bF ?_
      exact aH (aV (aG (⟨rfl, _, (oI h1).symm, .eq (by kernel_rfl), hO, hN⟩)))
    refine aP ?_
    refine aT aF 12 ?_
    refine bO 11 ?_
    obtain ⟨x9, hx10, h1⟩ := aY h1
    refine nY [(lo0p, 2, List.map aC x9)] 0 (kQ lo0p aA (wR (m2 - i10)) (wR ((wR (m2 + j11)) - i10)) i10 cmp4_f cmp4_a cmp4_c cmp4 cmp4_h _ hx10) hO ?_
    intro H hO hl11
    simp only [List.length_map] at hl11
    replace hN := hl11.trans hN
    refine cJ ?_
    refine cN (l := [(0, (.msl 2 lo0p 0 (List.length x9))), (2, (eI m2)), (4, (.fn (.func cmp4_f) cmp4_a cmp4_c)), (10, (eI i10)), (11, (eI j11))]) ⟨[(0, (.msl 2 lo0p 0 (List.length aA))), (2, (eI m2)), (4, (.fn (.func cmp4_f) cmp4_a cmp4_c)), (10, (eI i10)), (11, (eI j11))], by kernel_rfl, rfl, ⟨aZ.eq (by simp [hl11]), aZ.refl _, aZ.refl _, aZ.refl _, aZ.refl _, trivial⟩⟩ ?_
    refine aH (aG (?_))
    refine aT aF 4 ?_
    refine bF ?_
    exact aH (aV (aG (⟨rfl, _, (oI h1).symm, .eq (by kernel_rfl), hO, hN⟩)))
  refine dJ 0 ?_
  obtain rfl := oI h1
  obtain rfl : _ = rr0 := ho0
  replace h0 : gY cmp4 aA m2 i10 = some r := h0
  exact aH (aU (aU (bQ (aG (⟨rfl, _, _, .eq (by kernel_rfl), hO, hN, h0⟩)))))

end Go.Abs
namespace Go.Abs
open Go Go.RowKit Go.Proofs
theorem sR (cmp4_f : Nat) (cmp4_a cmp4_c : List V) (cmp4 : aB → aB → Option Int) (cmp4_h : ∀ a0 a1 r, cmp4 a0 a1 = some r → bW Try.prog cmp4_f (cmp4_a ++ [(aC a0), (aC a1)] ++ cmp4_c) (eI r)) (rec : (List aB) → Int → Int → Int → Option (List aB)) (ih : ∀ (lo0p : Nat) (aA : (List aB)) (a1 : Int) (m2 : Int) (b3 : Int) (r : List aB), rec aA a1 m2 b3 = some r → kV Try.prog 141 lo0p 2 (List.map aC aA) (List.map aC r) [(.msl 2 lo0p 0 (List.length aA)), (eI a1), (eI m2), (eI b3), (.fn (.func cmp4_f) cmp4_a cmp4_c)] (.tup [])) (lo0p : Nat) (aA : (List aB)) (a1 : Int) (m2 : Int) (b3 : Int) (r : List aB) (h0 : dS cmp4 rec aA a1 m2 b3 = some r) : kV Try.prog 141 lo0p 2 (List.map aC aA) (List.map aC r) [(.msl 2 lo0p 0 (List.length aA)), (eI a1), (eI m2), (eI b3), (.fn (.func cmp4_f) cmp4_a cmp4_c)] (.tup []) := by
  intro H0 hl0
  refine cH Try.func141 ?_
  have hO := aM.pS hl0
  clear hl0
  obtain ⟨N0, hN0⟩ : ∃ n, n = List.length aA := ⟨_, rfl⟩
  have hN : List.length aA = N0 := hN0.symm
  unfold dS at h0
  refine cU (fun T H => ∃ aA : List aB, Has T [(0, (.msl 2 lo0p 0 (List.length aA))), (1, (eI a1)), (2, (eI m2)), (3, (eI b3)), (4, (.fn (.func cmp4_f) cmp4_a cmp4_c))] ∧ aM ⟨H0, [lo0p], []⟩ H [(lo0p, 2, List.map aC aA)] ∧ List.length aA = N0 ∧ kK cmp4 rec aA a1 m2 b3 = some r) ?_ ?_
  · clear hO hN h0
    rintro T H ⟨aA, hT, hO, hN, h0⟩
    refine bD hT ?_
    clear hT
    unfold kK at h0
    refine cU (fun T H => ∃ aA : List aB, Has T [(0, (.msl 2 lo0p 0 (List.length aA))), (1, (eI a1)), (2, (eI m2)), (3, (eI b3)), (4, (.fn (.func cmp4_f) cmp4_a cmp4_c))] ∧ aM ⟨H0, [lo0p], []⟩ H [(lo0p, 2, List.map aC aA)] ∧ List.length aA = N0 ∧ kL cmp4 rec aA a1 m2 b3 = some r) ?_ ?_
    · clear hO hN h0
      rintro T H ⟨aA, hT, hO, hN, h0⟩
      refine bD hT ?_
      clear hT
      unfold kL at h0
      refine aP ?_
      refine aT aF 7 ?_
      obtain ⟨c1, h0⟩ := bK h0
      refine rG [0 ≤ (1 : Int)] ⟨c1, trivial⟩ ?_
      refine bS [] [(18, (eI (wR (Int.fdiv (IntKind.u64.wrap (wR (a1 + b3))) (2 ^ (min (Int.toNat (1 : Int)) 64))))))] ?_
      refine aX aF 4 [] [(19, (eI (wR ((wR (Int.fdiv (IntKind.u64.wrap (wR (a1 + b3))) (2 ^ (min (Int.toNat (1 : Int)) 64)))) + m2))))] ?_
      refine aX aF 2 [] [] ?_
      refine cU (fun T H => ∃ aA : List aB, ∃ bT : Int, ∃ n19 : Int, ∃ aS : Int, ∃ r21 : Int, Has T [(0, (.msl 2 lo0p 0 (List.length aA))), (1, (eI a1)), (2, (eI m2)), (3, (eI b3)), (4, (.fn (.func cmp4_f) cmp4_a cmp4_c)), (18, (eI bT)), (19, (eI n19)), (20, (eI aS)), (21, (eI r21))] ∧ aM ⟨H0, [lo0p], []⟩ H [(lo0p, 2, List.map aC aA)] ∧ List.length aA = N0 ∧ fX cmp4 rec aA a1 m2 b3 bT n19 aS r21 = some r) ?_ ?_
      · clear hO hN h0
        rintro T H ⟨aA, bT, n19, aS, r21, hT, hO, hN, h0⟩
        refine bD hT ?_
        clear hT
        unfold fX at h0
        refine aX aF 3 [] [(22, (eI (wR (n19 - (1 : Int)))))] ?_
        refine cU (fun T H => ∃ aA : List aB, ∃ aS : Int, Has T [(0, (.msl 2 lo0p 0 (List.length aA))), (1, (eI a1)), (2, (eI m2)), (3, (eI b3)), (4, (.fn (.func cmp4_f) cmp4_a cmp4_c)), (18, (eI bT)), (19, (eI n19)), (20, (eI aS))] ∧ aM ⟨H0, [lo0p], []⟩ H [(lo0p, 2, List.map aC aA)] ∧ List.length aA = N0 ∧ fU cmp4 rec aA a1 m2 b3 bT n19 aS = some r) ?_ ?_
        · clear hO hN h0
          rintro T H ⟨aA, aS, hT, hO, hN, h0⟩
          refine bD hT ?_
          clear hT
          unfold fU at h0
          refine aX aF 4 [19] [(24, (eI (wR (n19 - aS))))] ?_
          refine cU (fun T H => ∃ aA : List aB, ∃ dV : Int, Has T [(0, (.msl 2 lo0p 0 (List.length aA))), (1, (eI a1)), (3, (eI b3)), (4, (.fn (.func cmp4_f) cmp4_a cmp4_c)), (18, (eI bT)), (20, (eI aS)), (24, (eI dV))] ∧ aM ⟨H0, [lo0p], []⟩ H [(lo0p, 2, List.map aC aA)] ∧ List.length aA = N0 ∧ gJ cmp4 rec aA a1 b3 bT aS dV = some r) ?_ ?_
          · clear hO hN h0
            rintro T H ⟨aA, dV, hT, hO, hN, h0⟩
            refine bD hT ?_
            clear hT
            unfold gJ at h0
            refine cU (fun T H => ∃ aA : List aB, Has T [(0, (.msl 2 lo0p 0 (List.length aA))), (3, (eI b3)), (4, (.fn (.func cmp4_f) cmp4_a cmp4_c)), (18, (eI bT)), (24, (eI dV))] ∧ aM ⟨H0, [lo0p], []⟩ H [(lo0p, 2, List.map aC aA)] ∧ List.length aA = N0 ∧ gH cmp4 rec aA b3 bT dV = some r) ?_ ?_
            · clear hO hN h0
              rintro T H ⟨aA, hT, hO, hN, h0⟩
              refine bD hT ?_
              clear hT
              unfold gH at h0
              refine aX aF 8 [] [(213, (aJ ((decide (bT < dV)) && (decide (dV < b3)))))] ?_
              refine bN h0 (fun h0 => ?_) (fun h0 => ?_)
              · refine aT aF 6 ?_
                refine bO 5 ?_
                obtain ⟨x3, hx4, h0⟩ := aY h0
                refine nY [(lo0p, 2, List.map aC x3)] 0 (ih lo0p aA bT dV b3 _ hx4) hO ?_
                intro H hO hl5
                simp only [List.length_map] at hl5
                replace hN := hl5.trans hN
                refine cJ ?_
                refine cN (l := [(0, (.msl 2 lo0p 0 (List.length x3)))]) ⟨[(0, (.msl 2 lo0p 0 (List.length aA)))], by kernel_rfl, rfl, ⟨aZ.eq (by simp [hl5]), trivial⟩⟩ ?_
                obtain rfl := oI h0
                exact aH (qB (x := (.tup [])) (by kernel_rfl) (aZ.refl _) ⟨rfl, hO.ext, hO.at 0 (by kernel_rfl), by simp only [List.length_map]; exact hN.trans hN0⟩)
              refine bP ?_
              obtain rfl := oI h0
              exact aH (qB (x := (.tup [])) (by kernel_rfl) (aZ.refl _) ⟨rfl, hO.ext, hO.at 0 (by kernel_rfl), by simp only [List.length_map]; exact hN.trans hN0⟩)
            refine aX aF 8 [] [(199, (aJ ((decide (a1 < aS)) && (decide (aS < bT)))))] ?_
            refine bN h0 (fun h0 => ?_) (fun h0 => ?_)
            · refine aT aF 6 ?_
              refine bO 5 ?_
              obtain ⟨x7, hx8, h0⟩ := aY h0
              refine nY [(lo0p, 2, List.map aC x7)] 0 (ih lo0p aA a1 aS bT _ hx8) hO ?_
              intro H hO hl9
              simp only [List.length_map] at hl9
              replace hN := hl9.trans hN
              refine cJ ?_
              refine cN (l := [(0, (.msl 2 lo0p 0 (List.length x7))), (3, (eI b3)), (4, (.fn (.func cmp4_f) cmp4_a cmp4_c)), (18, (eI bT)), (24, (eI dV))]) ⟨[(0, (.msl 2 lo0p 0 (List.length aA))), (3, (eI b3)), (4, (.fn (.func cmp4_f) cmp4_a cmp4_c)), (18, (eI bT)), (24, (eI dV))], by kernel_rfl, rfl, ⟨aZ.eq (by simp [hl9]), aZ.refl _, aZ.refl _, aZ.refl _, aZ.refl _, trivial⟩⟩ ?_
              exact aH (aG (⟨rfl, _, .eq (by kernel_rfl), hO, hN, h0⟩))
            refine bP ?_
            exact aH (aG (⟨rfl, _, .eq (by kernel_rfl), hO, hN, h0⟩))
          refine aX aF 8 [] [(185, (aJ ((decide (aS < m2)) && (decide (m2 < (wR (n19 - aS)))))))] ?_
          refine bN h0 (fun h0 => ?_) (fun h0 => ?_)
          · refine aT aF 6 ?_
            refine bO 5 ?_
            obtain ⟨x11, hx12, h0⟩ := aY h0
            refine nY [(lo0p, 2, List.map aC x11)] 0 (wJ lo0p aA aS m2 (wR (n19 - aS)) cmp4_f cmp4_a cmp4_c cmp4 cmp4_h _ hx12) hO ?_
            intro H hO hl13
            simp only [List.length_map] at hl13
            replace hN := hl13.trans hN
            refine cJ ?_
            refine cN (l := [(0, (.msl 2 lo0p 0 (List.length x11))), (1, (eI a1)), (3, (eI b3)), (4, (.fn (.func cmp4_f) cmp4_a cmp4_c)), (18, (eI bT)), (20, (eI aS)), (24, (eI (wR (n19 - aS))))]) ⟨[(0, (.msl 2 lo0p 0 (List.length aA))), (1, (eI a1)), (3, (eI b3)), (4, (.fn (.func cmp4_f) cmp4_a cmp4_c)), (18, (eI bT)), (20, (eI aS)), (24, (eI (wR (n19 - aS))))], by kernel_rfl, rfl, ⟨aZ.eq (by simp [hl13]), aZ.refl _, aZ.refl _, aZ.refl _, aZ.refl _, aZ.refl _, aZ.refl _, trivial⟩⟩ ?_
            exact aH (aG (⟨rfl, _, _, .eq (by kernel_rfl), hO, hN, h0⟩))
          refine bP ?_
          exact aH (aG (⟨rfl, _, _, .eq (by kernel_rfl), hO, hN, h0⟩))
        refine bR 8 ?_
        refine cR [(0, (.msl 2 lo0p 0 (List.length aA))), (1, (eI a1)), (2, (eI m2)), (3, (eI b3)), (4, (.fn (.func cmp4_f) cmp4_a cmp4_c)), (18, (eI bT)), (19, (eI n19)), (20, (eI aS)), (21, (eI r21)), (22, (eI (wR (n19 - (1 : Int)))))] ?_
        refine cK (fun T H => ∃ aA : List aB, ∃ aS : Int, ∃ r21 : Int, ∃ p22 : Int, Has T [(0, (.msl 2 lo0p 0 (List.length aA))), (1, (eI a1)), (2, (eI m2)), (3, (eI b3)), (4, (.fn (.func cmp4_f) cmp4_a cmp4_c)), (18, (eI bT)), (19, (eI n19)), (20, (eI aS)), (21, (eI r21)), (22, (eI p22))] ∧ aM ⟨H0, [lo0p], []⟩ H [(lo0p, 2, List.map aC aA)] ∧ List.length aA = N0 ∧ kR cmp4 rec aA a1 m2 b3 bT n19 aS r21 p22 = some r) ?_ ⟨aA, aS, r21, wR (n19 - (1 : Int)), .eq (by kernel_rfl), hO, hN, h0⟩
        clear hO hN h0
        rintro T H ⟨aA, aS, r21, p22, hT, hO, hN, h0⟩
        refine bD hT ?_
        clear hT
        unfold kR at h0
        obtain ⟨rr0, hl0, h0⟩ := aY h0
        refine cB (by kernel_rfl) (fun (s : List aB × Int × Int) T H => Has T [(0, (.msl 2 lo0p 0 (List.length s.1))), (1, (eI a1)), (2, (eI m2)), (3, (eI b3)), (4, (.fn (.func cmp4_f) cmp4_a cmp4_c)), (18, (eI bT)), (19, (eI n19)), (20, (eI s.2.1)), (21, (eI s.2.2)), (22, (eI p22))] ∧ aM ⟨H0, [lo0p], []⟩ H [(lo0p, 2, List.map aC s.1)] ∧ List.length s.1 = N0) hl0 ⟨.eq (by kernel_rfl), hO, hN⟩ ?_
        clear hO hN
        rintro k0 s out1 T H ⟨hT, hO, hN⟩ h1 ho0
        obtain ⟨aA, aS, r21⟩ := s
        replace h1 : kM cmp4 rec a1 m2 b3 bT n19 p22 aA aS r21 = some out1 := h1
        try dsimp only at hT
        refine bD hT ?_
        clear hT
        unfold kM at h1
        refine aP ?_
        refine aX aF 3 [] [(151, (aJ (decide (aS < r21))))] ?_
        refine bN h1 (fun h1 => ?_) (fun h1 => ?_)
        · refine bP ?_
          refine bG [(0, (.msl 2 lo0p 0 (List.length aA))), (1, (eI a1)), (2, (eI m2)), (3, (eI b3)), (4, (.fn (.func cmp4_f) cmp4_a cmp4_c)), (18, (eI bT)), (19, (eI n19)), (20, (eI aS)), (21, (eI r21)), (22, (eI p22))] ?_
          refine bR 9 ?_
          refine aP ?_
          refine aT aF 7 ?_
          obtain ⟨c15, h1⟩ := bK h1
          refine rG [0 ≤ (1 : Int)] ⟨c15, trivial⟩ ?_
          refine bS [] [(23, (eI (wR (Int.fdiv (IntKind.u64.wrap (wR (aS + r21))) (2 ^ (min (Int.toNat (1 : Int)) 64))))))] ?_
          refine aP ?_
          refine jF (jG [169]) aF 14 ?_
          obtain ⟨c16, h1⟩ := bK h1
          refine dN 6 [0 ≤ (wR (p22 - (wR (Int.fdiv (IntKind.u64.wrap (wR (aS + r21))) (2 ^ (min (Int.toNat (1 : Int)) 64)))))) ∧ (wR (p22 - (wR (Int.fdiv (IntKind.u64.wrap (wR (aS + r21))) (2 ^ (min (Int.toNat (1 : Int)) 64)))))) < (lN aA)] ⟨c16, trivial⟩ ?_
          refine kP 0 lo0p 2 (0 + Int.toNat (wR (p22 - (wR (Int.fdiv (IntKind.u64.wrap (wR (aS + r21))) (2 ^ (min (Int.toNat (1 : Int)) 64))))))) (aC (gD aA (wR (p22 - (wR (Int.fdiv (IntKind.u64.wrap (wR (aS + r21))) (2 ^ (min (Int.toNat (1 : Int)) 64)))))))) (aC (gD aA (wR (p22 - (wR (Int.fdiv (IntKind.u64.wrap (wR (aS + r21))) (2 ^ (min (Int.toNat (1 : Int)) 64)))))))) (List.map aC aA) hO (cQ c16) ?_
          obtain ⟨c17, h1⟩ := bK h1
          refine dN 10 [0 ≤ (wR (Int.fdiv (IntKind.u64.wrap (wR (aS + r21))) (2 ^ (min (Int.toNat (1 : Int)) 64)))) ∧ (wR (Int.fdiv (IntKind.u64.wrap (wR (aS + r21))) (2 ^ (min (Int.toNat (1 : Int)) 64)))) < (lN aA)] ⟨c17, trivial⟩ ?_
          refine kP 0 lo0p 2 (0 + Int.toNat (wR (Int.fdiv (IntKind.u64.wrap (wR (aS + r21))) (2 ^ (min (Int.toNat (1 : Int)) 64))))) (aC (gD aA (wR (Int.fdiv (IntKind.u64.wrap (wR (aS + r21))) (2 ^ (min (Int.toNat (1 : Int)) 64)))))) (aC (gD aA (wR (Int.fdiv (IntKind.u64.wrap (wR (aS + r21))) (2 ^ (min (Int.toNat (1 : Int)) 64)))))) (List.map aC aA) hO (cQ c17) ?_
          obtain ⟨x18, hx19, h1⟩ := aY h1
          refine xN (cmp4_h (gD aA (wR (p22 - (wR (Int.fdiv (IntKind.u64.wrap (wR (aS + r21))) (2 ^ (min (Int.toNat (1 : Int)) 64))))))) (gD aA (wR (Int.fdiv (IntKind.u64.wrap (wR (aS + r21))) (2 ^ (min (Int.toNat (1 : Int)) 64))))) _ hx19) hO ?_
          intro H hO
          refine pV ?_
          refine bS [] [(171, (aJ (!(decide (x18 < (0 : Int))))))] ?_
          refine bN h1 (fun h1 => ?_) (fun h1 => ?_)
          · refine aT aF 3 ?_
            refine bF ?_
            exact aH (aV (aG (⟨rfl, _, (oI h1).symm, .eq (by kernel_rfl), hO, hN⟩)))
          refine aT aF 2 ?_
          refine bF ?_
          exact aH (aV (aG (⟨rfl, _, (oI h1).symm, .eq (by kernel_rfl), hO, hN⟩)))
        refine dJ 8 ?_
        obtain rfl := oI h1
        obtain rfl : _ = rr0 := ho0
        replace h0 : fU cmp4 rec aA a1 m2 b3 bT n19 aS = some r := h0
        exact aH (aU (aU (bQ (aG (⟨rfl, _, _, .eq (by kernel_rfl), hO, hN, h0⟩)))))
      refine aX aF 3 [] [(140, (aJ (decide ((wR (Int.fdiv (IntKind.u64.wrap (wR (a1 + b3))) (2 ^ (min (Int.toNat (1 : Int)) 64)))) < m2))))] ?_
      refine bN h0 (fun h0 => ?_) (fun h0 => ?_)
      · refine bV aF 4 [(0, (.msl 2 lo0p 0 (List.length aA))), (1, (eI a1)), (2, (eI m2)), (3, (eI b3)), (4, (.fn (.func cmp4_f) cmp4_a cmp4_c)), (18, (eI (wR (Int.fdiv (IntKind.u64.wrap (wR (a1 + b3))) (2 ^ (min (Int.toNat (1 : Int)) 64)))))), (19, (eI (wR ((wR (Int.fdiv (IntKind.u64.wrap (wR (a1 + b3))) (2 ^ (min (Int.toNat (1 : Int)) 64)))) + m2)))), (20, (eI (wR ((wR ((wR (Int.fdiv (IntKind.u64.wrap (wR (a1 + b3))) (2 ^ (min (Int.toNat (1 : Int)) 64)))) + m2)) - b3))))] ?_
        refine aT aF 2 ?_
        refine bF ?_
        exact aH (aG (⟨rfl, _, _, _, _, _, .eq (by kernel_rfl), hO, hN, h0⟩))
      refine bV aF 2 [(0, (.msl 2 lo0p 0 (List.length aA))), (1, (eI a1)), (2, (eI m2)), (3, (eI b3)), (4, (.fn (.func cmp4_f) cmp4_a cmp4_c)), (18, (eI (wR (Int.fdiv (IntKind.u64.wrap (wR (a1 + b3))) (2 ^ (min (Int.toNat (1 : Int)) 64)))))), (19, (eI (wR ((wR (Int.fdiv (IntKind.u64.wrap (wR (a1 + b3))) (2 ^ (min (Int.toNat (1 : Int)) 64)))) + m2)))), (20, (eI a1))] ?_
      refine aT aF 2 ?_
      refine bF ?_
      exact aH (aG (⟨rfl, _, _, _, _, _, .eq (by kernel_rfl), hO, hN, h0⟩))
    refine aX aF 4 [] [(80, (aJ (decide ((wR (b3 - m2)) = (1 : Int)))))] ?_
    refine bN h0 (fun h0 => ?_) (fun h0 => ?_)
    · refine aX aF 2 [1, 3, 80] [(14, (eI a1))] ?_
      refine aX aF 2 [] [(15, (eI m2))] ?_
      refine cU (fun T H => ∃ aA : List aB, ∃ i14 : Int, Has T [(0, (.msl 2 lo0p 0 (List.length aA))), (2, (eI m2)), (14, (eI i14))] ∧ aM ⟨H0, [lo0p], []⟩ H [(lo0p, 2, List.map aC aA)] ∧ List.length aA = N0 ∧ fT cmp4 rec aA m2 i14 = some r) ?_ ?_
      · clear hO hN h0
        rintro T H ⟨aA, i14, hT, hO, hN, h0⟩
        refine bD hT ?_
        clear hT
        unfold fT at h0
        refine cU (fun T H => ∃ aA : List aB, Has T [(0, (.msl 2 lo0p 0 (List.length aA)))] ∧ aM ⟨H0, [lo0p], []⟩ H [(lo0p, 2, List.map aC aA)] ∧ List.length aA = N0 ∧ fW cmp4 rec aA = some r) ?_ ?_
        · clear hO hN h0
          rintro T H ⟨aA, hT, hO, hN, h0⟩
          refine bD hT ?_
          clear hT
          unfold fW at h0
          refine bM ?_
          obtain rfl := oI h0
          exact aH (bB (pQ (x := (.tup [])) (by kernel_rfl) (aZ.refl _) ⟨rfl, hO.ext, hO.at 0 (by kernel_rfl), by simp only [List.length_map]; exact hN.trans hN0⟩))
        refine aX aF 2 [2] [(17, (eI m2))] ?_
        refine bR 6 ?_
        refine cR [(0, (.msl 2 lo0p 0 (List.length aA))), (14, (eI i14)), (17, (eI m2))] ?_
        refine cK (fun T H => ∃ aA : List aB, ∃ k17 : Int, Has T [(0, (.msl 2 lo0p 0 (List.length aA))), (14, (eI i14)), (17, (eI k17))] ∧ aM ⟨H0, [lo0p], []⟩ H [(lo0p, 2, List.map aC aA)] ∧ List.length aA = N0 ∧ jW cmp4 rec aA i14 k17 = some r) ?_ ⟨aA, m2, .eq (by kernel_rfl), hO, hN, h0⟩
        clear hO hN h0
        rintro T H ⟨aA, k17, hT, hO, hN, h0⟩
        refine bD hT ?_
        clear hT
        unfold jW at h0
        obtain ⟨rr0, hl0, h0⟩ := aY h0
        refine cB (by kernel_rfl) (fun (s : List aB × Int) T H => Has T [(0, (.msl 2 lo0p 0 (List.length s.1))), (14, (eI i14)), (17, (eI s.2))] ∧ aM ⟨H0, [lo0p], []⟩ H [(lo0p, 2, List.map aC s.1)] ∧ List.length s.1 = N0) hl0 ⟨.eq (by kernel_rfl), hO, hN⟩ ?_
        clear hO hN
        rintro k0 s out1 T H ⟨hT, hO, hN⟩ h1 ho0
        obtain ⟨aA, k17⟩ := s
        replace h1 : jO cmp4 rec i14 aA k17 = some out1 := h1
        try dsimp only at hT
        refine bD hT ?_
        clear hT
        unfold jO at h1
        refine aP ?_
        refine aX aF 3 [] [(110, (aJ (decide (i14 < k17))))] ?_
        refine bN h1 (fun h1 => ?_) (fun h1 => ?_)
        · refine bP ?_
          refine bG [(0, (.msl 2 lo0p 0 (List.length aA))), (14, (eI i14)), (17, (eI k17))] ?_
          refine aP ?_
          refine bR 7 ?_
          refine jF (jG []) aF 18 ?_
          obtain ⟨c25, h1⟩ := bK h1
          refine dN 9 [0 ≤ (wR (k17 - (1 : Int))) ∧ (wR (k17 - (1 : Int))) < (lN aA)] ⟨c25, trivial⟩ ?_
          refine kP 0 lo0p 2 (0 + Int.toNat (wR (k17 - (1 : Int)))) (aC (gD aA (wR (k17 - (1 : Int))))) (aC (gD aA (wR (k17 - (1 : Int))))) (List.map aC aA) hO (cQ c25) ?_
          obtain ⟨c26, h1⟩ := bK h1
          refine dN 13 [0 ≤ k17 ∧ k17 < (lN aA)] ⟨c26, trivial⟩ ?_
          refine kP 0 lo0p 2 (0 + Int.toNat k17) (aC (gD aA k17)) (aC (gD aA k17)) (List.map aC aA) hO (cQ c26) ?_
          obtain ⟨c27, h1⟩ := bK h1
          refine dN 15 [0 ≤ k17 ∧ k17 < (lN aA)] ⟨c27, trivial⟩ ?_
          refine rF 0 lo0p 2 (0 + Int.toNat k17) (aC (gD aA k17)) (aC (gD aA (wR (k17 - (1 : Int))))) (List.map aC aA) [(lo0p, 2, List.map aC (List.set aA (Int.toNat k17) (gD aA (wR (k17 - (1 : Int))))))] hO (cQ c27) (by simp only [List.set, nN]) ?_
          intro H hO
          replace hN : List.length (List.set aA (Int.toNat k17) (gD aA (wR (k17 - (1 : Int))))) = N0 := by simpa using hN
          obtain ⟨c28, h1⟩ := bK h1
          refine dN 17 [0 ≤ (wR (k17 - (1 : Int))) ∧ (wR (k17 - (1 : Int))) < (lN aA)] ⟨c28, trivial⟩ ?_
          refine rF 0 lo0p 2 (0 + Int.toNat (wR (k17 - (1 : Int)))) (aC (gD (List.set aA (Int.toNat k17) (gD aA (wR (k17 - (1 : Int))))) (wR (k17 - (1 : Int))))) (aC (gD aA k17)) (List.map aC (List.set aA (Int.toNat k17) (gD aA (wR (k17 - (1 : Int)))))) [(lo0p, 2, List.map aC (List.set (List.set aA (Int.toNat k17) (gD aA (wR (k17 - (1 : Int))))) (Int.toNat (wR (k17 - (1 : Int)))) (gD aA k17)))] hO (wI c28 (by simp [])) (by simp only [List.set, nN]) ?_
          intro H hO
          replace hN : List.length (List.set (List.set aA (Int.toNat k17) (gD aA (wR (k17 - (1 : Int))))) (Int.toNat (wR (k17 - (1 : Int)))) (gD aA k17)) = N0 := by simpa using hN
          refine wT (by kernel_rfl) ?_
          refine cN (l := [(0, (.msl 2 lo0p 0 (List.length (List.set (List.set aA (Int.toNat k17) (gD aA (wR (k17 - (1 : Int))))) (Int.toNat (wR (k17 - (1 : Int)))) (gD aA k17))))), (14, (eI i14)), (17, (eI k17))]) ⟨[(0, (.msl 2 lo0p 0 (List.length aA))), (14, (eI i14)), (17, (eI k17))], by kernel_rfl, rfl, ⟨aZ.eq (by simp []), aZ.refl _, aZ.refl _, trivial⟩⟩ ?_
          refine aH (aV (aG (?_)))
          refine aT aF 3 ?_
          refine bF ?_
          exact aH (aG (⟨rfl, _, (oI h1).symm, .eq (by kernel_rfl), hO, hN⟩))
        refine dJ 6 ?_
        obtain rfl := oI h1
        obtain rfl : _ = rr0 := ho0
        replace h0 : fW cmp4 rec aA = some r := h0
        exact aH (aU (aU (bQ (aG (⟨rfl, _, .eq (by kernel_rfl), hO, hN, h0⟩)))))
      refine bR 4 ?_
      refine cR [(0, (.msl 2 lo0p 0 (List.length aA))), (2, (eI m2)), (4, (.fn (.func cmp4_f) cmp4_a cmp4_c)), (14, (eI a1)), (15, (eI m2))] ?_
      refine cK (fun T H => ∃ aA : List aB, ∃ i14 : Int, ∃ j15 : Int, Has T [(0, (.msl 2 lo0p 0 (List.length aA))), (2, (eI m2)), (4, (.fn (.func cmp4_f) cmp4_a cmp4_c)), (14, (eI i14)), (15, (eI j15))] ∧ aM ⟨H0, [lo0p], []⟩ H [(lo0p, 2, List.map aC aA)] ∧ List.length aA = N0 ∧ jT cmp4 rec aA m2 i14 j15 = some r) ?_ ⟨aA, a1, m2, .eq (by kernel_rfl), hO, hN, h0⟩
      clear hO hN h0
      rintro T H ⟨aA, i14, j15, hT, hO, hN, h0⟩
      refine bD hT ?_
      clear hT
      unfold jT at h0
      obtain ⟨rr0, hl0, h0⟩ := aY h0
      refine cB (by kernel_rfl) (fun (s : List aB × Int × Int) T H => Has T [(0, (.msl 2 lo0p 0 (List.length s.1))), (2, (eI m2)), (4, (.fn (.func cmp4_f) cmp4_a cmp4_c)), (14, (eI s.2.1)), (15, (eI s.2.2))] ∧ aM ⟨H0, [lo0p], []⟩ H [(lo0p, 2, List.map aC s.1)] ∧ List.length s.1 = N0) hl0 ⟨.eq (by kernel_rfl), hO, hN⟩ ?_
      clear hO hN
      rintro k0 s out1 T H ⟨hT, hO, hN⟩ h1 ho0
      obtain ⟨aA, i14, j15⟩ := s
      replace h1 : jP cmp4 rec m2 aA i14 j15 = some out1 := h1
      try dsimp only at hT
      refine bD hT ?_
      clear hT
      unfold jP at h1
      refine aP ?_
      refine aX aF 3 [] [(85, (aJ (decide (i14 < j15))))] ?_
      refine bN h1 (fun h1 => ?_) (fun h1 => ?_)
      · refine bP ?_
        refine bG [(0, (.msl 2 lo0p 0 (List.length aA))), (2, (eI m2)), (4, (.fn (.func cmp4_f) cmp4_a cmp4_c)), (14, (eI i14)), (15, (eI j15))] ?_
        refine bR 5 ?_
        refine aP ?_
        refine aT aF 7 ?_
        obtain ⟨c30, h1⟩ := bK h1
        refine rG [0 ≤ (1 : Int)] ⟨c30, trivial⟩ ?_
        refine bS [] [(16, (eI (wR (Int.fdiv (IntKind.u64.wrap (wR (i14 + j15))) (2 ^ (min (Int.toNat (1 : Int)) 64))))))] ?_
        refine aP ?_
        refine jF (jG [101]) aF 12 ?_
        obtain ⟨c31, h1⟩ := bK h1
        refine dN 4 [0 ≤ m2 ∧ m2 < (lN aA)] ⟨c31, trivial⟩ ?_
        refine kP 0 lo0p 2 (0 + Int.toNat m2) (aC (gD aA m2)) (aC (gD aA m2)) (List.map aC aA) hO (cQ c31) ?_
        obtain ⟨c32, h1⟩ := bK h1
        refine dN 8 [0 ≤ (wR (Int.fdiv (IntKind.u64.wrap (wR (i14 + j15))) (2 ^ (min (Int.toNat (1 : Int)) 64)))) ∧ (wR (Int.fdiv (IntKind.u64.wrap (wR (i14 + j15))) (2 ^ (min (Int.toNat (1 : Int)) 64)))) < (lN aA)] ⟨c32, trivial⟩ ?_
        refine kP 0 lo0p 2 (0 + Int.toNat (wR (Int.fdiv (IntKind.u64.wrap (wR (i14 + j15))) (2 ^ (min (Int.toNat (1 : Int)) 64))))) (aC (gD aA (wR (Int.fdiv (IntKind.u64.wrap (wR (i14 + j15))) (2 ^ (min (Int.toNat (1 : Int)) 64)))))) (aC (gD aA (wR (Int.fdiv (IntKind.u64.wrap (wR (i14 + j15))) (2 ^ (min (Int.toNat (1 : Int)) 64)))))) (List.map aC aA) hO (cQ c32) ?_
        obtain ⟨x33, hx34, h1⟩ := aY h1
        refine xN (cmp4_h (gD aA m2) (gD aA (wR (Int.fdiv (IntKind.u64.wrap (wR (i14 + j15))) (2 ^ (min (Int.toNat (1 : Int)) 64))))) _ hx34) hO ?_
        intro H hO
        refine pV ?_
        refine bS [] [(103, (aJ (!(decide (x33 < (0 : Int))))))] ?_
        refine bN h1 (fun h1 => ?_) (fun h1 => ?_)
        · refine aT aF 3 ?_
          refine bF ?_
          exact aH (aV (aG (⟨rfl, _, (oI h1).symm, .eq (by kernel_rfl), hO, hN⟩)))
        refine aT aF 2 ?_
        refine bF ?_
        exact aH (aV (aG (⟨rfl, _, (oI h1).symm, .eq (by kernel_rfl), hO, hN⟩)))
      refine dJ 4 ?_
      obtain rfl := oI h1
      obtain rfl : _ = rr0 := ho0
      replace h0 : fT cmp4 rec aA m2 i14 = some r := h0
      exact aH (aU (aU (bQ (aG (⟨rfl, _, _, .eq (by kernel_rfl), hO, hN, h0⟩)))))
    refine bP ?_
    exact aH (aG (⟨rfl, _, .eq (by kernel_rfl), hO, hN, h0⟩))
  refine aX aF 4 [] [(28, (aJ (decide ((wR (m2 - a1)) = (1 : Int)))))] ?_
  refine bN h0 (fun h0 => ?_) (fun h0 => ?_)
  · refine aX aF 2 [2, 28] [(10, (eI m2))] ?_
    refine aX aF 2 [3] [(11, (eI b3))] ?_
    refine cU (fun T H => ∃ aA : List aB, ∃ i10 : Int, Has T [(0, (.msl 2 lo0p 0 (List.length aA))), (1, (eI a1)), (10, (eI i10))] ∧ aM ⟨H0, [lo0p], []⟩ H [(lo0p, 2, List.map aC aA)] ∧ List.length aA = N0 ∧ fP cmp4 rec aA a1 i10 = some r) ?_ ?_
    · clear hO hN h0
      rintro T H ⟨aA, i10, hT, hO, hN, h0⟩
      refine bD hT ?_
      clear hT
      unfold fP at h0
      refine cU (fun T H => ∃ aA : List aB, Has T [(0, (.msl 2 lo0p 0 (List.length aA)))] ∧ aM ⟨H0, [lo0p], []⟩ H [(lo0p, 2, List.map aC aA)] ∧ List.length aA = N0 ∧ fR cmp4 rec aA = some r) ?_ ?_
      · clear hO hN h0
        rintro T H ⟨aA, hT, hO, hN, h0⟩
        refine bD hT ?_
        clear hT
        unfold fR at h0
        refine bM ?_
        obtain rfl := oI h0
        exact aH (bB (pQ (x := (.tup [])) (by kernel_rfl) (aZ.refl _) ⟨rfl, hO.ext, hO.at 0 (by kernel_rfl), by simp only [List.length_map]; exact hN.trans hN0⟩))
      refine aX aF 2 [1] [(13, (eI a1))] ?_
      refine bR 2 ?_
      refine cR [(0, (.msl 2 lo0p 0 (List.length aA))), (10, (eI i10)), (13, (eI a1))] ?_
      refine cK (fun T H => ∃ aA : List aB, ∃ k13 : Int, Has T [(0, (.msl 2 lo0p 0 (List.length aA))), (10, (eI i10)), (13, (eI k13))] ∧ aM ⟨H0, [lo0p], []⟩ H [(lo0p, 2, List.map aC aA)] ∧ List.length aA = N0 ∧ jN cmp4 rec aA i10 k13 = some r) ?_ ⟨aA, a1, .eq (by kernel_rfl), hO, hN, h0⟩
      clear hO hN h0
      rintro T H ⟨aA, k13, hT, hO, hN, h0⟩
      refine bD hT ?_
      clear hT
      unfold jN at h0
      obtain ⟨rr0, hl0, h0⟩ := aY h0
      refine cB (by kernel_rfl) (fun (s : List aB × Int) T H => Has T [(0, (.msl 2 lo0p 0 (List.length s.1))), (10, (eI i10)), (13, (eI s.2))] ∧ aM ⟨H0, [lo0p], []⟩ H [(lo0p, 2, List.map aC s.1)] ∧ List.length s.1 = N0) hl0 ⟨.eq (by kernel_rfl), hO, hN⟩ ?_
      clear hO hN
      rintro k0 s out1 T H ⟨hT, hO, hN⟩ h1 ho0
      obtain ⟨aA, k13⟩ := s
      replace h1 : kF cmp4 rec i10 aA k13 = some out1 := h1
      try dsimp only at hT
      refine bD hT ?_
      clear hT
      unfold kF at h1
      refine aP ?_
      refine aX aF 4 [] [(58, (aJ (decide (k13 < (wR (i10 - (1 : Int)))))))] ?_
      refine bN h1 (fun h1 => ?_) (fun h1 => ?_)
      · refine bP ?_
        refine bG [(0, (.msl 2 lo0p 0 (List.length aA))), (10, (eI i10)), (13, (eI k13))] ?_
        refine aP ?_
        refine bR 3 ?_
        refine jF (jG []) aF 18 ?_
        obtain ⟨c39, h1⟩ := bK h1
        refine dN 9 [0 ≤ (wR (k13 + (1 : Int))) ∧ (wR (k13 + (1 : Int))) < (lN aA)] ⟨c39, trivial⟩ ?_
        refine kP 0 lo0p 2 (0 + Int.toNat (wR (k13 + (1 : Int)))) (aC (gD aA (wR (k13 + (1 : Int))))) (aC (gD aA (wR (k13 + (1 : Int))))) (List.map aC aA) hO (cQ c39) ?_
        obtain ⟨c40, h1⟩ := bK h1
        refine dN 13 [0 ≤ k13 ∧ k13 < (lN aA)] ⟨c40, trivial⟩ ?_
        refine kP 0 lo0p 2 (0 + Int.toNat k13) (aC (gD aA k13)) (aC (gD aA k13)) (List.map aC aA) hO (cQ c40) ?_
        obtain ⟨c41, h1⟩ := bK h1
        refine dN 15 [0 ≤ k13 ∧ k13 < (lN aA)] ⟨c41, trivial⟩ ?_
        refine rF 0 lo0p 2 (0 + Int.toNat k13) (aC (gD aA k13)) (aC (gD aA (wR (k13 + (1 : Int))))) (List.map aC aA) [(lo0p, 2, List.map aC (List.set aA (Int.toNat k13) (gD aA (wR (k13 + (1 : Int))))))] hO (cQ c41) (by simp only [List.set, nN]) ?_
        intro H hO
        replace hN : List.length (List.set aA (Int.toNat k13) (gD aA (wR (k13 + (1 : Int))))) = N0 := by simpa using hN
        obtain ⟨c42, h1⟩ := bK h1
        refine dN 17 [0 ≤ (wR (k13 + (1 : Int))) ∧ (wR (k13 + (1 : Int))) < (lN aA)] ⟨c42, trivial⟩ ?_
        refine rF 0 lo0p 2 (0 + Int.toNat (wR (k13 + (1 : Int)))) (aC (gD (List.set aA (Int.toNat k13) (gD aA (wR (k13 + (1 : Int))))) (wR (k13 + (1 : Int))))) (aC (gD aA k13)) (List.map aC (List.set aA (Int.toNat k13) (gD aA (wR (k13 + (1 : Int)))))) [(lo0p, 2, List.map aC (List.set (List.set aA (Int.toNat k13) (gD aA (wR (k13 + (1 : Int))))) (Int.toNat (wR (k13 + (1 : Int)))) (gD aA k13)))] hO (wI c42 (by simp [])) (by simp only [List.set, nN]) ?_
        intro H hO
        replace hN : List.length (List.set (List.set aA (Int.toNat k13) (gD aA (wR (k13 + (1 : Int))))) (Int.toNat (wR (k13 + (1 : Int)))) (gD aA k13)) = N0 := by simpa using hN
        refine wT (by kernel_rfl) ?_
        refine cN (l := [(0, (.msl 2 lo0p 0 (List.length (List.set (List.set aA (Int.toNat k13) (gD aA (wR (k13 + (1 : Int))))) (Int.toNat (wR (k13 + (1 : Int)))) (gD aA k13))))), (10, (eI i10)), (13, (eI k13))]) ⟨[(0, (.msl 2 lo0p 0 (List.length aA))), (10, (eI i10)), (13, (eI k13))], by kernel_rfl, rfl, ⟨aZ.eq (by simp []), aZ.refl _, aZ.refl _, trivial⟩⟩ ?_
        refine aH (aV (aG (?_)))
        refine aT aF 3 ?_
        refine bF ?_
        exact aH (aG (⟨rfl, _, (oI h1).symm, .eq (by kernel_rfl), hO, hN⟩))
      refine dJ 2 ?_
      obtain rfl := oI h1
      obtain rfl : _ = rr0 := ho0
      replace h0 : fR cmp4 rec aA = some r := h0
      exact aH (aU (aU (bQ (aG (⟨rfl, _, .eq (by kernel_rfl), hO, hN, h0⟩)))))
    refine bR 0 ?_
    refine cR [(0, (.msl 2 lo0p 0 (List.length aA))), (1, (eI a1)), (4, (.fn (.func cmp4_f) cmp4_a cmp4_c)), (10, (eI m2)), (11, (eI b3))] ?_
    refine cK (fun T H => ∃ aA : List aB, ∃ i10 : Int, ∃ j11 : Int, Has T [(0, (.msl 2 lo0p 0 (List.length aA))), (1, (eI a1)), (4, (.fn (.func cmp4_f) cmp4_a cmp4_c)), (10, (eI i10)), (11, (eI j11))] ∧ aM ⟨H0, [lo0p], []⟩ H [(lo0p, 2, List.map aC aA)] ∧ List.length aA = N0 ∧ kG cmp4 rec aA a1 i10 j11 = some r) ?_ ⟨aA, m2, b3, .eq (by kernel_rfl), hO, hN, h0⟩
    clear hO hN h0
    rintro T H ⟨aA, i10, j11, hT, hO, hN, h0⟩
    refine bD hT ?_
    clear hT
    unfold kG at h0
    obtain ⟨rr0, hl0, h0⟩ := aY h0
    refine cB (by kernel_rfl) (fun (s : List aB × Int × Int) T H => Has T [(0, (.msl 2 lo0p 0 (List.length s.1))), (1, (eI a1)), (4, (.fn (.func cmp4_f) cmp4_a cmp4_c)), (10, (eI s.2.1)), (11, (eI s.2.2))] ∧ aM ⟨H0, [lo0p], []⟩ H [(lo0p, 2, List.map aC s.1)] ∧ List.length s.1 = N0) hl0 ⟨.eq (by kernel_rfl), hO, hN⟩ ?_
    clear hO hN
    rintro k0 s out1 T H ⟨hT, hO, hN⟩ h1 ho0
    obtain ⟨aA, i10, j11⟩ := s
    replace h1 : kB cmp4 rec a1 aA i10 j11 = some out1 := h1
    try dsimp only at hT
    refine bD hT ?_
    clear hT
    unfold kB at h1
    refine aP ?_
    refine aX aF 3 [] [(33, (aJ (decide (i10 < j11))))] ?_
    refine bN h1 (fun h1 => ?_) (fun h1 => ?_)
    · refine bP ?_
      refine bG [(0, (.msl 2 lo0p 0 (List.length aA))), (1, (eI a1)), (4, (.fn (.func cmp4_f) cmp4_a cmp4_c)), (10, (eI i10)), (11, (eI j11))] ?_
      refine bR 1 ?_
      refine aP ?_
      refine aT aF 7 ?_
      obtain ⟨c44, h1⟩ := bK h1
      refine rG [0 ≤ (1 : Int)] ⟨c44, trivial⟩ ?_
      refine bS [] [(12, (eI (wR (Int.fdiv (IntKind.u64.wrap (wR (i10 + j11))) (2 ^ (min (Int.toNat (1 : Int)) 64))))))] ?_
      refine aP ?_
      refine jF (jG [49]) aF 11 ?_
      obtain ⟨c45, h1⟩ := bK h1
      refine dN 4 [0 ≤ (wR (Int.fdiv (IntKind.u64.wrap (wR (i10 + j11))) (2 ^ (min (Int.toNat (1 : Int)) 64)))) ∧ (wR (Int.fdiv (IntKind.u64.wrap (wR (i10 + j11))) (2 ^ (min (Int.toNat (1 : Int)) 64)))) < (lN aA)] ⟨c45, trivial⟩ ?_
      refine kP 0 lo0p 2 (0 + Int.toNat (wR (Int.fdiv (IntKind.u64.wrap (wR (i10 + j11))) (2 ^ (min (Int.toNat (1 : Int)) 64))))) (aC (gD aA (wR (Int.fdiv (IntKind.u64.wrap (wR (i10 + j11))) (2 ^ (min (Int.toNat (1 : Int)) 64)))))) (aC (gD aA (wR (Int.fdiv (IntKind.u64.wrap (wR (i10 + j11))) (2 ^ (min (Int.toNat (1 : Int)) 64)))))) (List.map aC aA) hO (cQ c45) ?_
      obtain ⟨c46, h1⟩ := bK h1
      refine dN 8 [0 ≤ a1 ∧ a1 < (lN aA)] ⟨c46, trivial⟩ ?_
      refine kP 0 lo0p 2 (0 + Int.toNat a1) (aC (gD aA a1)) (aC (gD aA a1)) (List.map aC aA) hO (cQ c46) ?_
      obtain ⟨x47, hx48, h1⟩ := aY h1
      refine xN (cmp4_h (gD aA (wR (Int.fdiv (IntKind.u64.wrap (wR (i10 + j11))) (2 ^ (min (Int.toNat (1 : Int)) 64))))) (gD aA a1) _ hx48) hO ?_
      intro H hO
      refine pV ?_
      refine bS [] [(50, (aJ (decide (x47 < (0 : Int)))))] ?_
      refine bN h1 (fun h1 => ?_) (fun h1 => ?_)
      · refine aT aF 3 ?_
        refine bF ?_
        exact aH (aV (aG (⟨rfl, _, (oI h1).symm, .eq (by kernel_rfl), hO, hN⟩)))
      refine aT aF 2 ?_
      refine bF ?_
      exact aH (aV (aG (⟨rfl, _, (oI h1).symm, .eq (by kernel_rfl), hO, hN⟩)))
    refine dJ 0 ?_
    obtain rfl := oI h1
    obtain rfl : _ = rr0 := ho0
    replace h0 : fP cmp4 rec aA a1 i10 = some r := h0
    exact aH (aU (aU (bQ (aG (⟨rfl, _, _, .eq (by kernel_rfl), hO, hN, h0⟩)))))
  refine bP ?_
  exact aH (aG (⟨rfl, _, .eq (by kernel_rfl), hO, hN, h0⟩))

theorem nQ (cmp4_f : Nat) (cmp4_a cmp4_c : List V) (cmp4 : aB → aB → Option Int) (cmp4_h : ∀ a0 a1 r, cmp4 a0 a1 = some r → bW Try.prog cmp4_f (cmp4_a ++ [(aC a0), (aC a1)] ++ cmp4_c) (eI r)) : ∀ (k : Nat) (lo0p : Nat) (aA : (List aB)) (a1 : Int) (m2 : Int) (b3 : Int) (r : List aB), fY cmp4 k aA a1 m2 b3 = some r → kV Try.prog 141 lo0p 2 (List.map aC aA) (List.map aC r) [(.msl 2 lo0p 0 (List.length aA)), (eI a1), (eI m2), (eI b3), (.fn (.func cmp4_f) cmp4_a cmp4_c)] (.tup [])
  | 0, _, _, _, _, _, _, h => by cases h
  | k + 1, lo0p, aA, a1, m2, b3, r, h => sR cmp4_f cmp4_a cmp4_c cmp4 cmp4_h _ (nQ cmp4_f cmp4_a cmp4_c cmp4 cmp4_h k) lo0p aA a1 m2 b3 r h

theorem oG (lo0p : Nat) (aA : (List aB)) (a1 : Int) (m2 : Int) (b3 : Int) (cmp4_f : Nat) (cmp4_a cmp4_c : List V) (cmp4 : aB → aB → Option Int) (cmp4_h : ∀ a0 a1 r, cmp4 a0 a1 = some r → bW Try.prog cmp4_f (cmp4_a ++ [(aC a0), (aC a1)] ++ cmp4_c) (eI r)) (r : List aB) (h0 : eG aA a1 m2 b3 cmp4 = some r) : kV Try.prog 141 lo0p 2 (List.map aC aA) (List.map aC r) [(.msl 2 lo0p 0 (List.length aA)), (eI a1), (eI m2), (eI b3), (.fn (.func cmp4_f) cmp4_a cmp4_c)] (.tup []) := by
  obtain ⟨k, hk⟩ := EI h0
  exact nQ cmp4_f cmp4_a cmp4_c cmp4 cmp4_h k lo0p aA a1 m2 b3 r hk

end Go.Abs
