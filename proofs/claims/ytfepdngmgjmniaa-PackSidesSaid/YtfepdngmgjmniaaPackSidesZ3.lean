/- What the law PackSides stands on: the framework, the given functions as plain functions, their walks, and the plain laws; part 3. -/
import Derived.Test.YtfepdngmgjmniaaPackSidesZ2
set_option linter.unusedSimpArgs false
set_option linter.unusedVariables false
namespace Go.Abs
open Go
noncomputable def sE (l0 : (List aI)) : Option ((List aC) × Int) :=
  (dA l0 (fun y0 => sH y0)).bind fun x1 =>
  cond x1
  (some ([], (2 : Int)))
  (cond (decide ((4096 : Int) < ((List.length l0 : Nat) : Int)))
  (some ([], (7 : Int)))
  (bK (0 ≤ (IntKind.i64.wrap ((2 : Int) * ((List.length l0 : Nat) : Int))) ∧ (40 : Int) * (IntKind.i64.wrap ((2 : Int) * ((List.length l0 : Nat) : Int))) ≤ 281474976710656 ∧ (IntKind.i64.wrap ((2 : Int) * ((List.length l0 : Nat) : Int))) ≤ 9223372036854775807) <|
  xL ([] : List aC) l0 ((List.length l0 : Nat) : Int) (0 : Int)))

noncomputable def qC (uS : (List aA) → Option Bool) (kK : (List aC)) (t4 : Bool) (pF : (List aG)) (jK : Bool) (t14 : (List aG)) (t15 : (List aA)) : Option ((Bool × (List aG) × Bool) ⊕ (Bool × (List aG) × Bool)) :=
  (rC t14).bind fun x7 =>
  (cV (jK && (!(!x7))) (qP pF t14)).bind fun x12 =>
  (cV (!((!x7) || (jK && (decide ((0 : Int) ≤ x12))))) (uS t15)).bind fun x15 =>
  cond (((!x7) || (jK && (decide ((0 : Int) ≤ x12)))) || (!x15))
  (some (.inr (false, pF, jK)))
  (some (.inl (t4, t14, true)))

noncomputable def zI (uS : (List aA) → Option Bool) (t4 : Bool) (pF : (List aG)) (jK : Bool) (kK : (List aC)) : Option Bool :=
  (mT (fun st t14 t15 => rnd (fun (s : Bool × (List aG) × Bool) => qC uS kK s.1 s.2.1 s.2.2 t14 t15) st) kK (.inl (t4, pF, jK))).bind (Sum.elim (fun (s : Bool × (List aG) × Bool) =>
  (some true))
  (fun (s : Bool × (List aG) × Bool) =>
  (some s.1)))

noncomputable def tW (l0 : (List aC)) (uS : (List aA) → Option Bool) : Option Bool :=
  cond (decide ((4096 : Int) < ((List.length l0 : Nat) : Int)))
  (some false)
  ((pN l0).bind fun x5 =>
  zI uS false ([]) false x5)

noncomputable def sS (l0 : (List aC)) : Option Bool :=
  (tW l0 (fun y0 => oN y0)).bind fun x1 =>
  some x1

noncomputable def tF (fH : Int) : Option Int :=
  some fH

noncomputable def nN (t24 : (List aA)) (t25 : Int) (v3 : Int) (fH : Int) (t26 : Int) : Option ((Int × Int × Int) ⊕ (Int)) :=
  cond (decide (t26 < t25))
  (bK (0 ≤ t26 ∧ t26 < ((List.length t24 : Nat) : Int)) <|
  some (.inl (IntKind.i64.wrap (v3 + ((List.getD t24 (Int.toNat t26) default).Net)), if (IntKind.i64.wrap (v3 + ((List.getD t24 (Int.toNat t26) default).Net))) < fH then (IntKind.i64.wrap (v3 + ((List.getD t24 (Int.toNat t26) default).Net))) else fH, IntKind.i64.wrap (t26 + (1 : Int)))))
  (some (.inr fH))

noncomputable def tQ (v3 : Int) (fH : Int) (t24 : (List aA)) (t25 : Int) (t26 : Int) : Option Int :=
  (lp (fun s => nN t24 t25 s.1 s.2.1 s.2.2) (v3, fH, t26)).bind (fun rr => tF rr)

noncomputable def qW (f0 : (List aA)) (v3 : Int) (fH : Int) : Option Int :=
  tQ v3 fH f0 ((List.length f0 : Nat) : Int) (0 : Int)

noncomputable def vL (f0 : (List aA)) : Option Int :=
  (oN f0).bind fun x1 =>
  cond ((!x1) || (decide (((List.length f0 : Nat) : Int) = (0 : Int))))
  (some (0 : Int))
  (bK (0 ≤ (0 : Int) ∧ (0 : Int) < ((List.length f0 : Nat) : Int)) <|
  cond (decide (((List.getD f0 (Int.toNat (0 : Int)) default).At) = (-1 : Int)))
  (bK (0 ≤ (0 : Int) ∧ (0 : Int) < ((List.length f0 : Nat) : Int)) <|
  qW f0 (0 : Int) ((List.getD f0 (Int.toNat (0 : Int)) default).Net))
  (qW f0 (0 : Int) (0 : Int)))

noncomputable def rW (f0 : (List aA)) : Option Bool :=
  (oN f0).bind fun x1 =>
  (cV x1 (vL f0)).bind fun x4 =>
  some (x1 && (decide ((0 : Int) ≤ x4)))

noncomputable def vE (l0 : (List aC)) : Option Bool :=
  (tW l0 (fun y0 => rW y0)).bind fun x1 =>
  some x1

noncomputable def qR (l0 : (List aC)) : Option ((List aC)) :=
  some l0

noncomputable def jW {σ : Type} (eM : σ → (List aG) → (List aA) → Option (σ × Bool)) (t9c0 : (List aC)) (sg : σ) (t10 : (List aG)) (t11 : (List aA)) : Option ((σ) ⊕ (σ)) :=
  (eM sg t10 t11).bind fun x7 =>
  cond (!x7.2)
  (some (.inr x7.1))
  (some (.inl x7.1))

noncomputable def rD {σ : Type} (eM : σ → (List aG) → (List aA) → Option (σ × Bool)) (sg : σ) (t9c0 : (List aC)) : Option σ :=
  (mT (fun st t10 t11 => rnd (fun (s : σ) => jW eM t9c0 s t10 t11) st) t9c0 (.inl sg)).bind (Sum.elim (fun (s : σ) =>
  (some s))
  (fun (s : σ) =>
  (some s)))

noncomputable def nF {σ : Type} (eM : σ → (List aG) → (List aA) → Option (σ × Bool)) (t1 : (List aC)) (sg0 : σ) : Option σ :=
  (sS t1).bind fun x1 =>
  cond (!x1)
  (some sg0)
  ((pN t1).bind fun x5 =>
  rD eM sg0 x5)

noncomputable def vB (n3 : Int) : Option Int :=
  some n3

noncomputable def oP (t6 : (List aA)) (t7 : Int) (n3 : Int) (t8 : Int) : Option ((Int × Int) ⊕ (Int)) :=
  cond (decide (t8 < t7))
  (bK (0 ≤ t8 ∧ t8 < ((List.length t6 : Nat) : Int)) <|
  some (.inl (IntKind.i64.wrap (n3 + (if (0 : Int) > ((List.getD t6 (Int.toNat t8) default).Net) then (0 : Int) else ((List.getD t6 (Int.toNat t8) default).Net))), IntKind.i64.wrap (t8 + (1 : Int)))))
  (some (.inr n3))

noncomputable def yZ (n3 : Int) (t6 : (List aA)) (t7 : Int) (t8 : Int) : Option Int :=
  (lp (fun s => oP t6 t7 s.1 s.2) (n3, t8)).bind (fun rr => vB rr)

noncomputable def rN (f0 : (List aA)) : Option Int :=
  yZ (0 : Int) f0 ((List.length f0 : Nat) : Int) (0 : Int)

noncomputable def mE (t0 : Int) (t1 : (List aR)) (t2 : Int) : Option ((List aR) × Int) :=
  bK (0 ≤ t2 ∧ t2 < ((List.length t1 : Nat) : Int)) <|
  some (List.set t1 (Int.toNat t2) (aR.mk (List.getD t1 (Int.toNat t2) default).From t0), IntKind.i64.wrap (t2 + (1 : Int)))

noncomputable def xJ (out3 : List aR) : Option (List aR) :=
  some out3

noncomputable def lW  (out3 : List aR) (bZ : Int) : Option ((List aR × Int) ⊕ ((List aR))) :=
  cond (decide (bZ < ((List.length out3 : Nat) : Int)))
  ((mE (1125899906842624 : Int) out3 bZ).bind fun x14 =>
  some (.inl (x14.1, x14.2)))
  (some (.inr out3))

noncomputable def xK (out3 : List aR) (bZ : Int) : Option (List aR) :=
  (lp (fun s => lW s.1 s.2) (out3, bZ)).bind (fun rr => xJ rr)

noncomputable def tS (out3 : List aR) (bZ : Int) : Option (List aR) :=
  xK out3 bZ

noncomputable def tN (out3 : List aR) (bZ : Int) (t12 : (List aA)) (t13 : Int) (t14 : Int) : Option ((List aR × Int × Int) ⊕ ((List aR × Int))) :=
  some (.inl (out3, bZ, IntKind.i64.wrap (t14 + (1 : Int))))

noncomputable def lY (t12 : (List aA)) (t13 : Int) (t14 : Int) (t31 : Int) (out3 : List aR) (bZ : Int) (j7 : aA) (t32 : Int) : Option ((List aR × Int × aA × Int) ⊕ ((List aR × Int))) :=
  cond (decide (t32 < t31))
  ((mE j7.At out3 bZ).bind fun x30 =>
  some (.inl (x30.1, x30.2, j7, IntKind.i64.wrap (t32 + (1 : Int)))))
  (some (.inr (out3, bZ)))

noncomputable def xC (out3 : List aR) (bZ : Int) (j7 : aA) (t12 : (List aA)) (t13 : Int) (t14 : Int) (t31 : Int) (t32 : Int) : Option ((List aR × Int × Int) ⊕ ((List aR × Int))) :=
  (lp (fun s => lY t12 t13 t14 t31 s.1 s.2.1 s.2.2.1 s.2.2.2) (out3, bZ, j7, t32)).bind (fun rr => tN rr.1 rr.2 t12 t13 t14)

noncomputable def tH (out3 : List aR) (bZ : Int) (j7 : aA) (t12 : (List aA)) (t13 : Int) (t14 : Int) : Option ((List aR × Int × Int) ⊕ ((List aR × Int))) :=
  xC out3 bZ j7 t12 t13 t14 (IntKind.i64.wrap (0 - j7.Net)) (0 : Int)

noncomputable def lX (t12 : (List aA)) (t13 : Int) (t14 : Int) (t19 : Int) (out3 : List aR) (bZ : Int) (j7 : aA) (t20 : Int) : Option ((List aR × Int × aA × Int) ⊕ ((List aR × Int × aA))) :=
  cond (decide (t20 < t19))
  (bK ((List.length out3 + List.length ([aR.mk j7.At 0])) * 16 ≤ 140737488355328 ∧ List.length out3 + List.length ([aR.mk j7.At 0]) ≤ 9223372036854775807) <|
  some (.inl (out3 ++ ([aR.mk j7.At 0]), bZ, j7, IntKind.i64.wrap (t20 + (1 : Int)))))
  (some (.inr (out3, bZ, j7)))

noncomputable def xG (out3 : List aR) (bZ : Int) (j7 : aA) (t12 : (List aA)) (t13 : Int) (t14 : Int) (t19 : Int) (t20 : Int) : Option ((List aR × Int × Int) ⊕ ((List aR × Int))) :=
  (lp (fun s => lX t12 t13 t14 t19 s.1 s.2.1 s.2.2.1 s.2.2.2) (out3, bZ, j7, t20)).bind (fun rr => tH rr.1 rr.2.1 rr.2.2 t12 t13 t14)

noncomputable def nO (t12 : (List aA)) (t13 : Int) (out3 : List aR) (bZ : Int) (t14 : Int) : Option ((List aR × Int × Int) ⊕ ((List aR × Int))) :=
  cond (decide (t14 < t13))
  (bK (0 ≤ t14 ∧ t14 < ((List.length t12 : Nat) : Int)) <|
  xG out3 bZ (List.getD t12 (Int.toNat t14) default) t12 t13 t14 ((List.getD t12 (Int.toNat t14) default).Net) (0 : Int))
  (some (.inr (out3, bZ)))

noncomputable def xN (out3 : List aR) (bZ : Int) (t12 : (List aA)) (t13 : Int) (t14 : Int) : Option (List aR) :=
  (lp (fun s => nO t12 t13 s.1 s.2.1 s.2.2) (out3, bZ, t14)).bind (fun rr => tS rr.1 rr.2)

noncomputable def uW (f0 : (List aA)) : Option (List aR) :=
  (rN f0).bind fun x1 =>
  bK (0 ≤ x1 ∧ (16 : Int) * x1 ≤ 281474976710656 ∧ x1 ≤ 9223372036854775807) <|
  xN ([] : List aR) (0 : Int) f0 ((List.length f0 : Nat) : Int) (0 : Int)

noncomputable def oG (l0 : (List aC)) (vW : (List aC)) (n4 : Int) (t22 : (List aG)) (t23 : (List aA)) : Option ((Int) ⊕ (Int)) :=
  (rN t23).bind fun x12 =>
  some (.inl (IntKind.i64.wrap (n4 + x12)))

noncomputable def mI (r8 : (List aG)) (t37 : (List aR)) (t38 : Int) (out7 : List aI) (t39 : Int) : Option ((List aI × Int) ⊕ ((List aI))) :=
  cond (decide (t39 < t38))
  (bK (0 ≤ t39 ∧ t39 < ((List.length t37 : Nat) : Int)) <|
  (pI r8).bind fun x31 =>
  bK ((List.length out7 + List.length ([aI.mk x31 (List.getD t37 (Int.toNat t39) default)])) * 40 ≤ 140737488355328 ∧ List.length out7 + List.length ([aI.mk x31 (List.getD t37 (Int.toNat t39) default)]) ≤ 9223372036854775807) <|
  some (.inl (out7 ++ ([aI.mk x31 (List.getD t37 (Int.toNat t39) default)]), IntKind.i64.wrap (t39 + (1 : Int)))))
  (some (.inr out7))

noncomputable def sG (out7 : List aI) (r8 : (List aG)) (t37 : (List aR)) (t38 : Int) (t39 : Int) : Option ((List aI) ⊕ (List aI)) :=
  (lp (fun s => mI r8 t37 t38 s.1 s.2) (out7, t39)).bind (fun rr => some (.inl rr))

noncomputable def nY (vQ : (List aC)) (out7 : List aI) (t34 : (List aG)) (t35 : (List aA)) : Option ((List aI) ⊕ (List aI)) :=
  (uW t35).bind fun x23 =>
  sG out7 t34 x23 ((List.length x23 : Nat) : Int) (0 : Int)

noncomputable def sJ (out7 : List aI) (vQ : (List aC)) : Option ((List aI) × Int) :=
  (nF (fun st t34 t35 => rnd (fun (s : List aI) => nY vQ s t34 t35) st) vQ (.inl out7)).bind (Sum.elim (fun (s : List aI) =>
  (some (s, (0 : Int))))
  (fun (s : List aI) =>
  (none)))

noncomputable def vS (l0 : (List aC)) (n4 : Int) (vW : (List aC)) : Option ((List aI) × Int) :=
  (nF (fun st t22 t23 => rnd (fun (s : Int) => oG l0 vW s t22 t23) st) vW (.inl n4)).bind (Sum.elim (fun (s : Int) =>
  (cond (decide ((4096 : Int) < s))
  (some ([], (7 : Int)))
  (bK (0 ≤ s ∧ (40 : Int) * s ≤ 281474976710656 ∧ s ≤ 9223372036854775807) <|
  (qR l0).bind fun x20 =>
  sJ ([] : List aI) x20)))
  (fun (s : Int) =>
  (none)))

noncomputable def qO (l0 : (List aC)) : Option ((List aI) × Int) :=
  (sS l0).bind fun x1 =>
  cond (!x1)
  (some ([], (2 : Int)))
  ((vE l0).bind fun x5 =>
  cond (!x5)
  (some ([], (20 : Int)))
  ((qR l0).bind fun x10 =>
  vS l0 (0 : Int) x10))

noncomputable def oL (l0 : (List aI)) : Option ((List aI) × Int) :=
  (sE l0).bind fun x1 =>
  cond (!decide (x1.2 = (0 : Int)))
  (some ([], x1.2))
  ((qO x1.1).bind fun x5 =>
  some (x5.1, x5.2))

noncomputable def cF (eq2 : aI → aI → Option Bool)  : Option Bool :=
  some true

noncomputable def bX (eq2 : aI → aI → Option Bool) (s21 : (List aI)) (t15 : (List aI)) (t16 : Int) (t17 : Int) : Option ((Int) ⊕ (Unit ⊕ Bool)) :=
  cond (decide (t17 < t16))
  (bK (0 ≤ t17 ∧ t17 < ((List.length t15 : Nat) : Int)) <|
  bK (0 ≤ t17 ∧ t17 < ((List.length s21 : Nat) : Int)) <|
  (eq2 (List.getD t15 (Int.toNat t17) default) (List.getD s21 (Int.toNat t17) default)).bind fun x7 =>
  cond (!x7)
  (some (.inr (.inr false)))
  (some (.inl (IntKind.i64.wrap (t17 + (1 : Int))))))
  (some (.inr (.inl ())))

noncomputable def cL (eq2 : aI → aI → Option Bool) (s21 : (List aI)) (t15 : (List aI)) (t16 : Int) (t17 : Int) : Option Bool :=
  (lp (fun s => bX eq2 s21 t15 t16 s) t17).bind (Sum.elim (fun rr => cF eq2 ) (fun rr => some rr))

noncomputable def cM (s10 : (List aI)) (s21 : (List aI)) (eq2 : aI → aI → Option Bool) : Option Bool :=
  cond (!decide (((List.length s10 : Nat) : Int) = ((List.length s21 : Nat) : Int)))
  (some false)
  (cL eq2 s21 s10 ((List.length s10 : Nat) : Int) (0 : Int))

noncomputable def oY (x0 : aI) (y1 : aI) : Option Bool :=
  (cV ((decide (x0.Span.From = y1.Span.From)) && ((decide (x0.Span.To = y1.Span.To)) && true)) (vY x0.Row y1.Row)).bind fun x1 =>
  some (((decide (x0.Span.From = y1.Span.From)) && ((decide (x0.Span.To = y1.Span.To)) && true)) && x1)

noncomputable def tX (a0 : (List aI)) (b1 : (List aI)) : Option Bool :=
  (cM a0 b1 (fun y0 y1 => oY y0 y1)).bind fun x1 =>
  some x1

noncomputable def tD  : Option Bool :=
  some true

noncomputable def qT (a0 : (List aG)) (b1 : (List aG)) (i5 : Int) : Option ((Int) ⊕ (Unit ⊕ Bool)) :=
  cond (decide (i5 < ((List.length a0 : Nat) : Int)))
  (bK (0 ≤ i5 ∧ i5 < ((List.length a0 : Nat) : Int)) <|
  bK (0 ≤ i5 ∧ i5 < ((List.length b1 : Nat) : Int)) <|
  cond (!((decide (((List.getD a0 (Int.toNat i5) default).Kind) = ((List.getD b1 (Int.toNat i5) default).Kind))) && ((decide (((List.getD a0 (Int.toNat i5) default).Num) = ((List.getD b1 (Int.toNat i5) default).Num))) && ((pH ((List.getD a0 (Int.toNat i5) default).Text) ((List.getD b1 (Int.toNat i5) default).Text)) && true))))
  (some (.inr (.inr false)))
  (some (.inl (IntKind.i64.wrap (i5 + (1 : Int))))))
  (some (.inr (.inl ())))

noncomputable def xM (a0 : (List aG)) (b1 : (List aG)) (i5 : Int) : Option Bool :=
  (lp (fun s => qT a0 b1 s) i5).bind (Sum.elim (fun rr => tD ) (fun rr => some rr))

noncomputable def uV (a0 : (List aG)) (b1 : (List aG)) : Option Bool :=
  cond (!decide (((List.length a0 : Nat) : Int) = ((List.length b1 : Nat) : Int)))
  (some false)
  (xM a0 b1 (0 : Int))

noncomputable def tI  : Option Bool :=
  some true

noncomputable def qM (a0 : (List aI)) (b1 : (List aI)) (i5 : Int) : Option ((Int) ⊕ (Unit ⊕ Bool)) :=
  cond (decide (i5 < ((List.length a0 : Nat) : Int)))
  (bK (0 ≤ i5 ∧ i5 < ((List.length a0 : Nat) : Int)) <|
  bK (0 ≤ i5 ∧ i5 < ((List.length b1 : Nat) : Int)) <|
  bK ((((!(!((decide ((((List.getD a0 (Int.toNat i5) default).Span).From) = (((List.getD b1 (Int.toNat i5) default).Span).From))) && ((decide ((((List.getD a0 (Int.toNat i5) default).Span).To) = (((List.getD b1 (Int.toNat i5) default).Span).To))) && true))))) = true → 0 ≤ i5 ∧ i5 < ((List.length a0 : Nat) : Int))) <|
  bK ((((!(!((decide ((((List.getD a0 (Int.toNat i5) default).Span).From) = (((List.getD b1 (Int.toNat i5) default).Span).From))) && ((decide ((((List.getD a0 (Int.toNat i5) default).Span).To) = (((List.getD b1 (Int.toNat i5) default).Span).To))) && true))))) = true → 0 ≤ i5 ∧ i5 < ((List.length b1 : Nat) : Int))) <|
  (cV (!(!((decide ((((List.getD a0 (Int.toNat i5) default).Span).From) = (((List.getD b1 (Int.toNat i5) default).Span).From))) && ((decide ((((List.getD a0 (Int.toNat i5) default).Span).To) = (((List.getD b1 (Int.toNat i5) default).Span).To))) && true)))) (uV ((List.getD a0 (Int.toNat i5) default).Row) ((List.getD b1 (Int.toNat i5) default).Row))).bind fun x7 =>
  cond ((!((decide ((((List.getD a0 (Int.toNat i5) default).Span).From) = (((List.getD b1 (Int.toNat i5) default).Span).From))) && ((decide ((((List.getD a0 (Int.toNat i5) default).Span).To) = (((List.getD b1 (Int.toNat i5) default).Span).To))) && true))) || (!x7))
  (some (.inr (.inr false)))
  (some (.inl (IntKind.i64.wrap (i5 + (1 : Int))))))
  (some (.inr (.inl ())))

noncomputable def xE (a0 : (List aI)) (b1 : (List aI)) (i5 : Int) : Option Bool :=
  (lp (fun s => qM a0 b1 s) i5).bind (Sum.elim (fun rr => tI ) (fun rr => some rr))

noncomputable def mX (a0 : (List aI)) (b1 : (List aI)) : Option Bool :=
  cond (!decide (((List.length a0 : Nat) : Int) = ((List.length b1 : Nat) : Int)))
  (some false)
  (xE a0 b1 (0 : Int))

noncomputable def pY  : Option Bool :=
  (jX (5 : Int) (9 : Int)).bind fun x1 =>
  (jX (2 : Int) (5 : Int)).bind fun x4 =>
  (oL ([x1, x4])).bind fun x7 =>
  (jX (1 : Int) (10 : Int)).bind fun x10 =>
  (jX (3 : Int) (5 : Int)).bind fun x13 =>
  (oL ([x10, x13])).bind fun x16 =>
  (cV ((decide (x7.2 = (0 : Int))) && (decide (x16.2 = (0 : Int)))) (jX (2 : Int) (9 : Int))).bind fun x19 =>
  (cV ((decide (x7.2 = (0 : Int))) && (decide (x16.2 = (0 : Int)))) (tX x7.1 ([x19]))).bind fun x22 =>
  (cV (((decide (x7.2 = (0 : Int))) && (decide (x16.2 = (0 : Int)))) && x22) (jX (1 : Int) (5 : Int))).bind fun x25 =>
  (cV (((decide (x7.2 = (0 : Int))) && (decide (x16.2 = (0 : Int)))) && x22) (jX (3 : Int) (10 : Int))).bind fun x28 =>
  (cV (((decide (x7.2 = (0 : Int))) && (decide (x16.2 = (0 : Int)))) && x22) (mX x16.1 ([x25, x28]))).bind fun x31 =>
  (cV ((((decide (x7.2 = (0 : Int))) && (decide (x16.2 = (0 : Int)))) && x22) && x31) (jX (-1 : Int) (0 : Int))).bind fun x34 =>
  (cV ((((decide (x7.2 = (0 : Int))) && (decide (x16.2 = (0 : Int)))) && x22) && x31) (sX x34)).bind fun x37 =>
  (cV (((((decide (x7.2 = (0 : Int))) && (decide (x16.2 = (0 : Int)))) && x22) && x31) && x37) (jX (3 : Int) (3 : Int))).bind fun x40 =>
  (cV (((((decide (x7.2 = (0 : Int))) && (decide (x16.2 = (0 : Int)))) && x22) && x31) && x37) (sX x40)).bind fun x43 =>
  some ((((((decide (x7.2 = (0 : Int))) && (decide (x16.2 = (0 : Int)))) && x22) && x31) && x37) && (!x43))

noncomputable def pW (x0 : Int) (y1 : Int) : Option Bool :=
  (jM x0).bind fun x1 =>
  (cV x1 (jM y1)).bind fun x4 =>
  some ((x1 && (!x4)) || (decide (x0 < y1)))

noncomputable def tJ (out5 : List aI) : Option (List aI) :=
  some out5

noncomputable def qS (t1 : Int) (out5 : List aI) (t9 : (List aI)) (t10 : Int) (t11 : Int) : Option ((List aI × Int) ⊕ ((List aI))) :=
  some (.inl (out5, IntKind.i64.wrap (t11 + (1 : Int))))

noncomputable def nK (t1 : Int) (t9 : (List aI)) (t10 : Int) (out5 : List aI) (t11 : Int) : Option ((List aI × Int) ⊕ ((List aI))) :=
  cond (decide (t11 < t10))
  (bK (0 ≤ t11 ∧ t11 < ((List.length t9 : Nat) : Int)) <|
  (pW (((List.getD t9 (Int.toNat t11) default).Span).From) t1).bind fun x9 =>
  cond x9
  ((pI ((List.getD t9 (Int.toNat t11) default).Row)).bind fun x13 =>
  bK ((List.length out5 + List.length ([aI.mk x13 (aR.mk (((List.getD t9 (Int.toNat t11) default).Span).From) (if t1 < (((List.getD t9 (Int.toNat t11) default).Span).To) then t1 else (((List.getD t9 (Int.toNat t11) default).Span).To)))])) * 40 ≤ 140737488355328 ∧ List.length out5 + List.length ([aI.mk x13 (aR.mk (((List.getD t9 (Int.toNat t11) default).Span).From) (if t1 < (((List.getD t9 (Int.toNat t11) default).Span).To) then t1 else (((List.getD t9 (Int.toNat t11) default).Span).To)))]) ≤ 9223372036854775807) <|
  qS t1 (out5 ++ ([aI.mk x13 (aR.mk (((List.getD t9 (Int.toNat t11) default).Span).From) (if t1 < (((List.getD t9 (Int.toNat t11) default).Span).To) then t1 else (((List.getD t9 (Int.toNat t11) default).Span).To)))])) t9 t10 t11)
  (qS t1 out5 t9 t10 t11))
  (some (.inr out5))

noncomputable def xB (t1 : Int) (out5 : List aI) (t9 : (List aI)) (t10 : Int) (t11 : Int) : Option (List aI) :=
  (lp (fun s => nK t1 t9 t10 s.1 s.2) (out5, t11)).bind (fun rr => tJ rr)

noncomputable def vC (l0 : (List aI)) (t1 : Int) : Option (List aI) :=
  xB t1 ([] : List aI) l0 ((List.length l0 : Nat) : Int) (0 : Int)

noncomputable def vN (out5 : List aI) : Option (List aI) :=
  some out5

noncomputable def rX (t1 : Int) (out5 : List aI) (t9 : (List aI)) (t10 : Int) (t11 : Int) : Option ((List aI × Int) ⊕ ((List aI))) :=
  some (.inl (out5, IntKind.i64.wrap (t11 + (1 : Int))))

noncomputable def oT (t1 : Int) (t9 : (List aI)) (t10 : Int) (out5 : List aI) (t11 : Int) : Option ((List aI × Int) ⊕ ((List aI))) :=
  cond (decide (t11 < t10))
  (bK (0 ≤ t11 ∧ t11 < ((List.length t9 : Nat) : Int)) <|
  (pW t1 (((List.getD t9 (Int.toNat t11) default).Span).To)).bind fun x9 =>
  cond x9
  ((pI ((List.getD t9 (Int.toNat t11) default).Row)).bind fun x13 =>
  bK ((List.length out5 + List.length ([aI.mk x13 (aR.mk (if t1 > (((List.getD t9 (Int.toNat t11) default).Span).From) then t1 else (((List.getD t9 (Int.toNat t11) default).Span).From)) (((List.getD t9 (Int.toNat t11) default).Span).To))])) * 40 ≤ 140737488355328 ∧ List.length out5 + List.length ([aI.mk x13 (aR.mk (if t1 > (((List.getD t9 (Int.toNat t11) default).Span).From) then t1 else (((List.getD t9 (Int.toNat t11) default).Span).From)) (((List.getD t9 (Int.toNat t11) default).Span).To))]) ≤ 9223372036854775807) <|
  rX t1 (out5 ++ ([aI.mk x13 (aR.mk (if t1 > (((List.getD t9 (Int.toNat t11) default).Span).From) then t1 else (((List.getD t9 (Int.toNat t11) default).Span).From)) (((List.getD t9 (Int.toNat t11) default).Span).To))])) t9 t10 t11)
  (rX t1 out5 t9 t10 t11))
  (some (.inr out5))

noncomputable def zH (t1 : Int) (out5 : List aI) (t9 : (List aI)) (t10 : Int) (t11 : Int) : Option (List aI) :=
  (lp (fun s => oT t1 t9 t10 s.1 s.2) (out5, t11)).bind (fun rr => vN rr)

noncomputable def wQ (l0 : (List aI)) (t1 : Int) : Option (List aI) :=
  zH t1 ([] : List aI) l0 ((List.length l0 : Nat) : Int) (0 : Int)

noncomputable def yP (l0 : (List aC)) (by1 : (List aA) → Option ((List aA) × Int)) : Option ((List aC) × Int) :=
  (sS l0).bind fun x1 =>
  cond (!x1)
  (some ([], (2 : Int)))
  ((qV l0 by1).bind fun x5 =>
  some (x5.1, x5.2))

noncomputable def tC (out6 : List aA) : Option ((List aA) × Int) :=
  (rL out6).bind fun x12 =>
  some (x12.1, x12.2)

noncomputable def qX (t1 : Int) (out6 : List aA) (v7 : Int) : Option ((List aA) × Int) :=
  cond (!decide (v7 = (0 : Int)))
  (bK ((List.length out6 + List.length ([aA.mk t1 (IntKind.i64.wrap (0 - v7))])) * 16 ≤ 140737488355328 ∧ List.length out6 + List.length ([aA.mk t1 (IntKind.i64.wrap (0 - v7))]) ≤ 9223372036854775807) <|
  tC (out6 ++ ([aA.mk t1 (IntKind.i64.wrap (0 - v7))])))
  (tC out6)

noncomputable def jY (t1 : Int) (t18 : (List aA)) (t19 : Int) (out6 : List aA) (v7 : Int) (t20 : Int) : Option ((List aA × Int × Int) ⊕ ((List aA × Int))) :=
  cond (decide (t20 < t19))
  (bK (0 ≤ t20 ∧ t20 < ((List.length t18 : Nat) : Int)) <|
  cond (decide (t1 ≤ ((List.getD t18 (Int.toNat t20) default).At)))
  (some (.inr (out6, v7)))
  (bK ((List.length out6 + List.length ([List.getD t18 (Int.toNat t20) default])) * 16 ≤ 140737488355328 ∧ List.length out6 + List.length ([List.getD t18 (Int.toNat t20) default]) ≤ 9223372036854775807) <|
  some (.inl (out6 ++ ([List.getD t18 (Int.toNat t20) default]), IntKind.i64.wrap (v7 + ((List.getD t18 (Int.toNat t20) default).Net)), IntKind.i64.wrap (t20 + (1 : Int))))))
  (some (.inr (out6, v7)))

noncomputable def xO (t1 : Int) (out6 : List aA) (v7 : Int) (t18 : (List aA)) (t19 : Int) (t20 : Int) : Option ((List aA) × Int) :=
  (lp (fun s => jY t1 t18 t19 s.1 s.2.1 s.2.2) (out6, v7, t20)).bind (fun rr => qX t1 rr.1 rr.2)

noncomputable def vJ (f0 : (List aA)) (t1 : Int) : Option ((List aA) × Int) :=
  (oN f0).bind fun x1 =>
  cond (!x1)
  (some ([], (2 : Int)))
  (cond (decide ((1125899906842624 : Int) ≤ t1))
  ((cO f0).bind fun x6 =>
  some (x6, (0 : Int)))
  (xO t1 ([] : List aA) (0 : Int) f0 ((List.length f0 : Nat) : Int) (0 : Int)))

noncomputable def pS (f0 : (List aA)) (t1 : Int) : Option ((List aA) × Int) :=
  (vJ f0 t1).bind fun x1 =>
  some (x1.1, x1.2)

noncomputable def vH (l0 : (List aC)) (t1 : Int) : Option ((List aC) × Int) :=
  (yP l0 (fun y0 => pS y0 t1)).bind fun x1 =>
  some (x1.1, x1.2)

noncomputable def rT (l0 : (List aI)) (t1 : Int) : Option Bool :=
  cond (((decide ((500 : Int) < ((List.length l0 : Nat) : Int))) || (decide (t1 < (0 : Int)))) || (decide ((1125899906842624 : Int) < t1)))
  ((pY ).bind fun x2 =>
  some x2)
  ((oL l0).bind fun x5 =>
  cond (!decide (x5.2 = (0 : Int)))
  ((pY ).bind fun x9 =>
  some x9)
  ((sE x5.1).bind fun x12 =>
  (vH x12.1 t1).bind fun x15 =>
  (qO x15.1).bind fun x18 =>
  (vC x5.1 t1).bind fun x21 =>
  (oL x21).bind fun x24 =>
  (wQ x5.1 t1).bind fun x27 =>
  (oL x27).bind fun x30 =>
  cond (((!decide (x12.2 = (0 : Int))) || (!decide (x24.2 = (0 : Int)))) || (!decide (x30.2 = (0 : Int))))
  (some false)
  ((cV ((decide (x15.2 = (0 : Int))) && (decide (x18.2 = (0 : Int)))) (mX x18.1 x21)).bind fun x34 =>
  cond (((decide (x15.2 = (0 : Int))) && (decide (x18.2 = (0 : Int)))) && (!x34))
  (some false)
  ((pY ).bind fun x38 =>
  (cV x38 (mX x24.1 x21)).bind fun x41 =>
  (cV (x38 && x41) (mX x30.1 x27)).bind fun x44 =>
  some ((x38 && x41) && x44)))))

end Go.Abs
namespace Go.Abs
open Go Go.RowKit
def CO (x : aG) : Prop := DV x.Kind ∧ DV x.Num ∧ (fun s => s.size ≤ maxLen) x.Text ∧ True

def AF (x : aR) : Prop := DV x.From ∧ DV x.To ∧ True

def uP (x : aI) : Prop := (fun l => (∀ a ∈ l, CO a) ∧ l.length * 32 ≤ 140737488351232) x.Row ∧ AF x.Span ∧ True

end Go.Abs
namespace Go.Abs
open Go Go.RowKit Go.Proofs
noncomputable def tt : TT := ⟨ZM Try.prog, TA Try.prog⟩

theorem aH : eS Try.prog tt := eS.of Try.prog

theorem oM (oV : Int) (to1 : Int) (r : aI) (h0 : jX oV to1 = some r) : bS Try.prog 44 [(eI oV), (eI to1)] (aF r) := by
  intro H0
  refine EI aH Try.func44 (by kernel_rfl) (by kernel_rfl) (by kernel_rfl) ?_
  have hO := aO.start H0
  unfold jX at h0
  refine aQ ?_
  refine aT aH 1 ?_
  refine qD 3 (.agg [(.sl true 0 (fun _ => .bad)), (eI 0), (eI 0)]) (aF (aI.mk ([]) (aR.mk 0 0))) (by kernel_rfl) (by kernel_rfl) (by kernel_rfl) (CR (xs := [(.sl true 0 (fun _ => .bad)), (eI 0), (eI 0)]) (ys := [(eL aM ([])), (eI 0), (eI 0)]) ⟨fG, aX.refl _, aX.refl _, trivial⟩) (by kernel_rfl) (by kernel_rfl) hO ?_
  intro lo1 H hO
  refine cJ ?_
  refine bP [] [(4, (.lp lo1 0 0))] ?_
  refine aQ ?_
  refine aT aH 7 ?_
  refine bH 1 ?_
  refine rV (xs := [(aM (aG.mk (1 : Int) (1 : Int) ByteArray.empty))]) (k := 3) (by kernel_rfl) (by kernel_rfl) ?_
  refine bH 6 ?_
  refine jJ 0 lo1 3 0 (aF (aI.mk ([]) (aR.mk 0 0))) (.agg [(dW [(aM (aG.mk (1 : Int) (1 : Int) ByteArray.empty))]), (eI ((aR.mk oV to1).From)), (eI ((aR.mk oV to1).To))]) [(aF (aI.mk ([]) (aR.mk 0 0)))] [(lo1, 3, [(.agg [(dW [(aM (aG.mk (1 : Int) (1 : Int) ByteArray.empty))]), (eI ((aR.mk oV to1).From)), (eI ((aR.mk oV to1).To))])])] hO rfl (by kernel_rfl) ?_
  intro H hO
  refine cJ ?_
  refine KR 0 lo1 3 (.agg [(dW [(aM (aG.mk (1 : Int) (1 : Int) ByteArray.empty))]), (eI ((aR.mk oV to1).From)), (eI ((aR.mk oV to1).To))]) (aF (aI.mk ([aG.mk (1 : Int) (1 : Int) ByteArray.empty]) (aR.mk oV to1))) [(lo1, 3, [(aF (aI.mk ([aG.mk (1 : Int) (1 : Int) ByteArray.empty]) (aR.mk oV to1)))])] hO (by kernel_rfl) (by kernel_rfl) (CR (xs := [(dW [(aM (aG.mk (1 : Int) (1 : Int) ByteArray.empty))]), (eI ((aR.mk oV to1).From)), (eI ((aR.mk oV to1).To))]) (ys := [(eL aM ([aG.mk (1 : Int) (1 : Int) ByteArray.empty])), (eI ((aR.mk oV to1).From)), (eI ((aR.mk oV to1).To))]) ⟨EF (l := [aG.mk (1 : Int) (1 : Int) ByteArray.empty]), aX.refl _, aX.refl _, trivial⟩) (by kernel_rfl) ?_
  intro H hO
  refine bD [(4, (.lp lo1 0 0))] ?_
  refine bI ?_
  obtain rfl := oI h0
  exact aK (QM0 (.inr rfl) (rs := [.cell 4 32]) (xs := [(aF (aI.mk ([aG.mk (1 : Int) (1 : Int) ByteArray.empty]) (aR.mk oV to1)))]) (x := (aF (aI.mk ([aG.mk (1 : Int) (1 : Int) ByteArray.empty]) (aR.mk oV to1)))) (by kernel_rfl) (yE (lo := lo1) (k := 3) (y := (aF (aI.mk ([aG.mk (1 : Int) (1 : Int) ByteArray.empty]) (aR.mk oV to1)))) (x := (aF (aI.mk ([aG.mk (1 : Int) (1 : Int) ByteArray.empty]) (aR.mk oV to1)))) 0 hO (by kernel_rfl) (by kernel_rfl) (by kernel_rfl) (by kernel_rfl) rZ) (by kernel_rfl) ⟨rfl, hO.out⟩)

theorem tZ (s0 : (List aI)) (f1_f : Nat) (f1_a f1_c : List V) (f1 : aI → Option Bool) (f1_h : ∀ a0 r, f1 a0 = some r → bS Try.prog f1_f (f1_a ++ [(aF a0)] ++ f1_c) (aL r)) (r : Int) (h0 : fE s0 f1 = some r) : bS Try.prog 116 [(eL aF s0), (.fn (.func f1_f) f1_a f1_c)] (eI r) := by
  intro H0
  refine cI Try.func116 ?_
  have hO := aO.start H0
  unfold fE at h0
  refine aY aH 1 [] [] ?_
  refine dG (fun T H => Has T [] ∧ aO ⟨H0, [], []⟩ H [] ∧ dH f1  = some r) ?_ ?_
  · clear hO h0
    rintro T H ⟨hT, hO, h0⟩
    refine bB hT ?_
    clear hT
    unfold dH at h0
    refine bV aH 1 [(4, (eI (-1 : Int)))] ?_
    refine bI ?_
    obtain rfl := oI h0
    exact aK (Q_r hO)
  refine aY aH 3 [] [(7, (eI (lN s0))), (8, (eI (0 : Int)))] ?_
  refine bR 0 ?_
  refine cW [(0, (eL aF s0)), (1, (.fn (.func f1_f) f1_a f1_c)), (7, (eI (lN s0))), (8, (eI (0 : Int)))] ?_
  refine cP (fun T H => ∃ t7 : Int, ∃ t8 : Int, Has T [(0, (eL aF s0)), (1, (.fn (.func f1_f) f1_a f1_c)), (7, (eI t7)), (8, (eI t8))] ∧ aO ⟨H0, [], []⟩ H [] ∧ eX f1 s0 t7 t8 = some r) ?_ ⟨(lN s0), (0 : Int), .eq (by kernel_rfl), hO, h0⟩
  clear hO h0
  rintro T H ⟨t7, t8, hT, hO, h0⟩
  refine bB hT ?_
  clear hT
  unfold eX at h0
  obtain ⟨rr0, hl0, h0⟩ := aU h0
  refine cD (by kernel_rfl) (fun (s : Int) T H => Has T [(0, (eL aF s0)), (1, (.fn (.func f1_f) f1_a f1_c)), (7, (eI t7)), (8, (eI s))] ∧ aO ⟨H0, [], []⟩ H []) hl0 ⟨.eq (by kernel_rfl), hO⟩ ?_
  clear hO
  rintro k0 s out1 T H ⟨hT, hO⟩ h1 ho0
  obtain ⟨t8, rfl⟩ : ∃ x, x = s := ⟨_, rfl⟩
  replace h1 : eV f1 s0 t7 t8 = some out1 := h1
  refine bB hT ?_
  clear hT
  unfold eV at h1
  refine aY aH 1 [] [(9, (aL (decide (t8 < t7))))] ?_
  refine aQ ?_
  refine bL h1 (fun h1 => ?_) (fun h1 => ?_)
  · refine bN ?_
    refine bD [(0, (eL aF s0)), (1, (.fn (.func f1_f) f1_a f1_c)), (7, (eI t7)), (8, (eI t8))] ?_
    refine aQ ?_
    refine bR 1 ?_
    refine aY aH 2 [] [(5, (eI t8))] ?_
    refine aQ ?_
    refine aT aH 6 ?_
    obtain ⟨c2, h1⟩ := bM h1
    refine sC 5 [0 ≤ t8 ∧ t8 < (lN s0)] ⟨c2, trivial⟩ ?_
    obtain ⟨x3, hx4, h1⟩ := aU h1
    refine cH (f1_h (gD s0 t8) _ hx4) hO ?_
    intro H hO
    refine cJ ?_
    refine bP [] [(16, (aL x3))] ?_
    refine bL h1 (fun h1 => ?_) (fun h1 => ?_)
    · refine bV aH 2 [(4, (eI t8))] ?_
      refine bI ?_
      obtain rfl := oI h1
      obtain rfl : _ = rr0 := ho0
      replace h0 : some t8 = some r := h0
      obtain rfl := oI h0
      exact aK (bY (bA (bA (bY (bA (Q_r hO))))))
    refine bN ?_
    refine dK [(0, (eL aF s0)), (1, (.fn (.func f1_f) f1_a f1_c)), (7, (eI t7)), (8, (eI t8))] ?_
    refine aK (aZ (aJ (?_)))
    refine aT aH 2 ?_
    refine bC ?_
    exact aK (aJ (⟨rfl, _, (oI h1).symm, .eq (by kernel_rfl), hO⟩))
  refine eC 0 ?_
  obtain rfl := oI h1
  obtain rfl : _ = rr0 := ho0
  replace h0 : dH f1  = some r := h0
  exact aK (aW (aW (bO (aJ (⟨rfl, .eq (by kernel_rfl), hO, h0⟩)))))

theorem sN (s0 : (List aI)) (f1_f : Nat) (f1_a f1_c : List V) (f1 : aI → Option Bool) (f1_h : ∀ a0 r, f1 a0 = some r → bS Try.prog f1_f (f1_a ++ [(aF a0)] ++ f1_c) (aL r)) (r : Bool) (h0 : dA s0 f1 = some r) : bS Try.prog 74 [(eL aF s0), (.fn (.func f1_f) f1_a f1_c)] (aL r) := by
  intro H0
  refine cI Try.func74 ?_
  have hO := aO.start H0
  unfold dA at h0
  refine aY aH 1 [] [] ?_
  refine aQ ?_
  refine aT aH 5 ?_
  refine bH 2 ?_
  obtain ⟨x1, hx2, h0⟩ := aU h0
  refine cH (tZ s0 f1_f f1_a f1_c f1 f1_h _ hx2) hO ?_
  intro H hO
  refine bC ?_
  refine bD [(4, (aL (decide ((0 : Int) ≤ x1))))] ?_
  refine bI ?_
  obtain rfl := oI h0
  exact aK (Q_r hO)

theorem vF (s0 : (List aG)) (f1_f : Nat) (f1_a f1_c : List V) (f1 : aG → Option Bool) (f1_h : ∀ a0 r, f1 a0 = some r → bS Try.prog f1_f (f1_a ++ [(aM a0)] ++ f1_c) (aL r)) (r : Int) (h0 : fQ s0 f1 = some r) : bS Try.prog 100 [(eL aM s0), (.fn (.func f1_f) f1_a f1_c)] (eI r) := by
  intro H0
  refine cI Try.func100 ?_
  have hO := aO.start H0
  unfold fQ at h0
  refine aY aH 1 [] [] ?_
  refine dG (fun T H => Has T [] ∧ aO ⟨H0, [], []⟩ H [] ∧ dS f1  = some r) ?_ ?_
  · clear hO h0
    rintro T H ⟨hT, hO, h0⟩
    refine bB hT ?_
    clear hT
    unfold dS at h0
    refine bV aH 1 [(4, (eI (-1 : Int)))] ?_
    refine bI ?_
    obtain rfl := oI h0
    exact aK (Q_r hO)
  refine aY aH 3 [] [(7, (eI (lN s0))), (8, (eI (0 : Int)))] ?_
  refine bR 0 ?_
  refine cW [(0, (eL aM s0)), (1, (.fn (.func f1_f) f1_a f1_c)), (7, (eI (lN s0))), (8, (eI (0 : Int)))] ?_
  refine cP (fun T H => ∃ t7 : Int, ∃ t8 : Int, Has T [(0, (eL aM s0)), (1, (.fn (.func f1_f) f1_a f1_c)), (7, (eI t7)), (8, (eI t8))] ∧ aO ⟨H0, [], []⟩ H [] ∧ fM f1 s0 t7 t8 = some r) ?_ ⟨(lN s0), (0 : Int), .eq (by kernel_rfl), hO, h0⟩
  clear hO h0
  rintro T H ⟨t7, t8, hT, hO, h0⟩
  refine bB hT ?_
  clear hT
  unfold fM at h0
  obtain ⟨rr0, hl0, h0⟩ := aU h0
  refine cD (by kernel_rfl) (fun (s : Int) T H => Has T [(0, (eL aM s0)), (1, (.fn (.func f1_f) f1_a f1_c)), (7, (eI t7)), (8, (eI s))] ∧ aO ⟨H0, [], []⟩ H []) hl0 ⟨.eq (by kernel_rfl), hO⟩ ?_
  clear hO
  rintro k0 s out1 T H ⟨hT, hO⟩ h1 ho0
  obtain ⟨t8, rfl⟩ : ∃ x, x = s := ⟨_, rfl⟩
  replace h1 : fP f1 s0 t7 t8 = some out1 := h1
  refine bB hT ?_
  clear hT
  unfold fP at h1
  refine aY aH 1 [] [(9, (aL (decide (t8 < t7))))] ?_
  refine aQ ?_
  refine bL h1 (fun h1 => ?_) (fun h1 => ?_)
  · refine bN ?_
    refine bD [(0, (eL aM s0)), (1, (.fn (.func f1_f) f1_a f1_c)), (7, (eI t7)), (8, (eI t8))] ?_
    refine aQ ?_
    refine bR 1 ?_
    refine aY aH 2 [] [(5, (eI t8))] ?_
    refine aQ ?_
    refine aT aH 6 ?_
    obtain ⟨c2, h1⟩ := bM h1
    refine sC 5 [0 ≤ t8 ∧ t8 < (lN s0)] ⟨c2, trivial⟩ ?_
    obtain ⟨x3, hx4, h1⟩ := aU h1
    refine cH (f1_h (gD s0 t8) _ hx4) hO ?_
    intro H hO
    refine cJ ?_
    refine bP [] [(16, (aL x3))] ?_
    refine bL h1 (fun h1 => ?_) (fun h1 => ?_)
    · refine bV aH 2 [(4, (eI t8))] ?_
      refine bI ?_
      obtain rfl := oI h1
      obtain rfl : _ = rr0 := ho0
      replace h0 : some t8 = some r := h0
      obtain rfl := oI h0
      exact aK (bY (bA (bA (bY (bA (Q_r hO))))))
    refine bN ?_
    refine dK [(0, (eL aM s0)), (1, (.fn (.func f1_f) f1_a f1_c)), (7, (eI t7)), (8, (eI t8))] ?_
    refine aK (aZ (aJ (?_)))
    refine aT aH 2 ?_
    refine bC ?_
    exact aK (aJ (⟨rfl, _, (oI h1).symm, .eq (by kernel_rfl), hO⟩))
  refine eC 0 ?_
  obtain rfl := oI h1
  obtain rfl : _ = rr0 := ho0
  replace h0 : dS f1  = some r := h0
  exact aK (aW (aW (bO (aJ (⟨rfl, .eq (by kernel_rfl), hO, h0⟩)))))

theorem tK (s0 : (List aG)) (f1_f : Nat) (f1_a f1_c : List V) (f1 : aG → Option Bool) (f1_h : ∀ a0 r, f1 a0 = some r → bS Try.prog f1_f (f1_a ++ [(aM a0)] ++ f1_c) (aL r)) (r : Bool) (h0 : dI s0 f1 = some r) : bS Try.prog 96 [(eL aM s0), (.fn (.func f1_f) f1_a f1_c)] (aL r) := by
  intro H0
  refine cI Try.func96 ?_
  have hO := aO.start H0
  unfold dI at h0
  refine aY aH 1 [] [] ?_
  refine aQ ?_
  refine aT aH 5 ?_
  refine bH 2 ?_
  obtain ⟨x1, hx2, h0⟩ := aU h0
  refine cH (vF s0 f1_f f1_a f1_c f1 f1_h _ hx2) hO ?_
  intro H hO
  refine bC ?_
  refine bD [(4, (aL (decide ((0 : Int) ≤ x1))))] ?_
  refine bI ?_
  obtain rfl := oI h0
  exact aK (Q_r hO)

theorem yX (v0 : aG) (r : (bG × Bool)) (h0 : lV v0 = some r) : bS Try.prog 126 [(aM v0)] (.tup [(bE r.1), (aL r.2)]) := by
  intro H0
  refine cI Try.func126 ?_
  have hO := aO.start H0
  unfold lV at h0
  refine aQ ?_
  refine aT aH 3 ?_
  refine gW 3 (aM v0) (by kernel_rfl) (by kernel_rfl) ?_
  refine bC ?_
  refine bD [(1, (.rp (aM v0)))] ?_
  refine aQ ?_
  refine bR 0 ?_
  refine aY aH 9 [] [(4, (aL ((decide (v0.Kind = (1 : Int))) && (pH v0.Text (⟨#[]⟩ : ByteArray)))))] ?_
  refine bL h0 (fun h0 => ?_) (fun h0 => ?_)
  · refine bV aH 5 [(2, (bE (bG.k_number v0.Num))), (3, (aL true))] ?_
    refine bI ?_
    obtain rfl := oI h0
    exact aK (bY (bA (Q_r hO)))
  refine aY aH 15 [4] [(16, (aL (((decide (v0.Kind = (2 : Int))) && (decide (v0.Num = (0 : Int)))) && (decide (((ByteArray.size v0.Text : Nat) : Int) ≤ (64 : Int))))))] ?_
  refine bL h0 (fun h0 => ?_) (fun h0 => ?_)
  · refine bV aH 5 [(2, (bE (bG.k_words v0.Text))), (3, (aL true))] ?_
    refine bI ?_
    obtain rfl := oI h0
    exact aK (bY (bA (Q_r hO)))
  refine bN ?_
  refine dK [] ?_
  refine aK (aZ (aJ (?_)))
  refine bV aH 2 [(2, (bE bG.none_)), (3, (aL false))] ?_
  refine bI ?_
  obtain rfl := oI h0
  exact aK (Q_r hO)

theorem VI (v0 : aG) (r : Bool) (h0 : wU v0 = some r) : bS Try.prog 98 [(aM v0)] (aL r) := by
  intro H0
  refine cI Try.func98 ?_
  have hO := aO.start H0
  unfold wU at h0
  refine aQ ?_
  refine aT aH 2 ?_
  refine gW 3 (aM v0) (by kernel_rfl) (by kernel_rfl) ?_
  refine bC ?_
  refine bD [(1, (.rp (aM v0)))] ?_
  refine aQ ?_
  refine aT aH 7 ?_
  refine bH 1 ?_
  obtain ⟨⟨x1_0, x1_1⟩, hx2, h0⟩ := aU h0
  refine cH (yX v0 _ hx2) hO ?_
  intro H hO
  rcases x1_0 with _ | y4 | y5
  · replace h0 : (some x1_1) = some r := h0
    refine bC ?_
    refine bD [(4, (aL x1_1))] ?_
    refine bV aH 2 [(2, (aL x1_1))] ?_
    refine bI ?_
    obtain rfl := oI h0
    exact aK (Q_r hO)
  · replace h0 : (some x1_1) = some r := h0
    refine bC ?_
    refine bD [(4, (aL x1_1))] ?_
    refine bV aH 2 [(2, (aL x1_1))] ?_
    refine bI ?_
    obtain rfl := oI h0
    exact aK (Q_r hO)
  · replace h0 : (some x1_1) = some r := h0
    refine bC ?_
    refine bD [(4, (aL x1_1))] ?_
    refine bV aH 2 [(2, (aL x1_1))] ?_
    refine bI ?_
    obtain rfl := oI h0
    exact aK (Q_r hO)

theorem VU (v0 : aG) (r : Bool) (h0 : wJ v0 = some r) : bS Try.prog 97 [(aM v0)] (aL r) := by
  intro H0
  refine cI Try.func97 ?_
  have hO := aO.start H0
  unfold wJ at h0
  refine aQ ?_
  refine aT aH 2 ?_
  refine gW 3 (aM v0) (by kernel_rfl) (by kernel_rfl) ?_
  refine bC ?_
  refine bD [(1, (.rp (aM v0)))] ?_
  refine aQ ?_
  refine aT aH 4 ?_
  refine bH 1 ?_
  obtain ⟨x1, hx2, h0⟩ := aU h0
  refine cH (VI v0 _ hx2) hO ?_
  intro H hO
  refine bC ?_
  refine bD [(2, (aL (!x1)))] ?_
  refine bI ?_
  obtain rfl := oI h0
  exact aK (Q_r hO)

theorem AM (r0 : (List aG)) (r : Bool) (h0 : rC r0 = some r) : bS Try.prog 57 [(eL aM r0)] (aL r) := by
  intro H0
  refine cI Try.func57 ?_
  have hO := aO.start H0
  unfold rC at h0
  refine aY aH 1 [] [] ?_
  refine aQ ?_
  refine aY aH 3 [] [(5, (aL (decide ((8 : Int) < (lN r0)))))] ?_
  refine bL h0 (fun h0 => ?_) (fun h0 => ?_)
  · refine bV aH 1 [(2, (aL false))] ?_
    refine bI ?_
    obtain rfl := oI h0
    exact aK (bA (Q_r hO))
  refine bN ?_
  refine bD [(0, (eL aM r0))] ?_
  refine aQ ?_
  refine aT aH 4 ?_
  refine bH 1 ?_
  obtain ⟨x2, hx3, h0⟩ := aU h0
  refine cH (tK r0 97 [] [] (fun y0 => wJ y0) (fun y0 r h => VU y0 r h) _ hx3) hO ?_
  intro H hO
  refine bC ?_
  refine bD [(2, (aL (!x2)))] ?_
  refine bI ?_
  obtain rfl := oI h0
  exact aK (Q_r hO)

theorem KM (t0 : Int) (r : Bool) (h0 : wG t0 = some r) : bS Try.prog 134 [(eI t0)] (aL r) := by
  intro H0
  refine cI Try.func134 ?_
  have hO := aO.start H0
  unfold wG at h0
  refine aY aH 1 [] [] ?_
  refine bV aH 7 [(2, (aL ((decide ((0 : Int) ≤ t0)) && (decide (t0 ≤ (1125899906842624 : Int))))))] ?_
  refine bI ?_
  obtain rfl := oI h0
  exact aK (Q_r hO)

theorem YW (s0 : aR) (r : Bool) (h0 : zC s0 = some r) : bS Try.prog 120 [(bJ s0)] (aL r) := by
  intro H0
  refine cI Try.func120 ?_
  have hO := aO.start H0
  unfold zC at h0
  refine aQ ?_
  refine aT aH 2 ?_
  refine gW 2 (bJ s0) (by kernel_rfl) (by kernel_rfl) ?_
  refine bC ?_
  refine bD [(1, (.rp (bJ s0)))] ?_
  refine aQ ?_
  refine aT aH 16 ?_
  refine bH 2 ?_
  obtain ⟨x1, hx2, h0⟩ := aU h0
  refine cH (KM s0.From _ hx2) hO ?_
  intro H hO
  refine bH 6 ?_
  obtain ⟨x4, hx5, h0⟩ := aU h0
  refine fV [(6, true)] 134 [(eI s0.To)] (aL x4) x1 (by kernel_rfl) (by kernel_rfl) (by kernel_rfl) (fun hb6 => (KM s0.To _ (iU hx5 hb6))) hO ?_
  intro H hO
  refine bC ?_
  refine bD [(2, (aL ((x1 && x4) && (decide (s0.From < s0.To)))))] ?_
  refine bI ?_
  obtain rfl := oI h0
  exact aK (Q_r hO)

theorem VW (s0 : aR) (r : Bool) (h0 : AA s0 = some r) : bS Try.prog 87 [(bJ s0)] (aL r) := by
  intro H0
  refine cI Try.func87 ?_
  have hO := aO.start H0
  unfold AA at h0
  refine aQ ?_
  refine aT aH 2 ?_
  refine gW 2 (bJ s0) (by kernel_rfl) (by kernel_rfl) ?_
  refine bC ?_
  refine bD [(1, (.rp (bJ s0)))] ?_
  refine aQ ?_
  refine aT aH 18 ?_
  refine bH 1 ?_
  obtain ⟨x1, hx2, h0⟩ := aU h0
  refine cH (YW s0 _ hx2) hO ?_
  intro H hO
  refine bC ?_
  refine bD [(2, (aL (x1 || (((decide (s0.From = (-1 : Int))) && (decide ((0 : Int) ≤ s0.To))) && (decide (s0.To ≤ (1125899906842624 : Int)))))))] ?_
  refine bI ?_
  obtain rfl := oI h0
  exact aK (Q_r hO)

theorem FC (p0 : aI) (r : Bool) (h0 : sX p0 = some r) : bS Try.prog 45 [(aF p0)] (aL r) := by
  intro H0
  refine cI Try.func45 ?_
  have hO := aO.start H0
  unfold sX at h0
  refine aQ ?_
  refine aT aH 2 ?_
  refine gW 3 (aF p0) (by kernel_rfl) (by kernel_rfl) ?_
  refine bC ?_
  refine bD [(1, (.rp (aF p0)))] ?_
  refine aQ ?_
  refine aT aH 9 ?_
  refine bH 2 ?_
  obtain ⟨x1, hx2, h0⟩ := aU h0
  refine cH (AM p0.Row _ hx2) hO ?_
  intro H hO
  refine bH 6 ?_
  obtain ⟨x4, hx5, h0⟩ := aU h0
  refine fV [(6, true)] 87 [(bJ p0.Span)] (aL x4) x1 (by kernel_rfl) (by kernel_rfl) (by kernel_rfl) (fun hb6 => (VW p0.Span _ (iU hx5 hb6))) hO ?_
  intro H hO
  refine bC ?_
  refine bD [(2, (aL (x1 && x4)))] ?_
  refine bI ?_
  obtain rfl := oI h0
  exact aK (Q_r hO)

theorem OR (p0 : aI) (r : Bool) (h0 : sH p0 = some r) : bS Try.prog 75 [(aF p0)] (aL r) := by
  intro H0
  refine cI Try.func75 ?_
  have hO := aO.start H0
  unfold sH at h0
  refine aQ ?_
  refine aT aH 2 ?_
  refine gW 3 (aF p0) (by kernel_rfl) (by kernel_rfl) ?_
  refine bC ?_
  refine bD [(1, (.rp (aF p0)))] ?_
  refine aQ ?_
  refine aT aH 4 ?_
  refine bH 1 ?_
  obtain ⟨x1, hx2, h0⟩ := aU h0
  refine cH (FC p0 _ hx2) hO ?_
  intro H hO
  refine bC ?_
  refine bD [(2, (aL (!x1)))] ?_
  refine bI ?_
  obtain rfl := oI h0
  exact aK (Q_r hO)

theorem vG (s0 : (List aC)) (f1_f : Nat) (f1_a f1_c : List V) (f1 : aC → Option Bool) (f1_h : ∀ a0 r, f1 a0 = some r → bS Try.prog f1_f (f1_a ++ [(aE a0)] ++ f1_c) (aL r)) (r : Int) (h0 : fR s0 f1 = some r) : bS Try.prog 89 [(eL aE s0), (.fn (.func f1_f) f1_a f1_c)] (eI r) := by
  intro H0
  refine cI Try.func89 ?_
  have hO := aO.start H0
  unfold fR at h0
  refine aY aH 1 [] [] ?_
  refine dG (fun T H => Has T [] ∧ aO ⟨H0, [], []⟩ H [] ∧ dR f1  = some r) ?_ ?_
  · clear hO h0
    rintro T H ⟨hT, hO, h0⟩
    refine bB hT ?_
    clear hT
    unfold dR at h0
    refine bV aH 1 [(4, (eI (-1 : Int)))] ?_
    refine bI ?_
    obtain rfl := oI h0
    exact aK (Q_r hO)
  refine aY aH 3 [] [(7, (eI (lN s0))), (8, (eI (0 : Int)))] ?_
  refine bR 0 ?_
  refine cW [(0, (eL aE s0)), (1, (.fn (.func f1_f) f1_a f1_c)), (7, (eI (lN s0))), (8, (eI (0 : Int)))] ?_
  refine cP (fun T H => ∃ t7 : Int, ∃ t8 : Int, Has T [(0, (eL aE s0)), (1, (.fn (.func f1_f) f1_a f1_c)), (7, (eI t7)), (8, (eI t8))] ∧ aO ⟨H0, [], []⟩ H [] ∧ fK f1 s0 t7 t8 = some r) ?_ ⟨(lN s0), (0 : Int), .eq (by kernel_rfl), hO, h0⟩
  clear hO h0
  rintro T H ⟨t7, t8, hT, hO, h0⟩
  refine bB hT ?_
  clear hT
  unfold fK at h0
  obtain ⟨rr0, hl0, h0⟩ := aU h0
  refine cD (by kernel_rfl) (fun (s : Int) T H => Has T [(0, (eL aE s0)), (1, (.fn (.func f1_f) f1_a f1_c)), (7, (eI t7)), (8, (eI s))] ∧ aO ⟨H0, [], []⟩ H []) hl0 ⟨.eq (by kernel_rfl), hO⟩ ?_
  clear hO
  rintro k0 s out1 T H ⟨hT, hO⟩ h1 ho0
  obtain ⟨t8, rfl⟩ : ∃ x, x = s := ⟨_, rfl⟩
  replace h1 : fL f1 s0 t7 t8 = some out1 := h1
  refine bB hT ?_
  clear hT
  unfold fL at h1
  refine aY aH 1 [] [(9, (aL (decide (t8 < t7))))] ?_
  refine aQ ?_
  refine bL h1 (fun h1 => ?_) (fun h1 => ?_)
  · refine bN ?_
    refine bD [(0, (eL aE s0)), (1, (.fn (.func f1_f) f1_a f1_c)), (7, (eI t7)), (8, (eI t8))] ?_
    refine aQ ?_
    refine bR 1 ?_
    refine aY aH 2 [] [(5, (eI t8))] ?_
    refine aQ ?_
    refine aT aH 6 ?_
    obtain ⟨c2, h1⟩ := bM h1
    refine sC 5 [0 ≤ t8 ∧ t8 < (lN s0)] ⟨c2, trivial⟩ ?_
    obtain ⟨x3, hx4, h1⟩ := aU h1
    refine cH (f1_h (gD s0 t8) _ hx4) hO ?_
    intro H hO
    refine cJ ?_
    refine bP [] [(16, (aL x3))] ?_
    refine bL h1 (fun h1 => ?_) (fun h1 => ?_)
    · refine bV aH 2 [(4, (eI t8))] ?_
      refine bI ?_
      obtain rfl := oI h1
      obtain rfl : _ = rr0 := ho0
      replace h0 : some t8 = some r := h0
      obtain rfl := oI h0
      exact aK (bY (bA (bA (bY (bA (Q_r hO))))))
    refine bN ?_
    refine dK [(0, (eL aE s0)), (1, (.fn (.func f1_f) f1_a f1_c)), (7, (eI t7)), (8, (eI t8))] ?_
    refine aK (aZ (aJ (?_)))
    refine aT aH 2 ?_
    refine bC ?_
    exact aK (aJ (⟨rfl, _, (oI h1).symm, .eq (by kernel_rfl), hO⟩))
  refine eC 0 ?_
  obtain rfl := oI h1
  obtain rfl : _ = rr0 := ho0
  replace h0 : dR f1  = some r := h0
  exact aK (aW (aW (bO (aJ (⟨rfl, .eq (by kernel_rfl), hO, h0⟩)))))

theorem nL (s0 : (List aC)) (f1_f : Nat) (f1_a f1_c : List V) (f1 : aC → Option Bool) (f1_h : ∀ a0 r, f1 a0 = some r → bS Try.prog f1_f (f1_a ++ [(aE a0)] ++ f1_c) (aL r)) (r : Bool) (h0 : cT s0 f1 = some r) : bS Try.prog 50 [(eL aE s0), (.fn (.func f1_f) f1_a f1_c)] (aL r) := by
  intro H0
  refine cI Try.func50 ?_
  have hO := aO.start H0
  unfold cT at h0
  refine aY aH 1 [] [] ?_
  refine aQ ?_
  refine aT aH 5 ?_
  refine bH 2 ?_
  obtain ⟨x1, hx2, h0⟩ := aU h0
  refine cH (vG s0 f1_f f1_a f1_c f1 f1_h _ hx2) hO ?_
  intro H hO
  refine bC ?_
  refine bD [(4, (aL (decide ((0 : Int) ≤ x1))))] ?_
  refine bI ?_
  obtain rfl := oI h0
  exact aK (Q_r hO)

theorem RH (x0 : aC) (r : Bool) (h0 : tT x0 = some r) : bS Try.prog 56 [(aE x0)] (aL r) := by
  intro H0
  refine cI Try.func56 ?_
  have hO := aO.start H0
  unfold tT at h0
  refine aQ ?_
  refine aT aH 2 ?_
  refine gW 3 (aE x0) (by kernel_rfl) (by kernel_rfl) ?_
  refine bC ?_
  refine bD [(1, (.rp (aE x0)))] ?_
  refine aQ ?_
  refine aT aH 15 ?_
  refine bH 2 ?_
  obtain ⟨x1, hx2, h0⟩ := aU h0
  refine cH (AM x0.Row _ hx2) hO ?_
  intro H hO
  refine bC ?_
  refine bD [(2, (aL (((!x1) || (decide ((1048576 : Int) < x0.Net))) || (decide (x0.Net < (-1048576 : Int))))))] ?_
  refine bI ?_
  obtain rfl := oI h0
  exact aK (Q_r hO)

theorem RN (x0 : aC) (r : Bool) (h0 : tE x0 = some r) : bS Try.prog 58 [(aE x0)] (aL r) := by
  intro H0
  refine cI Try.func58 ?_
  have hO := aO.start H0
  unfold tE at h0
  refine aQ ?_
  refine aT aH 2 ?_
  refine gW 3 (aE x0) (by kernel_rfl) (by kernel_rfl) ?_
  refine bC ?_
  refine bD [(1, (.rp (aE x0)))] ?_
  refine bV aH 9 [(2, (aL ((decide (x0.At < (-1 : Int))) || (decide ((1125899906842624 : Int) < x0.At)))))] ?_
  refine bI ?_
  obtain rfl := oI h0
  exact aK (Q_r hO)

theorem xT (s0 : (List aC)) (r : (List aC)) (h0 : fC s0 = some r) : BJ Try.prog 59 [(eL aE s0)] (fun lo => (.msl 3 lo 0 (List.length r))) 3 (List.map aE r) := by
  intro H0
  refine cI Try.func59 ?_
  have hO := aO.start H0
  unfold fC at h0
  refine aY aH 1 [] [] ?_
  refine aQ ?_
  refine aQ ?_
  refine aT aH 2 ?_
  refine bH 1 ?_
  refine aBW false (List.length s0) (fun i => aE (List.getD s0 i default)) (by kernel_rfl) (by kernel_rfl) ?_
  intro b1 hn2
  refine cJ ?_
  refine bP [] [(4, (aL b1))] ?_
  refine oX (b1) (fun hc3 => ?_) (fun hc3 => ?_)
  · replace h0 : some ([] : List aC) = some r := by
      have hl := List.eq_nil_of_length_eq_zero (hn2 hc3)
      rw [hl] at h0
      exact (bM h0).2
    refine bV aH 1 [(2, (.sl true 0 (fun _ => .bad)))] ?_
    refine bI ?_
    refine dK [(2, (.sl true 0 (fun _ => .bad)))] ?_
    refine aAk (el := (fun _ => .bad)) 0 2 3 hO (by kernel_rfl) ?_
    intro lo4 H5 hO
    obtain rfl := oI h0
    exact aK (bA (rB (x := (.msl 3 lo4 0 (List.length ([] : List aC)))) (by kernel_rfl) (aX.refl _) ⟨lo4, rfl, hO⟩))
  · refine bN ?_
    refine bD [(0, (eL aE s0))] ?_
    refine aQ ?_
    refine aT aH 4 ?_
    refine rV (xs := []) (k := 3) (by kernel_rfl) (by kernel_rfl) ?_
    refine bH 2 ?_
    obtain ⟨c7, h0⟩ := bM h0
    refine WZ (e := aE) s0 (fun _ => .bad) 3 40 (eL aE s0) (fun lo6 => [(lo6, 3, List.map aE s0)]) (by kernel_rfl) (by kernel_rfl) hO (OG (fun _ => by kernel_rfl)) c7 (fun _ => by kernel_rfl) ?_
    intro lo6 H hO
    refine bC ?_
    refine bD [(2, (.msl 3 lo6 0 (List.length s0)))] ?_
    refine bI ?_
    obtain rfl := oI h0
    exact aK (rB (x := (.msl 3 lo6 0 (List.length s0))) (by kernel_rfl) (aX.refl _) ⟨lo6, rfl, hO⟩)

theorem nV (lo0p : Nat) (aB : (List aC)) (a1 : Int) (b2 : Int) (cmp3_f : Nat) (cmp3_a cmp3_c : List V) (cmp3 : aC → aC → Option Int) (cmp3_h : ∀ a0 a1 r, cmp3 a0 a1 = some r → bS Try.prog cmp3_f (cmp3_a ++ [(aE a0), (aE a1)] ++ cmp3_c) (eI r)) (r : List aC) (h0 : dN aB a1 b2 cmp3 = some r) : lO Try.prog 127 lo0p 3 (List.map aE aB) (List.map aE r) [(.msl 3 lo0p 0 (List.length aB)), (eI a1), (eI b2), (.fn (.func cmp3_f) cmp3_a cmp3_c)] (.tup []) := by
  intro H0 hl0
  refine cI Try.func127 ?_
  have hO := aO.rK hl0
  clear hl0
  obtain ⟨N0, hN0⟩ : ∃ n, n = List.length aB := ⟨_, rfl⟩
  have hN : List.length aB = N0 := hN0.symm
  unfold dN at h0
  refine aY aH 3 [] [(8, (eI (wR (a1 + (1 : Int)))))] ?_
  refine bR 0 ?_
  refine cW [(0, (.msl 3 lo0p 0 (List.length aB))), (1, (eI a1)), (2, (eI b2)), (3, (.fn (.func cmp3_f) cmp3_a cmp3_c)), (8, (eI (wR (a1 + (1 : Int)))))] ?_
  refine cP (fun T H => ∃ aB : List aC, ∃ i8 : Int, Has T [(0, (.msl 3 lo0p 0 (List.length aB))), (1, (eI a1)), (2, (eI b2)), (3, (.fn (.func cmp3_f) cmp3_a cmp3_c)), (8, (eI i8))] ∧ aO ⟨H0, [lo0p], []⟩ H [(lo0p, 3, List.map aE aB)] ∧ List.length aB = N0 ∧ iZ cmp3 aB a1 b2 i8 = some r) ?_ ⟨aB, wR (a1 + (1 : Int)), .eq (by kernel_rfl), hO, hN, h0⟩
  clear hO hN h0
  rintro T H ⟨aB, i8, hT, hO, hN, h0⟩
  refine bB hT ?_
  clear hT
  unfold iZ at h0
  obtain ⟨rr0, hl0, h0⟩ := aU h0
  refine cD (by kernel_rfl) (fun (s : List aC × Int) T H => Has T [(0, (.msl 3 lo0p 0 (List.length s.1))), (1, (eI a1)), (2, (eI b2)), (3, (.fn (.func cmp3_f) cmp3_a cmp3_c)), (8, (eI s.2))] ∧ aO ⟨H0, [lo0p], []⟩ H [(lo0p, 3, List.map aE s.1)] ∧ List.length s.1 = N0) hl0 ⟨.eq (by kernel_rfl), hO, hN⟩ ?_
  clear hO hN
  rintro k0 s out1 T H ⟨hT, hO, hN⟩ h1 ho0
  obtain ⟨aB, i8⟩ := s
  replace h1 : iY cmp3 a1 b2 aB i8 = some out1 := h1
  try dsimp only at hT
  refine bB hT ?_
  clear hT
  unfold iY at h1
  refine aQ ?_
  refine aY aH 3 [] [(14, (aL (decide (i8 < b2))))] ?_
  refine bL h1 (fun h1 => ?_) (fun h1 => ?_)
  · refine bN ?_
    refine bD [(0, (.msl 3 lo0p 0 (List.length aB))), (1, (eI a1)), (2, (eI b2)), (3, (.fn (.func cmp3_f) cmp3_a cmp3_c)), (8, (eI i8))] ?_
    refine dG (fun T H => ∃ aB : List aC, Has T [(0, (.msl 3 lo0p 0 (List.length aB))), (1, (eI a1)), (2, (eI b2)), (3, (.fn (.func cmp3_f) cmp3_a cmp3_c)), (8, (eI i8))] ∧ aO ⟨H0, [lo0p], []⟩ H [(lo0p, 3, List.map aE aB)] ∧ List.length aB = N0 ∧ eY cmp3 aB a1 b2 i8 = some out1) ?_ ?_
    · clear hO hN h1
      rintro T H ⟨aB, hT, hO, hN, h1⟩
      refine bB hT ?_
      clear hT
      unfold eY at h1
      refine aT aH 3 ?_
      refine bC ?_
      exact aK (aJ (⟨rfl, _, (oI h1).symm, .eq (by kernel_rfl), hO, hN⟩))
    refine bR 1 ?_
    refine aY aH 2 [] [(9, (eI i8))] ?_
    refine bR 2 ?_
    refine cW [(0, (.msl 3 lo0p 0 (List.length aB))), (1, (eI a1)), (2, (eI b2)), (3, (.fn (.func cmp3_f) cmp3_a cmp3_c)), (8, (eI i8)), (9, (eI i8))] ?_
    refine cP (fun T H => ∃ aB : List aC, ∃ j9 : Int, Has T [(0, (.msl 3 lo0p 0 (List.length aB))), (1, (eI a1)), (2, (eI b2)), (3, (.fn (.func cmp3_f) cmp3_a cmp3_c)), (8, (eI i8)), (9, (eI j9))] ∧ aO ⟨H0, [lo0p], []⟩ H [(lo0p, 3, List.map aE aB)] ∧ List.length aB = N0 ∧ iW cmp3 aB a1 b2 i8 j9 = some out1) ?_ ⟨aB, i8, .eq (by kernel_rfl), hO, hN, h1⟩
    clear hO hN h1
    rintro T H ⟨aB, j9, hT, hO, hN, h1⟩
    refine bB hT ?_
    clear hT
    unfold iW at h1
    obtain ⟨rr1, hl1, h1⟩ := aU h1
    refine cD (by kernel_rfl) (fun (s : List aC × Int) T H => Has T [(0, (.msl 3 lo0p 0 (List.length s.1))), (1, (eI a1)), (2, (eI b2)), (3, (.fn (.func cmp3_f) cmp3_a cmp3_c)), (8, (eI i8)), (9, (eI s.2))] ∧ aO ⟨H0, [lo0p], []⟩ H [(lo0p, 3, List.map aE s.1)] ∧ List.length s.1 = N0) hl1 ⟨.eq (by kernel_rfl), hO, hN⟩ ?_
    clear hO hN
    rintro k1 s out2 T H ⟨hT, hO, hN⟩ h2 ho1
    obtain ⟨aB, j9⟩ := s
    replace h2 : iV cmp3 a1 b2 i8 aB j9 = some out2 := h2
    try dsimp only at hT
    refine bB hT ?_
    clear hT
    unfold iV at h2
    refine aQ ?_
    refine aQ ?_
    obtain ⟨c2, h2⟩ := bM h2
    obtain ⟨c3, h2⟩ := bM h2
    obtain ⟨x4, hx5, h2⟩ := aU h2
    refine jT (jS []) aH 17 ?_
    refine IW (K := fun T H => Has (lift T) [(0, (.msl 3 lo0p 0 (List.length aB))), (1, (eI a1)), (2, (eI b2)), (3, (.fn (.func cmp3_f) cmp3_a cmp3_c)), (8, (eI i8)), (9, (eI j9)), (34, (aL ((decide (a1 < j9)) && (decide (x4 < (0 : Int))))))] ∧ aO ⟨H0, [lo0p], []⟩ H [(lo0p, 3, List.map aE aB)]) ?_ ?_
    · refine sD 4 ?_
      refine JI (t := 21) (e := decide (a1 < j9)) (by kernel_rfl) (fun hg6 => ?_) (fun hg6 => ?_)
      · refine dP 8 [0 ≤ j9 ∧ j9 < (lN aB)] ⟨(c2 hg6), trivial⟩ ?_
        refine BU 0 lo0p 3 (0 + Int.toNat j9) (aE (gD aB j9)) (aE (gD aB j9)) (List.map aE aB) (by kernel_rfl) (by kernel_rfl) (by kernel_rfl) hO (by kernel_rfl) (cR (c2 hg6)) ?_
        refine dP 13 [0 ≤ (wR (j9 - (1 : Int))) ∧ (wR (j9 - (1 : Int))) < (lN aB)] ⟨(c3 hg6), trivial⟩ ?_
        refine BU 0 lo0p 3 (0 + Int.toNat (wR (j9 - (1 : Int)))) (aE (gD aB (wR (j9 - (1 : Int))))) (aE (gD aB (wR (j9 - (1 : Int))))) (List.map aE aB) (by kernel_rfl) (by kernel_rfl) (by kernel_rfl) hO (by kernel_rfl) (cR (c3 hg6)) ?_
        refine OV cmp3_f (cmp3_a ++ [(aE (gD aB j9)), (aE (gD aB (wR (j9 - (1 : Int)))))] ++ cmp3_c) (eI x4) (by kernel_rfl) (by kernel_rfl) (cmp3_h (gD aB j9) (gD aB (wR (j9 - (1 : Int)))) _ (iU hx5 hg6)) hO ?_
        intro H hO
        refine qL ?_
        exact ⟨⟨[(0, (.msl 3 lo0p 0 (List.length aB))), (1, (eI a1)), (2, (eI b2)), (3, (.fn (.func cmp3_f) cmp3_a cmp3_c)), (8, (eI i8)), (9, (eI j9)), (34, (aL (decide (x4 < (0 : Int)))))], by kernel_rfl, rfl, ⟨aX.refl _, aX.refl _, aX.refl _, aX.refl _, aX.refl _, aX.refl _, aX.eq (congrArg aL (JL hg6 rfl).symm), trivial⟩⟩, hO⟩
      refine qL ?_
      exact ⟨⟨[(0, (.msl 3 lo0p 0 (List.length aB))), (1, (eI a1)), (2, (eI b2)), (3, (.fn (.func cmp3_f) cmp3_a cmp3_c)), (8, (eI i8)), (9, (eI j9)), (34, (aL false))], by kernel_rfl, rfl, ⟨aX.refl _, aX.refl _, aX.refl _, aX.refl _, aX.refl _, aX.refl _, aX.eq (congrArg aL (JL hg6 rfl).symm), trivial⟩⟩, hO⟩
    · rintro T H ⟨hT, hO⟩
      refine cS hT ?_
      clear hT
      refine aK (aJ ?_)
      refine bL h2 (fun h2 => ?_) (fun h2 => ?_)
      · refine bN ?_
        refine bD [(0, (.msl 3 lo0p 0 (List.length aB))), (1, (eI a1)), (2, (eI b2)), (3, (.fn (.func cmp3_f) cmp3_a cmp3_c)), (8, (eI i8)), (9, (eI j9))] ?_
        refine aQ ?_
        refine bR 3 ?_
        refine jT (jS []) aH 18 ?_
        obtain ⟨c8, h2⟩ := bM h2
        refine dP 9 [0 ≤ (wR (j9 - (1 : Int))) ∧ (wR (j9 - (1 : Int))) < (lN aB)] ⟨c8, trivial⟩ ?_
        refine lI 0 lo0p 3 (0 + Int.toNat (wR (j9 - (1 : Int)))) (aE (gD aB (wR (j9 - (1 : Int))))) (aE (gD aB (wR (j9 - (1 : Int))))) (List.map aE aB) hO (cR c8) ?_
        obtain ⟨c9, h2⟩ := bM h2
        refine dP 13 [0 ≤ j9 ∧ j9 < (lN aB)] ⟨c9, trivial⟩ ?_
        refine lI 0 lo0p 3 (0 + Int.toNat j9) (aE (gD aB j9)) (aE (gD aB j9)) (List.map aE aB) hO (cR c9) ?_
        obtain ⟨c10, h2⟩ := bM h2
        refine dP 15 [0 ≤ j9 ∧ j9 < (lN aB)] ⟨c10, trivial⟩ ?_
        refine sY 0 lo0p 3 (0 + Int.toNat j9) (aE (gD aB j9)) (aE (gD aB (wR (j9 - (1 : Int))))) (List.map aE aB) [(lo0p, 3, List.map aE (List.set aB (Int.toNat j9) (gD aB (wR (j9 - (1 : Int))))))] hO (cR c10) (by simp only [List.set, oQ]) ?_
        intro H hO
        replace hN : List.length (List.set aB (Int.toNat j9) (gD aB (wR (j9 - (1 : Int))))) = N0 := by simpa using hN
        obtain ⟨c11, h2⟩ := bM h2
        refine dP 17 [0 ≤ (wR (j9 - (1 : Int))) ∧ (wR (j9 - (1 : Int))) < (lN aB)] ⟨c11, trivial⟩ ?_
        refine sY 0 lo0p 3 (0 + Int.toNat (wR (j9 - (1 : Int)))) (aE (gD (List.set aB (Int.toNat j9) (gD aB (wR (j9 - (1 : Int))))) (wR (j9 - (1 : Int))))) (aE (gD aB j9)) (List.map aE (List.set aB (Int.toNat j9) (gD aB (wR (j9 - (1 : Int)))))) [(lo0p, 3, List.map aE (List.set (List.set aB (Int.toNat j9) (gD aB (wR (j9 - (1 : Int))))) (Int.toNat (wR (j9 - (1 : Int)))) (gD aB j9)))] hO (yB c11 (by simp [])) (by simp only [List.set, oQ]) ?_
        intro H hO
        replace hN : List.length (List.set (List.set aB (Int.toNat j9) (gD aB (wR (j9 - (1 : Int))))) (Int.toNat (wR (j9 - (1 : Int)))) (gD aB j9)) = N0 := by simpa using hN
        refine yK (by kernel_rfl) ?_
        refine cS (l := [(0, (.msl 3 lo0p 0 (List.length (List.set (List.set aB (Int.toNat j9) (gD aB (wR (j9 - (1 : Int))))) (Int.toNat (wR (j9 - (1 : Int)))) (gD aB j9))))), (1, (eI a1)), (2, (eI b2)), (3, (.fn (.func cmp3_f) cmp3_a cmp3_c)), (8, (eI i8)), (9, (eI j9))]) ⟨[(0, (.msl 3 lo0p 0 (List.length aB))), (1, (eI a1)), (2, (eI b2)), (3, (.fn (.func cmp3_f) cmp3_a cmp3_c)), (8, (eI i8)), (9, (eI j9))], by kernel_rfl, rfl, ⟨aX.eq (by simp []), aX.refl _, aX.refl _, aX.refl _, aX.refl _, aX.refl _, trivial⟩⟩ ?_
        refine aK (aZ (aJ (?_)))
        refine aT aH 3 ?_
        refine bC ?_
        exact aK (aJ (⟨rfl, _, (oI h2).symm, .eq (by kernel_rfl), hO, hN⟩))
      refine eC 2 ?_
      obtain rfl := oI h2
      obtain rfl : _ = rr1 := ho1
      replace h1 : eY cmp3 aB a1 b2 i8 = some out1 := h1
      exact aK (aW (aW (bO (aZ (aJ (⟨rfl, _, .eq (by kernel_rfl), hO, hN, h1⟩))))))
  refine eC 0 ?_
  obtain rfl := oI h1
  obtain rfl : _ = rr0 := ho0
  replace h0 : some aB = some r := h0
  obtain rfl := oI h0
  exact aK (aW (aW (bO (rU (x := (.tup [])) (by kernel_rfl) (aX.refl _) ⟨rfl, hO.ext, hO.at 0 (by kernel_rfl), by simp only [List.length_map]; exact hN.trans hN0⟩))))

theorem lF (lo0p : Nat) (aB : (List aC)) (a1 : Int) (b2 : Int) (n3 : Int) (cmp4_f : Nat) (cmp4_a cmp4_c : List V) (cmp4 : aC → aC → Option Int) (cmp4_h : ∀ a0 a1 r, cmp4 a0 a1 = some r → bS Try.prog cmp4_f (cmp4_a ++ [(aE a0), (aE a1)] ++ cmp4_c) (eI r)) (r : List aC) (h0 : eH aB a1 b2 n3 cmp4 = some r) : lO Try.prog 142 lo0p 3 (List.map aE aB) (List.map aE r) [(.msl 3 lo0p 0 (List.length aB)), (eI a1), (eI b2), (eI n3), (.fn (.func cmp4_f) cmp4_a cmp4_c)] (.tup []) := by
  intro H0 hl0
  refine cI Try.func142 ?_
  have hO := aO.rK hl0
  clear hl0
  obtain ⟨N0, hN0⟩ : ∃ n, n = List.length aB := ⟨_, rfl⟩
  have hN : List.length aB = N0 := hN0.symm
  unfold eH at h0
  refine aY aH 1 [4] [(10, (eI (0 : Int)))] ?_
  refine bR 0 ?_
  refine cW [(0, (.msl 3 lo0p 0 (List.length aB))), (1, (eI a1)), (2, (eI b2)), (3, (eI n3)), (10, (eI (0 : Int)))] ?_
  refine cP (fun T H => ∃ aB : List aC, ∃ i10 : Int, Has T [(0, (.msl 3 lo0p 0 (List.length aB))), (1, (eI a1)), (2, (eI b2)), (3, (eI n3)), (10, (eI i10))] ∧ aO ⟨H0, [lo0p], []⟩ H [(lo0p, 3, List.map aE aB)] ∧ List.length aB = N0 ∧ kD cmp4 aB a1 b2 n3 i10 = some r) ?_ ⟨aB, (0 : Int), .eq (by kernel_rfl), hO, hN, h0⟩
  clear hO hN h0
  rintro T H ⟨aB, i10, hT, hO, hN, h0⟩
  refine bB hT ?_
  clear hT
  unfold kD at h0
  obtain ⟨rr0, hl0, h0⟩ := aU h0
  refine cD (by kernel_rfl) (fun (s : List aC × Int) T H => Has T [(0, (.msl 3 lo0p 0 (List.length s.1))), (1, (eI a1)), (2, (eI b2)), (3, (eI n3)), (10, (eI s.2))] ∧ aO ⟨H0, [lo0p], []⟩ H [(lo0p, 3, List.map aE s.1)] ∧ List.length s.1 = N0) hl0 ⟨.eq (by kernel_rfl), hO, hN⟩ ?_
  clear hO hN
  rintro k0 s out1 T H ⟨hT, hO, hN⟩ h1 ho0
  obtain ⟨aB, i10⟩ := s
  replace h1 : kV cmp4 a1 b2 n3 aB i10 = some out1 := h1
  try dsimp only at hT
  refine bB hT ?_
  clear hT
  unfold kV at h1
  refine aQ ?_
  refine aY aH 3 [] [(13, (aL (decide (i10 < n3))))] ?_
  refine bL h1 (fun h1 => ?_) (fun h1 => ?_)
  · refine bN ?_
    refine bD [(0, (.msl 3 lo0p 0 (List.length aB))), (1, (eI a1)), (2, (eI b2)), (3, (eI n3)), (10, (eI i10))] ?_
    refine aQ ?_
    refine bR 1 ?_
    refine jT (jS []) aH 24 ?_
    obtain ⟨c2, h1⟩ := bM h1
    refine dP 13 [0 ≤ (wR (b2 + i10)) ∧ (wR (b2 + i10)) < (lN aB)] ⟨c2, trivial⟩ ?_
    refine lI 0 lo0p 3 (0 + Int.toNat (wR (b2 + i10))) (aE (gD aB (wR (b2 + i10)))) (aE (gD aB (wR (b2 + i10)))) (List.map aE aB) hO (cR c2) ?_
    obtain ⟨c3, h1⟩ := bM h1
    refine dP 19 [0 ≤ (wR (a1 + i10)) ∧ (wR (a1 + i10)) < (lN aB)] ⟨c3, trivial⟩ ?_
    refine lI 0 lo0p 3 (0 + Int.toNat (wR (a1 + i10))) (aE (gD aB (wR (a1 + i10)))) (aE (gD aB (wR (a1 + i10)))) (List.map aE aB) hO (cR c3) ?_
    obtain ⟨c4, h1⟩ := bM h1
    refine dP 21 [0 ≤ (wR (a1 + i10)) ∧ (wR (a1 + i10)) < (lN aB)] ⟨c4, trivial⟩ ?_
    refine sY 0 lo0p 3 (0 + Int.toNat (wR (a1 + i10))) (aE (gD aB (wR (a1 + i10)))) (aE (gD aB (wR (b2 + i10)))) (List.map aE aB) [(lo0p, 3, List.map aE (List.set aB (Int.toNat (wR (a1 + i10))) (gD aB (wR (b2 + i10)))))] hO (cR c4) (by simp only [List.set, oQ]) ?_
    intro H hO
    replace hN : List.length (List.set aB (Int.toNat (wR (a1 + i10))) (gD aB (wR (b2 + i10)))) = N0 := by simpa using hN
    obtain ⟨c5, h1⟩ := bM h1
    refine dP 23 [0 ≤ (wR (b2 + i10)) ∧ (wR (b2 + i10)) < (lN aB)] ⟨c5, trivial⟩ ?_
    refine sY 0 lo0p 3 (0 + Int.toNat (wR (b2 + i10))) (aE (gD (List.set aB (Int.toNat (wR (a1 + i10))) (gD aB (wR (b2 + i10)))) (wR (b2 + i10)))) (aE (gD aB (wR (a1 + i10)))) (List.map aE (List.set aB (Int.toNat (wR (a1 + i10))) (gD aB (wR (b2 + i10))))) [(lo0p, 3, List.map aE (List.set (List.set aB (Int.toNat (wR (a1 + i10))) (gD aB (wR (b2 + i10)))) (Int.toNat (wR (b2 + i10))) (gD aB (wR (a1 + i10)))))] hO (yB c5 (by simp [])) (by simp only [List.set, oQ]) ?_
    intro H hO
    replace hN : List.length (List.set (List.set aB (Int.toNat (wR (a1 + i10))) (gD aB (wR (b2 + i10)))) (Int.toNat (wR (b2 + i10))) (gD aB (wR (a1 + i10)))) = N0 := by simpa using hN
    refine yK (by kernel_rfl) ?_
    refine cS (l := [(0, (.msl 3 lo0p 0 (List.length (List.set (List.set aB (Int.toNat (wR (a1 + i10))) (gD aB (wR (b2 + i10)))) (Int.toNat (wR (b2 + i10))) (gD aB (wR (a1 + i10))))))), (1, (eI a1)), (2, (eI b2)), (3, (eI n3)), (10, (eI i10))]) ⟨[(0, (.msl 3 lo0p 0 (List.length aB))), (1, (eI a1)), (2, (eI b2)), (3, (eI n3)), (10, (eI i10))], by kernel_rfl, rfl, ⟨aX.eq (by simp []), aX.refl _, aX.refl _, aX.refl _, aX.refl _, trivial⟩⟩ ?_
    refine aK (aZ (aJ (?_)))
    refine aT aH 3 ?_
    refine bC ?_
    exact aK (aJ (⟨rfl, _, (oI h1).symm, .eq (by kernel_rfl), hO, hN⟩))
  refine eC 0 ?_
  obtain rfl := oI h1
  obtain rfl : _ = rr0 := ho0
  replace h0 : some aB = some r := h0
  obtain rfl := oI h0
  exact aK (aW (aW (bO (rU (x := (.tup [])) (by kernel_rfl) (aX.refl _) ⟨rfl, hO.ext, hO.at 0 (by kernel_rfl), by simp only [List.length_map]; exact hN.trans hN0⟩))))

theorem yG (lo0p : Nat) (aB : (List aC)) (a1 : Int) (m2 : Int) (b3 : Int) (cmp4_f : Nat) (cmp4_a cmp4_c : List V) (cmp4 : aC → aC → Option Int) (cmp4_h : ∀ a0 a1 r, cmp4 a0 a1 = some r → bS Try.prog cmp4_f (cmp4_a ++ [(aE a0), (aE a1)] ++ cmp4_c) (eI r)) (r : List aC) (h0 : mL aB a1 m2 b3 cmp4 = some r) : lO Try.prog 137 lo0p 3 (List.map aE aB) (List.map aE r) [(.msl 3 lo0p 0 (List.length aB)), (eI a1), (eI m2), (eI b3), (.fn (.func cmp4_f) cmp4_a cmp4_c)] (.tup []) := by
  intro H0 hl0
  refine cI Try.func137 ?_
  have hO := aO.rK hl0
  clear hl0
  obtain ⟨N0, hN0⟩ : ∃ n, n = List.length aB := ⟨_, rfl⟩
  have hN : List.length aB = N0 := hN0.symm
  unfold mL at h0
  refine aY aH 4 [1] [(10, (eI (wR (m2 - a1))))] ?_
  refine aY aH 4 [3] [(11, (eI (wR (b3 - m2))))] ?_
  refine dG (fun T H => ∃ aB : List aC, ∃ i10 : Int, Has T [(0, (.msl 3 lo0p 0 (List.length aB))), (2, (eI m2)), (4, (.fn (.func cmp4_f) cmp4_a cmp4_c)), (10, (eI i10))] ∧ aO ⟨H0, [lo0p], []⟩ H [(lo0p, 3, List.map aE aB)] ∧ List.length aB = N0 ∧ iO cmp4 aB m2 i10 = some r) ?_ ?_
  · clear hO hN h0
    rintro T H ⟨aB, i10, hT, hO, hN, h0⟩
    refine bB hT ?_
    clear hT
    unfold iO at h0
    refine aT aH 8 ?_
    refine bH 7 ?_
    obtain ⟨x1, hx2, h0⟩ := aU h0
    refine pG [(lo0p, 3, List.map aE x1)] 0 (lF lo0p aB (wR (m2 - i10)) m2 i10 cmp4_f cmp4_a cmp4_c cmp4 cmp4_h _ hx2) hO ?_
    intro H hO hl3
    simp only [List.length_map] at hl3
    replace hN := hl3.trans hN
    refine cJ ?_
    refine cS (l := [(0, (.msl 3 lo0p 0 (List.length x1)))]) ⟨[(0, (.msl 3 lo0p 0 (List.length aB)))], by kernel_rfl, rfl, ⟨aX.eq (by simp [hl3]), trivial⟩⟩ ?_
    obtain rfl := oI h0
    exact aK (rU (x := (.tup [])) (by kernel_rfl) (aX.refl _) ⟨rfl, hO.ext, hO.at 0 (by kernel_rfl), by simp only [List.length_map]; exact hN.trans hN0⟩)
  refine bR 0 ?_
  refine cW [(0, (.msl 3 lo0p 0 (List.length aB))), (2, (eI m2)), (4, (.fn (.func cmp4_f) cmp4_a cmp4_c)), (10, (eI (wR (m2 - a1)))), (11, (eI (wR (b3 - m2))))] ?_
  refine cP (fun T H => ∃ aB : List aC, ∃ i10 : Int, ∃ j11 : Int, Has T [(0, (.msl 3 lo0p 0 (List.length aB))), (2, (eI m2)), (4, (.fn (.func cmp4_f) cmp4_a cmp4_c)), (10, (eI i10)), (11, (eI j11))] ∧ aO ⟨H0, [lo0p], []⟩ H [(lo0p, 3, List.map aE aB)] ∧ List.length aB = N0 ∧ mD cmp4 aB m2 i10 j11 = some r) ?_ ⟨aB, wR (m2 - a1), wR (b3 - m2), .eq (by kernel_rfl), hO, hN, h0⟩
  clear hO hN h0
  rintro T H ⟨aB, i10, j11, hT, hO, hN, h0⟩
  refine bB hT ?_
  clear hT
  unfold mD at h0
  obtain ⟨rr0, hl0, h0⟩ := aU h0
  refine cD (by kernel_rfl) (fun (s : List aC × Int × Int) T H => Has T [(0, (.msl 3 lo0p 0 (List.length s.1))), (2, (eI m2)), (4, (.fn (.func cmp4_f) cmp4_a cmp4_c)), (10, (eI s.2.1)), (11, (eI s.2.2))] ∧ aO ⟨H0, [lo0p], []⟩ H [(lo0p, 3, List.map aE s.1)] ∧ List.length s.1 = N0) hl0 ⟨.eq (by kernel_rfl), hO, hN⟩ ?_
  clear hO hN
  rintro k0 s out1 T H ⟨hT, hO, hN⟩ h1 ho0
  obtain ⟨aB, i10, j11⟩ := s
  replace h1 : mB cmp4 m2 aB i10 j11 = some out1 := h1
  try dsimp only at hT
  refine bB hT ?_
  clear hT
  unfold mB at h1
  refine aQ ?_
  refine aY aH 3 [] [(20, (aL (!decide (i10 = j11))))] ?_
  refine bL h1 (fun h1 => ?_) (fun h1 => ?_)
  · refine bN ?_
    refine bD [(0, (.msl 3 lo0p 0 (List.length aB))), (2, (eI m2)), (4, (.fn (.func cmp4_f) cmp4_a cmp4_c)), (10, (eI i10)), (11, (eI j11))] ?_
    refine bR 1 ?_
    refine aY aH 3 [] [(23, (aL (decide (j11 < i10))))] ?_
    refine bL h1 (fun h1 => ?_) (fun h1 => ?_)
    · refine aQ ?_
      refine aT aH 8 ?_
      refine bH 7 ?_
      obtain ⟨x6, hx7, h1⟩ := aU h1
      refine pG [(lo0p, 3, List.map aE x6)] 0 (lF lo0p aB (wR (m2 - i10)) m2 j11 cmp4_f cmp4_a cmp4_c cmp4 cmp4_h _ hx7) hO ?_
      intro H hO hl8
      simp only [List.length_map] at hl8
      replace hN := hl8.trans hN
      refine cJ ?_
      refine cS (l := [(0, (.msl 3 lo0p 0 (List.length x6))), (2, (eI m2)), (4, (.fn (.func cmp4_f) cmp4_a cmp4_c)), (10, (eI i10)), (11, (eI j11))]) ⟨[(0, (.msl 3 lo0p 0 (List.length aB))), (2, (eI m2)), (4, (.fn (.func cmp4_f) cmp4_a cmp4_c)), (10, (eI i10)), (11, (eI j11))], by kernel_rfl, rfl, ⟨aX.eq (by simp [hl8]), aX.refl _, aX.refl _, aX.refl _, aX.refl _, trivial⟩⟩ ?_
      refine aK (aJ (?_))
      refine aT aH 4 ?_
      refine bC ?_
      exact aK (aZ (aJ (⟨rfl, _, (oI h1).symm, .eq (by kernel_rfl), hO, hN⟩)))
    refine aQ ?_
    refine aT aH 12 ?_
    refine bH 11 ?_
    obtain ⟨x9, hx10, h1⟩ := aU h1
    refine pG [(lo0p, 3, List.map aE x9)] 0 (lF lo0p aB (wR (m2 - i10)) (wR ((wR (m2 + j11)) - i10)) i10 cmp4_f cmp4_a cmp4_c cmp4 cmp4_h _ hx10) hO ?_
    intro H hO hl11
    simp only [List.length_map] at hl11
    replace hN := hl11.trans hN
    refine cJ ?_
    refine cS (l := [(0, (.msl 3 lo0p 0 (List.length x9))), (2, (eI m2)), (4, (.fn (.func cmp4_f) cmp4_a cmp4_c)), (10, (eI i10)), (11, (eI j11))]) ⟨[(0, (.msl 3 lo0p 0 (List.length aB))), (2, (eI m2)), (4, (.fn (.func cmp4_f) cmp4_a cmp4_c)), (10, (eI i10)), (11, (eI j11))], by kernel_rfl, rfl, ⟨aX.eq (by simp [hl11]), aX.refl _, aX.refl _, aX.refl _, aX.refl _, trivial⟩⟩ ?_
    refine aK (aJ (?_))
    refine aT aH 4 ?_
    refine bC ?_
    exact aK (aZ (aJ (⟨rfl, _, (oI h1).symm, .eq (by kernel_rfl), hO, hN⟩)))
  refine eC 0 ?_
  obtain rfl := oI h1
  obtain rfl : _ = rr0 := ho0
  replace h0 : iO cmp4 aB m2 i10 = some r := h0
  exact aK (aW (aW (bO (aJ (⟨rfl, _, _, .eq (by kernel_rfl), hO, hN, h0⟩)))))

theorem uC (cmp4_f : Nat) (cmp4_a cmp4_c : List V) (cmp4 : aC → aC → Option Int) (cmp4_h : ∀ a0 a1 r, cmp4 a0 a1 = some r → bS Try.prog cmp4_f (cmp4_a ++ [(aE a0), (aE a1)] ++ cmp4_c) (eI r)) (rec : (List aC) → Int → Int → Int → Option (List aC)) (ih : ∀ (lo0p : Nat) (aB : (List aC)) (a1 : Int) (m2 : Int) (b3 : Int) (r : List aC), rec aB a1 m2 b3 = some r → lO Try.prog 128 lo0p 3 (List.map aE aB) (List.map aE r) [(.msl 3 lo0p 0 (List.length aB)), (eI a1), (eI m2), (eI b3), (.fn (.func cmp4_f) cmp4_a cmp4_c)] (.tup [])) (lo0p : Nat) (aB : (List aC)) (a1 : Int) (m2 : Int) (b3 : Int) (r : List aC) (h0 : dY cmp4 rec aB a1 m2 b3 = some r) : lO Try.prog 128 lo0p 3 (List.map aE aB) (List.map aE r) [(.msl 3 lo0p 0 (List.length aB)), (eI a1), (eI m2), (eI b3), (.fn (.func cmp4_f) cmp4_a cmp4_c)] (.tup []) := by
  intro H0 hl0
  refine cI Try.func128 ?_
  have hO := aO.rK hl0
  clear hl0
  obtain ⟨N0, hN0⟩ : ∃ n, n = List.length aB := ⟨_, rfl⟩
  have hN : List.length aB = N0 := hN0.symm
  unfold dY at h0
  refine dG (fun T H => ∃ aB : List aC, Has T [(0, (.msl 3 lo0p 0 (List.length aB))), (1, (eI a1)), (2, (eI m2)), (3, (eI b3)), (4, (.fn (.func cmp4_f) cmp4_a cmp4_c))] ∧ aO ⟨H0, [lo0p], []⟩ H [(lo0p, 3, List.map aE aB)] ∧ List.length aB = N0 ∧ lE cmp4 rec aB a1 m2 b3 = some r) ?_ ?_
  · clear hO hN h0
    rintro T H ⟨aB, hT, hO, hN, h0⟩
    refine bB hT ?_
    clear hT
    unfold lE at h0
    refine dG (fun T H => ∃ aB : List aC, Has T [(0, (.msl 3 lo0p 0 (List.length aB))), (1, (eI a1)), (2, (eI m2)), (3, (eI b3)), (4, (.fn (.func cmp4_f) cmp4_a cmp4_c))] ∧ aO ⟨H0, [lo0p], []⟩ H [(lo0p, 3, List.map aE aB)] ∧ List.length aB = N0 ∧ lB cmp4 rec aB a1 m2 b3 = some r) ?_ ?_
    · clear hO hN h0
      rintro T H ⟨aB, hT, hO, hN, h0⟩
      refine bB hT ?_
      clear hT
      unfold lB at h0
      refine aQ ?_
      refine aT aH 7 ?_
      obtain ⟨c1, h0⟩ := bM h0
      refine AT [0 ≤ (1 : Int)] ⟨c1, trivial⟩ ?_
      refine bP [] [(18, (eI (wR (Int.fdiv (IntKind.u64.wrap (wR (a1 + b3))) (2 ^ (min (Int.toNat (1 : Int)) 64))))))] ?_
      refine aY aH 4 [] [(19, (eI (wR ((wR (Int.fdiv (IntKind.u64.wrap (wR (a1 + b3))) (2 ^ (min (Int.toNat (1 : Int)) 64)))) + m2))))] ?_
      refine aY aH 2 [] [] ?_
      refine dG (fun T H => ∃ aB : List aC, ∃ bQ : Int, ∃ n19 : Int, ∃ aS : Int, ∃ r21 : Int, Has T [(0, (.msl 3 lo0p 0 (List.length aB))), (1, (eI a1)), (2, (eI m2)), (3, (eI b3)), (4, (.fn (.func cmp4_f) cmp4_a cmp4_c)), (18, (eI bQ)), (19, (eI n19)), (20, (eI aS)), (21, (eI r21))] ∧ aO ⟨H0, [lo0p], []⟩ H [(lo0p, 3, List.map aE aB)] ∧ List.length aB = N0 ∧ gO cmp4 rec aB a1 m2 b3 bQ n19 aS r21 = some r) ?_ ?_
      · clear hO hN h0
        rintro T H ⟨aB, bQ, n19, aS, r21, hT, hO, hN, h0⟩
        refine bB hT ?_
        clear hT
        unfold gO at h0
        refine aY aH 3 [] [(22, (eI (wR (n19 - (1 : Int)))))] ?_
        refine dG (fun T H => ∃ aB : List aC, ∃ aS : Int, Has T [(0, (.msl 3 lo0p 0 (List.length aB))), (1, (eI a1)), (2, (eI m2)), (3, (eI b3)), (4, (.fn (.func cmp4_f) cmp4_a cmp4_c)), (18, (eI bQ)), (19, (eI n19)), (20, (eI aS))] ∧ aO ⟨H0, [lo0p], []⟩ H [(lo0p, 3, List.map aE aB)] ∧ List.length aB = N0 ∧ gQ cmp4 rec aB a1 m2 b3 bQ n19 aS = some r) ?_ ?_
        · clear hO hN h0
          rintro T H ⟨aB, aS, hT, hO, hN, h0⟩
          refine bB hT ?_
          clear hT
          unfold gQ at h0
          refine aY aH 4 [19] [(24, (eI (wR (n19 - aS))))] ?_
          refine dG (fun T H => ∃ aB : List aC, ∃ eB : Int, Has T [(0, (.msl 3 lo0p 0 (List.length aB))), (1, (eI a1)), (3, (eI b3)), (4, (.fn (.func cmp4_f) cmp4_a cmp4_c)), (18, (eI bQ)), (20, (eI aS)), (24, (eI eB))] ∧ aO ⟨H0, [lo0p], []⟩ H [(lo0p, 3, List.map aE aB)] ∧ List.length aB = N0 ∧ gT cmp4 rec aB a1 b3 bQ aS eB = some r) ?_ ?_
          · clear hO hN h0
            rintro T H ⟨aB, eB, hT, hO, hN, h0⟩
            refine bB hT ?_
            clear hT
            unfold gT at h0
            refine dG (fun T H => ∃ aB : List aC, Has T [(0, (.msl 3 lo0p 0 (List.length aB))), (3, (eI b3)), (4, (.fn (.func cmp4_f) cmp4_a cmp4_c)), (18, (eI bQ)), (24, (eI eB))] ∧ aO ⟨H0, [lo0p], []⟩ H [(lo0p, 3, List.map aE aB)] ∧ List.length aB = N0 ∧ gK cmp4 rec aB b3 bQ eB = some r) ?_ ?_
            · clear hO hN h0
              rintro T H ⟨aB, hT, hO, hN, h0⟩
              refine bB hT ?_
              clear hT
              unfold gK at h0
              refine aY aH 8 [] [(213, (aL ((decide (bQ < eB)) && (decide (eB < b3)))))] ?_
              refine bL h0 (fun h0 => ?_) (fun h0 => ?_)
              · refine aT aH 6 ?_
                refine bH 5 ?_
                obtain ⟨x3, hx4, h0⟩ := aU h0
                refine pG [(lo0p, 3, List.map aE x3)] 0 (ih lo0p aB bQ eB b3 _ hx4) hO ?_
                intro H hO hl5
                simp only [List.length_map] at hl5
                replace hN := hl5.trans hN
                refine cJ ?_
                refine cS (l := [(0, (.msl 3 lo0p 0 (List.length x3)))]) ⟨[(0, (.msl 3 lo0p 0 (List.length aB)))], by kernel_rfl, rfl, ⟨aX.eq (by simp [hl5]), trivial⟩⟩ ?_
                obtain rfl := oI h0
                exact aK (rU (x := (.tup [])) (by kernel_rfl) (aX.refl _) ⟨rfl, hO.ext, hO.at 0 (by kernel_rfl), by simp only [List.length_map]; exact hN.trans hN0⟩)
              refine bN ?_
              obtain rfl := oI h0
              exact aK (rU (x := (.tup [])) (by kernel_rfl) (aX.refl _) ⟨rfl, hO.ext, hO.at 0 (by kernel_rfl), by simp only [List.length_map]; exact hN.trans hN0⟩)
            refine aY aH 8 [] [(199, (aL ((decide (a1 < aS)) && (decide (aS < bQ)))))] ?_
            refine bL h0 (fun h0 => ?_) (fun h0 => ?_)
            · refine aT aH 6 ?_
              refine bH 5 ?_
              obtain ⟨x7, hx8, h0⟩ := aU h0
              refine pG [(lo0p, 3, List.map aE x7)] 0 (ih lo0p aB a1 aS bQ _ hx8) hO ?_
              intro H hO hl9
              simp only [List.length_map] at hl9
              replace hN := hl9.trans hN
              refine cJ ?_
              refine cS (l := [(0, (.msl 3 lo0p 0 (List.length x7))), (3, (eI b3)), (4, (.fn (.func cmp4_f) cmp4_a cmp4_c)), (18, (eI bQ)), (24, (eI eB))]) ⟨[(0, (.msl 3 lo0p 0 (List.length aB))), (3, (eI b3)), (4, (.fn (.func cmp4_f) cmp4_a cmp4_c)), (18, (eI bQ)), (24, (eI eB))], by kernel_rfl, rfl, ⟨aX.eq (by simp [hl9]), aX.refl _, aX.refl _, aX.refl _, aX.refl _, trivial⟩⟩ ?_
              exact aK (aJ (⟨rfl, _, .eq (by kernel_rfl), hO, hN, h0⟩))
            refine bN ?_
            exact aK (aJ (⟨rfl, _, .eq (by kernel_rfl), hO, hN, h0⟩))
          refine aY aH 8 [] [(185, (aL ((decide (aS < m2)) && (decide (m2 < (wR (n19 - aS)))))))] ?_
          refine bL h0 (fun h0 => ?_) (fun h0 => ?_)
          · refine aT aH 6 ?_
            refine bH 5 ?_
            obtain ⟨x11, hx12, h0⟩ := aU h0
            refine pG [(lo0p, 3, List.map aE x11)] 0 (yG lo0p aB aS m2 (wR (n19 - aS)) cmp4_f cmp4_a cmp4_c cmp4 cmp4_h _ hx12) hO ?_
            intro H hO hl13
            simp only [List.length_map] at hl13
            replace hN := hl13.trans hN
            refine cJ ?_
            refine cS (l := [(0, (.msl 3 lo0p 0 (List.length x11))), (1, (eI a1)), (3, (eI b3)), (4, (.fn (.func cmp4_f) cmp4_a cmp4_c)), (18, (eI bQ)), (20, (eI aS)), (24, (eI (wR (n19 - aS))))]) ⟨[(0, (.msl 3 lo0p 0 (List.length aB))), (1, (eI a1)), (3, (eI b3)), (4, (.fn (.func cmp4_f) cmp4_a cmp4_c)), (18, (eI bQ)), (20, (eI aS)), (24, (eI (wR (n19 - aS))))], by kernel_rfl, rfl, ⟨aX.eq (by simp [hl13]), aX.refl _, aX.refl _, aX.refl _, aX.refl _, aX.refl _, aX.refl _, trivial⟩⟩ ?_
            exact aK (aJ (⟨rfl, _, _, .eq (by kernel_rfl), hO, hN, h0⟩))
          refine bN ?_
          exact aK (aJ (⟨rfl, _, _, .eq (by kernel_rfl), hO, hN, h0⟩))
        refine bR 8 ?_
        refine cW [(0, (.msl 3 lo0p 0 (List.length aB))), (1, (eI a1)), (2, (eI m2)), (3, (eI b3)), (4, (.fn (.func cmp4_f) cmp4_a cmp4_c)), (18, (eI bQ)), (19, (eI n19)), (20, (eI aS)), (21, (eI r21)), (22, (eI (wR (n19 - (1 : Int)))))] ?_
        refine cP (fun T H => ∃ aB : List aC, ∃ aS : Int, ∃ r21 : Int, ∃ p22 : Int, Has T [(0, (.msl 3 lo0p 0 (List.length aB))), (1, (eI a1)), (2, (eI m2)), (3, (eI b3)), (4, (.fn (.func cmp4_f) cmp4_a cmp4_c)), (18, (eI bQ)), (19, (eI n19)), (20, (eI aS)), (21, (eI r21)), (22, (eI p22))] ∧ aO ⟨H0, [lo0p], []⟩ H [(lo0p, 3, List.map aE aB)] ∧ List.length aB = N0 ∧ lG cmp4 rec aB a1 m2 b3 bQ n19 aS r21 p22 = some r) ?_ ⟨aB, aS, r21, wR (n19 - (1 : Int)), .eq (by kernel_rfl), hO, hN, h0⟩
        clear hO hN h0
        rintro T H ⟨aB, aS, r21, p22, hT, hO, hN, h0⟩
        refine bB hT ?_
        clear hT
        unfold lG at h0
        obtain ⟨rr0, hl0, h0⟩ := aU h0
        refine cD (by kernel_rfl) (fun (s : List aC × Int × Int) T H => Has T [(0, (.msl 3 lo0p 0 (List.length s.1))), (1, (eI a1)), (2, (eI m2)), (3, (eI b3)), (4, (.fn (.func cmp4_f) cmp4_a cmp4_c)), (18, (eI bQ)), (19, (eI n19)), (20, (eI s.2.1)), (21, (eI s.2.2)), (22, (eI p22))] ∧ aO ⟨H0, [lo0p], []⟩ H [(lo0p, 3, List.map aE s.1)] ∧ List.length s.1 = N0) hl0 ⟨.eq (by kernel_rfl), hO, hN⟩ ?_
        clear hO hN
        rintro k0 s out1 T H ⟨hT, hO, hN⟩ h1 ho0
        obtain ⟨aB, aS, r21⟩ := s
        replace h1 : lJ cmp4 rec a1 m2 b3 bQ n19 p22 aB aS r21 = some out1 := h1
        try dsimp only at hT
        refine bB hT ?_
        clear hT
        unfold lJ at h1
        refine aQ ?_
        refine aY aH 3 [] [(151, (aL (decide (aS < r21))))] ?_
        refine bL h1 (fun h1 => ?_) (fun h1 => ?_)
        · refine bN ?_
          refine bD [(0, (.msl 3 lo0p 0 (List.length aB))), (1, (eI a1)), (2, (eI m2)), (3, (eI b3)), (4, (.fn (.func cmp4_f) cmp4_a cmp4_c)), (18, (eI bQ)), (19, (eI n19)), (20, (eI aS)), (21, (eI r21)), (22, (eI p22))] ?_
          refine bR 9 ?_
          refine aQ ?_
          refine aT aH 7 ?_
          obtain ⟨c15, h1⟩ := bM h1
          refine AT [0 ≤ (1 : Int)] ⟨c15, trivial⟩ ?_
          refine bP [] [(23, (eI (wR (Int.fdiv (IntKind.u64.wrap (wR (aS + r21))) (2 ^ (min (Int.toNat (1 : Int)) 64))))))] ?_
          refine aQ ?_
          refine jT (jS [169]) aH 14 ?_
          obtain ⟨c16, h1⟩ := bM h1
          refine dP 6 [0 ≤ (wR (p22 - (wR (Int.fdiv (IntKind.u64.wrap (wR (aS + r21))) (2 ^ (min (Int.toNat (1 : Int)) 64)))))) ∧ (wR (p22 - (wR (Int.fdiv (IntKind.u64.wrap (wR (aS + r21))) (2 ^ (min (Int.toNat (1 : Int)) 64)))))) < (lN aB)] ⟨c16, trivial⟩ ?_
          refine lI 0 lo0p 3 (0 + Int.toNat (wR (p22 - (wR (Int.fdiv (IntKind.u64.wrap (wR (aS + r21))) (2 ^ (min (Int.toNat (1 : Int)) 64))))))) (aE (gD aB (wR (p22 - (wR (Int.fdiv (IntKind.u64.wrap (wR (aS + r21))) (2 ^ (min (Int.toNat (1 : Int)) 64)))))))) (aE (gD aB (wR (p22 - (wR (Int.fdiv (IntKind.u64.wrap (wR (aS + r21))) (2 ^ (min (Int.toNat (1 : Int)) 64)))))))) (List.map aE aB) hO (cR c16) ?_
          obtain ⟨c17, h1⟩ := bM h1
          refine dP 10 [0 ≤ (wR (Int.fdiv (IntKind.u64.wrap (wR (aS + r21))) (2 ^ (min (Int.toNat (1 : Int)) 64)))) ∧ (wR (Int.fdiv (IntKind.u64.wrap (wR (aS + r21))) (2 ^ (min (Int.toNat (1 : Int)) 64)))) < (lN aB)] ⟨c17, trivial⟩ ?_
          refine lI 0 lo0p 3 (0 + Int.toNat (wR (Int.fdiv (IntKind.u64.wrap (wR (aS + r21))) (2 ^ (min (Int.toNat (1 : Int)) 64))))) (aE (gD aB (wR (Int.fdiv (IntKind.u64.wrap (wR (aS + r21))) (2 ^ (min (Int.toNat (1 : Int)) 64)))))) (aE (gD aB (wR (Int.fdiv (IntKind.u64.wrap (wR (aS + r21))) (2 ^ (min (Int.toNat (1 : Int)) 64)))))) (List.map aE aB) hO (cR c17) ?_
          obtain ⟨x18, hx19, h1⟩ := aU h1
          refine xW (cmp4_h (gD aB (wR (p22 - (wR (Int.fdiv (IntKind.u64.wrap (wR (aS + r21))) (2 ^ (min (Int.toNat (1 : Int)) 64))))))) (gD aB (wR (Int.fdiv (IntKind.u64.wrap (wR (aS + r21))) (2 ^ (min (Int.toNat (1 : Int)) 64))))) _ hx19) hO ?_
          intro H hO
          refine qL ?_
          refine bP [] [(171, (aL (!(decide (x18 < (0 : Int))))))] ?_
          refine bL h1 (fun h1 => ?_) (fun h1 => ?_)
          · refine aT aH 3 ?_
            refine bC ?_
            exact aK (aZ (aJ (⟨rfl, _, (oI h1).symm, .eq (by kernel_rfl), hO, hN⟩)))
          refine aT aH 2 ?_
          refine bC ?_
          exact aK (aZ (aJ (⟨rfl, _, (oI h1).symm, .eq (by kernel_rfl), hO, hN⟩)))
        refine eC 8 ?_
        obtain rfl := oI h1
        obtain rfl : _ = rr0 := ho0
        replace h0 : gQ cmp4 rec aB a1 m2 b3 bQ n19 aS = some r := h0
        exact aK (aW (aW (bO (aJ (⟨rfl, _, _, .eq (by kernel_rfl), hO, hN, h0⟩)))))
      refine aY aH 3 [] [(140, (aL (decide ((wR (Int.fdiv (IntKind.u64.wrap (wR (a1 + b3))) (2 ^ (min (Int.toNat (1 : Int)) 64)))) < m2))))] ?_
      refine bL h0 (fun h0 => ?_) (fun h0 => ?_)
      · refine bV aH 4 [(0, (.msl 3 lo0p 0 (List.length aB))), (1, (eI a1)), (2, (eI m2)), (3, (eI b3)), (4, (.fn (.func cmp4_f) cmp4_a cmp4_c)), (18, (eI (wR (Int.fdiv (IntKind.u64.wrap (wR (a1 + b3))) (2 ^ (min (Int.toNat (1 : Int)) 64)))))), (19, (eI (wR ((wR (Int.fdiv (IntKind.u64.wrap (wR (a1 + b3))) (2 ^ (min (Int.toNat (1 : Int)) 64)))) + m2)))), (20, (eI (wR ((wR ((wR (Int.fdiv (IntKind.u64.wrap (wR (a1 + b3))) (2 ^ (min (Int.toNat (1 : Int)) 64)))) + m2)) - b3))))] ?_
        refine aT aH 2 ?_
        refine bC ?_
        exact aK (aJ (⟨rfl, _, _, _, _, _, .eq (by kernel_rfl), hO, hN, h0⟩))
      refine bV aH 2 [(0, (.msl 3 lo0p 0 (List.length aB))), (1, (eI a1)), (2, (eI m2)), (3, (eI b3)), (4, (.fn (.func cmp4_f) cmp4_a cmp4_c)), (18, (eI (wR (Int.fdiv (IntKind.u64.wrap (wR (a1 + b3))) (2 ^ (min (Int.toNat (1 : Int)) 64)))))), (19, (eI (wR ((wR (Int.fdiv (IntKind.u64.wrap (wR (a1 + b3))) (2 ^ (min (Int.toNat (1 : Int)) 64)))) + m2)))), (20, (eI a1))] ?_
      refine aT aH 2 ?_
      refine bC ?_
      exact aK (aJ (⟨rfl, _, _, _, _, _, .eq (by kernel_rfl), hO, hN, h0⟩))
    refine aY aH 4 [] [(80, (aL (decide ((wR (b3 - m2)) = (1 : Int)))))] ?_
    refine bL h0 (fun h0 => ?_) (fun h0 => ?_)
    · refine aY aH 2 [1, 3, 80] [(14, (eI a1))] ?_
      refine aY aH 2 [] [(15, (eI m2))] ?_
      refine dG (fun T H => ∃ aB : List aC, ∃ i14 : Int, Has T [(0, (.msl 3 lo0p 0 (List.length aB))), (2, (eI m2)), (14, (eI i14))] ∧ aO ⟨H0, [lo0p], []⟩ H [(lo0p, 3, List.map aE aB)] ∧ List.length aB = N0 ∧ gI cmp4 rec aB m2 i14 = some r) ?_ ?_
      · clear hO hN h0
        rintro T H ⟨aB, i14, hT, hO, hN, h0⟩
        refine bB hT ?_
        clear hT
        unfold gI at h0
        refine dG (fun T H => ∃ aB : List aC, Has T [(0, (.msl 3 lo0p 0 (List.length aB)))] ∧ aO ⟨H0, [lo0p], []⟩ H [(lo0p, 3, List.map aE aB)] ∧ List.length aB = N0 ∧ gL cmp4 rec aB = some r) ?_ ?_
        · clear hO hN h0
          rintro T H ⟨aB, hT, hO, hN, h0⟩
          refine bB hT ?_
          clear hT
          unfold gL at h0
          refine bI ?_
          obtain rfl := oI h0
          exact aK (bA (rB (x := (.tup [])) (by kernel_rfl) (aX.refl _) ⟨rfl, hO.ext, hO.at 0 (by kernel_rfl), by simp only [List.length_map]; exact hN.trans hN0⟩))
        refine aY aH 2 [2] [(17, (eI m2))] ?_
        refine bR 6 ?_
        refine cW [(0, (.msl 3 lo0p 0 (List.length aB))), (14, (eI i14)), (17, (eI m2))] ?_
        refine cP (fun T H => ∃ aB : List aC, ∃ k17 : Int, Has T [(0, (.msl 3 lo0p 0 (List.length aB))), (14, (eI i14)), (17, (eI k17))] ∧ aO ⟨H0, [lo0p], []⟩ H [(lo0p, 3, List.map aE aB)] ∧ List.length aB = N0 ∧ kY cmp4 rec aB i14 k17 = some r) ?_ ⟨aB, m2, .eq (by kernel_rfl), hO, hN, h0⟩
        clear hO hN h0
        rintro T H ⟨aB, k17, hT, hO, hN, h0⟩
        refine bB hT ?_
        clear hT
        unfold kY at h0
        obtain ⟨rr0, hl0, h0⟩ := aU h0
        refine cD (by kernel_rfl) (fun (s : List aC × Int) T H => Has T [(0, (.msl 3 lo0p 0 (List.length s.1))), (14, (eI i14)), (17, (eI s.2))] ∧ aO ⟨H0, [lo0p], []⟩ H [(lo0p, 3, List.map aE s.1)] ∧ List.length s.1 = N0) hl0 ⟨.eq (by kernel_rfl), hO, hN⟩ ?_
        clear hO hN
        rintro k0 s out1 T H ⟨hT, hO, hN⟩ h1 ho0
        obtain ⟨aB, k17⟩ := s
        replace h1 : kL cmp4 rec i14 aB k17 = some out1 := h1
        try dsimp only at hT
        refine bB hT ?_
        clear hT
        unfold kL at h1
        refine aQ ?_
        refine aY aH 3 [] [(110, (aL (decide (i14 < k17))))] ?_
        refine bL h1 (fun h1 => ?_) (fun h1 => ?_)
        · refine bN ?_
          refine bD [(0, (.msl 3 lo0p 0 (List.length aB))), (14, (eI i14)), (17, (eI k17))] ?_
          refine aQ ?_
          refine bR 7 ?_
          refine jT (jS []) aH 18 ?_
          obtain ⟨c25, h1⟩ := bM h1
          refine dP 9 [0 ≤ (wR (k17 - (1 : Int))) ∧ (wR (k17 - (1 : Int))) < (lN aB)] ⟨c25, trivial⟩ ?_
          refine lI 0 lo0p 3 (0 + Int.toNat (wR (k17 - (1 : Int)))) (aE (gD aB (wR (k17 - (1 : Int))))) (aE (gD aB (wR (k17 - (1 : Int))))) (List.map aE aB) hO (cR c25) ?_
          obtain ⟨c26, h1⟩ := bM h1
          refine dP 13 [0 ≤ k17 ∧ k17 < (lN aB)] ⟨c26, trivial⟩ ?_
          refine lI 0 lo0p 3 (0 + Int.toNat k17) (aE (gD aB k17)) (aE (gD aB k17)) (List.map aE aB) hO (cR c26) ?_
          obtain ⟨c27, h1⟩ := bM h1
          refine dP 15 [0 ≤ k17 ∧ k17 < (lN aB)] ⟨c27, trivial⟩ ?_
          refine sY 0 lo0p 3 (0 + Int.toNat k17) (aE (gD aB k17)) (aE (gD aB (wR (k17 - (1 : Int))))) (List.map aE aB) [(lo0p, 3, List.map aE (List.set aB (Int.toNat k17) (gD aB (wR (k17 - (1 : Int))))))] hO (cR c27) (by simp only [List.set, oQ]) ?_
          intro H hO
          replace hN : List.length (List.set aB (Int.toNat k17) (gD aB (wR (k17 - (1 : Int))))) = N0 := by simpa using hN
          obtain ⟨c28, h1⟩ := bM h1
          refine dP 17 [0 ≤ (wR (k17 - (1 : Int))) ∧ (wR (k17 - (1 : Int))) < (lN aB)] ⟨c28, trivial⟩ ?_
          refine sY 0 lo0p 3 (0 + Int.toNat (wR (k17 - (1 : Int)))) (aE (gD (List.set aB (Int.toNat k17) (gD aB (wR (k17 - (1 : Int))))) (wR (k17 - (1 : Int))))) (aE (gD aB k17)) (List.map aE (List.set aB (Int.toNat k17) (gD aB (wR (k17 - (1 : Int)))))) [(lo0p, 3, List.map aE (List.set (List.set aB (Int.toNat k17) (gD aB (wR (k17 - (1 : Int))))) (Int.toNat (wR (k17 - (1 : Int)))) (gD aB k17)))] hO (yB c28 (by simp [])) (by simp only [List.set, oQ]) ?_
          intro H hO
          replace hN : List.length (List.set (List.set aB (Int.toNat k17) (gD aB (wR (k17 - (1 : Int))))) (Int.toNat (wR (k17 - (1 : Int)))) (gD aB k17)) = N0 := by simpa using hN
          refine yK (by kernel_rfl) ?_
          refine cS (l := [(0, (.msl 3 lo0p 0 (List.length (List.set (List.set aB (Int.toNat k17) (gD aB (wR (k17 - (1 : Int))))) (Int.toNat (wR (k17 - (1 : Int)))) (gD aB k17))))), (14, (eI i14)), (17, (eI k17))]) ⟨[(0, (.msl 3 lo0p 0 (List.length aB))), (14, (eI i14)), (17, (eI k17))], by kernel_rfl, rfl, ⟨aX.eq (by simp []), aX.refl _, aX.refl _, trivial⟩⟩ ?_
          refine aK (aZ (aJ (?_)))
          refine aT aH 3 ?_
          refine bC ?_
          exact aK (aJ (⟨rfl, _, (oI h1).symm, .eq (by kernel_rfl), hO, hN⟩))
        refine eC 6 ?_
        obtain rfl := oI h1
        obtain rfl : _ = rr0 := ho0
        replace h0 : gL cmp4 rec aB = some r := h0
        exact aK (aW (aW (bO (aJ (⟨rfl, _, .eq (by kernel_rfl), hO, hN, h0⟩)))))
      refine bR 4 ?_
      refine cW [(0, (.msl 3 lo0p 0 (List.length aB))), (2, (eI m2)), (4, (.fn (.func cmp4_f) cmp4_a cmp4_c)), (14, (eI a1)), (15, (eI m2))] ?_
      refine cP (fun T H => ∃ aB : List aC, ∃ i14 : Int, ∃ j15 : Int, Has T [(0, (.msl 3 lo0p 0 (List.length aB))), (2, (eI m2)), (4, (.fn (.func cmp4_f) cmp4_a cmp4_c)), (14, (eI i14)), (15, (eI j15))] ∧ aO ⟨H0, [lo0p], []⟩ H [(lo0p, 3, List.map aE aB)] ∧ List.length aB = N0 ∧ kG cmp4 rec aB m2 i14 j15 = some r) ?_ ⟨aB, a1, m2, .eq (by kernel_rfl), hO, hN, h0⟩
      clear hO hN h0
      rintro T H ⟨aB, i14, j15, hT, hO, hN, h0⟩
      refine bB hT ?_
      clear hT
      unfold kG at h0
      obtain ⟨rr0, hl0, h0⟩ := aU h0
      refine cD (by kernel_rfl) (fun (s : List aC × Int × Int) T H => Has T [(0, (.msl 3 lo0p 0 (List.length s.1))), (2, (eI m2)), (4, (.fn (.func cmp4_f) cmp4_a cmp4_c)), (14, (eI s.2.1)), (15, (eI s.2.2))] ∧ aO ⟨H0, [lo0p], []⟩ H [(lo0p, 3, List.map aE s.1)] ∧ List.length s.1 = N0) hl0 ⟨.eq (by kernel_rfl), hO, hN⟩ ?_
      clear hO hN
      rintro k0 s out1 T H ⟨hT, hO, hN⟩ h1 ho0
      obtain ⟨aB, i14, j15⟩ := s
      replace h1 : kF cmp4 rec m2 aB i14 j15 = some out1 := h1
      try dsimp only at hT
      refine bB hT ?_
      clear hT
      unfold kF at h1
      refine aQ ?_
      refine aY aH 3 [] [(85, (aL (decide (i14 < j15))))] ?_
      refine bL h1 (fun h1 => ?_) (fun h1 => ?_)
      · refine bN ?_
        refine bD [(0, (.msl 3 lo0p 0 (List.length aB))), (2, (eI m2)), (4, (.fn (.func cmp4_f) cmp4_a cmp4_c)), (14, (eI i14)), (15, (eI j15))] ?_
        refine bR 5 ?_
        refine aQ ?_
        refine aT aH 7 ?_
        obtain ⟨c30, h1⟩ := bM h1
        refine AT [0 ≤ (1 : Int)] ⟨c30, trivial⟩ ?_
        refine bP [] [(16, (eI (wR (Int.fdiv (IntKind.u64.wrap (wR (i14 + j15))) (2 ^ (min (Int.toNat (1 : Int)) 64))))))] ?_
        refine aQ ?_
        refine jT (jS [101]) aH 12 ?_
        obtain ⟨c31, h1⟩ := bM h1
        refine dP 4 [0 ≤ m2 ∧ m2 < (lN aB)] ⟨c31, trivial⟩ ?_
        refine lI 0 lo0p 3 (0 + Int.toNat m2) (aE (gD aB m2)) (aE (gD aB m2)) (List.map aE aB) hO (cR c31) ?_
        obtain ⟨c32, h1⟩ := bM h1
        refine dP 8 [0 ≤ (wR (Int.fdiv (IntKind.u64.wrap (wR (i14 + j15))) (2 ^ (min (Int.toNat (1 : Int)) 64)))) ∧ (wR (Int.fdiv (IntKind.u64.wrap (wR (i14 + j15))) (2 ^ (min (Int.toNat (1 : Int)) 64)))) < (lN aB)] ⟨c32, trivial⟩ ?_
        refine lI 0 lo0p 3 (0 + Int.toNat (wR (Int.fdiv (IntKind.u64.wrap (wR (i14 + j15))) (2 ^ (min (Int.toNat (1 : Int)) 64))))) (aE (gD aB (wR (Int.fdiv (IntKind.u64.wrap (wR (i14 + j15))) (2 ^ (min (Int.toNat (1 : Int)) 64)))))) (aE (gD aB (wR (Int.fdiv (IntKind.u64.wrap (wR (i14 + j15))) (2 ^ (min (Int.toNat (1 : Int)) 64)))))) (List.map aE aB) hO (cR c32) ?_
        obtain ⟨x33, hx34, h1⟩ := aU h1
        refine xW (cmp4_h (gD aB m2) (gD aB (wR (Int.fdiv (IntKind.u64.wrap (wR (i14 + j15))) (2 ^ (min (Int.toNat (1 : Int)) 64))))) _ hx34) hO ?_
        intro H hO
        refine qL ?_
        refine bP [] [(103, (aL (!(decide (x33 < (0 : Int))))))] ?_
        refine bL h1 (fun h1 => ?_) (fun h1 => ?_)
        · refine aT aH 3 ?_
          refine bC ?_
          exact aK (aZ (aJ (⟨rfl, _, (oI h1).symm, .eq (by kernel_rfl), hO, hN⟩)))
        refine aT aH 2 ?_
        refine bC ?_
        exact aK (aZ (aJ (⟨rfl, _, (oI h1).symm, .eq (by kernel_rfl), hO, hN⟩)))
      refine eC 4 ?_
      obtain rfl := oI h1
      obtain rfl : _ = rr0 := ho0
      replace h0 : gI cmp4 rec aB m2 i14 = some r := h0
      exact aK (aW (aW (bO (aJ (⟨rfl, _, _, .eq (by kernel_rfl), hO, hN, h0⟩)))))
    refine bN ?_
    exact aK (aJ (⟨rfl, _, .eq (by kernel_rfl), hO, hN, h0⟩))
  refine aY aH 4 [] [(28, (aL (decide ((wR (m2 - a1)) = (1 : Int)))))] ?_
  refine bL h0 (fun h0 => ?_) (fun h0 => ?_)
  · refine aY aH 2 [2, 28] [(10, (eI m2))] ?_
    refine aY aH 2 [3] [(11, (eI b3))] ?_
    refine dG (fun T H => ∃ aB : List aC, ∃ i10 : Int, Has T [(0, (.msl 3 lo0p 0 (List.length aB))), (1, (eI a1)), (10, (eI i10))] ∧ aO ⟨H0, [lo0p], []⟩ H [(lo0p, 3, List.map aE aB)] ∧ List.length aB = N0 ∧ fY cmp4 rec aB a1 i10 = some r) ?_ ?_
    · clear hO hN h0
      rintro T H ⟨aB, i10, hT, hO, hN, h0⟩
      refine bB hT ?_
      clear hT
      unfold fY at h0
      refine dG (fun T H => ∃ aB : List aC, Has T [(0, (.msl 3 lo0p 0 (List.length aB)))] ∧ aO ⟨H0, [lo0p], []⟩ H [(lo0p, 3, List.map aE aB)] ∧ List.length aB = N0 ∧ fZ cmp4 rec aB = some r) ?_ ?_
      · clear hO hN h0
        rintro T H ⟨aB, hT, hO, hN, h0⟩
        refine bB hT ?_
        clear hT
        unfold fZ at h0
        refine bI ?_
        obtain rfl := oI h0
        exact aK (bA (rB (x := (.tup [])) (by kernel_rfl) (aX.refl _) ⟨rfl, hO.ext, hO.at 0 (by kernel_rfl), by simp only [List.length_map]; exact hN.trans hN0⟩))
      refine aY aH 2 [1] [(13, (eI a1))] ?_
      refine bR 2 ?_
      refine cW [(0, (.msl 3 lo0p 0 (List.length aB))), (10, (eI i10)), (13, (eI a1))] ?_
      refine cP (fun T H => ∃ aB : List aC, ∃ k13 : Int, Has T [(0, (.msl 3 lo0p 0 (List.length aB))), (10, (eI i10)), (13, (eI k13))] ∧ aO ⟨H0, [lo0p], []⟩ H [(lo0p, 3, List.map aE aB)] ∧ List.length aB = N0 ∧ kM cmp4 rec aB i10 k13 = some r) ?_ ⟨aB, a1, .eq (by kernel_rfl), hO, hN, h0⟩
      clear hO hN h0
      rintro T H ⟨aB, k13, hT, hO, hN, h0⟩
      refine bB hT ?_
      clear hT
      unfold kM at h0
      obtain ⟨rr0, hl0, h0⟩ := aU h0
      refine cD (by kernel_rfl) (fun (s : List aC × Int) T H => Has T [(0, (.msl 3 lo0p 0 (List.length s.1))), (10, (eI i10)), (13, (eI s.2))] ∧ aO ⟨H0, [lo0p], []⟩ H [(lo0p, 3, List.map aE s.1)] ∧ List.length s.1 = N0) hl0 ⟨.eq (by kernel_rfl), hO, hN⟩ ?_
      clear hO hN
      rintro k0 s out1 T H ⟨hT, hO, hN⟩ h1 ho0
      obtain ⟨aB, k13⟩ := s
      replace h1 : kB cmp4 rec i10 aB k13 = some out1 := h1
      try dsimp only at hT
      refine bB hT ?_
      clear hT
      unfold kB at h1
      refine aQ ?_
      refine aY aH 4 [] [(58, (aL (decide (k13 < (wR (i10 - (1 : Int)))))))] ?_
      refine bL h1 (fun h1 => ?_) (fun h1 => ?_)
      · refine bN ?_
        refine bD [(0, (.msl 3 lo0p 0 (List.length aB))), (10, (eI i10)), (13, (eI k13))] ?_
        refine aQ ?_
        refine bR 3 ?_
        refine jT (jS []) aH 18 ?_
        obtain ⟨c39, h1⟩ := bM h1
        refine dP 9 [0 ≤ (wR (k13 + (1 : Int))) ∧ (wR (k13 + (1 : Int))) < (lN aB)] ⟨c39, trivial⟩ ?_
        refine lI 0 lo0p 3 (0 + Int.toNat (wR (k13 + (1 : Int)))) (aE (gD aB (wR (k13 + (1 : Int))))) (aE (gD aB (wR (k13 + (1 : Int))))) (List.map aE aB) hO (cR c39) ?_
        obtain ⟨c40, h1⟩ := bM h1
        refine dP 13 [0 ≤ k13 ∧ k13 < (lN aB)] ⟨c40, trivial⟩ ?_
        refine lI 0 lo0p 3 (0 + Int.toNat k13) (aE (gD aB k13)) (aE (gD aB k13)) (List.map aE aB) hO (cR c40) ?_
        obtain ⟨c41, h1⟩ := bM h1
        refine dP 15 [0 ≤ k13 ∧ k13 < (lN aB)] ⟨c41, trivial⟩ ?_
        refine sY 0 lo0p 3 (0 + Int.toNat k13) (aE (gD aB k13)) (aE (gD aB (wR (k13 + (1 : Int))))) (List.map aE aB) [(lo0p, 3, List.map aE (List.set aB (Int.toNat k13) (gD aB (wR (k13 + (1 : Int))))))] hO (cR c41) (by simp only [List.set, oQ]) ?_
        intro H hO
        replace hN : List.length (List.set aB (Int.toNat k13) (gD aB (wR (k13 + (1 : Int))))) = N0 := by simpa using hN
        obtain ⟨c42, h1⟩ := bM h1
        refine dP 17 [0 ≤ (wR (k13 + (1 : Int))) ∧ (wR (k13 + (1 : Int))) < (lN aB)] ⟨c42, trivial⟩ ?_
        refine sY 0 lo0p 3 (0 + Int.toNat (wR (k13 + (1 : Int)))) (aE (gD (List.set aB (Int.toNat k13) (gD aB (wR (k13 + (1 : Int))))) (wR (k13 + (1 : Int))))) (aE (gD aB k13)) (List.map aE (List.set aB (Int.toNat k13) (gD aB (wR (k13 + (1 : Int)))))) [(lo0p, 3, List.map aE (List.set (List.set aB (Int.toNat k13) (gD aB (wR (k13 + (1 : Int))))) (Int.toNat (wR (k13 + (1 : Int)))) (gD aB k13)))] hO (yB c42 (by simp [])) (by simp only [List.set, oQ]) ?_
        intro H hO
        replace hN : List.length (List.set (List.set aB (Int.toNat k13) (gD aB (wR (k13 + (1 : Int))))) (Int.toNat (wR (k13 + (1 : Int)))) (gD aB k13)) = N0 := by simpa using hN
        refine yK (by kernel_rfl) ?_
        refine cS (l := [(0, (.msl 3 lo0p 0 (List.length (List.set (List.set aB (Int.toNat k13) (gD aB (wR (k13 + (1 : Int))))) (Int.toNat (wR (k13 + (1 : Int)))) (gD aB k13))))), (10, (eI i10)), (13, (eI k13))]) ⟨[(0, (.msl 3 lo0p 0 (List.length aB))), (10, (eI i10)), (13, (eI k13))], by kernel_rfl, rfl, ⟨aX.eq (by simp []), aX.refl _, aX.refl _, trivial⟩⟩ ?_
        refine aK (aZ (aJ (?_)))
        refine aT aH 3 ?_
        refine bC ?_
        exact aK (aJ (⟨rfl, _, (oI h1).symm, .eq (by kernel_rfl), hO, hN⟩))
      refine eC 2 ?_
      obtain rfl := oI h1
      obtain rfl : _ = rr0 := ho0
      replace h0 : fZ cmp4 rec aB = some r := h0
      exact aK (aW (aW (bO (aJ (⟨rfl, _, .eq (by kernel_rfl), hO, hN, h0⟩)))))
    refine bR 0 ?_
    refine cW [(0, (.msl 3 lo0p 0 (List.length aB))), (1, (eI a1)), (4, (.fn (.func cmp4_f) cmp4_a cmp4_c)), (10, (eI m2)), (11, (eI b3))] ?_
    refine cP (fun T H => ∃ aB : List aC, ∃ i10 : Int, ∃ j11 : Int, Has T [(0, (.msl 3 lo0p 0 (List.length aB))), (1, (eI a1)), (4, (.fn (.func cmp4_f) cmp4_a cmp4_c)), (10, (eI i10)), (11, (eI j11))] ∧ aO ⟨H0, [lo0p], []⟩ H [(lo0p, 3, List.map aE aB)] ∧ List.length aB = N0 ∧ kS cmp4 rec aB a1 i10 j11 = some r) ?_ ⟨aB, m2, b3, .eq (by kernel_rfl), hO, hN, h0⟩
    clear hO hN h0
    rintro T H ⟨aB, i10, j11, hT, hO, hN, h0⟩
    refine bB hT ?_
    clear hT
    unfold kS at h0
    obtain ⟨rr0, hl0, h0⟩ := aU h0
    refine cD (by kernel_rfl) (fun (s : List aC × Int × Int) T H => Has T [(0, (.msl 3 lo0p 0 (List.length s.1))), (1, (eI a1)), (4, (.fn (.func cmp4_f) cmp4_a cmp4_c)), (10, (eI s.2.1)), (11, (eI s.2.2))] ∧ aO ⟨H0, [lo0p], []⟩ H [(lo0p, 3, List.map aE s.1)] ∧ List.length s.1 = N0) hl0 ⟨.eq (by kernel_rfl), hO, hN⟩ ?_
    clear hO hN
    rintro k0 s out1 T H ⟨hT, hO, hN⟩ h1 ho0
    obtain ⟨aB, i10, j11⟩ := s
    replace h1 : kP cmp4 rec a1 aB i10 j11 = some out1 := h1
    try dsimp only at hT
    refine bB hT ?_
    clear hT
    unfold kP at h1
    refine aQ ?_
    refine aY aH 3 [] [(33, (aL (decide (i10 < j11))))] ?_
    refine bL h1 (fun h1 => ?_) (fun h1 => ?_)
    · refine bN ?_
      refine bD [(0, (.msl 3 lo0p 0 (List.length aB))), (1, (eI a1)), (4, (.fn (.func cmp4_f) cmp4_a cmp4_c)), (10, (eI i10)), (11, (eI j11))] ?_
      refine bR 1 ?_
      refine aQ ?_
      refine aT aH 7 ?_
      obtain ⟨c44, h1⟩ := bM h1
      refine AT [0 ≤ (1 : Int)] ⟨c44, trivial⟩ ?_
      refine bP [] [(12, (eI (wR (Int.fdiv (IntKind.u64.wrap (wR (i10 + j11))) (2 ^ (min (Int.toNat (1 : Int)) 64))))))] ?_
      refine aQ ?_
      refine jT (jS [49]) aH 11 ?_
      obtain ⟨c45, h1⟩ := bM h1
      refine dP 4 [0 ≤ (wR (Int.fdiv (IntKind.u64.wrap (wR (i10 + j11))) (2 ^ (min (Int.toNat (1 : Int)) 64)))) ∧ (wR (Int.fdiv (IntKind.u64.wrap (wR (i10 + j11))) (2 ^ (min (Int.toNat (1 : Int)) 64)))) < (lN aB)] ⟨c45, trivial⟩ ?_
      refine lI 0 lo0p 3 (0 + Int.toNat (wR (Int.fdiv (IntKind.u64.wrap (wR (i10 + j11))) (2 ^ (min (Int.toNat (1 : Int)) 64))))) (aE (gD aB (wR (Int.fdiv (IntKind.u64.wrap (wR (i10 + j11))) (2 ^ (min (Int.toNat (1 : Int)) 64)))))) (aE (gD aB (wR (Int.fdiv (IntKind.u64.wrap (wR (i10 + j11))) (2 ^ (min (Int.toNat (1 : Int)) 64)))))) (List.map aE aB) hO (cR c45) ?_
      obtain ⟨c46, h1⟩ := bM h1
      refine dP 8 [0 ≤ a1 ∧ a1 < (lN aB)] ⟨c46, trivial⟩ ?_
      refine lI 0 lo0p 3 (0 + Int.toNat a1) (aE (gD aB a1)) (aE (gD aB a1)) (List.map aE aB) hO (cR c46) ?_
      obtain ⟨x47, hx48, h1⟩ := aU h1
      refine xW (cmp4_h (gD aB (wR (Int.fdiv (IntKind.u64.wrap (wR (i10 + j11))) (2 ^ (min (Int.toNat (1 : Int)) 64))))) (gD aB a1) _ hx48) hO ?_
      intro H hO
      refine qL ?_
      refine bP [] [(50, (aL (decide (x47 < (0 : Int)))))] ?_
      refine bL h1 (fun h1 => ?_) (fun h1 => ?_)
      · refine aT aH 3 ?_
        refine bC ?_
        exact aK (aZ (aJ (⟨rfl, _, (oI h1).symm, .eq (by kernel_rfl), hO, hN⟩)))
      refine aT aH 2 ?_
      refine bC ?_
      exact aK (aZ (aJ (⟨rfl, _, (oI h1).symm, .eq (by kernel_rfl), hO, hN⟩)))
    refine eC 0 ?_
    obtain rfl := oI h1
    obtain rfl : _ = rr0 := ho0
    replace h0 : fY cmp4 rec aB a1 i10 = some r := h0
    exact aK (aW (aW (bO (aJ (⟨rfl, _, _, .eq (by kernel_rfl), hO, hN, h0⟩)))))
  refine bN ?_
  exact aK (aJ (⟨rfl, _, .eq (by kernel_rfl), hO, hN, h0⟩))

theorem oS (cmp4_f : Nat) (cmp4_a cmp4_c : List V) (cmp4 : aC → aC → Option Int) (cmp4_h : ∀ a0 a1 r, cmp4 a0 a1 = some r → bS Try.prog cmp4_f (cmp4_a ++ [(aE a0), (aE a1)] ++ cmp4_c) (eI r)) : ∀ (k : Nat) (lo0p : Nat) (aB : (List aC)) (a1 : Int) (m2 : Int) (b3 : Int) (r : List aC), gJ cmp4 k aB a1 m2 b3 = some r → lO Try.prog 128 lo0p 3 (List.map aE aB) (List.map aE r) [(.msl 3 lo0p 0 (List.length aB)), (eI a1), (eI m2), (eI b3), (.fn (.func cmp4_f) cmp4_a cmp4_c)] (.tup [])
  | 0, _, _, _, _, _, _, h => by cases h
  | k + 1, lo0p, aB, a1, m2, b3, r, h => uC cmp4_f cmp4_a cmp4_c cmp4 cmp4_h _ (oS cmp4_f cmp4_a cmp4_c cmp4 cmp4_h k) lo0p aB a1 m2 b3 r h

theorem pR (lo0p : Nat) (aB : (List aC)) (a1 : Int) (m2 : Int) (b3 : Int) (cmp4_f : Nat) (cmp4_a cmp4_c : List V) (cmp4 : aC → aC → Option Int) (cmp4_h : ∀ a0 a1 r, cmp4 a0 a1 = some r → bS Try.prog cmp4_f (cmp4_a ++ [(aE a0), (aE a1)] ++ cmp4_c) (eI r)) (r : List aC) (h0 : eP aB a1 m2 b3 cmp4 = some r) : lO Try.prog 128 lo0p 3 (List.map aE aB) (List.map aE r) [(.msl 3 lo0p 0 (List.length aB)), (eI a1), (eI m2), (eI b3), (.fn (.func cmp4_f) cmp4_a cmp4_c)] (.tup []) := by
  obtain ⟨k, hk⟩ := IL h0
  exact oS cmp4_f cmp4_a cmp4_c cmp4 cmp4_h k lo0p aB a1 m2 b3 r hk

theorem yH (lo0p : Nat) (aB : (List aC)) (n1 : Int) (cmp2_f : Nat) (cmp2_a cmp2_c : List V) (cmp2 : aC → aC → Option Int) (cmp2_h : ∀ a0 a1 r, cmp2 a0 a1 = some r → bS Try.prog cmp2_f (cmp2_a ++ [(aE a0), (aE a1)] ++ cmp2_c) (eI r)) (r : List aC) (h0 : fI aB n1 cmp2 = some r) : lO Try.prog 99 lo0p 3 (List.map aE aB) (List.map aE r) [(.msl 3 lo0p 0 (List.length aB)), (eI n1), (.fn (.func cmp2_f) cmp2_a cmp2_c)] (.tup []) := by
  intro H0 hl0
  refine cI Try.func99 ?_
  have hO := aO.rK hl0
  clear hl0
  obtain ⟨N0, hN0⟩ : ∃ n, n = List.length aB := ⟨_, rfl⟩
  have hN : List.length aB = N0 := hN0.symm
  unfold fI at h0
  refine aY aH 1 [] [(6, (eI (20 : Int)))] ?_
  refine aY aH 3 [] [(7, (eI (0 : Int))), (8, (eI (20 : Int)))] ?_
  refine dG (fun T H => ∃ aB : List aC, ∃ aP : Int, ∃ a7 : Int, Has T [(0, (.msl 3 lo0p 0 (List.length aB))), (1, (eI n1)), (2, (.fn (.func cmp2_f) cmp2_a cmp2_c)), (6, (eI aP)), (7, (eI a7))] ∧ aO ⟨H0, [lo0p], []⟩ H [(lo0p, 3, List.map aE aB)] ∧ List.length aB = N0 ∧ fA cmp2 aB n1 aP a7 = some r) ?_ ?_
  · clear hO hN h0
    rintro T H ⟨aB, aP, a7, hT, hO, hN, h0⟩
    refine bB hT ?_
    clear hT
    unfold fA at h0
    refine aQ ?_
    refine aT aH 5 ?_
    refine bH 4 ?_
    obtain ⟨x1, hx2, h0⟩ := aU h0
    refine pG [(lo0p, 3, List.map aE x1)] 0 (nV lo0p aB a7 n1 cmp2_f cmp2_a cmp2_c cmp2 cmp2_h _ hx2) hO ?_
    intro H hO hl3
    simp only [List.length_map] at hl3
    replace hN := hl3.trans hN
    refine cJ ?_
    refine cS (l := [(0, (.msl 3 lo0p 0 (List.length x1))), (1, (eI n1)), (2, (.fn (.func cmp2_f) cmp2_a cmp2_c)), (6, (eI aP))]) ⟨[(0, (.msl 3 lo0p 0 (List.length aB))), (1, (eI n1)), (2, (.fn (.func cmp2_f) cmp2_a cmp2_c)), (6, (eI aP))], by kernel_rfl, rfl, ⟨aX.eq (by simp [hl3]), aX.refl _, aX.refl _, aX.refl _, trivial⟩⟩ ?_
    refine aK (aJ (?_))
    refine bR 2 ?_
    refine cW [(0, (.msl 3 lo0p 0 (List.length x1))), (1, (eI n1)), (2, (.fn (.func cmp2_f) cmp2_a cmp2_c)), (6, (eI aP))] ?_
    refine cP (fun T H => ∃ aB : List aC, ∃ aP : Int, Has T [(0, (.msl 3 lo0p 0 (List.length aB))), (1, (eI n1)), (2, (.fn (.func cmp2_f) cmp2_a cmp2_c)), (6, (eI aP))] ∧ aO ⟨H0, [lo0p], []⟩ H [(lo0p, 3, List.map aE aB)] ∧ List.length aB = N0 ∧ iL cmp2 aB n1 aP = some r) ?_ ⟨x1, aP, .eq (by kernel_rfl), hO, hN, h0⟩
    clear hO hN h0
    rintro T H ⟨aB, aP, hT, hO, hN, h0⟩
    refine bB hT ?_
    clear hT
    unfold iL at h0
    obtain ⟨rr0, hl0, h0⟩ := aU h0
    refine cD (by kernel_rfl) (fun (s : List aC × Int) T H => Has T [(0, (.msl 3 lo0p 0 (List.length s.1))), (1, (eI n1)), (2, (.fn (.func cmp2_f) cmp2_a cmp2_c)), (6, (eI s.2))] ∧ aO ⟨H0, [lo0p], []⟩ H [(lo0p, 3, List.map aE s.1)] ∧ List.length s.1 = N0) hl0 ⟨.eq (by kernel_rfl), hO, hN⟩ ?_
    clear hO hN
    rintro k0 s out1 T H ⟨hT, hO, hN⟩ h1 ho0
    obtain ⟨aB, aP⟩ := s
    replace h1 : iG cmp2 n1 aB aP = some out1 := h1
    try dsimp only at hT
    refine bB hT ?_
    clear hT
    unfold iG at h1
    refine aQ ?_
    refine aY aH 3 [] [(30, (aL (decide (aP < n1))))] ?_
    refine bL h1 (fun h1 => ?_) (fun h1 => ?_)
    · refine bN ?_
      refine bD [(0, (.msl 3 lo0p 0 (List.length aB))), (1, (eI n1)), (2, (.fn (.func cmp2_f) cmp2_a cmp2_c)), (6, (eI aP))] ?_
      refine bR 3 ?_
      refine aY aH 4 [] [(7, (eI (0 : Int))), (8, (eI (wR ((2 : Int) * aP))))] ?_
      refine dG (fun T H => ∃ aB : List aC, ∃ a7 : Int, Has T [(0, (.msl 3 lo0p 0 (List.length aB))), (1, (eI n1)), (2, (.fn (.func cmp2_f) cmp2_a cmp2_c)), (6, (eI aP)), (7, (eI a7))] ∧ aO ⟨H0, [lo0p], []⟩ H [(lo0p, 3, List.map aE aB)] ∧ List.length aB = N0 ∧ fD cmp2 aB n1 aP a7 = some out1) ?_ ?_
      · clear hO hN h1
        rintro T H ⟨aB, a7, hT, hO, hN, h1⟩
        refine bB hT ?_
        clear hT
        unfold fD at h1
        refine dG (fun T H => ∃ aB : List aC, Has T [(0, (.msl 3 lo0p 0 (List.length aB))), (1, (eI n1)), (2, (.fn (.func cmp2_f) cmp2_a cmp2_c)), (6, (eI aP))] ∧ aO ⟨H0, [lo0p], []⟩ H [(lo0p, 3, List.map aE aB)] ∧ List.length aB = N0 ∧ iQ cmp2 aB n1 aP = some out1) ?_ ?_
        · clear hO hN h1
          rintro T H ⟨aB, hT, hO, hN, h1⟩
          refine bB hT ?_
          clear hT
          unfold iQ at h1
          refine aT aH 3 ?_
          refine bC ?_
          exact aK (aZ (aJ (⟨rfl, _, (oI h1).symm, .eq (by kernel_rfl), hO, hN⟩)))
        refine aY aH 4 [] [(9, (eI (wR (a7 + aP))))] ?_
        refine aY aH 3 [] [(54, (aL (decide ((wR (a7 + aP)) < n1))))] ?_
        refine bL h1 (fun h1 => ?_) (fun h1 => ?_)
        · refine aT aH 6 ?_
          refine bH 5 ?_
          obtain ⟨x6, hx7, h1⟩ := aU h1
          refine pG [(lo0p, 3, List.map aE x6)] 0 (pR lo0p aB a7 (wR (a7 + aP)) n1 cmp2_f cmp2_a cmp2_c cmp2 cmp2_h _ hx7) hO ?_
          intro H hO hl8
          simp only [List.length_map] at hl8
          replace hN := hl8.trans hN
          refine cJ ?_
          refine cS (l := [(0, (.msl 3 lo0p 0 (List.length x6))), (1, (eI n1)), (2, (.fn (.func cmp2_f) cmp2_a cmp2_c)), (6, (eI aP))]) ⟨[(0, (.msl 3 lo0p 0 (List.length aB))), (1, (eI n1)), (2, (.fn (.func cmp2_f) cmp2_a cmp2_c)), (6, (eI aP))], by kernel_rfl, rfl, ⟨aX.eq (by simp [hl8]), aX.refl _, aX.refl _, aX.refl _, trivial⟩⟩ ?_
          exact aK (aJ (⟨rfl, _, .eq (by kernel_rfl), hO, hN, h1⟩))
        refine bN ?_
        exact aK (aJ (⟨rfl, _, .eq (by kernel_rfl), hO, hN, h1⟩))
      refine bR 4 ?_
      refine cW [(0, (.msl 3 lo0p 0 (List.length aB))), (1, (eI n1)), (2, (.fn (.func cmp2_f) cmp2_a cmp2_c)), (6, (eI aP)), (7, (eI (0 : Int))), (8, (eI (wR ((2 : Int) * aP))))] ?_
      refine cP (fun T H => ∃ aB : List aC, ∃ a7 : Int, ∃ b8 : Int, Has T [(0, (.msl 3 lo0p 0 (List.length aB))), (1, (eI n1)), (2, (.fn (.func cmp2_f) cmp2_a cmp2_c)), (6, (eI aP)), (7, (eI a7)), (8, (eI b8))] ∧ aO ⟨H0, [lo0p], []⟩ H [(lo0p, 3, List.map aE aB)] ∧ List.length aB = N0 ∧ iP cmp2 aB n1 aP a7 b8 = some out1) ?_ ⟨aB, (0 : Int), wR ((2 : Int) * aP), .eq (by kernel_rfl), hO, hN, h1⟩
      clear hO hN h1
      rintro T H ⟨aB, a7, b8, hT, hO, hN, h1⟩
      refine bB hT ?_
      clear hT
      unfold iP at h1
      obtain ⟨rr1, hl1, h1⟩ := aU h1
      refine cD (by kernel_rfl) (fun (s : List aC × Int × Int) T H => Has T [(0, (.msl 3 lo0p 0 (List.length s.1))), (1, (eI n1)), (2, (.fn (.func cmp2_f) cmp2_a cmp2_c)), (6, (eI aP)), (7, (eI s.2.1)), (8, (eI s.2.2))] ∧ aO ⟨H0, [lo0p], []⟩ H [(lo0p, 3, List.map aE s.1)] ∧ List.length s.1 = N0) hl1 ⟨.eq (by kernel_rfl), hO, hN⟩ ?_
      clear hO hN
      rintro k1 s out2 T H ⟨hT, hO, hN⟩ h2 ho1
      obtain ⟨aB, a7, b8⟩ := s
      replace h2 : iA cmp2 n1 aP aB a7 b8 = some out2 := h2
      try dsimp only at hT
      refine bB hT ?_
      clear hT
      unfold iA at h2
      refine aQ ?_
      refine aY aH 3 [] [(35, (aL (decide (b8 ≤ n1))))] ?_
      refine bL h2 (fun h2 => ?_) (fun h2 => ?_)
      · refine bN ?_
        refine bD [(0, (.msl 3 lo0p 0 (List.length aB))), (1, (eI n1)), (2, (.fn (.func cmp2_f) cmp2_a cmp2_c)), (6, (eI aP)), (7, (eI a7)), (8, (eI b8))] ?_
        refine bR 5 ?_
        refine aQ ?_
        refine aT aH 8 ?_
        refine bH 7 ?_
        obtain ⟨x10, hx11, h2⟩ := aU h2
        refine pG [(lo0p, 3, List.map aE x10)] 0 (pR lo0p aB a7 (wR (a7 + aP)) b8 cmp2_f cmp2_a cmp2_c cmp2 cmp2_h _ hx11) hO ?_
        intro H hO hl12
        simp only [List.length_map] at hl12
        replace hN := hl12.trans hN
        refine cJ ?_
        refine cS (l := [(0, (.msl 3 lo0p 0 (List.length x10))), (1, (eI n1)), (2, (.fn (.func cmp2_f) cmp2_a cmp2_c)), (6, (eI aP)), (8, (eI b8))]) ⟨[(0, (.msl 3 lo0p 0 (List.length aB))), (1, (eI n1)), (2, (.fn (.func cmp2_f) cmp2_a cmp2_c)), (6, (eI aP)), (8, (eI b8))], by kernel_rfl, rfl, ⟨aX.eq (by simp [hl12]), aX.refl _, aX.refl _, aX.refl _, aX.refl _, trivial⟩⟩ ?_
        refine aK (aJ (?_))
        refine aY aH 2 [] [(7, (eI b8))] ?_
        refine aT aH 5 ?_
        refine bC ?_
        exact aK (aZ (aJ (⟨rfl, _, (oI h2).symm, .eq (by kernel_rfl), hO, hN⟩)))
      refine eC 4 ?_
      obtain rfl := oI h2
      obtain rfl : _ = rr1 := ho1
      replace h1 : fD cmp2 aB n1 aP a7 = some out1 := h1
      exact aK (aW (aW (bO (aJ (⟨rfl, _, _, .eq (by kernel_rfl), hO, hN, h1⟩)))))
    refine eC 2 ?_
    obtain rfl := oI h1
    obtain rfl : _ = rr0 := ho0
    replace h0 : some aB = some r := h0
    obtain rfl := oI h0
    exact aK (aW (aW (bO (rU (x := (.tup [])) (by kernel_rfl) (aX.refl _) ⟨rfl, hO.ext, hO.at 0 (by kernel_rfl), by simp only [List.length_map]; exact hN.trans hN0⟩))))
  refine bR 0 ?_
  refine cW [(0, (.msl 3 lo0p 0 (List.length aB))), (1, (eI n1)), (2, (.fn (.func cmp2_f) cmp2_a cmp2_c)), (6, (eI (20 : Int))), (7, (eI (0 : Int))), (8, (eI (20 : Int)))] ?_
  refine cP (fun T H => ∃ aB : List aC, ∃ aP : Int, ∃ a7 : Int, ∃ b8 : Int, Has T [(0, (.msl 3 lo0p 0 (List.length aB))), (1, (eI n1)), (2, (.fn (.func cmp2_f) cmp2_a cmp2_c)), (6, (eI aP)), (7, (eI a7)), (8, (eI b8))] ∧ aO ⟨H0, [lo0p], []⟩ H [(lo0p, 3, List.map aE aB)] ∧ List.length aB = N0 ∧ iH cmp2 aB n1 aP a7 b8 = some r) ?_ ⟨aB, (20 : Int), (0 : Int), (20 : Int), .eq (by kernel_rfl), hO, hN, h0⟩
  clear hO hN h0
  rintro T H ⟨aB, aP, a7, b8, hT, hO, hN, h0⟩
  refine bB hT ?_
  clear hT
  unfold iH at h0
  obtain ⟨rr0, hl0, h0⟩ := aU h0
  refine cD (by kernel_rfl) (fun (s : List aC × Int × Int) T H => Has T [(0, (.msl 3 lo0p 0 (List.length s.1))), (1, (eI n1)), (2, (.fn (.func cmp2_f) cmp2_a cmp2_c)), (6, (eI aP)), (7, (eI s.2.1)), (8, (eI s.2.2))] ∧ aO ⟨H0, [lo0p], []⟩ H [(lo0p, 3, List.map aE s.1)] ∧ List.length s.1 = N0) hl0 ⟨.eq (by kernel_rfl), hO, hN⟩ ?_
  clear hO hN
  rintro k0 s out1 T H ⟨hT, hO, hN⟩ h1 ho0
  obtain ⟨aB, a7, b8⟩ := s
  replace h1 : iN cmp2 n1 aP aB a7 b8 = some out1 := h1
  try dsimp only at hT
  refine bB hT ?_
  clear hT
  unfold iN at h1
  refine aQ ?_
  refine aY aH 3 [] [(13, (aL (decide (b8 ≤ n1))))] ?_
  refine bL h1 (fun h1 => ?_) (fun h1 => ?_)
  · refine bN ?_
    refine bD [(0, (.msl 3 lo0p 0 (List.length aB))), (1, (eI n1)), (2, (.fn (.func cmp2_f) cmp2_a cmp2_c)), (6, (eI aP)), (7, (eI a7)), (8, (eI b8))] ?_
    refine bR 1 ?_
    refine aQ ?_
    refine aT aH 5 ?_
    refine bH 4 ?_
    obtain ⟨x14, hx15, h1⟩ := aU h1
    refine pG [(lo0p, 3, List.map aE x14)] 0 (nV lo0p aB a7 b8 cmp2_f cmp2_a cmp2_c cmp2 cmp2_h _ hx15) hO ?_
    intro H hO hl16
    simp only [List.length_map] at hl16
    replace hN := hl16.trans hN
    refine cJ ?_
    refine cS (l := [(0, (.msl 3 lo0p 0 (List.length x14))), (1, (eI n1)), (2, (.fn (.func cmp2_f) cmp2_a cmp2_c)), (6, (eI aP)), (8, (eI b8))]) ⟨[(0, (.msl 3 lo0p 0 (List.length aB))), (1, (eI n1)), (2, (.fn (.func cmp2_f) cmp2_a cmp2_c)), (6, (eI aP)), (8, (eI b8))], by kernel_rfl, rfl, ⟨aX.eq (by simp [hl16]), aX.refl _, aX.refl _, aX.refl _, aX.refl _, trivial⟩⟩ ?_
    refine aK (aJ (?_))
    refine aY aH 2 [] [(7, (eI b8))] ?_
    refine aT aH 4 ?_
    refine bC ?_
    exact aK (aZ (aJ (⟨rfl, _, (oI h1).symm, .eq (by kernel_rfl), hO, hN⟩)))
  refine eC 0 ?_
  obtain rfl := oI h1
  obtain rfl : _ = rr0 := ho0
  replace h0 : fA cmp2 aB n1 aP a7 = some r := h0
  exact aK (aW (aW (bO (aJ (⟨rfl, _, _, _, .eq (by kernel_rfl), hO, hN, h0⟩)))))

theorem sM (lo0p : Nat) (x0 : (List aC)) (cmp1_f : Nat) (cmp1_a cmp1_c : List V) (cmp1 : aC → aC → Option Int) (cmp1_h : ∀ a0 a1 r, cmp1 a0 a1 = some r → bS Try.prog cmp1_f (cmp1_a ++ [(aE a0), (aE a1)] ++ cmp1_c) (eI r)) (r : List aC) (h0 : dD x0 cmp1 = some r) : lO Try.prog 60 lo0p 3 (List.map aE x0) (List.map aE r) [(.msl 3 lo0p 0 (List.length x0)), (.fn (.func cmp1_f) cmp1_a cmp1_c)] (.tup []) := by
  intro H0 hl0
  refine cI Try.func60 ?_
  have hO := aO.rK hl0
  clear hl0
  obtain ⟨N0, hN0⟩ : ∃ n, n = List.length x0 := ⟨_, rfl⟩
  have hN : List.length x0 = N0 := hN0.symm
  unfold dD at h0
  refine aT aH 5 ?_
  refine bH 4 ?_
  obtain ⟨x1, hx2, h0⟩ := aU h0
  refine pG [(lo0p, 3, List.map aE x1)] 0 (yH lo0p x0 (lN x0) cmp1_f cmp1_a cmp1_c cmp1 cmp1_h _ hx2) hO ?_
  intro H hO hl3
  simp only [List.length_map] at hl3
  replace hN := hl3.trans hN
  refine cJ ?_
  refine cS (l := [(0, (.msl 3 lo0p 0 (List.length x1)))]) ⟨[(0, (.msl 3 lo0p 0 (List.length x0)))], by kernel_rfl, rfl, ⟨aX.eq (by simp [hl3]), trivial⟩⟩ ?_
  obtain rfl := oI h0
  exact aK (rU (x := (.tup [])) (by kernel_rfl) (aX.refl _) ⟨rfl, hO.ext, hO.at 0 (by kernel_rfl), by simp only [List.length_map]; exact hN.trans hN0⟩)

theorem LX (t0 : (List aG)) (r : (Int × (List aG))) (h0 : uG t0 = some r) : BJ Try.prog 101 [(.rp (eL aM t0))] (fun lo => (.fn (.func 102) [] [(.lp lo 0 0), (.rp (eL aM r.2))])) 1 [(eI r.1)] := by
  intro H0
  refine cI Try.func101 ?_
  have hO := aO.start H0
  unfold uG at h0
  refine aY aH 1 [] [] ?_
  refine aQ ?_
  refine aT aH 2 ?_
  refine mV 1 (eI 0) (by kernel_rfl) (by kernel_rfl) hO ?_
  intro lo1 H hO
  refine jJ 0 lo1 1 0 (eI 0) (eI (-1 : Int)) [(eI 0)] [(lo1, 1, [(eI (-1 : Int))])] hO rfl (by kernel_rfl) ?_
  intro H hO
  refine cJ ?_
  refine bP [] [(2, (.lp lo1 0 0))] ?_
  refine aY aH 2 [0] [(1, (.fn (.func 102) [] [(.lp lo1 0 0), (.rp (eL aM t0))]))] ?_
  refine bI ?_
  obtain rfl := oI h0
  exact aK (rB (x := (.fn (.func 102) [] [(.lp lo1 0 0), (.rp (eL aM t0))])) (by kernel_rfl) (aX.refl _) ⟨lo1, rfl, hO⟩)

theorem uD {σ : Type} (I : σ → Gs → Prop) (s0 : (List aG)) (f1_v : V) (f1 : σ → aG → Option (σ × Bool)) (f1_h : ∀ st a0 st2 r, f1 st a0 = some (st2, r) → JE Try.prog f1_v I st [(aM a0)] st2 (aL r)) (sg0 : σ) (r : (σ × Int)) (h0 : fF s0 f1 sg0 = some r) : BN Try.prog 100 I sg0 [(eL aM s0), f1_v] r.1 (eI r.2) := by
  intro H0 G0 hI hg
  refine cI Try.func100 ?_
  obtain ⟨G, hO, hI⟩ : ∃ G, aO ⟨H0, List.map (fun p : Nat × cX => p.1) G0, G⟩ H0 [] ∧ I sg0 G := ⟨G0, aO.NG hg, hI⟩
  clear hg
  unfold fF at h0
  refine aY aH 1 [] [] ?_
  refine dG (fun T H => ∃ sg : σ, ∃ G : Gs, Has T [] ∧ aO ⟨H0, List.map (fun p : Nat × cX => p.1) G0, G⟩ H [] ∧ I sg G ∧ dJ f1 sg = some r) ?_ ?_
  · clear hO hI h0
    rintro T H ⟨sg, G, hT, hO, hI, h0⟩
    refine bB hT ?_
    clear hT
    unfold dJ at h0
    refine bV aH 1 [(4, (eI (-1 : Int)))] ?_
    refine bI ?_
    obtain rfl := oI h0
    exact aK (rB (x := (eI (-1 : Int))) (by kernel_rfl) (aX.refl _) ⟨rfl, G, hI, hO.JD⟩)
  refine aY aH 3 [] [(7, (eI (lN s0))), (8, (eI (0 : Int)))] ?_
  refine bR 0 ?_
  refine cW [(0, (eL aM s0)), (1, f1_v), (7, (eI (lN s0))), (8, (eI (0 : Int)))] ?_
  refine cP (fun T H => ∃ sg : σ, ∃ t7 : Int, ∃ t8 : Int, ∃ G : Gs, Has T [(0, (eL aM s0)), (1, f1_v), (7, (eI t7)), (8, (eI t8))] ∧ aO ⟨H0, List.map (fun p : Nat × cX => p.1) G0, G⟩ H [] ∧ I sg G ∧ eU f1 sg s0 t7 t8 = some r) ?_ ⟨sg0, (lN s0), (0 : Int), G, .eq (by kernel_rfl), hO, hI, h0⟩
  clear hO hI h0
  rintro T H ⟨sg, t7, t8, G, hT, hO, hI, h0⟩
  refine bB hT ?_
  clear hT
  unfold eU at h0
  obtain ⟨rr0, hl0, h0⟩ := aU h0
  refine cD (by kernel_rfl) (fun (s : σ × Int) T H => ∃ G : Gs, Has T [(0, (eL aM s0)), (1, f1_v), (7, (eI t7)), (8, (eI s.2))] ∧ aO ⟨H0, List.map (fun p : Nat × cX => p.1) G0, G⟩ H [] ∧ I s.1 G) hl0 ⟨G, .eq (by kernel_rfl), hO, hI⟩ ?_
  clear hO hI
  rintro k0 s out1 T H ⟨G, hT, hO, hI⟩ h1 ho0
  obtain ⟨sg, t8⟩ := s
  replace h1 : bU f1 s0 t7 sg t8 = some out1 := h1
  try dsimp only at hT
  refine bB hT ?_
  clear hT
  unfold bU at h1
  refine aY aH 1 [] [(9, (aL (decide (t8 < t7))))] ?_
  refine aQ ?_
  refine bL h1 (fun h1 => ?_) (fun h1 => ?_)
  · refine bN ?_
    refine bD [(0, (eL aM s0)), (1, f1_v), (7, (eI t7)), (8, (eI t8))] ?_
    refine aQ ?_
    refine bR 1 ?_
    refine aY aH 2 [] [(5, (eI t8))] ?_
    refine aQ ?_
    refine aT aH 6 ?_
    obtain ⟨c2, h1⟩ := bM h1
    refine sC 5 [0 ≤ t8 ∧ t8 < (lN s0)] ⟨c2, trivial⟩ ?_
    obtain ⟨x3, hx4, h1⟩ := aU h1
    refine XL (I := I) f1_v [(aM (gD s0 t8))] (aL x3.2) (by kernel_rfl) (by kernel_rfl) (f1_h _ (gD s0 t8) x3.1 x3.2 hx4) hO hI ?_
    intro G H hO hI
    refine cJ ?_
    refine bP [] [(16, (aL x3.2))] ?_
    refine bL h1 (fun h1 => ?_) (fun h1 => ?_)
    · refine bV aH 2 [(4, (eI t8))] ?_
      refine bI ?_
      obtain rfl := oI h1
      obtain rfl : _ = rr0 := ho0
      replace h0 : some (x3.1, t8) = some r := h0
      obtain rfl := oI h0
      exact aK (bY (bA (bA (bY (bA (rB (x := (eI t8)) (by kernel_rfl) (aX.refl _) ⟨rfl, G, hI, hO.JD⟩))))))
    refine bN ?_
    refine dK [(0, (eL aM s0)), (1, f1_v), (7, (eI t7)), (8, (eI t8))] ?_
    refine aK (aZ (aJ (?_)))
    refine aT aH 2 ?_
    refine bC ?_
    exact aK (aJ (⟨rfl, _, (oI h1).symm, _, .eq (by kernel_rfl), hO, hI⟩))
  refine eC 0 ?_
  obtain rfl := oI h1
  obtain rfl : _ = rr0 := ho0
  replace h0 : dJ f1 sg = some r := h0
  exact aK (aW (aW (bO (aJ (⟨rfl, _, _, .eq (by kernel_rfl), hO, hI, h0⟩)))))

theorem JR (v0 : aG) (lo1p : Nat) (t1 : Int) (t2 : (List aG)) (r : (Bool × Int)) (h0 : jG v0 t1 t2 = some r) : lO Try.prog 102 lo1p 1 [(eI t1)] [(eI r.2)] [(aM v0), (.lp lo1p 0 0), (.rp (eL aM t2))] (aL r.1) := by
  intro H0 hl0
  refine cI Try.func102 ?_
  have hO := aO.rK hl0
  clear hl0
  unfold jG at h0
  refine aQ ?_
  refine aT aH 2 ?_
  refine gW 3 (aM v0) (by kernel_rfl) (by kernel_rfl) ?_
  refine bC ?_
  refine bP [0] [(3, (.rp (aM v0)))] ?_
  refine aQ ?_
  refine aT aH 3 ?_
  refine jN 0 lo1p 1 0 (eI t1) (eI t1) [(eI t1)] hO rfl ?_
  refine bH 2 ?_
  refine jJ 0 lo1p 1 0 (eI t1) (eI (wR (t1 + (1 : Int)))) [(eI t1)] [(lo1p, 1, [(eI (wR (t1 + (1 : Int))))])] hO rfl (by kernel_rfl) ?_
  intro H hO
  refine cJ ?_
  refine bP [] [] ?_
  refine aQ ?_
  refine jT (jS [7, 8, 11]) aH 7 ?_
  refine sD 2 ?_
  refine lI 0 lo1p 1 0 (eI (wR (t1 + (1 : Int)))) (eI (wR (t1 + (1 : Int)))) [(eI (wR (t1 + (1 : Int))))] hO rfl ?_
  obtain ⟨c1, h0⟩ := bM h0
  refine RQ (Ds := [0 ≤ (wR (t1 + (1 : Int))) ∧ (wR (t1 + (1 : Int))) < (lN t2)]) (by kernel_rfl) ⟨c1, trivial⟩ ?_
  refine bD [(1, (.lp lo1p 0 0)), (4, (aL (!((decide (v0.Kind = ((gD t2 (wR (t1 + (1 : Int)))).Kind))) && ((decide (v0.Num = ((gD t2 (wR (t1 + (1 : Int)))).Num))) && ((pH v0.Text ((gD t2 (wR (t1 + (1 : Int)))).Text)) && true))))))] ?_
  refine bI ?_
  obtain rfl := oI h0
  exact aK (rB (x := (aL (!((decide (v0.Kind = ((gD t2 (wR (t1 + (1 : Int)))).Kind))) && ((decide (v0.Num = ((gD t2 (wR (t1 + (1 : Int)))).Num))) && ((pH v0.Text ((gD t2 (wR (t1 + (1 : Int)))).Text)) && true)))))) (by kernel_rfl) (aX.refl _) ⟨rfl, hO.ext, hO.at 0 (by kernel_rfl), rfl⟩)

theorem uI (x0 : Int) (r : Bool) (h0 : jM x0 = some r) : bS Try.prog 104 [(eI x0)] (aL r) := by
  intro H0
  refine cI Try.func104 ?_
  have hO := aO.start H0
  unfold jM at h0
  refine aY aH 1 [] [] ?_
  refine bV aH 4 [(2, (aL (!decide (x0 = x0))))] ?_
  refine bI ?_
  obtain rfl := oI h0
  exact aK (Q_r hO)

theorem wD (x0 : Int) (y1 : Int) (r : Int) (h0 : jF x0 y1 = some r) : bS Try.prog 64 [(eI x0), (eI y1)] (eI r) := by
  intro H0
  refine cI Try.func64 ?_
  have hO := aO.start H0
  unfold jF at h0
  refine aY aH 1 [] [] ?_
  refine aQ ?_
  refine aT aH 3 ?_
  refine bH 1 ?_
  obtain ⟨x1, hx2, h0⟩ := aU h0
  refine cH (uI x0 _ hx2) hO ?_
  intro H hO
  refine bC ?_
  refine bP [] [(5, (aL x1))] ?_
  refine aQ ?_
  refine aT aH 3 ?_
  refine bH 1 ?_
  obtain ⟨x4, hx5, h0⟩ := aU h0
  refine cH (uI y1 _ hx5) hO ?_
  intro H hO
  refine bC ?_
  refine bP [] [(6, (aL x4))] ?_
  refine aQ ?_
  refine aY aH 1 [5] [(11, (aL x1))] ?_
  refine bL h0 (fun h0 => ?_) (fun h0 => ?_)
  · refine aQ ?_
    refine bV aH 1 [(12, (aL x4))] ?_
    refine bL h0 (fun h0 => ?_) (fun h0 => ?_)
    · refine bV aH 1 [(4, (eI (0 : Int)))] ?_
      refine bI ?_
      obtain rfl := oI h0
      exact aK (bA (bA (Q_r hO)))
    refine bN ?_
    refine bD [] ?_
    refine bV aH 1 [(4, (eI (-1 : Int)))] ?_
    refine bI ?_
    obtain rfl := oI h0
    exact aK (bA (Q_r hO))
  refine bN ?_
  refine bD [(0, (eI x0)), (1, (eI y1)), (6, (aL x4))] ?_
  refine aQ ?_
  refine aY aH 1 [6] [(13, (aL x4))] ?_
  refine bL h0 (fun h0 => ?_) (fun h0 => ?_)
  · refine bV aH 1 [(4, (eI (1 : Int)))] ?_
    refine bI ?_
    obtain rfl := oI h0
    exact aK (bA (Q_r hO))
  refine bN ?_
  refine bD [(0, (eI x0)), (1, (eI y1))] ?_
  refine aQ ?_
  refine aY aH 3 [] [(16, (aL (decide (x0 < y1))))] ?_
  refine bL h0 (fun h0 => ?_) (fun h0 => ?_)
  · refine bV aH 1 [(4, (eI (-1 : Int)))] ?_
    refine bI ?_
    obtain rfl := oI h0
    exact aK (bA (Q_r hO))
  refine bN ?_
  refine bD [(0, (eI x0)), (1, (eI y1))] ?_
  refine aQ ?_
  refine bV aH 3 [(19, (aL (decide (y1 < x0))))] ?_
  refine bL h0 (fun h0 => ?_) (fun h0 => ?_)
  · refine bV aH 1 [(4, (eI (1 : Int)))] ?_
    refine bI ?_
    obtain rfl := oI h0
    exact aK (bA (Q_r hO))
  refine bN ?_
  refine bD [] ?_
  refine bV aH 1 [(4, (eI (0 : Int)))] ?_
  refine bI ?_
  obtain rfl := oI h0
  exact aK (Q_r hO)

theorem vD (x0 : Int) (r : Bool) (h0 : jQ x0 = some r) : bS Try.prog 138 [(eI x0)] (aL r) := by
  intro H0
  refine cI Try.func138 ?_
  have hO := aO.start H0
  unfold jQ at h0
  refine aY aH 1 [] [] ?_
  refine bV aH 4 [(2, (aL (!decide (x0 = x0))))] ?_
  refine bI ?_
  obtain rfl := oI h0
  exact aK (Q_r hO)

theorem AY (x0 : Int) (y1 : Int) (r : Int) (h0 : eF x0 y1 = some r) : bS Try.prog 129 [(eI x0), (eI y1)] (eI r) := by
  intro H0
  refine cI Try.func129 ?_
  have hO := aO.start H0
  unfold eF at h0
  refine aY aH 1 [] [] ?_
  refine aQ ?_
  refine aT aH 3 ?_
  refine bH 1 ?_
  obtain ⟨x1, hx2, h0⟩ := aU h0
  refine cH (vD x0 _ hx2) hO ?_
  intro H hO
  refine bC ?_
  refine bP [] [(5, (aL x1))] ?_
  refine aQ ?_
  refine aT aH 3 ?_
  refine bH 1 ?_
  obtain ⟨x4, hx5, h0⟩ := aU h0
  refine cH (vD y1 _ hx5) hO ?_
  intro H hO
  refine bC ?_
  refine bP [] [(6, (aL x4))] ?_
  refine aQ ?_
  refine aY aH 1 [5] [(11, (aL x1))] ?_
  refine bL h0 (fun h0 => ?_) (fun h0 => ?_)
  · refine aQ ?_
    refine bV aH 1 [(12, (aL x4))] ?_
    refine bL h0 (fun h0 => ?_) (fun h0 => ?_)
    · refine bV aH 1 [(4, (eI (0 : Int)))] ?_
      refine bI ?_
      obtain rfl := oI h0
      exact aK (bA (bA (Q_r hO)))
    refine bN ?_
    refine bD [] ?_
    refine bV aH 1 [(4, (eI (-1 : Int)))] ?_
    refine bI ?_
    obtain rfl := oI h0
    exact aK (bA (Q_r hO))
  refine bN ?_
  refine bD [(0, (eI x0)), (1, (eI y1)), (6, (aL x4))] ?_
  refine aQ ?_
  refine aY aH 1 [6] [(13, (aL x4))] ?_
  refine bL h0 (fun h0 => ?_) (fun h0 => ?_)
  · refine bV aH 1 [(4, (eI (1 : Int)))] ?_
    refine bI ?_
    obtain rfl := oI h0
    exact aK (bA (Q_r hO))
  refine bN ?_
  refine bD [(0, (eI x0)), (1, (eI y1))] ?_
  refine aQ ?_
  refine aY aH 3 [] [(16, (aL (decide (x0 < y1))))] ?_
  refine bL h0 (fun h0 => ?_) (fun h0 => ?_)
  · refine bV aH 1 [(4, (eI (-1 : Int)))] ?_
    refine bI ?_
    obtain rfl := oI h0
    exact aK (bA (Q_r hO))
  refine bN ?_
  refine bD [(0, (eI x0)), (1, (eI y1))] ?_
  refine aQ ?_
  refine bV aH 3 [(19, (aL (decide (y1 < x0))))] ?_
  refine bL h0 (fun h0 => ?_) (fun h0 => ?_)
  · refine bV aH 1 [(4, (eI (1 : Int)))] ?_
    refine bI ?_
    obtain rfl := oI h0
    exact aK (bA (Q_r hO))
  refine bN ?_
  refine bD [] ?_
  refine bV aH 1 [(4, (eI (0 : Int)))] ?_
  refine bI ?_
  obtain rfl := oI h0
  exact aK (Q_r hO)

theorem xR (a0 : ByteArray) (b1 : ByteArray) (r : Int) (h0 : iD a0 b1 = some r) : bS Try.prog 139 [(zL a0), (zL b1)] (eI r) := by
  intro H0
  refine cI Try.func139 ?_
  have hO := aO.start H0
  unfold iD at h0
  refine aY aH 1 [] [] ?_
  refine aQ ?_
  refine aT aH 4 ?_
  refine bH 2 ?_
  refine aCd 143 [(zL a0), (zL b1)] (eI (OU a0 b1)) (by kernel_rfl) (by kernel_rfl) (aBA Try.func143 (by kernel_rfl) (by kernel_rfl) (by kernel_rfl) (by kernel_rfl) a0 b1) hO ?_
  intro H hO
  refine bC ?_
  refine bD [(4, (eI (OU a0 b1)))] ?_
  refine bI ?_
  obtain rfl := oI h0
  exact aK (Q_r hO)

theorem JP (a0 : ByteArray) (b1 : ByteArray) (r : Int) (h0 : nG a0 b1 = some r) : bS Try.prog 130 [(zL a0), (zL b1)] (eI r) := by
  intro H0
  refine cI Try.func130 ?_
  have hO := aO.start H0
  unfold nG at h0
  refine aY aH 1 [] [] ?_
  refine aQ ?_
  refine aT aH 4 ?_
  refine bH 2 ?_
  obtain ⟨x1, hx2, h0⟩ := aU h0
  refine cH (xR a0 b1 _ hx2) hO ?_
  intro H hO
  refine bC ?_
  refine bD [(4, (eI x1))] ?_
  refine bI ?_
  obtain rfl := oI h0
  exact aK (Q_r hO)

theorem MU (a0 : aG) (b1 : aG) (r : Int) (h0 : rE a0 b1 = some r) : bS Try.prog 103 [(aM a0), (aM b1)] (eI r) := by
  intro H0
  refine cI Try.func103 ?_
  have hO := aO.start H0
  unfold rE at h0
  refine aQ ?_
  refine aT aH 3 ?_
  refine gW 3 (aM a0) (by kernel_rfl) (by kernel_rfl) ?_
  refine gW 3 (aM b1) (by kernel_rfl) (by kernel_rfl) ?_
  refine bC ?_
  refine bD [(2, (.rp (aM a0))), (3, (.rp (aM b1)))] ?_
  refine aQ ?_
  refine aT aH 7 ?_
  refine bH 1 ?_
  obtain ⟨⟨x1_0, x1_1⟩, hx2, h0⟩ := aU h0
  refine cH (yX a0 _ hx2) hO ?_
  intro H hO
  rcases x1_0 with _ | y4 | y5
  · replace h0 : ((lV b1).bind fun (x6_0, x6_1) => match x6_0 with | .none_ => (cond ((!x1_1) || (!x6_1)) (some (0 : Int)) (none)) | .k_number y9 => (cond ((!x1_1) || (!x6_1)) (some (0 : Int)) (some (1 : Int))) | .k_words y10 => (cond ((!x1_1) || (!x6_1)) (some (0 : Int)) (none))) = some r := h0
    refine bC ?_
    refine bP [2] [(5, (bE bG.none_)), (6, (aL x1_1))] ?_
    refine aQ ?_
    refine aT aH 7 ?_
    refine bH 1 ?_
    obtain ⟨⟨x6_0, x6_1⟩, hx7, h0⟩ := aU h0
    refine cH (yX b1 _ hx7) hO ?_
    intro H hO
    rcases x6_0 with _ | y9 | y10
    · replace h0 : (cond ((!x1_1) || (!x6_1)) (some (0 : Int)) (none)) = some r := h0
      refine bC ?_
      refine bP [3] [(7, (bE bG.none_)), (8, (aL x6_1))] ?_
      refine aQ ?_
      refine aY aH 6 [6, 8] [(28, (aL ((!x1_1) || (!x6_1))))] ?_
      refine bL h0 (fun h0 => ?_) (fun h0 => ?_)
      · refine bV aH 1 [(4, (eI (0 : Int)))] ?_
        refine bI ?_
        obtain rfl := oI h0
        exact aK (bA (Q_r hO))
      refine bN ?_
      refine bD [(5, (bE bG.none_)), (7, (bE bG.none_))] ?_
      refine aY aH 7 [] [(9, (eI 0)), (10, (aL false))] ?_
      refine aY aH 7 [] [(11, (eI 0)), (12, (aL false))] ?_
      refine aQ ?_
      refine bR 0 ?_
      refine aY aH 5 [] [(39, (aL false))] ?_
      refine oX (false) (fun hc12 => ?_) (fun hc12 => ?_)
      · cases hc12
      · refine aY aH 2 [9, 10, 11, 39] [(47, (aL false))] ?_
        refine oX (false) (fun hc13 => ?_) (fun hc13 => ?_)
        · cases hc13
        · refine bV aH 2 [(5, (bE bG.none_)), (7, (bE bG.none_)), (49, (aL false))] ?_
          refine oX (false) (fun hc14 => ?_) (fun hc14 => ?_)
          · cases hc14
          · refine bN ?_
            refine dK [(5, (bE bG.none_)), (7, (bE bG.none_))] ?_
            refine aK (aZ (aJ (?_)))
            refine aQ ?_
            refine jT (jS []) aH 6 ?_
            cases h0
    · replace h0 : (cond ((!x1_1) || (!x6_1)) (some (0 : Int)) (some (1 : Int))) = some r := h0
      refine bC ?_
      refine bP [3] [(7, (bE (bG.k_number y9))), (8, (aL x6_1))] ?_
      refine aQ ?_
      refine aY aH 6 [6, 8] [(28, (aL ((!x1_1) || (!x6_1))))] ?_
      refine bL h0 (fun h0 => ?_) (fun h0 => ?_)
      · refine bV aH 1 [(4, (eI (0 : Int)))] ?_
        refine bI ?_
        obtain rfl := oI h0
        exact aK (bA (Q_r hO))
      refine bN ?_
      refine bD [(5, (bE bG.none_)), (7, (bE (bG.k_number y9)))] ?_
      refine aY aH 7 [] [(9, (eI 0)), (10, (aL false))] ?_
      refine aY aH 7 [] [(11, (eI y9)), (12, (aL true))] ?_
      refine aQ ?_
      refine bR 0 ?_
      refine aY aH 5 [] [(39, (aL false))] ?_
      refine oX (false) (fun hc16 => ?_) (fun hc16 => ?_)
      · cases hc16
      · refine aY aH 2 [9, 10, 11, 39] [(47, (aL false))] ?_
        refine oX (false) (fun hc17 => ?_) (fun hc17 => ?_)
        · cases hc17
        · refine bV aH 2 [(5, (bE bG.none_)), (7, (bE (bG.k_number y9))), (49, (aL true))] ?_
          refine oX (true) (fun hc18 => ?_) (fun hc18 => ?_)
          · refine bV aH 1 [(4, (eI (1 : Int)))] ?_
            refine bI ?_
            obtain rfl := oI h0
            exact aK (bY (bA (Q_r hO)))
          · cases hc18
    · replace h0 : (cond ((!x1_1) || (!x6_1)) (some (0 : Int)) (none)) = some r := h0
      refine bC ?_
      refine bP [3] [(7, (bE (bG.k_words y10))), (8, (aL x6_1))] ?_
      refine aQ ?_
      refine aY aH 6 [6, 8] [(28, (aL ((!x1_1) || (!x6_1))))] ?_
      refine bL h0 (fun h0 => ?_) (fun h0 => ?_)
      · refine bV aH 1 [(4, (eI (0 : Int)))] ?_
        refine bI ?_
        obtain rfl := oI h0
        exact aK (bA (Q_r hO))
      refine bN ?_
      refine bD [(5, (bE bG.none_)), (7, (bE (bG.k_words y10)))] ?_
      refine aY aH 7 [] [(9, (eI 0)), (10, (aL false))] ?_
      refine aY aH 7 [] [(11, (eI 0)), (12, (aL false))] ?_
      refine aQ ?_
      refine bR 0 ?_
      refine aY aH 5 [] [(39, (aL false))] ?_
      refine oX (false) (fun hc20 => ?_) (fun hc20 => ?_)
      · cases hc20
      · refine aY aH 2 [9, 10, 11, 39] [(47, (aL false))] ?_
        refine oX (false) (fun hc21 => ?_) (fun hc21 => ?_)
        · cases hc21
        · refine bV aH 2 [(5, (bE bG.none_)), (7, (bE (bG.k_words y10))), (49, (aL false))] ?_
          refine oX (false) (fun hc22 => ?_) (fun hc22 => ?_)
          · cases hc22
          · refine bN ?_
            refine dK [(5, (bE bG.none_)), (7, (bE (bG.k_words y10)))] ?_
            refine aK (aZ (aJ (?_)))
            refine aQ ?_
            refine jT (jS []) aH 6 ?_
            cases h0
  · replace h0 : ((lV b1).bind fun (x23_0, x23_1) => match x23_0 with | .none_ => (cond ((!x1_1) || (!x23_1)) (some (0 : Int)) (some (-1 : Int))) | .k_number y26 => (cond ((!x1_1) || (!x23_1)) (some (0 : Int)) ((eF y4 y26).bind fun x33 => some x33)) | .k_words y27 => (cond ((!x1_1) || (!x23_1)) (some (0 : Int)) (some (-1 : Int)))) = some r := h0
    refine bC ?_
    refine bP [2] [(5, (bE (bG.k_number y4))), (6, (aL x1_1))] ?_
    refine aQ ?_
    refine aT aH 7 ?_
    refine bH 1 ?_
    obtain ⟨⟨x23_0, x23_1⟩, hx24, h0⟩ := aU h0
    refine cH (yX b1 _ hx24) hO ?_
    intro H hO
    rcases x23_0 with _ | y26 | y27
    · replace h0 : (cond ((!x1_1) || (!x23_1)) (some (0 : Int)) (some (-1 : Int))) = some r := h0
      refine bC ?_
      refine bP [3] [(7, (bE bG.none_)), (8, (aL x23_1))] ?_
      refine aQ ?_
      refine aY aH 6 [6, 8] [(28, (aL ((!x1_1) || (!x23_1))))] ?_
      refine bL h0 (fun h0 => ?_) (fun h0 => ?_)
      · refine bV aH 1 [(4, (eI (0 : Int)))] ?_
        refine bI ?_
        obtain rfl := oI h0
        exact aK (bA (Q_r hO))
      refine bN ?_
      refine bD [(5, (bE (bG.k_number y4))), (7, (bE bG.none_))] ?_
      refine aY aH 7 [] [(9, (eI y4)), (10, (aL true))] ?_
      refine aY aH 7 [] [(11, (eI 0)), (12, (aL false))] ?_
      refine aQ ?_
      refine bR 0 ?_
      refine aY aH 5 [] [(39, (aL false))] ?_
      refine oX (false) (fun hc29 => ?_) (fun hc29 => ?_)
      · cases hc29
      · refine aY aH 2 [9, 10, 11, 39] [(47, (aL true))] ?_
        refine oX (true) (fun hc30 => ?_) (fun hc30 => ?_)
        · refine bV aH 1 [(4, (eI (-1 : Int)))] ?_
          refine bI ?_
          obtain rfl := oI h0
          exact aK (bY (bA (Q_r hO)))
        · cases hc30
    · replace h0 : (cond ((!x1_1) || (!x23_1)) (some (0 : Int)) ((eF y4 y26).bind fun x33 => some x33)) = some r := h0
      refine bC ?_
      refine bP [3] [(7, (bE (bG.k_number y26))), (8, (aL x23_1))] ?_
      refine aQ ?_
      refine aY aH 6 [6, 8] [(28, (aL ((!x1_1) || (!x23_1))))] ?_
      refine bL h0 (fun h0 => ?_) (fun h0 => ?_)
      · refine bV aH 1 [(4, (eI (0 : Int)))] ?_
        refine bI ?_
        obtain rfl := oI h0
        exact aK (bA (Q_r hO))
      refine bN ?_
      refine bD [(5, (bE (bG.k_number y4))), (7, (bE (bG.k_number y26)))] ?_
      refine aY aH 7 [] [(9, (eI y4)), (10, (aL true))] ?_
      refine aY aH 7 [] [(11, (eI y26)), (12, (aL true))] ?_
      refine aQ ?_
      refine bR 0 ?_
      refine aY aH 5 [] [(39, (aL true))] ?_
      refine oX (true) (fun hc32 => ?_) (fun hc32 => ?_)
      · refine aQ ?_
        refine aT aH 4 ?_
        refine bH 2 ?_
        obtain ⟨x33, hx34, h0⟩ := aU h0
        refine cH (AY y4 y26 _ hx34) hO ?_
        intro H hO
        refine bC ?_
        refine bD [(4, (eI x33))] ?_
        refine bI ?_
        obtain rfl := oI h0
        exact aK (bY (bA (Q_r hO)))
      · cases hc32
    · replace h0 : (cond ((!x1_1) || (!x23_1)) (some (0 : Int)) (some (-1 : Int))) = some r := h0
      refine bC ?_
      refine bP [3] [(7, (bE (bG.k_words y27))), (8, (aL x23_1))] ?_
      refine aQ ?_
      refine aY aH 6 [6, 8] [(28, (aL ((!x1_1) || (!x23_1))))] ?_
      refine bL h0 (fun h0 => ?_) (fun h0 => ?_)
      · refine bV aH 1 [(4, (eI (0 : Int)))] ?_
        refine bI ?_
        obtain rfl := oI h0
        exact aK (bA (Q_r hO))
      refine bN ?_
      refine bD [(5, (bE (bG.k_number y4))), (7, (bE (bG.k_words y27)))] ?_
      refine aY aH 7 [] [(9, (eI y4)), (10, (aL true))] ?_
      refine aY aH 7 [] [(11, (eI 0)), (12, (aL false))] ?_
      refine aQ ?_
      refine bR 0 ?_
      refine aY aH 5 [] [(39, (aL false))] ?_
      refine oX (false) (fun hc37 => ?_) (fun hc37 => ?_)
      · cases hc37
      · refine aY aH 2 [9, 10, 11, 39] [(47, (aL true))] ?_
        refine oX (true) (fun hc38 => ?_) (fun hc38 => ?_)
        · refine bV aH 1 [(4, (eI (-1 : Int)))] ?_
          refine bI ?_
          obtain rfl := oI h0
          exact aK (bY (bA (Q_r hO)))
        · cases hc38
  · replace h0 : ((lV b1).bind fun (x39_0, x39_1) => match x39_0 with | .none_ => (cond ((!x1_1) || (!x39_1)) (some (0 : Int)) (none)) | .k_number y42 => (cond ((!x1_1) || (!x39_1)) (some (0 : Int)) (some (1 : Int))) | .k_words y43 => (cond ((!x1_1) || (!x39_1)) (some (0 : Int)) ((nG y5 y43).bind fun x56 => some x56))) = some r := h0
    refine bC ?_
    refine bP [2] [(5, (bE (bG.k_words y5))), (6, (aL x1_1))] ?_
    refine aQ ?_
    refine aT aH 7 ?_
    refine bH 1 ?_
    obtain ⟨⟨x39_0, x39_1⟩, hx40, h0⟩ := aU h0
    refine cH (yX b1 _ hx40) hO ?_
    intro H hO
    rcases x39_0 with _ | y42 | y43
    · replace h0 : (cond ((!x1_1) || (!x39_1)) (some (0 : Int)) (none)) = some r := h0
      refine bC ?_
      refine bP [3] [(7, (bE bG.none_)), (8, (aL x39_1))] ?_
      refine aQ ?_
      refine aY aH 6 [6, 8] [(28, (aL ((!x1_1) || (!x39_1))))] ?_
      refine bL h0 (fun h0 => ?_) (fun h0 => ?_)
      · refine bV aH 1 [(4, (eI (0 : Int)))] ?_
        refine bI ?_
        obtain rfl := oI h0
        exact aK (bA (Q_r hO))
      refine bN ?_
      refine bD [(5, (bE (bG.k_words y5))), (7, (bE bG.none_))] ?_
      refine aY aH 7 [] [(9, (eI 0)), (10, (aL false))] ?_
      refine aY aH 7 [] [(11, (eI 0)), (12, (aL false))] ?_
      refine aQ ?_
      refine bR 0 ?_
      refine aY aH 5 [] [(39, (aL false))] ?_
      refine oX (false) (fun hc45 => ?_) (fun hc45 => ?_)
      · cases hc45
      · refine aY aH 2 [9, 10, 11, 39] [(47, (aL false))] ?_
        refine oX (false) (fun hc46 => ?_) (fun hc46 => ?_)
        · cases hc46
        · refine bV aH 2 [(5, (bE (bG.k_words y5))), (7, (bE bG.none_)), (49, (aL false))] ?_
          refine oX (false) (fun hc47 => ?_) (fun hc47 => ?_)
          · cases hc47
          · refine bN ?_
            refine dK [(5, (bE (bG.k_words y5))), (7, (bE bG.none_))] ?_
            refine aK (aZ (aJ (?_)))
            refine aQ ?_
            refine jT (jS []) aH 6 ?_
            cases h0
    · replace h0 : (cond ((!x1_1) || (!x39_1)) (some (0 : Int)) (some (1 : Int))) = some r := h0
      refine bC ?_
      refine bP [3] [(7, (bE (bG.k_number y42))), (8, (aL x39_1))] ?_
      refine aQ ?_
      refine aY aH 6 [6, 8] [(28, (aL ((!x1_1) || (!x39_1))))] ?_
      refine bL h0 (fun h0 => ?_) (fun h0 => ?_)
      · refine bV aH 1 [(4, (eI (0 : Int)))] ?_
        refine bI ?_
        obtain rfl := oI h0
        exact aK (bA (Q_r hO))
      refine bN ?_
      refine bD [(5, (bE (bG.k_words y5))), (7, (bE (bG.k_number y42)))] ?_
      refine aY aH 7 [] [(9, (eI 0)), (10, (aL false))] ?_
      refine aY aH 7 [] [(11, (eI y42)), (12, (aL true))] ?_
      refine aQ ?_
      refine bR 0 ?_
      refine aY aH 5 [] [(39, (aL false))] ?_
      refine oX (false) (fun hc49 => ?_) (fun hc49 => ?_)
      · cases hc49
      · refine aY aH 2 [9, 10, 11, 39] [(47, (aL false))] ?_
        refine oX (false) (fun hc50 => ?_) (fun hc50 => ?_)
        · cases hc50
        · refine bV aH 2 [(5, (bE (bG.k_words y5))), (7, (bE (bG.k_number y42))), (49, (aL true))] ?_
          refine oX (true) (fun hc51 => ?_) (fun hc51 => ?_)
          · refine bV aH 1 [(4, (eI (1 : Int)))] ?_
            refine bI ?_
            obtain rfl := oI h0
            exact aK (bY (bA (Q_r hO)))
          · cases hc51
    · replace h0 : (cond ((!x1_1) || (!x39_1)) (some (0 : Int)) ((nG y5 y43).bind fun x56 => some x56)) = some r := h0
      refine bC ?_
      refine bP [3] [(7, (bE (bG.k_words y43))), (8, (aL x39_1))] ?_
      refine aQ ?_
      refine aY aH 6 [6, 8] [(28, (aL ((!x1_1) || (!x39_1))))] ?_
      refine bL h0 (fun h0 => ?_) (fun h0 => ?_)
      · refine bV aH 1 [(4, (eI (0 : Int)))] ?_
        refine bI ?_
        obtain rfl := oI h0
        exact aK (bA (Q_r hO))
      refine bN ?_
      refine bD [(5, (bE (bG.k_words y5))), (7, (bE (bG.k_words y43)))] ?_
      refine aY aH 7 [] [(9, (eI 0)), (10, (aL false))] ?_
      refine aY aH 7 [] [(11, (eI 0)), (12, (aL false))] ?_
      refine aQ ?_
      refine bR 0 ?_
      refine aY aH 5 [] [(39, (aL false))] ?_
      refine oX (false) (fun hc53 => ?_) (fun hc53 => ?_)
      · cases hc53
      · refine aY aH 2 [9, 10, 11, 39] [(47, (aL false))] ?_
        refine oX (false) (fun hc54 => ?_) (fun hc54 => ?_)
        · cases hc54
        · refine bV aH 2 [(5, (bE (bG.k_words y5))), (7, (bE (bG.k_words y43))), (49, (aL false))] ?_
          refine oX (false) (fun hc55 => ?_) (fun hc55 => ?_)
          · cases hc55
          · refine bN ?_
            refine dK [(5, (bE (bG.k_words y5))), (7, (bE (bG.k_words y43)))] ?_
            refine aK (aZ (aJ (?_)))
            refine aQ ?_
            refine jT (jS []) aH 6 ?_
            refine sD 4 ?_
            obtain ⟨x56, hx57, h0⟩ := aU h0
            refine xW (JP y5 y43 _ hx57) hO ?_
            intro H hO
            refine qL ?_
            refine bD [(4, (eI x56))] ?_
            refine bI ?_
            obtain rfl := oI h0
            exact aK (Q_r hO)

theorem HI (a0 : (List aG)) (b1 : (List aG)) (r : Int) (h0 : qP a0 b1 = some r) : bS Try.prog 63 [(eL aM a0), (eL aM b1)] (eI r) := by
  intro H0
  refine cI Try.func63 ?_
  have hO := aO.start H0
  unfold qP at h0
  refine aQ ?_
  refine aT aH 2 ?_
  refine gW 1 (eL aM b1) (by kernel_rfl) (by kernel_rfl) ?_
  refine bC ?_
  refine bP [1] [(3, (.rp (eL aM b1)))] ?_
  refine aQ ?_
  refine aQ ?_
  refine aT aH 8 ?_
  refine bH 1 ?_
  obtain ⟨x1, hx2, h0⟩ := aU h0
  refine cH (AM a0 _ hx2) hO ?_
  intro H hO
  refine bH 5 ?_
  obtain ⟨x4, hx5, h0⟩ := aU h0
  refine fV [(10, false)] 57 [(eL aM b1)] (aL x4) (!(!x1)) (by kernel_rfl) (by kernel_rfl) (by kernel_rfl) (fun hb6 => (AM b1 _ (iU hx5 hb6))) hO ?_
  intro H hO
  refine bC ?_
  refine bP [] [(14, (aL ((!x1) || (!x4))))] ?_
  refine bL h0 (fun h0 => ?_) (fun h0 => ?_)
  · refine bV aH 1 [(4, (eI (0 : Int)))] ?_
    refine bI ?_
    obtain rfl := oI h0
    exact aK (bA (Q_r hO))
  refine bN ?_
  refine bD [(0, (eL aM a0)), (3, (.rp (eL aM b1)))] ?_
  refine aY aH 6 [] [(5, (eI (if (lN b1) < (lN a0) then (lN b1) else (lN a0))))] ?_
  refine aQ ?_
  refine jT (jS []) aH 7 ?_
  obtain ⟨c8, h0⟩ := bM h0
  refine dP 4 [0 ≤ (if (lN b1) < (lN a0) then (lN b1) else (lN a0)) ∧ (if (lN b1) < (lN a0) then (lN b1) else (lN a0)) ≤ (lN a0)] ⟨c8, trivial⟩ ?_
  obtain ⟨x9, hx10, h0⟩ := aU h0
  refine aCv (L' := fun lo11 => [(lo11, 1, [(eI x9.1)])]) 1 [(eI x9.1)] 101 [(.rp (eL aM b1))] (fun lo11 => (.fn (.func 102) [] [(.lp lo11 0 0), (.rp (eL aM x9.2))])) (by kernel_rfl) (by kernel_rfl) (LX b1 _ hx10) hO (fun _ => by kernel_rfl) ?_
  intro lo11 H hO
  obtain ⟨x12, hx13, h0⟩ := aU h0
  refine aCp (fun st G' => G' = up [(lo11, 1, [(eI st)])] ++ []) [(lo11, 1, [(eI x12.1)])] x9.1 x12.1 100 [(.sl false (Int.toNat (if (lN b1) < (lN a0) then (lN b1) else (lN a0))) (fun i => aM (List.getD a0 i default))), (.fn (.func 102) [] [(.lp lo11 0 0), (.rp (eL aM x9.2))])] (eI x12.2) (by kernel_rfl) (by kernel_rfl) (BN.sub (as0' := [(eL aM (List.take (Int.toNat (if (lN b1) < (lN a0) then (lN b1) else (lN a0))) a0)), (.fn (.func 102) [] [(.lp lo11 0 0), (.rp (eL aM x9.2))])]) (uD _ (List.take (Int.toNat (if (lN b1) < (lN a0) then (lN b1) else (lN a0))) a0) (.fn (.func 102) [] [(.lp lo11 0 0), (.rp (eL aM x9.2))]) (fun st y0 => (jG y0 st x9.2).bind fun o => some (o.2, o.1)) (fun st y0 st2 rr hr => (JR y0 lo11 st x9.2 _ (aDt hr)).toV (ys := []) (zs := [(aM y0)]) (cs := [(.lp lo11 0 0), (.rp (eL aM x9.2))]) (fun Gx hG => ⟨up [], up [] ++ [], hG, rfl⟩)) _ _ hx13) ⟨aCw (Int.toNat_le.2 (And.right c8)), aX.refl _, trivial⟩) hO rfl (fun _ h => h) ?_
  intro H hO
  refine qL ?_
  replace hO := hO.pick (L' := []) [] (by decide) (by kernel_rfl)
  refine bP [5] [(6, (eI x12.2))] ?_
  refine aQ ?_
  refine aY aH 2 [] [(27, (aL (decide (x12.2 < (0 : Int)))))] ?_
  refine bL h0 (fun h0 => ?_) (fun h0 => ?_)
  · refine aQ ?_
    refine aT aH 6 ?_
    refine bH 4 ?_
    obtain ⟨x15, hx16, h0⟩ := aU h0
    refine cH (wD (lN a0) (lN b1) _ hx16) hO ?_
    intro H hO
    refine bC ?_
    refine bD [(4, (eI x15))] ?_
    refine bI ?_
    obtain rfl := oI h0
    exact aK (bA (Q_r hO))
  refine bN ?_
  refine bD [(0, (eL aM a0)), (3, (.rp (eL aM b1))), (6, (eI x12.2))] ?_
  refine aQ ?_
  refine jT (jS [36, 37, 40, 41]) aH 10 ?_
  obtain ⟨c18, h0⟩ := bM h0
  obtain ⟨c19, h0⟩ := bM h0
  refine dP 8 [0 ≤ x12.2 ∧ x12.2 < (lN a0), 0 ≤ x12.2 ∧ x12.2 < (lN b1)] ⟨c18, c19, trivial⟩ ?_
  obtain ⟨x20, hx21, h0⟩ := aU h0
  refine xW (MU (gD a0 x12.2) (gD b1 x12.2) _ hx21) hO ?_
  intro H hO
  refine qL ?_
  refine bD [(4, (eI x20))] ?_
  refine bI ?_
  obtain rfl := oI h0
  exact aK (Q_r hO)

theorem SH (yN : (List Int)) (r : Int) (h0 : vI yN = some r) : bS Try.prog 62 [(eL (eI) yN)] (eI r) := by
  intro H0
  refine cI Try.func62 ?_
  have hO := aO.start H0
  unfold vI at h0
  refine aY aH 1 [] [] ?_
  refine aY aH 1 [] [(3, (eI (0 : Int)))] ?_
  refine dG (fun T H => ∃ oK : Int, Has T [(3, (eI oK))] ∧ aO ⟨H0, [], []⟩ H [] ∧ tP oK = some r) ?_ ?_
  · clear hO h0
    rintro T H ⟨oK, hT, hO, h0⟩
    refine bB hT ?_
    clear hT
    unfold tP at h0
    refine bV aH 2 [(2, (eI oK))] ?_
    refine bI ?_
    obtain rfl := oI h0
    exact aK (Q_r hO)
  refine aY aH 3 [0] [(6, (eL (eI) yN)), (7, (eI (lN yN))), (8, (eI (0 : Int)))] ?_
  refine bR 0 ?_
  refine cW [(3, (eI (0 : Int))), (6, (eL (eI) yN)), (7, (eI (lN yN))), (8, (eI (0 : Int)))] ?_
  refine cP (fun T H => ∃ oK : Int, ∃ t6 : (List Int), ∃ t7 : Int, ∃ t8 : Int, Has T [(3, (eI oK)), (6, (eL (eI) t6)), (7, (eI t7)), (8, (eI t8))] ∧ aO ⟨H0, [], []⟩ H [] ∧ xQ oK t6 t7 t8 = some r) ?_ ⟨(0 : Int), yN, (lN yN), (0 : Int), .eq (by kernel_rfl), hO, h0⟩
  clear hO h0
  rintro T H ⟨oK, t6, t7, t8, hT, hO, h0⟩
  refine bB hT ?_
  clear hT
  unfold xQ at h0
  obtain ⟨rr0, hl0, h0⟩ := aU h0
  refine cD (by kernel_rfl) (fun (s : Int) T H => Has T [(3, (eI oK)), (6, (eL (eI) t6)), (7, (eI t7)), (8, (eI s))] ∧ aO ⟨H0, [], []⟩ H []) hl0 ⟨.eq (by kernel_rfl), hO⟩ ?_
  clear hO
  rintro k0 s out1 T H ⟨hT, hO⟩ h1 ho0
  obtain ⟨t8, rfl⟩ : ∃ x, x = s := ⟨_, rfl⟩
  replace h1 : gV oK t6 t7 t8 = some out1 := h1
  refine bB hT ?_
  clear hT
  unfold gV at h1
  refine aY aH 1 [] [(9, (aL (decide (t8 < t7))))] ?_
  refine aQ ?_
  refine bL h1 (fun h1 => ?_) (fun h1 => ?_)
  · refine bN ?_
    refine bD [(3, (eI oK)), (6, (eL (eI) t6)), (7, (eI t7)), (8, (eI t8))] ?_
    refine aQ ?_
    refine bR 1 ?_
    refine aQ ?_
    refine aT aH 3 ?_
    obtain ⟨c2, h1⟩ := bM h1
    refine AT [0 ≤ t8 ∧ t8 < (lN t6)] ⟨c2, trivial⟩ ?_
    refine bP [] [(5, (eI (gD t6 t8)))] ?_
    refine aY aH 3 [] [(14, (aL (!decide ((gD t6 t8) = oK))))] ?_
    refine bL h1 (fun h1 => ?_) (fun h1 => ?_)
    · refine bV aH 2 [(2, (eI (gD t6 t8)))] ?_
      refine bI ?_
      obtain rfl := oI h1
      obtain rfl : _ = rr0 := ho0
      replace h0 : some (gD t6 t8) = some r := h0
      obtain rfl := oI h0
      exact aK (bY (bA (bA (bY (bA (Q_r hO))))))
    refine bN ?_
    refine dK [(3, (eI oK)), (6, (eL (eI) t6)), (7, (eI t7)), (8, (eI t8))] ?_
    refine aK (aZ (aJ (?_)))
    refine aT aH 2 ?_
    refine bC ?_
    exact aK (aJ (⟨rfl, _, (oI h1).symm, .eq (by kernel_rfl), hO⟩))
  refine eC 0 ?_
  obtain rfl := oI h1
  obtain rfl : _ = rr0 := ho0
  replace h0 : tP oK = some r := h0
  exact aK (aW (aW (bO (aJ (⟨rfl, _, .eq (by kernel_rfl), hO, h0⟩)))))

theorem QZ (x0 : aC) (y1 : aC) (r : Int) (h0 : nM x0 y1 = some r) : bS Try.prog 61 [(aE x0), (aE y1)] (eI r) := by
  intro H0
  refine cI Try.func61 ?_
  have hO := aO.start H0
  unfold nM at h0
  refine aQ ?_
  refine aT aH 3 ?_
  refine gW 3 (aE x0) (by kernel_rfl) (by kernel_rfl) ?_
  refine gW 3 (aE y1) (by kernel_rfl) (by kernel_rfl) ?_
  refine bC ?_
  refine bD [(2, (.rp (aE x0))), (3, (.rp (aE y1)))] ?_
  refine aQ ?_
  refine jT (jS [6, 8, 9, 11, 13, 14, 15, 16]) aH 13 ?_
  refine sD 4 ?_
  obtain ⟨x1, hx2, h0⟩ := aU h0
  refine xW (HI x0.Row y1.Row _ hx2) hO ?_
  intro H hO
  refine sD 9 ?_
  obtain ⟨x4, hx5, h0⟩ := aU h0
  refine xW (wD x0.At y1.At _ hx5) hO ?_
  intro H hO
  refine JH (xs := [(eI x1), (eI x4)]) (k := 1) (by kernel_rfl) (by kernel_rfl) ?_
  obtain ⟨x7, hx8, h0⟩ := aU h0
  refine XO 62 [(dW [(eI x1), (eI x4)])] (eI x7) (by kernel_rfl) (by kernel_rfl) (bS.sub (SH ([x1, x4]) _ hx8) ⟨EF (l := [x1, x4]), trivial⟩) hO ?_
  intro H hO
  refine qL ?_
  refine bD [(4, (eI x7))] ?_
  refine bI ?_
  obtain rfl := oI h0
  exact aK (Q_r hO)

theorem DN (l0 : (List aC)) (r : (List aC)) (h0 : pN l0 = some r) : bS Try.prog 105 [(eL aE l0)] (.fn (.func 131) [] [(.rp (eL aE r))]) := by
  intro H0
  refine cI Try.func105 ?_
  have hO := aO.start H0
  unfold pN at h0
  refine aQ ?_
  refine aT aH 2 ?_
  refine gW 1 (eL aE l0) (by kernel_rfl) (by kernel_rfl) ?_
  refine bC ?_
  refine bD [(1, (.rp (eL aE l0)))] ?_
  refine bV aH 2 [(2, (.fn (.func 131) [] [(.rp (eL aE l0))]))] ?_
  refine bI ?_
  obtain rfl := oI h0
  exact aK (rB (x := (.fn (.func 131) [] [(.rp (eL aE l0))])) (by kernel_rfl) (aX.refl _) ⟨rfl, hO.out⟩)

theorem xS (s10 : (List aG)) (s21 : (List aG)) (r : Bool) (h0 : iF s10 s21 = some r) : bS Try.prog 118 [(eL aM s10), (eL aM s21)] (aL r) := by
  intro H0
  refine cI Try.func118 ?_
  have hO := aO.start H0
  unfold iF at h0
  refine aY aH 1 [] [] ?_
  refine aQ ?_
  refine aY aH 5 [] [(10, (aL (!decide ((lN s10) = (lN s21)))))] ?_
  refine bL h0 (fun h0 => ?_) (fun h0 => ?_)
  · refine bV aH 1 [(4, (aL false))] ?_
    refine bI ?_
    obtain rfl := oI h0
    exact aK (bA (Q_r hO))
  refine bN ?_
  refine bD [(0, (eL aM s10)), (1, (eL aM s21))] ?_
  refine dG (fun T H => Has T [] ∧ aO ⟨H0, [], []⟩ H [] ∧ eN  = some r) ?_ ?_
  · clear hO h0
    rintro T H ⟨hT, hO, h0⟩
    refine bB hT ?_
    clear hT
    unfold eN at h0
    refine bV aH 1 [(4, (aL true))] ?_
    refine bI ?_
    obtain rfl := oI h0
    exact aK (Q_r hO)
  refine aY aH 3 [] [(12, (eI (lN s10))), (13, (eI (0 : Int)))] ?_
  refine bR 0 ?_
  refine cW [(0, (eL aM s10)), (1, (eL aM s21)), (12, (eI (lN s10))), (13, (eI (0 : Int)))] ?_
  refine cP (fun T H => ∃ t12 : Int, ∃ t13 : Int, Has T [(0, (eL aM s10)), (1, (eL aM s21)), (12, (eI t12)), (13, (eI t13))] ∧ aO ⟨H0, [], []⟩ H [] ∧ gY s10 s21 t12 t13 = some r) ?_ ⟨(lN s10), (0 : Int), .eq (by kernel_rfl), hO, h0⟩
  clear hO h0
  rintro T H ⟨t12, t13, hT, hO, h0⟩
  refine bB hT ?_
  clear hT
  unfold gY at h0
  obtain ⟨rr0, hl0, h0⟩ := aU h0
  refine cD (by kernel_rfl) (fun (s : Int) T H => Has T [(0, (eL aM s10)), (1, (eL aM s21)), (12, (eI t12)), (13, (eI s))] ∧ aO ⟨H0, [], []⟩ H []) hl0 ⟨.eq (by kernel_rfl), hO⟩ ?_
  clear hO
  rintro k0 s out1 T H ⟨hT, hO⟩ h1 ho0
  obtain ⟨t13, rfl⟩ : ∃ x, x = s := ⟨_, rfl⟩
  replace h1 : dL s10 s21 t12 t13 = some out1 := h1
  refine bB hT ?_
  clear hT
  unfold dL at h1
  refine aY aH 1 [] [(14, (aL (decide (t13 < t12))))] ?_
  refine aQ ?_
  refine bL h1 (fun h1 => ?_) (fun h1 => ?_)
  · refine bN ?_
    refine bD [(0, (eL aM s10)), (1, (eL aM s21)), (12, (eI t12)), (13, (eI t13))] ?_
    refine aQ ?_
    refine bR 1 ?_
    refine aY aH 2 [] [(5, (eI t13))] ?_
    refine aQ ?_
    refine jT (jS [19, 23]) aH 9 ?_
    obtain ⟨c3, h1⟩ := bM h1
    obtain ⟨c4, h1⟩ := bM h1
    refine RQ (Ds := [0 ≤ t13 ∧ t13 < (lN s10), 0 ≤ t13 ∧ t13 < (lN s21)]) (by kernel_rfl) ⟨c3, c4, trivial⟩ ?_
    refine bP [5] [(24, (aL (!((decide (((gD s10 t13).Kind) = ((gD s21 t13).Kind))) && ((decide (((gD s10 t13).Num) = ((gD s21 t13).Num))) && ((pH ((gD s10 t13).Text) ((gD s21 t13).Text)) && true))))))] ?_
    refine bL h1 (fun h1 => ?_) (fun h1 => ?_)
    · refine bV aH 1 [(4, (aL false))] ?_
      refine bI ?_
      obtain rfl := oI h1
      obtain rfl : _ = rr0 := ho0
      replace h0 : some false = some r := h0
      obtain rfl := oI h0
      exact aK (bY (bA (bA (bY (bA (Q_r hO))))))
    refine bN ?_
    refine dK [(0, (eL aM s10)), (1, (eL aM s21)), (12, (eI t12)), (13, (eI t13))] ?_
    refine aK (aZ (aJ (?_)))
    refine aT aH 2 ?_
    refine bC ?_
    exact aK (aJ (⟨rfl, _, (oI h1).symm, .eq (by kernel_rfl), hO⟩))
  refine eC 0 ?_
  obtain rfl := oI h1
  obtain rfl : _ = rr0 := ho0
  replace h0 : eN  = some r := h0
  exact aK (aW (aW (bO (aJ (⟨rfl, .eq (by kernel_rfl), hO, h0⟩)))))

theorem LW (a0 : (List aG)) (b1 : (List aG)) (r : Bool) (h0 : vY a0 b1 = some r) : bS Try.prog 78 [(eL aM a0), (eL aM b1)] (aL r) := by
  intro H0
  refine cI Try.func78 ?_
  have hO := aO.start H0
  unfold vY at h0
  refine aY aH 1 [] [] ?_
  refine aQ ?_
  refine aT aH 4 ?_
  refine bH 2 ?_
  obtain ⟨x1, hx2, h0⟩ := aU h0
  refine cH (xS a0 b1 _ hx2) hO ?_
  intro H hO
  refine bC ?_
  refine bD [(4, (aL x1))] ?_
  refine bI ?_
  obtain rfl := oI h0
  exact aK (Q_r hO)

theorem yO (r0 : (List aG)) (r : (List aG)) (h0 : pI r0 = some r) : bS Try.prog 80 [(eL aM r0)] (eL aM r) := by
  intro H0
  refine cI Try.func80 ?_
  have hO := aO.start H0
  unfold pI at h0
  refine aY aH 1 [] [] ?_
  refine aQ ?_
  refine aT aH 6 ?_
  refine bH 2 ?_
  obtain ⟨c1, h0⟩ := bM h0
  refine JM 3 32 (lN r0) (by kernel_rfl) (by kernel_rfl) c1 hO ?_
  intro lo2 H hO
  refine bH 4 ?_
  obtain ⟨c4, h0⟩ := bM h0
  refine BR (e := aM) ([] : List aG) r0 0 lo2 3 32 (eL aM r0) (fun lo3 => [(lo3, 3, List.map aM (([] : List aG) ++ r0))]) (by kernel_rfl) (by kernel_rfl) hO (by kernel_rfl) (OG (fun _ => by kernel_rfl)) c4 (fun _ => by kernel_rfl) ?_
  intro lo3 H hO
  refine bC ?_
  refine bD [(2, (.msl 3 lo3 0 (List.length (([] : List aG) ++ r0))))] ?_
  refine bI ?_
  refine dK [(2, (.msl 3 lo3 0 (List.length (([] : List aG) ++ r0))))] ?_
  refine yD (en := aM) (([] : List aG) ++ r0) 0 0 2 3 lo3 (List.length (([] : List aG) ++ r0)) hO (by kernel_rfl) (by kernel_rfl) (by kernel_rfl) (L' := []) (by kernel_rfl) ?_
  intro H5 hO
  obtain rfl := oI h0
  exact aK (Q_r hO)

theorem zJ {σ : Type} (I : σ → Gs → Prop) (yield0_b : Nat) (eM : σ → (List aG) → (List aA) → Option (σ × Bool)) (yield0_h : ∀ st a0 a1 st2 r, eM st a0 a1 = some (st2, r) → JE Try.prog (yv yield0_b) I st [(eL aM a0), (eL aD a1)] st2 (aL r)) (t1 : (List aC)) (sg0 : σ) (r : σ) (h0 : mT eM t1 sg0 = some r) : BN Try.prog 131 I sg0 [(yv yield0_b), (.rp (eL aE t1))] r (.tup []) := by
  intro H0 G0 hI hg
  refine cI Try.func131 ?_
  obtain ⟨G, hO, hI⟩ : ∃ G, aO ⟨H0, List.map (fun p : Nat × cX => p.1) G0, G⟩ H0 [] ∧ I sg0 G := ⟨G0, aO.NG hg, hI⟩
  clear hg
  unfold mT at h0
  refine aY aH 1 [] [(3, (eI (0 : Int)))] ?_
  refine bR 0 ?_
  refine cW [(0, (yv yield0_b)), (1, (.rp (eL aE t1))), (3, (eI (0 : Int)))] ?_
  refine cP (fun T H => ∃ sg : σ, ∃ i3 : Int, ∃ G : Gs, Has T [(0, (yv yield0_b)), (1, (.rp (eL aE t1))), (3, (eI i3))] ∧ aO ⟨H0, List.map (fun p : Nat × cX => p.1) G0, G⟩ H [] ∧ I sg G ∧ sV eM sg t1 i3 = some r) ?_ ⟨sg0, (0 : Int), G, .eq (by kernel_rfl), hO, hI, h0⟩
  clear hO hI h0
  rintro T H ⟨sg, i3, G, hT, hO, hI, h0⟩
  refine bB hT ?_
  clear hT
  unfold sV at h0
  obtain ⟨rr0, hl0, h0⟩ := aU h0
  refine cD (by kernel_rfl) (fun (s : σ × Int) T H => ∃ G : Gs, Has T [(0, (yv yield0_b)), (1, (.rp (eL aE t1))), (3, (eI s.2))] ∧ aO ⟨H0, List.map (fun p : Nat × cX => p.1) G0, G⟩ H [] ∧ I s.1 G) hl0 ⟨G, .eq (by kernel_rfl), hO, hI⟩ ?_
  clear hO hI
  rintro k0 s out1 T H ⟨G, hT, hO, hI⟩ h1 ho0
  obtain ⟨sg, i3⟩ := s
  replace h1 : fT eM t1 sg i3 = some out1 := h1
  try dsimp only at hT
  refine bB hT ?_
  clear hT
  unfold fT at h1
  refine aQ ?_
  refine aY aH 4 [] [(9, (aL (decide (i3 < (lN t1)))))] ?_
  refine bL h1 (fun h1 => ?_) (fun h1 => ?_)
  · refine bN ?_
    refine bD [(0, (yv yield0_b)), (1, (.rp (eL aE t1))), (3, (eI i3))] ?_
    refine bR 1 ?_
    refine aQ ?_
    refine aT aH 6 ?_
    obtain ⟨c2, h1⟩ := bM h1
    refine AT [0 ≤ i3 ∧ i3 < (lN t1)] ⟨c2, trivial⟩ ?_
    refine bP [] [(4, (eL aM ((gD t1 i3).Row)))] ?_
    refine aQ ?_
    refine aT aH 2 ?_
    refine rV (xs := []) (k := 2) (by kernel_rfl) (by kernel_rfl) ?_
    refine bC ?_
    refine bP [] [(5, (.sl true 0 (fun _ => .bad)))] ?_
    refine dG (fun T H => ∃ sg : σ, ∃ i3 : Int, ∃ r4 : (List aG), ∃ f5 : List aA, ∃ lo3 : Nat, ∃ G : Gs, Has T [(0, (yv yield0_b)), (1, (.rp (eL aE t1))), (3, (eI i3)), (4, (eL aM r4)), (5, (.msl 2 lo3 0 (List.length f5)))] ∧ aO ⟨H0, List.map (fun p : Nat × cX => p.1) G0, G⟩ H [(lo3, 2, List.map aD f5)] ∧ I sg G ∧ qG eM sg t1 i3 r4 f5 = some out1) ?_ ?_
    · clear hO hI h1
      rintro T H ⟨sg, i3, r4, f5, lo3, G, hT, hO, hI, h1⟩
      refine bB hT ?_
      clear hT
      unfold qG at h1
      refine aQ ?_
      refine aT aH 6 ?_
      refine AL (e := aD) f5 0 5 2 lo3 (List.length f5) [] (by kernel_rfl) hO (by kernel_rfl) (by kernel_rfl) (by kernel_rfl) (by kernel_rfl) ?_
      intro H hO
      refine bH 2 ?_
      obtain ⟨x7, hx8, h1⟩ := aU h1
      refine cH (yO r4 _ hx8) hO ?_
      intro H hO
      refine bH 4 ?_
      obtain ⟨x10, hx11, h1⟩ := aU h1
      refine XL (I := I) (yv yield0_b) [(eL aM x7), (eL aD f5)] (aL x10.2) (by kernel_rfl) (by kernel_rfl) (yield0_h _ x7 f5 x10.1 x10.2 hx11) hO hI ?_
      intro G H hO hI
      refine bC ?_
      refine bP [4, 5] [(50, (aL (!x10.2)))] ?_
      refine bL h1 (fun h1 => ?_) (fun h1 => ?_)
      · refine bI ?_
        obtain rfl := oI h1
        obtain rfl : _ = rr0 := ho0
        replace h0 : some x10.1 = some r := h0
        obtain rfl := oI h0
        exact aK (bY (bA (bY (rB (x := (.tup [])) (by kernel_rfl) (aX.refl _) ⟨rfl, G, hI, hO.JD⟩))))
      refine bN ?_
      exact aK (aZ (aJ (⟨rfl, _, (oI h1).symm, _, .eq (by kernel_rfl), hO, hI⟩)))
    refine bR 2 ?_
    refine cW [(0, (yv yield0_b)), (1, (.rp (eL aE t1))), (3, (eI i3)), (4, (eL aM ((gD t1 i3).Row))), (5, (.sl true 0 (fun _ => .bad)))] ?_
    refine IT (el := (fun _ => .bad)) 4 5 2 hO (by kernel_rfl) ?_
    intro lo24 H25 hO
    refine cP (fun T H => ∃ sg : σ, ∃ i3 : Int, ∃ r4 : (List aG), ∃ f5 : List aA, ∃ lo14 : Nat, ∃ G : Gs, Has T [(0, (yv yield0_b)), (1, (.rp (eL aE t1))), (3, (eI i3)), (4, (eL aM r4)), (5, (.msl 2 lo14 0 (List.length f5)))] ∧ aO ⟨H0, List.map (fun p : Nat × cX => p.1) G0, G⟩ H [(lo14, 2, List.map aD f5)] ∧ I sg G ∧ sZ eM sg t1 i3 r4 f5 = some out1) ?_ ⟨sg, i3, (gD t1 i3).Row, ([] : List aA), lo24, G, .eq (by kernel_rfl), hO, hI, h1⟩
    clear hO hI h1
    rintro T H ⟨sg, i3, r4, f5, lo14, G, hT, hO, hI, h1⟩
    refine bB hT ?_
    clear hT
    unfold sZ at h1
    obtain ⟨rr1, hl1, h1⟩ := aU h1
    refine cD (by kernel_rfl) (fun (s : σ × Int × List aA) T H => ∃ lo14 : Nat, ∃ G : Gs, Has T [(0, (yv yield0_b)), (1, (.rp (eL aE t1))), (3, (eI s.2.1)), (4, (eL aM r4)), (5, (.msl 2 lo14 0 (List.length s.2.2)))] ∧ aO ⟨H0, List.map (fun p : Nat × cX => p.1) G0, G⟩ H [(lo14, 2, List.map aD s.2.2)] ∧ I s.1 G) hl1 ⟨lo14, G, .eq (by kernel_rfl), hO, hI⟩ ?_
    clear hO hI
    rintro k1 s out2 T H ⟨lo14, G, hT, hO, hI⟩ h2 ho1
    obtain ⟨sg, i3, f5⟩ := s
    replace h2 : iJ eM t1 r4 sg i3 f5 = some out2 := h2
    try dsimp only at hT
    refine bB hT ?_
    clear hT
    unfold iJ at h2
    refine aQ ?_
    refine aQ ?_
    refine aT aH 13 ?_
    obtain ⟨c15, h2⟩ := bM h2
    refine sC 11 [(((decide (i3 < (lN t1)))) = true → 0 ≤ i3 ∧ i3 < (lN t1))] ⟨c15, trivial⟩ ?_
    obtain ⟨x16, hx17, h2⟩ := aU h2
    refine fV [(20, true)] 78 [(eL aM ((gD t1 i3).Row)), (eL aM r4)] (aL x16) (decide (i3 < (lN t1))) (by kernel_rfl) (by kernel_rfl) (by kernel_rfl) (fun hb18 => (LW ((gD t1 i3).Row) r4 _ (iU hx17 hb18))) hO ?_
    intro H hO
    refine bC ?_
    refine bP [] [(28, (aL ((decide (i3 < (lN t1))) && x16)))] ?_
    refine bL h2 (fun h2 => ?_) (fun h2 => ?_)
    · refine bN ?_
      refine bD [(0, (yv yield0_b)), (1, (.rp (eL aE t1))), (3, (eI i3)), (4, (eL aM r4)), (5, (.msl 2 lo14 0 (List.length f5)))] ?_
      refine aQ ?_
      refine bR 3 ?_
      refine jT (jS [32, 36, 37, 41, 43]) aH 15 ?_
      obtain ⟨c20, h2⟩ := bM h2
      obtain ⟨c21, h2⟩ := bM h2
      refine dP 12 [0 ≤ i3 ∧ i3 < (lN t1), 0 ≤ i3 ∧ i3 < (lN t1)] ⟨c20, c21, trivial⟩ ?_
      refine JH (xs := [(aD (aA.mk ((gD t1 i3).At) ((gD t1 i3).Net)))]) (k := 2) (by kernel_rfl) (by kernel_rfl) ?_
      obtain ⟨c23, h2⟩ := bM h2
      refine EW (e := aD) f5 ([aA.mk ((gD t1 i3).At) ((gD t1 i3).Net)]) 0 lo14 2 16 (dW [(aD (aA.mk ((gD t1 i3).At) ((gD t1 i3).Net)))]) (fun lo22 => [(lo22, 2, List.map aD (f5 ++ ([aA.mk ((gD t1 i3).At) ((gD t1 i3).Net)])))]) (by kernel_rfl) (by kernel_rfl) hO (by kernel_rfl) (by kernel_rfl) c23 (fun _ => by kernel_rfl) ?_
      intro lo22 H hO
      refine qL ?_
      refine dK [(0, (yv yield0_b)), (1, (.rp (eL aE t1))), (3, (eI i3)), (4, (eL aM r4)), (5, (.msl 2 lo22 0 (List.length (f5 ++ ([aA.mk ((gD t1 i3).At) ((gD t1 i3).Net)])))))] ?_
      refine aK (aZ (aJ (?_)))
      refine aT aH 3 ?_
      refine bC ?_
      exact aK (aJ (⟨rfl, _, (oI h2).symm, _, _, .eq (by kernel_rfl), hO, hI⟩))
    refine eC 2 ?_
    obtain rfl := oI h2
    obtain rfl : _ = rr1 := ho1
    replace h1 : qG eM sg t1 i3 r4 f5 = some out1 := h1
    exact aK (aW (aW (bO (aJ (⟨rfl, _, _, _, _, _, _, .eq (by kernel_rfl), hO, hI, h1⟩)))))
  refine eC 0 ?_
  obtain rfl := oI h1
  obtain rfl : _ = rr0 := ho0
  replace h0 : some sg = some r := h0
  obtain rfl := oI h0
  exact aK (aW (aW (bO (rU (x := (.tup [])) (by kernel_rfl) (aX.refl _) ⟨rfl, G, hI, hO.JD⟩))))

theorem YV (lo0p : Nat) (l0 : (List aC)) (r1 : (List aG)) (f2 : (List aA)) (r : (List aC)) (h0 : yS l0 r1 f2 = some r) : GS Try.prog 106 lo0p 3 (List.map aE l0) [(.msl 3 lo0p 0 (List.length l0)), (eL aM r1), (eL aD f2)] (fun lo => .msl 3 lo 0 (List.length r)) (List.map aE r) := by
  intro H0 hl0
  refine cI Try.func106 ?_
  have hO := aO.rK hl0
  clear hl0
  unfold yS at h0
  refine aY aH 1 [] [] ?_
  refine dG (fun T H => ∃ l0 : List aC, ∃ lo1 : Nat, Has T [(0, (.msl 3 lo1 0 (List.length l0)))] ∧ aO ⟨H0, [lo0p], []⟩ H [(lo1, 3, List.map aE l0)] ∧ AE l0 = some r) ?_ ?_
  · clear hO h0
    rintro T H ⟨l0, lo1, hT, hO, h0⟩
    refine bB hT ?_
    clear hT
    unfold AE at h0
    refine bV aH 2 [(6, (.msl 3 lo1 0 (List.length l0)))] ?_
    refine bI ?_
    obtain rfl := oI h0
    exact aK (rB (x := (.msl 3 lo1 0 (List.length l0))) (by kernel_rfl) (aX.refl _) ⟨lo1, rfl, hO⟩)
  refine aY aH 3 [2] [(9, (eL aD f2)), (10, (eI (lN f2))), (11, (eI (0 : Int)))] ?_
  refine bR 0 ?_
  refine cW [(0, (.msl 3 lo0p 0 (List.length l0))), (1, (eL aM r1)), (9, (eL aD f2)), (10, (eI (lN f2))), (11, (eI (0 : Int)))] ?_
  refine cP (fun T H => ∃ l0 : List aC, ∃ t9 : (List aA), ∃ t10 : Int, ∃ t11 : Int, ∃ lo3 : Nat, Has T [(0, (.msl 3 lo3 0 (List.length l0))), (1, (eL aM r1)), (9, (eL aD t9)), (10, (eI t10)), (11, (eI t11))] ∧ aO ⟨H0, [lo0p], []⟩ H [(lo3, 3, List.map aE l0)] ∧ zW l0 r1 t9 t10 t11 = some r) ?_ ⟨l0, f2, (lN f2), (0 : Int), lo0p, .eq (by kernel_rfl), hO, h0⟩
  clear hO h0
  rintro T H ⟨l0, t9, t10, t11, lo3, hT, hO, h0⟩
  refine bB hT ?_
  clear hT
  unfold zW at h0
  obtain ⟨rr0, hl0, h0⟩ := aU h0
  refine cD (by kernel_rfl) (fun (s : List aC × Int) T H => ∃ lo3 : Nat, Has T [(0, (.msl 3 lo3 0 (List.length s.1))), (1, (eL aM r1)), (9, (eL aD t9)), (10, (eI t10)), (11, (eI s.2))] ∧ aO ⟨H0, [lo0p], []⟩ H [(lo3, 3, List.map aE s.1)]) hl0 ⟨lo3, .eq (by kernel_rfl), hO⟩ ?_
  clear hO
  rintro k0 s out1 T H ⟨lo3, hT, hO⟩ h1 ho0
  obtain ⟨l0, t11⟩ := s
  replace h1 : pQ r1 t9 t10 l0 t11 = some out1 := h1
  try dsimp only at hT
  refine bB hT ?_
  clear hT
  unfold pQ at h1
  refine aY aH 1 [] [(12, (aL (decide (t11 < t10))))] ?_
  refine aQ ?_
  refine bL h1 (fun h1 => ?_) (fun h1 => ?_)
  · refine bN ?_
    refine bD [(0, (.msl 3 lo3 0 (List.length l0))), (1, (eL aM r1)), (9, (eL aD t9)), (10, (eI t10)), (11, (eI t11))] ?_
    refine aQ ?_
    refine bR 1 ?_
    refine aQ ?_
    refine aT aH 4 ?_
    obtain ⟨c5, h1⟩ := bM h1
    refine sC 2 [0 ≤ t11 ∧ t11 < (lN t9)] ⟨c5, trivial⟩ ?_
    refine mV 2 (aD (aA.mk 0 0)) (by kernel_rfl) (by kernel_rfl) hO ?_
    intro lo6 H hO
    refine jJ 1 lo6 2 0 (aD (aA.mk 0 0)) (aD (gD t9 t11)) [(aD (aA.mk 0 0))] [(lo3, 3, List.map aE l0), (lo6, 2, [(aD (gD t9 t11))])] hO rfl (by kernel_rfl) ?_
    intro H hO
    refine cJ ?_
    refine bP [] [(8, (.lp lo6 0 0))] ?_
    refine cW [(0, (.msl 3 lo3 0 (List.length l0))), (1, (eL aM r1)), (8, (.lp lo6 0 0)), (9, (eL aD t9)), (10, (eI t10)), (11, (eI t11))] ?_
    refine DH 2 1 8 2 lo6 (aD (gD t9 t11)) [(lo3, 3, List.map aE l0)] hO (by kernel_rfl) (by kernel_rfl) (by kernel_rfl) ?_
    intro H hO
    refine jT (jS [19, 21, 23]) aH 11 ?_
    refine sD 2 ?_
    obtain ⟨x7, hx8, h1⟩ := aU h1
    refine xW (yO r1 _ hx8) hO ?_
    intro H hO
    refine sD 8 ?_
    refine JH (xs := [(aE (aC.mk x7 ((gD t9 t11).At) ((gD t9 t11).Net)))]) (k := 3) (by kernel_rfl) (by kernel_rfl) ?_
    obtain ⟨c11, h1⟩ := bM h1
    refine EW (e := aE) l0 ([aC.mk x7 ((gD t9 t11).At) ((gD t9 t11).Net)]) 0 lo3 3 40 (dW [(aE (aC.mk x7 ((gD t9 t11).At) ((gD t9 t11).Net)))]) (fun lo10 => [(lo10, 3, List.map aE (l0 ++ ([aC.mk x7 ((gD t9 t11).At) ((gD t9 t11).Net)])))]) (by kernel_rfl) (by kernel_rfl) hO (by kernel_rfl) (by kernel_rfl) c11 (fun _ => by kernel_rfl) ?_
    intro lo10 H hO
    refine qL ?_
    refine dK [(0, (.msl 3 lo10 0 (List.length (l0 ++ ([aC.mk x7 ((gD t9 t11).At) ((gD t9 t11).Net)]))))), (1, (eL aM r1)), (9, (eL aD t9)), (10, (eI t10)), (11, (eI t11))] ?_
    refine aK (aZ (aJ (?_)))
    refine aT aH 2 ?_
    refine bC ?_
    exact aK (aJ (⟨rfl, _, (oI h1).symm, _, .eq (by kernel_rfl), hO⟩))
  refine eC 0 ?_
  obtain rfl := oI h1
  obtain rfl : _ = rr0 := ho0
  replace h0 : AE l0 = some r := h0
  exact aK (aW (aW (bO (aJ (⟨rfl, _, _, .eq (by kernel_rfl), hO, h0⟩)))))

theorem GY (l0 : (List aC)) (by1_f : Nat) (by1_a by1_c : List V) (by1 : (List aA) → Option ((List aA) × Int)) (by1_h : ∀ a0 r, by1 a0 = some r → bS Try.prog by1_f (by1_a ++ [(eL aD a0)] ++ by1_c) (.tup [(eL aD r.1), (eI r.2)])) (r : ((List aC) × Int)) (h0 : qV l0 by1 = some r) : bS Try.prog 65 [(eL aE l0), (.fn (.func by1_f) by1_a by1_c)] (.tup [(eL aE r.1), (eI r.2)]) := by
  intro H0
  refine EI aH Try.func65 (by kernel_rfl) (by kernel_rfl) (by kernel_rfl) ?_
  have hO := aO.start H0
  unfold qV at h0
  refine aQ ?_
  refine aT aH 3 ?_
  refine gW 1 (.fn (.func by1_f) by1_a by1_c) (by kernel_rfl) (by kernel_rfl) ?_
  refine qD 1 (.sl true 0 (fun _ => .bad)) (eL aE ([])) (by kernel_rfl) (by kernel_rfl) (by kernel_rfl) (fG) (by kernel_rfl) (by kernel_rfl) hO ?_
  intro lo1 H hO
  refine mV 1 (eI 0) (by kernel_rfl) (by kernel_rfl) hO ?_
  intro lo2 H hO
  refine cJ ?_
  refine bP [1] [(3, (.rp (.fn (.func by1_f) by1_a by1_c))), (4, (.lp lo1 0 0)), (5, (.lp lo2 0 0))] ?_
  refine aQ ?_
  refine aT aH 3 ?_
  refine rV (xs := []) (k := 3) (by kernel_rfl) (by kernel_rfl) ?_
  refine qD 1 (.sl true 0 (fun _ => .bad)) (eL aE ([])) (by kernel_rfl) (by kernel_rfl) (by kernel_rfl) (fG) (by kernel_rfl) (by kernel_rfl) hO ?_
  intro lo3 H hO
  refine aCT 11 3 (fun _ => .bad) (by kernel_rfl) hO (by kernel_rfl) ?_
  intro lo4 H hO
  refine jJ 2 lo3 1 0 (eL aE ([])) (.msl 3 lo4 0 (List.length ([] : List aC))) [(eL aE ([]))] [(lo1, 1, [(eL aE ([]))]), (lo2, 1, [(eI 0)]), (lo3, 1, [(.msl 3 lo4 0 (List.length ([] : List aC)))]), (lo4, 3, List.map aE ([] : List aC))] hO rfl (by kernel_rfl) ?_
  intro H hO
  refine cJ ?_
  refine bP [] [(6, (.lp lo3 0 0))] ?_
  refine aQ ?_
  refine aQ ?_
  refine aT aH 2 ?_
  refine bH 1 ?_
  obtain ⟨x5, hx6, h0⟩ := aU h0
  refine cH (DN l0 _ hx6) hO ?_
  intro H hO
  refine cJ ?_
  refine bP [0] [(13, (.fn (.func 131) [] [(.rp (eL aE x5))]))] ?_
  refine bR 0 ?_
  refine cW [(3, (.rp (.fn (.func by1_f) by1_a by1_c))), (4, (.lp lo1 0 0)), (5, (.lp lo2 0 0)), (6, (.lp lo3 0 0)), (13, (.fn (.func 131) [] [(.rp (eL aE x5))]))] ?_
  refine cP (fun T H => ∃ t4 : (List aC), ∃ t5 : Int, ∃ out6 : List aC, ∃ kK : (List aC), ∃ lo7 : Nat, Has T [(3, (.rp (.fn (.func by1_f) by1_a by1_c))), (4, (.lp lo1 0 0)), (5, (.lp lo2 0 0)), (6, (.lp lo3 0 0)), (13, (.fn (.func 131) [] [(.rp (eL aE kK))]))] ∧ aO ⟨H0, [], []⟩ H [(lo1, 1, [(eL aE t4)]), (lo2, 1, [(eI t5)]), (lo3, 1, [(.msl 3 lo7 0 (List.length out6))]), (lo7, 3, List.map aE out6)] ∧ vZ by1 t4 t5 out6 kK = some r) ?_ ⟨[], 0, ([] : List aC), x5, lo4, .eq (by kernel_rfl), hO, h0⟩
  clear hO h0
  rintro T H ⟨t4, t5, out6, kK, lo7, hT, hO, h0⟩
  refine bB (l := [(3, (.rp (.fn (.func by1_f) by1_a by1_c))), (4, (.lp lo1 0 0)), (5, (.lp lo2 0 0)), (6, (.lp lo3 0 0)), (13, (.fn (.func 131) [] [(.rp (eL aE kK))]))]) hT ?_
  clear hT
  unfold vZ at h0
  obtain ⟨o0, hl0, h0⟩ := aU h0
  refine CU (fid := 131) (ys := []) (cs := [(.rp (eL aE kK))]) #[14, 15] (fun (A : zV) (b lL : Nat) (st : ((List aC) × Int × List aC) ⊕ ((List aC) × Int × List aC)) (G' : Gs) => Sum.elim (fun (s : (List aC) × Int × List aC) => ∃ lo7 : Nat, G' = (lL, .raw (kH b A .ready none)) :: (up [(lo1, 1, [(eL aE s.1)]), (lo2, 1, [(eI s.2.1)]), (lo3, 1, [(.msl 3 lo7 0 (List.length s.2.2))]), (lo7, 3, List.map aE s.2.2)] ++ [])) (fun (s : (List aC) × Int × List aC) => ∃ lo7 : Nat, G' = (lL, .raw (kH b A .done (some .ret))) :: (up [(lo1, 1, [(eL aE s.1)]), (lo2, 1, [(eI s.2.1)]), (lo3, 1, [(.msl 3 lo7 0 (List.length s.2.2))]), (lo7, 3, List.map aE s.2.2)] ++ [])) st) (.inl (t4, t5, out6)) o0 (.tup []) (by kernel_rfl) (by kernel_rfl) (by kernel_rfl) hO (fun _ _ => ⟨lo7, rfl⟩) ?_ ?_
  · intro b lL
    clear hO h0
    refine zJ _ b (fun st t14 t15 => rnd (fun (s : (List aC) × Int × List aC) => oE by1 kK s.1 s.2.1 s.2.2 t14 t15) st) ?_ kK _ _ hl0
    intro st t14 t15 out1 rr hr
    obtain ⟨s, rfl, h1, rfl⟩ := UT hr
    clear hr
    intro Hr Gr hi hg
    obtain ⟨t4, t5, out6⟩ := s
    dsimp only [Sum.elim_inl] at hi
    obtain ⟨lo7, rfl⟩ := hi
    replace h1 : oE by1 kK t4 t5 out6 t14 t15 = some out1 := h1
    unfold oE at h1
    obtain ⟨E1, hE, hO⟩ := wH hg
    refine wV (CT (hO.gm 0 _ rfl).2 (by kernel_rfl) (by kernel_rfl) ?_)
    refine cW [(3, (.rp (.fn (.func by1_f) by1_a by1_c))), (4, (.lp lo1 0 0)), (5, (.lp lo2 0 0)), (6, (.lp lo3 0 0)), (13, (.fn (.func 131) [] [(.rp (eL aE kK))])), (14, (eL aM t14)), (15, (eL aD t15))] ?_
    refine aY aH 1 [13, 14] [(7, (eL aM t14))] ?_
    refine aT aH 1 ?_
    refine bC ?_
    refine dK [(3, (.rp (.fn (.func by1_f) by1_a by1_c))), (4, (.lp lo1 0 0)), (5, (.lp lo2 0 0)), (6, (.lp lo3 0 0)), (7, (eL aM t14)), (8, (eL aD t15))] ?_
    refine aK (⟨rfl, rfl, (hO.gm 0 _ rfl).2, ?_⟩)
    intro o1 ho1
    replace hO := hO.wA o1
    refine bR 1 ?_
    refine aQ ?_
    refine aT aH 8 ?_
    refine bH 2 ?_
    obtain ⟨x8, hx9, h1⟩ := aU h1
    refine cH (by1_h t15 _ hx9) hO ?_
    intro H hO
    refine bC ?_
    refine bP [3, 8] [(9, (eL aD x8.1)), (10, (eI x8.2))] ?_
    refine aQ ?_
    refine aY aH 2 [] [(23, (aL (!decide (x8.2 = (0 : Int)))))] ?_
    refine bL h1 (fun h1 => ?_) (fun h1 => ?_)
    · refine aQ ?_
      refine aT aH 3 ?_
      refine bH 1 ?_
      refine jJ 0 lo1 1 0 (eL aE t4) (.sl true 0 (fun _ => .bad)) [(eL aE t4)] [(lo1, 1, [(.sl true 0 (fun _ => .bad))]), (lo2, 1, [(eI t5)]), (lo3, 1, [(.msl 3 lo7 0 (List.length out6))]), (lo7, 3, List.map aE out6)] hO rfl (by kernel_rfl) ?_
      intro H hO
      refine jJ 1 lo2 1 0 (eI t5) (eI x8.2) [(eI t5)] [(lo1, 1, [(.sl true 0 (fun _ => .bad))]), (lo2, 1, [(eI x8.2)]), (lo3, 1, [(.msl 3 lo7 0 (List.length out6))]), (lo7, 3, List.map aE out6)] hO rfl (by kernel_rfl) ?_
      intro H hO
      refine cJ ?_
      refine KR 0 lo1 1 (.sl true 0 (fun _ => .bad)) (eL aE ([])) [(lo1, 1, [(eL aE ([]))]), (lo2, 1, [(eI x8.2)]), (lo3, 1, [(.msl 3 lo7 0 (List.length out6))]), (lo7, 3, List.map aE out6)] hO (by kernel_rfl) (by kernel_rfl) fG (by kernel_rfl) ?_
      intro H hO
      refine bD [(4, (.lp lo1 0 0)), (5, (.lp lo2 0 0)), (6, (.lp lo3 0 0))] ?_
      refine bI ?_
      refine dK [(4, (.lp lo1 0 0)), (5, (.lp lo2 0 0)), (6, (.lp lo3 0 0))] ?_
      obtain rfl := oI h1
      exact aK (bA (bY (⟨(gC hO hE ho1 .dead).1, rfl, _, ⟨lo7, rfl⟩, (gC hO hE ho1 _).2⟩)))
    refine bN ?_
    refine bD [(4, (.lp lo1 0 0)), (5, (.lp lo2 0 0)), (6, (.lp lo3 0 0)), (7, (eL aM t14)), (9, (eL aD x8.1))] ?_
    refine aQ ?_
    refine aT aH 5 ?_
    refine jN 2 lo3 1 0 (.msl 3 lo7 0 (List.length out6)) (.msl 3 lo7 0 (List.length out6)) [(.msl 3 lo7 0 (List.length out6))] hO rfl ?_
    refine bH 3 ?_
    obtain ⟨x12, hx13, h1⟩ := aU h1
    refine aCc (L' := fun lo14 => [(lo1, 1, [(eL aE t4)]), (lo2, 1, [(eI t5)]), (lo3, 1, [(.msl 3 lo7 0 (List.length out6))]), (lo14, 3, List.map aE x12)]) 3 lo7 3 (List.map aE out6) (List.map aE x12) 106 [(.msl 3 lo7 0 (List.length out6)), (eL aM t14), (eL aD x8.1)] (fun lo14 => (.msl 3 lo14 0 (List.length x12))) (by kernel_rfl) (by kernel_rfl) (YV lo7 out6 t14 x8.1 _ hx13) hO (by kernel_rfl) (fun _ => by kernel_rfl) ?_
    intro lo14 H hO
    refine jJ 2 lo3 1 0 (.msl 3 lo7 0 (List.length out6)) (.msl 3 lo14 0 (List.length x12)) [(.msl 3 lo7 0 (List.length out6))] [(lo1, 1, [(eL aE t4)]), (lo2, 1, [(eI t5)]), (lo3, 1, [(.msl 3 lo14 0 (List.length x12))]), (lo14, 3, List.map aE x12)] hO rfl (by kernel_rfl) ?_
    intro H hO
    refine cJ ?_
    refine bP [7, 9] [] ?_
    refine aQ ?_
    refine aT aH 3 ?_
    refine jN 2 lo3 1 0 (.msl 3 lo14 0 (List.length x12)) (.msl 3 lo14 0 (List.length x12)) [(.msl 3 lo14 0 (List.length x12))] hO rfl ?_
    refine bC ?_
    refine bP [] [(31, (aL (decide ((4096 : Int) < (lN x12)))))] ?_
    refine bL h1 (fun h1 => ?_) (fun h1 => ?_)
    · refine aQ ?_
      refine aT aH 2 ?_
      refine jJ 0 lo1 1 0 (eL aE t4) (.sl true 0 (fun _ => .bad)) [(eL aE t4)] [(lo1, 1, [(.sl true 0 (fun _ => .bad))]), (lo2, 1, [(eI t5)]), (lo3, 1, [(.msl 3 lo14 0 (List.length x12))]), (lo14, 3, List.map aE x12)] hO rfl (by kernel_rfl) ?_
      intro H hO
      refine jJ 1 lo2 1 0 (eI t5) (eI (7 : Int)) [(eI t5)] [(lo1, 1, [(.sl true 0 (fun _ => .bad))]), (lo2, 1, [(eI (7 : Int))]), (lo3, 1, [(.msl 3 lo14 0 (List.length x12))]), (lo14, 3, List.map aE x12)] hO rfl (by kernel_rfl) ?_
      intro H hO
      refine cJ ?_
      refine KR 0 lo1 1 (.sl true 0 (fun _ => .bad)) (eL aE ([])) [(lo1, 1, [(eL aE ([]))]), (lo2, 1, [(eI (7 : Int))]), (lo3, 1, [(.msl 3 lo14 0 (List.length x12))]), (lo14, 3, List.map aE x12)] hO (by kernel_rfl) (by kernel_rfl) fG (by kernel_rfl) ?_
      intro H hO
      refine bD [(4, (.lp lo1 0 0)), (5, (.lp lo2 0 0)), (6, (.lp lo3 0 0))] ?_
      refine bI ?_
      refine dK [(4, (.lp lo1 0 0)), (5, (.lp lo2 0 0)), (6, (.lp lo3 0 0))] ?_
      obtain rfl := oI h1
      exact aK (bY (⟨(gC hO hE ho1 .dead).1, rfl, _, ⟨lo14, rfl⟩, (gC hO hE ho1 _).2⟩))
    refine bN ?_
    refine dK [(4, (.lp lo1 0 0)), (5, (.lp lo2 0 0)), (6, (.lp lo3 0 0))] ?_
    obtain rfl := oI h1
    exact aK (aZ (⟨(gC hO hE ho1 .dead).1, rfl, _, ⟨lo14, rfl⟩, (gC hO hE ho1 _).2⟩))
  · intro b lD16 lL H' G' hi hO
    rcases o0 with s | s
    · dsimp only [Sum.elim_inl] at hi
      obtain ⟨lo7, rfl⟩ := hi
      replace h0 : (some (s.2.2, (0 : Int))) = some r := h0
      obtain ⟨hlL, hO⟩ := rH hO
      refine ⟨_, _, hlL, (by intro e; cases e), ?_⟩
      refine dK [(4, (.lp lo1 0 0)), (5, (.lp lo2 0 0)), (6, (.lp lo3 0 0))] ?_
      refine aK (aZ (aJ (?_)))
      refine aQ ?_
      refine ZP (e := aE) s.2.2 2 3 1 3 lo3 lo7 (List.length s.2.2) [(lo1, 1, [(eL aE s.1)]), (lo2, 1, [(eI s.2.1)]), (lo3, 1, [(eL aE s.2.2)])] hO (by kernel_rfl) (by kernel_rfl) (by kernel_rfl) (.inr (by decide)) (by kernel_rfl) ?_
      intro H hO
      refine aT aH 3 ?_
      refine jN 2 lo3 1 0 (eL aE s.2.2) (eL aE s.2.2) [(eL aE s.2.2)] hO rfl ?_
      refine jJ 0 lo1 1 0 (eL aE s.1) (eL aE s.2.2) [(eL aE s.1)] [(lo1, 1, [(eL aE s.2.2)]), (lo2, 1, [(eI s.2.1)]), (lo3, 1, [(eL aE s.2.2)])] hO rfl (by kernel_rfl) ?_
      intro H hO
      refine jJ 1 lo2 1 0 (eI s.2.1) (eI (0 : Int)) [(eI s.2.1)] [(lo1, 1, [(eL aE s.2.2)]), (lo2, 1, [(eI (0 : Int))]), (lo3, 1, [(eL aE s.2.2)])] hO rfl (by kernel_rfl) ?_
      intro H hO
      refine cJ ?_
      replace hO := hO.pick (L' := [(lo1, 1, [(eL aE s.2.2)]), (lo2, 1, [(eI (0 : Int))])]) [0, 1] (by decide) (by kernel_rfl)
      refine bP [6] [] ?_
      refine bI ?_
      obtain rfl := oI h0
      have hD := (hO.gm 0 _ rfl).2
      replace hO := (hO.wA .dead).vP
      exact aK (QM1 (.inr rfl) hD (rs := [.cell 4 45, .cell 5 24]) (xs := [(eL aE s.2.2), (eI (0 : Int))]) (x := (.tup [(eL aE s.2.2), (eI (0 : Int))])) (by kernel_rfl) (yE (lo := lo1) (k := 1) (y := (eL aE s.2.2)) (x := (eL aE s.2.2)) 0 hO (by kernel_rfl) (by kernel_rfl) (by kernel_rfl) (by kernel_rfl) (yE (lo := lo2) (k := 1) (y := (eI (0 : Int))) (x := (eI (0 : Int))) 1 hO (by kernel_rfl) (by kernel_rfl) (by kernel_rfl) (by kernel_rfl) rZ)) (by kernel_rfl) ⟨rfl, hO.out⟩)
    · dsimp only [Sum.elim_inr] at hi
      obtain ⟨lo7, rfl⟩ := hi
      replace h0 : (some (s.1, s.2.1)) = some r := h0
      obtain ⟨hlL, hO⟩ := rH hO
      refine ⟨_, _, hlL, (by intro e; cases e), ?_⟩
      refine bI ?_
      replace hO := hO.pick (L' := [(lo1, 1, [(eL aE s.1)]), (lo2, 1, [(eI s.2.1)])]) [0, 1] (by decide) (by kernel_rfl)
      obtain rfl := oI h0
      have hD := (hO.gm 0 _ rfl).2
      replace hO := (hO.wA .dead).vP
      exact aK (bY (bA (QM1 (.inr rfl) hD (rs := [.cell 4 45, .cell 5 24]) (xs := [(eL aE s.1), (eI s.2.1)]) (x := (.tup [(eL aE s.1), (eI s.2.1)])) (by kernel_rfl) (yE (lo := lo1) (k := 1) (y := (eL aE s.1)) (x := (eL aE s.1)) 0 hO (by kernel_rfl) (by kernel_rfl) (by kernel_rfl) (by kernel_rfl) (yE (lo := lo2) (k := 1) (y := (eI s.2.1)) (x := (eI s.2.1)) 1 hO (by kernel_rfl) (by kernel_rfl) (by kernel_rfl) (by kernel_rfl) rZ)) (by kernel_rfl) ⟨rfl, hO.out⟩)))

theorem uO (s0 : (List aA)) (f1_f : Nat) (f1_a f1_c : List V) (f1 : aA → Option Bool) (f1_h : ∀ a0 r, f1 a0 = some r → bS Try.prog f1_f (f1_a ++ [(aD a0)] ++ f1_c) (aL r)) (r : Int) (h0 : fS s0 f1 = some r) : bS Try.prog 132 [(eL aD s0), (.fn (.func f1_f) f1_a f1_c)] (eI r) := by
  intro H0
  refine cI Try.func132 ?_
  have hO := aO.start H0
  unfold fS at h0
  refine aY aH 1 [] [] ?_
  refine dG (fun T H => Has T [] ∧ aO ⟨H0, [], []⟩ H [] ∧ dQ f1  = some r) ?_ ?_
  · clear hO h0
    rintro T H ⟨hT, hO, h0⟩
    refine bB hT ?_
    clear hT
    unfold dQ at h0
    refine bV aH 1 [(4, (eI (-1 : Int)))] ?_
    refine bI ?_
    obtain rfl := oI h0
    exact aK (Q_r hO)
  refine aY aH 3 [] [(7, (eI (lN s0))), (8, (eI (0 : Int)))] ?_
  refine bR 0 ?_
  refine cW [(0, (eL aD s0)), (1, (.fn (.func f1_f) f1_a f1_c)), (7, (eI (lN s0))), (8, (eI (0 : Int)))] ?_
  refine cP (fun T H => ∃ t7 : Int, ∃ t8 : Int, Has T [(0, (eL aD s0)), (1, (.fn (.func f1_f) f1_a f1_c)), (7, (eI t7)), (8, (eI t8))] ∧ aO ⟨H0, [], []⟩ H [] ∧ fN f1 s0 t7 t8 = some r) ?_ ⟨(lN s0), (0 : Int), .eq (by kernel_rfl), hO, h0⟩
  clear hO h0
  rintro T H ⟨t7, t8, hT, hO, h0⟩
  refine bB hT ?_
  clear hT
  unfold fN at h0
  obtain ⟨rr0, hl0, h0⟩ := aU h0
  refine cD (by kernel_rfl) (fun (s : Int) T H => Has T [(0, (eL aD s0)), (1, (.fn (.func f1_f) f1_a f1_c)), (7, (eI t7)), (8, (eI s))] ∧ aO ⟨H0, [], []⟩ H []) hl0 ⟨.eq (by kernel_rfl), hO⟩ ?_
  clear hO
  rintro k0 s out1 T H ⟨hT, hO⟩ h1 ho0
  obtain ⟨t8, rfl⟩ : ∃ x, x = s := ⟨_, rfl⟩
  replace h1 : fO f1 s0 t7 t8 = some out1 := h1
  refine bB hT ?_
  clear hT
  unfold fO at h1
  refine aY aH 1 [] [(9, (aL (decide (t8 < t7))))] ?_
  refine aQ ?_
  refine bL h1 (fun h1 => ?_) (fun h1 => ?_)
  · refine bN ?_
    refine bD [(0, (eL aD s0)), (1, (.fn (.func f1_f) f1_a f1_c)), (7, (eI t7)), (8, (eI t8))] ?_
    refine aQ ?_
    refine bR 1 ?_
    refine aY aH 2 [] [(5, (eI t8))] ?_
    refine aQ ?_
    refine aT aH 6 ?_
    obtain ⟨c2, h1⟩ := bM h1
    refine sC 5 [0 ≤ t8 ∧ t8 < (lN s0)] ⟨c2, trivial⟩ ?_
    obtain ⟨x3, hx4, h1⟩ := aU h1
    refine cH (f1_h (gD s0 t8) _ hx4) hO ?_
    intro H hO
    refine cJ ?_
    refine bP [] [(16, (aL x3))] ?_
    refine bL h1 (fun h1 => ?_) (fun h1 => ?_)
    · refine bV aH 2 [(4, (eI t8))] ?_
      refine bI ?_
      obtain rfl := oI h1
      obtain rfl : _ = rr0 := ho0
      replace h0 : some t8 = some r := h0
      obtain rfl := oI h0
      exact aK (bY (bA (bA (bY (bA (Q_r hO))))))
    refine bN ?_
    refine dK [(0, (eL aD s0)), (1, (.fn (.func f1_f) f1_a f1_c)), (7, (eI t7)), (8, (eI t8))] ?_
    refine aK (aZ (aJ (?_)))
    refine aT aH 2 ?_
    refine bC ?_
    exact aK (aJ (⟨rfl, _, (oI h1).symm, .eq (by kernel_rfl), hO⟩))
  refine eC 0 ?_
  obtain rfl := oI h1
  obtain rfl : _ = rr0 := ho0
  replace h0 : dQ f1  = some r := h0
  exact aK (aW (aW (bO (aJ (⟨rfl, .eq (by kernel_rfl), hO, h0⟩)))))

theorem nI (s0 : (List aA)) (f1_f : Nat) (f1_a f1_c : List V) (f1 : aA → Option Bool) (f1_h : ∀ a0 r, f1 a0 = some r → bS Try.prog f1_f (f1_a ++ [(aD a0)] ++ f1_c) (aL r)) (r : Bool) (h0 : cU s0 f1 = some r) : bS Try.prog 107 [(eL aD s0), (.fn (.func f1_f) f1_a f1_c)] (aL r) := by
  intro H0
  refine cI Try.func107 ?_
  have hO := aO.start H0
  unfold cU at h0
  refine aY aH 1 [] [] ?_
  refine aQ ?_
  refine aT aH 5 ?_
  refine bH 2 ?_
  obtain ⟨x1, hx2, h0⟩ := aU h0
  refine cH (uO s0 f1_f f1_a f1_c f1 f1_h _ hx2) hO ?_
  intro H hO
  refine bC ?_
  refine bD [(4, (aL (decide ((0 : Int) ≤ x1))))] ?_
  refine bI ?_
  obtain rfl := oI h0
  exact aK (Q_r hO)

theorem KI (n0 : Int) (r : Bool) (h0 : wN n0 = some r) : bS Try.prog 109 [(eI n0)] (aL r) := by
  intro H0
  refine cI Try.func109 ?_
  have hO := aO.start H0
  unfold wN at h0
  refine aY aH 1 [] [] ?_
  refine bV aH 7 [(2, (aL ((decide (n0 ≤ (1048576 : Int))) && (decide ((-1048576 : Int) ≤ n0)))))] ?_
  refine bI ?_
  obtain rfl := oI h0
  exact aK (Q_r hO)

theorem RB (j0 : aA) (r : Bool) (h0 : tA j0 = some r) : bS Try.prog 108 [(aD j0)] (aL r) := by
  intro H0
  refine cI Try.func108 ?_
  have hO := aO.start H0
  unfold tA at h0
  refine aQ ?_
  refine aT aH 2 ?_
  refine gW 2 (aD j0) (by kernel_rfl) (by kernel_rfl) ?_
  refine bC ?_
  refine bD [(1, (.rp (aD j0)))] ?_
  refine aQ ?_
  refine aT aH 5 ?_
  refine bH 2 ?_
  obtain ⟨x1, hx2, h0⟩ := aU h0
  refine cH (KI j0.Net _ hx2) hO ?_
  intro H hO
  refine bC ?_
  refine bD [(2, (aL (!x1)))] ?_
  refine bI ?_
  obtain rfl := oI h0
  exact aK (Q_r hO)

theorem RF (j0 : aA) (r : Bool) (h0 : tM j0 = some r) : bS Try.prog 110 [(aD j0)] (aL r) := by
  intro H0
  refine cI Try.func110 ?_
  have hO := aO.start H0
  unfold tM at h0
  refine aQ ?_
  refine aT aH 2 ?_
  refine gW 2 (aD j0) (by kernel_rfl) (by kernel_rfl) ?_
  refine bC ?_
  refine bD [(1, (.rp (aD j0)))] ?_
  refine bV aH 9 [(2, (aL ((decide (j0.At < (-1 : Int))) || (decide ((1125899906842624 : Int) < j0.At)))))] ?_
  refine bI ?_
  obtain rfl := oI h0
  exact aK (Q_r hO)

theorem qB (s0 : (List aA)) (r : (List aA)) (h0 : cO s0 = some r) : BJ Try.prog 111 [(eL aD s0)] (fun lo => (.msl 2 lo 0 (List.length r))) 2 (List.map aD r) := by
  intro H0
  refine cI Try.func111 ?_
  have hO := aO.start H0
  unfold cO at h0
  refine aY aH 1 [] [] ?_
  refine aQ ?_
  refine aQ ?_
  refine aT aH 2 ?_
  refine bH 1 ?_
  refine aBW false (List.length s0) (fun i => aD (List.getD s0 i default)) (by kernel_rfl) (by kernel_rfl) ?_
  intro b1 hn2
  refine cJ ?_
  refine bP [] [(4, (aL b1))] ?_
  refine oX (b1) (fun hc3 => ?_) (fun hc3 => ?_)
  · replace h0 : some ([] : List aA) = some r := by
      have hl := List.eq_nil_of_length_eq_zero (hn2 hc3)
      rw [hl] at h0
      exact (bM h0).2
    refine bV aH 1 [(2, (.sl true 0 (fun _ => .bad)))] ?_
    refine bI ?_
    refine dK [(2, (.sl true 0 (fun _ => .bad)))] ?_
    refine aAk (el := (fun _ => .bad)) 0 2 2 hO (by kernel_rfl) ?_
    intro lo4 H5 hO
    obtain rfl := oI h0
    exact aK (bA (rB (x := (.msl 2 lo4 0 (List.length ([] : List aA)))) (by kernel_rfl) (aX.refl _) ⟨lo4, rfl, hO⟩))
  · refine bN ?_
    refine bD [(0, (eL aD s0))] ?_
    refine aQ ?_
    refine aT aH 4 ?_
    refine rV (xs := []) (k := 2) (by kernel_rfl) (by kernel_rfl) ?_
    refine bH 2 ?_
    obtain ⟨c7, h0⟩ := bM h0
    refine WZ (e := aD) s0 (fun _ => .bad) 2 16 (eL aD s0) (fun lo6 => [(lo6, 2, List.map aD s0)]) (by kernel_rfl) (by kernel_rfl) hO (OG (fun _ => by kernel_rfl)) c7 (fun _ => by kernel_rfl) ?_
    intro lo6 H hO
    refine bC ?_
    refine bD [(2, (.msl 2 lo6 0 (List.length s0)))] ?_
    refine bI ?_
    obtain rfl := oI h0
    exact aK (rB (x := (.msl 2 lo6 0 (List.length s0))) (by kernel_rfl) (aX.refl _) ⟨lo6, rfl, hO⟩)

theorem nU (lo0p : Nat) (aB : (List aA)) (a1 : Int) (b2 : Int) (cmp3_f : Nat) (cmp3_a cmp3_c : List V) (cmp3 : aA → aA → Option Int) (cmp3_h : ∀ a0 a1 r, cmp3 a0 a1 = some r → bS Try.prog cmp3_f (cmp3_a ++ [(aD a0), (aD a1)] ++ cmp3_c) (eI r)) (r : List aA) (h0 : dM aB a1 b2 cmp3 = some r) : lO Try.prog 140 lo0p 2 (List.map aD aB) (List.map aD r) [(.msl 2 lo0p 0 (List.length aB)), (eI a1), (eI b2), (.fn (.func cmp3_f) cmp3_a cmp3_c)] (.tup []) := by
  intro H0 hl0
  refine cI Try.func140 ?_
  have hO := aO.rK hl0
  clear hl0
  obtain ⟨N0, hN0⟩ : ∃ n, n = List.length aB := ⟨_, rfl⟩
  have hN : List.length aB = N0 := hN0.symm
  unfold dM at h0
  refine aY aH 3 [] [(8, (eI (wR (a1 + (1 : Int)))))] ?_
  refine bR 0 ?_
  refine cW [(0, (.msl 2 lo0p 0 (List.length aB))), (1, (eI a1)), (2, (eI b2)), (3, (.fn (.func cmp3_f) cmp3_a cmp3_c)), (8, (eI (wR (a1 + (1 : Int)))))] ?_
  refine cP (fun T H => ∃ aB : List aA, ∃ i8 : Int, Has T [(0, (.msl 2 lo0p 0 (List.length aB))), (1, (eI a1)), (2, (eI b2)), (3, (.fn (.func cmp3_f) cmp3_a cmp3_c)), (8, (eI i8))] ∧ aO ⟨H0, [lo0p], []⟩ H [(lo0p, 2, List.map aD aB)] ∧ List.length aB = N0 ∧ jB cmp3 aB a1 b2 i8 = some r) ?_ ⟨aB, wR (a1 + (1 : Int)), .eq (by kernel_rfl), hO, hN, h0⟩
  clear hO hN h0
  rintro T H ⟨aB, i8, hT, hO, hN, h0⟩
  refine bB hT ?_
  clear hT
  unfold jB at h0
  obtain ⟨rr0, hl0, h0⟩ := aU h0
  refine cD (by kernel_rfl) (fun (s : List aA × Int) T H => Has T [(0, (.msl 2 lo0p 0 (List.length s.1))), (1, (eI a1)), (2, (eI b2)), (3, (.fn (.func cmp3_f) cmp3_a cmp3_c)), (8, (eI s.2))] ∧ aO ⟨H0, [lo0p], []⟩ H [(lo0p, 2, List.map aD s.1)] ∧ List.length s.1 = N0) hl0 ⟨.eq (by kernel_rfl), hO, hN⟩ ?_
  clear hO hN
  rintro k0 s out1 T H ⟨hT, hO, hN⟩ h1 ho0
  obtain ⟨aB, i8⟩ := s
  replace h1 : iT cmp3 a1 b2 aB i8 = some out1 := h1
  try dsimp only at hT
  refine bB hT ?_
  clear hT
  unfold iT at h1
  refine aQ ?_
  refine aY aH 3 [] [(14, (aL (decide (i8 < b2))))] ?_
  refine bL h1 (fun h1 => ?_) (fun h1 => ?_)
  · refine bN ?_
    refine bD [(0, (.msl 2 lo0p 0 (List.length aB))), (1, (eI a1)), (2, (eI b2)), (3, (.fn (.func cmp3_f) cmp3_a cmp3_c)), (8, (eI i8))] ?_
    refine dG (fun T H => ∃ aB : List aA, Has T [(0, (.msl 2 lo0p 0 (List.length aB))), (1, (eI a1)), (2, (eI b2)), (3, (.fn (.func cmp3_f) cmp3_a cmp3_c)), (8, (eI i8))] ∧ aO ⟨H0, [lo0p], []⟩ H [(lo0p, 2, List.map aD aB)] ∧ List.length aB = N0 ∧ eW cmp3 aB a1 b2 i8 = some out1) ?_ ?_
    · clear hO hN h1
      rintro T H ⟨aB, hT, hO, hN, h1⟩
      refine bB hT ?_
      clear hT
      unfold eW at h1
      refine aT aH 3 ?_
      refine bC ?_
      exact aK (aJ (⟨rfl, _, (oI h1).symm, .eq (by kernel_rfl), hO, hN⟩))
    refine bR 1 ?_
    refine aY aH 2 [] [(9, (eI i8))] ?_
    refine bR 2 ?_
    refine cW [(0, (.msl 2 lo0p 0 (List.length aB))), (1, (eI a1)), (2, (eI b2)), (3, (.fn (.func cmp3_f) cmp3_a cmp3_c)), (8, (eI i8)), (9, (eI i8))] ?_
    refine cP (fun T H => ∃ aB : List aA, ∃ j9 : Int, Has T [(0, (.msl 2 lo0p 0 (List.length aB))), (1, (eI a1)), (2, (eI b2)), (3, (.fn (.func cmp3_f) cmp3_a cmp3_c)), (8, (eI i8)), (9, (eI j9))] ∧ aO ⟨H0, [lo0p], []⟩ H [(lo0p, 2, List.map aD aB)] ∧ List.length aB = N0 ∧ iS cmp3 aB a1 b2 i8 j9 = some out1) ?_ ⟨aB, i8, .eq (by kernel_rfl), hO, hN, h1⟩
    clear hO hN h1
    rintro T H ⟨aB, j9, hT, hO, hN, h1⟩
    refine bB hT ?_
    clear hT
    unfold iS at h1
    obtain ⟨rr1, hl1, h1⟩ := aU h1
    refine cD (by kernel_rfl) (fun (s : List aA × Int) T H => Has T [(0, (.msl 2 lo0p 0 (List.length s.1))), (1, (eI a1)), (2, (eI b2)), (3, (.fn (.func cmp3_f) cmp3_a cmp3_c)), (8, (eI i8)), (9, (eI s.2))] ∧ aO ⟨H0, [lo0p], []⟩ H [(lo0p, 2, List.map aD s.1)] ∧ List.length s.1 = N0) hl1 ⟨.eq (by kernel_rfl), hO, hN⟩ ?_
    clear hO hN
    rintro k1 s out2 T H ⟨hT, hO, hN⟩ h2 ho1
    obtain ⟨aB, j9⟩ := s
    replace h2 : iX cmp3 a1 b2 i8 aB j9 = some out2 := h2
    try dsimp only at hT
    refine bB hT ?_
    clear hT
    unfold iX at h2
    refine aQ ?_
    refine aQ ?_
    obtain ⟨c2, h2⟩ := bM h2
    obtain ⟨c3, h2⟩ := bM h2
    obtain ⟨x4, hx5, h2⟩ := aU h2
    refine jT (jS []) aH 17 ?_
    refine IW (K := fun T H => Has (lift T) [(0, (.msl 2 lo0p 0 (List.length aB))), (1, (eI a1)), (2, (eI b2)), (3, (.fn (.func cmp3_f) cmp3_a cmp3_c)), (8, (eI i8)), (9, (eI j9)), (34, (aL ((decide (a1 < j9)) && (decide (x4 < (0 : Int))))))] ∧ aO ⟨H0, [lo0p], []⟩ H [(lo0p, 2, List.map aD aB)]) ?_ ?_
    · refine sD 4 ?_
      refine JI (t := 21) (e := decide (a1 < j9)) (by kernel_rfl) (fun hg6 => ?_) (fun hg6 => ?_)
      · refine dP 8 [0 ≤ j9 ∧ j9 < (lN aB)] ⟨(c2 hg6), trivial⟩ ?_
        refine BU 0 lo0p 2 (0 + Int.toNat j9) (aD (gD aB j9)) (aD (gD aB j9)) (List.map aD aB) (by kernel_rfl) (by kernel_rfl) (by kernel_rfl) hO (by kernel_rfl) (cR (c2 hg6)) ?_
        refine dP 13 [0 ≤ (wR (j9 - (1 : Int))) ∧ (wR (j9 - (1 : Int))) < (lN aB)] ⟨(c3 hg6), trivial⟩ ?_
        refine BU 0 lo0p 2 (0 + Int.toNat (wR (j9 - (1 : Int)))) (aD (gD aB (wR (j9 - (1 : Int))))) (aD (gD aB (wR (j9 - (1 : Int))))) (List.map aD aB) (by kernel_rfl) (by kernel_rfl) (by kernel_rfl) hO (by kernel_rfl) (cR (c3 hg6)) ?_
        refine OV cmp3_f (cmp3_a ++ [(aD (gD aB j9)), (aD (gD aB (wR (j9 - (1 : Int)))))] ++ cmp3_c) (eI x4) (by kernel_rfl) (by kernel_rfl) (cmp3_h (gD aB j9) (gD aB (wR (j9 - (1 : Int)))) _ (iU hx5 hg6)) hO ?_
        intro H hO
        refine qL ?_
        exact ⟨⟨[(0, (.msl 2 lo0p 0 (List.length aB))), (1, (eI a1)), (2, (eI b2)), (3, (.fn (.func cmp3_f) cmp3_a cmp3_c)), (8, (eI i8)), (9, (eI j9)), (34, (aL (decide (x4 < (0 : Int)))))], by kernel_rfl, rfl, ⟨aX.refl _, aX.refl _, aX.refl _, aX.refl _, aX.refl _, aX.refl _, aX.eq (congrArg aL (JL hg6 rfl).symm), trivial⟩⟩, hO⟩
      refine qL ?_
      exact ⟨⟨[(0, (.msl 2 lo0p 0 (List.length aB))), (1, (eI a1)), (2, (eI b2)), (3, (.fn (.func cmp3_f) cmp3_a cmp3_c)), (8, (eI i8)), (9, (eI j9)), (34, (aL false))], by kernel_rfl, rfl, ⟨aX.refl _, aX.refl _, aX.refl _, aX.refl _, aX.refl _, aX.refl _, aX.eq (congrArg aL (JL hg6 rfl).symm), trivial⟩⟩, hO⟩
    · rintro T H ⟨hT, hO⟩
      refine cS hT ?_
      clear hT
      refine aK (aJ ?_)
      refine bL h2 (fun h2 => ?_) (fun h2 => ?_)
      · refine bN ?_
        refine bD [(0, (.msl 2 lo0p 0 (List.length aB))), (1, (eI a1)), (2, (eI b2)), (3, (.fn (.func cmp3_f) cmp3_a cmp3_c)), (8, (eI i8)), (9, (eI j9))] ?_
        refine aQ ?_
        refine bR 3 ?_
        refine jT (jS []) aH 18 ?_
        obtain ⟨c8, h2⟩ := bM h2
        refine dP 9 [0 ≤ (wR (j9 - (1 : Int))) ∧ (wR (j9 - (1 : Int))) < (lN aB)] ⟨c8, trivial⟩ ?_
        refine lI 0 lo0p 2 (0 + Int.toNat (wR (j9 - (1 : Int)))) (aD (gD aB (wR (j9 - (1 : Int))))) (aD (gD aB (wR (j9 - (1 : Int))))) (List.map aD aB) hO (cR c8) ?_
        obtain ⟨c9, h2⟩ := bM h2
        refine dP 13 [0 ≤ j9 ∧ j9 < (lN aB)] ⟨c9, trivial⟩ ?_
        refine lI 0 lo0p 2 (0 + Int.toNat j9) (aD (gD aB j9)) (aD (gD aB j9)) (List.map aD aB) hO (cR c9) ?_
        obtain ⟨c10, h2⟩ := bM h2
        refine dP 15 [0 ≤ j9 ∧ j9 < (lN aB)] ⟨c10, trivial⟩ ?_
        refine sY 0 lo0p 2 (0 + Int.toNat j9) (aD (gD aB j9)) (aD (gD aB (wR (j9 - (1 : Int))))) (List.map aD aB) [(lo0p, 2, List.map aD (List.set aB (Int.toNat j9) (gD aB (wR (j9 - (1 : Int))))))] hO (cR c10) (by simp only [List.set, oQ]) ?_
        intro H hO
        replace hN : List.length (List.set aB (Int.toNat j9) (gD aB (wR (j9 - (1 : Int))))) = N0 := by simpa using hN
        obtain ⟨c11, h2⟩ := bM h2
        refine dP 17 [0 ≤ (wR (j9 - (1 : Int))) ∧ (wR (j9 - (1 : Int))) < (lN aB)] ⟨c11, trivial⟩ ?_
        refine sY 0 lo0p 2 (0 + Int.toNat (wR (j9 - (1 : Int)))) (aD (gD (List.set aB (Int.toNat j9) (gD aB (wR (j9 - (1 : Int))))) (wR (j9 - (1 : Int))))) (aD (gD aB j9)) (List.map aD (List.set aB (Int.toNat j9) (gD aB (wR (j9 - (1 : Int)))))) [(lo0p, 2, List.map aD (List.set (List.set aB (Int.toNat j9) (gD aB (wR (j9 - (1 : Int))))) (Int.toNat (wR (j9 - (1 : Int)))) (gD aB j9)))] hO (yB c11 (by simp [])) (by simp only [List.set, oQ]) ?_
        intro H hO
        replace hN : List.length (List.set (List.set aB (Int.toNat j9) (gD aB (wR (j9 - (1 : Int))))) (Int.toNat (wR (j9 - (1 : Int)))) (gD aB j9)) = N0 := by simpa using hN
        refine yK (by kernel_rfl) ?_
        refine cS (l := [(0, (.msl 2 lo0p 0 (List.length (List.set (List.set aB (Int.toNat j9) (gD aB (wR (j9 - (1 : Int))))) (Int.toNat (wR (j9 - (1 : Int)))) (gD aB j9))))), (1, (eI a1)), (2, (eI b2)), (3, (.fn (.func cmp3_f) cmp3_a cmp3_c)), (8, (eI i8)), (9, (eI j9))]) ⟨[(0, (.msl 2 lo0p 0 (List.length aB))), (1, (eI a1)), (2, (eI b2)), (3, (.fn (.func cmp3_f) cmp3_a cmp3_c)), (8, (eI i8)), (9, (eI j9))], by kernel_rfl, rfl, ⟨aX.eq (by simp []), aX.refl _, aX.refl _, aX.refl _, aX.refl _, aX.refl _, trivial⟩⟩ ?_
        refine aK (aZ (aJ (?_)))
        refine aT aH 3 ?_
        refine bC ?_
        exact aK (aJ (⟨rfl, _, (oI h2).symm, .eq (by kernel_rfl), hO, hN⟩))
      refine eC 2 ?_
      obtain rfl := oI h2
      obtain rfl : _ = rr1 := ho1
      replace h1 : eW cmp3 aB a1 b2 i8 = some out1 := h1
      exact aK (aW (aW (bO (aZ (aJ (⟨rfl, _, .eq (by kernel_rfl), hO, hN, h1⟩))))))
  refine eC 0 ?_
  obtain rfl := oI h1
  obtain rfl : _ = rr0 := ho0
  replace h0 : some aB = some r := h0
  obtain rfl := oI h0
  exact aK (aW (aW (bO (rU (x := (.tup [])) (by kernel_rfl) (aX.refl _) ⟨rfl, hO.ext, hO.at 0 (by kernel_rfl), by simp only [List.length_map]; exact hN.trans hN0⟩))))

theorem lH (lo0p : Nat) (aB : (List aA)) (a1 : Int) (b2 : Int) (n3 : Int) (cmp4_f : Nat) (cmp4_a cmp4_c : List V) (cmp4 : aA → aA → Option Int) (cmp4_h : ∀ a0 a1 r, cmp4 a0 a1 = some r → bS Try.prog cmp4_f (cmp4_a ++ [(aD a0), (aD a1)] ++ cmp4_c) (eI r)) (r : List aA) (h0 : eK aB a1 b2 n3 cmp4 = some r) : lO Try.prog 145 lo0p 2 (List.map aD aB) (List.map aD r) [(.msl 2 lo0p 0 (List.length aB)), (eI a1), (eI b2), (eI n3), (.fn (.func cmp4_f) cmp4_a cmp4_c)] (.tup []) := by
  intro H0 hl0
  refine cI Try.func145 ?_
  have hO := aO.rK hl0
  clear hl0
  obtain ⟨N0, hN0⟩ : ∃ n, n = List.length aB := ⟨_, rfl⟩
  have hN : List.length aB = N0 := hN0.symm
  unfold eK at h0
  refine aY aH 1 [4] [(10, (eI (0 : Int)))] ?_
  refine bR 0 ?_
  refine cW [(0, (.msl 2 lo0p 0 (List.length aB))), (1, (eI a1)), (2, (eI b2)), (3, (eI n3)), (10, (eI (0 : Int)))] ?_
  refine cP (fun T H => ∃ aB : List aA, ∃ i10 : Int, Has T [(0, (.msl 2 lo0p 0 (List.length aB))), (1, (eI a1)), (2, (eI b2)), (3, (eI n3)), (10, (eI i10))] ∧ aO ⟨H0, [lo0p], []⟩ H [(lo0p, 2, List.map aD aB)] ∧ List.length aB = N0 ∧ kQ cmp4 aB a1 b2 n3 i10 = some r) ?_ ⟨aB, (0 : Int), .eq (by kernel_rfl), hO, hN, h0⟩
  clear hO hN h0
  rintro T H ⟨aB, i10, hT, hO, hN, h0⟩
  refine bB hT ?_
  clear hT
  unfold kQ at h0
  obtain ⟨rr0, hl0, h0⟩ := aU h0
  refine cD (by kernel_rfl) (fun (s : List aA × Int) T H => Has T [(0, (.msl 2 lo0p 0 (List.length s.1))), (1, (eI a1)), (2, (eI b2)), (3, (eI n3)), (10, (eI s.2))] ∧ aO ⟨H0, [lo0p], []⟩ H [(lo0p, 2, List.map aD s.1)] ∧ List.length s.1 = N0) hl0 ⟨.eq (by kernel_rfl), hO, hN⟩ ?_
  clear hO hN
  rintro k0 s out1 T H ⟨hT, hO, hN⟩ h1 ho0
  obtain ⟨aB, i10⟩ := s
  replace h1 : kJ cmp4 a1 b2 n3 aB i10 = some out1 := h1
  try dsimp only at hT
  refine bB hT ?_
  clear hT
  unfold kJ at h1
  refine aQ ?_
  refine aY aH 3 [] [(13, (aL (decide (i10 < n3))))] ?_
  refine bL h1 (fun h1 => ?_) (fun h1 => ?_)
  · refine bN ?_
    refine bD [(0, (.msl 2 lo0p 0 (List.length aB))), (1, (eI a1)), (2, (eI b2)), (3, (eI n3)), (10, (eI i10))] ?_
    refine aQ ?_
    refine bR 1 ?_
    refine jT (jS []) aH 24 ?_
    obtain ⟨c2, h1⟩ := bM h1
    refine dP 13 [0 ≤ (wR (b2 + i10)) ∧ (wR (b2 + i10)) < (lN aB)] ⟨c2, trivial⟩ ?_
    refine lI 0 lo0p 2 (0 + Int.toNat (wR (b2 + i10))) (aD (gD aB (wR (b2 + i10)))) (aD (gD aB (wR (b2 + i10)))) (List.map aD aB) hO (cR c2) ?_
    obtain ⟨c3, h1⟩ := bM h1
    refine dP 19 [0 ≤ (wR (a1 + i10)) ∧ (wR (a1 + i10)) < (lN aB)] ⟨c3, trivial⟩ ?_
    refine lI 0 lo0p 2 (0 + Int.toNat (wR (a1 + i10))) (aD (gD aB (wR (a1 + i10)))) (aD (gD aB (wR (a1 + i10)))) (List.map aD aB) hO (cR c3) ?_
    obtain ⟨c4, h1⟩ := bM h1
    refine dP 21 [0 ≤ (wR (a1 + i10)) ∧ (wR (a1 + i10)) < (lN aB)] ⟨c4, trivial⟩ ?_
    refine sY 0 lo0p 2 (0 + Int.toNat (wR (a1 + i10))) (aD (gD aB (wR (a1 + i10)))) (aD (gD aB (wR (b2 + i10)))) (List.map aD aB) [(lo0p, 2, List.map aD (List.set aB (Int.toNat (wR (a1 + i10))) (gD aB (wR (b2 + i10)))))] hO (cR c4) (by simp only [List.set, oQ]) ?_
    intro H hO
    replace hN : List.length (List.set aB (Int.toNat (wR (a1 + i10))) (gD aB (wR (b2 + i10)))) = N0 := by simpa using hN
    obtain ⟨c5, h1⟩ := bM h1
    refine dP 23 [0 ≤ (wR (b2 + i10)) ∧ (wR (b2 + i10)) < (lN aB)] ⟨c5, trivial⟩ ?_
    refine sY 0 lo0p 2 (0 + Int.toNat (wR (b2 + i10))) (aD (gD (List.set aB (Int.toNat (wR (a1 + i10))) (gD aB (wR (b2 + i10)))) (wR (b2 + i10)))) (aD (gD aB (wR (a1 + i10)))) (List.map aD (List.set aB (Int.toNat (wR (a1 + i10))) (gD aB (wR (b2 + i10))))) [(lo0p, 2, List.map aD (List.set (List.set aB (Int.toNat (wR (a1 + i10))) (gD aB (wR (b2 + i10)))) (Int.toNat (wR (b2 + i10))) (gD aB (wR (a1 + i10)))))] hO (yB c5 (by simp [])) (by simp only [List.set, oQ]) ?_
    intro H hO
    replace hN : List.length (List.set (List.set aB (Int.toNat (wR (a1 + i10))) (gD aB (wR (b2 + i10)))) (Int.toNat (wR (b2 + i10))) (gD aB (wR (a1 + i10)))) = N0 := by simpa using hN
    refine yK (by kernel_rfl) ?_
    refine cS (l := [(0, (.msl 2 lo0p 0 (List.length (List.set (List.set aB (Int.toNat (wR (a1 + i10))) (gD aB (wR (b2 + i10)))) (Int.toNat (wR (b2 + i10))) (gD aB (wR (a1 + i10))))))), (1, (eI a1)), (2, (eI b2)), (3, (eI n3)), (10, (eI i10))]) ⟨[(0, (.msl 2 lo0p 0 (List.length aB))), (1, (eI a1)), (2, (eI b2)), (3, (eI n3)), (10, (eI i10))], by kernel_rfl, rfl, ⟨aX.eq (by simp []), aX.refl _, aX.refl _, aX.refl _, aX.refl _, trivial⟩⟩ ?_
    refine aK (aZ (aJ (?_)))
    refine aT aH 3 ?_
    refine bC ?_
    exact aK (aJ (⟨rfl, _, (oI h1).symm, .eq (by kernel_rfl), hO, hN⟩))
  refine eC 0 ?_
  obtain rfl := oI h1
  obtain rfl : _ = rr0 := ho0
  replace h0 : some aB = some r := h0
  obtain rfl := oI h0
  exact aK (aW (aW (bO (rU (x := (.tup [])) (by kernel_rfl) (aX.refl _) ⟨rfl, hO.ext, hO.at 0 (by kernel_rfl), by simp only [List.length_map]; exact hN.trans hN0⟩))))

theorem yF (lo0p : Nat) (aB : (List aA)) (a1 : Int) (m2 : Int) (b3 : Int) (cmp4_f : Nat) (cmp4_a cmp4_c : List V) (cmp4 : aA → aA → Option Int) (cmp4_h : ∀ a0 a1 r, cmp4 a0 a1 = some r → bS Try.prog cmp4_f (cmp4_a ++ [(aD a0), (aD a1)] ++ cmp4_c) (eI r)) (r : List aA) (h0 : mM aB a1 m2 b3 cmp4 = some r) : lO Try.prog 144 lo0p 2 (List.map aD aB) (List.map aD r) [(.msl 2 lo0p 0 (List.length aB)), (eI a1), (eI m2), (eI b3), (.fn (.func cmp4_f) cmp4_a cmp4_c)] (.tup []) := by
  intro H0 hl0
  refine cI Try.func144 ?_
  have hO := aO.rK hl0
  clear hl0
  obtain ⟨N0, hN0⟩ : ∃ n, n = List.length aB := ⟨_, rfl⟩
  have hN : List.length aB = N0 := hN0.symm
  unfold mM at h0
  refine aY aH 4 [1] [(10, (eI (wR (m2 - a1))))] ?_
  refine aY aH 4 [3] [(11, (eI (wR (b3 - m2))))] ?_
  refine dG (fun T H => ∃ aB : List aA, ∃ i10 : Int, Has T [(0, (.msl 2 lo0p 0 (List.length aB))), (2, (eI m2)), (4, (.fn (.func cmp4_f) cmp4_a cmp4_c)), (10, (eI i10))] ∧ aO ⟨H0, [lo0p], []⟩ H [(lo0p, 2, List.map aD aB)] ∧ List.length aB = N0 ∧ iI cmp4 aB m2 i10 = some r) ?_ ?_
  · clear hO hN h0
    rintro T H ⟨aB, i10, hT, hO, hN, h0⟩
    refine bB hT ?_
    clear hT
    unfold iI at h0
    refine aT aH 8 ?_
    refine bH 7 ?_
    obtain ⟨x1, hx2, h0⟩ := aU h0
    refine pG [(lo0p, 2, List.map aD x1)] 0 (lH lo0p aB (wR (m2 - i10)) m2 i10 cmp4_f cmp4_a cmp4_c cmp4 cmp4_h _ hx2) hO ?_
    intro H hO hl3
    simp only [List.length_map] at hl3
    replace hN := hl3.trans hN
    refine cJ ?_
    refine cS (l := [(0, (.msl 2 lo0p 0 (List.length x1)))]) ⟨[(0, (.msl 2 lo0p 0 (List.length aB)))], by kernel_rfl, rfl, ⟨aX.eq (by simp [hl3]), trivial⟩⟩ ?_
    obtain rfl := oI h0
    exact aK (rU (x := (.tup [])) (by kernel_rfl) (aX.refl _) ⟨rfl, hO.ext, hO.at 0 (by kernel_rfl), by simp only [List.length_map]; exact hN.trans hN0⟩)
  refine bR 0 ?_
  refine cW [(0, (.msl 2 lo0p 0 (List.length aB))), (2, (eI m2)), (4, (.fn (.func cmp4_f) cmp4_a cmp4_c)), (10, (eI (wR (m2 - a1)))), (11, (eI (wR (b3 - m2))))] ?_
  refine cP (fun T H => ∃ aB : List aA, ∃ i10 : Int, ∃ j11 : Int, Has T [(0, (.msl 2 lo0p 0 (List.length aB))), (2, (eI m2)), (4, (.fn (.func cmp4_f) cmp4_a cmp4_c)), (10, (eI i10)), (11, (eI j11))] ∧ aO ⟨H0, [lo0p], []⟩ H [(lo0p, 2, List.map aD aB)] ∧ List.length aB = N0 ∧ lZ cmp4 aB m2 i10 j11 = some r) ?_ ⟨aB, wR (m2 - a1), wR (b3 - m2), .eq (by kernel_rfl), hO, hN, h0⟩
  clear hO hN h0
  rintro T H ⟨aB, i10, j11, hT, hO, hN, h0⟩
  refine bB hT ?_
  clear hT
  unfold lZ at h0
  obtain ⟨rr0, hl0, h0⟩ := aU h0
  refine cD (by kernel_rfl) (fun (s : List aA × Int × Int) T H => Has T [(0, (.msl 2 lo0p 0 (List.length s.1))), (2, (eI m2)), (4, (.fn (.func cmp4_f) cmp4_a cmp4_c)), (10, (eI s.2.1)), (11, (eI s.2.2))] ∧ aO ⟨H0, [lo0p], []⟩ H [(lo0p, 2, List.map aD s.1)] ∧ List.length s.1 = N0) hl0 ⟨.eq (by kernel_rfl), hO, hN⟩ ?_
  clear hO hN
  rintro k0 s out1 T H ⟨hT, hO, hN⟩ h1 ho0
  obtain ⟨aB, i10, j11⟩ := s
  replace h1 : mC cmp4 m2 aB i10 j11 = some out1 := h1
  try dsimp only at hT
  refine bB hT ?_
  clear hT
  unfold mC at h1
  refine aQ ?_
  refine aY aH 3 [] [(20, (aL (!decide (i10 = j11))))] ?_
  refine bL h1 (fun h1 => ?_) (fun h1 => ?_)
  · refine bN ?_
    refine bD [(0, (.msl 2 lo0p 0 (List.length aB))), (2, (eI m2)), (4, (.fn (.func cmp4_f) cmp4_a cmp4_c)), (10, (eI i10)), (11, (eI j11))] ?_
    refine bR 1 ?_
    refine aY aH 3 [] [(23, (aL (decide (j11 < i10))))] ?_
    refine bL h1 (fun h1 => ?_) (fun h1 => ?_)
    · refine aQ ?_
      refine aT aH 8 ?_
      refine bH 7 ?_
      obtain ⟨x6, hx7, h1⟩ := aU h1
      refine pG [(lo0p, 2, List.map aD x6)] 0 (lH lo0p aB (wR (m2 - i10)) m2 j11 cmp4_f cmp4_a cmp4_c cmp4 cmp4_h _ hx7) hO ?_
      intro H hO hl8
      simp only [List.length_map] at hl8
      replace hN := hl8.trans hN
      refine cJ ?_
      refine cS (l := [(0, (.msl 2 lo0p 0 (List.length x6))), (2, (eI m2)), (4, (.fn (.func cmp4_f) cmp4_a cmp4_c)), (10, (eI i10)), (11, (eI j11))]) ⟨[(0, (.msl 2 lo0p 0 (List.length aB))), (2, (eI m2)), (4, (.fn (.func cmp4_f) cmp4_a cmp4_c)), (10, (eI i10)), (11, (eI j11))], by kernel_rfl, rfl, ⟨aX.eq (by simp [hl8]), aX.refl _, aX.refl _, aX.refl _, aX.refl _, trivial⟩⟩ ?_
      refine aK (aJ (?_))
      refine aT aH 4 ?_
      refine bC ?_
      exact aK (aZ (aJ (⟨rfl, _, (oI h1).symm, .eq (by kernel_rfl), hO, hN⟩)))
    refine aQ ?_
    refine aT aH 12 ?_
    refine bH 11 ?_
    obtain ⟨x9, hx10, h1⟩ := aU h1
    refine pG [(lo0p, 2, List.map aD x9)] 0 (lH lo0p aB (wR (m2 - i10)) (wR ((wR (m2 + j11)) - i10)) i10 cmp4_f cmp4_a cmp4_c cmp4 cmp4_h _ hx10) hO ?_
    intro H hO hl11
    simp only [List.length_map] at hl11
    replace hN := hl11.trans hN
    refine cJ ?_
    refine cS (l := [(0, (.msl 2 lo0p 0 (List.length x9))), (2, (eI m2)), (4, (.fn (.func cmp4_f) cmp4_a cmp4_c)), (10, (eI i10)), (11, (eI j11))]) ⟨[(0, (.msl 2 lo0p 0 (List.length aB))), (2, (eI m2)), (4, (.fn (.func cmp4_f) cmp4_a cmp4_c)), (10, (eI i10)), (11, (eI j11))], by kernel_rfl, rfl, ⟨aX.eq (by simp [hl11]), aX.refl _, aX.refl _, aX.refl _, aX.refl _, trivial⟩⟩ ?_
    refine aK (aJ (?_))
    refine aT aH 4 ?_
    refine bC ?_
    exact aK (aZ (aJ (⟨rfl, _, (oI h1).symm, .eq (by kernel_rfl), hO, hN⟩)))
  refine eC 0 ?_
  obtain rfl := oI h1
  obtain rfl : _ = rr0 := ho0
  replace h0 : iI cmp4 aB m2 i10 = some r := h0
  exact aK (aW (aW (bO (aJ (⟨rfl, _, _, .eq (by kernel_rfl), hO, hN, h0⟩)))))

end Go.Abs
namespace Go.Abs
open Go Go.RowKit Go.Proofs
theorem uB (cmp4_f : Nat) (cmp4_a cmp4_c : List V) (cmp4 : aA → aA → Option Int) (cmp4_h : ∀ a0 a1 r, cmp4 a0 a1 = some r → bS Try.prog cmp4_f (cmp4_a ++ [(aD a0), (aD a1)] ++ cmp4_c) (eI r)) (rec : (List aA) → Int → Int → Int → Option (List aA)) (ih : ∀ (lo0p : Nat) (aB : (List aA)) (a1 : Int) (m2 : Int) (b3 : Int) (r : List aA), rec aB a1 m2 b3 = some r → lO Try.prog 141 lo0p 2 (List.map aD aB) (List.map aD r) [(.msl 2 lo0p 0 (List.length aB)), (eI a1), (eI m2), (eI b3), (.fn (.func cmp4_f) cmp4_a cmp4_c)] (.tup [])) (lo0p : Nat) (aB : (List aA)) (a1 : Int) (m2 : Int) (b3 : Int) (r : List aA) (h0 : dX cmp4 rec aB a1 m2 b3 = some r) : lO Try.prog 141 lo0p 2 (List.map aD aB) (List.map aD r) [(.msl 2 lo0p 0 (List.length aB)), (eI a1), (eI m2), (eI b3), (.fn (.func cmp4_f) cmp4_a cmp4_c)] (.tup []) := by
  intro H0 hl0
  refine cI Try.func141 ?_
  have hO := aO.rK hl0
  clear hl0
  obtain ⟨N0, hN0⟩ : ∃ n, n = List.length aB := ⟨_, rfl⟩
  have hN : List.length aB = N0 := hN0.symm
  unfold dX at h0
  refine dG (fun T H => ∃ aB : List aA, Has T [(0, (.msl 2 lo0p 0 (List.length aB))), (1, (eI a1)), (2, (eI m2)), (3, (eI b3)), (4, (.fn (.func cmp4_f) cmp4_a cmp4_c))] ∧ aO ⟨H0, [lo0p], []⟩ H [(lo0p, 2, List.map aD aB)] ∧ List.length aB = N0 ∧ lC cmp4 rec aB a1 m2 b3 = some r) ?_ ?_
  · clear hO hN h0
    rintro T H ⟨aB, hT, hO, hN, h0⟩
    refine bB hT ?_
    clear hT
    unfold lC at h0
    refine dG (fun T H => ∃ aB : List aA, Has T [(0, (.msl 2 lo0p 0 (List.length aB))), (1, (eI a1)), (2, (eI m2)), (3, (eI b3)), (4, (.fn (.func cmp4_f) cmp4_a cmp4_c))] ∧ aO ⟨H0, [lo0p], []⟩ H [(lo0p, 2, List.map aD aB)] ∧ List.length aB = N0 ∧ lK cmp4 rec aB a1 m2 b3 = some r) ?_ ?_
    · clear hO hN h0
      rintro T H ⟨aB, hT, hO, hN, h0⟩
      refine bB hT ?_
      clear hT
      unfold lK at h0
      refine aQ ?_
      refine aT aH 7 ?_
      obtain ⟨c1, h0⟩ := bM h0
      refine AT [0 ≤ (1 : Int)] ⟨c1, trivial⟩ ?_
      refine bP [] [(18, (eI (wR (Int.fdiv (IntKind.u64.wrap (wR (a1 + b3))) (2 ^ (min (Int.toNat (1 : Int)) 64))))))] ?_
      refine aY aH 4 [] [(19, (eI (wR ((wR (Int.fdiv (IntKind.u64.wrap (wR (a1 + b3))) (2 ^ (min (Int.toNat (1 : Int)) 64)))) + m2))))] ?_
      refine aY aH 2 [] [] ?_
      refine dG (fun T H => ∃ aB : List aA, ∃ bQ : Int, ∃ n19 : Int, ∃ aS : Int, ∃ r21 : Int, Has T [(0, (.msl 2 lo0p 0 (List.length aB))), (1, (eI a1)), (2, (eI m2)), (3, (eI b3)), (4, (.fn (.func cmp4_f) cmp4_a cmp4_c)), (18, (eI bQ)), (19, (eI n19)), (20, (eI aS)), (21, (eI r21))] ∧ aO ⟨H0, [lo0p], []⟩ H [(lo0p, 2, List.map aD aB)] ∧ List.length aB = N0 ∧ gF cmp4 rec aB a1 m2 b3 bQ n19 aS r21 = some r) ?_ ?_
      · clear hO hN h0
        rintro T H ⟨aB, bQ, n19, aS, r21, hT, hO, hN, h0⟩
        refine bB hT ?_
        clear hT
        unfold gF at h0
        refine aY aH 3 [] [(22, (eI (wR (n19 - (1 : Int)))))] ?_
        refine dG (fun T H => ∃ aB : List aA, ∃ aS : Int, Has T [(0, (.msl 2 lo0p 0 (List.length aB))), (1, (eI a1)), (2, (eI m2)), (3, (eI b3)), (4, (.fn (.func cmp4_f) cmp4_a cmp4_c)), (18, (eI bQ)), (19, (eI n19)), (20, (eI aS))] ∧ aO ⟨H0, [lo0p], []⟩ H [(lo0p, 2, List.map aD aB)] ∧ List.length aB = N0 ∧ gR cmp4 rec aB a1 m2 b3 bQ n19 aS = some r) ?_ ?_
        · clear hO hN h0
          rintro T H ⟨aB, aS, hT, hO, hN, h0⟩
          refine bB hT ?_
          clear hT
          unfold gR at h0
          refine aY aH 4 [19] [(24, (eI (wR (n19 - aS))))] ?_
          refine dG (fun T H => ∃ aB : List aA, ∃ eB : Int, Has T [(0, (.msl 2 lo0p 0 (List.length aB))), (1, (eI a1)), (3, (eI b3)), (4, (.fn (.func cmp4_f) cmp4_a cmp4_c)), (18, (eI bQ)), (20, (eI aS)), (24, (eI eB))] ∧ aO ⟨H0, [lo0p], []⟩ H [(lo0p, 2, List.map aD aB)] ∧ List.length aB = N0 ∧ gN cmp4 rec aB a1 b3 bQ aS eB = some r) ?_ ?_
          · clear hO hN h0
            rintro T H ⟨aB, eB, hT, hO, hN, h0⟩
            refine bB hT ?_
            clear hT
            unfold gN at h0
            refine dG (fun T H => ∃ aB : List aA, Has T [(0, (.msl 2 lo0p 0 (List.length aB))), (3, (eI b3)), (4, (.fn (.func cmp4_f) cmp4_a cmp4_c)), (18, (eI bQ)), (24, (eI eB))] ∧ aO ⟨H0, [lo0p], []⟩ H [(lo0p, 2, List.map aD aB)] ∧ List.length aB = N0 ∧ gH cmp4 rec aB b3 bQ eB = some r) ?_ ?_
            · clear hO hN h0
              rintro T H ⟨aB, hT, hO, hN, h0⟩
              refine bB hT ?_
              clear hT
              unfold gH at h0
              refine aY aH 8 [] [(213, (aL ((decide (bQ < eB)) && (decide (eB < b3)))))] ?_
              refine bL h0 (fun h0 => ?_) (fun h0 => ?_)
              · refine aT aH 6 ?_
                refine bH 5 ?_
                obtain ⟨x3, hx4, h0⟩ := aU h0
                refine pG [(lo0p, 2, List.map aD x3)] 0 (ih lo0p aB bQ eB b3 _ hx4) hO ?_
                intro H hO hl5
                simp only [List.length_map] at hl5
                replace hN := hl5.trans hN
                refine cJ ?_
                refine cS (l := [(0, (.msl 2 lo0p 0 (List.length x3)))]) ⟨[(0, (.msl 2 lo0p 0 (List.length aB)))], by kernel_rfl, rfl, ⟨aX.eq (by simp [hl5]), trivial⟩⟩ ?_
                obtain rfl := oI h0
                exact aK (rU (x := (.tup [])) (by kernel_rfl) (aX.refl _) ⟨rfl, hO.ext, hO.at 0 (by kernel_rfl), by simp only [List.length_map]; exact hN.trans hN0⟩)
              refine bN ?_
              obtain rfl := oI h0
              exact aK (rU (x := (.tup [])) (by kernel_rfl) (aX.refl _) ⟨rfl, hO.ext, hO.at 0 (by kernel_rfl), by simp only [List.length_map]; exact hN.trans hN0⟩)
            refine aY aH 8 [] [(199, (aL ((decide (a1 < aS)) && (decide (aS < bQ)))))] ?_
            refine bL h0 (fun h0 => ?_) (fun h0 => ?_)
            · refine aT aH 6 ?_
              refine bH 5 ?_
              obtain ⟨x7, hx8, h0⟩ := aU h0
              refine pG [(lo0p, 2, List.map aD x7)] 0 (ih lo0p aB a1 aS bQ _ hx8) hO ?_
              intro H hO hl9
              simp only [List.length_map] at hl9
              replace hN := hl9.trans hN
              refine cJ ?_
              refine cS (l := [(0, (.msl 2 lo0p 0 (List.length x7))), (3, (eI b3)), (4, (.fn (.func cmp4_f) cmp4_a cmp4_c)), (18, (eI bQ)), (24, (eI eB))]) ⟨[(0, (.msl 2 lo0p 0 (List.length aB))), (3, (eI b3)), (4, (.fn (.func cmp4_f) cmp4_a cmp4_c)), (18, (eI bQ)), (24, (eI eB))], by kernel_rfl, rfl, ⟨aX.eq (by simp [hl9]), aX.refl _, aX.refl _, aX.refl _, aX.refl _, trivial⟩⟩ ?_
              exact aK (aJ (⟨rfl, _, .eq (by kernel_rfl), hO, hN, h0⟩))
            refine bN ?_
            exact aK (aJ (⟨rfl, _, .eq (by kernel_rfl), hO, hN, h0⟩))
          refine aY aH 8 [] [(185, (aL ((decide (aS < m2)) && (decide (m2 < (wR (n19 - aS)))))))] ?_
          refine bL h0 (fun h0 => ?_) (fun h0 => ?_)
          · refine aT aH 6 ?_
            refine bH 5 ?_
            obtain ⟨x11, hx12, h0⟩ := aU h0
            refine pG [(lo0p, 2, List.map aD x11)] 0 (yF lo0p aB aS m2 (wR (n19 - aS)) cmp4_f cmp4_a cmp4_c cmp4 cmp4_h _ hx12) hO ?_
            intro H hO hl13
            simp only [List.length_map] at hl13
            replace hN := hl13.trans hN
            refine cJ ?_
            refine cS (l := [(0, (.msl 2 lo0p 0 (List.length x11))), (1, (eI a1)), (3, (eI b3)), (4, (.fn (.func cmp4_f) cmp4_a cmp4_c)), (18, (eI bQ)), (20, (eI aS)), (24, (eI (wR (n19 - aS))))]) ⟨[(0, (.msl 2 lo0p 0 (List.length aB))), (1, (eI a1)), (3, (eI b3)), (4, (.fn (.func cmp4_f) cmp4_a cmp4_c)), (18, (eI bQ)), (20, (eI aS)), (24, (eI (wR (n19 - aS))))], by kernel_rfl, rfl, ⟨aX.eq (by simp [hl13]), aX.refl _, aX.refl _, aX.refl _, aX.refl _, aX.refl _, aX.refl _, trivial⟩⟩ ?_
            exact aK (aJ (⟨rfl, _, _, .eq (by kernel_rfl), hO, hN, h0⟩))
          refine bN ?_
          exact aK (aJ (⟨rfl, _, _, .eq (by kernel_rfl), hO, hN, h0⟩))
        refine bR 8 ?_
        refine cW [(0, (.msl 2 lo0p 0 (List.length aB))), (1, (eI a1)), (2, (eI m2)), (3, (eI b3)), (4, (.fn (.func cmp4_f) cmp4_a cmp4_c)), (18, (eI bQ)), (19, (eI n19)), (20, (eI aS)), (21, (eI r21)), (22, (eI (wR (n19 - (1 : Int)))))] ?_
        refine cP (fun T H => ∃ aB : List aA, ∃ aS : Int, ∃ r21 : Int, ∃ p22 : Int, Has T [(0, (.msl 2 lo0p 0 (List.length aB))), (1, (eI a1)), (2, (eI m2)), (3, (eI b3)), (4, (.fn (.func cmp4_f) cmp4_a cmp4_c)), (18, (eI bQ)), (19, (eI n19)), (20, (eI aS)), (21, (eI r21)), (22, (eI p22))] ∧ aO ⟨H0, [lo0p], []⟩ H [(lo0p, 2, List.map aD aB)] ∧ List.length aB = N0 ∧ lM cmp4 rec aB a1 m2 b3 bQ n19 aS r21 p22 = some r) ?_ ⟨aB, aS, r21, wR (n19 - (1 : Int)), .eq (by kernel_rfl), hO, hN, h0⟩
        clear hO hN h0
        rintro T H ⟨aB, aS, r21, p22, hT, hO, hN, h0⟩
        refine bB hT ?_
        clear hT
        unfold lM at h0
        obtain ⟨rr0, hl0, h0⟩ := aU h0
        refine cD (by kernel_rfl) (fun (s : List aA × Int × Int) T H => Has T [(0, (.msl 2 lo0p 0 (List.length s.1))), (1, (eI a1)), (2, (eI m2)), (3, (eI b3)), (4, (.fn (.func cmp4_f) cmp4_a cmp4_c)), (18, (eI bQ)), (19, (eI n19)), (20, (eI s.2.1)), (21, (eI s.2.2)), (22, (eI p22))] ∧ aO ⟨H0, [lo0p], []⟩ H [(lo0p, 2, List.map aD s.1)] ∧ List.length s.1 = N0) hl0 ⟨.eq (by kernel_rfl), hO, hN⟩ ?_
        clear hO hN
        rintro k0 s out1 T H ⟨hT, hO, hN⟩ h1 ho0
        obtain ⟨aB, aS, r21⟩ := s
        replace h1 : kZ cmp4 rec a1 m2 b3 bQ n19 p22 aB aS r21 = some out1 := h1
        try dsimp only at hT
        refine bB hT ?_
        clear hT
        unfold kZ at h1
        refine aQ ?_
        refine aY aH 3 [] [(151, (aL (decide (aS < r21))))] ?_
        refine bL h1 (fun h1 => ?_) (fun h1 => ?_)
        · refine bN ?_
          refine bD [(0, (.msl 2 lo0p 0 (List.length aB))), (1, (eI a1)), (2, (eI m2)), (3, (eI b3)), (4, (.fn (.func cmp4_f) cmp4_a cmp4_c)), (18, (eI bQ)), (19, (eI n19)), (20, (eI aS)), (21, (eI r21)), (22, (eI p22))] ?_
          refine bR 9 ?_
          refine aQ ?_
          refine aT aH 7 ?_
          obtain ⟨c15, h1⟩ := bM h1
          refine AT [0 ≤ (1 : Int)] ⟨c15, trivial⟩ ?_
          refine bP [] [(23, (eI (wR (Int.fdiv (IntKind.u64.wrap (wR (aS + r21))) (2 ^ (min (Int.toNat (1 : Int)) 64))))))] ?_
          refine aQ ?_
          refine jT (jS [169]) aH 14 ?_
          obtain ⟨c16, h1⟩ := bM h1
          refine dP 6 [0 ≤ (wR (p22 - (wR (Int.fdiv (IntKind.u64.wrap (wR (aS + r21))) (2 ^ (min (Int.toNat (1 : Int)) 64)))))) ∧ (wR (p22 - (wR (Int.fdiv (IntKind.u64.wrap (wR (aS + r21))) (2 ^ (min (Int.toNat (1 : Int)) 64)))))) < (lN aB)] ⟨c16, trivial⟩ ?_
          refine lI 0 lo0p 2 (0 + Int.toNat (wR (p22 - (wR (Int.fdiv (IntKind.u64.wrap (wR (aS + r21))) (2 ^ (min (Int.toNat (1 : Int)) 64))))))) (aD (gD aB (wR (p22 - (wR (Int.fdiv (IntKind.u64.wrap (wR (aS + r21))) (2 ^ (min (Int.toNat (1 : Int)) 64)))))))) (aD (gD aB (wR (p22 - (wR (Int.fdiv (IntKind.u64.wrap (wR (aS + r21))) (2 ^ (min (Int.toNat (1 : Int)) 64)))))))) (List.map aD aB) hO (cR c16) ?_
          obtain ⟨c17, h1⟩ := bM h1
          refine dP 10 [0 ≤ (wR (Int.fdiv (IntKind.u64.wrap (wR (aS + r21))) (2 ^ (min (Int.toNat (1 : Int)) 64)))) ∧ (wR (Int.fdiv (IntKind.u64.wrap (wR (aS + r21))) (2 ^ (min (Int.toNat (1 : Int)) 64)))) < (lN aB)] ⟨c17, trivial⟩ ?_
          refine lI 0 lo0p 2 (0 + Int.toNat (wR (Int.fdiv (IntKind.u64.wrap (wR (aS + r21))) (2 ^ (min (Int.toNat (1 : Int)) 64))))) (aD (gD aB (wR (Int.fdiv (IntKind.u64.wrap (wR (aS + r21))) (2 ^ (min (Int.toNat (1 : Int)) 64)))))) (aD (gD aB (wR (Int.fdiv (IntKind.u64.wrap (wR (aS + r21))) (2 ^ (min (Int.toNat (1 : Int)) 64)))))) (List.map aD aB) hO (cR c17) ?_
          obtain ⟨x18, hx19, h1⟩ := aU h1
          refine xW (cmp4_h (gD aB (wR (p22 - (wR (Int.fdiv (IntKind.u64.wrap (wR (aS + r21))) (2 ^ (min (Int.toNat (1 : Int)) 64))))))) (gD aB (wR (Int.fdiv (IntKind.u64.wrap (wR (aS + r21))) (2 ^ (min (Int.toNat (1 : Int)) 64))))) _ hx19) hO ?_
          intro H hO
          refine qL ?_
          refine bP [] [(171, (aL (!(decide (x18 < (0 : Int))))))] ?_
          refine bL h1 (fun h1 => ?_) (fun h1 => ?_)
          · refine aT aH 3 ?_
            refine bC ?_
            exact aK (aZ (aJ (⟨rfl, _, (oI h1).symm, .eq (by kernel_rfl), hO, hN⟩)))
          refine aT aH 2 ?_
          refine bC ?_
          exact aK (aZ (aJ (⟨rfl, _, (oI h1).symm, .eq (by kernel_rfl), hO, hN⟩)))
        refine eC 8 ?_
        obtain rfl := oI h1
        obtain rfl : _ = rr0 := ho0
        replace h0 : gR cmp4 rec aB a1 m2 b3 bQ n19 aS = some r := h0
        exact aK (aW (aW (bO (aJ (⟨rfl, _, _, .eq (by kernel_rfl), hO, hN, h0⟩)))))
      refine aY aH 3 [] [(140, (aL (decide ((wR (Int.fdiv (IntKind.u64.wrap (wR (a1 + b3))) (2 ^ (min (Int.toNat (1 : Int)) 64)))) < m2))))] ?_
      refine bL h0 (fun h0 => ?_) (fun h0 => ?_)
      · refine bV aH 4 [(0, (.msl 2 lo0p 0 (List.length aB))), (1, (eI a1)), (2, (eI m2)), (3, (eI b3)), (4, (.fn (.func cmp4_f) cmp4_a cmp4_c)), (18, (eI (wR (Int.fdiv (IntKind.u64.wrap (wR (a1 + b3))) (2 ^ (min (Int.toNat (1 : Int)) 64)))))), (19, (eI (wR ((wR (Int.fdiv (IntKind.u64.wrap (wR (a1 + b3))) (2 ^ (min (Int.toNat (1 : Int)) 64)))) + m2)))), (20, (eI (wR ((wR ((wR (Int.fdiv (IntKind.u64.wrap (wR (a1 + b3))) (2 ^ (min (Int.toNat (1 : Int)) 64)))) + m2)) - b3))))] ?_
        refine aT aH 2 ?_
        refine bC ?_
        exact aK (aJ (⟨rfl, _, _, _, _, _, .eq (by kernel_rfl), hO, hN, h0⟩))
      refine bV aH 2 [(0, (.msl 2 lo0p 0 (List.length aB))), (1, (eI a1)), (2, (eI m2)), (3, (eI b3)), (4, (.fn (.func cmp4_f) cmp4_a cmp4_c)), (18, (eI (wR (Int.fdiv (IntKind.u64.wrap (wR (a1 + b3))) (2 ^ (min (Int.toNat (1 : Int)) 64)))))), (19, (eI (wR ((wR (Int.fdiv (IntKind.u64.wrap (wR (a1 + b3))) (2 ^ (min (Int.toNat (1 : Int)) 64)))) + m2)))), (20, (eI a1))] ?_
      refine aT aH 2 ?_
      refine bC ?_
      exact aK (aJ (⟨rfl, _, _, _, _, _, .eq (by kernel_rfl), hO, hN, h0⟩))
    refine aY aH 4 [] [(80, (aL (decide ((wR (b3 - m2)) = (1 : Int)))))] ?_
    refine bL h0 (fun h0 => ?_) (fun h0 => ?_)
    · refine aY aH 2 [1, 3, 80] [(14, (eI a1))] ?_
      refine aY aH 2 [] [(15, (eI m2))] ?_
      refine dG (fun T H => ∃ aB : List aA, ∃ i14 : Int, Has T [(0, (.msl 2 lo0p 0 (List.length aB))), (2, (eI m2)), (14, (eI i14))] ∧ aO ⟨H0, [lo0p], []⟩ H [(lo0p, 2, List.map aD aB)] ∧ List.length aB = N0 ∧ gM cmp4 rec aB m2 i14 = some r) ?_ ?_
      · clear hO hN h0
        rintro T H ⟨aB, i14, hT, hO, hN, h0⟩
        refine bB hT ?_
        clear hT
        unfold gM at h0
        refine dG (fun T H => ∃ aB : List aA, Has T [(0, (.msl 2 lo0p 0 (List.length aB)))] ∧ aO ⟨H0, [lo0p], []⟩ H [(lo0p, 2, List.map aD aB)] ∧ List.length aB = N0 ∧ gP cmp4 rec aB = some r) ?_ ?_
        · clear hO hN h0
          rintro T H ⟨aB, hT, hO, hN, h0⟩
          refine bB hT ?_
          clear hT
          unfold gP at h0
          refine bI ?_
          obtain rfl := oI h0
          exact aK (bA (rB (x := (.tup [])) (by kernel_rfl) (aX.refl _) ⟨rfl, hO.ext, hO.at 0 (by kernel_rfl), by simp only [List.length_map]; exact hN.trans hN0⟩))
        refine aY aH 2 [2] [(17, (eI m2))] ?_
        refine bR 6 ?_
        refine cW [(0, (.msl 2 lo0p 0 (List.length aB))), (14, (eI i14)), (17, (eI m2))] ?_
        refine cP (fun T H => ∃ aB : List aA, ∃ k17 : Int, Has T [(0, (.msl 2 lo0p 0 (List.length aB))), (14, (eI i14)), (17, (eI k17))] ∧ aO ⟨H0, [lo0p], []⟩ H [(lo0p, 2, List.map aD aB)] ∧ List.length aB = N0 ∧ kU cmp4 rec aB i14 k17 = some r) ?_ ⟨aB, m2, .eq (by kernel_rfl), hO, hN, h0⟩
        clear hO hN h0
        rintro T H ⟨aB, k17, hT, hO, hN, h0⟩
        refine bB hT ?_
        clear hT
        unfold kU at h0
        obtain ⟨rr0, hl0, h0⟩ := aU h0
        refine cD (by kernel_rfl) (fun (s : List aA × Int) T H => Has T [(0, (.msl 2 lo0p 0 (List.length s.1))), (14, (eI i14)), (17, (eI s.2))] ∧ aO ⟨H0, [lo0p], []⟩ H [(lo0p, 2, List.map aD s.1)] ∧ List.length s.1 = N0) hl0 ⟨.eq (by kernel_rfl), hO, hN⟩ ?_
        clear hO hN
        rintro k0 s out1 T H ⟨hT, hO, hN⟩ h1 ho0
        obtain ⟨aB, k17⟩ := s
        replace h1 : kN cmp4 rec i14 aB k17 = some out1 := h1
        try dsimp only at hT
        refine bB hT ?_
        clear hT
        unfold kN at h1
        refine aQ ?_
        refine aY aH 3 [] [(110, (aL (decide (i14 < k17))))] ?_
        refine bL h1 (fun h1 => ?_) (fun h1 => ?_)
        · refine bN ?_
          refine bD [(0, (.msl 2 lo0p 0 (List.length aB))), (14, (eI i14)), (17, (eI k17))] ?_
          refine aQ ?_
          refine bR 7 ?_
          refine jT (jS []) aH 18 ?_
          obtain ⟨c25, h1⟩ := bM h1
          refine dP 9 [0 ≤ (wR (k17 - (1 : Int))) ∧ (wR (k17 - (1 : Int))) < (lN aB)] ⟨c25, trivial⟩ ?_
          refine lI 0 lo0p 2 (0 + Int.toNat (wR (k17 - (1 : Int)))) (aD (gD aB (wR (k17 - (1 : Int))))) (aD (gD aB (wR (k17 - (1 : Int))))) (List.map aD aB) hO (cR c25) ?_
          obtain ⟨c26, h1⟩ := bM h1
          refine dP 13 [0 ≤ k17 ∧ k17 < (lN aB)] ⟨c26, trivial⟩ ?_
          refine lI 0 lo0p 2 (0 + Int.toNat k17) (aD (gD aB k17)) (aD (gD aB k17)) (List.map aD aB) hO (cR c26) ?_
          obtain ⟨c27, h1⟩ := bM h1
          refine dP 15 [0 ≤ k17 ∧ k17 < (lN aB)] ⟨c27, trivial⟩ ?_
          refine sY 0 lo0p 2 (0 + Int.toNat k17) (aD (gD aB k17)) (aD (gD aB (wR (k17 - (1 : Int))))) (List.map aD aB) [(lo0p, 2, List.map aD (List.set aB (Int.toNat k17) (gD aB (wR (k17 - (1 : Int))))))] hO (cR c27) (by simp only [List.set, oQ]) ?_
          intro H hO
          replace hN : List.length (List.set aB (Int.toNat k17) (gD aB (wR (k17 - (1 : Int))))) = N0 := by simpa using hN
          obtain ⟨c28, h1⟩ := bM h1
          refine dP 17 [0 ≤ (wR (k17 - (1 : Int))) ∧ (wR (k17 - (1 : Int))) < (lN aB)] ⟨c28, trivial⟩ ?_
          refine sY 0 lo0p 2 (0 + Int.toNat (wR (k17 - (1 : Int)))) (aD (gD (List.set aB (Int.toNat k17) (gD aB (wR (k17 - (1 : Int))))) (wR (k17 - (1 : Int))))) (aD (gD aB k17)) (List.map aD (List.set aB (Int.toNat k17) (gD aB (wR (k17 - (1 : Int)))))) [(lo0p, 2, List.map aD (List.set (List.set aB (Int.toNat k17) (gD aB (wR (k17 - (1 : Int))))) (Int.toNat (wR (k17 - (1 : Int)))) (gD aB k17)))] hO (yB c28 (by simp [])) (by simp only [List.set, oQ]) ?_
          intro H hO
          replace hN : List.length (List.set (List.set aB (Int.toNat k17) (gD aB (wR (k17 - (1 : Int))))) (Int.toNat (wR (k17 - (1 : Int)))) (gD aB k17)) = N0 := by simpa using hN
          refine yK (by kernel_rfl) ?_
          refine cS (l := [(0, (.msl 2 lo0p 0 (List.length (List.set (List.set aB (Int.toNat k17) (gD aB (wR (k17 - (1 : Int))))) (Int.toNat (wR (k17 - (1 : Int)))) (gD aB k17))))), (14, (eI i14)), (17, (eI k17))]) ⟨[(0, (.msl 2 lo0p 0 (List.length aB))), (14, (eI i14)), (17, (eI k17))], by kernel_rfl, rfl, ⟨aX.eq (by simp []), aX.refl _, aX.refl _, trivial⟩⟩ ?_
          refine aK (aZ (aJ (?_)))
          refine aT aH 3 ?_
          refine bC ?_
          exact aK (aJ (⟨rfl, _, (oI h1).symm, .eq (by kernel_rfl), hO, hN⟩))
        refine eC 6 ?_
        obtain rfl := oI h1
        obtain rfl : _ = rr0 := ho0
        replace h0 : gP cmp4 rec aB = some r := h0
        exact aK (aW (aW (bO (aJ (⟨rfl, _, .eq (by kernel_rfl), hO, hN, h0⟩)))))
      refine bR 4 ?_
      refine cW [(0, (.msl 2 lo0p 0 (List.length aB))), (2, (eI m2)), (4, (.fn (.func cmp4_f) cmp4_a cmp4_c)), (14, (eI a1)), (15, (eI m2))] ?_
      refine cP (fun T H => ∃ aB : List aA, ∃ i14 : Int, ∃ j15 : Int, Has T [(0, (.msl 2 lo0p 0 (List.length aB))), (2, (eI m2)), (4, (.fn (.func cmp4_f) cmp4_a cmp4_c)), (14, (eI i14)), (15, (eI j15))] ∧ aO ⟨H0, [lo0p], []⟩ H [(lo0p, 2, List.map aD aB)] ∧ List.length aB = N0 ∧ kT cmp4 rec aB m2 i14 j15 = some r) ?_ ⟨aB, a1, m2, .eq (by kernel_rfl), hO, hN, h0⟩
      clear hO hN h0
      rintro T H ⟨aB, i14, j15, hT, hO, hN, h0⟩
      refine bB hT ?_
      clear hT
      unfold kT at h0
      obtain ⟨rr0, hl0, h0⟩ := aU h0
      refine cD (by kernel_rfl) (fun (s : List aA × Int × Int) T H => Has T [(0, (.msl 2 lo0p 0 (List.length s.1))), (2, (eI m2)), (4, (.fn (.func cmp4_f) cmp4_a cmp4_c)), (14, (eI s.2.1)), (15, (eI s.2.2))] ∧ aO ⟨H0, [lo0p], []⟩ H [(lo0p, 2, List.map aD s.1)] ∧ List.length s.1 = N0) hl0 ⟨.eq (by kernel_rfl), hO, hN⟩ ?_
      clear hO hN
      rintro k0 s out1 T H ⟨hT, hO, hN⟩ h1 ho0
      obtain ⟨aB, i14, j15⟩ := s
      replace h1 : kC cmp4 rec m2 aB i14 j15 = some out1 := h1
      try dsimp only at hT
      refine bB hT ?_
      clear hT
      unfold kC at h1
      refine aQ ?_
      refine aY aH 3 [] [(85, (aL (decide (i14 < j15))))] ?_
      refine bL h1 (fun h1 => ?_) (fun h1 => ?_)
      · refine bN ?_
        refine bD [(0, (.msl 2 lo0p 0 (List.length aB))), (2, (eI m2)), (4, (.fn (.func cmp4_f) cmp4_a cmp4_c)), (14, (eI i14)), (15, (eI j15))] ?_
        refine bR 5 ?_
        refine aQ ?_
        refine aT aH 7 ?_
        obtain ⟨c30, h1⟩ := bM h1
        refine AT [0 ≤ (1 : Int)] ⟨c30, trivial⟩ ?_
        refine bP [] [(16, (eI (wR (Int.fdiv (IntKind.u64.wrap (wR (i14 + j15))) (2 ^ (min (Int.toNat (1 : Int)) 64))))))] ?_
        refine aQ ?_
        refine jT (jS [101]) aH 12 ?_
        obtain ⟨c31, h1⟩ := bM h1
        refine dP 4 [0 ≤ m2 ∧ m2 < (lN aB)] ⟨c31, trivial⟩ ?_
        refine lI 0 lo0p 2 (0 + Int.toNat m2) (aD (gD aB m2)) (aD (gD aB m2)) (List.map aD aB) hO (cR c31) ?_
        obtain ⟨c32, h1⟩ := bM h1
        refine dP 8 [0 ≤ (wR (Int.fdiv (IntKind.u64.wrap (wR (i14 + j15))) (2 ^ (min (Int.toNat (1 : Int)) 64)))) ∧ (wR (Int.fdiv (IntKind.u64.wrap (wR (i14 + j15))) (2 ^ (min (Int.toNat (1 : Int)) 64)))) < (lN aB)] ⟨c32, trivial⟩ ?_
        refine lI 0 lo0p 2 (0 + Int.toNat (wR (Int.fdiv (IntKind.u64.wrap (wR (i14 + j15))) (2 ^ (min (Int.toNat (1 : Int)) 64))))) (aD (gD aB (wR (Int.fdiv (IntKind.u64.wrap (wR (i14 + j15))) (2 ^ (min (Int.toNat (1 : Int)) 64)))))) (aD (gD aB (wR (Int.fdiv (IntKind.u64.wrap (wR (i14 + j15))) (2 ^ (min (Int.toNat (1 : Int)) 64)))))) (List.map aD aB) hO (cR c32) ?_
        obtain ⟨x33, hx34, h1⟩ := aU h1
        refine xW (cmp4_h (gD aB m2) (gD aB (wR (Int.fdiv (IntKind.u64.wrap (wR (i14 + j15))) (2 ^ (min (Int.toNat (1 : Int)) 64))))) _ hx34) hO ?_
        intro H hO
        refine qL ?_
        refine bP [] [(103, (aL (!(decide (x33 < (0 : Int))))))] ?_
        refine bL h1 (fun h1 => ?_) (fun h1 => ?_)
        · refine aT aH 3 ?_
          refine bC ?_
          exact aK (aZ (aJ (⟨rfl, _, (oI h1).symm, .eq (by kernel_rfl), hO, hN⟩)))
        refine aT aH 2 ?_
        refine bC ?_
        exact aK (aZ (aJ (⟨rfl, _, (oI h1).symm, .eq (by kernel_rfl), hO, hN⟩)))
      refine eC 4 ?_
      obtain rfl := oI h1
      obtain rfl : _ = rr0 := ho0
      replace h0 : gM cmp4 rec aB m2 i14 = some r := h0
      exact aK (aW (aW (bO (aJ (⟨rfl, _, _, .eq (by kernel_rfl), hO, hN, h0⟩)))))
    refine bN ?_
    exact aK (aJ (⟨rfl, _, .eq (by kernel_rfl), hO, hN, h0⟩))
  refine aY aH 4 [] [(28, (aL (decide ((wR (m2 - a1)) = (1 : Int)))))] ?_
  refine bL h0 (fun h0 => ?_) (fun h0 => ?_)
  · refine aY aH 2 [2, 28] [(10, (eI m2))] ?_
    refine aY aH 2 [3] [(11, (eI b3))] ?_
    refine dG (fun T H => ∃ aB : List aA, ∃ i10 : Int, Has T [(0, (.msl 2 lo0p 0 (List.length aB))), (1, (eI a1)), (10, (eI i10))] ∧ aO ⟨H0, [lo0p], []⟩ H [(lo0p, 2, List.map aD aB)] ∧ List.length aB = N0 ∧ fX cmp4 rec aB a1 i10 = some r) ?_ ?_
    · clear hO hN h0
      rintro T H ⟨aB, i10, hT, hO, hN, h0⟩
      refine bB hT ?_
      clear hT
      unfold fX at h0
      refine dG (fun T H => ∃ aB : List aA, Has T [(0, (.msl 2 lo0p 0 (List.length aB)))] ∧ aO ⟨H0, [lo0p], []⟩ H [(lo0p, 2, List.map aD aB)] ∧ List.length aB = N0 ∧ fW cmp4 rec aB = some r) ?_ ?_
      · clear hO hN h0
        rintro T H ⟨aB, hT, hO, hN, h0⟩
        refine bB hT ?_
        clear hT
        unfold fW at h0
        refine bI ?_
        obtain rfl := oI h0
        exact aK (bA (rB (x := (.tup [])) (by kernel_rfl) (aX.refl _) ⟨rfl, hO.ext, hO.at 0 (by kernel_rfl), by simp only [List.length_map]; exact hN.trans hN0⟩))
      refine aY aH 2 [1] [(13, (eI a1))] ?_
      refine bR 2 ?_
      refine cW [(0, (.msl 2 lo0p 0 (List.length aB))), (10, (eI i10)), (13, (eI a1))] ?_
      refine cP (fun T H => ∃ aB : List aA, ∃ k13 : Int, Has T [(0, (.msl 2 lo0p 0 (List.length aB))), (10, (eI i10)), (13, (eI k13))] ∧ aO ⟨H0, [lo0p], []⟩ H [(lo0p, 2, List.map aD aB)] ∧ List.length aB = N0 ∧ kE cmp4 rec aB i10 k13 = some r) ?_ ⟨aB, a1, .eq (by kernel_rfl), hO, hN, h0⟩
      clear hO hN h0
      rintro T H ⟨aB, k13, hT, hO, hN, h0⟩
      refine bB hT ?_
      clear hT
      unfold kE at h0
      obtain ⟨rr0, hl0, h0⟩ := aU h0
      refine cD (by kernel_rfl) (fun (s : List aA × Int) T H => Has T [(0, (.msl 2 lo0p 0 (List.length s.1))), (10, (eI i10)), (13, (eI s.2))] ∧ aO ⟨H0, [lo0p], []⟩ H [(lo0p, 2, List.map aD s.1)] ∧ List.length s.1 = N0) hl0 ⟨.eq (by kernel_rfl), hO, hN⟩ ?_
      clear hO hN
      rintro k0 s out1 T H ⟨hT, hO, hN⟩ h1 ho0
      obtain ⟨aB, k13⟩ := s
      replace h1 : kI cmp4 rec i10 aB k13 = some out1 := h1
      try dsimp only at hT
      refine bB hT ?_
      clear hT
      unfold kI at h1
      refine aQ ?_
      refine aY aH 4 [] [(58, (aL (decide (k13 < (wR (i10 - (1 : Int)))))))] ?_
      refine bL h1 (fun h1 => ?_) (fun h1 => ?_)
      · refine bN ?_
        refine bD [(0, (.msl 2 lo0p 0 (List.length aB))), (10, (eI i10)), (13, (eI k13))] ?_
        refine aQ ?_
        refine bR 3 ?_
        refine jT (jS []) aH 18 ?_
        obtain ⟨c39, h1⟩ := bM h1
        refine dP 9 [0 ≤ (wR (k13 + (1 : Int))) ∧ (wR (k13 + (1 : Int))) < (lN aB)] ⟨c39, trivial⟩ ?_
        refine lI 0 lo0p 2 (0 + Int.toNat (wR (k13 + (1 : Int)))) (aD (gD aB (wR (k13 + (1 : Int))))) (aD (gD aB (wR (k13 + (1 : Int))))) (List.map aD aB) hO (cR c39) ?_
        obtain ⟨c40, h1⟩ := bM h1
        refine dP 13 [0 ≤ k13 ∧ k13 < (lN aB)] ⟨c40, trivial⟩ ?_
        refine lI 0 lo0p 2 (0 + Int.toNat k13) (aD (gD aB k13)) (aD (gD aB k13)) (List.map aD aB) hO (cR c40) ?_
        obtain ⟨c41, h1⟩ := bM h1
        refine dP 15 [0 ≤ k13 ∧ k13 < (lN aB)] ⟨c41, trivial⟩ ?_
        refine sY 0 lo0p 2 (0 + Int.toNat k13) (aD (gD aB k13)) (aD (gD aB (wR (k13 + (1 : Int))))) (List.map aD aB) [(lo0p, 2, List.map aD (List.set aB (Int.toNat k13) (gD aB (wR (k13 + (1 : Int))))))] hO (cR c41) (by simp only [List.set, oQ]) ?_
        intro H hO
        replace hN : List.length (List.set aB (Int.toNat k13) (gD aB (wR (k13 + (1 : Int))))) = N0 := by simpa using hN
        obtain ⟨c42, h1⟩ := bM h1
        refine dP 17 [0 ≤ (wR (k13 + (1 : Int))) ∧ (wR (k13 + (1 : Int))) < (lN aB)] ⟨c42, trivial⟩ ?_
        refine sY 0 lo0p 2 (0 + Int.toNat (wR (k13 + (1 : Int)))) (aD (gD (List.set aB (Int.toNat k13) (gD aB (wR (k13 + (1 : Int))))) (wR (k13 + (1 : Int))))) (aD (gD aB k13)) (List.map aD (List.set aB (Int.toNat k13) (gD aB (wR (k13 + (1 : Int)))))) [(lo0p, 2, List.map aD (List.set (List.set aB (Int.toNat k13) (gD aB (wR (k13 + (1 : Int))))) (Int.toNat (wR (k13 + (1 : Int)))) (gD aB k13)))] hO (yB c42 (by simp [])) (by simp only [List.set, oQ]) ?_
        intro H hO
        replace hN : List.length (List.set (List.set aB (Int.toNat k13) (gD aB (wR (k13 + (1 : Int))))) (Int.toNat (wR (k13 + (1 : Int)))) (gD aB k13)) = N0 := by simpa using hN
        refine yK (by kernel_rfl) ?_
        refine cS (l := [(0, (.msl 2 lo0p 0 (List.length (List.set (List.set aB (Int.toNat k13) (gD aB (wR (k13 + (1 : Int))))) (Int.toNat (wR (k13 + (1 : Int)))) (gD aB k13))))), (10, (eI i10)), (13, (eI k13))]) ⟨[(0, (.msl 2 lo0p 0 (List.length aB))), (10, (eI i10)), (13, (eI k13))], by kernel_rfl, rfl, ⟨aX.eq (by simp []), aX.refl _, aX.refl _, trivial⟩⟩ ?_
        refine aK (aZ (aJ (?_)))
        refine aT aH 3 ?_
        refine bC ?_
        exact aK (aJ (⟨rfl, _, (oI h1).symm, .eq (by kernel_rfl), hO, hN⟩))
      refine eC 2 ?_
      obtain rfl := oI h1
      obtain rfl : _ = rr0 := ho0
      replace h0 : fW cmp4 rec aB = some r := h0
      exact aK (aW (aW (bO (aJ (⟨rfl, _, .eq (by kernel_rfl), hO, hN, h0⟩)))))
    refine bR 0 ?_
    refine cW [(0, (.msl 2 lo0p 0 (List.length aB))), (1, (eI a1)), (4, (.fn (.func cmp4_f) cmp4_a cmp4_c)), (10, (eI m2)), (11, (eI b3))] ?_
    refine cP (fun T H => ∃ aB : List aA, ∃ i10 : Int, ∃ j11 : Int, Has T [(0, (.msl 2 lo0p 0 (List.length aB))), (1, (eI a1)), (4, (.fn (.func cmp4_f) cmp4_a cmp4_c)), (10, (eI i10)), (11, (eI j11))] ∧ aO ⟨H0, [lo0p], []⟩ H [(lo0p, 2, List.map aD aB)] ∧ List.length aB = N0 ∧ kX cmp4 rec aB a1 i10 j11 = some r) ?_ ⟨aB, m2, b3, .eq (by kernel_rfl), hO, hN, h0⟩
    clear hO hN h0
    rintro T H ⟨aB, i10, j11, hT, hO, hN, h0⟩
    refine bB hT ?_
    clear hT
    unfold kX at h0
    obtain ⟨rr0, hl0, h0⟩ := aU h0
    refine cD (by kernel_rfl) (fun (s : List aA × Int × Int) T H => Has T [(0, (.msl 2 lo0p 0 (List.length s.1))), (1, (eI a1)), (4, (.fn (.func cmp4_f) cmp4_a cmp4_c)), (10, (eI s.2.1)), (11, (eI s.2.2))] ∧ aO ⟨H0, [lo0p], []⟩ H [(lo0p, 2, List.map aD s.1)] ∧ List.length s.1 = N0) hl0 ⟨.eq (by kernel_rfl), hO, hN⟩ ?_
    clear hO hN
    rintro k0 s out1 T H ⟨hT, hO, hN⟩ h1 ho0
    obtain ⟨aB, i10, j11⟩ := s
    replace h1 : kW cmp4 rec a1 aB i10 j11 = some out1 := h1
    try dsimp only at hT
    refine bB hT ?_
    clear hT
    unfold kW at h1
    refine aQ ?_
    refine aY aH 3 [] [(33, (aL (decide (i10 < j11))))] ?_
    refine bL h1 (fun h1 => ?_) (fun h1 => ?_)
    · refine bN ?_
      refine bD [(0, (.msl 2 lo0p 0 (List.length aB))), (1, (eI a1)), (4, (.fn (.func cmp4_f) cmp4_a cmp4_c)), (10, (eI i10)), (11, (eI j11))] ?_
      refine bR 1 ?_
      refine aQ ?_
      refine aT aH 7 ?_
      obtain ⟨c44, h1⟩ := bM h1
      refine AT [0 ≤ (1 : Int)] ⟨c44, trivial⟩ ?_
      refine bP [] [(12, (eI (wR (Int.fdiv (IntKind.u64.wrap (wR (i10 + j11))) (2 ^ (min (Int.toNat (1 : Int)) 64))))))] ?_
      refine aQ ?_
      refine jT (jS [49]) aH 11 ?_
      obtain ⟨c45, h1⟩ := bM h1
      refine dP 4 [0 ≤ (wR (Int.fdiv (IntKind.u64.wrap (wR (i10 + j11))) (2 ^ (min (Int.toNat (1 : Int)) 64)))) ∧ (wR (Int.fdiv (IntKind.u64.wrap (wR (i10 + j11))) (2 ^ (min (Int.toNat (1 : Int)) 64)))) < (lN aB)] ⟨c45, trivial⟩ ?_
      refine lI 0 lo0p 2 (0 + Int.toNat (wR (Int.fdiv (IntKind.u64.wrap (wR (i10 + j11))) (2 ^ (min (Int.toNat (1 : Int)) 64))))) (aD (gD aB (wR (Int.fdiv (IntKind.u64.wrap (wR (i10 + j11))) (2 ^ (min (Int.toNat (1 : Int)) 64)))))) (aD (gD aB (wR (Int.fdiv (IntKind.u64.wrap (wR (i10 + j11))) (2 ^ (min (Int.toNat (1 : Int)) 64)))))) (List.map aD aB) hO (cR c45) ?_
      obtain ⟨c46, h1⟩ := bM h1
      refine dP 8 [0 ≤ a1 ∧ a1 < (lN aB)] ⟨c46, trivial⟩ ?_
      refine lI 0 lo0p 2 (0 + Int.toNat a1) (aD (gD aB a1)) (aD (gD aB a1)) (List.map aD aB) hO (cR c46) ?_
      obtain ⟨x47, hx48, h1⟩ := aU h1
      refine xW (cmp4_h (gD aB (wR (Int.fdiv (IntKind.u64.wrap (wR (i10 + j11))) (2 ^ (min (Int.toNat (1 : Int)) 64))))) (gD aB a1) _ hx48) hO ?_
      intro H hO
      refine qL ?_
      refine bP [] [(50, (aL (decide (x47 < (0 : Int)))))] ?_
      refine bL h1 (fun h1 => ?_) (fun h1 => ?_)
      · refine aT aH 3 ?_
        refine bC ?_
        exact aK (aZ (aJ (⟨rfl, _, (oI h1).symm, .eq (by kernel_rfl), hO, hN⟩)))
      refine aT aH 2 ?_
      refine bC ?_
      exact aK (aZ (aJ (⟨rfl, _, (oI h1).symm, .eq (by kernel_rfl), hO, hN⟩)))
    refine eC 0 ?_
    obtain rfl := oI h1
    obtain rfl : _ = rr0 := ho0
    replace h0 : fX cmp4 rec aB a1 i10 = some r := h0
    exact aK (aW (aW (bO (aJ (⟨rfl, _, _, .eq (by kernel_rfl), hO, hN, h0⟩)))))
  refine bN ?_
  exact aK (aJ (⟨rfl, _, .eq (by kernel_rfl), hO, hN, h0⟩))

theorem oR (cmp4_f : Nat) (cmp4_a cmp4_c : List V) (cmp4 : aA → aA → Option Int) (cmp4_h : ∀ a0 a1 r, cmp4 a0 a1 = some r → bS Try.prog cmp4_f (cmp4_a ++ [(aD a0), (aD a1)] ++ cmp4_c) (eI r)) : ∀ (k : Nat) (lo0p : Nat) (aB : (List aA)) (a1 : Int) (m2 : Int) (b3 : Int) (r : List aA), gS cmp4 k aB a1 m2 b3 = some r → lO Try.prog 141 lo0p 2 (List.map aD aB) (List.map aD r) [(.msl 2 lo0p 0 (List.length aB)), (eI a1), (eI m2), (eI b3), (.fn (.func cmp4_f) cmp4_a cmp4_c)] (.tup [])
  | 0, _, _, _, _, _, _, h => by cases h
  | k + 1, lo0p, aB, a1, m2, b3, r, h => uB cmp4_f cmp4_a cmp4_c cmp4 cmp4_h _ (oR cmp4_f cmp4_a cmp4_c cmp4 cmp4_h k) lo0p aB a1 m2 b3 r h

theorem pO (lo0p : Nat) (aB : (List aA)) (a1 : Int) (m2 : Int) (b3 : Int) (cmp4_f : Nat) (cmp4_a cmp4_c : List V) (cmp4 : aA → aA → Option Int) (cmp4_h : ∀ a0 a1 r, cmp4 a0 a1 = some r → bS Try.prog cmp4_f (cmp4_a ++ [(aD a0), (aD a1)] ++ cmp4_c) (eI r)) (r : List aA) (h0 : eO aB a1 m2 b3 cmp4 = some r) : lO Try.prog 141 lo0p 2 (List.map aD aB) (List.map aD r) [(.msl 2 lo0p 0 (List.length aB)), (eI a1), (eI m2), (eI b3), (.fn (.func cmp4_f) cmp4_a cmp4_c)] (.tup []) := by
  obtain ⟨k, hk⟩ := IL h0
  exact oR cmp4_f cmp4_a cmp4_c cmp4 cmp4_h k lo0p aB a1 m2 b3 r hk

end Go.Abs
