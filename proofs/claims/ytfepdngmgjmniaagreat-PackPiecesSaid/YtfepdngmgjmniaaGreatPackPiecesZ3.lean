/- What the law PackPieces stands on: the framework, the given functions as plain functions, their walks, and the plain laws; part 3. -/
import Derived.Test.YtfepdngmgjmniaaGreatPackPiecesZ2
set_option linter.unusedSimpArgs false
set_option linter.unusedVariables false
namespace Go.Abs
open Go
noncomputable def AL (all4 : List aB) (out5 : List aB) (i6 : Int) (j7 : aB) : Option ((List aB × List aB × Int) ⊕ ((List aB))) :=
  (lp (fun s => jT s.1 s.2.1 s.2.2.1 s.2.2.2) (all4, out5, i6, j7)).bind (fun rr => vU rr.1 rr.2.1 rr.2.2.1 rr.2.2.2)

noncomputable def lQ  (all4 : List aB) (out5 : List aB) (i6 : Int) : Option ((List aB × List aB × Int) ⊕ ((List aB))) :=
  cond (decide (i6 < ((List.length all4 : Nat) : Int)))
  (bI (0 ≤ i6 ∧ i6 < ((List.length all4 : Nat) : Int)) <|
  AL all4 out5 i6 (aB.mk ((List.getD all4 (Int.toNat i6) default).At) 0))
  (some (.inr out5))

noncomputable def AG (all4 : List aB) (out5 : List aB) (i6 : Int) : Option ((List aB) × Int) :=
  (lp (fun s => lQ s.1 s.2.1 s.2.2) (all4, out5, i6)).bind (fun rr => wF rr)

noncomputable def xV (l0 : (List aB)) : Option ((List aB) × Int) :=
  (dA l0 (fun y0 => uG y0)).bind fun x1 =>
  cond x1
  (some ([], (2 : Int)))
  ((dA l0 (fun y0 => uF y0)).bind fun x5 =>
  cond x5
  (some ([], (13 : Int)))
  ((eZ l0).bind fun x9 =>
  (dK x9 (fun y0 y1 => nG y0 y1)).bind fun x12 =>
  AG x12 ([] : List aB) (0 : Int)))

noncomputable def tZ (f0 : (List aB)) : Option ((List aB) × Int) :=
  (xV f0).bind fun x1 =>
  some (x1.1, x1.2)

noncomputable def xW (l0 : (List aC)) : Option ((List aC) × Int) :=
  (dB l0 (fun y0 => uO y0)).bind fun x1 =>
  cond x1
  (some ([], (2 : Int)))
  ((dB l0 (fun y0 => tW y0)).bind fun x5 =>
  cond x5
  (some ([], (13 : Int)))
  ((fA l0).bind fun x9 =>
  (dI x9 (fun y0 y1 => nE y0 y1)).bind fun x12 =>
  (tV x12 (fun y0 => tZ y0)).bind fun x15 =>
  some (x15.1, x15.2)))

noncomputable def uN (out4 : List aC) : Option ((List aC) × Int) :=
  (xW out4).bind fun x9 =>
  some (x9.1, x9.2)

noncomputable def nJ (t16 : (List aN)) (t17 : Int) (out4 : List aC) (t18 : Int) : Option ((List aC × Int) ⊕ ((List aC))) :=
  cond (decide (t18 < t17))
  (bI (0 ≤ t18 ∧ t18 < ((List.length t16 : Nat) : Int)) <|
  bI ((List.length out4 + List.length ([aC.mk ((List.getD t16 (Int.toNat t18) default).Row) (((List.getD t16 (Int.toNat t18) default).Span).From) (1 : Int), aC.mk ((List.getD t16 (Int.toNat t18) default).Row) (((List.getD t16 (Int.toNat t18) default).Span).To) (-1 : Int)])) * 40 ≤ 140737488355328 ∧ List.length out4 + List.length ([aC.mk ((List.getD t16 (Int.toNat t18) default).Row) (((List.getD t16 (Int.toNat t18) default).Span).From) (1 : Int), aC.mk ((List.getD t16 (Int.toNat t18) default).Row) (((List.getD t16 (Int.toNat t18) default).Span).To) (-1 : Int)]) ≤ 9223372036854775807) <|
  some (.inl (out4 ++ ([aC.mk ((List.getD t16 (Int.toNat t18) default).Row) (((List.getD t16 (Int.toNat t18) default).Span).From) (1 : Int), aC.mk ((List.getD t16 (Int.toNat t18) default).Row) (((List.getD t16 (Int.toNat t18) default).Span).To) (-1 : Int)]), IntKind.i64.wrap (t18 + (1 : Int)))))
  (some (.inr out4))

noncomputable def zG (out4 : List aC) (t16 : (List aN)) (t17 : Int) (t18 : Int) : Option ((List aC) × Int) :=
  (lp (fun s => nJ t16 t17 s.1 s.2) (out4, t18)).bind (fun rr => uN rr)

noncomputable def sZ (l0 : (List aN)) : Option ((List aC) × Int) :=
  (dJ l0 (fun y0 => sN y0)).bind fun x1 =>
  cond x1
  (some ([], (2 : Int)))
  (cond (decide ((4096 : Int) < ((List.length l0 : Nat) : Int)))
  (some ([], (7 : Int)))
  (bI (0 ≤ (IntKind.i64.wrap ((2 : Int) * ((List.length l0 : Nat) : Int))) ∧ (40 : Int) * (IntKind.i64.wrap ((2 : Int) * ((List.length l0 : Nat) : Int))) ≤ 281474976710656 ∧ (IntKind.i64.wrap ((2 : Int) * ((List.length l0 : Nat) : Int))) ≤ 9223372036854775807) <|
  zG ([] : List aC) l0 ((List.length l0 : Nat) : Int) (0 : Int)))

noncomputable def qL (vO : (List aB) → Option Bool) (kU : (List aC)) (t4 : Bool) (pH : (List aF)) (jN : Bool) (t14 : (List aF)) (t15 : (List aB)) : Option ((Bool × (List aF) × Bool) ⊕ (Bool × (List aF) × Bool)) :=
  (rC t14).bind fun x7 =>
  (cO (jN && (!(!x7))) (qU pH t14)).bind fun x12 =>
  (cO (!((!x7) || (jN && (decide ((0 : Int) ≤ x12))))) (vO t15)).bind fun x15 =>
  cond (((!x7) || (jN && (decide ((0 : Int) ≤ x12)))) || (!x15))
  (some (.inr (false, pH, jN)))
  (some (.inl (t4, t14, true)))

noncomputable def AZ (vO : (List aB) → Option Bool) (t4 : Bool) (pH : (List aF)) (jN : Bool) (kU : (List aC)) : Option Bool :=
  (mW (fun st t14 t15 => rnd (fun (s : Bool × (List aF) × Bool) => qL vO kU s.1 s.2.1 s.2.2 t14 t15) st) kU (.inl (t4, pH, jN))).bind (Sum.elim (fun (s : Bool × (List aF) × Bool) =>
  (some true))
  (fun (s : Bool × (List aF) × Bool) =>
  (some s.1)))

noncomputable def uV (l0 : (List aC)) (vO : (List aB) → Option Bool) : Option Bool :=
  cond (decide ((4096 : Int) < ((List.length l0 : Nat) : Int)))
  (some false)
  ((pM l0).bind fun x5 =>
  AZ vO false ([]) false x5)

noncomputable def xK (l0 : (List aC)) : Option Bool :=
  (uV l0 (fun y0 => pJ y0)).bind fun x1 =>
  some x1

noncomputable def uI (fG : Int) : Option Int :=
  some fG

noncomputable def nC (t24 : (List aB)) (t25 : Int) (v3 : Int) (fG : Int) (t26 : Int) : Option ((Int × Int × Int) ⊕ (Int)) :=
  cond (decide (t26 < t25))
  (bI (0 ≤ t26 ∧ t26 < ((List.length t24 : Nat) : Int)) <|
  some (.inl (IntKind.i64.wrap (v3 + ((List.getD t24 (Int.toNat t26) default).Net)), if (IntKind.i64.wrap (v3 + ((List.getD t24 (Int.toNat t26) default).Net))) < fG then (IntKind.i64.wrap (v3 + ((List.getD t24 (Int.toNat t26) default).Net))) else fG, IntKind.i64.wrap (t26 + (1 : Int)))))
  (some (.inr fG))

noncomputable def uB (v3 : Int) (fG : Int) (t24 : (List aB)) (t25 : Int) (t26 : Int) : Option Int :=
  (lp (fun s => nC t24 t25 s.1 s.2.1 s.2.2) (v3, fG, t26)).bind (fun rr => uI rr)

noncomputable def qV (f0 : (List aB)) (v3 : Int) (fG : Int) : Option Int :=
  uB v3 fG f0 ((List.length f0 : Nat) : Int) (0 : Int)

noncomputable def vJ (f0 : (List aB)) : Option Int :=
  (pJ f0).bind fun x1 =>
  cond ((!x1) || (decide (((List.length f0 : Nat) : Int) = (0 : Int))))
  (some (0 : Int))
  (bI (0 ≤ (0 : Int) ∧ (0 : Int) < ((List.length f0 : Nat) : Int)) <|
  cond (decide (((List.getD f0 (Int.toNat (0 : Int)) default).At) = (-1 : Int)))
  (bI (0 ≤ (0 : Int) ∧ (0 : Int) < ((List.length f0 : Nat) : Int)) <|
  qV f0 (0 : Int) ((List.getD f0 (Int.toNat (0 : Int)) default).Net))
  (qV f0 (0 : Int) (0 : Int)))

noncomputable def sR (f0 : (List aB)) : Option Bool :=
  (pJ f0).bind fun x1 =>
  (cO x1 (vJ f0)).bind fun x4 =>
  some (x1 && (decide ((0 : Int) ≤ x4)))

noncomputable def wJ (l0 : (List aC)) : Option Bool :=
  (uV l0 (fun y0 => sR y0)).bind fun x1 =>
  some x1

noncomputable def qP (l0 : (List aC)) : Option ((List aC)) :=
  some l0

noncomputable def jQ {σ : Type} (eR : σ → (List aF) → (List aB) → Option (σ × Bool)) (t9c0 : (List aC)) (sg : σ) (t10 : (List aF)) (t11 : (List aB)) : Option ((σ) ⊕ (σ)) :=
  (eR sg t10 t11).bind fun x7 =>
  cond (!x7.2)
  (some (.inr x7.1))
  (some (.inl x7.1))

noncomputable def rI {σ : Type} (eR : σ → (List aF) → (List aB) → Option (σ × Bool)) (sg : σ) (t9c0 : (List aC)) : Option σ :=
  (mW (fun st t10 t11 => rnd (fun (s : σ) => jQ eR t9c0 s t10 t11) st) t9c0 (.inl sg)).bind (Sum.elim (fun (s : σ) =>
  (some s))
  (fun (s : σ) =>
  (some s)))

noncomputable def nA {σ : Type} (eR : σ → (List aF) → (List aB) → Option (σ × Bool)) (t1 : (List aC)) (sg0 : σ) : Option σ :=
  (xK t1).bind fun x1 =>
  cond (!x1)
  (some sg0)
  ((pM t1).bind fun x5 =>
  rI eR sg0 x5)

noncomputable def wC (n3 : Int) : Option Int :=
  some n3

noncomputable def oO (t6 : (List aB)) (t7 : Int) (n3 : Int) (t8 : Int) : Option ((Int × Int) ⊕ (Int)) :=
  cond (decide (t8 < t7))
  (bI (0 ≤ t8 ∧ t8 < ((List.length t6 : Nat) : Int)) <|
  some (.inl (IntKind.i64.wrap (n3 + (if (0 : Int) > ((List.getD t6 (Int.toNat t8) default).Net) then (0 : Int) else ((List.getD t6 (Int.toNat t8) default).Net))), IntKind.i64.wrap (t8 + (1 : Int)))))
  (some (.inr n3))

noncomputable def AT (n3 : Int) (t6 : (List aB)) (t7 : Int) (t8 : Int) : Option Int :=
  (lp (fun s => oO t6 t7 s.1 s.2) (n3, t8)).bind (fun rr => wC rr)

noncomputable def rV (f0 : (List aB)) : Option Int :=
  AT (0 : Int) f0 ((List.length f0 : Nat) : Int) (0 : Int)

noncomputable def mH (t0 : Int) (t1 : (List aR)) (t2 : Int) : Option ((List aR) × Int) :=
  bI (0 ≤ t2 ∧ t2 < ((List.length t1 : Nat) : Int)) <|
  some (List.set t1 (Int.toNat t2) (aR.mk (List.getD t1 (Int.toNat t2) default).From t0), IntKind.i64.wrap (t2 + (1 : Int)))

noncomputable def yP (out3 : List aR) : Option (List aR) :=
  some out3

noncomputable def lT  (out3 : List aR) (cE : Int) : Option ((List aR × Int) ⊕ ((List aR))) :=
  cond (decide (cE < ((List.length out3 : Nat) : Int)))
  ((mH (1125899906842624 : Int) out3 cE).bind fun x14 =>
  some (.inl (x14.1, x14.2)))
  (some (.inr out3))

noncomputable def zD (out3 : List aR) (cE : Int) : Option (List aR) :=
  (lp (fun s => lT s.1 s.2) (out3, cE)).bind (fun rr => yP rr)

noncomputable def uL (out3 : List aR) (cE : Int) : Option (List aR) :=
  zD out3 cE

noncomputable def uJ (out3 : List aR) (cE : Int) (t12 : (List aB)) (t13 : Int) (t14 : Int) : Option ((List aR × Int × Int) ⊕ ((List aR × Int))) :=
  some (.inl (out3, cE, IntKind.i64.wrap (t14 + (1 : Int))))

noncomputable def lW (t12 : (List aB)) (t13 : Int) (t14 : Int) (t31 : Int) (out3 : List aR) (cE : Int) (j7 : aB) (t32 : Int) : Option ((List aR × Int × aB × Int) ⊕ ((List aR × Int))) :=
  cond (decide (t32 < t31))
  ((mH j7.At out3 cE).bind fun x30 =>
  some (.inl (x30.1, x30.2, j7, IntKind.i64.wrap (t32 + (1 : Int)))))
  (some (.inr (out3, cE)))

noncomputable def yW (out3 : List aR) (cE : Int) (j7 : aB) (t12 : (List aB)) (t13 : Int) (t14 : Int) (t31 : Int) (t32 : Int) : Option ((List aR × Int × Int) ⊕ ((List aR × Int))) :=
  (lp (fun s => lW t12 t13 t14 t31 s.1 s.2.1 s.2.2.1 s.2.2.2) (out3, cE, j7, t32)).bind (fun rr => uJ rr.1 rr.2 t12 t13 t14)

noncomputable def uE (out3 : List aR) (cE : Int) (j7 : aB) (t12 : (List aB)) (t13 : Int) (t14 : Int) : Option ((List aR × Int × Int) ⊕ ((List aR × Int))) :=
  yW out3 cE j7 t12 t13 t14 (IntKind.i64.wrap (0 - j7.Net)) (0 : Int)

noncomputable def lU (t12 : (List aB)) (t13 : Int) (t14 : Int) (t19 : Int) (out3 : List aR) (cE : Int) (j7 : aB) (t20 : Int) : Option ((List aR × Int × aB × Int) ⊕ ((List aR × Int × aB))) :=
  cond (decide (t20 < t19))
  (bI ((List.length out3 + List.length ([aR.mk j7.At 0])) * 16 ≤ 140737488355328 ∧ List.length out3 + List.length ([aR.mk j7.At 0]) ≤ 9223372036854775807) <|
  some (.inl (out3 ++ ([aR.mk j7.At 0]), cE, j7, IntKind.i64.wrap (t20 + (1 : Int)))))
  (some (.inr (out3, cE, j7)))

noncomputable def yV (out3 : List aR) (cE : Int) (j7 : aB) (t12 : (List aB)) (t13 : Int) (t14 : Int) (t19 : Int) (t20 : Int) : Option ((List aR × Int × Int) ⊕ ((List aR × Int))) :=
  (lp (fun s => lU t12 t13 t14 t19 s.1 s.2.1 s.2.2.1 s.2.2.2) (out3, cE, j7, t20)).bind (fun rr => uE rr.1 rr.2.1 rr.2.2 t12 t13 t14)

noncomputable def nD (t12 : (List aB)) (t13 : Int) (out3 : List aR) (cE : Int) (t14 : Int) : Option ((List aR × Int × Int) ⊕ ((List aR × Int))) :=
  cond (decide (t14 < t13))
  (bI (0 ≤ t14 ∧ t14 < ((List.length t12 : Nat) : Int)) <|
  yV out3 cE (List.getD t12 (Int.toNat t14) default) t12 t13 t14 ((List.getD t12 (Int.toNat t14) default).Net) (0 : Int))
  (some (.inr (out3, cE)))

noncomputable def yT (out3 : List aR) (cE : Int) (t12 : (List aB)) (t13 : Int) (t14 : Int) : Option (List aR) :=
  (lp (fun s => nD t12 t13 s.1 s.2.1 s.2.2) (out3, cE, t14)).bind (fun rr => uL rr.1 rr.2)

noncomputable def vK (f0 : (List aB)) : Option (List aR) :=
  (rV f0).bind fun x1 =>
  bI (0 ≤ x1 ∧ (16 : Int) * x1 ≤ 281474976710656 ∧ x1 ≤ 9223372036854775807) <|
  yT ([] : List aR) (0 : Int) f0 ((List.length f0 : Nat) : Int) (0 : Int)

noncomputable def nW (l0 : (List aC)) (wN : (List aC)) (n4 : Int) (t22 : (List aF)) (t23 : (List aB)) : Option ((Int) ⊕ (Int)) :=
  (rV t23).bind fun x12 =>
  some (.inl (IntKind.i64.wrap (n4 + x12)))

noncomputable def mK (r8 : (List aF)) (t37 : (List aR)) (t38 : Int) (out7 : List aN) (t39 : Int) : Option ((List aN × Int) ⊕ ((List aN))) :=
  cond (decide (t39 < t38))
  (bI (0 ≤ t39 ∧ t39 < ((List.length t37 : Nat) : Int)) <|
  (tN r8).bind fun x31 =>
  bI ((List.length out7 + List.length ([aN.mk x31 (List.getD t37 (Int.toNat t39) default)])) * 40 ≤ 140737488355328 ∧ List.length out7 + List.length ([aN.mk x31 (List.getD t37 (Int.toNat t39) default)]) ≤ 9223372036854775807) <|
  some (.inl (out7 ++ ([aN.mk x31 (List.getD t37 (Int.toNat t39) default)]), IntKind.i64.wrap (t39 + (1 : Int)))))
  (some (.inr out7))

noncomputable def sE (out7 : List aN) (r8 : (List aF)) (t37 : (List aR)) (t38 : Int) (t39 : Int) : Option ((List aN) ⊕ (List aN)) :=
  (lp (fun s => mK r8 t37 t38 s.1 s.2) (out7, t39)).bind (fun rr => some (.inl rr))

noncomputable def nU (xI : (List aC)) (out7 : List aN) (t34 : (List aF)) (t35 : (List aB)) : Option ((List aN) ⊕ (List aN)) :=
  (vK t35).bind fun x23 =>
  sE out7 t34 x23 ((List.length x23 : Nat) : Int) (0 : Int)

noncomputable def sP (out7 : List aN) (xI : (List aC)) : Option ((List aN) × Int) :=
  (nA (fun st t34 t35 => rnd (fun (s : List aN) => nU xI s t34 t35) st) xI (.inl out7)).bind (Sum.elim (fun (s : List aN) =>
  (some (s, (0 : Int))))
  (fun (s : List aN) =>
  (none)))

noncomputable def xC (l0 : (List aC)) (n4 : Int) (wN : (List aC)) : Option ((List aN) × Int) :=
  (nA (fun st t22 t23 => rnd (fun (s : Int) => nW l0 wN s t22 t23) st) wN (.inl n4)).bind (Sum.elim (fun (s : Int) =>
  (cond (decide ((4096 : Int) < s))
  (some ([], (7 : Int)))
  (bI (0 ≤ s ∧ (40 : Int) * s ≤ 281474976710656 ∧ s ≤ 9223372036854775807) <|
  (qP l0).bind fun x20 =>
  sP ([] : List aN) x20)))
  (fun (s : Int) =>
  (none)))

noncomputable def qW (l0 : (List aC)) : Option ((List aN) × Int) :=
  (xK l0).bind fun x1 =>
  cond (!x1)
  (some ([], (2 : Int)))
  ((wJ l0).bind fun x5 =>
  cond (!x5)
  (some ([], (20 : Int)))
  ((qP l0).bind fun x10 =>
  xC l0 (0 : Int) x10))

noncomputable def uP (l0 : (List aN)) : Option ((List aN) × Int) :=
  (sZ l0).bind fun x1 =>
  cond (!decide (x1.2 = (0 : Int)))
  (some ([], x1.2))
  ((qW x1.1).bind fun x5 =>
  some (x5.1, x5.2))

noncomputable def cK (eq2 : aN → aN → Option Bool)  : Option Bool :=
  some true

noncomputable def cD (eq2 : aN → aN → Option Bool) (s21 : (List aN)) (t15 : (List aN)) (t16 : Int) (t17 : Int) : Option ((Int) ⊕ (Unit ⊕ Bool)) :=
  cond (decide (t17 < t16))
  (bI (0 ≤ t17 ∧ t17 < ((List.length t15 : Nat) : Int)) <|
  bI (0 ≤ t17 ∧ t17 < ((List.length s21 : Nat) : Int)) <|
  (eq2 (List.getD t15 (Int.toNat t17) default) (List.getD s21 (Int.toNat t17) default)).bind fun x7 =>
  cond (!x7)
  (some (.inr (.inr false)))
  (some (.inl (IntKind.i64.wrap (t17 + (1 : Int))))))
  (some (.inr (.inl ())))

noncomputable def cV (eq2 : aN → aN → Option Bool) (s21 : (List aN)) (t15 : (List aN)) (t16 : Int) (t17 : Int) : Option Bool :=
  (lp (fun s => cD eq2 s21 t15 t16 s) t17).bind (Sum.elim (fun rr => cK eq2 ) (fun rr => some rr))

noncomputable def cW (s10 : (List aN)) (s21 : (List aN)) (eq2 : aN → aN → Option Bool) : Option Bool :=
  cond (!decide (((List.length s10 : Nat) : Int) = ((List.length s21 : Nat) : Int)))
  (some false)
  (cV eq2 s21 s10 ((List.length s10 : Nat) : Int) (0 : Int))

noncomputable def oX (x0 : aN) (y1 : aN) : Option Bool :=
  (cO ((decide (x0.Span.From = y1.Span.From)) && ((decide (x0.Span.To = y1.Span.To)) && true)) (xF x0.Row y1.Row)).bind fun x1 =>
  some (((decide (x0.Span.From = y1.Span.From)) && ((decide (x0.Span.To = y1.Span.To)) && true)) && x1)

noncomputable def uS (a0 : (List aN)) (b1 : (List aN)) : Option Bool :=
  (cW a0 b1 (fun y0 y1 => oX y0 y1)).bind fun x1 =>
  some x1

noncomputable def uC  : Option Bool :=
  some true

noncomputable def qT (a0 : (List aF)) (b1 : (List aF)) (i5 : Int) : Option ((Int) ⊕ (Unit ⊕ Bool)) :=
  cond (decide (i5 < ((List.length a0 : Nat) : Int)))
  (bI (0 ≤ i5 ∧ i5 < ((List.length a0 : Nat) : Int)) <|
  bI (0 ≤ i5 ∧ i5 < ((List.length b1 : Nat) : Int)) <|
  cond (!((decide (((List.getD a0 (Int.toNat i5) default).Kind) = ((List.getD b1 (Int.toNat i5) default).Kind))) && ((decide (((List.getD a0 (Int.toNat i5) default).Num) = ((List.getD b1 (Int.toNat i5) default).Num))) && ((oJ ((List.getD a0 (Int.toNat i5) default).Text) ((List.getD b1 (Int.toNat i5) default).Text)) && true))))
  (some (.inr (.inr false)))
  (some (.inl (IntKind.i64.wrap (i5 + (1 : Int))))))
  (some (.inr (.inl ())))

noncomputable def zC (a0 : (List aF)) (b1 : (List aF)) (i5 : Int) : Option Bool :=
  (lp (fun s => qT a0 b1 s) i5).bind (Sum.elim (fun rr => uC ) (fun rr => some rr))

noncomputable def oN (a0 : (List aF)) (b1 : (List aF)) : Option Bool :=
  cond (!decide (((List.length a0 : Nat) : Int) = ((List.length b1 : Nat) : Int)))
  (some false)
  (zC a0 b1 (0 : Int))

noncomputable def uD  : Option Bool :=
  some true

noncomputable def qZ (a0 : (List aN)) (b1 : (List aN)) (i5 : Int) : Option ((Int) ⊕ (Unit ⊕ Bool)) :=
  cond (decide (i5 < ((List.length a0 : Nat) : Int)))
  (bI (0 ≤ i5 ∧ i5 < ((List.length a0 : Nat) : Int)) <|
  bI (0 ≤ i5 ∧ i5 < ((List.length b1 : Nat) : Int)) <|
  bI ((((!(!((decide ((((List.getD a0 (Int.toNat i5) default).Span).From) = (((List.getD b1 (Int.toNat i5) default).Span).From))) && ((decide ((((List.getD a0 (Int.toNat i5) default).Span).To) = (((List.getD b1 (Int.toNat i5) default).Span).To))) && true))))) = true → 0 ≤ i5 ∧ i5 < ((List.length a0 : Nat) : Int))) <|
  bI ((((!(!((decide ((((List.getD a0 (Int.toNat i5) default).Span).From) = (((List.getD b1 (Int.toNat i5) default).Span).From))) && ((decide ((((List.getD a0 (Int.toNat i5) default).Span).To) = (((List.getD b1 (Int.toNat i5) default).Span).To))) && true))))) = true → 0 ≤ i5 ∧ i5 < ((List.length b1 : Nat) : Int))) <|
  (cO (!(!((decide ((((List.getD a0 (Int.toNat i5) default).Span).From) = (((List.getD b1 (Int.toNat i5) default).Span).From))) && ((decide ((((List.getD a0 (Int.toNat i5) default).Span).To) = (((List.getD b1 (Int.toNat i5) default).Span).To))) && true)))) (oN ((List.getD a0 (Int.toNat i5) default).Row) ((List.getD b1 (Int.toNat i5) default).Row))).bind fun x7 =>
  cond ((!((decide ((((List.getD a0 (Int.toNat i5) default).Span).From) = (((List.getD b1 (Int.toNat i5) default).Span).From))) && ((decide ((((List.getD a0 (Int.toNat i5) default).Span).To) = (((List.getD b1 (Int.toNat i5) default).Span).To))) && true))) || (!x7))
  (some (.inr (.inr false)))
  (some (.inl (IntKind.i64.wrap (i5 + (1 : Int))))))
  (some (.inr (.inl ())))

noncomputable def zA (a0 : (List aN)) (b1 : (List aN)) (i5 : Int) : Option Bool :=
  (lp (fun s => qZ a0 b1 s) i5).bind (Sum.elim (fun rr => uD ) (fun rr => some rr))

noncomputable def qH (a0 : (List aN)) (b1 : (List aN)) : Option Bool :=
  cond (!decide (((List.length a0 : Nat) : Int) = ((List.length b1 : Nat) : Int)))
  (some false)
  (zA a0 b1 (0 : Int))

noncomputable def qJ  : Option Bool :=
  (jU (5 : Int) (9 : Int)).bind fun x1 =>
  (jU (2 : Int) (5 : Int)).bind fun x4 =>
  (uP ([x1, x4])).bind fun x7 =>
  (jU (1 : Int) (10 : Int)).bind fun x10 =>
  (jU (3 : Int) (5 : Int)).bind fun x13 =>
  (uP ([x10, x13])).bind fun x16 =>
  (cO ((decide (x7.2 = (0 : Int))) && (decide (x16.2 = (0 : Int)))) (jU (2 : Int) (9 : Int))).bind fun x19 =>
  (cO ((decide (x7.2 = (0 : Int))) && (decide (x16.2 = (0 : Int)))) (uS x7.1 ([x19]))).bind fun x22 =>
  (cO (((decide (x7.2 = (0 : Int))) && (decide (x16.2 = (0 : Int)))) && x22) (jU (1 : Int) (5 : Int))).bind fun x25 =>
  (cO (((decide (x7.2 = (0 : Int))) && (decide (x16.2 = (0 : Int)))) && x22) (jU (3 : Int) (10 : Int))).bind fun x28 =>
  (cO (((decide (x7.2 = (0 : Int))) && (decide (x16.2 = (0 : Int)))) && x22) (qH x16.1 ([x25, x28]))).bind fun x31 =>
  (cO ((((decide (x7.2 = (0 : Int))) && (decide (x16.2 = (0 : Int)))) && x22) && x31) (jU (-1 : Int) (0 : Int))).bind fun x34 =>
  (cO ((((decide (x7.2 = (0 : Int))) && (decide (x16.2 = (0 : Int)))) && x22) && x31) (tL x34)).bind fun x37 =>
  (cO (((((decide (x7.2 = (0 : Int))) && (decide (x16.2 = (0 : Int)))) && x22) && x31) && x37) (jU (3 : Int) (3 : Int))).bind fun x40 =>
  (cO (((((decide (x7.2 = (0 : Int))) && (decide (x16.2 = (0 : Int)))) && x22) && x31) && x37) (tL x40)).bind fun x43 =>
  some ((((((decide (x7.2 = (0 : Int))) && (decide (x16.2 = (0 : Int)))) && x22) && x31) && x37) && (!x43))

noncomputable def rW (v0 : aF) : Option Bool :=
  cond (decide (v0.Kind = (1 : Int)))
  (some (oJ v0.Text (⟨#[]⟩ : ByteArray)))
  (some (((decide (v0.Kind = (2 : Int))) && (decide (v0.Num = (0 : Int)))) && (decide (((ByteArray.size v0.Text : Nat) : Int) ≤ (64 : Int)))))

noncomputable def sH (r0 : (List aF)) : Option Bool :=
  some (decide (((List.length r0 : Nat) : Int) ≤ (8 : Int)))

noncomputable def pZ (r0 : (List aF)) (i3 : Int) : Option ((Int) ⊕ (Unit ⊕ Bool)) :=
  cond ((decide (i3 < ((List.length r0 : Nat) : Int))) && (decide (i3 < (9 : Int))))
  (bI (0 ≤ i3 ∧ i3 < ((List.length r0 : Nat) : Int)) <|
  (rW (List.getD r0 (Int.toNat i3) default)).bind fun x3 =>
  cond (!x3)
  (some (.inr (.inr false)))
  (some (.inl (IntKind.i64.wrap (i3 + (1 : Int))))))
  (some (.inr (.inl ())))

noncomputable def AK (r0 : (List aF)) (i3 : Int) : Option Bool :=
  (lp (fun s => pZ r0 s) i3).bind (Sum.elim (fun rr => sH r0) (fun rr => some rr))

noncomputable def rT (r0 : (List aF)) : Option Bool :=
  AK r0 (0 : Int)

noncomputable def wA  : Option Bool :=
  some true

noncomputable def lR (f0 : (List aB)) (i3 : Int) : Option ((Int) ⊕ (Unit ⊕ Bool)) :=
  cond (decide (i3 < ((List.length f0 : Nat) : Int)))
  (bI (0 ≤ i3 ∧ i3 < ((List.length f0 : Nat) : Int)) <|
  bI ((((!(decide (((List.getD f0 (Int.toNat i3) default).At) < (-1 : Int))))) = true → 0 ≤ i3 ∧ i3 < ((List.length f0 : Nat) : Int))) <|
  bI ((((!((decide (((List.getD f0 (Int.toNat i3) default).At) < (-1 : Int))) || (decide ((1125899906842624 : Int) ≤ ((List.getD f0 (Int.toNat i3) default).At)))))) = true → 0 ≤ i3 ∧ i3 < ((List.length f0 : Nat) : Int))) <|
  bI ((((!(((decide (((List.getD f0 (Int.toNat i3) default).At) < (-1 : Int))) || (decide ((1125899906842624 : Int) ≤ ((List.getD f0 (Int.toNat i3) default).At)))) || (decide (((List.getD f0 (Int.toNat i3) default).Net) = (0 : Int)))))) = true → 0 ≤ i3 ∧ i3 < ((List.length f0 : Nat) : Int))) <|
  bI ((((!((((decide (((List.getD f0 (Int.toNat i3) default).At) < (-1 : Int))) || (decide ((1125899906842624 : Int) ≤ ((List.getD f0 (Int.toNat i3) default).At)))) || (decide (((List.getD f0 (Int.toNat i3) default).Net) = (0 : Int)))) || (decide ((1048576 : Int) < ((List.getD f0 (Int.toNat i3) default).Net)))))) = true → 0 ≤ i3 ∧ i3 < ((List.length f0 : Nat) : Int))) <|
  cond (((((decide (((List.getD f0 (Int.toNat i3) default).At) < (-1 : Int))) || (decide ((1125899906842624 : Int) ≤ ((List.getD f0 (Int.toNat i3) default).At)))) || (decide (((List.getD f0 (Int.toNat i3) default).Net) = (0 : Int)))) || (decide ((1048576 : Int) < ((List.getD f0 (Int.toNat i3) default).Net)))) || (decide (((List.getD f0 (Int.toNat i3) default).Net) < (-1048576 : Int))))
  (some (.inr (.inr false)))
  (bI ((((decide ((0 : Int) < i3))) = true → 0 ≤ i3 ∧ i3 < ((List.length f0 : Nat) : Int))) <|
  bI ((((decide ((0 : Int) < i3))) = true → 0 ≤ (IntKind.i64.wrap (i3 - (1 : Int))) ∧ (IntKind.i64.wrap (i3 - (1 : Int))) < ((List.length f0 : Nat) : Int))) <|
  cond ((decide ((0 : Int) < i3)) && (decide (((List.getD f0 (Int.toNat i3) default).At) ≤ ((List.getD f0 (Int.toNat (IntKind.i64.wrap (i3 - (1 : Int)))) default).At))))
  (some (.inr (.inr false)))
  (some (.inl (IntKind.i64.wrap (i3 + (1 : Int)))))))
  (some (.inr (.inl ())))

noncomputable def BA (f0 : (List aB)) (i3 : Int) : Option Bool :=
  (lp (fun s => lR f0 s) i3).bind (Sum.elim (fun rr => wA ) (fun rr => some rr))

noncomputable def pQ (f0 : (List aB)) : Option Bool :=
  cond (decide ((1024 : Int) < ((List.length f0 : Nat) : Int)))
  (some false)
  (BA f0 (0 : Int))

noncomputable def qD (a2 : aF) (b3 : aF) : Option Int :=
  cond (!decide (((ByteArray.size a2.Text : Nat) : Int) = ((ByteArray.size b3.Text : Nat) : Int)))
  (cond (decide (((ByteArray.size a2.Text : Nat) : Int) < ((ByteArray.size b3.Text : Nat) : Int)))
  (some (-1 : Int))
  (some (1 : Int)))
  (some (0 : Int))

noncomputable def gC (a2 : aF) (b3 : aF) (i5 : Int) : Option ((Int) ⊕ (Unit ⊕ Int)) :=
  cond ((decide (i5 < ((ByteArray.size a2.Text : Nat) : Int))) && (decide (i5 < ((ByteArray.size b3.Text : Nat) : Int))))
  (bI (0 ≤ i5 ∧ i5 < ((ByteArray.size a2.Text : Nat) : Int)) <|
  bI (0 ≤ i5 ∧ i5 < ((ByteArray.size b3.Text : Nat) : Int)) <|
  cond (!decide ((bt a2.Text i5) = (bt b3.Text i5)))
  (bI (0 ≤ i5 ∧ i5 < ((ByteArray.size a2.Text : Nat) : Int)) <|
  bI (0 ≤ i5 ∧ i5 < ((ByteArray.size b3.Text : Nat) : Int)) <|
  cond (decide ((bt a2.Text i5) < (bt b3.Text i5)))
  (some (.inr (.inr (-1 : Int))))
  (some (.inr (.inr (1 : Int)))))
  (some (.inl (IntKind.i64.wrap (i5 + (1 : Int))))))
  (some (.inr (.inl ())))

noncomputable def tP (a2 : aF) (b3 : aF) (i5 : Int) : Option Int :=
  (lp (fun s => gC a2 b3 s) i5).bind (Sum.elim (fun rr => qD a2 b3) (fun rr => some rr))

noncomputable def rL (a0 : aF) (b1 : aF) : Option Int :=
  (rW a0).bind fun x1 =>
  (cO (!(!x1)) (rW b1)).bind fun x4 =>
  cond ((!x1) || (!x4))
  (some (0 : Int))
  (cond (!decide (a0.Kind = b1.Kind))
  (cond (decide (a0.Kind = (1 : Int)))
  (some (-1 : Int))
  (some (1 : Int)))
  (cond (!decide (a0.Num = b1.Num))
  (cond (decide (a0.Num < b1.Num))
  (some (-1 : Int))
  (some (1 : Int)))
  (tP a0 b1 (0 : Int))))

noncomputable def qB (a0 : (List aF)) (b1 : (List aF)) : Option Int :=
  cond (decide (((List.length a0 : Nat) : Int) < ((List.length b1 : Nat) : Int)))
  (some (-1 : Int))
  (cond (decide (((List.length b1 : Nat) : Int) < ((List.length a0 : Nat) : Int)))
  (some (1 : Int))
  (some (0 : Int)))

noncomputable def gE (a0 : (List aF)) (b1 : (List aF)) (i5 : Int) : Option ((Int) ⊕ (Unit ⊕ Int)) :=
  cond ((decide (i5 < ((List.length a0 : Nat) : Int))) && (decide (i5 < ((List.length b1 : Nat) : Int))))
  (bI (0 ≤ i5 ∧ i5 < ((List.length a0 : Nat) : Int)) <|
  bI (0 ≤ i5 ∧ i5 < ((List.length b1 : Nat) : Int)) <|
  (rL (List.getD a0 (Int.toNat i5) default) (List.getD b1 (Int.toNat i5) default)).bind fun x13 =>
  cond (!decide (x13 = (0 : Int)))
  (some (.inr (.inr x13)))
  (some (.inl (IntKind.i64.wrap (i5 + (1 : Int))))))
  (some (.inr (.inl ())))

noncomputable def tE (a0 : (List aF)) (b1 : (List aF)) (i5 : Int) : Option Int :=
  (lp (fun s => gE a0 b1 s) i5).bind (Sum.elim (fun rr => qB a0 b1) (fun rr => some rr))

noncomputable def oR (a0 : (List aF)) (b1 : (List aF)) : Option Int :=
  (rT a0).bind fun x1 =>
  (cO (!(!x1)) (rT b1)).bind fun x4 =>
  cond ((!x1) || (!x4))
  (some (0 : Int))
  (tE a0 b1 (0 : Int))

noncomputable def zI (bP : List (List aF)) : Option (List (List aF)) :=
  some bP

noncomputable def tR (l0 : (List aC)) (bP : List (List aF)) (i4 : Int) : Option ((List (List aF) × Int) ⊕ ((List (List aF)))) :=
  some (.inl (bP, IntKind.i64.wrap (i4 + (1 : Int))))

noncomputable def tY (l0 : (List aC)) (bP : List (List aF)) (i4 : Int) (at5 : Int) : Option ((List (List aF) × Int) ⊕ ((List (List aF)))) :=
  bI ((((decide (at5 < ((List.length bP : Nat) : Int)))) = true → 0 ≤ at5 ∧ at5 < ((List.length bP : Nat) : Int))) <|
  bI ((((decide (at5 < ((List.length bP : Nat) : Int)))) = true → 0 ≤ i4 ∧ i4 < ((List.length l0 : Nat) : Int))) <|
  (cO (decide (at5 < ((List.length bP : Nat) : Int))) (oN (List.getD bP (Int.toNat at5) default) ((List.getD l0 (Int.toNat i4) default).Row))).bind fun x10 =>
  cond ((decide (at5 < ((List.length bP : Nat) : Int))) && x10)
  (tR l0 bP i4)
  (bI (0 ≤ at5 ∧ at5 ≤ ((List.length bP : Nat) : Int)) <|
  bI (List.length (List.take (Int.toNat at5) bP) * 24 ≤ 140737488355328 ∧ List.length (List.take (Int.toNat at5) bP) ≤ 9223372036854775807) <|
  bI (0 ≤ i4 ∧ i4 < ((List.length l0 : Nat) : Int)) <|
  bI ((List.length (List.take (Int.toNat at5) bP) + List.length ([(List.getD l0 (Int.toNat i4) default).Row])) * 24 ≤ 140737488355328 ∧ List.length (List.take (Int.toNat at5) bP) + List.length ([(List.getD l0 (Int.toNat i4) default).Row]) ≤ 9223372036854775807) <|
  bI (0 ≤ at5 ∧ at5 ≤ ((List.length bP : Nat) : Int)) <|
  bI ((List.length ((List.take (Int.toNat at5) bP) ++ ([(List.getD l0 (Int.toNat i4) default).Row])) + List.length (List.drop (Int.toNat at5) bP)) * 24 ≤ 140737488355328 ∧ List.length ((List.take (Int.toNat at5) bP) ++ ([(List.getD l0 (Int.toNat i4) default).Row])) + List.length (List.drop (Int.toNat at5) bP) ≤ 9223372036854775807) <|
  tR l0 (((List.take (Int.toNat at5) bP) ++ ([(List.getD l0 (Int.toNat i4) default).Row])) ++ (List.drop (Int.toNat at5) bP)) i4)

noncomputable def lY (l0 : (List aC)) (i4 : Int) (bP : List (List aF)) (at5 : Int) : Option ((List (List aF) × Int) ⊕ ((List (List aF) × Int))) :=
  bI ((((decide (at5 < ((List.length bP : Nat) : Int)))) = true → 0 ≤ at5 ∧ at5 < ((List.length bP : Nat) : Int))) <|
  bI ((((decide (at5 < ((List.length bP : Nat) : Int)))) = true → 0 ≤ i4 ∧ i4 < ((List.length l0 : Nat) : Int))) <|
  (cO (decide (at5 < ((List.length bP : Nat) : Int))) (oR (List.getD bP (Int.toNat at5) default) ((List.getD l0 (Int.toNat i4) default).Row))).bind fun x27 =>
  cond ((decide (at5 < ((List.length bP : Nat) : Int))) && (decide (x27 < (0 : Int))))
  (some (.inl (bP, IntKind.i64.wrap (at5 + (1 : Int)))))
  (some (.inr (bP, at5)))

noncomputable def zF (l0 : (List aC)) (bP : List (List aF)) (i4 : Int) (at5 : Int) : Option ((List (List aF) × Int) ⊕ ((List (List aF)))) :=
  (lp (fun s => lY l0 i4 s.1 s.2) (bP, at5)).bind (fun rr => tY l0 rr.1 i4 rr.2)

noncomputable def nK (l0 : (List aC)) (bP : List (List aF)) (i4 : Int) : Option ((List (List aF) × Int) ⊕ ((List (List aF)))) :=
  cond (decide (i4 < ((List.length l0 : Nat) : Int)))
  (zF l0 bP i4 (0 : Int))
  (some (.inr bP))

noncomputable def yR (l0 : (List aC)) (bP : List (List aF)) (i4 : Int) : Option (List (List aF)) :=
  (lp (fun s => nK l0 s.1 s.2) (bP, i4)).bind (fun rr => zI rr)

noncomputable def qC (l0 : (List aC)) : Option (List (List aF)) :=
  yR l0 ([] : List (List aF)) (0 : Int)

noncomputable def wQ (f5 : List aB) : Option (List aB) :=
  some f5

noncomputable def sS (l0 : (List aC)) (r1 : (List aF)) (f5 : List aB) (i6 : Int) : Option ((List aB × Int) ⊕ ((List aB))) :=
  some (.inl (f5, IntKind.i64.wrap (i6 + (1 : Int))))

noncomputable def mE (l0 : (List aC)) (r1 : (List aF)) (f5 : List aB) (i6 : Int) : Option ((List aB × Int) ⊕ ((List aB))) :=
  cond (decide (i6 < ((List.length l0 : Nat) : Int)))
  (bI (0 ≤ i6 ∧ i6 < ((List.length l0 : Nat) : Int)) <|
  (oN ((List.getD l0 (Int.toNat i6) default).Row) r1).bind fun x8 =>
  cond x8
  (bI (0 ≤ i6 ∧ i6 < ((List.length l0 : Nat) : Int)) <|
  bI (0 ≤ i6 ∧ i6 < ((List.length l0 : Nat) : Int)) <|
  bI ((List.length f5 + List.length ([aB.mk ((List.getD l0 (Int.toNat i6) default).At) ((List.getD l0 (Int.toNat i6) default).Net)])) * 16 ≤ 140737488355328 ∧ List.length f5 + List.length ([aB.mk ((List.getD l0 (Int.toNat i6) default).At) ((List.getD l0 (Int.toNat i6) default).Net)]) ≤ 9223372036854775807) <|
  sS l0 r1 (f5 ++ ([aB.mk ((List.getD l0 (Int.toNat i6) default).At) ((List.getD l0 (Int.toNat i6) default).Net)])) i6)
  (sS l0 r1 f5 i6))
  (some (.inr f5))

noncomputable def wO (l0 : (List aC)) (r1 : (List aF)) (f5 : List aB) (i6 : Int) : Option (List aB) :=
  (lp (fun s => mE l0 r1 s.1 s.2) (f5, i6)).bind (fun rr => wQ rr)

noncomputable def oZ (l0 : (List aC)) (r1 : (List aF)) : Option (List aB) :=
  wO l0 r1 ([] : List aB) (0 : Int)

noncomputable def AU  : Option Bool :=
  some true

noncomputable def qE (l0 : (List aC)) (cN : (List (List aF))) (i6 : Int) : Option ((Int) ⊕ (Unit ⊕ Bool)) :=
  cond (decide (i6 < ((List.length cN : Nat) : Int)))
  (bI (0 ≤ i6 ∧ i6 < ((List.length cN : Nat) : Int)) <|
  (oZ l0 (List.getD cN (Int.toNat i6) default)).bind fun x7 =>
  cond (decide ((1024 : Int) < ((List.length x7 : Nat) : Int)))
  (some (.inr (.inr false)))
  (some (.inl (IntKind.i64.wrap (i6 + (1 : Int))))))
  (some (.inr (.inl ())))

noncomputable def AS (l0 : (List aC)) (cN : (List (List aF))) (i6 : Int) : Option Bool :=
  (lp (fun s => qE l0 cN s) i6).bind (Sum.elim (fun rr => AU ) (fun rr => some rr))

noncomputable def vM (l0 : (List aC)) : Option Bool :=
  (qC l0).bind fun x2 =>
  AS l0 x2 (0 : Int)

noncomputable def sM (l0 : (List aC)) (i3 : Int) : Option ((Int) ⊕ (Unit ⊕ Bool)) :=
  some (.inl (IntKind.i64.wrap (i3 + (1 : Int))))

noncomputable def oK (l0 : (List aC)) (i3 : Int) : Option ((Int) ⊕ (Unit ⊕ Bool)) :=
  cond (decide (i3 < ((List.length l0 : Nat) : Int)))
  (bI (0 ≤ i3 ∧ i3 < ((List.length l0 : Nat) : Int)) <|
  (rT ((List.getD l0 (Int.toNat i3) default).Row)).bind fun x13 =>
  bI ((((!(!x13))) = true → 0 ≤ i3 ∧ i3 < ((List.length l0 : Nat) : Int))) <|
  bI ((((!(!x13))) = true → 0 ≤ i3 ∧ i3 < ((List.length l0 : Nat) : Int))) <|
  (cO (!(!x13)) (pQ ([aB.mk ((List.getD l0 (Int.toNat i3) default).At) ((List.getD l0 (Int.toNat i3) default).Net)]))).bind fun x17 =>
  cond ((!x13) || (!x17))
  (some (.inr (.inr false)))
  (cond (decide (i3 = (0 : Int)))
  (sM l0 i3)
  (bI (0 ≤ (IntKind.i64.wrap (i3 - (1 : Int))) ∧ (IntKind.i64.wrap (i3 - (1 : Int))) < ((List.length l0 : Nat) : Int)) <|
  bI (0 ≤ i3 ∧ i3 < ((List.length l0 : Nat) : Int)) <|
  (oR ((List.getD l0 (Int.toNat (IntKind.i64.wrap (i3 - (1 : Int)))) default).Row) ((List.getD l0 (Int.toNat i3) default).Row)).bind fun x24 =>
  bI ((((decide (x24 = (0 : Int))) && (!(decide ((0 : Int) < x24)))) = true → 0 ≤ (IntKind.i64.wrap (i3 - (1 : Int))) ∧ (IntKind.i64.wrap (i3 - (1 : Int))) < ((List.length l0 : Nat) : Int))) <|
  bI ((((decide (x24 = (0 : Int))) && (!(decide ((0 : Int) < x24)))) = true → 0 ≤ i3 ∧ i3 < ((List.length l0 : Nat) : Int))) <|
  cond ((decide ((0 : Int) < x24)) || ((decide (x24 = (0 : Int))) && (decide (((List.getD l0 (Int.toNat i3) default).At) ≤ ((List.getD l0 (Int.toNat (IntKind.i64.wrap (i3 - (1 : Int)))) default).At)))))
  (some (.inr (.inr false)))
  (sM l0 i3))))
  (some (.inr (.inl ())))

noncomputable def AV (l0 : (List aC)) (i3 : Int) : Option Bool :=
  (lp (fun s => oK l0 s) i3).bind (Sum.elim (fun rr => vM l0) (fun rr => some rr))

noncomputable def uW (l0 : (List aC)) : Option Bool :=
  cond (decide ((4096 : Int) < ((List.length l0 : Nat) : Int)))
  (some false)
  (AV l0 (0 : Int))

noncomputable def sI (v5 : Int) : Option Int :=
  some v5

noncomputable def pT (f0 : (List aB)) (t1 : Int) (v5 : Int) (i6 : Int) : Option ((Int × Int) ⊕ (Int)) :=
  some (.inl (v5, IntKind.i64.wrap (i6 + (1 : Int))))

noncomputable def jI (f0 : (List aB)) (t1 : Int) (v5 : Int) (i6 : Int) : Option ((Int × Int) ⊕ (Int)) :=
  cond (decide (i6 < ((List.length f0 : Nat) : Int)))
  (bI (0 ≤ i6 ∧ i6 < ((List.length f0 : Nat) : Int)) <|
  cond (decide (((List.getD f0 (Int.toNat i6) default).At) ≤ t1))
  (bI (0 ≤ i6 ∧ i6 < ((List.length f0 : Nat) : Int)) <|
  pT f0 t1 (IntKind.i64.wrap (v5 + ((List.getD f0 (Int.toNat i6) default).Net))) i6)
  (pT f0 t1 v5 i6))
  (some (.inr v5))

noncomputable def wP (f0 : (List aB)) (t1 : Int) (v5 : Int) (i6 : Int) : Option Int :=
  (lp (fun s => jI f0 t1 s.1 s.2) (v5, i6)).bind (fun rr => sI rr)

noncomputable def nF (f0 : (List aB)) (t1 : Int) : Option Int :=
  wP f0 t1 (0 : Int) (0 : Int)

noncomputable def sU (m3 : Int) : Option Int :=
  some m3

noncomputable def sD (f0 : (List aB)) (m3 : Int) (i4 : Int) : Option ((Int × Int) ⊕ (Int)) :=
  some (.inl (m3, IntKind.i64.wrap (i4 + (1 : Int))))

noncomputable def mL (f0 : (List aB)) (m3 : Int) (i4 : Int) : Option ((Int × Int) ⊕ (Int)) :=
  cond (decide (i4 < ((List.length f0 : Nat) : Int)))
  (bI (0 ≤ i4 ∧ i4 < ((List.length f0 : Nat) : Int)) <|
  (nF f0 ((List.getD f0 (Int.toNat i4) default).At)).bind fun x10 =>
  cond (decide (x10 < m3))
  (bI (0 ≤ i4 ∧ i4 < ((List.length f0 : Nat) : Int)) <|
  (nF f0 ((List.getD f0 (Int.toNat i4) default).At)).bind fun x15 =>
  sD f0 x15 i4)
  (sD f0 m3 i4))
  (some (.inr m3))

noncomputable def wW (f0 : (List aB)) (m3 : Int) (i4 : Int) : Option Int :=
  (lp (fun s => mL f0 s.1 s.2) (m3, i4)).bind (fun rr => sU rr)

noncomputable def qS (f0 : (List aB)) : Option Int :=
  (pQ f0).bind fun x1 =>
  cond (!x1)
  (some (0 : Int))
  ((nF f0 (-1 : Int)).bind fun x5 =>
  wW f0 x5 (0 : Int))

noncomputable def xA  : Option Bool :=
  some true

noncomputable def nS (l0 : (List aC)) (bP : (List (List aF))) (i4 : Int) : Option ((Int) ⊕ (Unit ⊕ Bool)) :=
  cond (decide (i4 < ((List.length bP : Nat) : Int)))
  (bI (0 ≤ i4 ∧ i4 < ((List.length bP : Nat) : Int)) <|
  (oZ l0 (List.getD bP (Int.toNat i4) default)).bind fun x10 =>
  (qS x10).bind fun x13 =>
  cond (decide (x13 < (0 : Int)))
  (some (.inr (.inr false)))
  (some (.inl (IntKind.i64.wrap (i4 + (1 : Int))))))
  (some (.inr (.inl ())))

noncomputable def wM (l0 : (List aC)) (bP : (List (List aF))) (i4 : Int) : Option Bool :=
  (lp (fun s => nS l0 bP s) i4).bind (Sum.elim (fun rr => xA ) (fun rr => some rr))

noncomputable def tU (l0 : (List aC)) : Option Bool :=
  (uW l0).bind fun x1 =>
  cond (!x1)
  (some false)
  ((qC l0).bind fun x5 =>
  wM l0 x5 (0 : Int))

noncomputable def xD (eF : List aR) : Option ((List aR) × Int) :=
  some (eF, (0 : Int))

noncomputable def pS (bD : List Int) (bN : List Int) (eF : List aR) (i12 : Int) (s13 : aR) : Option ((List Int × List Int × List aR × Int) ⊕ ((List aR))) :=
  bI ((List.length eF + List.length ([s13])) * 16 ≤ 140737488355328 ∧ List.length eF + List.length ([s13]) ≤ 9223372036854775807) <|
  some (.inl (bD, bN, eF ++ ([s13]), IntKind.i64.wrap (i12 + (1 : Int))))

noncomputable def jJ  (bD : List Int) (bN : List Int) (eF : List aR) (i12 : Int) : Option ((List Int × List Int × List aR × Int) ⊕ ((List aR))) :=
  cond (decide (i12 < ((List.length bD : Nat) : Int)))
  (bI (0 ≤ i12 ∧ i12 < ((List.length bD : Nat) : Int)) <|
  cond (decide (i12 < ((List.length bN : Nat) : Int)))
  (bI (0 ≤ i12 ∧ i12 < ((List.length bN : Nat) : Int)) <|
  pS bD bN eF i12 (aR.mk (aR.mk (List.getD bD (Int.toNat i12) default) (1125899906842624 : Int)).From (List.getD bN (Int.toNat i12) default)))
  (pS bD bN eF i12 (aR.mk (List.getD bD (Int.toNat i12) default) (1125899906842624 : Int))))
  (some (.inr eF))

noncomputable def sQ (bD : List Int) (bN : List Int) (eF : List aR) (i12 : Int) : Option ((List aR) × Int) :=
  (lp (fun s => jJ s.1 s.2.1 s.2.2.1 s.2.2.2) (bD, bN, eF, i12)).bind (fun rr => xD rr)

noncomputable def sY (bD : List Int) (bN : List Int) : Option ((List aR) × Int) :=
  sQ bD bN ([] : List aR) (0 : Int)

noncomputable def sX (f0 : (List aB)) (bD : List Int) (bN : List Int) (i8 : Int) : Option ((List Int × List Int × Int) ⊕ ((List Int × List Int))) :=
  some (.inl (bD, bN, IntKind.i64.wrap (i8 + (1 : Int))))

noncomputable def mG (f0 : (List aB)) (i8 : Int) (bD : List Int) (bN : List Int) (k10 : Int) : Option ((List Int × List Int × Int) ⊕ ((List Int × List Int))) :=
  bI (0 ≤ i8 ∧ i8 < ((List.length f0 : Nat) : Int)) <|
  cond (decide (k10 < (IntKind.i64.wrap (0 - ((List.getD f0 (Int.toNat i8) default).Net)))))
  (bI (0 ≤ i8 ∧ i8 < ((List.length f0 : Nat) : Int)) <|
  bI ((List.length bN + List.length ([(List.getD f0 (Int.toNat i8) default).At])) * 8 ≤ 140737488355328 ∧ List.length bN + List.length ([(List.getD f0 (Int.toNat i8) default).At]) ≤ 9223372036854775807) <|
  some (.inl (bD, bN ++ ([(List.getD f0 (Int.toNat i8) default).At]), IntKind.i64.wrap (k10 + (1 : Int)))))
  (some (.inr (bD, bN)))

noncomputable def wT (f0 : (List aB)) (bD : List Int) (bN : List Int) (i8 : Int) (k10 : Int) : Option ((List Int × List Int × Int) ⊕ ((List Int × List Int))) :=
  (lp (fun s => mG f0 i8 s.1 s.2.1 s.2.2) (bD, bN, k10)).bind (fun rr => sX f0 rr.1 rr.2 i8)

noncomputable def sL (f0 : (List aB)) (bD : List Int) (bN : List Int) (i8 : Int) : Option ((List Int × List Int × Int) ⊕ ((List Int × List Int))) :=
  wT f0 bD bN i8 (0 : Int)

noncomputable def lM (f0 : (List aB)) (i8 : Int) (bD : List Int) (bN : List Int) (k9 : Int) : Option ((List Int × List Int × Int) ⊕ ((List Int × List Int))) :=
  bI (0 ≤ i8 ∧ i8 < ((List.length f0 : Nat) : Int)) <|
  cond (decide (k9 < ((List.getD f0 (Int.toNat i8) default).Net)))
  (bI (0 ≤ i8 ∧ i8 < ((List.length f0 : Nat) : Int)) <|
  bI ((List.length bD + List.length ([(List.getD f0 (Int.toNat i8) default).At])) * 8 ≤ 140737488355328 ∧ List.length bD + List.length ([(List.getD f0 (Int.toNat i8) default).At]) ≤ 9223372036854775807) <|
  some (.inl (bD ++ ([(List.getD f0 (Int.toNat i8) default).At]), bN, IntKind.i64.wrap (k9 + (1 : Int)))))
  (some (.inr (bD, bN)))

noncomputable def vF (f0 : (List aB)) (bD : List Int) (bN : List Int) (i8 : Int) (k9 : Int) : Option ((List Int × List Int × Int) ⊕ ((List Int × List Int))) :=
  (lp (fun s => lM f0 i8 s.1 s.2.1 s.2.2) (bD, bN, k9)).bind (fun rr => sL f0 rr.1 rr.2 i8)

noncomputable def mI (f0 : (List aB)) (bD : List Int) (bN : List Int) (i8 : Int) : Option ((List Int × List Int × Int) ⊕ ((List Int × List Int))) :=
  cond (decide (i8 < ((List.length f0 : Nat) : Int)))
  (vF f0 bD bN i8 (0 : Int))
  (some (.inr (bD, bN)))

noncomputable def sF (f0 : (List aB)) (bD : List Int) (bN : List Int) (i8 : Int) : Option ((List aR) × Int) :=
  (lp (fun s => mI f0 s.1 s.2.1 s.2.2) (bD, bN, i8)).bind (fun rr => sY rr.1 rr.2)

noncomputable def pV (f0 : (List aB)) (bD : List Int) (bN : List Int) (n6 : Int) : Option ((List aR) × Int) :=
  cond (decide ((4096 : Int) < n6))
  (some ([], (7 : Int)))
  (sF f0 bD bN (0 : Int))

noncomputable def oT (f0 : (List aB)) (bD : List Int) (bN : List Int) (n6 : Int) (i7 : Int) : Option ((List Int × List Int × Int × Int) ⊕ ((List Int × List Int × Int))) :=
  some (.inl (bD, bN, n6, IntKind.i64.wrap (i7 + (1 : Int))))

noncomputable def lK (f0 : (List aB)) (bD : List Int) (bN : List Int) (n6 : Int) (i7 : Int) : Option ((List Int × List Int × Int × Int) ⊕ ((List Int × List Int × Int))) :=
  cond (decide (i7 < ((List.length f0 : Nat) : Int)))
  (bI (0 ≤ i7 ∧ i7 < ((List.length f0 : Nat) : Int)) <|
  cond (decide ((0 : Int) < ((List.getD f0 (Int.toNat i7) default).Net)))
  (bI (0 ≤ i7 ∧ i7 < ((List.length f0 : Nat) : Int)) <|
  oT f0 bD bN (IntKind.i64.wrap (n6 + ((List.getD f0 (Int.toNat i7) default).Net))) i7)
  (oT f0 bD bN n6 i7))
  (some (.inr (bD, bN, n6)))

noncomputable def rO (f0 : (List aB)) (bD : List Int) (bN : List Int) (n6 : Int) (i7 : Int) : Option ((List aR) × Int) :=
  (lp (fun s => lK f0 s.1 s.2.1 s.2.2.1 s.2.2.2) (bD, bN, n6, i7)).bind (fun rr => pV f0 rr.1 rr.2.1 rr.2.2)

noncomputable def uK (f0 : (List aB)) : Option ((List aR) × Int) :=
  (pQ f0).bind fun x1 =>
  cond (!x1)
  (some ([], (2 : Int)))
  ((qS f0).bind fun x5 =>
  cond (decide (x5 < (0 : Int)))
  (some ([], (20 : Int)))
  (rO f0 ([] : List Int) ([] : List Int) (0 : Int) (0 : Int)))

noncomputable def rG (out4 : List aN) : Option ((List aN) × Int) :=
  some (out4, (0 : Int))

noncomputable def vI (l0 : (List aC)) (out4 : List aN) (cN : (List (List aF))) (i6 : Int) : Option ((List aN × Int) ⊕ ((List aN) ⊕ ((List aN) × Int))) :=
  some (.inl (out4, IntKind.i64.wrap (i6 + (1 : Int))))

noncomputable def oS (l0 : (List aC)) (out4 : List aN) (cN : (List (List aF))) (i6 : Int) : Option ((List aN × Int) ⊕ ((List aN) ⊕ ((List aN) × Int))) :=
  cond (decide ((4096 : Int) < ((List.length out4 : Nat) : Int)))
  (some (.inr (.inr ([], (7 : Int)))))
  (vI l0 out4 cN i6)

noncomputable def lJ (l0 : (List aC)) (cN : (List (List aF))) (i6 : Int) (s7 : (List aR)) (out4 : List aN) (k9 : Int) : Option ((List aN × Int) ⊕ ((List aN))) :=
  cond (decide (k9 < ((List.length s7 : Nat) : Int)))
  (bI (0 ≤ i6 ∧ i6 < ((List.length cN : Nat) : Int)) <|
  bI (List.length (List.getD cN (Int.toNat i6) default) * 32 ≤ 140737488355328 ∧ List.length (List.getD cN (Int.toNat i6) default) ≤ 9223372036854775807) <|
  bI (0 ≤ k9 ∧ k9 < ((List.length s7 : Nat) : Int)) <|
  bI ((List.length out4 + List.length ([aN.mk (List.getD cN (Int.toNat i6) default) (List.getD s7 (Int.toNat k9) default)])) * 40 ≤ 140737488355328 ∧ List.length out4 + List.length ([aN.mk (List.getD cN (Int.toNat i6) default) (List.getD s7 (Int.toNat k9) default)]) ≤ 9223372036854775807) <|
  some (.inl (out4 ++ ([aN.mk (List.getD cN (Int.toNat i6) default) (List.getD s7 (Int.toNat k9) default)]), IntKind.i64.wrap (k9 + (1 : Int)))))
  (some (.inr out4))

noncomputable def rH (l0 : (List aC)) (out4 : List aN) (cN : (List (List aF))) (i6 : Int) (s7 : (List aR)) (k9 : Int) : Option ((List aN × Int) ⊕ ((List aN) ⊕ ((List aN) × Int))) :=
  (lp (fun s => lJ l0 cN i6 s7 s.1 s.2) (out4, k9)).bind (fun rr => oS l0 rr cN i6)

noncomputable def jM (l0 : (List aC)) (cN : (List (List aF))) (out4 : List aN) (i6 : Int) : Option ((List aN × Int) ⊕ ((List aN) ⊕ ((List aN) × Int))) :=
  cond (decide (i6 < ((List.length cN : Nat) : Int)))
  (bI (0 ≤ i6 ∧ i6 < ((List.length cN : Nat) : Int)) <|
  (oZ l0 (List.getD cN (Int.toNat i6) default)).bind fun x19 =>
  (uK x19).bind fun x22 =>
  cond (!decide (x22.2 = (0 : Int)))
  (some (.inr (.inr ([], x22.2))))
  (rH l0 out4 cN i6 x22.1 (0 : Int)))
  (some (.inr (.inl out4)))

noncomputable def vH (l0 : (List aC)) (out4 : List aN) (cN : (List (List aF))) (i6 : Int) : Option ((List aN) × Int) :=
  (lp (fun s => jM l0 cN s.1 s.2) (out4, i6)).bind (Sum.elim (fun rr => rG rr) (fun rr => some (rr.1, rr.2)))

noncomputable def sG (l0 : (List aC)) : Option ((List aN) × Int) :=
  (uW l0).bind fun x1 =>
  cond (!x1)
  (some ([], (2 : Int)))
  ((tU l0).bind fun x5 =>
  cond (!x5)
  (some ([], (20 : Int)))
  ((qC l0).bind fun x9 =>
  vH l0 ([] : List aN) x9 (0 : Int)))

noncomputable def uH  : Option Bool :=
  some true

noncomputable def rB (a0 : (List aC)) (b1 : (List aC)) (i5 : Int) : Option ((Int) ⊕ (Unit ⊕ Bool)) :=
  cond (decide (i5 < ((List.length a0 : Nat) : Int)))
  (bI (0 ≤ i5 ∧ i5 < ((List.length a0 : Nat) : Int)) <|
  bI (0 ≤ i5 ∧ i5 < ((List.length b1 : Nat) : Int)) <|
  bI ((((!(!decide (((List.getD a0 (Int.toNat i5) default).At) = ((List.getD b1 (Int.toNat i5) default).At))))) = true → 0 ≤ i5 ∧ i5 < ((List.length a0 : Nat) : Int))) <|
  bI ((((!(!decide (((List.getD a0 (Int.toNat i5) default).At) = ((List.getD b1 (Int.toNat i5) default).At))))) = true → 0 ≤ i5 ∧ i5 < ((List.length b1 : Nat) : Int))) <|
  bI ((((!((!decide (((List.getD a0 (Int.toNat i5) default).At) = ((List.getD b1 (Int.toNat i5) default).At))) || (!decide (((List.getD a0 (Int.toNat i5) default).Net) = ((List.getD b1 (Int.toNat i5) default).Net)))))) = true → 0 ≤ i5 ∧ i5 < ((List.length a0 : Nat) : Int))) <|
  bI ((((!((!decide (((List.getD a0 (Int.toNat i5) default).At) = ((List.getD b1 (Int.toNat i5) default).At))) || (!decide (((List.getD a0 (Int.toNat i5) default).Net) = ((List.getD b1 (Int.toNat i5) default).Net)))))) = true → 0 ≤ i5 ∧ i5 < ((List.length b1 : Nat) : Int))) <|
  (cO (!((!decide (((List.getD a0 (Int.toNat i5) default).At) = ((List.getD b1 (Int.toNat i5) default).At))) || (!decide (((List.getD a0 (Int.toNat i5) default).Net) = ((List.getD b1 (Int.toNat i5) default).Net))))) (oN ((List.getD a0 (Int.toNat i5) default).Row) ((List.getD b1 (Int.toNat i5) default).Row))).bind fun x9 =>
  cond (((!decide (((List.getD a0 (Int.toNat i5) default).At) = ((List.getD b1 (Int.toNat i5) default).At))) || (!decide (((List.getD a0 (Int.toNat i5) default).Net) = ((List.getD b1 (Int.toNat i5) default).Net)))) || (!x9))
  (some (.inr (.inr false)))
  (some (.inl (IntKind.i64.wrap (i5 + (1 : Int))))))
  (some (.inr (.inl ())))

noncomputable def yX (a0 : (List aC)) (b1 : (List aC)) (i5 : Int) : Option Bool :=
  (lp (fun s => rB a0 b1 s) i5).bind (Sum.elim (fun rr => uH ) (fun rr => some rr))

noncomputable def wI (a0 : (List aC)) (b1 : (List aC)) : Option Bool :=
  cond (!decide (((List.length a0 : Nat) : Int) = ((List.length b1 : Nat) : Int)))
  (some false)
  (yX a0 b1 (0 : Int))

noncomputable def rE (l0 : (List aC)) : Option Bool :=
  (BV ((List.length l0 : Nat) : Int)).bind fun x1 =>
  cond (!x1)
  ((qJ ).bind fun x5 =>
  some x5)
  ((qW l0).bind fun x8 =>
  (sG l0).bind fun x11 =>
  (cO (!(!decide (x8.2 = x11.2))) (qH x8.1 x11.1)).bind fun x14 =>
  cond ((!decide (x8.2 = x11.2)) || (!x14))
  (some false)
  (cond (!decide (x8.2 = (0 : Int)))
  ((qJ ).bind fun x19 =>
  some x19)
  ((sZ x8.1).bind fun x22 =>
  (qJ ).bind fun x25 =>
  (cO (x25 && (decide (x22.2 = (0 : Int)))) (wI x22.1 l0)).bind fun x28 =>
  some ((x25 && (decide (x22.2 = (0 : Int)))) && x28))))

end Go.Abs
namespace Go.Abs
open Go Go.RowKit
def ED (x : aF) : Prop := DX x.Kind ∧ DX x.Num ∧ (fun s => s.size ≤ maxLen) x.Text ∧ True

def yM (x : aC) : Prop := (fun l => (∀ a ∈ l, ED a) ∧ l.length * 32 ≤ 140737488351232) x.Row ∧ DX x.At ∧ DX x.Net ∧ True

end Go.Abs
namespace Go.Abs
open Go Go.RowKit Go.Proofs
noncomputable def tt : TT := ⟨ZF Tryz.prog, TM Tryz.prog⟩

theorem aG : eS Tryz.prog tt := eS.of Tryz.prog

theorem VY (n0 : Int) (r : Bool) (h0 : BV n0 = some r) : bY Tryz.prog 5 [(eI n0)] (aK r) := by
  intro H0
  refine cG Tryz.func5 ?_
  have hO := aM.start H0
  unfold BV at h0
  refine aZ aG 1 [] [] ?_
  refine bU aG 3 [(2, (aK (decide (n0 ≤ (60 : Int)))))] ?_
  refine bK ?_
  obtain rfl := oI h0
  exact aJ (Q_r hO)

theorem oH (oU : Int) (to1 : Int) (r : aN) (h0 : jU oU to1 = some r) : bY Tryz.prog 18 [(eI oU), (eI to1)] (aL r) := by
  intro H0
  refine GI aG Tryz.func18 (by kernel_rfl) (by kernel_rfl) (by kernel_rfl) ?_
  have hO := aM.start H0
  unfold jU at h0
  refine aP ?_
  refine aU aG 1 ?_
  refine tG 3 (.agg [(.sl true 0 (fun _ => .bad)), (eI 0), (eI 0)]) (aL (aN.mk ([]) (aR.mk 0 0))) (by kernel_rfl) (by kernel_rfl) (by kernel_rfl) (JG (xs := [(.sl true 0 (fun _ => .bad)), (eI 0), (eI 0)]) (ys := [(eL aH ([])), (eI 0), (eI 0)]) ⟨eD, aV.refl _, aV.refl _, trivial⟩) (by kernel_rfl) (by kernel_rfl) hO ?_
  intro lo1 H hO
  refine cQ ?_
  refine bV [] [(4, (.lp lo1 0 0))] ?_
  refine aP ?_
  refine aU aG 7 ?_
  refine bS 1 ?_
  refine nP (xs := [(aH (aF.mk (1 : Int) (1 : Int) ByteArray.empty))]) (k := 3) (by kernel_rfl) (by kernel_rfl) ?_
  refine bS 6 ?_
  refine jP 0 lo1 3 0 (aL (aN.mk ([]) (aR.mk 0 0))) (.agg [(dH [(aH (aF.mk (1 : Int) (1 : Int) ByteArray.empty))]), (eI ((aR.mk oU to1).From)), (eI ((aR.mk oU to1).To))]) [(aL (aN.mk ([]) (aR.mk 0 0)))] [(lo1, 3, [(.agg [(dH [(aH (aF.mk (1 : Int) (1 : Int) ByteArray.empty))]), (eI ((aR.mk oU to1).From)), (eI ((aR.mk oU to1).To))])])] hO rfl (by kernel_rfl) ?_
  intro H hO
  refine cQ ?_
  refine LP 0 lo1 3 (.agg [(dH [(aH (aF.mk (1 : Int) (1 : Int) ByteArray.empty))]), (eI ((aR.mk oU to1).From)), (eI ((aR.mk oU to1).To))]) (aL (aN.mk ([aF.mk (1 : Int) (1 : Int) ByteArray.empty]) (aR.mk oU to1))) [(lo1, 3, [(aL (aN.mk ([aF.mk (1 : Int) (1 : Int) ByteArray.empty]) (aR.mk oU to1)))])] hO (by kernel_rfl) (by kernel_rfl) (JG (xs := [(dH [(aH (aF.mk (1 : Int) (1 : Int) ByteArray.empty))]), (eI ((aR.mk oU to1).From)), (eI ((aR.mk oU to1).To))]) (ys := [(eL aH ([aF.mk (1 : Int) (1 : Int) ByteArray.empty])), (eI ((aR.mk oU to1).From)), (eI ((aR.mk oU to1).To))]) ⟨DV (l := [aF.mk (1 : Int) (1 : Int) ByteArray.empty]), aV.refl _, aV.refl _, trivial⟩) (by kernel_rfl) ?_
  intro H hO
  refine bG [(4, (.lp lo1 0 0))] ?_
  refine bK ?_
  obtain rfl := oI h0
  exact aJ (QM0 (.inr rfl) (rs := [.cell 4 43]) (xs := [(aL (aN.mk ([aF.mk (1 : Int) (1 : Int) ByteArray.empty]) (aR.mk oU to1)))]) (x := (aL (aN.mk ([aF.mk (1 : Int) (1 : Int) ByteArray.empty]) (aR.mk oU to1)))) (by kernel_rfl) (zT (lo := lo1) (k := 3) (y := (aL (aN.mk ([aF.mk (1 : Int) (1 : Int) ByteArray.empty]) (aR.mk oU to1)))) (x := (aL (aN.mk ([aF.mk (1 : Int) (1 : Int) ByteArray.empty]) (aR.mk oU to1)))) 0 hO (by kernel_rfl) (by kernel_rfl) (by kernel_rfl) (by kernel_rfl) sJ) (by kernel_rfl) ⟨rfl, hO.out⟩)

theorem vB (s0 : (List aN)) (f1_f : Nat) (f1_a f1_c : List V) (f1 : aN → Option Bool) (f1_h : ∀ a0 r, f1 a0 = some r → bY Tryz.prog f1_f (f1_a ++ [(aL a0)] ++ f1_c) (aK r)) (r : Int) (h0 : fF s0 f1 = some r) : bY Tryz.prog 53 [(eL aL s0), (.fn (.func f1_f) f1_a f1_c)] (eI r) := by
  intro H0
  refine cG Tryz.func53 ?_
  have hO := aM.start H0
  unfold fF at h0
  refine aZ aG 1 [] [] ?_
  refine cR (fun T H => Has T [] ∧ aM ⟨H0, [], []⟩ H [] ∧ dN f1  = some r) ?_ ?_
  · clear hO h0
    rintro T H ⟨hT, hO, h0⟩
    refine bB hT ?_
    clear hT
    unfold dN at h0
    refine bU aG 1 [(4, (eI (-1 : Int)))] ?_
    refine bK ?_
    obtain rfl := oI h0
    exact aJ (Q_r hO)
  refine aZ aG 3 [] [(7, (eI (lN s0))), (8, (eI (0 : Int)))] ?_
  refine bT 0 ?_
  refine cT [(0, (eL aL s0)), (1, (.fn (.func f1_f) f1_a f1_c)), (7, (eI (lN s0))), (8, (eI (0 : Int)))] ?_
  refine cH (fun T H => ∃ t7 : Int, ∃ t8 : Int, Has T [(0, (eL aL s0)), (1, (.fn (.func f1_f) f1_a f1_c)), (7, (eI t7)), (8, (eI t8))] ∧ aM ⟨H0, [], []⟩ H [] ∧ eV f1 s0 t7 t8 = some r) ?_ ⟨(lN s0), (0 : Int), .eq (by kernel_rfl), hO, h0⟩
  clear hO h0
  rintro T H ⟨t7, t8, hT, hO, h0⟩
  refine bB hT ?_
  clear hT
  unfold eV at h0
  obtain ⟨rr0, hl0, h0⟩ := aX h0
  refine bZ (by kernel_rfl) (fun (s : Int) T H => Has T [(0, (eL aL s0)), (1, (.fn (.func f1_f) f1_a f1_c)), (7, (eI t7)), (8, (eI s))] ∧ aM ⟨H0, [], []⟩ H []) hl0 ⟨.eq (by kernel_rfl), hO⟩ ?_
  clear hO
  rintro k0 s out1 T H ⟨hT, hO⟩ h1 ho0
  obtain ⟨t8, rfl⟩ : ∃ x, x = s := ⟨_, rfl⟩
  replace h1 : eW f1 s0 t7 t8 = some out1 := h1
  refine bB hT ?_
  clear hT
  unfold eW at h1
  refine aZ aG 1 [] [(9, (aK (decide (t8 < t7))))] ?_
  refine aP ?_
  refine bJ h1 (fun h1 => ?_) (fun h1 => ?_)
  · refine bL ?_
    refine bG [(0, (eL aL s0)), (1, (.fn (.func f1_f) f1_a f1_c)), (7, (eI t7)), (8, (eI t8))] ?_
    refine aP ?_
    refine bT 1 ?_
    refine aZ aG 2 [] [(5, (eI t8))] ?_
    refine aP ?_
    refine aU aG 6 ?_
    obtain ⟨c2, h1⟩ := bH h1
    refine mA 5 [0 ≤ t8 ∧ t8 < (lN s0)] ⟨c2, trivial⟩ ?_
    obtain ⟨x3, hx4, h1⟩ := aX h1
    refine cF (f1_h (gD s0 t8) _ hx4) hO ?_
    intro H hO
    refine cQ ?_
    refine bV [] [(16, (aK x3))] ?_
    refine bJ h1 (fun h1 => ?_) (fun h1 => ?_)
    · refine bU aG 2 [(4, (eI t8))] ?_
      refine bK ?_
      obtain rfl := oI h1
      obtain rfl : _ = rr0 := ho0
      replace h0 : some t8 = some r := h0
      obtain rfl := oI h0
      exact aJ (bR (aS (aS (bR (aS (Q_r hO))))))
    refine bL ?_
    refine cX [(0, (eL aL s0)), (1, (.fn (.func f1_f) f1_a f1_c)), (7, (eI t7)), (8, (eI t8))] ?_
    refine aJ (aW (aI (?_)))
    refine aU aG 2 ?_
    refine bF ?_
    exact aJ (aI (⟨rfl, _, (oI h1).symm, .eq (by kernel_rfl), hO⟩))
  refine cY 0 ?_
  obtain rfl := oI h1
  obtain rfl : _ = rr0 := ho0
  replace h0 : dN f1  = some r := h0
  exact aJ (aT (aT (bO (aI (⟨rfl, .eq (by kernel_rfl), hO, h0⟩)))))

theorem tB (s0 : (List aN)) (f1_f : Nat) (f1_a f1_c : List V) (f1 : aN → Option Bool) (f1_h : ∀ a0 r, f1 a0 = some r → bY Tryz.prog f1_f (f1_a ++ [(aL a0)] ++ f1_c) (aK r)) (r : Bool) (h0 : dJ s0 f1 = some r) : bY Tryz.prog 31 [(eL aL s0), (.fn (.func f1_f) f1_a f1_c)] (aK r) := by
  intro H0
  refine cG Tryz.func31 ?_
  have hO := aM.start H0
  unfold dJ at h0
  refine aZ aG 1 [] [] ?_
  refine aP ?_
  refine aU aG 5 ?_
  refine bS 2 ?_
  obtain ⟨x1, hx2, h0⟩ := aX h0
  refine cF (vB s0 f1_f f1_a f1_c f1 f1_h _ hx2) hO ?_
  intro H hO
  refine bF ?_
  refine bG [(4, (aK (decide ((0 : Int) ≤ x1))))] ?_
  refine bK ?_
  obtain rfl := oI h0
  exact aJ (Q_r hO)

theorem wD (s0 : (List aF)) (f1_f : Nat) (f1_a f1_c : List V) (f1 : aF → Option Bool) (f1_h : ∀ a0 r, f1 a0 = some r → bY Tryz.prog f1_f (f1_a ++ [(aH a0)] ++ f1_c) (aK r)) (r : Int) (h0 : fT s0 f1 = some r) : bY Tryz.prog 80 [(eL aH s0), (.fn (.func f1_f) f1_a f1_c)] (eI r) := by
  intro H0
  refine cG Tryz.func80 ?_
  have hO := aM.start H0
  unfold fT at h0
  refine aZ aG 1 [] [] ?_
  refine cR (fun T H => Has T [] ∧ aM ⟨H0, [], []⟩ H [] ∧ dZ f1  = some r) ?_ ?_
  · clear hO h0
    rintro T H ⟨hT, hO, h0⟩
    refine bB hT ?_
    clear hT
    unfold dZ at h0
    refine bU aG 1 [(4, (eI (-1 : Int)))] ?_
    refine bK ?_
    obtain rfl := oI h0
    exact aJ (Q_r hO)
  refine aZ aG 3 [] [(7, (eI (lN s0))), (8, (eI (0 : Int)))] ?_
  refine bT 0 ?_
  refine cT [(0, (eL aH s0)), (1, (.fn (.func f1_f) f1_a f1_c)), (7, (eI (lN s0))), (8, (eI (0 : Int)))] ?_
  refine cH (fun T H => ∃ t7 : Int, ∃ t8 : Int, Has T [(0, (eL aH s0)), (1, (.fn (.func f1_f) f1_a f1_c)), (7, (eI t7)), (8, (eI t8))] ∧ aM ⟨H0, [], []⟩ H [] ∧ fL f1 s0 t7 t8 = some r) ?_ ⟨(lN s0), (0 : Int), .eq (by kernel_rfl), hO, h0⟩
  clear hO h0
  rintro T H ⟨t7, t8, hT, hO, h0⟩
  refine bB hT ?_
  clear hT
  unfold fL at h0
  obtain ⟨rr0, hl0, h0⟩ := aX h0
  refine bZ (by kernel_rfl) (fun (s : Int) T H => Has T [(0, (eL aH s0)), (1, (.fn (.func f1_f) f1_a f1_c)), (7, (eI t7)), (8, (eI s))] ∧ aM ⟨H0, [], []⟩ H []) hl0 ⟨.eq (by kernel_rfl), hO⟩ ?_
  clear hO
  rintro k0 s out1 T H ⟨hT, hO⟩ h1 ho0
  obtain ⟨t8, rfl⟩ : ∃ x, x = s := ⟨_, rfl⟩
  replace h1 : fN f1 s0 t7 t8 = some out1 := h1
  refine bB hT ?_
  clear hT
  unfold fN at h1
  refine aZ aG 1 [] [(9, (aK (decide (t8 < t7))))] ?_
  refine aP ?_
  refine bJ h1 (fun h1 => ?_) (fun h1 => ?_)
  · refine bL ?_
    refine bG [(0, (eL aH s0)), (1, (.fn (.func f1_f) f1_a f1_c)), (7, (eI t7)), (8, (eI t8))] ?_
    refine aP ?_
    refine bT 1 ?_
    refine aZ aG 2 [] [(5, (eI t8))] ?_
    refine aP ?_
    refine aU aG 6 ?_
    obtain ⟨c2, h1⟩ := bH h1
    refine mA 5 [0 ≤ t8 ∧ t8 < (lN s0)] ⟨c2, trivial⟩ ?_
    obtain ⟨x3, hx4, h1⟩ := aX h1
    refine cF (f1_h (gD s0 t8) _ hx4) hO ?_
    intro H hO
    refine cQ ?_
    refine bV [] [(16, (aK x3))] ?_
    refine bJ h1 (fun h1 => ?_) (fun h1 => ?_)
    · refine bU aG 2 [(4, (eI t8))] ?_
      refine bK ?_
      obtain rfl := oI h1
      obtain rfl : _ = rr0 := ho0
      replace h0 : some t8 = some r := h0
      obtain rfl := oI h0
      exact aJ (bR (aS (aS (bR (aS (Q_r hO))))))
    refine bL ?_
    refine cX [(0, (eL aH s0)), (1, (.fn (.func f1_f) f1_a f1_c)), (7, (eI t7)), (8, (eI t8))] ?_
    refine aJ (aW (aI (?_)))
    refine aU aG 2 ?_
    refine bF ?_
    exact aJ (aI (⟨rfl, _, (oI h1).symm, .eq (by kernel_rfl), hO⟩))
  refine cY 0 ?_
  obtain rfl := oI h1
  obtain rfl : _ = rr0 := ho0
  replace h0 : dZ f1  = some r := h0
  exact aJ (aT (aT (bO (aI (⟨rfl, .eq (by kernel_rfl), hO, h0⟩)))))

theorem tX (s0 : (List aF)) (f1_f : Nat) (f1_a f1_c : List V) (f1 : aF → Option Bool) (f1_h : ∀ a0 r, f1 a0 = some r → bY Tryz.prog f1_f (f1_a ++ [(aH a0)] ++ f1_c) (aK r)) (r : Bool) (h0 : dO s0 f1 = some r) : bY Tryz.prog 68 [(eL aH s0), (.fn (.func f1_f) f1_a f1_c)] (aK r) := by
  intro H0
  refine cG Tryz.func68 ?_
  have hO := aM.start H0
  unfold dO at h0
  refine aZ aG 1 [] [] ?_
  refine aP ?_
  refine aU aG 5 ?_
  refine bS 2 ?_
  obtain ⟨x1, hx2, h0⟩ := aX h0
  refine cF (wD s0 f1_f f1_a f1_c f1 f1_h _ hx2) hO ?_
  intro H hO
  refine bF ?_
  refine bG [(4, (aK (decide ((0 : Int) ≤ x1))))] ?_
  refine bK ?_
  obtain rfl := oI h0
  exact aJ (Q_r hO)

theorem BE (v0 : aF) (r : (bQ × Bool)) (h0 : lX v0 = some r) : bY Tryz.prog 95 [(aH v0)] (.tup [(bM r.1), (aK r.2)]) := by
  intro H0
  refine cG Tryz.func95 ?_
  have hO := aM.start H0
  unfold lX at h0
  refine aP ?_
  refine aU aG 3 ?_
  refine fS 3 (aH v0) (by kernel_rfl) (by kernel_rfl) ?_
  refine bF ?_
  refine bG [(1, (.rp (aH v0)))] ?_
  refine aP ?_
  refine bT 0 ?_
  refine aZ aG 9 [] [(4, (aK ((decide (v0.Kind = (1 : Int))) && (oJ v0.Text (⟨#[]⟩ : ByteArray)))))] ?_
  refine bJ h0 (fun h0 => ?_) (fun h0 => ?_)
  · refine bU aG 5 [(2, (bM (bQ.k_number v0.Num))), (3, (aK true))] ?_
    refine bK ?_
    obtain rfl := oI h0
    exact aJ (bR (aS (Q_r hO)))
  refine aZ aG 15 [4] [(16, (aK (((decide (v0.Kind = (2 : Int))) && (decide (v0.Num = (0 : Int)))) && (decide (((ByteArray.size v0.Text : Nat) : Int) ≤ (64 : Int))))))] ?_
  refine bJ h0 (fun h0 => ?_) (fun h0 => ?_)
  · refine bU aG 5 [(2, (bM (bQ.k_words v0.Text))), (3, (aK true))] ?_
    refine bK ?_
    obtain rfl := oI h0
    exact aJ (bR (aS (Q_r hO)))
  refine bL ?_
  refine cX [] ?_
  refine aJ (aW (aI (?_)))
  refine bU aG 2 [(2, (bM bQ.none_)), (3, (aK false))] ?_
  refine bK ?_
  obtain rfl := oI h0
  exact aJ (Q_r hO)

theorem WY (v0 : aF) (r : Bool) (h0 : yD v0 = some r) : bY Tryz.prog 70 [(aH v0)] (aK r) := by
  intro H0
  refine cG Tryz.func70 ?_
  have hO := aM.start H0
  unfold yD at h0
  refine aP ?_
  refine aU aG 2 ?_
  refine fS 3 (aH v0) (by kernel_rfl) (by kernel_rfl) ?_
  refine bF ?_
  refine bG [(1, (.rp (aH v0)))] ?_
  refine aP ?_
  refine aU aG 7 ?_
  refine bS 1 ?_
  obtain ⟨⟨x1_0, x1_1⟩, hx2, h0⟩ := aX h0
  refine cF (BE v0 _ hx2) hO ?_
  intro H hO
  rcases x1_0 with _ | y4 | y5
  · replace h0 : (some x1_1) = some r := h0
    refine bF ?_
    refine bG [(4, (aK x1_1))] ?_
    refine bU aG 2 [(2, (aK x1_1))] ?_
    refine bK ?_
    obtain rfl := oI h0
    exact aJ (Q_r hO)
  · replace h0 : (some x1_1) = some r := h0
    refine bF ?_
    refine bG [(4, (aK x1_1))] ?_
    refine bU aG 2 [(2, (aK x1_1))] ?_
    refine bK ?_
    obtain rfl := oI h0
    exact aJ (Q_r hO)
  · replace h0 : (some x1_1) = some r := h0
    refine bF ?_
    refine bG [(4, (aK x1_1))] ?_
    refine bU aG 2 [(2, (aK x1_1))] ?_
    refine bK ?_
    obtain rfl := oI h0
    exact aJ (Q_r hO)

theorem VQ (v0 : aF) (r : Bool) (h0 : yH v0 = some r) : bY Tryz.prog 69 [(aH v0)] (aK r) := by
  intro H0
  refine cG Tryz.func69 ?_
  have hO := aM.start H0
  unfold yH at h0
  refine aP ?_
  refine aU aG 2 ?_
  refine fS 3 (aH v0) (by kernel_rfl) (by kernel_rfl) ?_
  refine bF ?_
  refine bG [(1, (.rp (aH v0)))] ?_
  refine aP ?_
  refine aU aG 4 ?_
  refine bS 1 ?_
  obtain ⟨x1, hx2, h0⟩ := aX h0
  refine cF (WY v0 _ hx2) hO ?_
  intro H hO
  refine bF ?_
  refine bG [(2, (aK (!x1)))] ?_
  refine bK ?_
  obtain rfl := oI h0
  exact aJ (Q_r hO)

theorem CG (r0 : (List aF)) (r : Bool) (h0 : rC r0 = some r) : bY Tryz.prog 35 [(eL aH r0)] (aK r) := by
  intro H0
  refine cG Tryz.func35 ?_
  have hO := aM.start H0
  unfold rC at h0
  refine aZ aG 1 [] [] ?_
  refine aP ?_
  refine aZ aG 3 [] [(5, (aK (decide ((8 : Int) < (lN r0)))))] ?_
  refine bJ h0 (fun h0 => ?_) (fun h0 => ?_)
  · refine bU aG 1 [(2, (aK false))] ?_
    refine bK ?_
    obtain rfl := oI h0
    exact aJ (aS (Q_r hO))
  refine bL ?_
  refine bG [(0, (eL aH r0))] ?_
  refine aP ?_
  refine aU aG 4 ?_
  refine bS 1 ?_
  obtain ⟨x2, hx3, h0⟩ := aX h0
  refine cF (tX r0 69 [] [] (fun y0 => yH y0) (fun y0 r h => VQ y0 r h) _ hx3) hO ?_
  intro H hO
  refine bF ?_
  refine bG [(2, (aK (!x2)))] ?_
  refine bK ?_
  obtain rfl := oI h0
  exact aJ (Q_r hO)

theorem LJ (t0 : Int) (r : Bool) (h0 : yL t0 = some r) : bY Tryz.prog 96 [(eI t0)] (aK r) := by
  intro H0
  refine cG Tryz.func96 ?_
  have hO := aM.start H0
  unfold yL at h0
  refine aZ aG 1 [] [] ?_
  refine bU aG 7 [(2, (aK ((decide ((0 : Int) ≤ t0)) && (decide (t0 ≤ (1125899906842624 : Int))))))] ?_
  refine bK ?_
  obtain rfl := oI h0
  exact aJ (Q_r hO)

theorem YP (s0 : aR) (r : Bool) (h0 : BC s0 = some r) : bY Tryz.prog 71 [(bE s0)] (aK r) := by
  intro H0
  refine cG Tryz.func71 ?_
  have hO := aM.start H0
  unfold BC at h0
  refine aP ?_
  refine aU aG 2 ?_
  refine fS 2 (bE s0) (by kernel_rfl) (by kernel_rfl) ?_
  refine bF ?_
  refine bG [(1, (.rp (bE s0)))] ?_
  refine aP ?_
  refine aU aG 16 ?_
  refine bS 2 ?_
  obtain ⟨x1, hx2, h0⟩ := aX h0
  refine cF (LJ s0.From _ hx2) hO ?_
  intro H hO
  refine bS 6 ?_
  obtain ⟨x4, hx5, h0⟩ := aX h0
  refine gI [(6, true)] 96 [(eI s0.To)] (aK x4) x1 (by kernel_rfl) (by kernel_rfl) (by kernel_rfl) (fun hb6 => (LJ s0.To _ (fW hx5 hb6))) hO ?_
  intro H hO
  refine bF ?_
  refine bG [(2, (aK ((x1 && x4) && (decide (s0.From < s0.To)))))] ?_
  refine bK ?_
  obtain rfl := oI h0
  exact aJ (Q_r hO)

theorem WT (s0 : aR) (r : Bool) (h0 : CA s0 = some r) : bY Tryz.prog 36 [(bE s0)] (aK r) := by
  intro H0
  refine cG Tryz.func36 ?_
  have hO := aM.start H0
  unfold CA at h0
  refine aP ?_
  refine aU aG 2 ?_
  refine fS 2 (bE s0) (by kernel_rfl) (by kernel_rfl) ?_
  refine bF ?_
  refine bG [(1, (.rp (bE s0)))] ?_
  refine aP ?_
  refine aU aG 18 ?_
  refine bS 1 ?_
  obtain ⟨x1, hx2, h0⟩ := aX h0
  refine cF (YP s0 _ hx2) hO ?_
  intro H hO
  refine bF ?_
  refine bG [(2, (aK (x1 || (((decide (s0.From = (-1 : Int))) && (decide ((0 : Int) ≤ s0.To))) && (decide (s0.To ≤ (1125899906842624 : Int)))))))] ?_
  refine bK ?_
  obtain rfl := oI h0
  exact aJ (Q_r hO)

theorem HK (p0 : aN) (r : Bool) (h0 : tL p0 = some r) : bY Tryz.prog 15 [(aL p0)] (aK r) := by
  intro H0
  refine cG Tryz.func15 ?_
  have hO := aM.start H0
  unfold tL at h0
  refine aP ?_
  refine aU aG 2 ?_
  refine fS 3 (aL p0) (by kernel_rfl) (by kernel_rfl) ?_
  refine bF ?_
  refine bG [(1, (.rp (aL p0)))] ?_
  refine aP ?_
  refine aU aG 9 ?_
  refine bS 2 ?_
  obtain ⟨x1, hx2, h0⟩ := aX h0
  refine cF (CG p0.Row _ hx2) hO ?_
  intro H hO
  refine bS 6 ?_
  obtain ⟨x4, hx5, h0⟩ := aX h0
  refine gI [(6, true)] 36 [(bE p0.Span)] (aK x4) x1 (by kernel_rfl) (by kernel_rfl) (by kernel_rfl) (fun hb6 => (WT p0.Span _ (fW hx5 hb6))) hO ?_
  intro H hO
  refine bF ?_
  refine bG [(2, (aK (x1 && x4)))] ?_
  refine bK ?_
  obtain rfl := oI h0
  exact aJ (Q_r hO)

theorem OU (p0 : aN) (r : Bool) (h0 : sN p0 = some r) : bY Tryz.prog 32 [(aL p0)] (aK r) := by
  intro H0
  refine cG Tryz.func32 ?_
  have hO := aM.start H0
  unfold sN at h0
  refine aP ?_
  refine aU aG 2 ?_
  refine fS 3 (aL p0) (by kernel_rfl) (by kernel_rfl) ?_
  refine bF ?_
  refine bG [(1, (.rp (aL p0)))] ?_
  refine aP ?_
  refine aU aG 4 ?_
  refine bS 1 ?_
  obtain ⟨x1, hx2, h0⟩ := aX h0
  refine cF (HK p0 _ hx2) hO ?_
  intro H hO
  refine bF ?_
  refine bG [(2, (aK (!x1)))] ?_
  refine bK ?_
  obtain rfl := oI h0
  exact aJ (Q_r hO)

theorem wG (s0 : (List aC)) (f1_f : Nat) (f1_a f1_c : List V) (f1 : aC → Option Bool) (f1_h : ∀ a0 r, f1 a0 = some r → bY Tryz.prog f1_f (f1_a ++ [(aE a0)] ++ f1_c) (aK r)) (r : Int) (h0 : fV s0 f1 = some r) : bY Tryz.prog 78 [(eL aE s0), (.fn (.func f1_f) f1_a f1_c)] (eI r) := by
  intro H0
  refine cG Tryz.func78 ?_
  have hO := aM.start H0
  unfold fV at h0
  refine aZ aG 1 [] [] ?_
  refine cR (fun T H => Has T [] ∧ aM ⟨H0, [], []⟩ H [] ∧ dX f1  = some r) ?_ ?_
  · clear hO h0
    rintro T H ⟨hT, hO, h0⟩
    refine bB hT ?_
    clear hT
    unfold dX at h0
    refine bU aG 1 [(4, (eI (-1 : Int)))] ?_
    refine bK ?_
    obtain rfl := oI h0
    exact aJ (Q_r hO)
  refine aZ aG 3 [] [(7, (eI (lN s0))), (8, (eI (0 : Int)))] ?_
  refine bT 0 ?_
  refine cT [(0, (eL aE s0)), (1, (.fn (.func f1_f) f1_a f1_c)), (7, (eI (lN s0))), (8, (eI (0 : Int)))] ?_
  refine cH (fun T H => ∃ t7 : Int, ∃ t8 : Int, Has T [(0, (eL aE s0)), (1, (.fn (.func f1_f) f1_a f1_c)), (7, (eI t7)), (8, (eI t8))] ∧ aM ⟨H0, [], []⟩ H [] ∧ fO f1 s0 t7 t8 = some r) ?_ ⟨(lN s0), (0 : Int), .eq (by kernel_rfl), hO, h0⟩
  clear hO h0
  rintro T H ⟨t7, t8, hT, hO, h0⟩
  refine bB hT ?_
  clear hT
  unfold fO at h0
  obtain ⟨rr0, hl0, h0⟩ := aX h0
  refine bZ (by kernel_rfl) (fun (s : Int) T H => Has T [(0, (eL aE s0)), (1, (.fn (.func f1_f) f1_a f1_c)), (7, (eI t7)), (8, (eI s))] ∧ aM ⟨H0, [], []⟩ H []) hl0 ⟨.eq (by kernel_rfl), hO⟩ ?_
  clear hO
  rintro k0 s out1 T H ⟨hT, hO⟩ h1 ho0
  obtain ⟨t8, rfl⟩ : ∃ x, x = s := ⟨_, rfl⟩
  replace h1 : fM f1 s0 t7 t8 = some out1 := h1
  refine bB hT ?_
  clear hT
  unfold fM at h1
  refine aZ aG 1 [] [(9, (aK (decide (t8 < t7))))] ?_
  refine aP ?_
  refine bJ h1 (fun h1 => ?_) (fun h1 => ?_)
  · refine bL ?_
    refine bG [(0, (eL aE s0)), (1, (.fn (.func f1_f) f1_a f1_c)), (7, (eI t7)), (8, (eI t8))] ?_
    refine aP ?_
    refine bT 1 ?_
    refine aZ aG 2 [] [(5, (eI t8))] ?_
    refine aP ?_
    refine aU aG 6 ?_
    obtain ⟨c2, h1⟩ := bH h1
    refine mA 5 [0 ≤ t8 ∧ t8 < (lN s0)] ⟨c2, trivial⟩ ?_
    obtain ⟨x3, hx4, h1⟩ := aX h1
    refine cF (f1_h (gD s0 t8) _ hx4) hO ?_
    intro H hO
    refine cQ ?_
    refine bV [] [(16, (aK x3))] ?_
    refine bJ h1 (fun h1 => ?_) (fun h1 => ?_)
    · refine bU aG 2 [(4, (eI t8))] ?_
      refine bK ?_
      obtain rfl := oI h1
      obtain rfl : _ = rr0 := ho0
      replace h0 : some t8 = some r := h0
      obtain rfl := oI h0
      exact aJ (bR (aS (aS (bR (aS (Q_r hO))))))
    refine bL ?_
    refine cX [(0, (eL aE s0)), (1, (.fn (.func f1_f) f1_a f1_c)), (7, (eI t7)), (8, (eI t8))] ?_
    refine aJ (aW (aI (?_)))
    refine aU aG 2 ?_
    refine bF ?_
    exact aJ (aI (⟨rfl, _, (oI h1).symm, .eq (by kernel_rfl), hO⟩))
  refine cY 0 ?_
  obtain rfl := oI h1
  obtain rfl : _ = rr0 := ho0
  replace h0 : dX f1  = some r := h0
  exact aJ (aT (aT (bO (aI (⟨rfl, .eq (by kernel_rfl), hO, h0⟩)))))

theorem nH (s0 : (List aC)) (f1_f : Nat) (f1_a f1_c : List V) (f1 : aC → Option Bool) (f1_h : ∀ a0 r, f1 a0 = some r → bY Tryz.prog f1_f (f1_a ++ [(aE a0)] ++ f1_c) (aK r)) (r : Bool) (h0 : dB s0 f1 = some r) : bY Tryz.prog 54 [(eL aE s0), (.fn (.func f1_f) f1_a f1_c)] (aK r) := by
  intro H0
  refine cG Tryz.func54 ?_
  have hO := aM.start H0
  unfold dB at h0
  refine aZ aG 1 [] [] ?_
  refine aP ?_
  refine aU aG 5 ?_
  refine bS 2 ?_
  obtain ⟨x1, hx2, h0⟩ := aX h0
  refine cF (wG s0 f1_f f1_a f1_c f1 f1_h _ hx2) hO ?_
  intro H hO
  refine bF ?_
  refine bG [(4, (aK (decide ((0 : Int) ≤ x1))))] ?_
  refine bK ?_
  obtain rfl := oI h0
  exact aJ (Q_r hO)

theorem RP (x0 : aC) (r : Bool) (h0 : uO x0 = some r) : bY Tryz.prog 55 [(aE x0)] (aK r) := by
  intro H0
  refine cG Tryz.func55 ?_
  have hO := aM.start H0
  unfold uO at h0
  refine aP ?_
  refine aU aG 2 ?_
  refine fS 3 (aE x0) (by kernel_rfl) (by kernel_rfl) ?_
  refine bF ?_
  refine bG [(1, (.rp (aE x0)))] ?_
  refine aP ?_
  refine aU aG 15 ?_
  refine bS 2 ?_
  obtain ⟨x1, hx2, h0⟩ := aX h0
  refine cF (CG x0.Row _ hx2) hO ?_
  intro H hO
  refine bF ?_
  refine bG [(2, (aK (((!x1) || (decide ((1048576 : Int) < x0.Net))) || (decide (x0.Net < (-1048576 : Int))))))] ?_
  refine bK ?_
  obtain rfl := oI h0
  exact aJ (Q_r hO)

theorem RL (x0 : aC) (r : Bool) (h0 : tW x0 = some r) : bY Tryz.prog 56 [(aE x0)] (aK r) := by
  intro H0
  refine cG Tryz.func56 ?_
  have hO := aM.start H0
  unfold tW at h0
  refine aP ?_
  refine aU aG 2 ?_
  refine fS 3 (aE x0) (by kernel_rfl) (by kernel_rfl) ?_
  refine bF ?_
  refine bG [(1, (.rp (aE x0)))] ?_
  refine bU aG 9 [(2, (aK ((decide (x0.At < (-1 : Int))) || (decide ((1125899906842624 : Int) < x0.At)))))] ?_
  refine bK ?_
  obtain rfl := oI h0
  exact aJ (Q_r hO)

theorem zP (s0 : (List aC)) (r : (List aC)) (h0 : fA s0 = some r) : DA Tryz.prog 57 [(eL aE s0)] (fun lo => (.msl 3 lo 0 (List.length r))) 3 (List.map aE r) := by
  intro H0
  refine cG Tryz.func57 ?_
  have hO := aM.start H0
  unfold fA at h0
  refine aZ aG 1 [] [] ?_
  refine aP ?_
  refine aP ?_
  refine aU aG 2 ?_
  refine bS 1 ?_
  refine aBZ false (List.length s0) (fun i => aE (List.getD s0 i default)) (by kernel_rfl) (by kernel_rfl) ?_
  intro b1 hn2
  refine cQ ?_
  refine bV [] [(4, (aK b1))] ?_
  refine oV (b1) (fun hc3 => ?_) (fun hc3 => ?_)
  · replace h0 : some ([] : List aC) = some r := by
      have hl := List.eq_nil_of_length_eq_zero (hn2 hc3)
      rw [hl] at h0
      exact (bH h0).2
    refine bU aG 1 [(2, (.sl true 0 (fun _ => .bad)))] ?_
    refine bK ?_
    refine cX [(2, (.sl true 0 (fun _ => .bad)))] ?_
    refine aAO (el := (fun _ => .bad)) 0 2 3 hO (by kernel_rfl) ?_
    intro lo4 H5 hO
    obtain rfl := oI h0
    exact aJ (aS (rK (x := (.msl 3 lo4 0 (List.length ([] : List aC)))) (by kernel_rfl) (aV.refl _) ⟨lo4, rfl, hO⟩))
  · refine bL ?_
    refine bG [(0, (eL aE s0))] ?_
    refine aP ?_
    refine aU aG 4 ?_
    refine nP (xs := []) (k := 3) (by kernel_rfl) (by kernel_rfl) ?_
    refine bS 2 ?_
    obtain ⟨c7, h0⟩ := bH h0
    refine OR (e := aE) s0 (fun _ => .bad) 3 40 (eL aE s0) (fun lo6 => [(lo6, 3, List.map aE s0)]) (by kernel_rfl) (by kernel_rfl) hO (KO (fun _ => by kernel_rfl)) c7 (fun _ => by kernel_rfl) ?_
    intro lo6 H hO
    refine bF ?_
    refine bG [(2, (.msl 3 lo6 0 (List.length s0)))] ?_
    refine bK ?_
    obtain rfl := oI h0
    exact aJ (rK (x := (.msl 3 lo6 0 (List.length s0))) (by kernel_rfl) (aV.refl _) ⟨lo6, rfl, hO⟩)

theorem nR (lo0p : Nat) (aA : (List aC)) (a1 : Int) (b2 : Int) (cmp3_f : Nat) (cmp3_a cmp3_c : List V) (cmp3 : aC → aC → Option Int) (cmp3_h : ∀ a0 a1 r, cmp3 a0 a1 = some r → bY Tryz.prog cmp3_f (cmp3_a ++ [(aE a0), (aE a1)] ++ cmp3_c) (eI r)) (r : List aC) (h0 : dS aA a1 b2 cmp3 = some r) : lP Tryz.prog 97 lo0p 3 (List.map aE aA) (List.map aE r) [(.msl 3 lo0p 0 (List.length aA)), (eI a1), (eI b2), (.fn (.func cmp3_f) cmp3_a cmp3_c)] (.tup []) := by
  intro H0 hl0
  refine cG Tryz.func97 ?_
  have hO := aM.rM hl0
  clear hl0
  obtain ⟨N0, hN0⟩ : ∃ n, n = List.length aA := ⟨_, rfl⟩
  have hN : List.length aA = N0 := hN0.symm
  unfold dS at h0
  refine aZ aG 3 [] [(8, (eI (wR (a1 + (1 : Int)))))] ?_
  refine bT 0 ?_
  refine cT [(0, (.msl 3 lo0p 0 (List.length aA))), (1, (eI a1)), (2, (eI b2)), (3, (.fn (.func cmp3_f) cmp3_a cmp3_c)), (8, (eI (wR (a1 + (1 : Int)))))] ?_
  refine cH (fun T H => ∃ aA : List aC, ∃ i8 : Int, Has T [(0, (.msl 3 lo0p 0 (List.length aA))), (1, (eI a1)), (2, (eI b2)), (3, (.fn (.func cmp3_f) cmp3_a cmp3_c)), (8, (eI i8))] ∧ aM ⟨H0, [lo0p], []⟩ H [(lo0p, 3, List.map aE aA)] ∧ List.length aA = N0 ∧ jC cmp3 aA a1 b2 i8 = some r) ?_ ⟨aA, wR (a1 + (1 : Int)), .eq (by kernel_rfl), hO, hN, h0⟩
  clear hO hN h0
  rintro T H ⟨aA, i8, hT, hO, hN, h0⟩
  refine bB hT ?_
  clear hT
  unfold jC at h0
  obtain ⟨rr0, hl0, h0⟩ := aX h0
  refine bZ (by kernel_rfl) (fun (s : List aC × Int) T H => Has T [(0, (.msl 3 lo0p 0 (List.length s.1))), (1, (eI a1)), (2, (eI b2)), (3, (.fn (.func cmp3_f) cmp3_a cmp3_c)), (8, (eI s.2))] ∧ aM ⟨H0, [lo0p], []⟩ H [(lo0p, 3, List.map aE s.1)] ∧ List.length s.1 = N0) hl0 ⟨.eq (by kernel_rfl), hO, hN⟩ ?_
  clear hO hN
  rintro k0 s out1 T H ⟨hT, hO, hN⟩ h1 ho0
  obtain ⟨aA, i8⟩ := s
  replace h1 : iY cmp3 a1 b2 aA i8 = some out1 := h1
  try dsimp only at hT
  refine bB hT ?_
  clear hT
  unfold iY at h1
  refine aP ?_
  refine aZ aG 3 [] [(14, (aK (decide (i8 < b2))))] ?_
  refine bJ h1 (fun h1 => ?_) (fun h1 => ?_)
  · refine bL ?_
    refine bG [(0, (.msl 3 lo0p 0 (List.length aA))), (1, (eI a1)), (2, (eI b2)), (3, (.fn (.func cmp3_f) cmp3_a cmp3_c)), (8, (eI i8))] ?_
    refine cR (fun T H => ∃ aA : List aC, Has T [(0, (.msl 3 lo0p 0 (List.length aA))), (1, (eI a1)), (2, (eI b2)), (3, (.fn (.func cmp3_f) cmp3_a cmp3_c)), (8, (eI i8))] ∧ aM ⟨H0, [lo0p], []⟩ H [(lo0p, 3, List.map aE aA)] ∧ List.length aA = N0 ∧ eT cmp3 aA a1 b2 i8 = some out1) ?_ ?_
    · clear hO hN h1
      rintro T H ⟨aA, hT, hO, hN, h1⟩
      refine bB hT ?_
      clear hT
      unfold eT at h1
      refine aU aG 3 ?_
      refine bF ?_
      exact aJ (aI (⟨rfl, _, (oI h1).symm, .eq (by kernel_rfl), hO, hN⟩))
    refine bT 1 ?_
    refine aZ aG 2 [] [(9, (eI i8))] ?_
    refine bT 2 ?_
    refine cT [(0, (.msl 3 lo0p 0 (List.length aA))), (1, (eI a1)), (2, (eI b2)), (3, (.fn (.func cmp3_f) cmp3_a cmp3_c)), (8, (eI i8)), (9, (eI i8))] ?_
    refine cH (fun T H => ∃ aA : List aC, ∃ j9 : Int, Has T [(0, (.msl 3 lo0p 0 (List.length aA))), (1, (eI a1)), (2, (eI b2)), (3, (.fn (.func cmp3_f) cmp3_a cmp3_c)), (8, (eI i8)), (9, (eI j9))] ∧ aM ⟨H0, [lo0p], []⟩ H [(lo0p, 3, List.map aE aA)] ∧ List.length aA = N0 ∧ jD cmp3 aA a1 b2 i8 j9 = some out1) ?_ ⟨aA, i8, .eq (by kernel_rfl), hO, hN, h1⟩
    clear hO hN h1
    rintro T H ⟨aA, j9, hT, hO, hN, h1⟩
    refine bB hT ?_
    clear hT
    unfold jD at h1
    obtain ⟨rr1, hl1, h1⟩ := aX h1
    refine bZ (by kernel_rfl) (fun (s : List aC × Int) T H => Has T [(0, (.msl 3 lo0p 0 (List.length s.1))), (1, (eI a1)), (2, (eI b2)), (3, (.fn (.func cmp3_f) cmp3_a cmp3_c)), (8, (eI i8)), (9, (eI s.2))] ∧ aM ⟨H0, [lo0p], []⟩ H [(lo0p, 3, List.map aE s.1)] ∧ List.length s.1 = N0) hl1 ⟨.eq (by kernel_rfl), hO, hN⟩ ?_
    clear hO hN
    rintro k1 s out2 T H ⟨hT, hO, hN⟩ h2 ho1
    obtain ⟨aA, j9⟩ := s
    replace h2 : jA cmp3 a1 b2 i8 aA j9 = some out2 := h2
    try dsimp only at hT
    refine bB hT ?_
    clear hT
    unfold jA at h2
    refine aP ?_
    refine aP ?_
    obtain ⟨c2, h2⟩ := bH h2
    obtain ⟨c3, h2⟩ := bH h2
    obtain ⟨x4, hx5, h2⟩ := aX h2
    refine fQ (fP []) aG 17 ?_
    refine wK (K := fun T H => Has (lift T) [(0, (.msl 3 lo0p 0 (List.length aA))), (1, (eI a1)), (2, (eI b2)), (3, (.fn (.func cmp3_f) cmp3_a cmp3_c)), (8, (eI i8)), (9, (eI j9)), (34, (aK ((decide (a1 < j9)) && (decide (x4 < (0 : Int))))))] ∧ aM ⟨H0, [lo0p], []⟩ H [(lo0p, 3, List.map aE aA)]) ?_ ?_
    · refine qG 4 ?_
      refine rA (t := 21) (e := decide (a1 < j9)) (by kernel_rfl) (fun hg6 => ?_) (fun hg6 => ?_)
      · refine cZ 8 [0 ≤ j9 ∧ j9 < (lN aA)] ⟨(c2 hg6), trivial⟩ ?_
        refine zV 0 lo0p 3 (0 + Int.toNat j9) (aE (gD aA j9)) (aE (gD aA j9)) (List.map aE aA) (by kernel_rfl) (by kernel_rfl) (by kernel_rfl) hO (by kernel_rfl) (cU (c2 hg6)) ?_
        refine cZ 13 [0 ≤ (wR (j9 - (1 : Int))) ∧ (wR (j9 - (1 : Int))) < (lN aA)] ⟨(c3 hg6), trivial⟩ ?_
        refine zV 0 lo0p 3 (0 + Int.toNat (wR (j9 - (1 : Int)))) (aE (gD aA (wR (j9 - (1 : Int))))) (aE (gD aA (wR (j9 - (1 : Int))))) (List.map aE aA) (by kernel_rfl) (by kernel_rfl) (by kernel_rfl) hO (by kernel_rfl) (cU (c3 hg6)) ?_
        refine zW cmp3_f (cmp3_a ++ [(aE (gD aA j9)), (aE (gD aA (wR (j9 - (1 : Int)))))] ++ cmp3_c) (eI x4) (by kernel_rfl) (by kernel_rfl) (cmp3_h (gD aA j9) (gD aA (wR (j9 - (1 : Int)))) _ (fW hx5 hg6)) hO ?_
        intro H hO
        refine jO ?_
        exact ⟨⟨[(0, (.msl 3 lo0p 0 (List.length aA))), (1, (eI a1)), (2, (eI b2)), (3, (.fn (.func cmp3_f) cmp3_a cmp3_c)), (8, (eI i8)), (9, (eI j9)), (34, (aK (decide (x4 < (0 : Int)))))], by kernel_rfl, rfl, ⟨aV.refl _, aV.refl _, aV.refl _, aV.refl _, aV.refl _, aV.refl _, aV.eq (congrArg aK (rZ hg6 rfl).symm), trivial⟩⟩, hO⟩
      refine jO ?_
      exact ⟨⟨[(0, (.msl 3 lo0p 0 (List.length aA))), (1, (eI a1)), (2, (eI b2)), (3, (.fn (.func cmp3_f) cmp3_a cmp3_c)), (8, (eI i8)), (9, (eI j9)), (34, (aK false))], by kernel_rfl, rfl, ⟨aV.refl _, aV.refl _, aV.refl _, aV.refl _, aV.refl _, aV.refl _, aV.eq (congrArg aK (rZ hg6 rfl).symm), trivial⟩⟩, hO⟩
    · rintro T H ⟨hT, hO⟩
      refine cP hT ?_
      clear hT
      refine aJ (aI ?_)
      refine bJ h2 (fun h2 => ?_) (fun h2 => ?_)
      · refine bL ?_
        refine bG [(0, (.msl 3 lo0p 0 (List.length aA))), (1, (eI a1)), (2, (eI b2)), (3, (.fn (.func cmp3_f) cmp3_a cmp3_c)), (8, (eI i8)), (9, (eI j9))] ?_
        refine aP ?_
        refine bT 3 ?_
        refine fQ (fP []) aG 18 ?_
        obtain ⟨c8, h2⟩ := bH h2
        refine cZ 9 [0 ≤ (wR (j9 - (1 : Int))) ∧ (wR (j9 - (1 : Int))) < (lN aA)] ⟨c8, trivial⟩ ?_
        refine kX 0 lo0p 3 (0 + Int.toNat (wR (j9 - (1 : Int)))) (aE (gD aA (wR (j9 - (1 : Int))))) (aE (gD aA (wR (j9 - (1 : Int))))) (List.map aE aA) hO (cU c8) ?_
        obtain ⟨c9, h2⟩ := bH h2
        refine cZ 13 [0 ≤ j9 ∧ j9 < (lN aA)] ⟨c9, trivial⟩ ?_
        refine kX 0 lo0p 3 (0 + Int.toNat j9) (aE (gD aA j9)) (aE (gD aA j9)) (List.map aE aA) hO (cU c9) ?_
        obtain ⟨c10, h2⟩ := bH h2
        refine cZ 15 [0 ≤ j9 ∧ j9 < (lN aA)] ⟨c10, trivial⟩ ?_
        refine tD 0 lo0p 3 (0 + Int.toNat j9) (aE (gD aA j9)) (aE (gD aA (wR (j9 - (1 : Int))))) (List.map aE aA) [(lo0p, 3, List.map aE (List.set aA (Int.toNat j9) (gD aA (wR (j9 - (1 : Int))))))] hO (cU c10) (by simp only [List.set, oP]) ?_
        intro H hO
        replace hN : List.length (List.set aA (Int.toNat j9) (gD aA (wR (j9 - (1 : Int))))) = N0 := by simpa using hN
        obtain ⟨c11, h2⟩ := bH h2
        refine cZ 17 [0 ≤ (wR (j9 - (1 : Int))) ∧ (wR (j9 - (1 : Int))) < (lN aA)] ⟨c11, trivial⟩ ?_
        refine tD 0 lo0p 3 (0 + Int.toNat (wR (j9 - (1 : Int)))) (aE (gD (List.set aA (Int.toNat j9) (gD aA (wR (j9 - (1 : Int))))) (wR (j9 - (1 : Int))))) (aE (gD aA j9)) (List.map aE (List.set aA (Int.toNat j9) (gD aA (wR (j9 - (1 : Int)))))) [(lo0p, 3, List.map aE (List.set (List.set aA (Int.toNat j9) (gD aA (wR (j9 - (1 : Int))))) (Int.toNat (wR (j9 - (1 : Int)))) (gD aA j9)))] hO (zU c11 (by simp [])) (by simp only [List.set, oP]) ?_
        intro H hO
        replace hN : List.length (List.set (List.set aA (Int.toNat j9) (gD aA (wR (j9 - (1 : Int))))) (Int.toNat (wR (j9 - (1 : Int)))) (gD aA j9)) = N0 := by simpa using hN
        refine AO (by kernel_rfl) ?_
        refine cP (l := [(0, (.msl 3 lo0p 0 (List.length (List.set (List.set aA (Int.toNat j9) (gD aA (wR (j9 - (1 : Int))))) (Int.toNat (wR (j9 - (1 : Int)))) (gD aA j9))))), (1, (eI a1)), (2, (eI b2)), (3, (.fn (.func cmp3_f) cmp3_a cmp3_c)), (8, (eI i8)), (9, (eI j9))]) ⟨[(0, (.msl 3 lo0p 0 (List.length aA))), (1, (eI a1)), (2, (eI b2)), (3, (.fn (.func cmp3_f) cmp3_a cmp3_c)), (8, (eI i8)), (9, (eI j9))], by kernel_rfl, rfl, ⟨aV.eq (by simp []), aV.refl _, aV.refl _, aV.refl _, aV.refl _, aV.refl _, trivial⟩⟩ ?_
        refine aJ (aW (aI (?_)))
        refine aU aG 3 ?_
        refine bF ?_
        exact aJ (aI (⟨rfl, _, (oI h2).symm, .eq (by kernel_rfl), hO, hN⟩))
      refine cY 2 ?_
      obtain rfl := oI h2
      obtain rfl : _ = rr1 := ho1
      replace h1 : eT cmp3 aA a1 b2 i8 = some out1 := h1
      exact aJ (aT (aT (bO (aW (aI (⟨rfl, _, .eq (by kernel_rfl), hO, hN, h1⟩))))))
  refine cY 0 ?_
  obtain rfl := oI h1
  obtain rfl : _ = rr0 := ho0
  replace h0 : some aA = some r := h0
  obtain rfl := oI h0
  exact aJ (aT (aT (bO (sC (x := (.tup [])) (by kernel_rfl) (aV.refl _) ⟨rfl, hO.ext, hO.at 0 (by kernel_rfl), by simp only [List.length_map]; exact hN.trans hN0⟩))))

theorem kZ (lo0p : Nat) (aA : (List aC)) (a1 : Int) (b2 : Int) (n3 : Int) (cmp4_f : Nat) (cmp4_a cmp4_c : List V) (cmp4 : aC → aC → Option Int) (cmp4_h : ∀ a0 a1 r, cmp4 a0 a1 = some r → bY Tryz.prog cmp4_f (cmp4_a ++ [(aE a0), (aE a1)] ++ cmp4_c) (eI r)) (r : List aC) (h0 : eK aA a1 b2 n3 cmp4 = some r) : lP Tryz.prog 108 lo0p 3 (List.map aE aA) (List.map aE r) [(.msl 3 lo0p 0 (List.length aA)), (eI a1), (eI b2), (eI n3), (.fn (.func cmp4_f) cmp4_a cmp4_c)] (.tup []) := by
  intro H0 hl0
  refine cG Tryz.func108 ?_
  have hO := aM.rM hl0
  clear hl0
  obtain ⟨N0, hN0⟩ : ∃ n, n = List.length aA := ⟨_, rfl⟩
  have hN : List.length aA = N0 := hN0.symm
  unfold eK at h0
  refine aZ aG 1 [4] [(10, (eI (0 : Int)))] ?_
  refine bT 0 ?_
  refine cT [(0, (.msl 3 lo0p 0 (List.length aA))), (1, (eI a1)), (2, (eI b2)), (3, (eI n3)), (10, (eI (0 : Int)))] ?_
  refine cH (fun T H => ∃ aA : List aC, ∃ i10 : Int, Has T [(0, (.msl 3 lo0p 0 (List.length aA))), (1, (eI a1)), (2, (eI b2)), (3, (eI n3)), (10, (eI i10))] ∧ aM ⟨H0, [lo0p], []⟩ H [(lo0p, 3, List.map aE aA)] ∧ List.length aA = N0 ∧ kP cmp4 aA a1 b2 n3 i10 = some r) ?_ ⟨aA, (0 : Int), .eq (by kernel_rfl), hO, hN, h0⟩
  clear hO hN h0
  rintro T H ⟨aA, i10, hT, hO, hN, h0⟩
  refine bB hT ?_
  clear hT
  unfold kP at h0
  obtain ⟨rr0, hl0, h0⟩ := aX h0
  refine bZ (by kernel_rfl) (fun (s : List aC × Int) T H => Has T [(0, (.msl 3 lo0p 0 (List.length s.1))), (1, (eI a1)), (2, (eI b2)), (3, (eI n3)), (10, (eI s.2))] ∧ aM ⟨H0, [lo0p], []⟩ H [(lo0p, 3, List.map aE s.1)] ∧ List.length s.1 = N0) hl0 ⟨.eq (by kernel_rfl), hO, hN⟩ ?_
  clear hO hN
  rintro k0 s out1 T H ⟨hT, hO, hN⟩ h1 ho0
  obtain ⟨aA, i10⟩ := s
  replace h1 : kL cmp4 a1 b2 n3 aA i10 = some out1 := h1
  try dsimp only at hT
  refine bB hT ?_
  clear hT
  unfold kL at h1
  refine aP ?_
  refine aZ aG 3 [] [(13, (aK (decide (i10 < n3))))] ?_
  refine bJ h1 (fun h1 => ?_) (fun h1 => ?_)
  · refine bL ?_
    refine bG [(0, (.msl 3 lo0p 0 (List.length aA))), (1, (eI a1)), (2, (eI b2)), (3, (eI n3)), (10, (eI i10))] ?_
    refine aP ?_
    refine bT 1 ?_
    refine fQ (fP []) aG 24 ?_
    obtain ⟨c2, h1⟩ := bH h1
    refine cZ 13 [0 ≤ (wR (b2 + i10)) ∧ (wR (b2 + i10)) < (lN aA)] ⟨c2, trivial⟩ ?_
    refine kX 0 lo0p 3 (0 + Int.toNat (wR (b2 + i10))) (aE (gD aA (wR (b2 + i10)))) (aE (gD aA (wR (b2 + i10)))) (List.map aE aA) hO (cU c2) ?_
    obtain ⟨c3, h1⟩ := bH h1
    refine cZ 19 [0 ≤ (wR (a1 + i10)) ∧ (wR (a1 + i10)) < (lN aA)] ⟨c3, trivial⟩ ?_
    refine kX 0 lo0p 3 (0 + Int.toNat (wR (a1 + i10))) (aE (gD aA (wR (a1 + i10)))) (aE (gD aA (wR (a1 + i10)))) (List.map aE aA) hO (cU c3) ?_
    obtain ⟨c4, h1⟩ := bH h1
    refine cZ 21 [0 ≤ (wR (a1 + i10)) ∧ (wR (a1 + i10)) < (lN aA)] ⟨c4, trivial⟩ ?_
    refine tD 0 lo0p 3 (0 + Int.toNat (wR (a1 + i10))) (aE (gD aA (wR (a1 + i10)))) (aE (gD aA (wR (b2 + i10)))) (List.map aE aA) [(lo0p, 3, List.map aE (List.set aA (Int.toNat (wR (a1 + i10))) (gD aA (wR (b2 + i10)))))] hO (cU c4) (by simp only [List.set, oP]) ?_
    intro H hO
    replace hN : List.length (List.set aA (Int.toNat (wR (a1 + i10))) (gD aA (wR (b2 + i10)))) = N0 := by simpa using hN
    obtain ⟨c5, h1⟩ := bH h1
    refine cZ 23 [0 ≤ (wR (b2 + i10)) ∧ (wR (b2 + i10)) < (lN aA)] ⟨c5, trivial⟩ ?_
    refine tD 0 lo0p 3 (0 + Int.toNat (wR (b2 + i10))) (aE (gD (List.set aA (Int.toNat (wR (a1 + i10))) (gD aA (wR (b2 + i10)))) (wR (b2 + i10)))) (aE (gD aA (wR (a1 + i10)))) (List.map aE (List.set aA (Int.toNat (wR (a1 + i10))) (gD aA (wR (b2 + i10))))) [(lo0p, 3, List.map aE (List.set (List.set aA (Int.toNat (wR (a1 + i10))) (gD aA (wR (b2 + i10)))) (Int.toNat (wR (b2 + i10))) (gD aA (wR (a1 + i10)))))] hO (zU c5 (by simp [])) (by simp only [List.set, oP]) ?_
    intro H hO
    replace hN : List.length (List.set (List.set aA (Int.toNat (wR (a1 + i10))) (gD aA (wR (b2 + i10)))) (Int.toNat (wR (b2 + i10))) (gD aA (wR (a1 + i10)))) = N0 := by simpa using hN
    refine AO (by kernel_rfl) ?_
    refine cP (l := [(0, (.msl 3 lo0p 0 (List.length (List.set (List.set aA (Int.toNat (wR (a1 + i10))) (gD aA (wR (b2 + i10)))) (Int.toNat (wR (b2 + i10))) (gD aA (wR (a1 + i10))))))), (1, (eI a1)), (2, (eI b2)), (3, (eI n3)), (10, (eI i10))]) ⟨[(0, (.msl 3 lo0p 0 (List.length aA))), (1, (eI a1)), (2, (eI b2)), (3, (eI n3)), (10, (eI i10))], by kernel_rfl, rfl, ⟨aV.eq (by simp []), aV.refl _, aV.refl _, aV.refl _, aV.refl _, trivial⟩⟩ ?_
    refine aJ (aW (aI (?_)))
    refine aU aG 3 ?_
    refine bF ?_
    exact aJ (aI (⟨rfl, _, (oI h1).symm, .eq (by kernel_rfl), hO, hN⟩))
  refine cY 0 ?_
  obtain rfl := oI h1
  obtain rfl : _ = rr0 := ho0
  replace h0 : some aA = some r := h0
  obtain rfl := oI h0
  exact aJ (aT (aT (bO (sC (x := (.tup [])) (by kernel_rfl) (aV.refl _) ⟨rfl, hO.ext, hO.at 0 (by kernel_rfl), by simp only [List.length_map]; exact hN.trans hN0⟩))))

theorem AE (lo0p : Nat) (aA : (List aC)) (a1 : Int) (m2 : Int) (b3 : Int) (cmp4_f : Nat) (cmp4_a cmp4_c : List V) (cmp4 : aC → aC → Option Int) (cmp4_h : ∀ a0 a1 r, cmp4 a0 a1 = some r → bY Tryz.prog cmp4_f (cmp4_a ++ [(aE a0), (aE a1)] ++ cmp4_c) (eI r)) (r : List aC) (h0 : mN aA a1 m2 b3 cmp4 = some r) : lP Tryz.prog 103 lo0p 3 (List.map aE aA) (List.map aE r) [(.msl 3 lo0p 0 (List.length aA)), (eI a1), (eI m2), (eI b3), (.fn (.func cmp4_f) cmp4_a cmp4_c)] (.tup []) := by
  intro H0 hl0
  refine cG Tryz.func103 ?_
  have hO := aM.rM hl0
  clear hl0
  obtain ⟨N0, hN0⟩ : ∃ n, n = List.length aA := ⟨_, rfl⟩
  have hN : List.length aA = N0 := hN0.symm
  unfold mN at h0
  refine aZ aG 4 [1] [(10, (eI (wR (m2 - a1))))] ?_
  refine aZ aG 4 [3] [(11, (eI (wR (b3 - m2))))] ?_
  refine cR (fun T H => ∃ aA : List aC, ∃ i10 : Int, Has T [(0, (.msl 3 lo0p 0 (List.length aA))), (2, (eI m2)), (4, (.fn (.func cmp4_f) cmp4_a cmp4_c)), (10, (eI i10))] ∧ aM ⟨H0, [lo0p], []⟩ H [(lo0p, 3, List.map aE aA)] ∧ List.length aA = N0 ∧ iR cmp4 aA m2 i10 = some r) ?_ ?_
  · clear hO hN h0
    rintro T H ⟨aA, i10, hT, hO, hN, h0⟩
    refine bB hT ?_
    clear hT
    unfold iR at h0
    refine aU aG 8 ?_
    refine bS 7 ?_
    obtain ⟨x1, hx2, h0⟩ := aX h0
    refine pI [(lo0p, 3, List.map aE x1)] 0 (kZ lo0p aA (wR (m2 - i10)) m2 i10 cmp4_f cmp4_a cmp4_c cmp4 cmp4_h _ hx2) hO ?_
    intro H hO hl3
    simp only [List.length_map] at hl3
    replace hN := hl3.trans hN
    refine cQ ?_
    refine cP (l := [(0, (.msl 3 lo0p 0 (List.length x1)))]) ⟨[(0, (.msl 3 lo0p 0 (List.length aA)))], by kernel_rfl, rfl, ⟨aV.eq (by simp [hl3]), trivial⟩⟩ ?_
    obtain rfl := oI h0
    exact aJ (sC (x := (.tup [])) (by kernel_rfl) (aV.refl _) ⟨rfl, hO.ext, hO.at 0 (by kernel_rfl), by simp only [List.length_map]; exact hN.trans hN0⟩)
  refine bT 0 ?_
  refine cT [(0, (.msl 3 lo0p 0 (List.length aA))), (2, (eI m2)), (4, (.fn (.func cmp4_f) cmp4_a cmp4_c)), (10, (eI (wR (m2 - a1)))), (11, (eI (wR (b3 - m2))))] ?_
  refine cH (fun T H => ∃ aA : List aC, ∃ i10 : Int, ∃ j11 : Int, Has T [(0, (.msl 3 lo0p 0 (List.length aA))), (2, (eI m2)), (4, (.fn (.func cmp4_f) cmp4_a cmp4_c)), (10, (eI i10)), (11, (eI j11))] ∧ aM ⟨H0, [lo0p], []⟩ H [(lo0p, 3, List.map aE aA)] ∧ List.length aA = N0 ∧ mD cmp4 aA m2 i10 j11 = some r) ?_ ⟨aA, wR (m2 - a1), wR (b3 - m2), .eq (by kernel_rfl), hO, hN, h0⟩
  clear hO hN h0
  rintro T H ⟨aA, i10, j11, hT, hO, hN, h0⟩
  refine bB hT ?_
  clear hT
  unfold mD at h0
  obtain ⟨rr0, hl0, h0⟩ := aX h0
  refine bZ (by kernel_rfl) (fun (s : List aC × Int × Int) T H => Has T [(0, (.msl 3 lo0p 0 (List.length s.1))), (2, (eI m2)), (4, (.fn (.func cmp4_f) cmp4_a cmp4_c)), (10, (eI s.2.1)), (11, (eI s.2.2))] ∧ aM ⟨H0, [lo0p], []⟩ H [(lo0p, 3, List.map aE s.1)] ∧ List.length s.1 = N0) hl0 ⟨.eq (by kernel_rfl), hO, hN⟩ ?_
  clear hO hN
  rintro k0 s out1 T H ⟨hT, hO, hN⟩ h1 ho0
  obtain ⟨aA, i10, j11⟩ := s
  replace h1 : lZ cmp4 m2 aA i10 j11 = some out1 := h1
  try dsimp only at hT
  refine bB hT ?_
  clear hT
  unfold lZ at h1
  refine aP ?_
  refine aZ aG 3 [] [(20, (aK (!decide (i10 = j11))))] ?_
  refine bJ h1 (fun h1 => ?_) (fun h1 => ?_)
  · refine bL ?_
    refine bG [(0, (.msl 3 lo0p 0 (List.length aA))), (2, (eI m2)), (4, (.fn (.func cmp4_f) cmp4_a cmp4_c)), (10, (eI i10)), (11, (eI j11))] ?_
    refine bT 1 ?_
    refine aZ aG 3 [] [(23, (aK (decide (j11 < i10))))] ?_
    refine bJ h1 (fun h1 => ?_) (fun h1 => ?_)
    · refine aP ?_
      refine aU aG 8 ?_
      refine bS 7 ?_
      obtain ⟨x6, hx7, h1⟩ := aX h1
      refine pI [(lo0p, 3, List.map aE x6)] 0 (kZ lo0p aA (wR (m2 - i10)) m2 j11 cmp4_f cmp4_a cmp4_c cmp4 cmp4_h _ hx7) hO ?_
      intro H hO hl8
      simp only [List.length_map] at hl8
      replace hN := hl8.trans hN
      refine cQ ?_
      refine cP (l := [(0, (.msl 3 lo0p 0 (List.length x6))), (2, (eI m2)), (4, (.fn (.func cmp4_f) cmp4_a cmp4_c)), (10, (eI i10)), (11, (eI j11))]) ⟨[(0, (.msl 3 lo0p 0 (List.length aA))), (2, (eI m2)), (4, (.fn (.func cmp4_f) cmp4_a cmp4_c)), (10, (eI i10)), (11, (eI j11))], by kernel_rfl, rfl, ⟨aV.eq (by simp [hl8]), aV.refl _, aV.refl _, aV.refl _, aV.refl _, trivial⟩⟩ ?_
      refine aJ (aI (?_))
      refine aU aG 4 ?_
      refine bF ?_
      exact aJ (aW (aI (⟨rfl, _, (oI h1).symm, .eq (by kernel_rfl), hO, hN⟩)))
    refine aP ?_
    refine aU aG 12 ?_
    refine bS 11 ?_
    obtain ⟨x9, hx10, h1⟩ := aX h1
    refine pI [(lo0p, 3, List.map aE x9)] 0 (kZ lo0p aA (wR (m2 - i10)) (wR ((wR (m2 + j11)) - i10)) i10 cmp4_f cmp4_a cmp4_c cmp4 cmp4_h _ hx10) hO ?_
    intro H hO hl11
    simp only [List.length_map] at hl11
    replace hN := hl11.trans hN
    refine cQ ?_
    refine cP (l := [(0, (.msl 3 lo0p 0 (List.length x9))), (2, (eI m2)), (4, (.fn (.func cmp4_f) cmp4_a cmp4_c)), (10, (eI i10)), (11, (eI j11))]) ⟨[(0, (.msl 3 lo0p 0 (List.length aA))), (2, (eI m2)), (4, (.fn (.func cmp4_f) cmp4_a cmp4_c)), (10, (eI i10)), (11, (eI j11))], by kernel_rfl, rfl, ⟨aV.eq (by simp [hl11]), aV.refl _, aV.refl _, aV.refl _, aV.refl _, trivial⟩⟩ ?_
    refine aJ (aI (?_))
    refine aU aG 4 ?_
    refine bF ?_
    exact aJ (aW (aI (⟨rfl, _, (oI h1).symm, .eq (by kernel_rfl), hO, hN⟩)))
  refine cY 0 ?_
  obtain rfl := oI h1
  obtain rfl : _ = rr0 := ho0
  replace h0 : iR cmp4 aA m2 i10 = some r := h0
  exact aJ (aT (aT (bO (aI (⟨rfl, _, _, .eq (by kernel_rfl), hO, hN, h0⟩)))))

theorem uX (cmp4_f : Nat) (cmp4_a cmp4_c : List V) (cmp4 : aC → aC → Option Int) (cmp4_h : ∀ a0 a1 r, cmp4 a0 a1 = some r → bY Tryz.prog cmp4_f (cmp4_a ++ [(aE a0), (aE a1)] ++ cmp4_c) (eI r)) (rec : (List aC) → Int → Int → Int → Option (List aC)) (ih : ∀ (lo0p : Nat) (aA : (List aC)) (a1 : Int) (m2 : Int) (b3 : Int) (r : List aC), rec aA a1 m2 b3 = some r → lP Tryz.prog 98 lo0p 3 (List.map aE aA) (List.map aE r) [(.msl 3 lo0p 0 (List.length aA)), (eI a1), (eI m2), (eI b3), (.fn (.func cmp4_f) cmp4_a cmp4_c)] (.tup [])) (lo0p : Nat) (aA : (List aC)) (a1 : Int) (m2 : Int) (b3 : Int) (r : List aC) (h0 : eB cmp4 rec aA a1 m2 b3 = some r) : lP Tryz.prog 98 lo0p 3 (List.map aE aA) (List.map aE r) [(.msl 3 lo0p 0 (List.length aA)), (eI a1), (eI m2), (eI b3), (.fn (.func cmp4_f) cmp4_a cmp4_c)] (.tup []) := by
  intro H0 hl0
  refine cG Tryz.func98 ?_
  have hO := aM.rM hl0
  clear hl0
  obtain ⟨N0, hN0⟩ : ∃ n, n = List.length aA := ⟨_, rfl⟩
  have hN : List.length aA = N0 := hN0.symm
  unfold eB at h0
  refine cR (fun T H => ∃ aA : List aC, Has T [(0, (.msl 3 lo0p 0 (List.length aA))), (1, (eI a1)), (2, (eI m2)), (3, (eI b3)), (4, (.fn (.func cmp4_f) cmp4_a cmp4_c))] ∧ aM ⟨H0, [lo0p], []⟩ H [(lo0p, 3, List.map aE aA)] ∧ List.length aA = N0 ∧ lH cmp4 rec aA a1 m2 b3 = some r) ?_ ?_
  · clear hO hN h0
    rintro T H ⟨aA, hT, hO, hN, h0⟩
    refine bB hT ?_
    clear hT
    unfold lH at h0
    refine cR (fun T H => ∃ aA : List aC, Has T [(0, (.msl 3 lo0p 0 (List.length aA))), (1, (eI a1)), (2, (eI m2)), (3, (eI b3)), (4, (.fn (.func cmp4_f) cmp4_a cmp4_c))] ∧ aM ⟨H0, [lo0p], []⟩ H [(lo0p, 3, List.map aE aA)] ∧ List.length aA = N0 ∧ kY cmp4 rec aA a1 m2 b3 = some r) ?_ ?_
    · clear hO hN h0
      rintro T H ⟨aA, hT, hO, hN, h0⟩
      refine bB hT ?_
      clear hT
      unfold kY at h0
      refine aP ?_
      refine aU aG 7 ?_
      obtain ⟨c1, h0⟩ := bH h0
      refine tJ [0 ≤ (1 : Int)] ⟨c1, trivial⟩ ?_
      refine bV [] [(18, (eI (wR (Int.fdiv (IntKind.u64.wrap (wR (a1 + b3))) (2 ^ (min (Int.toNat (1 : Int)) 64))))))] ?_
      refine aZ aG 4 [] [(19, (eI (wR ((wR (Int.fdiv (IntKind.u64.wrap (wR (a1 + b3))) (2 ^ (min (Int.toNat (1 : Int)) 64)))) + m2))))] ?_
      refine aZ aG 2 [] [] ?_
      refine cR (fun T H => ∃ aA : List aC, ∃ bW : Int, ∃ n19 : Int, ∃ aY : Int, ∃ r21 : Int, Has T [(0, (.msl 3 lo0p 0 (List.length aA))), (1, (eI a1)), (2, (eI m2)), (3, (eI b3)), (4, (.fn (.func cmp4_f) cmp4_a cmp4_c)), (18, (eI bW)), (19, (eI n19)), (20, (eI aY)), (21, (eI r21))] ∧ aM ⟨H0, [lo0p], []⟩ H [(lo0p, 3, List.map aE aA)] ∧ List.length aA = N0 ∧ gR cmp4 rec aA a1 m2 b3 bW n19 aY r21 = some r) ?_ ?_
      · clear hO hN h0
        rintro T H ⟨aA, bW, n19, aY, r21, hT, hO, hN, h0⟩
        refine bB hT ?_
        clear hT
        unfold gR at h0
        refine aZ aG 3 [] [(22, (eI (wR (n19 - (1 : Int)))))] ?_
        refine cR (fun T H => ∃ aA : List aC, ∃ aY : Int, Has T [(0, (.msl 3 lo0p 0 (List.length aA))), (1, (eI a1)), (2, (eI m2)), (3, (eI b3)), (4, (.fn (.func cmp4_f) cmp4_a cmp4_c)), (18, (eI bW)), (19, (eI n19)), (20, (eI aY))] ∧ aM ⟨H0, [lo0p], []⟩ H [(lo0p, 3, List.map aE aA)] ∧ List.length aA = N0 ∧ gO cmp4 rec aA a1 m2 b3 bW n19 aY = some r) ?_ ?_
        · clear hO hN h0
          rintro T H ⟨aA, aY, hT, hO, hN, h0⟩
          refine bB hT ?_
          clear hT
          unfold gO at h0
          refine aZ aG 4 [19] [(24, (eI (wR (n19 - aY))))] ?_
          refine cR (fun T H => ∃ aA : List aC, ∃ eC : Int, Has T [(0, (.msl 3 lo0p 0 (List.length aA))), (1, (eI a1)), (3, (eI b3)), (4, (.fn (.func cmp4_f) cmp4_a cmp4_c)), (18, (eI bW)), (20, (eI aY)), (24, (eI eC))] ∧ aM ⟨H0, [lo0p], []⟩ H [(lo0p, 3, List.map aE aA)] ∧ List.length aA = N0 ∧ gQ cmp4 rec aA a1 b3 bW aY eC = some r) ?_ ?_
          · clear hO hN h0
            rintro T H ⟨aA, eC, hT, hO, hN, h0⟩
            refine bB hT ?_
            clear hT
            unfold gQ at h0
            refine cR (fun T H => ∃ aA : List aC, Has T [(0, (.msl 3 lo0p 0 (List.length aA))), (3, (eI b3)), (4, (.fn (.func cmp4_f) cmp4_a cmp4_c)), (18, (eI bW)), (24, (eI eC))] ∧ aM ⟨H0, [lo0p], []⟩ H [(lo0p, 3, List.map aE aA)] ∧ List.length aA = N0 ∧ gY cmp4 rec aA b3 bW eC = some r) ?_ ?_
            · clear hO hN h0
              rintro T H ⟨aA, hT, hO, hN, h0⟩
              refine bB hT ?_
              clear hT
              unfold gY at h0
              refine aZ aG 8 [] [(213, (aK ((decide (bW < eC)) && (decide (eC < b3)))))] ?_
              refine bJ h0 (fun h0 => ?_) (fun h0 => ?_)
              · refine aU aG 6 ?_
                refine bS 5 ?_
                obtain ⟨x3, hx4, h0⟩ := aX h0
                refine pI [(lo0p, 3, List.map aE x3)] 0 (ih lo0p aA bW eC b3 _ hx4) hO ?_
                intro H hO hl5
                simp only [List.length_map] at hl5
                replace hN := hl5.trans hN
                refine cQ ?_
                refine cP (l := [(0, (.msl 3 lo0p 0 (List.length x3)))]) ⟨[(0, (.msl 3 lo0p 0 (List.length aA)))], by kernel_rfl, rfl, ⟨aV.eq (by simp [hl5]), trivial⟩⟩ ?_
                obtain rfl := oI h0
                exact aJ (sC (x := (.tup [])) (by kernel_rfl) (aV.refl _) ⟨rfl, hO.ext, hO.at 0 (by kernel_rfl), by simp only [List.length_map]; exact hN.trans hN0⟩)
              refine bL ?_
              obtain rfl := oI h0
              exact aJ (sC (x := (.tup [])) (by kernel_rfl) (aV.refl _) ⟨rfl, hO.ext, hO.at 0 (by kernel_rfl), by simp only [List.length_map]; exact hN.trans hN0⟩)
            refine aZ aG 8 [] [(199, (aK ((decide (a1 < aY)) && (decide (aY < bW)))))] ?_
            refine bJ h0 (fun h0 => ?_) (fun h0 => ?_)
            · refine aU aG 6 ?_
              refine bS 5 ?_
              obtain ⟨x7, hx8, h0⟩ := aX h0
              refine pI [(lo0p, 3, List.map aE x7)] 0 (ih lo0p aA a1 aY bW _ hx8) hO ?_
              intro H hO hl9
              simp only [List.length_map] at hl9
              replace hN := hl9.trans hN
              refine cQ ?_
              refine cP (l := [(0, (.msl 3 lo0p 0 (List.length x7))), (3, (eI b3)), (4, (.fn (.func cmp4_f) cmp4_a cmp4_c)), (18, (eI bW)), (24, (eI eC))]) ⟨[(0, (.msl 3 lo0p 0 (List.length aA))), (3, (eI b3)), (4, (.fn (.func cmp4_f) cmp4_a cmp4_c)), (18, (eI bW)), (24, (eI eC))], by kernel_rfl, rfl, ⟨aV.eq (by simp [hl9]), aV.refl _, aV.refl _, aV.refl _, aV.refl _, trivial⟩⟩ ?_
              exact aJ (aI (⟨rfl, _, .eq (by kernel_rfl), hO, hN, h0⟩))
            refine bL ?_
            exact aJ (aI (⟨rfl, _, .eq (by kernel_rfl), hO, hN, h0⟩))
          refine aZ aG 8 [] [(185, (aK ((decide (aY < m2)) && (decide (m2 < (wR (n19 - aY)))))))] ?_
          refine bJ h0 (fun h0 => ?_) (fun h0 => ?_)
          · refine aU aG 6 ?_
            refine bS 5 ?_
            obtain ⟨x11, hx12, h0⟩ := aX h0
            refine pI [(lo0p, 3, List.map aE x11)] 0 (AE lo0p aA aY m2 (wR (n19 - aY)) cmp4_f cmp4_a cmp4_c cmp4 cmp4_h _ hx12) hO ?_
            intro H hO hl13
            simp only [List.length_map] at hl13
            replace hN := hl13.trans hN
            refine cQ ?_
            refine cP (l := [(0, (.msl 3 lo0p 0 (List.length x11))), (1, (eI a1)), (3, (eI b3)), (4, (.fn (.func cmp4_f) cmp4_a cmp4_c)), (18, (eI bW)), (20, (eI aY)), (24, (eI (wR (n19 - aY))))]) ⟨[(0, (.msl 3 lo0p 0 (List.length aA))), (1, (eI a1)), (3, (eI b3)), (4, (.fn (.func cmp4_f) cmp4_a cmp4_c)), (18, (eI bW)), (20, (eI aY)), (24, (eI (wR (n19 - aY))))], by kernel_rfl, rfl, ⟨aV.eq (by simp [hl13]), aV.refl _, aV.refl _, aV.refl _, aV.refl _, aV.refl _, aV.refl _, trivial⟩⟩ ?_
            exact aJ (aI (⟨rfl, _, _, .eq (by kernel_rfl), hO, hN, h0⟩))
          refine bL ?_
          exact aJ (aI (⟨rfl, _, _, .eq (by kernel_rfl), hO, hN, h0⟩))
        refine bT 8 ?_
        refine cT [(0, (.msl 3 lo0p 0 (List.length aA))), (1, (eI a1)), (2, (eI m2)), (3, (eI b3)), (4, (.fn (.func cmp4_f) cmp4_a cmp4_c)), (18, (eI bW)), (19, (eI n19)), (20, (eI aY)), (21, (eI r21)), (22, (eI (wR (n19 - (1 : Int)))))] ?_
        refine cH (fun T H => ∃ aA : List aC, ∃ aY : Int, ∃ r21 : Int, ∃ p22 : Int, Has T [(0, (.msl 3 lo0p 0 (List.length aA))), (1, (eI a1)), (2, (eI m2)), (3, (eI b3)), (4, (.fn (.func cmp4_f) cmp4_a cmp4_c)), (18, (eI bW)), (19, (eI n19)), (20, (eI aY)), (21, (eI r21)), (22, (eI p22))] ∧ aM ⟨H0, [lo0p], []⟩ H [(lo0p, 3, List.map aE aA)] ∧ List.length aA = N0 ∧ lG cmp4 rec aA a1 m2 b3 bW n19 aY r21 p22 = some r) ?_ ⟨aA, aY, r21, wR (n19 - (1 : Int)), .eq (by kernel_rfl), hO, hN, h0⟩
        clear hO hN h0
        rintro T H ⟨aA, aY, r21, p22, hT, hO, hN, h0⟩
        refine bB hT ?_
        clear hT
        unfold lG at h0
        obtain ⟨rr0, hl0, h0⟩ := aX h0
        refine bZ (by kernel_rfl) (fun (s : List aC × Int × Int) T H => Has T [(0, (.msl 3 lo0p 0 (List.length s.1))), (1, (eI a1)), (2, (eI m2)), (3, (eI b3)), (4, (.fn (.func cmp4_f) cmp4_a cmp4_c)), (18, (eI bW)), (19, (eI n19)), (20, (eI s.2.1)), (21, (eI s.2.2)), (22, (eI p22))] ∧ aM ⟨H0, [lo0p], []⟩ H [(lo0p, 3, List.map aE s.1)] ∧ List.length s.1 = N0) hl0 ⟨.eq (by kernel_rfl), hO, hN⟩ ?_
        clear hO hN
        rintro k0 s out1 T H ⟨hT, hO, hN⟩ h1 ho0
        obtain ⟨aA, aY, r21⟩ := s
        replace h1 : lB cmp4 rec a1 m2 b3 bW n19 p22 aA aY r21 = some out1 := h1
        try dsimp only at hT
        refine bB hT ?_
        clear hT
        unfold lB at h1
        refine aP ?_
        refine aZ aG 3 [] [(151, (aK (decide (aY < r21))))] ?_
        refine bJ h1 (fun h1 => ?_) (fun h1 => ?_)
        · refine bL ?_
          refine bG [(0, (.msl 3 lo0p 0 (List.length aA))), (1, (eI a1)), (2, (eI m2)), (3, (eI b3)), (4, (.fn (.func cmp4_f) cmp4_a cmp4_c)), (18, (eI bW)), (19, (eI n19)), (20, (eI aY)), (21, (eI r21)), (22, (eI p22))] ?_
          refine bT 9 ?_
          refine aP ?_
          refine aU aG 7 ?_
          obtain ⟨c15, h1⟩ := bH h1
          refine tJ [0 ≤ (1 : Int)] ⟨c15, trivial⟩ ?_
          refine bV [] [(23, (eI (wR (Int.fdiv (IntKind.u64.wrap (wR (aY + r21))) (2 ^ (min (Int.toNat (1 : Int)) 64))))))] ?_
          refine aP ?_
          refine fQ (fP [169]) aG 14 ?_
          obtain ⟨c16, h1⟩ := bH h1
          refine cZ 6 [0 ≤ (wR (p22 - (wR (Int.fdiv (IntKind.u64.wrap (wR (aY + r21))) (2 ^ (min (Int.toNat (1 : Int)) 64)))))) ∧ (wR (p22 - (wR (Int.fdiv (IntKind.u64.wrap (wR (aY + r21))) (2 ^ (min (Int.toNat (1 : Int)) 64)))))) < (lN aA)] ⟨c16, trivial⟩ ?_
          refine kX 0 lo0p 3 (0 + Int.toNat (wR (p22 - (wR (Int.fdiv (IntKind.u64.wrap (wR (aY + r21))) (2 ^ (min (Int.toNat (1 : Int)) 64))))))) (aE (gD aA (wR (p22 - (wR (Int.fdiv (IntKind.u64.wrap (wR (aY + r21))) (2 ^ (min (Int.toNat (1 : Int)) 64)))))))) (aE (gD aA (wR (p22 - (wR (Int.fdiv (IntKind.u64.wrap (wR (aY + r21))) (2 ^ (min (Int.toNat (1 : Int)) 64)))))))) (List.map aE aA) hO (cU c16) ?_
          obtain ⟨c17, h1⟩ := bH h1
          refine cZ 10 [0 ≤ (wR (Int.fdiv (IntKind.u64.wrap (wR (aY + r21))) (2 ^ (min (Int.toNat (1 : Int)) 64)))) ∧ (wR (Int.fdiv (IntKind.u64.wrap (wR (aY + r21))) (2 ^ (min (Int.toNat (1 : Int)) 64)))) < (lN aA)] ⟨c17, trivial⟩ ?_
          refine kX 0 lo0p 3 (0 + Int.toNat (wR (Int.fdiv (IntKind.u64.wrap (wR (aY + r21))) (2 ^ (min (Int.toNat (1 : Int)) 64))))) (aE (gD aA (wR (Int.fdiv (IntKind.u64.wrap (wR (aY + r21))) (2 ^ (min (Int.toNat (1 : Int)) 64)))))) (aE (gD aA (wR (Int.fdiv (IntKind.u64.wrap (wR (aY + r21))) (2 ^ (min (Int.toNat (1 : Int)) 64)))))) (List.map aE aA) hO (cU c17) ?_
          obtain ⟨x18, hx19, h1⟩ := aX h1
          refine zK (cmp4_h (gD aA (wR (p22 - (wR (Int.fdiv (IntKind.u64.wrap (wR (aY + r21))) (2 ^ (min (Int.toNat (1 : Int)) 64))))))) (gD aA (wR (Int.fdiv (IntKind.u64.wrap (wR (aY + r21))) (2 ^ (min (Int.toNat (1 : Int)) 64))))) _ hx19) hO ?_
          intro H hO
          refine jO ?_
          refine bV [] [(171, (aK (!(decide (x18 < (0 : Int))))))] ?_
          refine bJ h1 (fun h1 => ?_) (fun h1 => ?_)
          · refine aU aG 3 ?_
            refine bF ?_
            exact aJ (aW (aI (⟨rfl, _, (oI h1).symm, .eq (by kernel_rfl), hO, hN⟩)))
          refine aU aG 2 ?_
          refine bF ?_
          exact aJ (aW (aI (⟨rfl, _, (oI h1).symm, .eq (by kernel_rfl), hO, hN⟩)))
        refine cY 8 ?_
        obtain rfl := oI h1
        obtain rfl : _ = rr0 := ho0
        replace h0 : gO cmp4 rec aA a1 m2 b3 bW n19 aY = some r := h0
        exact aJ (aT (aT (bO (aI (⟨rfl, _, _, .eq (by kernel_rfl), hO, hN, h0⟩)))))
      refine aZ aG 3 [] [(140, (aK (decide ((wR (Int.fdiv (IntKind.u64.wrap (wR (a1 + b3))) (2 ^ (min (Int.toNat (1 : Int)) 64)))) < m2))))] ?_
      refine bJ h0 (fun h0 => ?_) (fun h0 => ?_)
      · refine bU aG 4 [(0, (.msl 3 lo0p 0 (List.length aA))), (1, (eI a1)), (2, (eI m2)), (3, (eI b3)), (4, (.fn (.func cmp4_f) cmp4_a cmp4_c)), (18, (eI (wR (Int.fdiv (IntKind.u64.wrap (wR (a1 + b3))) (2 ^ (min (Int.toNat (1 : Int)) 64)))))), (19, (eI (wR ((wR (Int.fdiv (IntKind.u64.wrap (wR (a1 + b3))) (2 ^ (min (Int.toNat (1 : Int)) 64)))) + m2)))), (20, (eI (wR ((wR ((wR (Int.fdiv (IntKind.u64.wrap (wR (a1 + b3))) (2 ^ (min (Int.toNat (1 : Int)) 64)))) + m2)) - b3))))] ?_
        refine aU aG 2 ?_
        refine bF ?_
        exact aJ (aI (⟨rfl, _, _, _, _, _, .eq (by kernel_rfl), hO, hN, h0⟩))
      refine bU aG 2 [(0, (.msl 3 lo0p 0 (List.length aA))), (1, (eI a1)), (2, (eI m2)), (3, (eI b3)), (4, (.fn (.func cmp4_f) cmp4_a cmp4_c)), (18, (eI (wR (Int.fdiv (IntKind.u64.wrap (wR (a1 + b3))) (2 ^ (min (Int.toNat (1 : Int)) 64)))))), (19, (eI (wR ((wR (Int.fdiv (IntKind.u64.wrap (wR (a1 + b3))) (2 ^ (min (Int.toNat (1 : Int)) 64)))) + m2)))), (20, (eI a1))] ?_
      refine aU aG 2 ?_
      refine bF ?_
      exact aJ (aI (⟨rfl, _, _, _, _, _, .eq (by kernel_rfl), hO, hN, h0⟩))
    refine aZ aG 4 [] [(80, (aK (decide ((wR (b3 - m2)) = (1 : Int)))))] ?_
    refine bJ h0 (fun h0 => ?_) (fun h0 => ?_)
    · refine aZ aG 2 [1, 3, 80] [(14, (eI a1))] ?_
      refine aZ aG 2 [] [(15, (eI m2))] ?_
      refine cR (fun T H => ∃ aA : List aC, ∃ i14 : Int, Has T [(0, (.msl 3 lo0p 0 (List.length aA))), (2, (eI m2)), (14, (eI i14))] ∧ aM ⟨H0, [lo0p], []⟩ H [(lo0p, 3, List.map aE aA)] ∧ List.length aA = N0 ∧ gS cmp4 rec aA m2 i14 = some r) ?_ ?_
      · clear hO hN h0
        rintro T H ⟨aA, i14, hT, hO, hN, h0⟩
        refine bB hT ?_
        clear hT
        unfold gS at h0
        refine cR (fun T H => ∃ aA : List aC, Has T [(0, (.msl 3 lo0p 0 (List.length aA)))] ∧ aM ⟨H0, [lo0p], []⟩ H [(lo0p, 3, List.map aE aA)] ∧ List.length aA = N0 ∧ gU cmp4 rec aA = some r) ?_ ?_
        · clear hO hN h0
          rintro T H ⟨aA, hT, hO, hN, h0⟩
          refine bB hT ?_
          clear hT
          unfold gU at h0
          refine bK ?_
          obtain rfl := oI h0
          exact aJ (aS (rK (x := (.tup [])) (by kernel_rfl) (aV.refl _) ⟨rfl, hO.ext, hO.at 0 (by kernel_rfl), by simp only [List.length_map]; exact hN.trans hN0⟩))
        refine aZ aG 2 [2] [(17, (eI m2))] ?_
        refine bT 6 ?_
        refine cT [(0, (.msl 3 lo0p 0 (List.length aA))), (14, (eI i14)), (17, (eI m2))] ?_
        refine cH (fun T H => ∃ aA : List aC, ∃ k17 : Int, Has T [(0, (.msl 3 lo0p 0 (List.length aA))), (14, (eI i14)), (17, (eI k17))] ∧ aM ⟨H0, [lo0p], []⟩ H [(lo0p, 3, List.map aE aA)] ∧ List.length aA = N0 ∧ kE cmp4 rec aA i14 k17 = some r) ?_ ⟨aA, m2, .eq (by kernel_rfl), hO, hN, h0⟩
        clear hO hN h0
        rintro T H ⟨aA, k17, hT, hO, hN, h0⟩
        refine bB hT ?_
        clear hT
        unfold kE at h0
        obtain ⟨rr0, hl0, h0⟩ := aX h0
        refine bZ (by kernel_rfl) (fun (s : List aC × Int) T H => Has T [(0, (.msl 3 lo0p 0 (List.length s.1))), (14, (eI i14)), (17, (eI s.2))] ∧ aM ⟨H0, [lo0p], []⟩ H [(lo0p, 3, List.map aE s.1)] ∧ List.length s.1 = N0) hl0 ⟨.eq (by kernel_rfl), hO, hN⟩ ?_
        clear hO hN
        rintro k0 s out1 T H ⟨hT, hO, hN⟩ h1 ho0
        obtain ⟨aA, k17⟩ := s
        replace h1 : kC cmp4 rec i14 aA k17 = some out1 := h1
        try dsimp only at hT
        refine bB hT ?_
        clear hT
        unfold kC at h1
        refine aP ?_
        refine aZ aG 3 [] [(110, (aK (decide (i14 < k17))))] ?_
        refine bJ h1 (fun h1 => ?_) (fun h1 => ?_)
        · refine bL ?_
          refine bG [(0, (.msl 3 lo0p 0 (List.length aA))), (14, (eI i14)), (17, (eI k17))] ?_
          refine aP ?_
          refine bT 7 ?_
          refine fQ (fP []) aG 18 ?_
          obtain ⟨c25, h1⟩ := bH h1
          refine cZ 9 [0 ≤ (wR (k17 - (1 : Int))) ∧ (wR (k17 - (1 : Int))) < (lN aA)] ⟨c25, trivial⟩ ?_
          refine kX 0 lo0p 3 (0 + Int.toNat (wR (k17 - (1 : Int)))) (aE (gD aA (wR (k17 - (1 : Int))))) (aE (gD aA (wR (k17 - (1 : Int))))) (List.map aE aA) hO (cU c25) ?_
          obtain ⟨c26, h1⟩ := bH h1
          refine cZ 13 [0 ≤ k17 ∧ k17 < (lN aA)] ⟨c26, trivial⟩ ?_
          refine kX 0 lo0p 3 (0 + Int.toNat k17) (aE (gD aA k17)) (aE (gD aA k17)) (List.map aE aA) hO (cU c26) ?_
          obtain ⟨c27, h1⟩ := bH h1
          refine cZ 15 [0 ≤ k17 ∧ k17 < (lN aA)] ⟨c27, trivial⟩ ?_
          refine tD 0 lo0p 3 (0 + Int.toNat k17) (aE (gD aA k17)) (aE (gD aA (wR (k17 - (1 : Int))))) (List.map aE aA) [(lo0p, 3, List.map aE (List.set aA (Int.toNat k17) (gD aA (wR (k17 - (1 : Int))))))] hO (cU c27) (by simp only [List.set, oP]) ?_
          intro H hO
          replace hN : List.length (List.set aA (Int.toNat k17) (gD aA (wR (k17 - (1 : Int))))) = N0 := by simpa using hN
          obtain ⟨c28, h1⟩ := bH h1
          refine cZ 17 [0 ≤ (wR (k17 - (1 : Int))) ∧ (wR (k17 - (1 : Int))) < (lN aA)] ⟨c28, trivial⟩ ?_
          refine tD 0 lo0p 3 (0 + Int.toNat (wR (k17 - (1 : Int)))) (aE (gD (List.set aA (Int.toNat k17) (gD aA (wR (k17 - (1 : Int))))) (wR (k17 - (1 : Int))))) (aE (gD aA k17)) (List.map aE (List.set aA (Int.toNat k17) (gD aA (wR (k17 - (1 : Int)))))) [(lo0p, 3, List.map aE (List.set (List.set aA (Int.toNat k17) (gD aA (wR (k17 - (1 : Int))))) (Int.toNat (wR (k17 - (1 : Int)))) (gD aA k17)))] hO (zU c28 (by simp [])) (by simp only [List.set, oP]) ?_
          intro H hO
          replace hN : List.length (List.set (List.set aA (Int.toNat k17) (gD aA (wR (k17 - (1 : Int))))) (Int.toNat (wR (k17 - (1 : Int)))) (gD aA k17)) = N0 := by simpa using hN
          refine AO (by kernel_rfl) ?_
          refine cP (l := [(0, (.msl 3 lo0p 0 (List.length (List.set (List.set aA (Int.toNat k17) (gD aA (wR (k17 - (1 : Int))))) (Int.toNat (wR (k17 - (1 : Int)))) (gD aA k17))))), (14, (eI i14)), (17, (eI k17))]) ⟨[(0, (.msl 3 lo0p 0 (List.length aA))), (14, (eI i14)), (17, (eI k17))], by kernel_rfl, rfl, ⟨aV.eq (by simp []), aV.refl _, aV.refl _, trivial⟩⟩ ?_
          refine aJ (aW (aI (?_)))
          refine aU aG 3 ?_
          refine bF ?_
          exact aJ (aI (⟨rfl, _, (oI h1).symm, .eq (by kernel_rfl), hO, hN⟩))
        refine cY 6 ?_
        obtain rfl := oI h1
        obtain rfl : _ = rr0 := ho0
        replace h0 : gU cmp4 rec aA = some r := h0
        exact aJ (aT (aT (bO (aI (⟨rfl, _, .eq (by kernel_rfl), hO, hN, h0⟩)))))
      refine bT 4 ?_
      refine cT [(0, (.msl 3 lo0p 0 (List.length aA))), (2, (eI m2)), (4, (.fn (.func cmp4_f) cmp4_a cmp4_c)), (14, (eI a1)), (15, (eI m2))] ?_
      refine cH (fun T H => ∃ aA : List aC, ∃ i14 : Int, ∃ j15 : Int, Has T [(0, (.msl 3 lo0p 0 (List.length aA))), (2, (eI m2)), (4, (.fn (.func cmp4_f) cmp4_a cmp4_c)), (14, (eI i14)), (15, (eI j15))] ∧ aM ⟨H0, [lo0p], []⟩ H [(lo0p, 3, List.map aE aA)] ∧ List.length aA = N0 ∧ kV cmp4 rec aA m2 i14 j15 = some r) ?_ ⟨aA, a1, m2, .eq (by kernel_rfl), hO, hN, h0⟩
      clear hO hN h0
      rintro T H ⟨aA, i14, j15, hT, hO, hN, h0⟩
      refine bB hT ?_
      clear hT
      unfold kV at h0
      obtain ⟨rr0, hl0, h0⟩ := aX h0
      refine bZ (by kernel_rfl) (fun (s : List aC × Int × Int) T H => Has T [(0, (.msl 3 lo0p 0 (List.length s.1))), (2, (eI m2)), (4, (.fn (.func cmp4_f) cmp4_a cmp4_c)), (14, (eI s.2.1)), (15, (eI s.2.2))] ∧ aM ⟨H0, [lo0p], []⟩ H [(lo0p, 3, List.map aE s.1)] ∧ List.length s.1 = N0) hl0 ⟨.eq (by kernel_rfl), hO, hN⟩ ?_
      clear hO hN
      rintro k0 s out1 T H ⟨hT, hO, hN⟩ h1 ho0
      obtain ⟨aA, i14, j15⟩ := s
      replace h1 : kR cmp4 rec m2 aA i14 j15 = some out1 := h1
      try dsimp only at hT
      refine bB hT ?_
      clear hT
      unfold kR at h1
      refine aP ?_
      refine aZ aG 3 [] [(85, (aK (decide (i14 < j15))))] ?_
      refine bJ h1 (fun h1 => ?_) (fun h1 => ?_)
      · refine bL ?_
        refine bG [(0, (.msl 3 lo0p 0 (List.length aA))), (2, (eI m2)), (4, (.fn (.func cmp4_f) cmp4_a cmp4_c)), (14, (eI i14)), (15, (eI j15))] ?_
        refine bT 5 ?_
        refine aP ?_
        refine aU aG 7 ?_
        obtain ⟨c30, h1⟩ := bH h1
        refine tJ [0 ≤ (1 : Int)] ⟨c30, trivial⟩ ?_
        refine bV [] [(16, (eI (wR (Int.fdiv (IntKind.u64.wrap (wR (i14 + j15))) (2 ^ (min (Int.toNat (1 : Int)) 64))))))] ?_
        refine aP ?_
        refine fQ (fP [101]) aG 12 ?_
        obtain ⟨c31, h1⟩ := bH h1
        refine cZ 4 [0 ≤ m2 ∧ m2 < (lN aA)] ⟨c31, trivial⟩ ?_
        refine kX 0 lo0p 3 (0 + Int.toNat m2) (aE (gD aA m2)) (aE (gD aA m2)) (List.map aE aA) hO (cU c31) ?_
        obtain ⟨c32, h1⟩ := bH h1
        refine cZ 8 [0 ≤ (wR (Int.fdiv (IntKind.u64.wrap (wR (i14 + j15))) (2 ^ (min (Int.toNat (1 : Int)) 64)))) ∧ (wR (Int.fdiv (IntKind.u64.wrap (wR (i14 + j15))) (2 ^ (min (Int.toNat (1 : Int)) 64)))) < (lN aA)] ⟨c32, trivial⟩ ?_
        refine kX 0 lo0p 3 (0 + Int.toNat (wR (Int.fdiv (IntKind.u64.wrap (wR (i14 + j15))) (2 ^ (min (Int.toNat (1 : Int)) 64))))) (aE (gD aA (wR (Int.fdiv (IntKind.u64.wrap (wR (i14 + j15))) (2 ^ (min (Int.toNat (1 : Int)) 64)))))) (aE (gD aA (wR (Int.fdiv (IntKind.u64.wrap (wR (i14 + j15))) (2 ^ (min (Int.toNat (1 : Int)) 64)))))) (List.map aE aA) hO (cU c32) ?_
        obtain ⟨x33, hx34, h1⟩ := aX h1
        refine zK (cmp4_h (gD aA m2) (gD aA (wR (Int.fdiv (IntKind.u64.wrap (wR (i14 + j15))) (2 ^ (min (Int.toNat (1 : Int)) 64))))) _ hx34) hO ?_
        intro H hO
        refine jO ?_
        refine bV [] [(103, (aK (!(decide (x33 < (0 : Int))))))] ?_
        refine bJ h1 (fun h1 => ?_) (fun h1 => ?_)
        · refine aU aG 3 ?_
          refine bF ?_
          exact aJ (aW (aI (⟨rfl, _, (oI h1).symm, .eq (by kernel_rfl), hO, hN⟩)))
        refine aU aG 2 ?_
        refine bF ?_
        exact aJ (aW (aI (⟨rfl, _, (oI h1).symm, .eq (by kernel_rfl), hO, hN⟩)))
      refine cY 4 ?_
      obtain rfl := oI h1
      obtain rfl : _ = rr0 := ho0
      replace h0 : gS cmp4 rec aA m2 i14 = some r := h0
      exact aJ (aT (aT (bO (aI (⟨rfl, _, _, .eq (by kernel_rfl), hO, hN, h0⟩)))))
    refine bL ?_
    exact aJ (aI (⟨rfl, _, .eq (by kernel_rfl), hO, hN, h0⟩))
  refine aZ aG 4 [] [(28, (aK (decide ((wR (m2 - a1)) = (1 : Int)))))] ?_
  refine bJ h0 (fun h0 => ?_) (fun h0 => ?_)
  · refine aZ aG 2 [2, 28] [(10, (eI m2))] ?_
    refine aZ aG 2 [3] [(11, (eI b3))] ?_
    refine cR (fun T H => ∃ aA : List aC, ∃ i10 : Int, Has T [(0, (.msl 3 lo0p 0 (List.length aA))), (1, (eI a1)), (10, (eI i10))] ∧ aM ⟨H0, [lo0p], []⟩ H [(lo0p, 3, List.map aE aA)] ∧ List.length aA = N0 ∧ gF cmp4 rec aA a1 i10 = some r) ?_ ?_
    · clear hO hN h0
      rintro T H ⟨aA, i10, hT, hO, hN, h0⟩
      refine bB hT ?_
      clear hT
      unfold gF at h0
      refine cR (fun T H => ∃ aA : List aC, Has T [(0, (.msl 3 lo0p 0 (List.length aA)))] ∧ aM ⟨H0, [lo0p], []⟩ H [(lo0p, 3, List.map aE aA)] ∧ List.length aA = N0 ∧ gH cmp4 rec aA = some r) ?_ ?_
      · clear hO hN h0
        rintro T H ⟨aA, hT, hO, hN, h0⟩
        refine bB hT ?_
        clear hT
        unfold gH at h0
        refine bK ?_
        obtain rfl := oI h0
        exact aJ (aS (rK (x := (.tup [])) (by kernel_rfl) (aV.refl _) ⟨rfl, hO.ext, hO.at 0 (by kernel_rfl), by simp only [List.length_map]; exact hN.trans hN0⟩))
      refine aZ aG 2 [1] [(13, (eI a1))] ?_
      refine bT 2 ?_
      refine cT [(0, (.msl 3 lo0p 0 (List.length aA))), (10, (eI i10)), (13, (eI a1))] ?_
      refine cH (fun T H => ∃ aA : List aC, ∃ k13 : Int, Has T [(0, (.msl 3 lo0p 0 (List.length aA))), (10, (eI i10)), (13, (eI k13))] ∧ aM ⟨H0, [lo0p], []⟩ H [(lo0p, 3, List.map aE aA)] ∧ List.length aA = N0 ∧ kJ cmp4 rec aA i10 k13 = some r) ?_ ⟨aA, a1, .eq (by kernel_rfl), hO, hN, h0⟩
      clear hO hN h0
      rintro T H ⟨aA, k13, hT, hO, hN, h0⟩
      refine bB hT ?_
      clear hT
      unfold kJ at h0
      obtain ⟨rr0, hl0, h0⟩ := aX h0
      refine bZ (by kernel_rfl) (fun (s : List aC × Int) T H => Has T [(0, (.msl 3 lo0p 0 (List.length s.1))), (10, (eI i10)), (13, (eI s.2))] ∧ aM ⟨H0, [lo0p], []⟩ H [(lo0p, 3, List.map aE s.1)] ∧ List.length s.1 = N0) hl0 ⟨.eq (by kernel_rfl), hO, hN⟩ ?_
      clear hO hN
      rintro k0 s out1 T H ⟨hT, hO, hN⟩ h1 ho0
      obtain ⟨aA, k13⟩ := s
      replace h1 : kS cmp4 rec i10 aA k13 = some out1 := h1
      try dsimp only at hT
      refine bB hT ?_
      clear hT
      unfold kS at h1
      refine aP ?_
      refine aZ aG 4 [] [(58, (aK (decide (k13 < (wR (i10 - (1 : Int)))))))] ?_
      refine bJ h1 (fun h1 => ?_) (fun h1 => ?_)
      · refine bL ?_
        refine bG [(0, (.msl 3 lo0p 0 (List.length aA))), (10, (eI i10)), (13, (eI k13))] ?_
        refine aP ?_
        refine bT 3 ?_
        refine fQ (fP []) aG 18 ?_
        obtain ⟨c39, h1⟩ := bH h1
        refine cZ 9 [0 ≤ (wR (k13 + (1 : Int))) ∧ (wR (k13 + (1 : Int))) < (lN aA)] ⟨c39, trivial⟩ ?_
        refine kX 0 lo0p 3 (0 + Int.toNat (wR (k13 + (1 : Int)))) (aE (gD aA (wR (k13 + (1 : Int))))) (aE (gD aA (wR (k13 + (1 : Int))))) (List.map aE aA) hO (cU c39) ?_
        obtain ⟨c40, h1⟩ := bH h1
        refine cZ 13 [0 ≤ k13 ∧ k13 < (lN aA)] ⟨c40, trivial⟩ ?_
        refine kX 0 lo0p 3 (0 + Int.toNat k13) (aE (gD aA k13)) (aE (gD aA k13)) (List.map aE aA) hO (cU c40) ?_
        obtain ⟨c41, h1⟩ := bH h1
        refine cZ 15 [0 ≤ k13 ∧ k13 < (lN aA)] ⟨c41, trivial⟩ ?_
        refine tD 0 lo0p 3 (0 + Int.toNat k13) (aE (gD aA k13)) (aE (gD aA (wR (k13 + (1 : Int))))) (List.map aE aA) [(lo0p, 3, List.map aE (List.set aA (Int.toNat k13) (gD aA (wR (k13 + (1 : Int))))))] hO (cU c41) (by simp only [List.set, oP]) ?_
        intro H hO
        replace hN : List.length (List.set aA (Int.toNat k13) (gD aA (wR (k13 + (1 : Int))))) = N0 := by simpa using hN
        obtain ⟨c42, h1⟩ := bH h1
        refine cZ 17 [0 ≤ (wR (k13 + (1 : Int))) ∧ (wR (k13 + (1 : Int))) < (lN aA)] ⟨c42, trivial⟩ ?_
        refine tD 0 lo0p 3 (0 + Int.toNat (wR (k13 + (1 : Int)))) (aE (gD (List.set aA (Int.toNat k13) (gD aA (wR (k13 + (1 : Int))))) (wR (k13 + (1 : Int))))) (aE (gD aA k13)) (List.map aE (List.set aA (Int.toNat k13) (gD aA (wR (k13 + (1 : Int)))))) [(lo0p, 3, List.map aE (List.set (List.set aA (Int.toNat k13) (gD aA (wR (k13 + (1 : Int))))) (Int.toNat (wR (k13 + (1 : Int)))) (gD aA k13)))] hO (zU c42 (by simp [])) (by simp only [List.set, oP]) ?_
        intro H hO
        replace hN : List.length (List.set (List.set aA (Int.toNat k13) (gD aA (wR (k13 + (1 : Int))))) (Int.toNat (wR (k13 + (1 : Int)))) (gD aA k13)) = N0 := by simpa using hN
        refine AO (by kernel_rfl) ?_
        refine cP (l := [(0, (.msl 3 lo0p 0 (List.length (List.set (List.set aA (Int.toNat k13) (gD aA (wR (k13 + (1 : Int))))) (Int.toNat (wR (k13 + (1 : Int)))) (gD aA k13))))), (10, (eI i10)), (13, (eI k13))]) ⟨[(0, (.msl 3 lo0p 0 (List.length aA))), (10, (eI i10)), (13, (eI k13))], by kernel_rfl, rfl, ⟨aV.eq (by simp []), aV.refl _, aV.refl _, trivial⟩⟩ ?_
        refine aJ (aW (aI (?_)))
        refine aU aG 3 ?_
        refine bF ?_
        exact aJ (aI (⟨rfl, _, (oI h1).symm, .eq (by kernel_rfl), hO, hN⟩))
      refine cY 2 ?_
      obtain rfl := oI h1
      obtain rfl : _ = rr0 := ho0
      replace h0 : gH cmp4 rec aA = some r := h0
      exact aJ (aT (aT (bO (aI (⟨rfl, _, .eq (by kernel_rfl), hO, hN, h0⟩)))))
    refine bT 0 ?_
    refine cT [(0, (.msl 3 lo0p 0 (List.length aA))), (1, (eI a1)), (4, (.fn (.func cmp4_f) cmp4_a cmp4_c)), (10, (eI m2)), (11, (eI b3))] ?_
    refine cH (fun T H => ∃ aA : List aC, ∃ i10 : Int, ∃ j11 : Int, Has T [(0, (.msl 3 lo0p 0 (List.length aA))), (1, (eI a1)), (4, (.fn (.func cmp4_f) cmp4_a cmp4_c)), (10, (eI i10)), (11, (eI j11))] ∧ aM ⟨H0, [lo0p], []⟩ H [(lo0p, 3, List.map aE aA)] ∧ List.length aA = N0 ∧ kI cmp4 rec aA a1 i10 j11 = some r) ?_ ⟨aA, m2, b3, .eq (by kernel_rfl), hO, hN, h0⟩
    clear hO hN h0
    rintro T H ⟨aA, i10, j11, hT, hO, hN, h0⟩
    refine bB hT ?_
    clear hT
    unfold kI at h0
    obtain ⟨rr0, hl0, h0⟩ := aX h0
    refine bZ (by kernel_rfl) (fun (s : List aC × Int × Int) T H => Has T [(0, (.msl 3 lo0p 0 (List.length s.1))), (1, (eI a1)), (4, (.fn (.func cmp4_f) cmp4_a cmp4_c)), (10, (eI s.2.1)), (11, (eI s.2.2))] ∧ aM ⟨H0, [lo0p], []⟩ H [(lo0p, 3, List.map aE s.1)] ∧ List.length s.1 = N0) hl0 ⟨.eq (by kernel_rfl), hO, hN⟩ ?_
    clear hO hN
    rintro k0 s out1 T H ⟨hT, hO, hN⟩ h1 ho0
    obtain ⟨aA, i10, j11⟩ := s
    replace h1 : kA cmp4 rec a1 aA i10 j11 = some out1 := h1
    try dsimp only at hT
    refine bB hT ?_
    clear hT
    unfold kA at h1
    refine aP ?_
    refine aZ aG 3 [] [(33, (aK (decide (i10 < j11))))] ?_
    refine bJ h1 (fun h1 => ?_) (fun h1 => ?_)
    · refine bL ?_
      refine bG [(0, (.msl 3 lo0p 0 (List.length aA))), (1, (eI a1)), (4, (.fn (.func cmp4_f) cmp4_a cmp4_c)), (10, (eI i10)), (11, (eI j11))] ?_
      refine bT 1 ?_
      refine aP ?_
      refine aU aG 7 ?_
      obtain ⟨c44, h1⟩ := bH h1
      refine tJ [0 ≤ (1 : Int)] ⟨c44, trivial⟩ ?_
      refine bV [] [(12, (eI (wR (Int.fdiv (IntKind.u64.wrap (wR (i10 + j11))) (2 ^ (min (Int.toNat (1 : Int)) 64))))))] ?_
      refine aP ?_
      refine fQ (fP [49]) aG 11 ?_
      obtain ⟨c45, h1⟩ := bH h1
      refine cZ 4 [0 ≤ (wR (Int.fdiv (IntKind.u64.wrap (wR (i10 + j11))) (2 ^ (min (Int.toNat (1 : Int)) 64)))) ∧ (wR (Int.fdiv (IntKind.u64.wrap (wR (i10 + j11))) (2 ^ (min (Int.toNat (1 : Int)) 64)))) < (lN aA)] ⟨c45, trivial⟩ ?_
      refine kX 0 lo0p 3 (0 + Int.toNat (wR (Int.fdiv (IntKind.u64.wrap (wR (i10 + j11))) (2 ^ (min (Int.toNat (1 : Int)) 64))))) (aE (gD aA (wR (Int.fdiv (IntKind.u64.wrap (wR (i10 + j11))) (2 ^ (min (Int.toNat (1 : Int)) 64)))))) (aE (gD aA (wR (Int.fdiv (IntKind.u64.wrap (wR (i10 + j11))) (2 ^ (min (Int.toNat (1 : Int)) 64)))))) (List.map aE aA) hO (cU c45) ?_
      obtain ⟨c46, h1⟩ := bH h1
      refine cZ 8 [0 ≤ a1 ∧ a1 < (lN aA)] ⟨c46, trivial⟩ ?_
      refine kX 0 lo0p 3 (0 + Int.toNat a1) (aE (gD aA a1)) (aE (gD aA a1)) (List.map aE aA) hO (cU c46) ?_
      obtain ⟨x47, hx48, h1⟩ := aX h1
      refine zK (cmp4_h (gD aA (wR (Int.fdiv (IntKind.u64.wrap (wR (i10 + j11))) (2 ^ (min (Int.toNat (1 : Int)) 64))))) (gD aA a1) _ hx48) hO ?_
      intro H hO
      refine jO ?_
      refine bV [] [(50, (aK (decide (x47 < (0 : Int)))))] ?_
      refine bJ h1 (fun h1 => ?_) (fun h1 => ?_)
      · refine aU aG 3 ?_
        refine bF ?_
        exact aJ (aW (aI (⟨rfl, _, (oI h1).symm, .eq (by kernel_rfl), hO, hN⟩)))
      refine aU aG 2 ?_
      refine bF ?_
      exact aJ (aW (aI (⟨rfl, _, (oI h1).symm, .eq (by kernel_rfl), hO, hN⟩)))
    refine cY 0 ?_
    obtain rfl := oI h1
    obtain rfl : _ = rr0 := ho0
    replace h0 : gF cmp4 rec aA a1 i10 = some r := h0
    exact aJ (aT (aT (bO (aI (⟨rfl, _, _, .eq (by kernel_rfl), hO, hN, h0⟩)))))
  refine bL ?_
  exact aJ (aI (⟨rfl, _, .eq (by kernel_rfl), hO, hN, h0⟩))

theorem oL (cmp4_f : Nat) (cmp4_a cmp4_c : List V) (cmp4 : aC → aC → Option Int) (cmp4_h : ∀ a0 a1 r, cmp4 a0 a1 = some r → bY Tryz.prog cmp4_f (cmp4_a ++ [(aE a0), (aE a1)] ++ cmp4_c) (eI r)) : ∀ (k : Nat) (lo0p : Nat) (aA : (List aC)) (a1 : Int) (m2 : Int) (b3 : Int) (r : List aC), hM cmp4 k aA a1 m2 b3 = some r → lP Tryz.prog 98 lo0p 3 (List.map aE aA) (List.map aE r) [(.msl 3 lo0p 0 (List.length aA)), (eI a1), (eI m2), (eI b3), (.fn (.func cmp4_f) cmp4_a cmp4_c)] (.tup [])
  | 0, _, _, _, _, _, _, h => by cases h
  | k + 1, lo0p, aA, a1, m2, b3, r, h => uX cmp4_f cmp4_a cmp4_c cmp4 cmp4_h _ (oL cmp4_f cmp4_a cmp4_c cmp4 cmp4_h k) lo0p aA a1 m2 b3 r h

theorem pP (lo0p : Nat) (aA : (List aC)) (a1 : Int) (m2 : Int) (b3 : Int) (cmp4_f : Nat) (cmp4_a cmp4_c : List V) (cmp4 : aC → aC → Option Int) (cmp4_h : ∀ a0 a1 r, cmp4 a0 a1 = some r → bY Tryz.prog cmp4_f (cmp4_a ++ [(aE a0), (aE a1)] ++ cmp4_c) (eI r)) (r : List aC) (h0 : eO aA a1 m2 b3 cmp4 = some r) : lP Tryz.prog 98 lo0p 3 (List.map aE aA) (List.map aE r) [(.msl 3 lo0p 0 (List.length aA)), (eI a1), (eI m2), (eI b3), (.fn (.func cmp4_f) cmp4_a cmp4_c)] (.tup []) := by
  obtain ⟨k, hk⟩ := JC h0
  exact oL cmp4_f cmp4_a cmp4_c cmp4 cmp4_h k lo0p aA a1 m2 b3 r hk

theorem AB (lo0p : Nat) (aA : (List aC)) (n1 : Int) (cmp2_f : Nat) (cmp2_a cmp2_c : List V) (cmp2 : aC → aC → Option Int) (cmp2_h : ∀ a0 a1 r, cmp2 a0 a1 = some r → bY Tryz.prog cmp2_f (cmp2_a ++ [(aE a0), (aE a1)] ++ cmp2_c) (eI r)) (r : List aC) (h0 : fI aA n1 cmp2 = some r) : lP Tryz.prog 79 lo0p 3 (List.map aE aA) (List.map aE r) [(.msl 3 lo0p 0 (List.length aA)), (eI n1), (.fn (.func cmp2_f) cmp2_a cmp2_c)] (.tup []) := by
  intro H0 hl0
  refine cG Tryz.func79 ?_
  have hO := aM.rM hl0
  clear hl0
  obtain ⟨N0, hN0⟩ : ∃ n, n = List.length aA := ⟨_, rfl⟩
  have hN : List.length aA = N0 := hN0.symm
  unfold fI at h0
  refine aZ aG 1 [] [(6, (eI (20 : Int)))] ?_
  refine aZ aG 3 [] [(7, (eI (0 : Int))), (8, (eI (20 : Int)))] ?_
  refine cR (fun T H => ∃ aA : List aC, ∃ aQ : Int, ∃ a7 : Int, Has T [(0, (.msl 3 lo0p 0 (List.length aA))), (1, (eI n1)), (2, (.fn (.func cmp2_f) cmp2_a cmp2_c)), (6, (eI aQ)), (7, (eI a7))] ∧ aM ⟨H0, [lo0p], []⟩ H [(lo0p, 3, List.map aE aA)] ∧ List.length aA = N0 ∧ fC cmp2 aA n1 aQ a7 = some r) ?_ ?_
  · clear hO hN h0
    rintro T H ⟨aA, aQ, a7, hT, hO, hN, h0⟩
    refine bB hT ?_
    clear hT
    unfold fC at h0
    refine aP ?_
    refine aU aG 5 ?_
    refine bS 4 ?_
    obtain ⟨x1, hx2, h0⟩ := aX h0
    refine pI [(lo0p, 3, List.map aE x1)] 0 (nR lo0p aA a7 n1 cmp2_f cmp2_a cmp2_c cmp2 cmp2_h _ hx2) hO ?_
    intro H hO hl3
    simp only [List.length_map] at hl3
    replace hN := hl3.trans hN
    refine cQ ?_
    refine cP (l := [(0, (.msl 3 lo0p 0 (List.length x1))), (1, (eI n1)), (2, (.fn (.func cmp2_f) cmp2_a cmp2_c)), (6, (eI aQ))]) ⟨[(0, (.msl 3 lo0p 0 (List.length aA))), (1, (eI n1)), (2, (.fn (.func cmp2_f) cmp2_a cmp2_c)), (6, (eI aQ))], by kernel_rfl, rfl, ⟨aV.eq (by simp [hl3]), aV.refl _, aV.refl _, aV.refl _, trivial⟩⟩ ?_
    refine aJ (aI (?_))
    refine bT 2 ?_
    refine cT [(0, (.msl 3 lo0p 0 (List.length x1))), (1, (eI n1)), (2, (.fn (.func cmp2_f) cmp2_a cmp2_c)), (6, (eI aQ))] ?_
    refine cH (fun T H => ∃ aA : List aC, ∃ aQ : Int, Has T [(0, (.msl 3 lo0p 0 (List.length aA))), (1, (eI n1)), (2, (.fn (.func cmp2_f) cmp2_a cmp2_c)), (6, (eI aQ))] ∧ aM ⟨H0, [lo0p], []⟩ H [(lo0p, 3, List.map aE aA)] ∧ List.length aA = N0 ∧ iD cmp2 aA n1 aQ = some r) ?_ ⟨x1, aQ, .eq (by kernel_rfl), hO, hN, h0⟩
    clear hO hN h0
    rintro T H ⟨aA, aQ, hT, hO, hN, h0⟩
    refine bB hT ?_
    clear hT
    unfold iD at h0
    obtain ⟨rr0, hl0, h0⟩ := aX h0
    refine bZ (by kernel_rfl) (fun (s : List aC × Int) T H => Has T [(0, (.msl 3 lo0p 0 (List.length s.1))), (1, (eI n1)), (2, (.fn (.func cmp2_f) cmp2_a cmp2_c)), (6, (eI s.2))] ∧ aM ⟨H0, [lo0p], []⟩ H [(lo0p, 3, List.map aE s.1)] ∧ List.length s.1 = N0) hl0 ⟨.eq (by kernel_rfl), hO, hN⟩ ?_
    clear hO hN
    rintro k0 s out1 T H ⟨hT, hO, hN⟩ h1 ho0
    obtain ⟨aA, aQ⟩ := s
    replace h1 : iH cmp2 n1 aA aQ = some out1 := h1
    try dsimp only at hT
    refine bB hT ?_
    clear hT
    unfold iH at h1
    refine aP ?_
    refine aZ aG 3 [] [(30, (aK (decide (aQ < n1))))] ?_
    refine bJ h1 (fun h1 => ?_) (fun h1 => ?_)
    · refine bL ?_
      refine bG [(0, (.msl 3 lo0p 0 (List.length aA))), (1, (eI n1)), (2, (.fn (.func cmp2_f) cmp2_a cmp2_c)), (6, (eI aQ))] ?_
      refine bT 3 ?_
      refine aZ aG 4 [] [(7, (eI (0 : Int))), (8, (eI (wR ((2 : Int) * aQ))))] ?_
      refine cR (fun T H => ∃ aA : List aC, ∃ a7 : Int, Has T [(0, (.msl 3 lo0p 0 (List.length aA))), (1, (eI n1)), (2, (.fn (.func cmp2_f) cmp2_a cmp2_c)), (6, (eI aQ)), (7, (eI a7))] ∧ aM ⟨H0, [lo0p], []⟩ H [(lo0p, 3, List.map aE aA)] ∧ List.length aA = N0 ∧ fD cmp2 aA n1 aQ a7 = some out1) ?_ ?_
      · clear hO hN h1
        rintro T H ⟨aA, a7, hT, hO, hN, h1⟩
        refine bB hT ?_
        clear hT
        unfold fD at h1
        refine cR (fun T H => ∃ aA : List aC, Has T [(0, (.msl 3 lo0p 0 (List.length aA))), (1, (eI n1)), (2, (.fn (.func cmp2_f) cmp2_a cmp2_c)), (6, (eI aQ))] ∧ aM ⟨H0, [lo0p], []⟩ H [(lo0p, 3, List.map aE aA)] ∧ List.length aA = N0 ∧ iM cmp2 aA n1 aQ = some out1) ?_ ?_
        · clear hO hN h1
          rintro T H ⟨aA, hT, hO, hN, h1⟩
          refine bB hT ?_
          clear hT
          unfold iM at h1
          refine aU aG 3 ?_
          refine bF ?_
          exact aJ (aW (aI (⟨rfl, _, (oI h1).symm, .eq (by kernel_rfl), hO, hN⟩)))
        refine aZ aG 4 [] [(9, (eI (wR (a7 + aQ))))] ?_
        refine aZ aG 3 [] [(54, (aK (decide ((wR (a7 + aQ)) < n1))))] ?_
        refine bJ h1 (fun h1 => ?_) (fun h1 => ?_)
        · refine aU aG 6 ?_
          refine bS 5 ?_
          obtain ⟨x6, hx7, h1⟩ := aX h1
          refine pI [(lo0p, 3, List.map aE x6)] 0 (pP lo0p aA a7 (wR (a7 + aQ)) n1 cmp2_f cmp2_a cmp2_c cmp2 cmp2_h _ hx7) hO ?_
          intro H hO hl8
          simp only [List.length_map] at hl8
          replace hN := hl8.trans hN
          refine cQ ?_
          refine cP (l := [(0, (.msl 3 lo0p 0 (List.length x6))), (1, (eI n1)), (2, (.fn (.func cmp2_f) cmp2_a cmp2_c)), (6, (eI aQ))]) ⟨[(0, (.msl 3 lo0p 0 (List.length aA))), (1, (eI n1)), (2, (.fn (.func cmp2_f) cmp2_a cmp2_c)), (6, (eI aQ))], by kernel_rfl, rfl, ⟨aV.eq (by simp [hl8]), aV.refl _, aV.refl _, aV.refl _, trivial⟩⟩ ?_
          exact aJ (aI (⟨rfl, _, .eq (by kernel_rfl), hO, hN, h1⟩))
        refine bL ?_
        exact aJ (aI (⟨rfl, _, .eq (by kernel_rfl), hO, hN, h1⟩))
      refine bT 4 ?_
      refine cT [(0, (.msl 3 lo0p 0 (List.length aA))), (1, (eI n1)), (2, (.fn (.func cmp2_f) cmp2_a cmp2_c)), (6, (eI aQ)), (7, (eI (0 : Int))), (8, (eI (wR ((2 : Int) * aQ))))] ?_
      refine cH (fun T H => ∃ aA : List aC, ∃ a7 : Int, ∃ b8 : Int, Has T [(0, (.msl 3 lo0p 0 (List.length aA))), (1, (eI n1)), (2, (.fn (.func cmp2_f) cmp2_a cmp2_c)), (6, (eI aQ)), (7, (eI a7)), (8, (eI b8))] ∧ aM ⟨H0, [lo0p], []⟩ H [(lo0p, 3, List.map aE aA)] ∧ List.length aA = N0 ∧ iC cmp2 aA n1 aQ a7 b8 = some out1) ?_ ⟨aA, (0 : Int), wR ((2 : Int) * aQ), .eq (by kernel_rfl), hO, hN, h1⟩
      clear hO hN h1
      rintro T H ⟨aA, a7, b8, hT, hO, hN, h1⟩
      refine bB hT ?_
      clear hT
      unfold iC at h1
      obtain ⟨rr1, hl1, h1⟩ := aX h1
      refine bZ (by kernel_rfl) (fun (s : List aC × Int × Int) T H => Has T [(0, (.msl 3 lo0p 0 (List.length s.1))), (1, (eI n1)), (2, (.fn (.func cmp2_f) cmp2_a cmp2_c)), (6, (eI aQ)), (7, (eI s.2.1)), (8, (eI s.2.2))] ∧ aM ⟨H0, [lo0p], []⟩ H [(lo0p, 3, List.map aE s.1)] ∧ List.length s.1 = N0) hl1 ⟨.eq (by kernel_rfl), hO, hN⟩ ?_
      clear hO hN
      rintro k1 s out2 T H ⟨hT, hO, hN⟩ h2 ho1
      obtain ⟨aA, a7, b8⟩ := s
      replace h2 : iL cmp2 n1 aQ aA a7 b8 = some out2 := h2
      try dsimp only at hT
      refine bB hT ?_
      clear hT
      unfold iL at h2
      refine aP ?_
      refine aZ aG 3 [] [(35, (aK (decide (b8 ≤ n1))))] ?_
      refine bJ h2 (fun h2 => ?_) (fun h2 => ?_)
      · refine bL ?_
        refine bG [(0, (.msl 3 lo0p 0 (List.length aA))), (1, (eI n1)), (2, (.fn (.func cmp2_f) cmp2_a cmp2_c)), (6, (eI aQ)), (7, (eI a7)), (8, (eI b8))] ?_
        refine bT 5 ?_
        refine aP ?_
        refine aU aG 8 ?_
        refine bS 7 ?_
        obtain ⟨x10, hx11, h2⟩ := aX h2
        refine pI [(lo0p, 3, List.map aE x10)] 0 (pP lo0p aA a7 (wR (a7 + aQ)) b8 cmp2_f cmp2_a cmp2_c cmp2 cmp2_h _ hx11) hO ?_
        intro H hO hl12
        simp only [List.length_map] at hl12
        replace hN := hl12.trans hN
        refine cQ ?_
        refine cP (l := [(0, (.msl 3 lo0p 0 (List.length x10))), (1, (eI n1)), (2, (.fn (.func cmp2_f) cmp2_a cmp2_c)), (6, (eI aQ)), (8, (eI b8))]) ⟨[(0, (.msl 3 lo0p 0 (List.length aA))), (1, (eI n1)), (2, (.fn (.func cmp2_f) cmp2_a cmp2_c)), (6, (eI aQ)), (8, (eI b8))], by kernel_rfl, rfl, ⟨aV.eq (by simp [hl12]), aV.refl _, aV.refl _, aV.refl _, aV.refl _, trivial⟩⟩ ?_
        refine aJ (aI (?_))
        refine aZ aG 2 [] [(7, (eI b8))] ?_
        refine aU aG 5 ?_
        refine bF ?_
        exact aJ (aW (aI (⟨rfl, _, (oI h2).symm, .eq (by kernel_rfl), hO, hN⟩)))
      refine cY 4 ?_
      obtain rfl := oI h2
      obtain rfl : _ = rr1 := ho1
      replace h1 : fD cmp2 aA n1 aQ a7 = some out1 := h1
      exact aJ (aT (aT (bO (aI (⟨rfl, _, _, .eq (by kernel_rfl), hO, hN, h1⟩)))))
    refine cY 2 ?_
    obtain rfl := oI h1
    obtain rfl : _ = rr0 := ho0
    replace h0 : some aA = some r := h0
    obtain rfl := oI h0
    exact aJ (aT (aT (bO (sC (x := (.tup [])) (by kernel_rfl) (aV.refl _) ⟨rfl, hO.ext, hO.at 0 (by kernel_rfl), by simp only [List.length_map]; exact hN.trans hN0⟩))))
  refine bT 0 ?_
  refine cT [(0, (.msl 3 lo0p 0 (List.length aA))), (1, (eI n1)), (2, (.fn (.func cmp2_f) cmp2_a cmp2_c)), (6, (eI (20 : Int))), (7, (eI (0 : Int))), (8, (eI (20 : Int)))] ?_
  refine cH (fun T H => ∃ aA : List aC, ∃ aQ : Int, ∃ a7 : Int, ∃ b8 : Int, Has T [(0, (.msl 3 lo0p 0 (List.length aA))), (1, (eI n1)), (2, (.fn (.func cmp2_f) cmp2_a cmp2_c)), (6, (eI aQ)), (7, (eI a7)), (8, (eI b8))] ∧ aM ⟨H0, [lo0p], []⟩ H [(lo0p, 3, List.map aE aA)] ∧ List.length aA = N0 ∧ iP cmp2 aA n1 aQ a7 b8 = some r) ?_ ⟨aA, (20 : Int), (0 : Int), (20 : Int), .eq (by kernel_rfl), hO, hN, h0⟩
  clear hO hN h0
  rintro T H ⟨aA, aQ, a7, b8, hT, hO, hN, h0⟩
  refine bB hT ?_
  clear hT
  unfold iP at h0
  obtain ⟨rr0, hl0, h0⟩ := aX h0
  refine bZ (by kernel_rfl) (fun (s : List aC × Int × Int) T H => Has T [(0, (.msl 3 lo0p 0 (List.length s.1))), (1, (eI n1)), (2, (.fn (.func cmp2_f) cmp2_a cmp2_c)), (6, (eI aQ)), (7, (eI s.2.1)), (8, (eI s.2.2))] ∧ aM ⟨H0, [lo0p], []⟩ H [(lo0p, 3, List.map aE s.1)] ∧ List.length s.1 = N0) hl0 ⟨.eq (by kernel_rfl), hO, hN⟩ ?_
  clear hO hN
  rintro k0 s out1 T H ⟨hT, hO, hN⟩ h1 ho0
  obtain ⟨aA, a7, b8⟩ := s
  replace h1 : iE cmp2 n1 aQ aA a7 b8 = some out1 := h1
  try dsimp only at hT
  refine bB hT ?_
  clear hT
  unfold iE at h1
  refine aP ?_
  refine aZ aG 3 [] [(13, (aK (decide (b8 ≤ n1))))] ?_
  refine bJ h1 (fun h1 => ?_) (fun h1 => ?_)
  · refine bL ?_
    refine bG [(0, (.msl 3 lo0p 0 (List.length aA))), (1, (eI n1)), (2, (.fn (.func cmp2_f) cmp2_a cmp2_c)), (6, (eI aQ)), (7, (eI a7)), (8, (eI b8))] ?_
    refine bT 1 ?_
    refine aP ?_
    refine aU aG 5 ?_
    refine bS 4 ?_
    obtain ⟨x14, hx15, h1⟩ := aX h1
    refine pI [(lo0p, 3, List.map aE x14)] 0 (nR lo0p aA a7 b8 cmp2_f cmp2_a cmp2_c cmp2 cmp2_h _ hx15) hO ?_
    intro H hO hl16
    simp only [List.length_map] at hl16
    replace hN := hl16.trans hN
    refine cQ ?_
    refine cP (l := [(0, (.msl 3 lo0p 0 (List.length x14))), (1, (eI n1)), (2, (.fn (.func cmp2_f) cmp2_a cmp2_c)), (6, (eI aQ)), (8, (eI b8))]) ⟨[(0, (.msl 3 lo0p 0 (List.length aA))), (1, (eI n1)), (2, (.fn (.func cmp2_f) cmp2_a cmp2_c)), (6, (eI aQ)), (8, (eI b8))], by kernel_rfl, rfl, ⟨aV.eq (by simp [hl16]), aV.refl _, aV.refl _, aV.refl _, aV.refl _, trivial⟩⟩ ?_
    refine aJ (aI (?_))
    refine aZ aG 2 [] [(7, (eI b8))] ?_
    refine aU aG 4 ?_
    refine bF ?_
    exact aJ (aW (aI (⟨rfl, _, (oI h1).symm, .eq (by kernel_rfl), hO, hN⟩)))
  refine cY 0 ?_
  obtain rfl := oI h1
  obtain rfl : _ = rr0 := ho0
  replace h0 : fC cmp2 aA n1 aQ a7 = some r := h0
  exact aJ (aT (aT (bO (aI (⟨rfl, _, _, _, .eq (by kernel_rfl), hO, hN, h0⟩)))))

theorem tC (lo0p : Nat) (x0 : (List aC)) (cmp1_f : Nat) (cmp1_a cmp1_c : List V) (cmp1 : aC → aC → Option Int) (cmp1_h : ∀ a0 a1 r, cmp1 a0 a1 = some r → bY Tryz.prog cmp1_f (cmp1_a ++ [(aE a0), (aE a1)] ++ cmp1_c) (eI r)) (r : List aC) (h0 : dI x0 cmp1 = some r) : lP Tryz.prog 58 lo0p 3 (List.map aE x0) (List.map aE r) [(.msl 3 lo0p 0 (List.length x0)), (.fn (.func cmp1_f) cmp1_a cmp1_c)] (.tup []) := by
  intro H0 hl0
  refine cG Tryz.func58 ?_
  have hO := aM.rM hl0
  clear hl0
  obtain ⟨N0, hN0⟩ : ∃ n, n = List.length x0 := ⟨_, rfl⟩
  have hN : List.length x0 = N0 := hN0.symm
  unfold dI at h0
  refine aU aG 5 ?_
  refine bS 4 ?_
  obtain ⟨x1, hx2, h0⟩ := aX h0
  refine pI [(lo0p, 3, List.map aE x1)] 0 (AB lo0p x0 (lN x0) cmp1_f cmp1_a cmp1_c cmp1 cmp1_h _ hx2) hO ?_
  intro H hO hl3
  simp only [List.length_map] at hl3
  replace hN := hl3.trans hN
  refine cQ ?_
  refine cP (l := [(0, (.msl 3 lo0p 0 (List.length x1)))]) ⟨[(0, (.msl 3 lo0p 0 (List.length x0)))], by kernel_rfl, rfl, ⟨aV.eq (by simp [hl3]), trivial⟩⟩ ?_
  obtain rfl := oI h0
  exact aJ (sC (x := (.tup [])) (by kernel_rfl) (aV.refl _) ⟨rfl, hO.ext, hO.at 0 (by kernel_rfl), by simp only [List.length_map]; exact hN.trans hN0⟩)

theorem NI (t0 : (List aF)) (r : (Int × (List aF))) (h0 : vE t0 = some r) : DA Tryz.prog 81 [(.rp (eL aH t0))] (fun lo => (.fn (.func 82) [] [(.lp lo 0 0), (.rp (eL aH r.2))])) 1 [(eI r.1)] := by
  intro H0
  refine cG Tryz.func81 ?_
  have hO := aM.start H0
  unfold vE at h0
  refine aZ aG 1 [] [] ?_
  refine aP ?_
  refine aU aG 2 ?_
  refine mV 1 (eI 0) (by kernel_rfl) (by kernel_rfl) hO ?_
  intro lo1 H hO
  refine jP 0 lo1 1 0 (eI 0) (eI (-1 : Int)) [(eI 0)] [(lo1, 1, [(eI (-1 : Int))])] hO rfl (by kernel_rfl) ?_
  intro H hO
  refine cQ ?_
  refine bV [] [(2, (.lp lo1 0 0))] ?_
  refine aZ aG 2 [0] [(1, (.fn (.func 82) [] [(.lp lo1 0 0), (.rp (eL aH t0))]))] ?_
  refine bK ?_
  obtain rfl := oI h0
  exact aJ (rK (x := (.fn (.func 82) [] [(.lp lo1 0 0), (.rp (eL aH t0))])) (by kernel_rfl) (aV.refl _) ⟨lo1, rfl, hO⟩)

theorem uZ {σ : Type} (I : σ → Gs → Prop) (s0 : (List aF)) (f1_v : V) (f1 : σ → aF → Option (σ × Bool)) (f1_h : ∀ st a0 st2 r, f1 st a0 = some (st2, r) → KJ Tryz.prog f1_v I st [(aH a0)] st2 (aK r)) (sg0 : σ) (r : (σ × Int)) (h0 : fE s0 f1 sg0 = some r) : DD Tryz.prog 80 I sg0 [(eL aH s0), f1_v] r.1 (eI r.2) := by
  intro H0 G0 hI hg
  refine cG Tryz.func80 ?_
  obtain ⟨G, hO, hI⟩ : ∃ G, aM ⟨H0, List.map (fun p : Nat × dF => p.1) G0, G⟩ H0 [] ∧ I sg0 G := ⟨G0, aM.NR hg, hI⟩
  clear hg
  unfold fE at h0
  refine aZ aG 1 [] [] ?_
  refine cR (fun T H => ∃ sg : σ, ∃ G : Gs, Has T [] ∧ aM ⟨H0, List.map (fun p : Nat × dF => p.1) G0, G⟩ H [] ∧ I sg G ∧ dP f1 sg = some r) ?_ ?_
  · clear hO hI h0
    rintro T H ⟨sg, G, hT, hO, hI, h0⟩
    refine bB hT ?_
    clear hT
    unfold dP at h0
    refine bU aG 1 [(4, (eI (-1 : Int)))] ?_
    refine bK ?_
    obtain rfl := oI h0
    exact aJ (rK (x := (eI (-1 : Int))) (by kernel_rfl) (aV.refl _) ⟨rfl, G, hI, hO.JP⟩)
  refine aZ aG 3 [] [(7, (eI (lN s0))), (8, (eI (0 : Int)))] ?_
  refine bT 0 ?_
  refine cT [(0, (eL aH s0)), (1, f1_v), (7, (eI (lN s0))), (8, (eI (0 : Int)))] ?_
  refine cH (fun T H => ∃ sg : σ, ∃ t7 : Int, ∃ t8 : Int, ∃ G : Gs, Has T [(0, (eL aH s0)), (1, f1_v), (7, (eI t7)), (8, (eI t8))] ∧ aM ⟨H0, List.map (fun p : Nat × dF => p.1) G0, G⟩ H [] ∧ I sg G ∧ eX f1 sg s0 t7 t8 = some r) ?_ ⟨sg0, (lN s0), (0 : Int), G, .eq (by kernel_rfl), hO, hI, h0⟩
  clear hO hI h0
  rintro T H ⟨sg, t7, t8, G, hT, hO, hI, h0⟩
  refine bB hT ?_
  clear hT
  unfold eX at h0
  obtain ⟨rr0, hl0, h0⟩ := aX h0
  refine bZ (by kernel_rfl) (fun (s : σ × Int) T H => ∃ G : Gs, Has T [(0, (eL aH s0)), (1, f1_v), (7, (eI t7)), (8, (eI s.2))] ∧ aM ⟨H0, List.map (fun p : Nat × dF => p.1) G0, G⟩ H [] ∧ I s.1 G) hl0 ⟨G, .eq (by kernel_rfl), hO, hI⟩ ?_
  clear hO hI
  rintro k0 s out1 T H ⟨G, hT, hO, hI⟩ h1 ho0
  obtain ⟨sg, t8⟩ := s
  replace h1 : cB f1 s0 t7 sg t8 = some out1 := h1
  try dsimp only at hT
  refine bB hT ?_
  clear hT
  unfold cB at h1
  refine aZ aG 1 [] [(9, (aK (decide (t8 < t7))))] ?_
  refine aP ?_
  refine bJ h1 (fun h1 => ?_) (fun h1 => ?_)
  · refine bL ?_
    refine bG [(0, (eL aH s0)), (1, f1_v), (7, (eI t7)), (8, (eI t8))] ?_
    refine aP ?_
    refine bT 1 ?_
    refine aZ aG 2 [] [(5, (eI t8))] ?_
    refine aP ?_
    refine aU aG 6 ?_
    obtain ⟨c2, h1⟩ := bH h1
    refine mA 5 [0 ≤ t8 ∧ t8 < (lN s0)] ⟨c2, trivial⟩ ?_
    obtain ⟨x3, hx4, h1⟩ := aX h1
    refine YD (I := I) f1_v [(aH (gD s0 t8))] (aK x3.2) (by kernel_rfl) (by kernel_rfl) (f1_h _ (gD s0 t8) x3.1 x3.2 hx4) hO hI ?_
    intro G H hO hI
    refine cQ ?_
    refine bV [] [(16, (aK x3.2))] ?_
    refine bJ h1 (fun h1 => ?_) (fun h1 => ?_)
    · refine bU aG 2 [(4, (eI t8))] ?_
      refine bK ?_
      obtain rfl := oI h1
      obtain rfl : _ = rr0 := ho0
      replace h0 : some (x3.1, t8) = some r := h0
      obtain rfl := oI h0
      exact aJ (bR (aS (aS (bR (aS (rK (x := (eI t8)) (by kernel_rfl) (aV.refl _) ⟨rfl, G, hI, hO.JP⟩))))))
    refine bL ?_
    refine cX [(0, (eL aH s0)), (1, f1_v), (7, (eI t7)), (8, (eI t8))] ?_
    refine aJ (aW (aI (?_)))
    refine aU aG 2 ?_
    refine bF ?_
    exact aJ (aI (⟨rfl, _, (oI h1).symm, _, .eq (by kernel_rfl), hO, hI⟩))
  refine cY 0 ?_
  obtain rfl := oI h1
  obtain rfl : _ = rr0 := ho0
  replace h0 : dP f1 sg = some r := h0
  exact aJ (aT (aT (bO (aI (⟨rfl, _, _, .eq (by kernel_rfl), hO, hI, h0⟩)))))

theorem KQ (v0 : aF) (lo1p : Nat) (t1 : Int) (t2 : (List aF)) (r : (Bool × Int)) (h0 : jK v0 t1 t2 = some r) : lP Tryz.prog 82 lo1p 1 [(eI t1)] [(eI r.2)] [(aH v0), (.lp lo1p 0 0), (.rp (eL aH t2))] (aK r.1) := by
  intro H0 hl0
  refine cG Tryz.func82 ?_
  have hO := aM.rM hl0
  clear hl0
  unfold jK at h0
  refine aP ?_
  refine aU aG 2 ?_
  refine fS 3 (aH v0) (by kernel_rfl) (by kernel_rfl) ?_
  refine bF ?_
  refine bV [0] [(3, (.rp (aH v0)))] ?_
  refine aP ?_
  refine aU aG 3 ?_
  refine jZ 0 lo1p 1 0 (eI t1) (eI t1) [(eI t1)] hO rfl ?_
  refine bS 2 ?_
  refine jP 0 lo1p 1 0 (eI t1) (eI (wR (t1 + (1 : Int)))) [(eI t1)] [(lo1p, 1, [(eI (wR (t1 + (1 : Int))))])] hO rfl (by kernel_rfl) ?_
  intro H hO
  refine cQ ?_
  refine bV [] [] ?_
  refine aP ?_
  refine fQ (fP [7, 8, 11]) aG 7 ?_
  refine qG 2 ?_
  refine kX 0 lo1p 1 0 (eI (wR (t1 + (1 : Int)))) (eI (wR (t1 + (1 : Int)))) [(eI (wR (t1 + (1 : Int))))] hO rfl ?_
  obtain ⟨c1, h0⟩ := bH h0
  refine EW (Ds := [0 ≤ (wR (t1 + (1 : Int))) ∧ (wR (t1 + (1 : Int))) < (lN t2)]) (by kernel_rfl) ⟨c1, trivial⟩ ?_
  refine bG [(1, (.lp lo1p 0 0)), (4, (aK (!((decide (v0.Kind = ((gD t2 (wR (t1 + (1 : Int)))).Kind))) && ((decide (v0.Num = ((gD t2 (wR (t1 + (1 : Int)))).Num))) && ((oJ v0.Text ((gD t2 (wR (t1 + (1 : Int)))).Text)) && true))))))] ?_
  refine bK ?_
  obtain rfl := oI h0
  exact aJ (rK (x := (aK (!((decide (v0.Kind = ((gD t2 (wR (t1 + (1 : Int)))).Kind))) && ((decide (v0.Num = ((gD t2 (wR (t1 + (1 : Int)))).Num))) && ((oJ v0.Text ((gD t2 (wR (t1 + (1 : Int)))).Text)) && true)))))) (by kernel_rfl) (aV.refl _) ⟨rfl, hO.ext, hO.at 0 (by kernel_rfl), rfl⟩)

theorem FD (x0 : Int) (r : Bool) (h0 : oQ x0 = some r) : bY Tryz.prog 84 [(eI x0)] (aK r) := by
  intro H0
  refine cG Tryz.func84 ?_
  have hO := aM.start H0
  unfold oQ at h0
  refine aZ aG 1 [] [] ?_
  refine bU aG 4 [(2, (aK (!decide (x0 = x0))))] ?_
  refine bK ?_
  obtain rfl := oI h0
  exact aJ (Q_r hO)

theorem xM (x0 : Int) (y1 : Int) (r : Int) (h0 : jL x0 y1 = some r) : bY Tryz.prog 62 [(eI x0), (eI y1)] (eI r) := by
  intro H0
  refine cG Tryz.func62 ?_
  have hO := aM.start H0
  unfold jL at h0
  refine aZ aG 1 [] [] ?_
  refine aP ?_
  refine aU aG 3 ?_
  refine bS 1 ?_
  obtain ⟨x1, hx2, h0⟩ := aX h0
  refine cF (FD x0 _ hx2) hO ?_
  intro H hO
  refine bF ?_
  refine bV [] [(5, (aK x1))] ?_
  refine aP ?_
  refine aU aG 3 ?_
  refine bS 1 ?_
  obtain ⟨x4, hx5, h0⟩ := aX h0
  refine cF (FD y1 _ hx5) hO ?_
  intro H hO
  refine bF ?_
  refine bV [] [(6, (aK x4))] ?_
  refine aP ?_
  refine aZ aG 1 [5] [(11, (aK x1))] ?_
  refine bJ h0 (fun h0 => ?_) (fun h0 => ?_)
  · refine aP ?_
    refine bU aG 1 [(12, (aK x4))] ?_
    refine bJ h0 (fun h0 => ?_) (fun h0 => ?_)
    · refine bU aG 1 [(4, (eI (0 : Int)))] ?_
      refine bK ?_
      obtain rfl := oI h0
      exact aJ (aS (aS (Q_r hO)))
    refine bL ?_
    refine bG [] ?_
    refine bU aG 1 [(4, (eI (-1 : Int)))] ?_
    refine bK ?_
    obtain rfl := oI h0
    exact aJ (aS (Q_r hO))
  refine bL ?_
  refine bG [(0, (eI x0)), (1, (eI y1)), (6, (aK x4))] ?_
  refine aP ?_
  refine aZ aG 1 [6] [(13, (aK x4))] ?_
  refine bJ h0 (fun h0 => ?_) (fun h0 => ?_)
  · refine bU aG 1 [(4, (eI (1 : Int)))] ?_
    refine bK ?_
    obtain rfl := oI h0
    exact aJ (aS (Q_r hO))
  refine bL ?_
  refine bG [(0, (eI x0)), (1, (eI y1))] ?_
  refine aP ?_
  refine aZ aG 3 [] [(16, (aK (decide (x0 < y1))))] ?_
  refine bJ h0 (fun h0 => ?_) (fun h0 => ?_)
  · refine bU aG 1 [(4, (eI (-1 : Int)))] ?_
    refine bK ?_
    obtain rfl := oI h0
    exact aJ (aS (Q_r hO))
  refine bL ?_
  refine bG [(0, (eI x0)), (1, (eI y1))] ?_
  refine aP ?_
  refine bU aG 3 [(19, (aK (decide (y1 < x0))))] ?_
  refine bJ h0 (fun h0 => ?_) (fun h0 => ?_)
  · refine bU aG 1 [(4, (eI (1 : Int)))] ?_
    refine bK ?_
    obtain rfl := oI h0
    exact aJ (aS (Q_r hO))
  refine bL ?_
  refine bG [] ?_
  refine bU aG 1 [(4, (eI (0 : Int)))] ?_
  refine bK ?_
  obtain rfl := oI h0
  exact aJ (Q_r hO)

theorem vL (x0 : Int) (r : Bool) (h0 : jS x0 = some r) : bY Tryz.prog 104 [(eI x0)] (aK r) := by
  intro H0
  refine cG Tryz.func104 ?_
  have hO := aM.start H0
  unfold jS at h0
  refine aZ aG 1 [] [] ?_
  refine bU aG 4 [(2, (aK (!decide (x0 = x0))))] ?_
  refine bK ?_
  obtain rfl := oI h0
  exact aJ (Q_r hO)

theorem CV (x0 : Int) (y1 : Int) (r : Int) (h0 : eH x0 y1 = some r) : bY Tryz.prog 99 [(eI x0), (eI y1)] (eI r) := by
  intro H0
  refine cG Tryz.func99 ?_
  have hO := aM.start H0
  unfold eH at h0
  refine aZ aG 1 [] [] ?_
  refine aP ?_
  refine aU aG 3 ?_
  refine bS 1 ?_
  obtain ⟨x1, hx2, h0⟩ := aX h0
  refine cF (vL x0 _ hx2) hO ?_
  intro H hO
  refine bF ?_
  refine bV [] [(5, (aK x1))] ?_
  refine aP ?_
  refine aU aG 3 ?_
  refine bS 1 ?_
  obtain ⟨x4, hx5, h0⟩ := aX h0
  refine cF (vL y1 _ hx5) hO ?_
  intro H hO
  refine bF ?_
  refine bV [] [(6, (aK x4))] ?_
  refine aP ?_
  refine aZ aG 1 [5] [(11, (aK x1))] ?_
  refine bJ h0 (fun h0 => ?_) (fun h0 => ?_)
  · refine aP ?_
    refine bU aG 1 [(12, (aK x4))] ?_
    refine bJ h0 (fun h0 => ?_) (fun h0 => ?_)
    · refine bU aG 1 [(4, (eI (0 : Int)))] ?_
      refine bK ?_
      obtain rfl := oI h0
      exact aJ (aS (aS (Q_r hO)))
    refine bL ?_
    refine bG [] ?_
    refine bU aG 1 [(4, (eI (-1 : Int)))] ?_
    refine bK ?_
    obtain rfl := oI h0
    exact aJ (aS (Q_r hO))
  refine bL ?_
  refine bG [(0, (eI x0)), (1, (eI y1)), (6, (aK x4))] ?_
  refine aP ?_
  refine aZ aG 1 [6] [(13, (aK x4))] ?_
  refine bJ h0 (fun h0 => ?_) (fun h0 => ?_)
  · refine bU aG 1 [(4, (eI (1 : Int)))] ?_
    refine bK ?_
    obtain rfl := oI h0
    exact aJ (aS (Q_r hO))
  refine bL ?_
  refine bG [(0, (eI x0)), (1, (eI y1))] ?_
  refine aP ?_
  refine aZ aG 3 [] [(16, (aK (decide (x0 < y1))))] ?_
  refine bJ h0 (fun h0 => ?_) (fun h0 => ?_)
  · refine bU aG 1 [(4, (eI (-1 : Int)))] ?_
    refine bK ?_
    obtain rfl := oI h0
    exact aJ (aS (Q_r hO))
  refine bL ?_
  refine bG [(0, (eI x0)), (1, (eI y1))] ?_
  refine aP ?_
  refine bU aG 3 [(19, (aK (decide (y1 < x0))))] ?_
  refine bJ h0 (fun h0 => ?_) (fun h0 => ?_)
  · refine bU aG 1 [(4, (eI (1 : Int)))] ?_
    refine bK ?_
    obtain rfl := oI h0
    exact aJ (aS (Q_r hO))
  refine bL ?_
  refine bG [] ?_
  refine bU aG 1 [(4, (eI (0 : Int)))] ?_
  refine bK ?_
  obtain rfl := oI h0
  exact aJ (Q_r hO)

theorem zM (a0 : ByteArray) (b1 : ByteArray) (r : Int) (h0 : iO a0 b1 = some r) : bY Tryz.prog 105 [(BH a0), (BH b1)] (eI r) := by
  intro H0
  refine cG Tryz.func105 ?_
  have hO := aM.start H0
  unfold iO at h0
  refine aZ aG 1 [] [] ?_
  refine aP ?_
  refine aU aG 4 ?_
  refine bS 2 ?_
  refine aCE 109 [(BH a0), (BH b1)] (eI (PD a0 b1)) (by kernel_rfl) (by kernel_rfl) (aBi Tryz.func109 (by kernel_rfl) (by kernel_rfl) (by kernel_rfl) (by kernel_rfl) a0 b1) hO ?_
  intro H hO
  refine bF ?_
  refine bG [(4, (eI (PD a0 b1)))] ?_
  refine bK ?_
  obtain rfl := oI h0
  exact aJ (Q_r hO)

theorem KP (a0 : ByteArray) (b1 : ByteArray) (r : Int) (h0 : mZ a0 b1 = some r) : bY Tryz.prog 100 [(BH a0), (BH b1)] (eI r) := by
  intro H0
  refine cG Tryz.func100 ?_
  have hO := aM.start H0
  unfold mZ at h0
  refine aZ aG 1 [] [] ?_
  refine aP ?_
  refine aU aG 4 ?_
  refine bS 2 ?_
  obtain ⟨x1, hx2, h0⟩ := aX h0
  refine cF (zM a0 b1 _ hx2) hO ?_
  intro H hO
  refine bF ?_
  refine bG [(4, (eI x1))] ?_
  refine bK ?_
  obtain rfl := oI h0
  exact aJ (Q_r hO)

theorem MZ (a0 : aF) (b1 : aF) (r : Int) (h0 : rN a0 b1 = some r) : bY Tryz.prog 83 [(aH a0), (aH b1)] (eI r) := by
  intro H0
  refine cG Tryz.func83 ?_
  have hO := aM.start H0
  unfold rN at h0
  refine aP ?_
  refine aU aG 3 ?_
  refine fS 3 (aH a0) (by kernel_rfl) (by kernel_rfl) ?_
  refine fS 3 (aH b1) (by kernel_rfl) (by kernel_rfl) ?_
  refine bF ?_
  refine bG [(2, (.rp (aH a0))), (3, (.rp (aH b1)))] ?_
  refine aP ?_
  refine aU aG 7 ?_
  refine bS 1 ?_
  obtain ⟨⟨x1_0, x1_1⟩, hx2, h0⟩ := aX h0
  refine cF (BE a0 _ hx2) hO ?_
  intro H hO
  rcases x1_0 with _ | y4 | y5
  · replace h0 : ((lX b1).bind fun (x6_0, x6_1) => match x6_0 with | .none_ => (cond ((!x1_1) || (!x6_1)) (some (0 : Int)) (none)) | .k_number y9 => (cond ((!x1_1) || (!x6_1)) (some (0 : Int)) (some (1 : Int))) | .k_words y10 => (cond ((!x1_1) || (!x6_1)) (some (0 : Int)) (none))) = some r := h0
    refine bF ?_
    refine bV [2] [(5, (bM bQ.none_)), (6, (aK x1_1))] ?_
    refine aP ?_
    refine aU aG 7 ?_
    refine bS 1 ?_
    obtain ⟨⟨x6_0, x6_1⟩, hx7, h0⟩ := aX h0
    refine cF (BE b1 _ hx7) hO ?_
    intro H hO
    rcases x6_0 with _ | y9 | y10
    · replace h0 : (cond ((!x1_1) || (!x6_1)) (some (0 : Int)) (none)) = some r := h0
      refine bF ?_
      refine bV [3] [(7, (bM bQ.none_)), (8, (aK x6_1))] ?_
      refine aP ?_
      refine aZ aG 6 [6, 8] [(28, (aK ((!x1_1) || (!x6_1))))] ?_
      refine bJ h0 (fun h0 => ?_) (fun h0 => ?_)
      · refine bU aG 1 [(4, (eI (0 : Int)))] ?_
        refine bK ?_
        obtain rfl := oI h0
        exact aJ (aS (Q_r hO))
      refine bL ?_
      refine bG [(5, (bM bQ.none_)), (7, (bM bQ.none_))] ?_
      refine aZ aG 7 [] [(9, (eI 0)), (10, (aK false))] ?_
      refine aZ aG 7 [] [(11, (eI 0)), (12, (aK false))] ?_
      refine aP ?_
      refine bT 0 ?_
      refine aZ aG 5 [] [(39, (aK false))] ?_
      refine oV (false) (fun hc12 => ?_) (fun hc12 => ?_)
      · cases hc12
      · refine aZ aG 2 [9, 10, 11, 39] [(47, (aK false))] ?_
        refine oV (false) (fun hc13 => ?_) (fun hc13 => ?_)
        · cases hc13
        · refine bU aG 2 [(5, (bM bQ.none_)), (7, (bM bQ.none_)), (49, (aK false))] ?_
          refine oV (false) (fun hc14 => ?_) (fun hc14 => ?_)
          · cases hc14
          · refine bL ?_
            refine cX [(5, (bM bQ.none_)), (7, (bM bQ.none_))] ?_
            refine aJ (aW (aI (?_)))
            refine aP ?_
            refine fQ (fP []) aG 6 ?_
            cases h0
    · replace h0 : (cond ((!x1_1) || (!x6_1)) (some (0 : Int)) (some (1 : Int))) = some r := h0
      refine bF ?_
      refine bV [3] [(7, (bM (bQ.k_number y9))), (8, (aK x6_1))] ?_
      refine aP ?_
      refine aZ aG 6 [6, 8] [(28, (aK ((!x1_1) || (!x6_1))))] ?_
      refine bJ h0 (fun h0 => ?_) (fun h0 => ?_)
      · refine bU aG 1 [(4, (eI (0 : Int)))] ?_
        refine bK ?_
        obtain rfl := oI h0
        exact aJ (aS (Q_r hO))
      refine bL ?_
      refine bG [(5, (bM bQ.none_)), (7, (bM (bQ.k_number y9)))] ?_
      refine aZ aG 7 [] [(9, (eI 0)), (10, (aK false))] ?_
      refine aZ aG 7 [] [(11, (eI y9)), (12, (aK true))] ?_
      refine aP ?_
      refine bT 0 ?_
      refine aZ aG 5 [] [(39, (aK false))] ?_
      refine oV (false) (fun hc16 => ?_) (fun hc16 => ?_)
      · cases hc16
      · refine aZ aG 2 [9, 10, 11, 39] [(47, (aK false))] ?_
        refine oV (false) (fun hc17 => ?_) (fun hc17 => ?_)
        · cases hc17
        · refine bU aG 2 [(5, (bM bQ.none_)), (7, (bM (bQ.k_number y9))), (49, (aK true))] ?_
          refine oV (true) (fun hc18 => ?_) (fun hc18 => ?_)
          · refine bU aG 1 [(4, (eI (1 : Int)))] ?_
            refine bK ?_
            obtain rfl := oI h0
            exact aJ (bR (aS (Q_r hO)))
          · cases hc18
    · replace h0 : (cond ((!x1_1) || (!x6_1)) (some (0 : Int)) (none)) = some r := h0
      refine bF ?_
      refine bV [3] [(7, (bM (bQ.k_words y10))), (8, (aK x6_1))] ?_
      refine aP ?_
      refine aZ aG 6 [6, 8] [(28, (aK ((!x1_1) || (!x6_1))))] ?_
      refine bJ h0 (fun h0 => ?_) (fun h0 => ?_)
      · refine bU aG 1 [(4, (eI (0 : Int)))] ?_
        refine bK ?_
        obtain rfl := oI h0
        exact aJ (aS (Q_r hO))
      refine bL ?_
      refine bG [(5, (bM bQ.none_)), (7, (bM (bQ.k_words y10)))] ?_
      refine aZ aG 7 [] [(9, (eI 0)), (10, (aK false))] ?_
      refine aZ aG 7 [] [(11, (eI 0)), (12, (aK false))] ?_
      refine aP ?_
      refine bT 0 ?_
      refine aZ aG 5 [] [(39, (aK false))] ?_
      refine oV (false) (fun hc20 => ?_) (fun hc20 => ?_)
      · cases hc20
      · refine aZ aG 2 [9, 10, 11, 39] [(47, (aK false))] ?_
        refine oV (false) (fun hc21 => ?_) (fun hc21 => ?_)
        · cases hc21
        · refine bU aG 2 [(5, (bM bQ.none_)), (7, (bM (bQ.k_words y10))), (49, (aK false))] ?_
          refine oV (false) (fun hc22 => ?_) (fun hc22 => ?_)
          · cases hc22
          · refine bL ?_
            refine cX [(5, (bM bQ.none_)), (7, (bM (bQ.k_words y10)))] ?_
            refine aJ (aW (aI (?_)))
            refine aP ?_
            refine fQ (fP []) aG 6 ?_
            cases h0
  · replace h0 : ((lX b1).bind fun (x23_0, x23_1) => match x23_0 with | .none_ => (cond ((!x1_1) || (!x23_1)) (some (0 : Int)) (some (-1 : Int))) | .k_number y26 => (cond ((!x1_1) || (!x23_1)) (some (0 : Int)) ((eH y4 y26).bind fun x33 => some x33)) | .k_words y27 => (cond ((!x1_1) || (!x23_1)) (some (0 : Int)) (some (-1 : Int)))) = some r := h0
    refine bF ?_
    refine bV [2] [(5, (bM (bQ.k_number y4))), (6, (aK x1_1))] ?_
    refine aP ?_
    refine aU aG 7 ?_
    refine bS 1 ?_
    obtain ⟨⟨x23_0, x23_1⟩, hx24, h0⟩ := aX h0
    refine cF (BE b1 _ hx24) hO ?_
    intro H hO
    rcases x23_0 with _ | y26 | y27
    · replace h0 : (cond ((!x1_1) || (!x23_1)) (some (0 : Int)) (some (-1 : Int))) = some r := h0
      refine bF ?_
      refine bV [3] [(7, (bM bQ.none_)), (8, (aK x23_1))] ?_
      refine aP ?_
      refine aZ aG 6 [6, 8] [(28, (aK ((!x1_1) || (!x23_1))))] ?_
      refine bJ h0 (fun h0 => ?_) (fun h0 => ?_)
      · refine bU aG 1 [(4, (eI (0 : Int)))] ?_
        refine bK ?_
        obtain rfl := oI h0
        exact aJ (aS (Q_r hO))
      refine bL ?_
      refine bG [(5, (bM (bQ.k_number y4))), (7, (bM bQ.none_))] ?_
      refine aZ aG 7 [] [(9, (eI y4)), (10, (aK true))] ?_
      refine aZ aG 7 [] [(11, (eI 0)), (12, (aK false))] ?_
      refine aP ?_
      refine bT 0 ?_
      refine aZ aG 5 [] [(39, (aK false))] ?_
      refine oV (false) (fun hc29 => ?_) (fun hc29 => ?_)
      · cases hc29
      · refine aZ aG 2 [9, 10, 11, 39] [(47, (aK true))] ?_
        refine oV (true) (fun hc30 => ?_) (fun hc30 => ?_)
        · refine bU aG 1 [(4, (eI (-1 : Int)))] ?_
          refine bK ?_
          obtain rfl := oI h0
          exact aJ (bR (aS (Q_r hO)))
        · cases hc30
    · replace h0 : (cond ((!x1_1) || (!x23_1)) (some (0 : Int)) ((eH y4 y26).bind fun x33 => some x33)) = some r := h0
      refine bF ?_
      refine bV [3] [(7, (bM (bQ.k_number y26))), (8, (aK x23_1))] ?_
      refine aP ?_
      refine aZ aG 6 [6, 8] [(28, (aK ((!x1_1) || (!x23_1))))] ?_
      refine bJ h0 (fun h0 => ?_) (fun h0 => ?_)
      · refine bU aG 1 [(4, (eI (0 : Int)))] ?_
        refine bK ?_
        obtain rfl := oI h0
        exact aJ (aS (Q_r hO))
      refine bL ?_
      refine bG [(5, (bM (bQ.k_number y4))), (7, (bM (bQ.k_number y26)))] ?_
      refine aZ aG 7 [] [(9, (eI y4)), (10, (aK true))] ?_
      refine aZ aG 7 [] [(11, (eI y26)), (12, (aK true))] ?_
      refine aP ?_
      refine bT 0 ?_
      refine aZ aG 5 [] [(39, (aK true))] ?_
      refine oV (true) (fun hc32 => ?_) (fun hc32 => ?_)
      · refine aP ?_
        refine aU aG 4 ?_
        refine bS 2 ?_
        obtain ⟨x33, hx34, h0⟩ := aX h0
        refine cF (CV y4 y26 _ hx34) hO ?_
        intro H hO
        refine bF ?_
        refine bG [(4, (eI x33))] ?_
        refine bK ?_
        obtain rfl := oI h0
        exact aJ (bR (aS (Q_r hO)))
      · cases hc32
    · replace h0 : (cond ((!x1_1) || (!x23_1)) (some (0 : Int)) (some (-1 : Int))) = some r := h0
      refine bF ?_
      refine bV [3] [(7, (bM (bQ.k_words y27))), (8, (aK x23_1))] ?_
      refine aP ?_
      refine aZ aG 6 [6, 8] [(28, (aK ((!x1_1) || (!x23_1))))] ?_
      refine bJ h0 (fun h0 => ?_) (fun h0 => ?_)
      · refine bU aG 1 [(4, (eI (0 : Int)))] ?_
        refine bK ?_
        obtain rfl := oI h0
        exact aJ (aS (Q_r hO))
      refine bL ?_
      refine bG [(5, (bM (bQ.k_number y4))), (7, (bM (bQ.k_words y27)))] ?_
      refine aZ aG 7 [] [(9, (eI y4)), (10, (aK true))] ?_
      refine aZ aG 7 [] [(11, (eI 0)), (12, (aK false))] ?_
      refine aP ?_
      refine bT 0 ?_
      refine aZ aG 5 [] [(39, (aK false))] ?_
      refine oV (false) (fun hc37 => ?_) (fun hc37 => ?_)
      · cases hc37
      · refine aZ aG 2 [9, 10, 11, 39] [(47, (aK true))] ?_
        refine oV (true) (fun hc38 => ?_) (fun hc38 => ?_)
        · refine bU aG 1 [(4, (eI (-1 : Int)))] ?_
          refine bK ?_
          obtain rfl := oI h0
          exact aJ (bR (aS (Q_r hO)))
        · cases hc38
  · replace h0 : ((lX b1).bind fun (x39_0, x39_1) => match x39_0 with | .none_ => (cond ((!x1_1) || (!x39_1)) (some (0 : Int)) (none)) | .k_number y42 => (cond ((!x1_1) || (!x39_1)) (some (0 : Int)) (some (1 : Int))) | .k_words y43 => (cond ((!x1_1) || (!x39_1)) (some (0 : Int)) ((mZ y5 y43).bind fun x56 => some x56))) = some r := h0
    refine bF ?_
    refine bV [2] [(5, (bM (bQ.k_words y5))), (6, (aK x1_1))] ?_
    refine aP ?_
    refine aU aG 7 ?_
    refine bS 1 ?_
    obtain ⟨⟨x39_0, x39_1⟩, hx40, h0⟩ := aX h0
    refine cF (BE b1 _ hx40) hO ?_
    intro H hO
    rcases x39_0 with _ | y42 | y43
    · replace h0 : (cond ((!x1_1) || (!x39_1)) (some (0 : Int)) (none)) = some r := h0
      refine bF ?_
      refine bV [3] [(7, (bM bQ.none_)), (8, (aK x39_1))] ?_
      refine aP ?_
      refine aZ aG 6 [6, 8] [(28, (aK ((!x1_1) || (!x39_1))))] ?_
      refine bJ h0 (fun h0 => ?_) (fun h0 => ?_)
      · refine bU aG 1 [(4, (eI (0 : Int)))] ?_
        refine bK ?_
        obtain rfl := oI h0
        exact aJ (aS (Q_r hO))
      refine bL ?_
      refine bG [(5, (bM (bQ.k_words y5))), (7, (bM bQ.none_))] ?_
      refine aZ aG 7 [] [(9, (eI 0)), (10, (aK false))] ?_
      refine aZ aG 7 [] [(11, (eI 0)), (12, (aK false))] ?_
      refine aP ?_
      refine bT 0 ?_
      refine aZ aG 5 [] [(39, (aK false))] ?_
      refine oV (false) (fun hc45 => ?_) (fun hc45 => ?_)
      · cases hc45
      · refine aZ aG 2 [9, 10, 11, 39] [(47, (aK false))] ?_
        refine oV (false) (fun hc46 => ?_) (fun hc46 => ?_)
        · cases hc46
        · refine bU aG 2 [(5, (bM (bQ.k_words y5))), (7, (bM bQ.none_)), (49, (aK false))] ?_
          refine oV (false) (fun hc47 => ?_) (fun hc47 => ?_)
          · cases hc47
          · refine bL ?_
            refine cX [(5, (bM (bQ.k_words y5))), (7, (bM bQ.none_))] ?_
            refine aJ (aW (aI (?_)))
            refine aP ?_
            refine fQ (fP []) aG 6 ?_
            cases h0
    · replace h0 : (cond ((!x1_1) || (!x39_1)) (some (0 : Int)) (some (1 : Int))) = some r := h0
      refine bF ?_
      refine bV [3] [(7, (bM (bQ.k_number y42))), (8, (aK x39_1))] ?_
      refine aP ?_
      refine aZ aG 6 [6, 8] [(28, (aK ((!x1_1) || (!x39_1))))] ?_
      refine bJ h0 (fun h0 => ?_) (fun h0 => ?_)
      · refine bU aG 1 [(4, (eI (0 : Int)))] ?_
        refine bK ?_
        obtain rfl := oI h0
        exact aJ (aS (Q_r hO))
      refine bL ?_
      refine bG [(5, (bM (bQ.k_words y5))), (7, (bM (bQ.k_number y42)))] ?_
      refine aZ aG 7 [] [(9, (eI 0)), (10, (aK false))] ?_
      refine aZ aG 7 [] [(11, (eI y42)), (12, (aK true))] ?_
      refine aP ?_
      refine bT 0 ?_
      refine aZ aG 5 [] [(39, (aK false))] ?_
      refine oV (false) (fun hc49 => ?_) (fun hc49 => ?_)
      · cases hc49
      · refine aZ aG 2 [9, 10, 11, 39] [(47, (aK false))] ?_
        refine oV (false) (fun hc50 => ?_) (fun hc50 => ?_)
        · cases hc50
        · refine bU aG 2 [(5, (bM (bQ.k_words y5))), (7, (bM (bQ.k_number y42))), (49, (aK true))] ?_
          refine oV (true) (fun hc51 => ?_) (fun hc51 => ?_)
          · refine bU aG 1 [(4, (eI (1 : Int)))] ?_
            refine bK ?_
            obtain rfl := oI h0
            exact aJ (bR (aS (Q_r hO)))
          · cases hc51
    · replace h0 : (cond ((!x1_1) || (!x39_1)) (some (0 : Int)) ((mZ y5 y43).bind fun x56 => some x56)) = some r := h0
      refine bF ?_
      refine bV [3] [(7, (bM (bQ.k_words y43))), (8, (aK x39_1))] ?_
      refine aP ?_
      refine aZ aG 6 [6, 8] [(28, (aK ((!x1_1) || (!x39_1))))] ?_
      refine bJ h0 (fun h0 => ?_) (fun h0 => ?_)
      · refine bU aG 1 [(4, (eI (0 : Int)))] ?_
        refine bK ?_
        obtain rfl := oI h0
        exact aJ (aS (Q_r hO))
      refine bL ?_
      refine bG [(5, (bM (bQ.k_words y5))), (7, (bM (bQ.k_words y43)))] ?_
      refine aZ aG 7 [] [(9, (eI 0)), (10, (aK false))] ?_
      refine aZ aG 7 [] [(11, (eI 0)), (12, (aK false))] ?_
      refine aP ?_
      refine bT 0 ?_
      refine aZ aG 5 [] [(39, (aK false))] ?_
      refine oV (false) (fun hc53 => ?_) (fun hc53 => ?_)
      · cases hc53
      · refine aZ aG 2 [9, 10, 11, 39] [(47, (aK false))] ?_
        refine oV (false) (fun hc54 => ?_) (fun hc54 => ?_)
        · cases hc54
        · refine bU aG 2 [(5, (bM (bQ.k_words y5))), (7, (bM (bQ.k_words y43))), (49, (aK false))] ?_
          refine oV (false) (fun hc55 => ?_) (fun hc55 => ?_)
          · cases hc55
          · refine bL ?_
            refine cX [(5, (bM (bQ.k_words y5))), (7, (bM (bQ.k_words y43)))] ?_
            refine aJ (aW (aI (?_)))
            refine aP ?_
            refine fQ (fP []) aG 6 ?_
            refine qG 4 ?_
            obtain ⟨x56, hx57, h0⟩ := aX h0
            refine zK (KP y5 y43 _ hx57) hO ?_
            intro H hO
            refine jO ?_
            refine bG [(4, (eI x56))] ?_
            refine bK ?_
            obtain rfl := oI h0
            exact aJ (Q_r hO)

theorem ID (a0 : (List aF)) (b1 : (List aF)) (r : Int) (h0 : qU a0 b1 = some r) : bY Tryz.prog 61 [(eL aH a0), (eL aH b1)] (eI r) := by
  intro H0
  refine cG Tryz.func61 ?_
  have hO := aM.start H0
  unfold qU at h0
  refine aP ?_
  refine aU aG 2 ?_
  refine fS 1 (eL aH b1) (by kernel_rfl) (by kernel_rfl) ?_
  refine bF ?_
  refine bV [1] [(3, (.rp (eL aH b1)))] ?_
  refine aP ?_
  refine aP ?_
  refine aU aG 8 ?_
  refine bS 1 ?_
  obtain ⟨x1, hx2, h0⟩ := aX h0
  refine cF (CG a0 _ hx2) hO ?_
  intro H hO
  refine bS 5 ?_
  obtain ⟨x4, hx5, h0⟩ := aX h0
  refine gI [(10, false)] 35 [(eL aH b1)] (aK x4) (!(!x1)) (by kernel_rfl) (by kernel_rfl) (by kernel_rfl) (fun hb6 => (CG b1 _ (fW hx5 hb6))) hO ?_
  intro H hO
  refine bF ?_
  refine bV [] [(14, (aK ((!x1) || (!x4))))] ?_
  refine bJ h0 (fun h0 => ?_) (fun h0 => ?_)
  · refine bU aG 1 [(4, (eI (0 : Int)))] ?_
    refine bK ?_
    obtain rfl := oI h0
    exact aJ (aS (Q_r hO))
  refine bL ?_
  refine bG [(0, (eL aH a0)), (3, (.rp (eL aH b1)))] ?_
  refine aZ aG 6 [] [(5, (eI (if (lN b1) < (lN a0) then (lN b1) else (lN a0))))] ?_
  refine aP ?_
  refine fQ (fP []) aG 7 ?_
  obtain ⟨c8, h0⟩ := bH h0
  refine cZ 4 [0 ≤ (if (lN b1) < (lN a0) then (lN b1) else (lN a0)) ∧ (if (lN b1) < (lN a0) then (lN b1) else (lN a0)) ≤ (lN a0)] ⟨c8, trivial⟩ ?_
  obtain ⟨x9, hx10, h0⟩ := aX h0
  refine aCk (L' := fun lo11 => [(lo11, 1, [(eI x9.1)])]) 1 [(eI x9.1)] 81 [(.rp (eL aH b1))] (fun lo11 => (.fn (.func 82) [] [(.lp lo11 0 0), (.rp (eL aH x9.2))])) (by kernel_rfl) (by kernel_rfl) (NI b1 _ hx10) hO (fun _ => by kernel_rfl) ?_
  intro lo11 H hO
  obtain ⟨x12, hx13, h0⟩ := aX h0
  refine aCv (fun st G' => G' = up [(lo11, 1, [(eI st)])] ++ []) [(lo11, 1, [(eI x12.1)])] x9.1 x12.1 80 [(.sl false (Int.toNat (if (lN b1) < (lN a0) then (lN b1) else (lN a0))) (fun i => aH (List.getD a0 i default))), (.fn (.func 82) [] [(.lp lo11 0 0), (.rp (eL aH x9.2))])] (eI x12.2) (by kernel_rfl) (by kernel_rfl) (DD.sub (as0' := [(eL aH (List.take (Int.toNat (if (lN b1) < (lN a0) then (lN b1) else (lN a0))) a0)), (.fn (.func 82) [] [(.lp lo11 0 0), (.rp (eL aH x9.2))])]) (uZ _ (List.take (Int.toNat (if (lN b1) < (lN a0) then (lN b1) else (lN a0))) a0) (.fn (.func 82) [] [(.lp lo11 0 0), (.rp (eL aH x9.2))]) (fun st y0 => (jK y0 st x9.2).bind fun o => some (o.2, o.1)) (fun st y0 st2 rr hr => (KQ y0 lo11 st x9.2 _ (aDj hr)).toV (ys := []) (zs := [(aH y0)]) (cs := [(.lp lo11 0 0), (.rp (eL aH x9.2))]) (fun Gx hG => ⟨up [], up [] ++ [], hG, rfl⟩)) _ _ hx13) ⟨aCm (Int.toNat_le.2 (And.right c8)), aV.refl _, trivial⟩) hO rfl (fun _ h => h) ?_
  intro H hO
  refine jO ?_
  replace hO := hO.pick (L' := []) [] (by decide) (by kernel_rfl)
  refine bV [5] [(6, (eI x12.2))] ?_
  refine aP ?_
  refine aZ aG 2 [] [(27, (aK (decide (x12.2 < (0 : Int)))))] ?_
  refine bJ h0 (fun h0 => ?_) (fun h0 => ?_)
  · refine aP ?_
    refine aU aG 6 ?_
    refine bS 4 ?_
    obtain ⟨x15, hx16, h0⟩ := aX h0
    refine cF (xM (lN a0) (lN b1) _ hx16) hO ?_
    intro H hO
    refine bF ?_
    refine bG [(4, (eI x15))] ?_
    refine bK ?_
    obtain rfl := oI h0
    exact aJ (aS (Q_r hO))
  refine bL ?_
  refine bG [(0, (eL aH a0)), (3, (.rp (eL aH b1))), (6, (eI x12.2))] ?_
  refine aP ?_
  refine fQ (fP [36, 37, 40, 41]) aG 10 ?_
  obtain ⟨c18, h0⟩ := bH h0
  obtain ⟨c19, h0⟩ := bH h0
  refine cZ 8 [0 ≤ x12.2 ∧ x12.2 < (lN a0), 0 ≤ x12.2 ∧ x12.2 < (lN b1)] ⟨c18, c19, trivial⟩ ?_
  obtain ⟨x20, hx21, h0⟩ := aX h0
  refine zK (MZ (gD a0 x12.2) (gD b1 x12.2) _ hx21) hO ?_
  intro H hO
  refine jO ?_
  refine bG [(4, (eI x20))] ?_
  refine bK ?_
  obtain rfl := oI h0
  exact aJ (Q_r hO)

theorem TF (BF : (List Int)) (r : Int) (h0 : vQ BF = some r) : bY Tryz.prog 60 [(eL (eI) BF)] (eI r) := by
  intro H0
  refine cG Tryz.func60 ?_
  have hO := aM.start H0
  unfold vQ at h0
  refine aZ aG 1 [] [] ?_
  refine aZ aG 1 [] [(3, (eI (0 : Int)))] ?_
  refine cR (fun T H => ∃ oG : Int, Has T [(3, (eI oG))] ∧ aM ⟨H0, [], []⟩ H [] ∧ uM oG = some r) ?_ ?_
  · clear hO h0
    rintro T H ⟨oG, hT, hO, h0⟩
    refine bB hT ?_
    clear hT
    unfold uM at h0
    refine bU aG 2 [(2, (eI oG))] ?_
    refine bK ?_
    obtain rfl := oI h0
    exact aJ (Q_r hO)
  refine aZ aG 3 [0] [(6, (eL (eI) BF)), (7, (eI (lN BF))), (8, (eI (0 : Int)))] ?_
  refine bT 0 ?_
  refine cT [(3, (eI (0 : Int))), (6, (eL (eI) BF)), (7, (eI (lN BF))), (8, (eI (0 : Int)))] ?_
  refine cH (fun T H => ∃ oG : Int, ∃ t6 : (List Int), ∃ t7 : Int, ∃ t8 : Int, Has T [(3, (eI oG)), (6, (eL (eI) t6)), (7, (eI t7)), (8, (eI t8))] ∧ aM ⟨H0, [], []⟩ H [] ∧ zE oG t6 t7 t8 = some r) ?_ ⟨(0 : Int), BF, (lN BF), (0 : Int), .eq (by kernel_rfl), hO, h0⟩
  clear hO h0
  rintro T H ⟨oG, t6, t7, t8, hT, hO, h0⟩
  refine bB hT ?_
  clear hT
  unfold zE at h0
  obtain ⟨rr0, hl0, h0⟩ := aX h0
  refine bZ (by kernel_rfl) (fun (s : Int) T H => Has T [(3, (eI oG)), (6, (eL (eI) t6)), (7, (eI t7)), (8, (eI s))] ∧ aM ⟨H0, [], []⟩ H []) hl0 ⟨.eq (by kernel_rfl), hO⟩ ?_
  clear hO
  rintro k0 s out1 T H ⟨hT, hO⟩ h1 ho0
  obtain ⟨t8, rfl⟩ : ∃ x, x = s := ⟨_, rfl⟩
  replace h1 : hU oG t6 t7 t8 = some out1 := h1
  refine bB hT ?_
  clear hT
  unfold hU at h1
  refine aZ aG 1 [] [(9, (aK (decide (t8 < t7))))] ?_
  refine aP ?_
  refine bJ h1 (fun h1 => ?_) (fun h1 => ?_)
  · refine bL ?_
    refine bG [(3, (eI oG)), (6, (eL (eI) t6)), (7, (eI t7)), (8, (eI t8))] ?_
    refine aP ?_
    refine bT 1 ?_
    refine aP ?_
    refine aU aG 3 ?_
    obtain ⟨c2, h1⟩ := bH h1
    refine tJ [0 ≤ t8 ∧ t8 < (lN t6)] ⟨c2, trivial⟩ ?_
    refine bV [] [(5, (eI (gD t6 t8)))] ?_
    refine aZ aG 3 [] [(14, (aK (!decide ((gD t6 t8) = oG))))] ?_
    refine bJ h1 (fun h1 => ?_) (fun h1 => ?_)
    · refine bU aG 2 [(2, (eI (gD t6 t8)))] ?_
      refine bK ?_
      obtain rfl := oI h1
      obtain rfl : _ = rr0 := ho0
      replace h0 : some (gD t6 t8) = some r := h0
      obtain rfl := oI h0
      exact aJ (bR (aS (aS (bR (aS (Q_r hO))))))
    refine bL ?_
    refine cX [(3, (eI oG)), (6, (eL (eI) t6)), (7, (eI t7)), (8, (eI t8))] ?_
    refine aJ (aW (aI (?_)))
    refine aU aG 2 ?_
    refine bF ?_
    exact aJ (aI (⟨rfl, _, (oI h1).symm, .eq (by kernel_rfl), hO⟩))
  refine cY 0 ?_
  obtain rfl := oI h1
  obtain rfl : _ = rr0 := ho0
  replace h0 : uM oG = some r := h0
  exact aJ (aT (aT (bO (aI (⟨rfl, _, .eq (by kernel_rfl), hO, h0⟩)))))

theorem RX (x0 : aC) (y1 : aC) (r : Int) (h0 : nE x0 y1 = some r) : bY Tryz.prog 59 [(aE x0), (aE y1)] (eI r) := by
  intro H0
  refine cG Tryz.func59 ?_
  have hO := aM.start H0
  unfold nE at h0
  refine aP ?_
  refine aU aG 3 ?_
  refine fS 3 (aE x0) (by kernel_rfl) (by kernel_rfl) ?_
  refine fS 3 (aE y1) (by kernel_rfl) (by kernel_rfl) ?_
  refine bF ?_
  refine bG [(2, (.rp (aE x0))), (3, (.rp (aE y1)))] ?_
  refine aP ?_
  refine fQ (fP [6, 8, 9, 11, 13, 14, 15, 16]) aG 13 ?_
  refine qG 4 ?_
  obtain ⟨x1, hx2, h0⟩ := aX h0
  refine zK (ID x0.Row y1.Row _ hx2) hO ?_
  intro H hO
  refine qG 9 ?_
  obtain ⟨x4, hx5, h0⟩ := aX h0
  refine zK (xM x0.At y1.At _ hx5) hO ?_
  intro H hO
  refine HV (xs := [(eI x1), (eI x4)]) (k := 1) (by kernel_rfl) (by kernel_rfl) ?_
  obtain ⟨x7, hx8, h0⟩ := aX h0
  refine YG 60 [(dH [(eI x1), (eI x4)])] (eI x7) (by kernel_rfl) (by kernel_rfl) (bY.sub (TF ([x1, x4]) _ hx8) ⟨DV (l := [x1, x4]), trivial⟩) hO ?_
  intro H hO
  refine jO ?_
  refine bG [(4, (eI x7))] ?_
  refine bK ?_
  obtain rfl := oI h0
  exact aJ (Q_r hO)

theorem FV (l0 : (List aC)) (r : (List aC)) (h0 : pM l0 = some r) : bY Tryz.prog 48 [(eL aE l0)] (.fn (.func 75) [] [(.rp (eL aE r))]) := by
  intro H0
  refine cG Tryz.func48 ?_
  have hO := aM.start H0
  unfold pM at h0
  refine aP ?_
  refine aU aG 2 ?_
  refine fS 1 (eL aE l0) (by kernel_rfl) (by kernel_rfl) ?_
  refine bF ?_
  refine bG [(1, (.rp (eL aE l0)))] ?_
  refine bU aG 2 [(2, (.fn (.func 75) [] [(.rp (eL aE l0))]))] ?_
  refine bK ?_
  obtain rfl := oI h0
  exact aJ (rK (x := (.fn (.func 75) [] [(.rp (eL aE l0))])) (by kernel_rfl) (aV.refl _) ⟨rfl, hO.out⟩)

theorem zJ (s10 : (List aF)) (s21 : (List aF)) (r : Bool) (h0 : iT s10 s21 = some r) : bY Tryz.prog 73 [(eL aH s10), (eL aH s21)] (aK r) := by
  intro H0
  refine cG Tryz.func73 ?_
  have hO := aM.start H0
  unfold iT at h0
  refine aZ aG 1 [] [] ?_
  refine aP ?_
  refine aZ aG 5 [] [(10, (aK (!decide ((lN s10) = (lN s21)))))] ?_
  refine bJ h0 (fun h0 => ?_) (fun h0 => ?_)
  · refine bU aG 1 [(4, (aK false))] ?_
    refine bK ?_
    obtain rfl := oI h0
    exact aJ (aS (Q_r hO))
  refine bL ?_
  refine bG [(0, (eL aH s10)), (1, (eL aH s21))] ?_
  refine cR (fun T H => Has T [] ∧ aM ⟨H0, [], []⟩ H [] ∧ eN  = some r) ?_ ?_
  · clear hO h0
    rintro T H ⟨hT, hO, h0⟩
    refine bB hT ?_
    clear hT
    unfold eN at h0
    refine bU aG 1 [(4, (aK true))] ?_
    refine bK ?_
    obtain rfl := oI h0
    exact aJ (Q_r hO)
  refine aZ aG 3 [] [(12, (eI (lN s10))), (13, (eI (0 : Int)))] ?_
  refine bT 0 ?_
  refine cT [(0, (eL aH s10)), (1, (eL aH s21)), (12, (eI (lN s10))), (13, (eI (0 : Int)))] ?_
  refine cH (fun T H => ∃ t12 : Int, ∃ t13 : Int, Has T [(0, (eL aH s10)), (1, (eL aH s21)), (12, (eI t12)), (13, (eI t13))] ∧ aM ⟨H0, [], []⟩ H [] ∧ iB s10 s21 t12 t13 = some r) ?_ ⟨(lN s10), (0 : Int), .eq (by kernel_rfl), hO, h0⟩
  clear hO h0
  rintro T H ⟨t12, t13, hT, hO, h0⟩
  refine bB hT ?_
  clear hT
  unfold iB at h0
  obtain ⟨rr0, hl0, h0⟩ := aX h0
  refine bZ (by kernel_rfl) (fun (s : Int) T H => Has T [(0, (eL aH s10)), (1, (eL aH s21)), (12, (eI t12)), (13, (eI s))] ∧ aM ⟨H0, [], []⟩ H []) hl0 ⟨.eq (by kernel_rfl), hO⟩ ?_
  clear hO
  rintro k0 s out1 T H ⟨hT, hO⟩ h1 ho0
  obtain ⟨t13, rfl⟩ : ∃ x, x = s := ⟨_, rfl⟩
  replace h1 : dQ s10 s21 t12 t13 = some out1 := h1
  refine bB hT ?_
  clear hT
  unfold dQ at h1
  refine aZ aG 1 [] [(14, (aK (decide (t13 < t12))))] ?_
  refine aP ?_
  refine bJ h1 (fun h1 => ?_) (fun h1 => ?_)
  · refine bL ?_
    refine bG [(0, (eL aH s10)), (1, (eL aH s21)), (12, (eI t12)), (13, (eI t13))] ?_
    refine aP ?_
    refine bT 1 ?_
    refine aZ aG 2 [] [(5, (eI t13))] ?_
    refine aP ?_
    refine fQ (fP [19, 23]) aG 9 ?_
    obtain ⟨c3, h1⟩ := bH h1
    obtain ⟨c4, h1⟩ := bH h1
    refine EW (Ds := [0 ≤ t13 ∧ t13 < (lN s10), 0 ≤ t13 ∧ t13 < (lN s21)]) (by kernel_rfl) ⟨c3, c4, trivial⟩ ?_
    refine bV [5] [(24, (aK (!((decide (((gD s10 t13).Kind) = ((gD s21 t13).Kind))) && ((decide (((gD s10 t13).Num) = ((gD s21 t13).Num))) && ((oJ ((gD s10 t13).Text) ((gD s21 t13).Text)) && true))))))] ?_
    refine bJ h1 (fun h1 => ?_) (fun h1 => ?_)
    · refine bU aG 1 [(4, (aK false))] ?_
      refine bK ?_
      obtain rfl := oI h1
      obtain rfl : _ = rr0 := ho0
      replace h0 : some false = some r := h0
      obtain rfl := oI h0
      exact aJ (bR (aS (aS (bR (aS (Q_r hO))))))
    refine bL ?_
    refine cX [(0, (eL aH s10)), (1, (eL aH s21)), (12, (eI t12)), (13, (eI t13))] ?_
    refine aJ (aW (aI (?_)))
    refine aU aG 2 ?_
    refine bF ?_
    exact aJ (aI (⟨rfl, _, (oI h1).symm, .eq (by kernel_rfl), hO⟩))
  refine cY 0 ?_
  obtain rfl := oI h1
  obtain rfl : _ = rr0 := ho0
  replace h0 : eN  = some r := h0
  exact aJ (aT (aT (bO (aI (⟨rfl, .eq (by kernel_rfl), hO, h0⟩)))))

theorem MQ (a0 : (List aF)) (b1 : (List aF)) (r : Bool) (h0 : xF a0 b1 = some r) : bY Tryz.prog 42 [(eL aH a0), (eL aH b1)] (aK r) := by
  intro H0
  refine cG Tryz.func42 ?_
  have hO := aM.start H0
  unfold xF at h0
  refine aZ aG 1 [] [] ?_
  refine aP ?_
  refine aU aG 4 ?_
  refine bS 2 ?_
  obtain ⟨x1, hx2, h0⟩ := aX h0
  refine cF (zJ a0 b1 _ hx2) hO ?_
  intro H hO
  refine bF ?_
  refine bG [(4, (aK x1))] ?_
  refine bK ?_
  obtain rfl := oI h0
  exact aJ (Q_r hO)

theorem HT (r0 : (List aF)) (r : (List aF)) (h0 : tN r0 = some r) : bY Tryz.prog 24 [(eL aH r0)] (eL aH r) := by
  intro H0
  refine cG Tryz.func24 ?_
  have hO := aM.start H0
  unfold tN at h0
  refine aZ aG 1 [] [] ?_
  refine aP ?_
  refine aU aG 6 ?_
  refine bS 2 ?_
  obtain ⟨c1, h0⟩ := bH h0
  refine KL 3 32 (lN r0) (by kernel_rfl) (by kernel_rfl) c1 hO ?_
  intro lo2 H hO
  refine bS 4 ?_
  obtain ⟨c4, h0⟩ := bH h0
  refine xL (e := aH) ([] : List aF) r0 0 lo2 3 32 (eL aH r0) (fun lo3 => [(lo3, 3, List.map aH (([] : List aF) ++ r0))]) (by kernel_rfl) (by kernel_rfl) hO (by kernel_rfl) (KO (fun _ => by kernel_rfl)) c4 (fun _ => by kernel_rfl) ?_
  intro lo3 H hO
  refine bF ?_
  refine bG [(2, (.msl 3 lo3 0 (List.length (([] : List aF) ++ r0))))] ?_
  refine bK ?_
  refine cX [(2, (.msl 3 lo3 0 (List.length (([] : List aF) ++ r0))))] ?_
  refine vP (en := aH) (([] : List aF) ++ r0) 0 0 2 3 lo3 (List.length (([] : List aF) ++ r0)) hO (by kernel_rfl) (by kernel_rfl) (by kernel_rfl) (L' := []) (by kernel_rfl) ?_
  intro H5 hO
  obtain rfl := oI h0
  exact aJ (Q_r hO)

theorem BG {σ : Type} (I : σ → Gs → Prop) (yield0_b : Nat) (eR : σ → (List aF) → (List aB) → Option (σ × Bool)) (yield0_h : ∀ st a0 a1 st2 r, eR st a0 a1 = some (st2, r) → KJ Tryz.prog (yv yield0_b) I st [(eL aH a0), (eL aD a1)] st2 (aK r)) (t1 : (List aC)) (sg0 : σ) (r : σ) (h0 : mW eR t1 sg0 = some r) : DD Tryz.prog 75 I sg0 [(yv yield0_b), (.rp (eL aE t1))] r (.tup []) := by
  intro H0 G0 hI hg
  refine cG Tryz.func75 ?_
  obtain ⟨G, hO, hI⟩ : ∃ G, aM ⟨H0, List.map (fun p : Nat × dF => p.1) G0, G⟩ H0 [] ∧ I sg0 G := ⟨G0, aM.NR hg, hI⟩
  clear hg
  unfold mW at h0
  refine aZ aG 1 [] [(3, (eI (0 : Int)))] ?_
  refine bT 0 ?_
  refine cT [(0, (yv yield0_b)), (1, (.rp (eL aE t1))), (3, (eI (0 : Int)))] ?_
  refine cH (fun T H => ∃ sg : σ, ∃ i3 : Int, ∃ G : Gs, Has T [(0, (yv yield0_b)), (1, (.rp (eL aE t1))), (3, (eI i3))] ∧ aM ⟨H0, List.map (fun p : Nat × dF => p.1) G0, G⟩ H [] ∧ I sg G ∧ tI eR sg t1 i3 = some r) ?_ ⟨sg0, (0 : Int), G, .eq (by kernel_rfl), hO, hI, h0⟩
  clear hO hI h0
  rintro T H ⟨sg, i3, G, hT, hO, hI, h0⟩
  refine bB hT ?_
  clear hT
  unfold tI at h0
  obtain ⟨rr0, hl0, h0⟩ := aX h0
  refine bZ (by kernel_rfl) (fun (s : σ × Int) T H => ∃ G : Gs, Has T [(0, (yv yield0_b)), (1, (.rp (eL aE t1))), (3, (eI s.2))] ∧ aM ⟨H0, List.map (fun p : Nat × dF => p.1) G0, G⟩ H [] ∧ I s.1 G) hl0 ⟨G, .eq (by kernel_rfl), hO, hI⟩ ?_
  clear hO hI
  rintro k0 s out1 T H ⟨G, hT, hO, hI⟩ h1 ho0
  obtain ⟨sg, i3⟩ := s
  replace h1 : fY eR t1 sg i3 = some out1 := h1
  try dsimp only at hT
  refine bB hT ?_
  clear hT
  unfold fY at h1
  refine aP ?_
  refine aZ aG 4 [] [(9, (aK (decide (i3 < (lN t1)))))] ?_
  refine bJ h1 (fun h1 => ?_) (fun h1 => ?_)
  · refine bL ?_
    refine bG [(0, (yv yield0_b)), (1, (.rp (eL aE t1))), (3, (eI i3))] ?_
    refine bT 1 ?_
    refine aP ?_
    refine aU aG 6 ?_
    obtain ⟨c2, h1⟩ := bH h1
    refine tJ [0 ≤ i3 ∧ i3 < (lN t1)] ⟨c2, trivial⟩ ?_
    refine bV [] [(4, (eL aH ((gD t1 i3).Row)))] ?_
    refine aP ?_
    refine aU aG 2 ?_
    refine nP (xs := []) (k := 2) (by kernel_rfl) (by kernel_rfl) ?_
    refine bF ?_
    refine bV [] [(5, (.sl true 0 (fun _ => .bad)))] ?_
    refine cR (fun T H => ∃ sg : σ, ∃ i3 : Int, ∃ r4 : (List aF), ∃ f5 : List aB, ∃ lo3 : Nat, ∃ G : Gs, Has T [(0, (yv yield0_b)), (1, (.rp (eL aE t1))), (3, (eI i3)), (4, (eL aH r4)), (5, (.msl 2 lo3 0 (List.length f5)))] ∧ aM ⟨H0, List.map (fun p : Nat × dF => p.1) G0, G⟩ H [(lo3, 2, List.map aD f5)] ∧ I sg G ∧ qF eR sg t1 i3 r4 f5 = some out1) ?_ ?_
    · clear hO hI h1
      rintro T H ⟨sg, i3, r4, f5, lo3, G, hT, hO, hI, h1⟩
      refine bB hT ?_
      clear hT
      unfold qF at h1
      refine aP ?_
      refine aU aG 6 ?_
      refine ES (e := aD) f5 0 5 2 lo3 (List.length f5) [] (by kernel_rfl) hO (by kernel_rfl) (by kernel_rfl) (by kernel_rfl) (by kernel_rfl) ?_
      intro H hO
      refine bS 2 ?_
      obtain ⟨x7, hx8, h1⟩ := aX h1
      refine cF (HT r4 _ hx8) hO ?_
      intro H hO
      refine bS 4 ?_
      obtain ⟨x10, hx11, h1⟩ := aX h1
      refine YD (I := I) (yv yield0_b) [(eL aH x7), (eL aD f5)] (aK x10.2) (by kernel_rfl) (by kernel_rfl) (yield0_h _ x7 f5 x10.1 x10.2 hx11) hO hI ?_
      intro G H hO hI
      refine bF ?_
      refine bV [4, 5] [(50, (aK (!x10.2)))] ?_
      refine bJ h1 (fun h1 => ?_) (fun h1 => ?_)
      · refine bK ?_
        obtain rfl := oI h1
        obtain rfl : _ = rr0 := ho0
        replace h0 : some x10.1 = some r := h0
        obtain rfl := oI h0
        exact aJ (bR (aS (bR (rK (x := (.tup [])) (by kernel_rfl) (aV.refl _) ⟨rfl, G, hI, hO.JP⟩))))
      refine bL ?_
      exact aJ (aW (aI (⟨rfl, _, (oI h1).symm, _, .eq (by kernel_rfl), hO, hI⟩)))
    refine bT 2 ?_
    refine cT [(0, (yv yield0_b)), (1, (.rp (eL aE t1))), (3, (eI i3)), (4, (eL aH ((gD t1 i3).Row))), (5, (.sl true 0 (fun _ => .bad)))] ?_
    refine CO (el := (fun _ => .bad)) 4 5 2 hO (by kernel_rfl) ?_
    intro lo24 H25 hO
    refine cH (fun T H => ∃ sg : σ, ∃ i3 : Int, ∃ r4 : (List aF), ∃ f5 : List aB, ∃ lo14 : Nat, ∃ G : Gs, Has T [(0, (yv yield0_b)), (1, (.rp (eL aE t1))), (3, (eI i3)), (4, (eL aH r4)), (5, (.msl 2 lo14 0 (List.length f5)))] ∧ aM ⟨H0, List.map (fun p : Nat × dF => p.1) G0, G⟩ H [(lo14, 2, List.map aD f5)] ∧ I sg G ∧ tF eR sg t1 i3 r4 f5 = some out1) ?_ ⟨sg, i3, (gD t1 i3).Row, ([] : List aB), lo24, G, .eq (by kernel_rfl), hO, hI, h1⟩
    clear hO hI h1
    rintro T H ⟨sg, i3, r4, f5, lo14, G, hT, hO, hI, h1⟩
    refine bB hT ?_
    clear hT
    unfold tF at h1
    obtain ⟨rr1, hl1, h1⟩ := aX h1
    refine bZ (by kernel_rfl) (fun (s : σ × Int × List aB) T H => ∃ lo14 : Nat, ∃ G : Gs, Has T [(0, (yv yield0_b)), (1, (.rp (eL aE t1))), (3, (eI s.2.1)), (4, (eL aH r4)), (5, (.msl 2 lo14 0 (List.length s.2.2)))] ∧ aM ⟨H0, List.map (fun p : Nat × dF => p.1) G0, G⟩ H [(lo14, 2, List.map aD s.2.2)] ∧ I s.1 G) hl1 ⟨lo14, G, .eq (by kernel_rfl), hO, hI⟩ ?_
    clear hO hI
    rintro k1 s out2 T H ⟨lo14, G, hT, hO, hI⟩ h2 ho1
    obtain ⟨sg, i3, f5⟩ := s
    replace h2 : iU eR t1 r4 sg i3 f5 = some out2 := h2
    try dsimp only at hT
    refine bB hT ?_
    clear hT
    unfold iU at h2
    refine aP ?_
    refine aP ?_
    refine aU aG 13 ?_
    obtain ⟨c15, h2⟩ := bH h2
    refine mA 11 [(((decide (i3 < (lN t1)))) = true → 0 ≤ i3 ∧ i3 < (lN t1))] ⟨c15, trivial⟩ ?_
    obtain ⟨x16, hx17, h2⟩ := aX h2
    refine gI [(20, true)] 42 [(eL aH ((gD t1 i3).Row)), (eL aH r4)] (aK x16) (decide (i3 < (lN t1))) (by kernel_rfl) (by kernel_rfl) (by kernel_rfl) (fun hb18 => (MQ ((gD t1 i3).Row) r4 _ (fW hx17 hb18))) hO ?_
    intro H hO
    refine bF ?_
    refine bV [] [(28, (aK ((decide (i3 < (lN t1))) && x16)))] ?_
    refine bJ h2 (fun h2 => ?_) (fun h2 => ?_)
    · refine bL ?_
      refine bG [(0, (yv yield0_b)), (1, (.rp (eL aE t1))), (3, (eI i3)), (4, (eL aH r4)), (5, (.msl 2 lo14 0 (List.length f5)))] ?_
      refine aP ?_
      refine bT 3 ?_
      refine fQ (fP [32, 36, 37, 41, 43]) aG 15 ?_
      obtain ⟨c20, h2⟩ := bH h2
      obtain ⟨c21, h2⟩ := bH h2
      refine cZ 12 [0 ≤ i3 ∧ i3 < (lN t1), 0 ≤ i3 ∧ i3 < (lN t1)] ⟨c20, c21, trivial⟩ ?_
      refine HV (xs := [(aD (aB.mk ((gD t1 i3).At) ((gD t1 i3).Net)))]) (k := 2) (by kernel_rfl) (by kernel_rfl) ?_
      obtain ⟨c23, h2⟩ := bH h2
      refine GD (e := aD) f5 ([aB.mk ((gD t1 i3).At) ((gD t1 i3).Net)]) 0 lo14 2 16 (dH [(aD (aB.mk ((gD t1 i3).At) ((gD t1 i3).Net)))]) (fun lo22 => [(lo22, 2, List.map aD (f5 ++ ([aB.mk ((gD t1 i3).At) ((gD t1 i3).Net)])))]) (by kernel_rfl) (by kernel_rfl) hO (by kernel_rfl) (by kernel_rfl) c23 (fun _ => by kernel_rfl) ?_
      intro lo22 H hO
      refine jO ?_
      refine cX [(0, (yv yield0_b)), (1, (.rp (eL aE t1))), (3, (eI i3)), (4, (eL aH r4)), (5, (.msl 2 lo22 0 (List.length (f5 ++ ([aB.mk ((gD t1 i3).At) ((gD t1 i3).Net)])))))] ?_
      refine aJ (aW (aI (?_)))
      refine aU aG 3 ?_
      refine bF ?_
      exact aJ (aI (⟨rfl, _, (oI h2).symm, _, _, .eq (by kernel_rfl), hO, hI⟩))
    refine cY 2 ?_
    obtain rfl := oI h2
    obtain rfl : _ = rr1 := ho1
    replace h1 : qF eR sg t1 i3 r4 f5 = some out1 := h1
    exact aJ (aT (aT (bO (aI (⟨rfl, _, _, _, _, _, _, .eq (by kernel_rfl), hO, hI, h1⟩)))))
  refine cY 0 ?_
  obtain rfl := oI h1
  obtain rfl : _ = rr0 := ho0
  replace h0 : some sg = some r := h0
  obtain rfl := oI h0
  exact aJ (aT (aT (bO (sC (x := (.tup [])) (by kernel_rfl) (aV.refl _) ⟨rfl, G, hI, hO.JP⟩))))

theorem YO (lo0p : Nat) (l0 : (List aC)) (r1 : (List aF)) (f2 : (List aB)) (r : (List aC)) (h0 : AM l0 r1 f2 = some r) : GW Tryz.prog 85 lo0p 3 (List.map aE l0) [(.msl 3 lo0p 0 (List.length l0)), (eL aH r1), (eL aD f2)] (fun lo => .msl 3 lo 0 (List.length r)) (List.map aE r) := by
  intro H0 hl0
  refine cG Tryz.func85 ?_
  have hO := aM.rM hl0
  clear hl0
  unfold AM at h0
  refine aZ aG 1 [] [] ?_
  refine cR (fun T H => ∃ l0 : List aC, ∃ lo1 : Nat, Has T [(0, (.msl 3 lo1 0 (List.length l0)))] ∧ aM ⟨H0, [lo0p], []⟩ H [(lo1, 3, List.map aE l0)] ∧ BY l0 = some r) ?_ ?_
  · clear hO h0
    rintro T H ⟨l0, lo1, hT, hO, h0⟩
    refine bB hT ?_
    clear hT
    unfold BY at h0
    refine bU aG 2 [(6, (.msl 3 lo1 0 (List.length l0)))] ?_
    refine bK ?_
    obtain rfl := oI h0
    exact aJ (rK (x := (.msl 3 lo1 0 (List.length l0))) (by kernel_rfl) (aV.refl _) ⟨lo1, rfl, hO⟩)
  refine aZ aG 3 [2] [(9, (eL aD f2)), (10, (eI (lN f2))), (11, (eI (0 : Int)))] ?_
  refine bT 0 ?_
  refine cT [(0, (.msl 3 lo0p 0 (List.length l0))), (1, (eL aH r1)), (9, (eL aD f2)), (10, (eI (lN f2))), (11, (eI (0 : Int)))] ?_
  refine cH (fun T H => ∃ l0 : List aC, ∃ t9 : (List aB), ∃ t10 : Int, ∃ t11 : Int, ∃ lo3 : Nat, Has T [(0, (.msl 3 lo3 0 (List.length l0))), (1, (eL aH r1)), (9, (eL aD t9)), (10, (eI t10)), (11, (eI t11))] ∧ aM ⟨H0, [lo0p], []⟩ H [(lo3, 3, List.map aE l0)] ∧ BZ l0 r1 t9 t10 t11 = some r) ?_ ⟨l0, f2, (lN f2), (0 : Int), lo0p, .eq (by kernel_rfl), hO, h0⟩
  clear hO h0
  rintro T H ⟨l0, t9, t10, t11, lo3, hT, hO, h0⟩
  refine bB hT ?_
  clear hT
  unfold BZ at h0
  obtain ⟨rr0, hl0, h0⟩ := aX h0
  refine bZ (by kernel_rfl) (fun (s : List aC × Int) T H => ∃ lo3 : Nat, Has T [(0, (.msl 3 lo3 0 (List.length s.1))), (1, (eL aH r1)), (9, (eL aD t9)), (10, (eI t10)), (11, (eI s.2))] ∧ aM ⟨H0, [lo0p], []⟩ H [(lo3, 3, List.map aE s.1)]) hl0 ⟨lo3, .eq (by kernel_rfl), hO⟩ ?_
  clear hO
  rintro k0 s out1 T H ⟨lo3, hT, hO⟩ h1 ho0
  obtain ⟨l0, t11⟩ := s
  replace h1 : pK r1 t9 t10 l0 t11 = some out1 := h1
  try dsimp only at hT
  refine bB hT ?_
  clear hT
  unfold pK at h1
  refine aZ aG 1 [] [(12, (aK (decide (t11 < t10))))] ?_
  refine aP ?_
  refine bJ h1 (fun h1 => ?_) (fun h1 => ?_)
  · refine bL ?_
    refine bG [(0, (.msl 3 lo3 0 (List.length l0))), (1, (eL aH r1)), (9, (eL aD t9)), (10, (eI t10)), (11, (eI t11))] ?_
    refine aP ?_
    refine bT 1 ?_
    refine aP ?_
    refine aU aG 4 ?_
    obtain ⟨c5, h1⟩ := bH h1
    refine mA 2 [0 ≤ t11 ∧ t11 < (lN t9)] ⟨c5, trivial⟩ ?_
    refine mV 2 (aD (aB.mk 0 0)) (by kernel_rfl) (by kernel_rfl) hO ?_
    intro lo6 H hO
    refine jP 1 lo6 2 0 (aD (aB.mk 0 0)) (aD (gD t9 t11)) [(aD (aB.mk 0 0))] [(lo3, 3, List.map aE l0), (lo6, 2, [(aD (gD t9 t11))])] hO rfl (by kernel_rfl) ?_
    intro H hO
    refine cQ ?_
    refine bV [] [(8, (.lp lo6 0 0))] ?_
    refine cT [(0, (.msl 3 lo3 0 (List.length l0))), (1, (eL aH r1)), (8, (.lp lo6 0 0)), (9, (eL aD t9)), (10, (eI t10)), (11, (eI t11))] ?_
    refine QO 2 1 8 2 lo6 (aD (gD t9 t11)) [(lo3, 3, List.map aE l0)] hO (by kernel_rfl) (by kernel_rfl) (by kernel_rfl) ?_
    intro H hO
    refine fQ (fP [19, 21, 23]) aG 11 ?_
    refine qG 2 ?_
    obtain ⟨x7, hx8, h1⟩ := aX h1
    refine zK (HT r1 _ hx8) hO ?_
    intro H hO
    refine qG 8 ?_
    refine HV (xs := [(aE (aC.mk x7 ((gD t9 t11).At) ((gD t9 t11).Net)))]) (k := 3) (by kernel_rfl) (by kernel_rfl) ?_
    obtain ⟨c11, h1⟩ := bH h1
    refine GD (e := aE) l0 ([aC.mk x7 ((gD t9 t11).At) ((gD t9 t11).Net)]) 0 lo3 3 40 (dH [(aE (aC.mk x7 ((gD t9 t11).At) ((gD t9 t11).Net)))]) (fun lo10 => [(lo10, 3, List.map aE (l0 ++ ([aC.mk x7 ((gD t9 t11).At) ((gD t9 t11).Net)])))]) (by kernel_rfl) (by kernel_rfl) hO (by kernel_rfl) (by kernel_rfl) c11 (fun _ => by kernel_rfl) ?_
    intro lo10 H hO
    refine jO ?_
    refine cX [(0, (.msl 3 lo10 0 (List.length (l0 ++ ([aC.mk x7 ((gD t9 t11).At) ((gD t9 t11).Net)]))))), (1, (eL aH r1)), (9, (eL aD t9)), (10, (eI t10)), (11, (eI t11))] ?_
    refine aJ (aW (aI (?_)))
    refine aU aG 2 ?_
    refine bF ?_
    exact aJ (aI (⟨rfl, _, (oI h1).symm, _, .eq (by kernel_rfl), hO⟩))
  refine cY 0 ?_
  obtain rfl := oI h1
  obtain rfl : _ = rr0 := ho0
  replace h0 : BY l0 = some r := h0
  exact aJ (aT (aT (bO (aI (⟨rfl, _, _, .eq (by kernel_rfl), hO, h0⟩)))))

theorem RU (l0 : (List aC)) (by1_f : Nat) (by1_a by1_c : List V) (by1 : (List aB) → Option ((List aB) × Int)) (by1_h : ∀ a0 r, by1 a0 = some r → bY Tryz.prog by1_f (by1_a ++ [(eL aD a0)] ++ by1_c) (.tup [(eL aD r.1), (eI r.2)])) (r : ((List aC) × Int)) (h0 : tV l0 by1 = some r) : bY Tryz.prog 63 [(eL aE l0), (.fn (.func by1_f) by1_a by1_c)] (.tup [(eL aE r.1), (eI r.2)]) := by
  intro H0
  refine GI aG Tryz.func63 (by kernel_rfl) (by kernel_rfl) (by kernel_rfl) ?_
  have hO := aM.start H0
  unfold tV at h0
  refine aP ?_
  refine aU aG 3 ?_
  refine fS 1 (.fn (.func by1_f) by1_a by1_c) (by kernel_rfl) (by kernel_rfl) ?_
  refine tG 1 (.sl true 0 (fun _ => .bad)) (eL aE ([])) (by kernel_rfl) (by kernel_rfl) (by kernel_rfl) (eD) (by kernel_rfl) (by kernel_rfl) hO ?_
  intro lo1 H hO
  refine mV 1 (eI 0) (by kernel_rfl) (by kernel_rfl) hO ?_
  intro lo2 H hO
  refine cQ ?_
  refine bV [1] [(3, (.rp (.fn (.func by1_f) by1_a by1_c))), (4, (.lp lo1 0 0)), (5, (.lp lo2 0 0))] ?_
  refine aP ?_
  refine aU aG 3 ?_
  refine nP (xs := []) (k := 3) (by kernel_rfl) (by kernel_rfl) ?_
  refine tG 1 (.sl true 0 (fun _ => .bad)) (eL aE ([])) (by kernel_rfl) (by kernel_rfl) (by kernel_rfl) (eD) (by kernel_rfl) (by kernel_rfl) hO ?_
  intro lo3 H hO
  refine aC9 11 3 (fun _ => .bad) (by kernel_rfl) hO (by kernel_rfl) ?_
  intro lo4 H hO
  refine jP 2 lo3 1 0 (eL aE ([])) (.msl 3 lo4 0 (List.length ([] : List aC))) [(eL aE ([]))] [(lo1, 1, [(eL aE ([]))]), (lo2, 1, [(eI 0)]), (lo3, 1, [(.msl 3 lo4 0 (List.length ([] : List aC)))]), (lo4, 3, List.map aE ([] : List aC))] hO rfl (by kernel_rfl) ?_
  intro H hO
  refine cQ ?_
  refine bV [] [(6, (.lp lo3 0 0))] ?_
  refine aP ?_
  refine aP ?_
  refine aU aG 2 ?_
  refine bS 1 ?_
  obtain ⟨x5, hx6, h0⟩ := aX h0
  refine cF (FV l0 _ hx6) hO ?_
  intro H hO
  refine cQ ?_
  refine bV [0] [(13, (.fn (.func 75) [] [(.rp (eL aE x5))]))] ?_
  refine bT 0 ?_
  refine cT [(3, (.rp (.fn (.func by1_f) by1_a by1_c))), (4, (.lp lo1 0 0)), (5, (.lp lo2 0 0)), (6, (.lp lo3 0 0)), (13, (.fn (.func 75) [] [(.rp (eL aE x5))]))] ?_
  refine cH (fun T H => ∃ t4 : (List aC), ∃ t5 : Int, ∃ out6 : List aC, ∃ kU : (List aC), ∃ lo7 : Nat, Has T [(3, (.rp (.fn (.func by1_f) by1_a by1_c))), (4, (.lp lo1 0 0)), (5, (.lp lo2 0 0)), (6, (.lp lo3 0 0)), (13, (.fn (.func 75) [] [(.rp (eL aE kU))]))] ∧ aM ⟨H0, [], []⟩ H [(lo1, 1, [(eL aE t4)]), (lo2, 1, [(eI t5)]), (lo3, 1, [(.msl 3 lo7 0 (List.length out6))]), (lo7, 3, List.map aE out6)] ∧ wZ by1 t4 t5 out6 kU = some r) ?_ ⟨[], 0, ([] : List aC), x5, lo4, .eq (by kernel_rfl), hO, h0⟩
  clear hO h0
  rintro T H ⟨t4, t5, out6, kU, lo7, hT, hO, h0⟩
  refine bB (l := [(3, (.rp (.fn (.func by1_f) by1_a by1_c))), (4, (.lp lo1 0 0)), (5, (.lp lo2 0 0)), (6, (.lp lo3 0 0)), (13, (.fn (.func 75) [] [(.rp (eL aE kU))]))]) hT ?_
  clear hT
  unfold wZ at h0
  obtain ⟨o0, hl0, h0⟩ := aX h0
  refine EE (fid := 75) (ys := []) (cs := [(.rp (eL aE kU))]) #[14, 15] (fun (A : BW) (b lL : Nat) (st : ((List aC) × Int × List aC) ⊕ ((List aC) × Int × List aC)) (G' : Gs) => Sum.elim (fun (s : (List aC) × Int × List aC) => ∃ lo7 : Nat, G' = (lL, .raw (kM b A .ready none)) :: (up [(lo1, 1, [(eL aE s.1)]), (lo2, 1, [(eI s.2.1)]), (lo3, 1, [(.msl 3 lo7 0 (List.length s.2.2))]), (lo7, 3, List.map aE s.2.2)] ++ [])) (fun (s : (List aC) × Int × List aC) => ∃ lo7 : Nat, G' = (lL, .raw (kM b A .done (some .ret))) :: (up [(lo1, 1, [(eL aE s.1)]), (lo2, 1, [(eI s.2.1)]), (lo3, 1, [(.msl 3 lo7 0 (List.length s.2.2))]), (lo7, 3, List.map aE s.2.2)] ++ [])) st) (.inl (t4, t5, out6)) o0 (.tup []) (by kernel_rfl) (by kernel_rfl) (by kernel_rfl) hO (fun _ _ => ⟨lo7, rfl⟩) ?_ ?_
  · intro b lL
    clear hO h0
    refine BG _ b (fun st t14 t15 => rnd (fun (s : (List aC) × Int × List aC) => nY by1 kU s.1 s.2.1 s.2.2 t14 t15) st) ?_ kU _ _ hl0
    intro st t14 t15 out1 rr hr
    obtain ⟨s, rfl, h1, rfl⟩ := SL hr
    clear hr
    intro Hr Gr hi hg
    obtain ⟨t4, t5, out6⟩ := s
    dsimp only [Sum.elim_inl] at hi
    obtain ⟨lo7, rfl⟩ := hi
    replace h1 : nY by1 kU t4 t5 out6 t14 t15 = some out1 := h1
    unfold nY at h1
    obtain ⟨E1, hE, hO⟩ := yA hg
    refine yF (EA (hO.gm 0 _ rfl).2 (by kernel_rfl) (by kernel_rfl) ?_)
    refine cT [(3, (.rp (.fn (.func by1_f) by1_a by1_c))), (4, (.lp lo1 0 0)), (5, (.lp lo2 0 0)), (6, (.lp lo3 0 0)), (13, (.fn (.func 75) [] [(.rp (eL aE kU))])), (14, (eL aH t14)), (15, (eL aD t15))] ?_
    refine aZ aG 1 [13, 14] [(7, (eL aH t14))] ?_
    refine aU aG 1 ?_
    refine bF ?_
    refine cX [(3, (.rp (.fn (.func by1_f) by1_a by1_c))), (4, (.lp lo1 0 0)), (5, (.lp lo2 0 0)), (6, (.lp lo3 0 0)), (7, (eL aH t14)), (8, (eL aD t15))] ?_
    refine aJ (⟨rfl, rfl, (hO.gm 0 _ rfl).2, ?_⟩)
    intro o1 ho1
    replace hO := hO.xN o1
    refine bT 1 ?_
    refine aP ?_
    refine aU aG 8 ?_
    refine bS 2 ?_
    obtain ⟨x8, hx9, h1⟩ := aX h1
    refine cF (by1_h t15 _ hx9) hO ?_
    intro H hO
    refine bF ?_
    refine bV [3, 8] [(9, (eL aD x8.1)), (10, (eI x8.2))] ?_
    refine aP ?_
    refine aZ aG 2 [] [(23, (aK (!decide (x8.2 = (0 : Int)))))] ?_
    refine bJ h1 (fun h1 => ?_) (fun h1 => ?_)
    · refine aP ?_
      refine aU aG 3 ?_
      refine bS 1 ?_
      refine jP 0 lo1 1 0 (eL aE t4) (.sl true 0 (fun _ => .bad)) [(eL aE t4)] [(lo1, 1, [(.sl true 0 (fun _ => .bad))]), (lo2, 1, [(eI t5)]), (lo3, 1, [(.msl 3 lo7 0 (List.length out6))]), (lo7, 3, List.map aE out6)] hO rfl (by kernel_rfl) ?_
      intro H hO
      refine jP 1 lo2 1 0 (eI t5) (eI x8.2) [(eI t5)] [(lo1, 1, [(.sl true 0 (fun _ => .bad))]), (lo2, 1, [(eI x8.2)]), (lo3, 1, [(.msl 3 lo7 0 (List.length out6))]), (lo7, 3, List.map aE out6)] hO rfl (by kernel_rfl) ?_
      intro H hO
      refine cQ ?_
      refine LP 0 lo1 1 (.sl true 0 (fun _ => .bad)) (eL aE ([])) [(lo1, 1, [(eL aE ([]))]), (lo2, 1, [(eI x8.2)]), (lo3, 1, [(.msl 3 lo7 0 (List.length out6))]), (lo7, 3, List.map aE out6)] hO (by kernel_rfl) (by kernel_rfl) eD (by kernel_rfl) ?_
      intro H hO
      refine bG [(4, (.lp lo1 0 0)), (5, (.lp lo2 0 0)), (6, (.lp lo3 0 0))] ?_
      refine bK ?_
      refine cX [(4, (.lp lo1 0 0)), (5, (.lp lo2 0 0)), (6, (.lp lo3 0 0))] ?_
      obtain rfl := oI h1
      exact aJ (aS (bR (⟨(gK hO hE ho1 .dead).1, rfl, _, ⟨lo7, rfl⟩, (gK hO hE ho1 _).2⟩)))
    refine bL ?_
    refine bG [(4, (.lp lo1 0 0)), (5, (.lp lo2 0 0)), (6, (.lp lo3 0 0)), (7, (eL aH t14)), (9, (eL aD x8.1))] ?_
    refine aP ?_
    refine aU aG 5 ?_
    refine jZ 2 lo3 1 0 (.msl 3 lo7 0 (List.length out6)) (.msl 3 lo7 0 (List.length out6)) [(.msl 3 lo7 0 (List.length out6))] hO rfl ?_
    refine bS 3 ?_
    obtain ⟨x12, hx13, h1⟩ := aX h1
    refine aB5 (L' := fun lo14 => [(lo1, 1, [(eL aE t4)]), (lo2, 1, [(eI t5)]), (lo3, 1, [(.msl 3 lo7 0 (List.length out6))]), (lo14, 3, List.map aE x12)]) 3 lo7 3 (List.map aE out6) (List.map aE x12) 85 [(.msl 3 lo7 0 (List.length out6)), (eL aH t14), (eL aD x8.1)] (fun lo14 => (.msl 3 lo14 0 (List.length x12))) (by kernel_rfl) (by kernel_rfl) (YO lo7 out6 t14 x8.1 _ hx13) hO (by kernel_rfl) (fun _ => by kernel_rfl) ?_
    intro lo14 H hO
    refine jP 2 lo3 1 0 (.msl 3 lo7 0 (List.length out6)) (.msl 3 lo14 0 (List.length x12)) [(.msl 3 lo7 0 (List.length out6))] [(lo1, 1, [(eL aE t4)]), (lo2, 1, [(eI t5)]), (lo3, 1, [(.msl 3 lo14 0 (List.length x12))]), (lo14, 3, List.map aE x12)] hO rfl (by kernel_rfl) ?_
    intro H hO
    refine cQ ?_
    refine bV [7, 9] [] ?_
    refine aP ?_
    refine aU aG 3 ?_
    refine jZ 2 lo3 1 0 (.msl 3 lo14 0 (List.length x12)) (.msl 3 lo14 0 (List.length x12)) [(.msl 3 lo14 0 (List.length x12))] hO rfl ?_
    refine bF ?_
    refine bV [] [(31, (aK (decide ((4096 : Int) < (lN x12)))))] ?_
    refine bJ h1 (fun h1 => ?_) (fun h1 => ?_)
    · refine aP ?_
      refine aU aG 2 ?_
      refine jP 0 lo1 1 0 (eL aE t4) (.sl true 0 (fun _ => .bad)) [(eL aE t4)] [(lo1, 1, [(.sl true 0 (fun _ => .bad))]), (lo2, 1, [(eI t5)]), (lo3, 1, [(.msl 3 lo14 0 (List.length x12))]), (lo14, 3, List.map aE x12)] hO rfl (by kernel_rfl) ?_
      intro H hO
      refine jP 1 lo2 1 0 (eI t5) (eI (7 : Int)) [(eI t5)] [(lo1, 1, [(.sl true 0 (fun _ => .bad))]), (lo2, 1, [(eI (7 : Int))]), (lo3, 1, [(.msl 3 lo14 0 (List.length x12))]), (lo14, 3, List.map aE x12)] hO rfl (by kernel_rfl) ?_
      intro H hO
      refine cQ ?_
      refine LP 0 lo1 1 (.sl true 0 (fun _ => .bad)) (eL aE ([])) [(lo1, 1, [(eL aE ([]))]), (lo2, 1, [(eI (7 : Int))]), (lo3, 1, [(.msl 3 lo14 0 (List.length x12))]), (lo14, 3, List.map aE x12)] hO (by kernel_rfl) (by kernel_rfl) eD (by kernel_rfl) ?_
      intro H hO
      refine bG [(4, (.lp lo1 0 0)), (5, (.lp lo2 0 0)), (6, (.lp lo3 0 0))] ?_
      refine bK ?_
      refine cX [(4, (.lp lo1 0 0)), (5, (.lp lo2 0 0)), (6, (.lp lo3 0 0))] ?_
      obtain rfl := oI h1
      exact aJ (bR (⟨(gK hO hE ho1 .dead).1, rfl, _, ⟨lo14, rfl⟩, (gK hO hE ho1 _).2⟩))
    refine bL ?_
    refine cX [(4, (.lp lo1 0 0)), (5, (.lp lo2 0 0)), (6, (.lp lo3 0 0))] ?_
    obtain rfl := oI h1
    exact aJ (aW (⟨(gK hO hE ho1 .dead).1, rfl, _, ⟨lo14, rfl⟩, (gK hO hE ho1 _).2⟩))
  · intro b lD16 lL H' G' hi hO
    rcases o0 with s | s
    · dsimp only [Sum.elim_inl] at hi
      obtain ⟨lo7, rfl⟩ := hi
      replace h0 : (some (s.2.2, (0 : Int))) = some r := h0
      obtain ⟨hlL, hO⟩ := rJ hO
      refine ⟨_, _, hlL, (by intro e; cases e), ?_⟩
      refine cX [(4, (.lp lo1 0 0)), (5, (.lp lo2 0 0)), (6, (.lp lo3 0 0))] ?_
      refine aJ (aW (aI (?_)))
      refine aP ?_
      refine YI (e := aE) s.2.2 2 3 1 3 lo3 lo7 (List.length s.2.2) [(lo1, 1, [(eL aE s.1)]), (lo2, 1, [(eI s.2.1)]), (lo3, 1, [(eL aE s.2.2)])] hO (by kernel_rfl) (by kernel_rfl) (by kernel_rfl) (.inr (by decide)) (by kernel_rfl) ?_
      intro H hO
      refine aU aG 3 ?_
      refine jZ 2 lo3 1 0 (eL aE s.2.2) (eL aE s.2.2) [(eL aE s.2.2)] hO rfl ?_
      refine jP 0 lo1 1 0 (eL aE s.1) (eL aE s.2.2) [(eL aE s.1)] [(lo1, 1, [(eL aE s.2.2)]), (lo2, 1, [(eI s.2.1)]), (lo3, 1, [(eL aE s.2.2)])] hO rfl (by kernel_rfl) ?_
      intro H hO
      refine jP 1 lo2 1 0 (eI s.2.1) (eI (0 : Int)) [(eI s.2.1)] [(lo1, 1, [(eL aE s.2.2)]), (lo2, 1, [(eI (0 : Int))]), (lo3, 1, [(eL aE s.2.2)])] hO rfl (by kernel_rfl) ?_
      intro H hO
      refine cQ ?_
      replace hO := hO.pick (L' := [(lo1, 1, [(eL aE s.2.2)]), (lo2, 1, [(eI (0 : Int))])]) [0, 1] (by decide) (by kernel_rfl)
      refine bV [6] [] ?_
      refine bK ?_
      obtain rfl := oI h0
      have hD := (hO.gm 0 _ rfl).2
      replace hO := (hO.xN .dead).xJ
      exact aJ (QM1 (.inr rfl) hD (rs := [.cell 4 22, .cell 5 26]) (xs := [(eL aE s.2.2), (eI (0 : Int))]) (x := (.tup [(eL aE s.2.2), (eI (0 : Int))])) (by kernel_rfl) (zT (lo := lo1) (k := 1) (y := (eL aE s.2.2)) (x := (eL aE s.2.2)) 0 hO (by kernel_rfl) (by kernel_rfl) (by kernel_rfl) (by kernel_rfl) (zT (lo := lo2) (k := 1) (y := (eI (0 : Int))) (x := (eI (0 : Int))) 1 hO (by kernel_rfl) (by kernel_rfl) (by kernel_rfl) (by kernel_rfl) sJ)) (by kernel_rfl) ⟨rfl, hO.out⟩)
    · dsimp only [Sum.elim_inr] at hi
      obtain ⟨lo7, rfl⟩ := hi
      replace h0 : (some (s.1, s.2.1)) = some r := h0
      obtain ⟨hlL, hO⟩ := rJ hO
      refine ⟨_, _, hlL, (by intro e; cases e), ?_⟩
      refine bK ?_
      replace hO := hO.pick (L' := [(lo1, 1, [(eL aE s.1)]), (lo2, 1, [(eI s.2.1)])]) [0, 1] (by decide) (by kernel_rfl)
      obtain rfl := oI h0
      have hD := (hO.gm 0 _ rfl).2
      replace hO := (hO.xN .dead).xJ
      exact aJ (bR (aS (QM1 (.inr rfl) hD (rs := [.cell 4 22, .cell 5 26]) (xs := [(eL aE s.1), (eI s.2.1)]) (x := (.tup [(eL aE s.1), (eI s.2.1)])) (by kernel_rfl) (zT (lo := lo1) (k := 1) (y := (eL aE s.1)) (x := (eL aE s.1)) 0 hO (by kernel_rfl) (by kernel_rfl) (by kernel_rfl) (by kernel_rfl) (zT (lo := lo2) (k := 1) (y := (eI s.2.1)) (x := (eI s.2.1)) 1 hO (by kernel_rfl) (by kernel_rfl) (by kernel_rfl) (by kernel_rfl) sJ)) (by kernel_rfl) ⟨rfl, hO.out⟩)))

theorem vW (s0 : (List aB)) (f1_f : Nat) (f1_a f1_c : List V) (f1 : aB → Option Bool) (f1_h : ∀ a0 r, f1 a0 = some r → bY Tryz.prog f1_f (f1_a ++ [(aD a0)] ++ f1_c) (aK r)) (r : Int) (h0 : fU s0 f1 = some r) : bY Tryz.prog 101 [(eL aD s0), (.fn (.func f1_f) f1_a f1_c)] (eI r) := by
  intro H0
  refine cG Tryz.func101 ?_
  have hO := aM.start H0
  unfold fU at h0
  refine aZ aG 1 [] [] ?_
  refine cR (fun T H => Has T [] ∧ aM ⟨H0, [], []⟩ H [] ∧ dY f1  = some r) ?_ ?_
  · clear hO h0
    rintro T H ⟨hT, hO, h0⟩
    refine bB hT ?_
    clear hT
    unfold dY at h0
    refine bU aG 1 [(4, (eI (-1 : Int)))] ?_
    refine bK ?_
    obtain rfl := oI h0
    exact aJ (Q_r hO)
  refine aZ aG 3 [] [(7, (eI (lN s0))), (8, (eI (0 : Int)))] ?_
  refine bT 0 ?_
  refine cT [(0, (eL aD s0)), (1, (.fn (.func f1_f) f1_a f1_c)), (7, (eI (lN s0))), (8, (eI (0 : Int)))] ?_
  refine cH (fun T H => ∃ t7 : Int, ∃ t8 : Int, Has T [(0, (eL aD s0)), (1, (.fn (.func f1_f) f1_a f1_c)), (7, (eI t7)), (8, (eI t8))] ∧ aM ⟨H0, [], []⟩ H [] ∧ fJ f1 s0 t7 t8 = some r) ?_ ⟨(lN s0), (0 : Int), .eq (by kernel_rfl), hO, h0⟩
  clear hO h0
  rintro T H ⟨t7, t8, hT, hO, h0⟩
  refine bB hT ?_
  clear hT
  unfold fJ at h0
  obtain ⟨rr0, hl0, h0⟩ := aX h0
  refine bZ (by kernel_rfl) (fun (s : Int) T H => Has T [(0, (eL aD s0)), (1, (.fn (.func f1_f) f1_a f1_c)), (7, (eI t7)), (8, (eI s))] ∧ aM ⟨H0, [], []⟩ H []) hl0 ⟨.eq (by kernel_rfl), hO⟩ ?_
  clear hO
  rintro k0 s out1 T H ⟨hT, hO⟩ h1 ho0
  obtain ⟨t8, rfl⟩ : ∃ x, x = s := ⟨_, rfl⟩
  replace h1 : fK f1 s0 t7 t8 = some out1 := h1
  refine bB hT ?_
  clear hT
  unfold fK at h1
  refine aZ aG 1 [] [(9, (aK (decide (t8 < t7))))] ?_
  refine aP ?_
  refine bJ h1 (fun h1 => ?_) (fun h1 => ?_)
  · refine bL ?_
    refine bG [(0, (eL aD s0)), (1, (.fn (.func f1_f) f1_a f1_c)), (7, (eI t7)), (8, (eI t8))] ?_
    refine aP ?_
    refine bT 1 ?_
    refine aZ aG 2 [] [(5, (eI t8))] ?_
    refine aP ?_
    refine aU aG 6 ?_
    obtain ⟨c2, h1⟩ := bH h1
    refine mA 5 [0 ≤ t8 ∧ t8 < (lN s0)] ⟨c2, trivial⟩ ?_
    obtain ⟨x3, hx4, h1⟩ := aX h1
    refine cF (f1_h (gD s0 t8) _ hx4) hO ?_
    intro H hO
    refine cQ ?_
    refine bV [] [(16, (aK x3))] ?_
    refine bJ h1 (fun h1 => ?_) (fun h1 => ?_)
    · refine bU aG 2 [(4, (eI t8))] ?_
      refine bK ?_
      obtain rfl := oI h1
      obtain rfl : _ = rr0 := ho0
      replace h0 : some t8 = some r := h0
      obtain rfl := oI h0
      exact aJ (bR (aS (aS (bR (aS (Q_r hO))))))
    refine bL ?_
    refine cX [(0, (eL aD s0)), (1, (.fn (.func f1_f) f1_a f1_c)), (7, (eI t7)), (8, (eI t8))] ?_
    refine aJ (aW (aI (?_)))
    refine aU aG 2 ?_
    refine bF ?_
    exact aJ (aI (⟨rfl, _, (oI h1).symm, .eq (by kernel_rfl), hO⟩))
  refine cY 0 ?_
  obtain rfl := oI h1
  obtain rfl : _ = rr0 := ho0
  replace h0 : dY f1  = some r := h0
  exact aJ (aT (aT (bO (aI (⟨rfl, .eq (by kernel_rfl), hO, h0⟩)))))

theorem nL (s0 : (List aB)) (f1_f : Nat) (f1_a f1_c : List V) (f1 : aB → Option Bool) (f1_h : ∀ a0 r, f1 a0 = some r → bY Tryz.prog f1_f (f1_a ++ [(aD a0)] ++ f1_c) (aK r)) (r : Bool) (h0 : dA s0 f1 = some r) : bY Tryz.prog 86 [(eL aD s0), (.fn (.func f1_f) f1_a f1_c)] (aK r) := by
  intro H0
  refine cG Tryz.func86 ?_
  have hO := aM.start H0
  unfold dA at h0
  refine aZ aG 1 [] [] ?_
  refine aP ?_
  refine aU aG 5 ?_
  refine bS 2 ?_
  obtain ⟨x1, hx2, h0⟩ := aX h0
  refine cF (vW s0 f1_f f1_a f1_c f1 f1_h _ hx2) hO ?_
  intro H hO
  refine bF ?_
  refine bG [(4, (aK (decide ((0 : Int) ≤ x1))))] ?_
  refine bK ?_
  obtain rfl := oI h0
  exact aJ (Q_r hO)

theorem LF (n0 : Int) (r : Bool) (h0 : yI n0 = some r) : bY Tryz.prog 74 [(eI n0)] (aK r) := by
  intro H0
  refine cG Tryz.func74 ?_
  have hO := aM.start H0
  unfold yI at h0
  refine aZ aG 1 [] [] ?_
  refine bU aG 7 [(2, (aK ((decide (n0 ≤ (1048576 : Int))) && (decide ((-1048576 : Int) ≤ n0)))))] ?_
  refine bK ?_
  obtain rfl := oI h0
  exact aJ (Q_r hO)

theorem RW (j0 : aB) (r : Bool) (h0 : uG j0 = some r) : bY Tryz.prog 87 [(aD j0)] (aK r) := by
  intro H0
  refine cG Tryz.func87 ?_
  have hO := aM.start H0
  unfold uG at h0
  refine aP ?_
  refine aU aG 2 ?_
  refine fS 2 (aD j0) (by kernel_rfl) (by kernel_rfl) ?_
  refine bF ?_
  refine bG [(1, (.rp (aD j0)))] ?_
  refine aP ?_
  refine aU aG 5 ?_
  refine bS 2 ?_
  obtain ⟨x1, hx2, h0⟩ := aX h0
  refine cF (LF j0.Net _ hx2) hO ?_
  intro H hO
  refine bF ?_
  refine bG [(2, (aK (!x1)))] ?_
  refine bK ?_
  obtain rfl := oI h0
  exact aJ (Q_r hO)

theorem RY (j0 : aB) (r : Bool) (h0 : uF j0 = some r) : bY Tryz.prog 88 [(aD j0)] (aK r) := by
  intro H0
  refine cG Tryz.func88 ?_
  have hO := aM.start H0
  unfold uF at h0
  refine aP ?_
  refine aU aG 2 ?_
  refine fS 2 (aD j0) (by kernel_rfl) (by kernel_rfl) ?_
  refine bF ?_
  refine bG [(1, (.rp (aD j0)))] ?_
  refine bU aG 9 [(2, (aK ((decide (j0.At < (-1 : Int))) || (decide ((1125899906842624 : Int) < j0.At)))))] ?_
  refine bK ?_
  obtain rfl := oI h0
  exact aJ (Q_r hO)

theorem zN (s0 : (List aB)) (r : (List aB)) (h0 : eZ s0 = some r) : DA Tryz.prog 89 [(eL aD s0)] (fun lo => (.msl 2 lo 0 (List.length r))) 2 (List.map aD r) := by
  intro H0
  refine cG Tryz.func89 ?_
  have hO := aM.start H0
  unfold eZ at h0
  refine aZ aG 1 [] [] ?_
  refine aP ?_
  refine aP ?_
  refine aU aG 2 ?_
  refine bS 1 ?_
  refine aBZ false (List.length s0) (fun i => aD (List.getD s0 i default)) (by kernel_rfl) (by kernel_rfl) ?_
  intro b1 hn2
  refine cQ ?_
  refine bV [] [(4, (aK b1))] ?_
  refine oV (b1) (fun hc3 => ?_) (fun hc3 => ?_)
  · replace h0 : some ([] : List aB) = some r := by
      have hl := List.eq_nil_of_length_eq_zero (hn2 hc3)
      rw [hl] at h0
      exact (bH h0).2
    refine bU aG 1 [(2, (.sl true 0 (fun _ => .bad)))] ?_
    refine bK ?_
    refine cX [(2, (.sl true 0 (fun _ => .bad)))] ?_
    refine aAO (el := (fun _ => .bad)) 0 2 2 hO (by kernel_rfl) ?_
    intro lo4 H5 hO
    obtain rfl := oI h0
    exact aJ (aS (rK (x := (.msl 2 lo4 0 (List.length ([] : List aB)))) (by kernel_rfl) (aV.refl _) ⟨lo4, rfl, hO⟩))
  · refine bL ?_
    refine bG [(0, (eL aD s0))] ?_
    refine aP ?_
    refine aU aG 4 ?_
    refine nP (xs := []) (k := 2) (by kernel_rfl) (by kernel_rfl) ?_
    refine bS 2 ?_
    obtain ⟨c7, h0⟩ := bH h0
    refine OR (e := aD) s0 (fun _ => .bad) 2 16 (eL aD s0) (fun lo6 => [(lo6, 2, List.map aD s0)]) (by kernel_rfl) (by kernel_rfl) hO (KO (fun _ => by kernel_rfl)) c7 (fun _ => by kernel_rfl) ?_
    intro lo6 H hO
    refine bF ?_
    refine bG [(2, (.msl 2 lo6 0 (List.length s0)))] ?_
    refine bK ?_
    obtain rfl := oI h0
    exact aJ (rK (x := (.msl 2 lo6 0 (List.length s0))) (by kernel_rfl) (aV.refl _) ⟨lo6, rfl, hO⟩)

theorem nQ (lo0p : Nat) (aA : (List aB)) (a1 : Int) (b2 : Int) (cmp3_f : Nat) (cmp3_a cmp3_c : List V) (cmp3 : aB → aB → Option Int) (cmp3_h : ∀ a0 a1 r, cmp3 a0 a1 = some r → bY Tryz.prog cmp3_f (cmp3_a ++ [(aD a0), (aD a1)] ++ cmp3_c) (eI r)) (r : List aB) (h0 : dU aA a1 b2 cmp3 = some r) : lP Tryz.prog 106 lo0p 2 (List.map aD aA) (List.map aD r) [(.msl 2 lo0p 0 (List.length aA)), (eI a1), (eI b2), (.fn (.func cmp3_f) cmp3_a cmp3_c)] (.tup []) := by
  intro H0 hl0
  refine cG Tryz.func106 ?_
  have hO := aM.rM hl0
  clear hl0
  obtain ⟨N0, hN0⟩ : ∃ n, n = List.length aA := ⟨_, rfl⟩
  have hN : List.length aA = N0 := hN0.symm
  unfold dU at h0
  refine aZ aG 3 [] [(8, (eI (wR (a1 + (1 : Int)))))] ?_
  refine bT 0 ?_
  refine cT [(0, (.msl 2 lo0p 0 (List.length aA))), (1, (eI a1)), (2, (eI b2)), (3, (.fn (.func cmp3_f) cmp3_a cmp3_c)), (8, (eI (wR (a1 + (1 : Int)))))] ?_
  refine cH (fun T H => ∃ aA : List aB, ∃ i8 : Int, Has T [(0, (.msl 2 lo0p 0 (List.length aA))), (1, (eI a1)), (2, (eI b2)), (3, (.fn (.func cmp3_f) cmp3_a cmp3_c)), (8, (eI i8))] ∧ aM ⟨H0, [lo0p], []⟩ H [(lo0p, 2, List.map aD aA)] ∧ List.length aA = N0 ∧ jF cmp3 aA a1 b2 i8 = some r) ?_ ⟨aA, wR (a1 + (1 : Int)), .eq (by kernel_rfl), hO, hN, h0⟩
  clear hO hN h0
  rintro T H ⟨aA, i8, hT, hO, hN, h0⟩
  refine bB hT ?_
  clear hT
  unfold jF at h0
  obtain ⟨rr0, hl0, h0⟩ := aX h0
  refine bZ (by kernel_rfl) (fun (s : List aB × Int) T H => Has T [(0, (.msl 2 lo0p 0 (List.length s.1))), (1, (eI a1)), (2, (eI b2)), (3, (.fn (.func cmp3_f) cmp3_a cmp3_c)), (8, (eI s.2))] ∧ aM ⟨H0, [lo0p], []⟩ H [(lo0p, 2, List.map aD s.1)] ∧ List.length s.1 = N0) hl0 ⟨.eq (by kernel_rfl), hO, hN⟩ ?_
  clear hO hN
  rintro k0 s out1 T H ⟨hT, hO, hN⟩ h1 ho0
  obtain ⟨aA, i8⟩ := s
  replace h1 : iZ cmp3 a1 b2 aA i8 = some out1 := h1
  try dsimp only at hT
  refine bB hT ?_
  clear hT
  unfold iZ at h1
  refine aP ?_
  refine aZ aG 3 [] [(14, (aK (decide (i8 < b2))))] ?_
  refine bJ h1 (fun h1 => ?_) (fun h1 => ?_)
  · refine bL ?_
    refine bG [(0, (.msl 2 lo0p 0 (List.length aA))), (1, (eI a1)), (2, (eI b2)), (3, (.fn (.func cmp3_f) cmp3_a cmp3_c)), (8, (eI i8))] ?_
    refine cR (fun T H => ∃ aA : List aB, Has T [(0, (.msl 2 lo0p 0 (List.length aA))), (1, (eI a1)), (2, (eI b2)), (3, (.fn (.func cmp3_f) cmp3_a cmp3_c)), (8, (eI i8))] ∧ aM ⟨H0, [lo0p], []⟩ H [(lo0p, 2, List.map aD aA)] ∧ List.length aA = N0 ∧ eU cmp3 aA a1 b2 i8 = some out1) ?_ ?_
    · clear hO hN h1
      rintro T H ⟨aA, hT, hO, hN, h1⟩
      refine bB hT ?_
      clear hT
      unfold eU at h1
      refine aU aG 3 ?_
      refine bF ?_
      exact aJ (aI (⟨rfl, _, (oI h1).symm, .eq (by kernel_rfl), hO, hN⟩))
    refine bT 1 ?_
    refine aZ aG 2 [] [(9, (eI i8))] ?_
    refine bT 2 ?_
    refine cT [(0, (.msl 2 lo0p 0 (List.length aA))), (1, (eI a1)), (2, (eI b2)), (3, (.fn (.func cmp3_f) cmp3_a cmp3_c)), (8, (eI i8)), (9, (eI i8))] ?_
    refine cH (fun T H => ∃ aA : List aB, ∃ j9 : Int, Has T [(0, (.msl 2 lo0p 0 (List.length aA))), (1, (eI a1)), (2, (eI b2)), (3, (.fn (.func cmp3_f) cmp3_a cmp3_c)), (8, (eI i8)), (9, (eI j9))] ∧ aM ⟨H0, [lo0p], []⟩ H [(lo0p, 2, List.map aD aA)] ∧ List.length aA = N0 ∧ jB cmp3 aA a1 b2 i8 j9 = some out1) ?_ ⟨aA, i8, .eq (by kernel_rfl), hO, hN, h1⟩
    clear hO hN h1
    rintro T H ⟨aA, j9, hT, hO, hN, h1⟩
    refine bB hT ?_
    clear hT
    unfold jB at h1
    obtain ⟨rr1, hl1, h1⟩ := aX h1
    refine bZ (by kernel_rfl) (fun (s : List aB × Int) T H => Has T [(0, (.msl 2 lo0p 0 (List.length s.1))), (1, (eI a1)), (2, (eI b2)), (3, (.fn (.func cmp3_f) cmp3_a cmp3_c)), (8, (eI i8)), (9, (eI s.2))] ∧ aM ⟨H0, [lo0p], []⟩ H [(lo0p, 2, List.map aD s.1)] ∧ List.length s.1 = N0) hl1 ⟨.eq (by kernel_rfl), hO, hN⟩ ?_
    clear hO hN
    rintro k1 s out2 T H ⟨hT, hO, hN⟩ h2 ho1
    obtain ⟨aA, j9⟩ := s
    replace h2 : jG cmp3 a1 b2 i8 aA j9 = some out2 := h2
    try dsimp only at hT
    refine bB hT ?_
    clear hT
    unfold jG at h2
    refine aP ?_
    refine aP ?_
    obtain ⟨c2, h2⟩ := bH h2
    obtain ⟨c3, h2⟩ := bH h2
    obtain ⟨x4, hx5, h2⟩ := aX h2
    refine fQ (fP []) aG 17 ?_
    refine wK (K := fun T H => Has (lift T) [(0, (.msl 2 lo0p 0 (List.length aA))), (1, (eI a1)), (2, (eI b2)), (3, (.fn (.func cmp3_f) cmp3_a cmp3_c)), (8, (eI i8)), (9, (eI j9)), (34, (aK ((decide (a1 < j9)) && (decide (x4 < (0 : Int))))))] ∧ aM ⟨H0, [lo0p], []⟩ H [(lo0p, 2, List.map aD aA)]) ?_ ?_
    · refine qG 4 ?_
      refine rA (t := 21) (e := decide (a1 < j9)) (by kernel_rfl) (fun hg6 => ?_) (fun hg6 => ?_)
      · refine cZ 8 [0 ≤ j9 ∧ j9 < (lN aA)] ⟨(c2 hg6), trivial⟩ ?_
        refine zV 0 lo0p 2 (0 + Int.toNat j9) (aD (gD aA j9)) (aD (gD aA j9)) (List.map aD aA) (by kernel_rfl) (by kernel_rfl) (by kernel_rfl) hO (by kernel_rfl) (cU (c2 hg6)) ?_
        refine cZ 13 [0 ≤ (wR (j9 - (1 : Int))) ∧ (wR (j9 - (1 : Int))) < (lN aA)] ⟨(c3 hg6), trivial⟩ ?_
        refine zV 0 lo0p 2 (0 + Int.toNat (wR (j9 - (1 : Int)))) (aD (gD aA (wR (j9 - (1 : Int))))) (aD (gD aA (wR (j9 - (1 : Int))))) (List.map aD aA) (by kernel_rfl) (by kernel_rfl) (by kernel_rfl) hO (by kernel_rfl) (cU (c3 hg6)) ?_
        refine zW cmp3_f (cmp3_a ++ [(aD (gD aA j9)), (aD (gD aA (wR (j9 - (1 : Int)))))] ++ cmp3_c) (eI x4) (by kernel_rfl) (by kernel_rfl) (cmp3_h (gD aA j9) (gD aA (wR (j9 - (1 : Int)))) _ (fW hx5 hg6)) hO ?_
        intro H hO
        refine jO ?_
        exact ⟨⟨[(0, (.msl 2 lo0p 0 (List.length aA))), (1, (eI a1)), (2, (eI b2)), (3, (.fn (.func cmp3_f) cmp3_a cmp3_c)), (8, (eI i8)), (9, (eI j9)), (34, (aK (decide (x4 < (0 : Int)))))], by kernel_rfl, rfl, ⟨aV.refl _, aV.refl _, aV.refl _, aV.refl _, aV.refl _, aV.refl _, aV.eq (congrArg aK (rZ hg6 rfl).symm), trivial⟩⟩, hO⟩
      refine jO ?_
      exact ⟨⟨[(0, (.msl 2 lo0p 0 (List.length aA))), (1, (eI a1)), (2, (eI b2)), (3, (.fn (.func cmp3_f) cmp3_a cmp3_c)), (8, (eI i8)), (9, (eI j9)), (34, (aK false))], by kernel_rfl, rfl, ⟨aV.refl _, aV.refl _, aV.refl _, aV.refl _, aV.refl _, aV.refl _, aV.eq (congrArg aK (rZ hg6 rfl).symm), trivial⟩⟩, hO⟩
    · rintro T H ⟨hT, hO⟩
      refine cP hT ?_
      clear hT
      refine aJ (aI ?_)
      refine bJ h2 (fun h2 => ?_) (fun h2 => ?_)
      · refine bL ?_
        refine bG [(0, (.msl 2 lo0p 0 (List.length aA))), (1, (eI a1)), (2, (eI b2)), (3, (.fn (.func cmp3_f) cmp3_a cmp3_c)), (8, (eI i8)), (9, (eI j9))] ?_
        refine aP ?_
        refine bT 3 ?_
        refine fQ (fP []) aG 18 ?_
        obtain ⟨c8, h2⟩ := bH h2
        refine cZ 9 [0 ≤ (wR (j9 - (1 : Int))) ∧ (wR (j9 - (1 : Int))) < (lN aA)] ⟨c8, trivial⟩ ?_
        refine kX 0 lo0p 2 (0 + Int.toNat (wR (j9 - (1 : Int)))) (aD (gD aA (wR (j9 - (1 : Int))))) (aD (gD aA (wR (j9 - (1 : Int))))) (List.map aD aA) hO (cU c8) ?_
        obtain ⟨c9, h2⟩ := bH h2
        refine cZ 13 [0 ≤ j9 ∧ j9 < (lN aA)] ⟨c9, trivial⟩ ?_
        refine kX 0 lo0p 2 (0 + Int.toNat j9) (aD (gD aA j9)) (aD (gD aA j9)) (List.map aD aA) hO (cU c9) ?_
        obtain ⟨c10, h2⟩ := bH h2
        refine cZ 15 [0 ≤ j9 ∧ j9 < (lN aA)] ⟨c10, trivial⟩ ?_
        refine tD 0 lo0p 2 (0 + Int.toNat j9) (aD (gD aA j9)) (aD (gD aA (wR (j9 - (1 : Int))))) (List.map aD aA) [(lo0p, 2, List.map aD (List.set aA (Int.toNat j9) (gD aA (wR (j9 - (1 : Int))))))] hO (cU c10) (by simp only [List.set, oP]) ?_
        intro H hO
        replace hN : List.length (List.set aA (Int.toNat j9) (gD aA (wR (j9 - (1 : Int))))) = N0 := by simpa using hN
        obtain ⟨c11, h2⟩ := bH h2
        refine cZ 17 [0 ≤ (wR (j9 - (1 : Int))) ∧ (wR (j9 - (1 : Int))) < (lN aA)] ⟨c11, trivial⟩ ?_
        refine tD 0 lo0p 2 (0 + Int.toNat (wR (j9 - (1 : Int)))) (aD (gD (List.set aA (Int.toNat j9) (gD aA (wR (j9 - (1 : Int))))) (wR (j9 - (1 : Int))))) (aD (gD aA j9)) (List.map aD (List.set aA (Int.toNat j9) (gD aA (wR (j9 - (1 : Int)))))) [(lo0p, 2, List.map aD (List.set (List.set aA (Int.toNat j9) (gD aA (wR (j9 - (1 : Int))))) (Int.toNat (wR (j9 - (1 : Int)))) (gD aA j9)))] hO (zU c11 (by simp [])) (by simp only [List.set, oP]) ?_
        intro H hO
        replace hN : List.length (List.set (List.set aA (Int.toNat j9) (gD aA (wR (j9 - (1 : Int))))) (Int.toNat (wR (j9 - (1 : Int)))) (gD aA j9)) = N0 := by simpa using hN
        refine AO (by kernel_rfl) ?_
        refine cP (l := [(0, (.msl 2 lo0p 0 (List.length (List.set (List.set aA (Int.toNat j9) (gD aA (wR (j9 - (1 : Int))))) (Int.toNat (wR (j9 - (1 : Int)))) (gD aA j9))))), (1, (eI a1)), (2, (eI b2)), (3, (.fn (.func cmp3_f) cmp3_a cmp3_c)), (8, (eI i8)), (9, (eI j9))]) ⟨[(0, (.msl 2 lo0p 0 (List.length aA))), (1, (eI a1)), (2, (eI b2)), (3, (.fn (.func cmp3_f) cmp3_a cmp3_c)), (8, (eI i8)), (9, (eI j9))], by kernel_rfl, rfl, ⟨aV.eq (by simp []), aV.refl _, aV.refl _, aV.refl _, aV.refl _, aV.refl _, trivial⟩⟩ ?_
        refine aJ (aW (aI (?_)))
        refine aU aG 3 ?_
        refine bF ?_
        exact aJ (aI (⟨rfl, _, (oI h2).symm, .eq (by kernel_rfl), hO, hN⟩))
      refine cY 2 ?_
      obtain rfl := oI h2
      obtain rfl : _ = rr1 := ho1
      replace h1 : eU cmp3 aA a1 b2 i8 = some out1 := h1
      exact aJ (aT (aT (bO (aW (aI (⟨rfl, _, .eq (by kernel_rfl), hO, hN, h1⟩))))))
  refine cY 0 ?_
  obtain rfl := oI h1
  obtain rfl : _ = rr0 := ho0
  replace h0 : some aA = some r := h0
  obtain rfl := oI h0
  exact aJ (aT (aT (bO (sC (x := (.tup [])) (by kernel_rfl) (aV.refl _) ⟨rfl, hO.ext, hO.at 0 (by kernel_rfl), by simp only [List.length_map]; exact hN.trans hN0⟩))))

theorem lF (lo0p : Nat) (aA : (List aB)) (a1 : Int) (b2 : Int) (n3 : Int) (cmp4_f : Nat) (cmp4_a cmp4_c : List V) (cmp4 : aB → aB → Option Int) (cmp4_h : ∀ a0 a1 r, cmp4 a0 a1 = some r → bY Tryz.prog cmp4_f (cmp4_a ++ [(aD a0), (aD a1)] ++ cmp4_c) (eI r)) (r : List aB) (h0 : eM aA a1 b2 n3 cmp4 = some r) : lP Tryz.prog 111 lo0p 2 (List.map aD aA) (List.map aD r) [(.msl 2 lo0p 0 (List.length aA)), (eI a1), (eI b2), (eI n3), (.fn (.func cmp4_f) cmp4_a cmp4_c)] (.tup []) := by
  intro H0 hl0
  refine cG Tryz.func111 ?_
  have hO := aM.rM hl0
  clear hl0
  obtain ⟨N0, hN0⟩ : ∃ n, n = List.length aA := ⟨_, rfl⟩
  have hN : List.length aA = N0 := hN0.symm
  unfold eM at h0
  refine aZ aG 1 [4] [(10, (eI (0 : Int)))] ?_
  refine bT 0 ?_
  refine cT [(0, (.msl 2 lo0p 0 (List.length aA))), (1, (eI a1)), (2, (eI b2)), (3, (eI n3)), (10, (eI (0 : Int)))] ?_
  refine cH (fun T H => ∃ aA : List aB, ∃ i10 : Int, Has T [(0, (.msl 2 lo0p 0 (List.length aA))), (1, (eI a1)), (2, (eI b2)), (3, (eI n3)), (10, (eI i10))] ∧ aM ⟨H0, [lo0p], []⟩ H [(lo0p, 2, List.map aD aA)] ∧ List.length aA = N0 ∧ kH cmp4 aA a1 b2 n3 i10 = some r) ?_ ⟨aA, (0 : Int), .eq (by kernel_rfl), hO, hN, h0⟩
  clear hO hN h0
  rintro T H ⟨aA, i10, hT, hO, hN, h0⟩
  refine bB hT ?_
  clear hT
  unfold kH at h0
  obtain ⟨rr0, hl0, h0⟩ := aX h0
  refine bZ (by kernel_rfl) (fun (s : List aB × Int) T H => Has T [(0, (.msl 2 lo0p 0 (List.length s.1))), (1, (eI a1)), (2, (eI b2)), (3, (eI n3)), (10, (eI s.2))] ∧ aM ⟨H0, [lo0p], []⟩ H [(lo0p, 2, List.map aD s.1)] ∧ List.length s.1 = N0) hl0 ⟨.eq (by kernel_rfl), hO, hN⟩ ?_
  clear hO hN
  rintro k0 s out1 T H ⟨hT, hO, hN⟩ h1 ho0
  obtain ⟨aA, i10⟩ := s
  replace h1 : kK cmp4 a1 b2 n3 aA i10 = some out1 := h1
  try dsimp only at hT
  refine bB hT ?_
  clear hT
  unfold kK at h1
  refine aP ?_
  refine aZ aG 3 [] [(13, (aK (decide (i10 < n3))))] ?_
  refine bJ h1 (fun h1 => ?_) (fun h1 => ?_)
  · refine bL ?_
    refine bG [(0, (.msl 2 lo0p 0 (List.length aA))), (1, (eI a1)), (2, (eI b2)), (3, (eI n3)), (10, (eI i10))] ?_
    refine aP ?_
    refine bT 1 ?_
    refine fQ (fP []) aG 24 ?_
    obtain ⟨c2, h1⟩ := bH h1
    refine cZ 13 [0 ≤ (wR (b2 + i10)) ∧ (wR (b2 + i10)) < (lN aA)] ⟨c2, trivial⟩ ?_
    refine kX 0 lo0p 2 (0 + Int.toNat (wR (b2 + i10))) (aD (gD aA (wR (b2 + i10)))) (aD (gD aA (wR (b2 + i10)))) (List.map aD aA) hO (cU c2) ?_
    obtain ⟨c3, h1⟩ := bH h1
    refine cZ 19 [0 ≤ (wR (a1 + i10)) ∧ (wR (a1 + i10)) < (lN aA)] ⟨c3, trivial⟩ ?_
    refine kX 0 lo0p 2 (0 + Int.toNat (wR (a1 + i10))) (aD (gD aA (wR (a1 + i10)))) (aD (gD aA (wR (a1 + i10)))) (List.map aD aA) hO (cU c3) ?_
    obtain ⟨c4, h1⟩ := bH h1
    refine cZ 21 [0 ≤ (wR (a1 + i10)) ∧ (wR (a1 + i10)) < (lN aA)] ⟨c4, trivial⟩ ?_
    refine tD 0 lo0p 2 (0 + Int.toNat (wR (a1 + i10))) (aD (gD aA (wR (a1 + i10)))) (aD (gD aA (wR (b2 + i10)))) (List.map aD aA) [(lo0p, 2, List.map aD (List.set aA (Int.toNat (wR (a1 + i10))) (gD aA (wR (b2 + i10)))))] hO (cU c4) (by simp only [List.set, oP]) ?_
    intro H hO
    replace hN : List.length (List.set aA (Int.toNat (wR (a1 + i10))) (gD aA (wR (b2 + i10)))) = N0 := by simpa using hN
    obtain ⟨c5, h1⟩ := bH h1
    refine cZ 23 [0 ≤ (wR (b2 + i10)) ∧ (wR (b2 + i10)) < (lN aA)] ⟨c5, trivial⟩ ?_
    refine tD 0 lo0p 2 (0 + Int.toNat (wR (b2 + i10))) (aD (gD (List.set aA (Int.toNat (wR (a1 + i10))) (gD aA (wR (b2 + i10)))) (wR (b2 + i10)))) (aD (gD aA (wR (a1 + i10)))) (List.map aD (List.set aA (Int.toNat (wR (a1 + i10))) (gD aA (wR (b2 + i10))))) [(lo0p, 2, List.map aD (List.set (List.set aA (Int.toNat (wR (a1 + i10))) (gD aA (wR (b2 + i10)))) (Int.toNat (wR (b2 + i10))) (gD aA (wR (a1 + i10)))))] hO (zU c5 (by simp [])) (by simp only [List.set, oP]) ?_
    intro H hO
    replace hN : List.length (List.set (List.set aA (Int.toNat (wR (a1 + i10))) (gD aA (wR (b2 + i10)))) (Int.toNat (wR (b2 + i10))) (gD aA (wR (a1 + i10)))) = N0 := by simpa using hN
    refine AO (by kernel_rfl) ?_
    refine cP (l := [(0, (.msl 2 lo0p 0 (List.length (List.set (List.set aA (Int.toNat (wR (a1 + i10))) (gD aA (wR (b2 + i10)))) (Int.toNat (wR (b2 + i10))) (gD aA (wR (a1 + i10))))))), (1, (eI a1)), (2, (eI b2)), (3, (eI n3)), (10, (eI i10))]) ⟨[(0, (.msl 2 lo0p 0 (List.length aA))), (1, (eI a1)), (2, (eI b2)), (3, (eI n3)), (10, (eI i10))], by kernel_rfl, rfl, ⟨aV.eq (by simp []), aV.refl _, aV.refl _, aV.refl _, aV.refl _, trivial⟩⟩ ?_
    refine aJ (aW (aI (?_)))
    refine aU aG 3 ?_
    refine bF ?_
    exact aJ (aI (⟨rfl, _, (oI h1).symm, .eq (by kernel_rfl), hO, hN⟩))
  refine cY 0 ?_
  obtain rfl := oI h1
  obtain rfl : _ = rr0 := ho0
  replace h0 : some aA = some r := h0
  obtain rfl := oI h0
  exact aJ (aT (aT (bO (sC (x := (.tup [])) (by kernel_rfl) (aV.refl _) ⟨rfl, hO.ext, hO.at 0 (by kernel_rfl), by simp only [List.length_map]; exact hN.trans hN0⟩))))

theorem AD (lo0p : Nat) (aA : (List aB)) (a1 : Int) (m2 : Int) (b3 : Int) (cmp4_f : Nat) (cmp4_a cmp4_c : List V) (cmp4 : aB → aB → Option Int) (cmp4_h : ∀ a0 a1 r, cmp4 a0 a1 = some r → bY Tryz.prog cmp4_f (cmp4_a ++ [(aD a0), (aD a1)] ++ cmp4_c) (eI r)) (r : List aB) (h0 : mO aA a1 m2 b3 cmp4 = some r) : lP Tryz.prog 110 lo0p 2 (List.map aD aA) (List.map aD r) [(.msl 2 lo0p 0 (List.length aA)), (eI a1), (eI m2), (eI b3), (.fn (.func cmp4_f) cmp4_a cmp4_c)] (.tup []) := by
  intro H0 hl0
  refine cG Tryz.func110 ?_
  have hO := aM.rM hl0
  clear hl0
  obtain ⟨N0, hN0⟩ : ∃ n, n = List.length aA := ⟨_, rfl⟩
  have hN : List.length aA = N0 := hN0.symm
  unfold mO at h0
  refine aZ aG 4 [1] [(10, (eI (wR (m2 - a1))))] ?_
  refine aZ aG 4 [3] [(11, (eI (wR (b3 - m2))))] ?_
  refine cR (fun T H => ∃ aA : List aB, ∃ i10 : Int, Has T [(0, (.msl 2 lo0p 0 (List.length aA))), (2, (eI m2)), (4, (.fn (.func cmp4_f) cmp4_a cmp4_c)), (10, (eI i10))] ∧ aM ⟨H0, [lo0p], []⟩ H [(lo0p, 2, List.map aD aA)] ∧ List.length aA = N0 ∧ iF cmp4 aA m2 i10 = some r) ?_ ?_
  · clear hO hN h0
    rintro T H ⟨aA, i10, hT, hO, hN, h0⟩
    refine bB hT ?_
    clear hT
    unfold iF at h0
    refine aU aG 8 ?_
    refine bS 7 ?_
    obtain ⟨x1, hx2, h0⟩ := aX h0
    refine pI [(lo0p, 2, List.map aD x1)] 0 (lF lo0p aA (wR (m2 - i10)) m2 i10 cmp4_f cmp4_a cmp4_c cmp4 cmp4_h _ hx2) hO ?_
    intro H hO hl3
    simp only [List.length_map] at hl3
    replace hN := hl3.trans hN
    refine cQ ?_
    refine cP (l := [(0, (.msl 2 lo0p 0 (List.length x1)))]) ⟨[(0, (.msl 2 lo0p 0 (List.length aA)))], by kernel_rfl, rfl, ⟨aV.eq (by simp [hl3]), trivial⟩⟩ ?_
    obtain rfl := oI h0
    exact aJ (sC (x := (.tup [])) (by kernel_rfl) (aV.refl _) ⟨rfl, hO.ext, hO.at 0 (by kernel_rfl), by simp only [List.length_map]; exact hN.trans hN0⟩)
  refine bT 0 ?_
  refine cT [(0, (.msl 2 lo0p 0 (List.length aA))), (2, (eI m2)), (4, (.fn (.func cmp4_f) cmp4_a cmp4_c)), (10, (eI (wR (m2 - a1)))), (11, (eI (wR (b3 - m2))))] ?_
  refine cH (fun T H => ∃ aA : List aB, ∃ i10 : Int, ∃ j11 : Int, Has T [(0, (.msl 2 lo0p 0 (List.length aA))), (2, (eI m2)), (4, (.fn (.func cmp4_f) cmp4_a cmp4_c)), (10, (eI i10)), (11, (eI j11))] ∧ aM ⟨H0, [lo0p], []⟩ H [(lo0p, 2, List.map aD aA)] ∧ List.length aA = N0 ∧ mB cmp4 aA m2 i10 j11 = some r) ?_ ⟨aA, wR (m2 - a1), wR (b3 - m2), .eq (by kernel_rfl), hO, hN, h0⟩
  clear hO hN h0
  rintro T H ⟨aA, i10, j11, hT, hO, hN, h0⟩
  refine bB hT ?_
  clear hT
  unfold mB at h0
  obtain ⟨rr0, hl0, h0⟩ := aX h0
  refine bZ (by kernel_rfl) (fun (s : List aB × Int × Int) T H => Has T [(0, (.msl 2 lo0p 0 (List.length s.1))), (2, (eI m2)), (4, (.fn (.func cmp4_f) cmp4_a cmp4_c)), (10, (eI s.2.1)), (11, (eI s.2.2))] ∧ aM ⟨H0, [lo0p], []⟩ H [(lo0p, 2, List.map aD s.1)] ∧ List.length s.1 = N0) hl0 ⟨.eq (by kernel_rfl), hO, hN⟩ ?_
  clear hO hN
  rintro k0 s out1 T H ⟨hT, hO, hN⟩ h1 ho0
  obtain ⟨aA, i10, j11⟩ := s
  replace h1 : mC cmp4 m2 aA i10 j11 = some out1 := h1
  try dsimp only at hT
  refine bB hT ?_
  clear hT
  unfold mC at h1
  refine aP ?_
  refine aZ aG 3 [] [(20, (aK (!decide (i10 = j11))))] ?_
  refine bJ h1 (fun h1 => ?_) (fun h1 => ?_)
  · refine bL ?_
    refine bG [(0, (.msl 2 lo0p 0 (List.length aA))), (2, (eI m2)), (4, (.fn (.func cmp4_f) cmp4_a cmp4_c)), (10, (eI i10)), (11, (eI j11))] ?_
    refine bT 1 ?_
    refine aZ aG 3 [] [(23, (aK (decide (j11 < i10))))] ?_
    refine bJ h1 (fun h1 => ?_) (fun h1 => ?_)
    · refine aP ?_
      refine aU aG 8 ?_
      refine bS 7 ?_
      obtain ⟨x6, hx7, h1⟩ := aX h1
      refine pI [(lo0p, 2, List.map aD x6)] 0 (lF lo0p aA (wR (m2 - i10)) m2 j11 cmp4_f cmp4_a cmp4_c cmp4 cmp4_h _ hx7) hO ?_
      intro H hO hl8
      simp only [List.length_map] at hl8
      replace hN := hl8.trans hN
      refine cQ ?_
      refine cP (l := [(0, (.msl 2 lo0p 0 (List.length x6))), (2, (eI m2)), (4, (.fn (.func cmp4_f) cmp4_a cmp4_c)), (10, (eI i10)), (11, (eI j11))]) ⟨[(0, (.msl 2 lo0p 0 (List.length aA))), (2, (eI m2)), (4, (.fn (.func cmp4_f) cmp4_a cmp4_c)), (10, (eI i10)), (11, (eI j11))], by kernel_rfl, rfl, ⟨aV.eq (by simp [hl8]), aV.refl _, aV.refl _, aV.refl _, aV.refl _, trivial⟩⟩ ?_
      refine aJ (aI (?_))
      refine aU aG 4 ?_
      refine bF ?_
      exact aJ (aW (aI (⟨rfl, _, (oI h1).symm, .eq (by kernel_rfl), hO, hN⟩)))
    refine aP ?_
    refine aU aG 12 ?_
    refine bS 11 ?_
    obtain ⟨x9, hx10, h1⟩ := aX h1
    refine pI [(lo0p, 2, List.map aD x9)] 0 (lF lo0p aA (wR (m2 - i10)) (wR ((wR (m2 + j11)) - i10)) i10 cmp4_f cmp4_a cmp4_c cmp4 cmp4_h _ hx10) hO ?_
    intro H hO hl11
    simp only [List.length_map] at hl11
    replace hN := hl11.trans hN
    refine cQ ?_
    refine cP (l := [(0, (.msl 2 lo0p 0 (List.length x9))), (2, (eI m2)), (4, (.fn (.func cmp4_f) cmp4_a cmp4_c)), (10, (eI i10)), (11, (eI j11))]) ⟨[(0, (.msl 2 lo0p 0 (List.length aA))), (2, (eI m2)), (4, (.fn (.func cmp4_f) cmp4_a cmp4_c)), (10, (eI i10)), (11, (eI j11))], by kernel_rfl, rfl, ⟨aV.eq (by simp [hl11]), aV.refl _, aV.refl _, aV.refl _, aV.refl _, trivial⟩⟩ ?_
    refine aJ (aI (?_))
    refine aU aG 4 ?_
    refine bF ?_
    exact aJ (aW (aI (⟨rfl, _, (oI h1).symm, .eq (by kernel_rfl), hO, hN⟩)))
  refine cY 0 ?_
  obtain rfl := oI h1
  obtain rfl : _ = rr0 := ho0
  replace h0 : iF cmp4 aA m2 i10 = some r := h0
  exact aJ (aT (aT (bO (aI (⟨rfl, _, _, .eq (by kernel_rfl), hO, hN, h0⟩)))))

end Go.Abs
namespace Go.Abs
open Go Go.RowKit Go.Proofs
end Go.Abs
