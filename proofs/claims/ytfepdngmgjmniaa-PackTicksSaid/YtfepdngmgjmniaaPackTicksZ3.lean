/- What the law PackTicks stands on: the framework, the given functions as plain functions, their walks, and the plain laws; part 3. -/
import Derived.Test.YtfepdngmgjmniaaPackTicksZ2
set_option linter.unusedSimpArgs false
set_option linter.unusedVariables false
namespace Go.Abs
open Go
noncomputable def qS (l0 : (List aM)) : Option ((List aC) × Int) :=
  (cZ l0 (fun y0 => qR y0)).bind fun x1 =>
  cond x1
  (some ([], (2 : Int)))
  (cond (decide ((4096 : Int) < ((List.length l0 : Nat) : Int)))
  (some ([], (7 : Int)))
  (bI (0 ≤ (IntKind.i64.wrap ((2 : Int) * ((List.length l0 : Nat) : Int))) ∧ (40 : Int) * (IntKind.i64.wrap ((2 : Int) * ((List.length l0 : Nat) : Int))) ≤ 281474976710656 ∧ (IntKind.i64.wrap ((2 : Int) * ((List.length l0 : Nat) : Int))) ≤ 9223372036854775807) <|
  wI ([] : List aC) l0 ((List.length l0 : Nat) : Int) (0 : Int)))

noncomputable def oZ (uG : (List aB) → Option Bool) (kB : (List aC)) (t4 : Bool) (oF : (List aF)) (jA : Bool) (t14 : (List aF)) (t15 : (List aB)) : Option ((Bool × (List aF) × Bool) ⊕ (Bool × (List aF) × Bool)) :=
  (oJ t14).bind fun x7 =>
  (cV (jA && (!(!x7))) (pQ oF t14)).bind fun x12 =>
  (cV (!((!x7) || (jA && (decide ((0 : Int) ≤ x12))))) (uG t15)).bind fun x15 =>
  cond (((!x7) || (jA && (decide ((0 : Int) ≤ x12)))) || (!x15))
  (some (.inr (false, oF, jA)))
  (some (.inl (t4, t14, true)))

noncomputable def xW (uG : (List aB) → Option Bool) (t4 : Bool) (oF : (List aF)) (jA : Bool) (kB : (List aC)) : Option Bool :=
  (mH (fun st t14 t15 => rnd (fun (s : Bool × (List aF) × Bool) => oZ uG kB s.1 s.2.1 s.2.2 t14 t15) st) kB (.inl (t4, oF, jA))).bind (Sum.elim (fun (s : Bool × (List aF) × Bool) =>
  (some true))
  (fun (s : Bool × (List aF) × Bool) =>
  (some s.1)))

noncomputable def sV (l0 : (List aC)) (uG : (List aB) → Option Bool) : Option Bool :=
  cond (decide ((4096 : Int) < ((List.length l0 : Nat) : Int)))
  (some false)
  ((oQ l0).bind fun x5 =>
  xW uG false ([]) false x5)

noncomputable def uS (l0 : (List aC)) : Option Bool :=
  (sV l0 (fun y0 => oH y0)).bind fun x1 =>
  some x1

noncomputable def rY (fB : Int) : Option Int :=
  some fB

noncomputable def mL (t24 : (List aB)) (t25 : Int) (v3 : Int) (fB : Int) (t26 : Int) : Option ((Int × Int × Int) ⊕ (Int)) :=
  cond (decide (t26 < t25))
  (bI (0 ≤ t26 ∧ t26 < ((List.length t24 : Nat) : Int)) <|
  some (.inl (IntKind.i64.wrap (v3 + ((List.getD t24 (Int.toNat t26) default).Net)), if (IntKind.i64.wrap (v3 + ((List.getD t24 (Int.toNat t26) default).Net))) < fB then (IntKind.i64.wrap (v3 + ((List.getD t24 (Int.toNat t26) default).Net))) else fB, IntKind.i64.wrap (t26 + (1 : Int)))))
  (some (.inr fB))

noncomputable def sR (v3 : Int) (fB : Int) (t24 : (List aB)) (t25 : Int) (t26 : Int) : Option Int :=
  (lp (fun s => mL t24 t25 s.1 s.2.1 s.2.2) (v3, fB, t26)).bind (fun rr => rY rr)

noncomputable def pT (f0 : (List aB)) (v3 : Int) (fB : Int) : Option Int :=
  sR v3 fB f0 ((List.length f0 : Nat) : Int) (0 : Int)

noncomputable def tV (f0 : (List aB)) : Option Int :=
  (oH f0).bind fun x1 =>
  cond ((!x1) || (decide (((List.length f0 : Nat) : Int) = (0 : Int))))
  (some (0 : Int))
  (bI (0 ≤ (0 : Int) ∧ (0 : Int) < ((List.length f0 : Nat) : Int)) <|
  cond (decide (((List.getD f0 (Int.toNat (0 : Int)) default).At) = (-1 : Int)))
  (bI (0 ≤ (0 : Int) ∧ (0 : Int) < ((List.length f0 : Nat) : Int)) <|
  pT f0 (0 : Int) ((List.getD f0 (Int.toNat (0 : Int)) default).Net))
  (pT f0 (0 : Int) (0 : Int)))

noncomputable def qW (f0 : (List aB)) : Option Bool :=
  (oH f0).bind fun x1 =>
  (cV x1 (tV f0)).bind fun x4 =>
  some (x1 && (decide ((0 : Int) ≤ x4)))

noncomputable def uI (l0 : (List aC)) : Option Bool :=
  (sV l0 (fun y0 => qW y0)).bind fun x1 =>
  some x1

noncomputable def mT (l0 : (List aC)) : Option ((List aC)) :=
  some l0

noncomputable def jJ {σ : Type} (eC : σ → (List aF) → (List aB) → Option (σ × Bool)) (t9c0 : (List aC)) (sg : σ) (t10 : (List aF)) (t11 : (List aB)) : Option ((σ) ⊕ (σ)) :=
  (eC sg t10 t11).bind fun x7 =>
  cond (!x7.2)
  (some (.inr x7.1))
  (some (.inl x7.1))

noncomputable def qA {σ : Type} (eC : σ → (List aF) → (List aB) → Option (σ × Bool)) (sg : σ) (t9c0 : (List aC)) : Option σ :=
  (mH (fun st t10 t11 => rnd (fun (s : σ) => jJ eC t9c0 s t10 t11) st) t9c0 (.inl sg)).bind (Sum.elim (fun (s : σ) =>
  (some s))
  (fun (s : σ) =>
  (some s)))

noncomputable def kW {σ : Type} (eC : σ → (List aF) → (List aB) → Option (σ × Bool)) (t1 : (List aC)) (sg0 : σ) : Option σ :=
  (uS t1).bind fun x1 =>
  cond (!x1)
  (some sg0)
  ((oQ t1).bind fun x5 =>
  qA eC sg0 x5)

noncomputable def tW (n3 : Int) : Option Int :=
  some n3

noncomputable def nR (t6 : (List aB)) (t7 : Int) (n3 : Int) (t8 : Int) : Option ((Int × Int) ⊕ (Int)) :=
  cond (decide (t8 < t7))
  (bI (0 ≤ t8 ∧ t8 < ((List.length t6 : Nat) : Int)) <|
  some (.inl (IntKind.i64.wrap (n3 + (if (0 : Int) > ((List.getD t6 (Int.toNat t8) default).Net) then (0 : Int) else ((List.getD t6 (Int.toNat t8) default).Net))), IntKind.i64.wrap (t8 + (1 : Int)))))
  (some (.inr n3))

noncomputable def yE (n3 : Int) (t6 : (List aB)) (t7 : Int) (t8 : Int) : Option Int :=
  (lp (fun s => nR t6 t7 s.1 s.2) (n3, t8)).bind (fun rr => tW rr)

noncomputable def qJ (f0 : (List aB)) : Option Int :=
  yE (0 : Int) f0 ((List.length f0 : Nat) : Int) (0 : Int)

noncomputable def lR (t0 : Int) (t1 : (List aS)) (t2 : Int) : Option ((List aS) × Int) :=
  bI (0 ≤ t2 ∧ t2 < ((List.length t1 : Nat) : Int)) <|
  some (List.set t1 (Int.toNat t2) (aS.mk (List.getD t1 (Int.toNat t2) default).From t0), IntKind.i64.wrap (t2 + (1 : Int)))

noncomputable def vZ (out3 : List aS) : Option (List aS) :=
  some out3

noncomputable def lE  (out3 : List aS) (cA : Int) : Option ((List aS × Int) ⊕ ((List aS))) :=
  cond (decide (cA < ((List.length out3 : Nat) : Int)))
  ((lR (1125899906842624 : Int) out3 cA).bind fun x14 =>
  some (.inl (x14.1, x14.2)))
  (some (.inr out3))

noncomputable def wD (out3 : List aS) (cA : Int) : Option (List aS) :=
  (lp (fun s => lE s.1 s.2) (out3, cA)).bind (fun rr => vZ rr)

noncomputable def rW (out3 : List aS) (cA : Int) : Option (List aS) :=
  wD out3 cA

noncomputable def sS (out3 : List aS) (cA : Int) (t12 : (List aB)) (t13 : Int) (t14 : Int) : Option ((List aS × Int × Int) ⊕ ((List aS × Int))) :=
  some (.inl (out3, cA, IntKind.i64.wrap (t14 + (1 : Int))))

noncomputable def lF (t12 : (List aB)) (t13 : Int) (t14 : Int) (t31 : Int) (out3 : List aS) (cA : Int) (j7 : aB) (t32 : Int) : Option ((List aS × Int × aB × Int) ⊕ ((List aS × Int))) :=
  cond (decide (t32 < t31))
  ((lR j7.At out3 cA).bind fun x30 =>
  some (.inl (x30.1, x30.2, j7, IntKind.i64.wrap (t32 + (1 : Int)))))
  (some (.inr (out3, cA)))

noncomputable def vY (out3 : List aS) (cA : Int) (j7 : aB) (t12 : (List aB)) (t13 : Int) (t14 : Int) (t31 : Int) (t32 : Int) : Option ((List aS × Int × Int) ⊕ ((List aS × Int))) :=
  (lp (fun s => lF t12 t13 t14 t31 s.1 s.2.1 s.2.2.1 s.2.2.2) (out3, cA, j7, t32)).bind (fun rr => sS rr.1 rr.2 t12 t13 t14)

noncomputable def sG (out3 : List aS) (cA : Int) (j7 : aB) (t12 : (List aB)) (t13 : Int) (t14 : Int) : Option ((List aS × Int × Int) ⊕ ((List aS × Int))) :=
  vY out3 cA j7 t12 t13 t14 (IntKind.i64.wrap (0 - j7.Net)) (0 : Int)

noncomputable def lH (t12 : (List aB)) (t13 : Int) (t14 : Int) (t19 : Int) (out3 : List aS) (cA : Int) (j7 : aB) (t20 : Int) : Option ((List aS × Int × aB × Int) ⊕ ((List aS × Int × aB))) :=
  cond (decide (t20 < t19))
  (bI ((List.length out3 + List.length ([aS.mk j7.At 0])) * 16 ≤ 140737488355328 ∧ List.length out3 + List.length ([aS.mk j7.At 0]) ≤ 9223372036854775807) <|
  some (.inl (out3 ++ ([aS.mk j7.At 0]), cA, j7, IntKind.i64.wrap (t20 + (1 : Int)))))
  (some (.inr (out3, cA, j7)))

noncomputable def wC (out3 : List aS) (cA : Int) (j7 : aB) (t12 : (List aB)) (t13 : Int) (t14 : Int) (t19 : Int) (t20 : Int) : Option ((List aS × Int × Int) ⊕ ((List aS × Int))) :=
  (lp (fun s => lH t12 t13 t14 t19 s.1 s.2.1 s.2.2.1 s.2.2.2) (out3, cA, j7, t20)).bind (fun rr => sG rr.1 rr.2.1 rr.2.2 t12 t13 t14)

noncomputable def mP (t12 : (List aB)) (t13 : Int) (out3 : List aS) (cA : Int) (t14 : Int) : Option ((List aS × Int × Int) ⊕ ((List aS × Int))) :=
  cond (decide (t14 < t13))
  (bI (0 ≤ t14 ∧ t14 < ((List.length t12 : Nat) : Int)) <|
  wC out3 cA (List.getD t12 (Int.toNat t14) default) t12 t13 t14 ((List.getD t12 (Int.toNat t14) default).Net) (0 : Int))
  (some (.inr (out3, cA)))

noncomputable def wK (out3 : List aS) (cA : Int) (t12 : (List aB)) (t13 : Int) (t14 : Int) : Option (List aS) :=
  (lp (fun s => mP t12 t13 s.1 s.2.1 s.2.2) (out3, cA, t14)).bind (fun rr => rW rr.1 rr.2)

noncomputable def uE (f0 : (List aB)) : Option (List aS) :=
  (qJ f0).bind fun x1 =>
  bI (0 ≤ x1 ∧ (16 : Int) * x1 ≤ 281474976710656 ∧ x1 ≤ 9223372036854775807) <|
  wK ([] : List aS) (0 : Int) f0 ((List.length f0 : Nat) : Int) (0 : Int)

noncomputable def nA (l0 : (List aC)) (uZ : (List aC)) (n4 : Int) (t22 : (List aF)) (t23 : (List aB)) : Option ((Int) ⊕ (Int)) :=
  (qJ t23).bind fun x12 =>
  some (.inl (IntKind.i64.wrap (n4 + x12)))

noncomputable def lQ (r8 : (List aF)) (t37 : (List aS)) (t38 : Int) (out7 : List aM) (t39 : Int) : Option ((List aM × Int) ⊕ ((List aM))) :=
  cond (decide (t39 < t38))
  (bI (0 ≤ t39 ∧ t39 < ((List.length t37 : Nat) : Int)) <|
  (rL r8).bind fun x31 =>
  bI ((List.length out7 + List.length ([aM.mk x31 (List.getD t37 (Int.toNat t39) default)])) * 40 ≤ 140737488355328 ∧ List.length out7 + List.length ([aM.mk x31 (List.getD t37 (Int.toNat t39) default)]) ≤ 9223372036854775807) <|
  some (.inl (out7 ++ ([aM.mk x31 (List.getD t37 (Int.toNat t39) default)]), IntKind.i64.wrap (t39 + (1 : Int)))))
  (some (.inr out7))

noncomputable def qU (out7 : List aM) (r8 : (List aF)) (t37 : (List aS)) (t38 : Int) (t39 : Int) : Option ((List aM) ⊕ (List aM)) :=
  (lp (fun s => lQ r8 t37 t38 s.1 s.2) (out7, t39)).bind (fun rr => some (.inl rr))

noncomputable def nE (uT : (List aC)) (out7 : List aM) (t34 : (List aF)) (t35 : (List aB)) : Option ((List aM) ⊕ (List aM)) :=
  (uE t35).bind fun x23 =>
  qU out7 t34 x23 ((List.length x23 : Nat) : Int) (0 : Int)

noncomputable def qT (out7 : List aM) (uT : (List aC)) : Option ((List aM) × Int) :=
  (kW (fun st t34 t35 => rnd (fun (s : List aM) => nE uT s t34 t35) st) uT (.inl out7)).bind (Sum.elim (fun (s : List aM) =>
  (some (s, (0 : Int))))
  (fun (s : List aM) =>
  (none)))

noncomputable def uY (l0 : (List aC)) (n4 : Int) (uZ : (List aC)) : Option ((List aM) × Int) :=
  (kW (fun st t22 t23 => rnd (fun (s : Int) => nA l0 uZ s t22 t23) st) uZ (.inl n4)).bind (Sum.elim (fun (s : Int) =>
  (cond (decide ((4096 : Int) < s))
  (some ([], (7 : Int)))
  (bI (0 ≤ s ∧ (40 : Int) * s ≤ 281474976710656 ∧ s ≤ 9223372036854775807) <|
  (mT l0).bind fun x20 =>
  qT ([] : List aM) x20)))
  (fun (s : Int) =>
  (none)))

noncomputable def sJ (l0 : (List aC)) : Option ((List aM) × Int) :=
  (uS l0).bind fun x1 =>
  cond (!x1)
  (some ([], (2 : Int)))
  ((uI l0).bind fun x5 =>
  cond (!x5)
  (some ([], (20 : Int)))
  ((mT l0).bind fun x10 =>
  uY l0 (0 : Int) x10))

noncomputable def qH (l0 : (List aM)) : Option ((List aM) × Int) :=
  (qS l0).bind fun x1 =>
  cond (!decide (x1.2 = (0 : Int)))
  (some ([], x1.2))
  ((sJ x1.1).bind fun x5 =>
  some (x5.1, x5.2))

noncomputable def cF (eq2 : aM → aM → Option Bool)  : Option Bool :=
  some true

noncomputable def bY (eq2 : aM → aM → Option Bool) (s21 : (List aM)) (t15 : (List aM)) (t16 : Int) (t17 : Int) : Option ((Int) ⊕ (Unit ⊕ Bool)) :=
  cond (decide (t17 < t16))
  (bI (0 ≤ t17 ∧ t17 < ((List.length t15 : Nat) : Int)) <|
  bI (0 ≤ t17 ∧ t17 < ((List.length s21 : Nat) : Int)) <|
  (eq2 (List.getD t15 (Int.toNat t17) default) (List.getD s21 (Int.toNat t17) default)).bind fun x7 =>
  cond (!x7)
  (some (.inr (.inr false)))
  (some (.inl (IntKind.i64.wrap (t17 + (1 : Int))))))
  (some (.inr (.inl ())))

noncomputable def cM (eq2 : aM → aM → Option Bool) (s21 : (List aM)) (t15 : (List aM)) (t16 : Int) (t17 : Int) : Option Bool :=
  (lp (fun s => bY eq2 s21 t15 t16 s) t17).bind (Sum.elim (fun rr => cF eq2 ) (fun rr => some rr))

noncomputable def cN (s10 : (List aM)) (s21 : (List aM)) (eq2 : aM → aM → Option Bool) : Option Bool :=
  cond (!decide (((List.length s10 : Nat) : Int) = ((List.length s21 : Nat) : Int)))
  (some false)
  (cM eq2 s21 s10 ((List.length s10 : Nat) : Int) (0 : Int))

noncomputable def nU (x0 : aM) (y1 : aM) : Option Bool :=
  (cV ((decide (x0.Span.From = y1.Span.From)) && ((decide (x0.Span.To = y1.Span.To)) && true)) (rT x0.Row y1.Row)).bind fun x1 =>
  some (((decide (x0.Span.From = y1.Span.From)) && ((decide (x0.Span.To = y1.Span.To)) && true)) && x1)

noncomputable def sY (a0 : (List aM)) (b1 : (List aM)) : Option Bool :=
  (cN a0 b1 (fun y0 y1 => nU y0 y1)).bind fun x1 =>
  some x1

noncomputable def rZ  : Option Bool :=
  some true

noncomputable def pN (a0 : (List aF)) (b1 : (List aF)) (i5 : Int) : Option ((Int) ⊕ (Unit ⊕ Bool)) :=
  cond (decide (i5 < ((List.length a0 : Nat) : Int)))
  (bI (0 ≤ i5 ∧ i5 < ((List.length a0 : Nat) : Int)) <|
  bI (0 ≤ i5 ∧ i5 < ((List.length b1 : Nat) : Int)) <|
  cond (!((decide (((List.getD a0 (Int.toNat i5) default).Kind) = ((List.getD b1 (Int.toNat i5) default).Kind))) && ((decide (((List.getD a0 (Int.toNat i5) default).Num) = ((List.getD b1 (Int.toNat i5) default).Num))) && ((oE ((List.getD a0 (Int.toNat i5) default).Text) ((List.getD b1 (Int.toNat i5) default).Text)) && true))))
  (some (.inr (.inr false)))
  (some (.inl (IntKind.i64.wrap (i5 + (1 : Int))))))
  (some (.inr (.inl ())))

noncomputable def wQ (a0 : (List aF)) (b1 : (List aF)) (i5 : Int) : Option Bool :=
  (lp (fun s => pN a0 b1 s) i5).bind (Sum.elim (fun rr => rZ ) (fun rr => some rr))

noncomputable def qO (a0 : (List aF)) (b1 : (List aF)) : Option Bool :=
  cond (!decide (((List.length a0 : Nat) : Int) = ((List.length b1 : Nat) : Int)))
  (some false)
  (wQ a0 b1 (0 : Int))

noncomputable def sH  : Option Bool :=
  some true

noncomputable def pO (a0 : (List aM)) (b1 : (List aM)) (i5 : Int) : Option ((Int) ⊕ (Unit ⊕ Bool)) :=
  cond (decide (i5 < ((List.length a0 : Nat) : Int)))
  (bI (0 ≤ i5 ∧ i5 < ((List.length a0 : Nat) : Int)) <|
  bI (0 ≤ i5 ∧ i5 < ((List.length b1 : Nat) : Int)) <|
  bI ((((!(!((decide ((((List.getD a0 (Int.toNat i5) default).Span).From) = (((List.getD b1 (Int.toNat i5) default).Span).From))) && ((decide ((((List.getD a0 (Int.toNat i5) default).Span).To) = (((List.getD b1 (Int.toNat i5) default).Span).To))) && true))))) = true → 0 ≤ i5 ∧ i5 < ((List.length a0 : Nat) : Int))) <|
  bI ((((!(!((decide ((((List.getD a0 (Int.toNat i5) default).Span).From) = (((List.getD b1 (Int.toNat i5) default).Span).From))) && ((decide ((((List.getD a0 (Int.toNat i5) default).Span).To) = (((List.getD b1 (Int.toNat i5) default).Span).To))) && true))))) = true → 0 ≤ i5 ∧ i5 < ((List.length b1 : Nat) : Int))) <|
  (cV (!(!((decide ((((List.getD a0 (Int.toNat i5) default).Span).From) = (((List.getD b1 (Int.toNat i5) default).Span).From))) && ((decide ((((List.getD a0 (Int.toNat i5) default).Span).To) = (((List.getD b1 (Int.toNat i5) default).Span).To))) && true)))) (qO ((List.getD a0 (Int.toNat i5) default).Row) ((List.getD b1 (Int.toNat i5) default).Row))).bind fun x7 =>
  cond ((!((decide ((((List.getD a0 (Int.toNat i5) default).Span).From) = (((List.getD b1 (Int.toNat i5) default).Span).From))) && ((decide ((((List.getD a0 (Int.toNat i5) default).Span).To) = (((List.getD b1 (Int.toNat i5) default).Span).To))) && true))) || (!x7))
  (some (.inr (.inr false)))
  (some (.inl (IntKind.i64.wrap (i5 + (1 : Int))))))
  (some (.inr (.inl ())))

noncomputable def wM (a0 : (List aM)) (b1 : (List aM)) (i5 : Int) : Option Bool :=
  (lp (fun s => pO a0 b1 s) i5).bind (Sum.elim (fun rr => sH ) (fun rr => some rr))

noncomputable def rD (a0 : (List aM)) (b1 : (List aM)) : Option Bool :=
  cond (!decide (((List.length a0 : Nat) : Int) = ((List.length b1 : Nat) : Int)))
  (some false)
  (wM a0 b1 (0 : Int))

noncomputable def pF  : Option Bool :=
  (jN (5 : Int) (9 : Int)).bind fun x1 =>
  (jN (2 : Int) (5 : Int)).bind fun x4 =>
  (qH ([x1, x4])).bind fun x7 =>
  (jN (1 : Int) (10 : Int)).bind fun x10 =>
  (jN (3 : Int) (5 : Int)).bind fun x13 =>
  (qH ([x10, x13])).bind fun x16 =>
  (cV ((decide (x7.2 = (0 : Int))) && (decide (x16.2 = (0 : Int)))) (jN (2 : Int) (9 : Int))).bind fun x19 =>
  (cV ((decide (x7.2 = (0 : Int))) && (decide (x16.2 = (0 : Int)))) (sY x7.1 ([x19]))).bind fun x22 =>
  (cV (((decide (x7.2 = (0 : Int))) && (decide (x16.2 = (0 : Int)))) && x22) (jN (1 : Int) (5 : Int))).bind fun x25 =>
  (cV (((decide (x7.2 = (0 : Int))) && (decide (x16.2 = (0 : Int)))) && x22) (jN (3 : Int) (10 : Int))).bind fun x28 =>
  (cV (((decide (x7.2 = (0 : Int))) && (decide (x16.2 = (0 : Int)))) && x22) (rD x16.1 ([x25, x28]))).bind fun x31 =>
  (cV ((((decide (x7.2 = (0 : Int))) && (decide (x16.2 = (0 : Int)))) && x22) && x31) (jN (-1 : Int) (0 : Int))).bind fun x34 =>
  (cV ((((decide (x7.2 = (0 : Int))) && (decide (x16.2 = (0 : Int)))) && x22) && x31) (rH x34)).bind fun x37 =>
  (cV (((((decide (x7.2 = (0 : Int))) && (decide (x16.2 = (0 : Int)))) && x22) && x31) && x37) (jN (3 : Int) (3 : Int))).bind fun x40 =>
  (cV (((((decide (x7.2 = (0 : Int))) && (decide (x16.2 = (0 : Int)))) && x22) && x31) && x37) (rH x40)).bind fun x43 =>
  some ((((((decide (x7.2 = (0 : Int))) && (decide (x16.2 = (0 : Int)))) && x22) && x31) && x37) && (!x43))

noncomputable def uA  : Option Bool :=
  some true

noncomputable def lB (f0 : (List aB)) (i3 : Int) : Option ((Int) ⊕ (Unit ⊕ Bool)) :=
  cond (decide (i3 < ((List.length f0 : Nat) : Int)))
  (bI (0 ≤ i3 ∧ i3 < ((List.length f0 : Nat) : Int)) <|
  bI ((((!(decide (((List.getD f0 (Int.toNat i3) default).At) < (-1 : Int))))) = true → 0 ≤ i3 ∧ i3 < ((List.length f0 : Nat) : Int))) <|
  bI ((((!((decide (((List.getD f0 (Int.toNat i3) default).At) < (-1 : Int))) || (decide ((1125899906842624 : Int) ≤ ((List.getD f0 (Int.toNat i3) default).At)))))) = true → 0 ≤ i3 ∧ i3 < ((List.length f0 : Nat) : Int))) <|
  bI ((((!(((decide (((List.getD f0 (Int.toNat i3) default).At) < (-1 : Int))) || (decide ((1125899906842624 : Int) ≤ ((List.getD f0 (Int.toNat i3) default).At)))) || (decide (((List.getD f0 (Int.toNat i3) default).Net) = (0 : Int)))))) = true → 0 ≤ i3 ∧ i3 < ((List.length f0 : Nat) : Int))) <|
  bI ((((!((((decide (((List.getD f0 (Int.toNat i3) default).At) < (-1 : Int))) || (decide ((1125899906842624 : Int) ≤ ((List.getD f0 (Int.toNat i3) default).At)))) || (decide (((List.getD f0 (Int.toNat i3) default).Net) = (0 : Int)))) || (decide ((1048576 : Int) < ((List.getD f0 (Int.toNat i3) default).Net)))))) = true → 0 ≤ i3 ∧ i3 < ((List.length f0 : Nat) : Int))) <|
  cond (((((decide (((List.getD f0 (Int.toNat i3) default).At) < (-1 : Int))) || (decide ((1125899906842624 : Int) ≤ ((List.getD f0 (Int.toNat i3) default).At)))) || (decide (((List.getD f0 (Int.toNat i3) default).Net) = (0 : Int)))) || (decide ((1048576 : Int) < ((List.getD f0 (Int.toNat i3) default).Net)))) || (decide (((List.getD f0 (Int.toNat i3) default).Net) < (-1048576 : Int))))
  (some (.inr (.inr false)))
  (bI ((((decide ((0 : Int) < i3))) = true → 0 ≤ i3 ∧ i3 < ((List.length f0 : Nat) : Int))) <|
  bI ((((decide ((0 : Int) < i3))) = true → 0 ≤ (IntKind.i64.wrap (i3 - (1 : Int))) ∧ (IntKind.i64.wrap (i3 - (1 : Int))) < ((List.length f0 : Nat) : Int))) <|
  cond ((decide ((0 : Int) < i3)) && (decide (((List.getD f0 (Int.toNat i3) default).At) ≤ ((List.getD f0 (Int.toNat (IntKind.i64.wrap (i3 - (1 : Int)))) default).At))))
  (some (.inr (.inr false)))
  (some (.inl (IntKind.i64.wrap (i3 + (1 : Int)))))))
  (some (.inr (.inl ())))

noncomputable def xM (f0 : (List aB)) (i3 : Int) : Option Bool :=
  (lp (fun s => lB f0 s) i3).bind (Sum.elim (fun rr => uA ) (fun rr => some rr))

noncomputable def vW (f0 : (List aB)) : Option Bool :=
  cond (decide ((1024 : Int) < ((List.length f0 : Nat) : Int)))
  (some false)
  (xM f0 (0 : Int))

noncomputable def qQ (v5 : Int) : Option Int :=
  some v5

noncomputable def oT (f0 : (List aB)) (t1 : Int) (v5 : Int) (i6 : Int) : Option ((Int × Int) ⊕ (Int)) :=
  some (.inl (v5, IntKind.i64.wrap (i6 + (1 : Int))))

noncomputable def iT (f0 : (List aB)) (t1 : Int) (v5 : Int) (i6 : Int) : Option ((Int × Int) ⊕ (Int)) :=
  cond (decide (i6 < ((List.length f0 : Nat) : Int)))
  (bI (0 ≤ i6 ∧ i6 < ((List.length f0 : Nat) : Int)) <|
  cond (decide (((List.getD f0 (Int.toNat i6) default).At) ≤ t1))
  (bI (0 ≤ i6 ∧ i6 < ((List.length f0 : Nat) : Int)) <|
  oT f0 t1 (IntKind.i64.wrap (v5 + ((List.getD f0 (Int.toNat i6) default).Net))) i6)
  (oT f0 t1 v5 i6))
  (some (.inr v5))

noncomputable def vA (f0 : (List aB)) (t1 : Int) (v5 : Int) (i6 : Int) : Option Int :=
  (lp (fun s => iT f0 t1 s.1 s.2) (v5, i6)).bind (fun rr => qQ rr)

noncomputable def pV (f0 : (List aB)) (t1 : Int) : Option Int :=
  vA f0 t1 (0 : Int) (0 : Int)

noncomputable def rA (n7 : Int) : Option Int :=
  some n7

noncomputable def oU (l0 : (List aM)) (r1 : (List aF)) (t2 : Int) (n7 : Int) (i8 : Int) : Option ((Int × Int) ⊕ (Int)) :=
  some (.inl (n7, IntKind.i64.wrap (i8 + (1 : Int))))

noncomputable def lU (l0 : (List aM)) (r1 : (List aF)) (t2 : Int) (n7 : Int) (i8 : Int) : Option ((Int × Int) ⊕ (Int)) :=
  cond (decide (i8 < ((List.length l0 : Nat) : Int)))
  (bI (0 ≤ i8 ∧ i8 < ((List.length l0 : Nat) : Int)) <|
  (qO ((List.getD l0 (Int.toNat i8) default).Row) r1).bind fun x3 =>
  bI (((x3) = true → 0 ≤ i8 ∧ i8 < ((List.length l0 : Nat) : Int))) <|
  bI ((((x3 && (decide ((((List.getD l0 (Int.toNat i8) default).Span).From) ≤ t2)))) = true → 0 ≤ i8 ∧ i8 < ((List.length l0 : Nat) : Int))) <|
  cond ((x3 && (decide ((((List.getD l0 (Int.toNat i8) default).Span).From) ≤ t2))) && (decide (t2 < (((List.getD l0 (Int.toNat i8) default).Span).To))))
  (oU l0 r1 t2 (IntKind.i64.wrap (n7 + (1 : Int))) i8)
  (oU l0 r1 t2 n7 i8))
  (some (.inr n7))

noncomputable def uW (l0 : (List aM)) (r1 : (List aF)) (t2 : Int) (n7 : Int) (i8 : Int) : Option Int :=
  (lp (fun s => lU l0 r1 t2 s.1 s.2) (n7, i8)).bind (fun rr => rA rr)

noncomputable def pU (l0 : (List aM)) (r1 : (List aF)) (t2 : Int) : Option Int :=
  uW l0 r1 t2 (0 : Int) (0 : Int)

noncomputable def nX (r3 : (List aF)) (uQ : (List aC)) (t4 : (List aB)) (t12 : (List aF)) (t13 : (List aB)) : Option (((List aB)) ⊕ ((List aB))) :=
  (rT t12 r3).bind fun x8 =>
  cond x8
  (some (.inr t13))
  (some (.inl t4))

noncomputable def wB (r3 : (List aF)) (t4 : (List aB)) (uQ : (List aC)) : Option (List aB) :=
  (kW (fun st t12 t13 => rnd (fun (s : (List aB)) => nX r3 uQ s t12 t13) st) uQ (.inl t4)).bind (Sum.elim (fun (s : (List aB)) =>
  (some ([])))
  (fun (s : (List aB)) =>
  (some s)))

noncomputable def tN (l0 : (List aC)) (r1 : (List aF)) : Option (List aB) :=
  (oJ r1).bind fun x2 =>
  cond (!x2)
  (some ([]))
  ((mT l0).bind fun x6 =>
  wB r1 ([]) x6)

noncomputable def yD (f0 : (List aB)) (t1 : Int) : Option Int :=
  (vW f0).bind fun x1 =>
  cond (!x1)
  (some (0 : Int))
  ((pV f0 t1).bind fun x5 =>
  some x5)

noncomputable def nO  : Option Bool :=
  (pF ).bind fun x15 =>
  some x15

noncomputable def jK (l0 : (List aM)) (t1 : Int) (a5 : (List aM)) (x7 : (List aC)) (i9 : Int) : Option ((Int) ⊕ (Unit ⊕ Bool)) :=
  cond (decide (i9 < ((List.length l0 : Nat) : Int)))
  (bI (0 ≤ i9 ∧ i9 < ((List.length l0 : Nat) : Int)) <|
  (pU l0 ((List.getD l0 (Int.toNat i9) default).Row) t1).bind fun x20 =>
  bI (0 ≤ i9 ∧ i9 < ((List.length l0 : Nat) : Int)) <|
  (pU a5 ((List.getD l0 (Int.toNat i9) default).Row) t1).bind fun x24 =>
  bI ((((!(!decide (x24 = x20)))) = true → 0 ≤ i9 ∧ i9 < ((List.length l0 : Nat) : Int))) <|
  (cV (!(!decide (x24 = x20))) (tN x7 ((List.getD l0 (Int.toNat i9) default).Row))).bind fun x28 =>
  (cV (!(!decide (x24 = x20))) (yD x28 t1)).bind fun x31 =>
  cond ((!decide (x24 = x20)) || (!decide (x31 = x20)))
  (some (.inr (.inr false)))
  (some (.inl (IntKind.i64.wrap (i9 + (1 : Int))))))
  (some (.inr (.inl ())))

noncomputable def qC (l0 : (List aM)) (t1 : Int) (a5 : (List aM)) (x7 : (List aC)) (i9 : Int) : Option Bool :=
  (lp (fun s => jK l0 t1 a5 x7 s) i9).bind (Sum.elim (fun rr => nO ) (fun rr => some rr))

noncomputable def qM (l0 : (List aM)) (t1 : Int) : Option Bool :=
  cond (((decide ((200 : Int) < ((List.length l0 : Nat) : Int))) || (decide (t1 < (-1 : Int)))) || (decide ((1125899906842624 : Int) ≤ t1)))
  ((pF ).bind fun x2 =>
  some x2)
  ((qH l0).bind fun x5 =>
  (qS l0).bind fun x8 =>
  cond ((!decide (x5.2 = (0 : Int))) || (!decide (x8.2 = (0 : Int))))
  ((pF ).bind fun x12 =>
  some (x12 && (decide (x5.2 = x8.2))))
  (qC l0 t1 x5.1 x8.1 (0 : Int)))

end Go.Abs
namespace Go.Abs
open Go Go.RowKit
def BH (x : aF) : Prop := CE x.Kind ∧ CE x.Num ∧ (fun s => s.size ≤ maxLen) x.Text ∧ True

def zA (x : aS) : Prop := CE x.From ∧ CE x.To ∧ True

def tY (x : aM) : Prop := (fun l => (∀ a ∈ l, BH a) ∧ l.length * 32 ≤ 140737488351232) x.Row ∧ zA x.Span ∧ True

end Go.Abs
namespace Go.Abs
open Go Go.RowKit Go.Proofs
noncomputable def tt : TT := ⟨VO Try.prog, RE Try.prog⟩

theorem aG : eH Try.prog tt := eH.of Try.prog

theorem nM (nS : Int) (to1 : Int) (r : aM) (h0 : jN nS to1 = some r) : bT Try.prog 44 [(eI nS), (eI to1)] (aJ r) := by
  intro H0
  refine AN aG Try.func44 (by kernel_rfl) (by kernel_rfl) (by kernel_rfl) ?_
  have hO := aO.start H0
  unfold jN at h0
  refine aQ ?_
  refine aT aG 1 ?_
  refine qE 3 (.agg [(.sl true 0 (fun _ => .bad)), (eI 0), (eI 0)]) (aJ (aM.mk ([]) (aS.mk 0 0))) (by kernel_rfl) (by kernel_rfl) (by kernel_rfl) (GY (xs := [(.sl true 0 (fun _ => .bad)), (eI 0), (eI 0)]) (ys := [(eL aK ([])), (eI 0), (eI 0)]) ⟨fJ, aX.refl _, aX.refl _, trivial⟩) (by kernel_rfl) (by kernel_rfl) hO ?_
  intro lo1 H hO
  refine cH ?_
  refine bS [] [(4, (.lp lo1 0 0))] ?_
  refine aQ ?_
  refine aT aG 7 ?_
  refine bM 1 ?_
  refine xY (xs := [(aK (aF.mk (1 : Int) (1 : Int) ByteArray.empty))]) (k := 3) (by kernel_rfl) (by kernel_rfl) ?_
  refine bM 6 ?_
  refine iW 0 lo1 3 0 (aJ (aM.mk ([]) (aS.mk 0 0))) (.agg [(fI [(aK (aF.mk (1 : Int) (1 : Int) ByteArray.empty))]), (eI ((aS.mk nS to1).From)), (eI ((aS.mk nS to1).To))]) [(aJ (aM.mk ([]) (aS.mk 0 0)))] [(lo1, 3, [(.agg [(fI [(aK (aF.mk (1 : Int) (1 : Int) ByteArray.empty))]), (eI ((aS.mk nS to1).From)), (eI ((aS.mk nS to1).To))])])] hO rfl (by kernel_rfl) ?_
  intro H hO
  refine cH ?_
  refine AT 0 lo1 3 (.agg [(fI [(aK (aF.mk (1 : Int) (1 : Int) ByteArray.empty))]), (eI ((aS.mk nS to1).From)), (eI ((aS.mk nS to1).To))]) (aJ (aM.mk ([aF.mk (1 : Int) (1 : Int) ByteArray.empty]) (aS.mk nS to1))) [(lo1, 3, [(aJ (aM.mk ([aF.mk (1 : Int) (1 : Int) ByteArray.empty]) (aS.mk nS to1)))])] hO (by kernel_rfl) (by kernel_rfl) (GY (xs := [(fI [(aK (aF.mk (1 : Int) (1 : Int) ByteArray.empty))]), (eI ((aS.mk nS to1).From)), (eI ((aS.mk nS to1).To))]) (ys := [(eL aK ([aF.mk (1 : Int) (1 : Int) ByteArray.empty])), (eI ((aS.mk nS to1).From)), (eI ((aS.mk nS to1).To))]) ⟨CY (l := [aF.mk (1 : Int) (1 : Int) ByteArray.empty]), aX.refl _, aX.refl _, trivial⟩) (by kernel_rfl) ?_
  intro H hO
  refine bF [(4, (.lp lo1 0 0))] ?_
  refine bH ?_
  obtain rfl := oI h0
  exact aI (QM0 (.inr rfl) (rs := [.cell 4 32]) (xs := [(aJ (aM.mk ([aF.mk (1 : Int) (1 : Int) ByteArray.empty]) (aS.mk nS to1)))]) (x := (aJ (aM.mk ([aF.mk (1 : Int) (1 : Int) ByteArray.empty]) (aS.mk nS to1)))) (by kernel_rfl) (qY (lo := lo1) (k := 3) (y := (aJ (aM.mk ([aF.mk (1 : Int) (1 : Int) ByteArray.empty]) (aS.mk nS to1)))) (x := (aJ (aM.mk ([aF.mk (1 : Int) (1 : Int) ByteArray.empty]) (aS.mk nS to1)))) 0 hO (by kernel_rfl) (by kernel_rfl) (by kernel_rfl) (by kernel_rfl) nZ) (by kernel_rfl) ⟨rfl, hO.out⟩)

theorem tG (s0 : (List aM)) (f1_f : Nat) (f1_a f1_c : List V) (f1 : aM → Option Bool) (f1_h : ∀ a0 r, f1 a0 = some r → bT Try.prog f1_f (f1_a ++ [(aJ a0)] ++ f1_c) (aL r)) (r : Int) (h0 : eY s0 f1 = some r) : bT Try.prog 116 [(eL aJ s0), (.fn (.func f1_f) f1_a f1_c)] (eI r) := by
  intro H0
  refine cI Try.func116 ?_
  have hO := aO.start H0
  unfold eY at h0
  refine aY aG 1 [] [] ?_
  refine dB (fun T H => Has T [] ∧ aO ⟨H0, [], []⟩ H [] ∧ dG f1  = some r) ?_ ?_
  · clear hO h0
    rintro T H ⟨hT, hO, h0⟩
    refine bB hT ?_
    clear hT
    unfold dG at h0
    refine bV aG 1 [(4, (eI (-1 : Int)))] ?_
    refine bH ?_
    obtain rfl := oI h0
    exact aI (Q_r hO)
  refine aY aG 3 [] [(7, (eI (lN s0))), (8, (eI (0 : Int)))] ?_
  refine bP 0 ?_
  refine cT [(0, (eL aJ s0)), (1, (.fn (.func f1_f) f1_a f1_c)), (7, (eI (lN s0))), (8, (eI (0 : Int)))] ?_
  refine cL (fun T H => ∃ t7 : Int, ∃ t8 : Int, Has T [(0, (eL aJ s0)), (1, (.fn (.func f1_f) f1_a f1_c)), (7, (eI t7)), (8, (eI t8))] ∧ aO ⟨H0, [], []⟩ H [] ∧ eK f1 s0 t7 t8 = some r) ?_ ⟨(lN s0), (0 : Int), .eq (by kernel_rfl), hO, h0⟩
  clear hO h0
  rintro T H ⟨t7, t8, hT, hO, h0⟩
  refine bB hT ?_
  clear hT
  unfold eK at h0
  obtain ⟨rr0, hl0, h0⟩ := aV h0
  refine cB (by kernel_rfl) (fun (s : Int) T H => Has T [(0, (eL aJ s0)), (1, (.fn (.func f1_f) f1_a f1_c)), (7, (eI t7)), (8, (eI s))] ∧ aO ⟨H0, [], []⟩ H []) hl0 ⟨.eq (by kernel_rfl), hO⟩ ?_
  clear hO
  rintro k0 s out1 T H ⟨hT, hO⟩ h1 ho0
  obtain ⟨t8, rfl⟩ : ∃ x, x = s := ⟨_, rfl⟩
  replace h1 : eO f1 s0 t7 t8 = some out1 := h1
  refine bB hT ?_
  clear hT
  unfold eO at h1
  refine aY aG 1 [] [(9, (aL (decide (t8 < t7))))] ?_
  refine aQ ?_
  refine bL h1 (fun h1 => ?_) (fun h1 => ?_)
  · refine bN ?_
    refine bF [(0, (eL aJ s0)), (1, (.fn (.func f1_f) f1_a f1_c)), (7, (eI t7)), (8, (eI t8))] ?_
    refine aQ ?_
    refine bP 1 ?_
    refine aY aG 2 [] [(5, (eI t8))] ?_
    refine aQ ?_
    refine aT aG 6 ?_
    obtain ⟨c2, h1⟩ := bJ h1
    refine qG 5 [0 ≤ t8 ∧ t8 < (lN s0)] ⟨c2, trivial⟩ ?_
    obtain ⟨x3, hx4, h1⟩ := aV h1
    refine cJ (f1_h (gD s0 t8) _ hx4) hO ?_
    intro H hO
    refine cH ?_
    refine bS [] [(16, (aL x3))] ?_
    refine bL h1 (fun h1 => ?_) (fun h1 => ?_)
    · refine bV aG 2 [(4, (eI t8))] ?_
      refine bH ?_
      obtain rfl := oI h1
      obtain rfl : _ = rr0 := ho0
      replace h0 : some t8 = some r := h0
      obtain rfl := oI h0
      exact aI (bR (bA (bA (bR (bA (Q_r hO))))))
    refine bN ?_
    refine dD [(0, (eL aJ s0)), (1, (.fn (.func f1_f) f1_a f1_c)), (7, (eI t7)), (8, (eI t8))] ?_
    refine aI (aU (aH (?_)))
    refine aT aG 2 ?_
    refine bC ?_
    exact aI (aH (⟨rfl, _, (oI h1).symm, .eq (by kernel_rfl), hO⟩))
  refine dU 0 ?_
  obtain rfl := oI h1
  obtain rfl : _ = rr0 := ho0
  replace h0 : dG f1  = some r := h0
  exact aI (aZ (aZ (bO (aH (⟨rfl, .eq (by kernel_rfl), hO, h0⟩)))))

theorem rE (s0 : (List aM)) (f1_f : Nat) (f1_a f1_c : List V) (f1 : aM → Option Bool) (f1_h : ∀ a0 r, f1 a0 = some r → bT Try.prog f1_f (f1_a ++ [(aJ a0)] ++ f1_c) (aL r)) (r : Bool) (h0 : cZ s0 f1 = some r) : bT Try.prog 74 [(eL aJ s0), (.fn (.func f1_f) f1_a f1_c)] (aL r) := by
  intro H0
  refine cI Try.func74 ?_
  have hO := aO.start H0
  unfold cZ at h0
  refine aY aG 1 [] [] ?_
  refine aQ ?_
  refine aT aG 5 ?_
  refine bM 2 ?_
  obtain ⟨x1, hx2, h0⟩ := aV h0
  refine cJ (tG s0 f1_f f1_a f1_c f1 f1_h _ hx2) hO ?_
  intro H hO
  refine bC ?_
  refine bF [(4, (aL (decide ((0 : Int) ≤ x1))))] ?_
  refine bH ?_
  obtain rfl := oI h0
  exact aI (Q_r hO)

theorem tX (s0 : (List aF)) (f1_f : Nat) (f1_a f1_c : List V) (f1 : aF → Option Bool) (f1_h : ∀ a0 r, f1 a0 = some r → bT Try.prog f1_f (f1_a ++ [(aK a0)] ++ f1_c) (aL r)) (r : Int) (h0 : fM s0 f1 = some r) : bT Try.prog 100 [(eL aK s0), (.fn (.func f1_f) f1_a f1_c)] (eI r) := by
  intro H0
  refine cI Try.func100 ?_
  have hO := aO.start H0
  unfold fM at h0
  refine aY aG 1 [] [] ?_
  refine dB (fun T H => Has T [] ∧ aO ⟨H0, [], []⟩ H [] ∧ dN f1  = some r) ?_ ?_
  · clear hO h0
    rintro T H ⟨hT, hO, h0⟩
    refine bB hT ?_
    clear hT
    unfold dN at h0
    refine bV aG 1 [(4, (eI (-1 : Int)))] ?_
    refine bH ?_
    obtain rfl := oI h0
    exact aI (Q_r hO)
  refine aY aG 3 [] [(7, (eI (lN s0))), (8, (eI (0 : Int)))] ?_
  refine bP 0 ?_
  refine cT [(0, (eL aK s0)), (1, (.fn (.func f1_f) f1_a f1_c)), (7, (eI (lN s0))), (8, (eI (0 : Int)))] ?_
  refine cL (fun T H => ∃ t7 : Int, ∃ t8 : Int, Has T [(0, (eL aK s0)), (1, (.fn (.func f1_f) f1_a f1_c)), (7, (eI t7)), (8, (eI t8))] ∧ aO ⟨H0, [], []⟩ H [] ∧ fF f1 s0 t7 t8 = some r) ?_ ⟨(lN s0), (0 : Int), .eq (by kernel_rfl), hO, h0⟩
  clear hO h0
  rintro T H ⟨t7, t8, hT, hO, h0⟩
  refine bB hT ?_
  clear hT
  unfold fF at h0
  obtain ⟨rr0, hl0, h0⟩ := aV h0
  refine cB (by kernel_rfl) (fun (s : Int) T H => Has T [(0, (eL aK s0)), (1, (.fn (.func f1_f) f1_a f1_c)), (7, (eI t7)), (8, (eI s))] ∧ aO ⟨H0, [], []⟩ H []) hl0 ⟨.eq (by kernel_rfl), hO⟩ ?_
  clear hO
  rintro k0 s out1 T H ⟨hT, hO⟩ h1 ho0
  obtain ⟨t8, rfl⟩ : ∃ x, x = s := ⟨_, rfl⟩
  replace h1 : fH f1 s0 t7 t8 = some out1 := h1
  refine bB hT ?_
  clear hT
  unfold fH at h1
  refine aY aG 1 [] [(9, (aL (decide (t8 < t7))))] ?_
  refine aQ ?_
  refine bL h1 (fun h1 => ?_) (fun h1 => ?_)
  · refine bN ?_
    refine bF [(0, (eL aK s0)), (1, (.fn (.func f1_f) f1_a f1_c)), (7, (eI t7)), (8, (eI t8))] ?_
    refine aQ ?_
    refine bP 1 ?_
    refine aY aG 2 [] [(5, (eI t8))] ?_
    refine aQ ?_
    refine aT aG 6 ?_
    obtain ⟨c2, h1⟩ := bJ h1
    refine qG 5 [0 ≤ t8 ∧ t8 < (lN s0)] ⟨c2, trivial⟩ ?_
    obtain ⟨x3, hx4, h1⟩ := aV h1
    refine cJ (f1_h (gD s0 t8) _ hx4) hO ?_
    intro H hO
    refine cH ?_
    refine bS [] [(16, (aL x3))] ?_
    refine bL h1 (fun h1 => ?_) (fun h1 => ?_)
    · refine bV aG 2 [(4, (eI t8))] ?_
      refine bH ?_
      obtain rfl := oI h1
      obtain rfl : _ = rr0 := ho0
      replace h0 : some t8 = some r := h0
      obtain rfl := oI h0
      exact aI (bR (bA (bA (bR (bA (Q_r hO))))))
    refine bN ?_
    refine dD [(0, (eL aK s0)), (1, (.fn (.func f1_f) f1_a f1_c)), (7, (eI t7)), (8, (eI t8))] ?_
    refine aI (aU (aH (?_)))
    refine aT aG 2 ?_
    refine bC ?_
    exact aI (aH (⟨rfl, _, (oI h1).symm, .eq (by kernel_rfl), hO⟩))
  refine dU 0 ?_
  obtain rfl := oI h1
  obtain rfl : _ = rr0 := ho0
  replace h0 : dN f1  = some r := h0
  exact aI (aZ (aZ (bO (aH (⟨rfl, .eq (by kernel_rfl), hO, h0⟩)))))

theorem sC (s0 : (List aF)) (f1_f : Nat) (f1_a f1_c : List V) (f1 : aF → Option Bool) (f1_h : ∀ a0 r, f1 a0 = some r → bT Try.prog f1_f (f1_a ++ [(aK a0)] ++ f1_c) (aL r)) (r : Bool) (h0 : dH s0 f1 = some r) : bT Try.prog 96 [(eL aK s0), (.fn (.func f1_f) f1_a f1_c)] (aL r) := by
  intro H0
  refine cI Try.func96 ?_
  have hO := aO.start H0
  unfold dH at h0
  refine aY aG 1 [] [] ?_
  refine aQ ?_
  refine aT aG 5 ?_
  refine bM 2 ?_
  obtain ⟨x1, hx2, h0⟩ := aV h0
  refine cJ (tX s0 f1_f f1_a f1_c f1 f1_h _ hx2) hO ?_
  intro H hO
  refine bC ?_
  refine bF [(4, (aL (decide ((0 : Int) ≤ x1))))] ?_
  refine bH ?_
  obtain rfl := oI h0
  exact aI (Q_r hO)

theorem yC (v0 : aF) (r : (bG × Bool)) (h0 : lG v0 = some r) : bT Try.prog 126 [(aK v0)] (.tup [(bE r.1), (aL r.2)]) := by
  intro H0
  refine cI Try.func126 ?_
  have hO := aO.start H0
  unfold lG at h0
  refine aQ ?_
  refine aT aG 3 ?_
  refine gO 3 (aK v0) (by kernel_rfl) (by kernel_rfl) ?_
  refine bC ?_
  refine bF [(1, (.rp (aK v0)))] ?_
  refine aQ ?_
  refine bP 0 ?_
  refine aY aG 9 [] [(4, (aL ((decide (v0.Kind = (1 : Int))) && (oE v0.Text (⟨#[]⟩ : ByteArray)))))] ?_
  refine bL h0 (fun h0 => ?_) (fun h0 => ?_)
  · refine bV aG 5 [(2, (bE (bG.k_number v0.Num))), (3, (aL true))] ?_
    refine bH ?_
    obtain rfl := oI h0
    exact aI (bR (bA (Q_r hO)))
  refine aY aG 15 [4] [(16, (aL (((decide (v0.Kind = (2 : Int))) && (decide (v0.Num = (0 : Int)))) && (decide (((ByteArray.size v0.Text : Nat) : Int) ≤ (64 : Int))))))] ?_
  refine bL h0 (fun h0 => ?_) (fun h0 => ?_)
  · refine bV aG 5 [(2, (bE (bG.k_words v0.Text))), (3, (aL true))] ?_
    refine bH ?_
    obtain rfl := oI h0
    exact aI (bR (bA (Q_r hO)))
  refine bN ?_
  refine dD [] ?_
  refine aI (aU (aH (?_)))
  refine bV aG 2 [(2, (bE bG.none_)), (3, (aL false))] ?_
  refine bH ?_
  obtain rfl := oI h0
  exact aI (Q_r hO)

theorem TP (v0 : aF) (r : Bool) (h0 : vO v0 = some r) : bT Try.prog 98 [(aK v0)] (aL r) := by
  intro H0
  refine cI Try.func98 ?_
  have hO := aO.start H0
  unfold vO at h0
  refine aQ ?_
  refine aT aG 2 ?_
  refine gO 3 (aK v0) (by kernel_rfl) (by kernel_rfl) ?_
  refine bC ?_
  refine bF [(1, (.rp (aK v0)))] ?_
  refine aQ ?_
  refine aT aG 7 ?_
  refine bM 1 ?_
  obtain ⟨⟨x1_0, x1_1⟩, hx2, h0⟩ := aV h0
  refine cJ (yC v0 _ hx2) hO ?_
  intro H hO
  rcases x1_0 with _ | y4 | y5
  · replace h0 : (some x1_1) = some r := h0
    refine bC ?_
    refine bF [(4, (aL x1_1))] ?_
    refine bV aG 2 [(2, (aL x1_1))] ?_
    refine bH ?_
    obtain rfl := oI h0
    exact aI (Q_r hO)
  · replace h0 : (some x1_1) = some r := h0
    refine bC ?_
    refine bF [(4, (aL x1_1))] ?_
    refine bV aG 2 [(2, (aL x1_1))] ?_
    refine bH ?_
    obtain rfl := oI h0
    exact aI (Q_r hO)
  · replace h0 : (some x1_1) = some r := h0
    refine bC ?_
    refine bF [(4, (aL x1_1))] ?_
    refine bV aG 2 [(2, (aL x1_1))] ?_
    refine bH ?_
    obtain rfl := oI h0
    exact aI (Q_r hO)

theorem TE (v0 : aF) (r : Bool) (h0 : vK v0 = some r) : bT Try.prog 97 [(aK v0)] (aL r) := by
  intro H0
  refine cI Try.func97 ?_
  have hO := aO.start H0
  unfold vK at h0
  refine aQ ?_
  refine aT aG 2 ?_
  refine gO 3 (aK v0) (by kernel_rfl) (by kernel_rfl) ?_
  refine bC ?_
  refine bF [(1, (.rp (aK v0)))] ?_
  refine aQ ?_
  refine aT aG 4 ?_
  refine bM 1 ?_
  obtain ⟨x1, hx2, h0⟩ := aV h0
  refine cJ (TP v0 _ hx2) hO ?_
  intro H hO
  refine bC ?_
  refine bF [(2, (aL (!x1)))] ?_
  refine bH ?_
  obtain rfl := oI h0
  exact aI (Q_r hO)

theorem xB (r0 : (List aF)) (r : Bool) (h0 : oJ r0 = some r) : bT Try.prog 57 [(eL aK r0)] (aL r) := by
  intro H0
  refine cI Try.func57 ?_
  have hO := aO.start H0
  unfold oJ at h0
  refine aY aG 1 [] [] ?_
  refine aQ ?_
  refine aY aG 3 [] [(5, (aL (decide ((8 : Int) < (lN r0)))))] ?_
  refine bL h0 (fun h0 => ?_) (fun h0 => ?_)
  · refine bV aG 1 [(2, (aL false))] ?_
    refine bH ?_
    obtain rfl := oI h0
    exact aI (bA (Q_r hO))
  refine bN ?_
  refine bF [(0, (eL aK r0))] ?_
  refine aQ ?_
  refine aT aG 4 ?_
  refine bM 1 ?_
  obtain ⟨x2, hx3, h0⟩ := aV h0
  refine cJ (sC r0 97 [] [] (fun y0 => vK y0) (fun y0 r h => TE y0 r h) _ hx3) hO ?_
  intro H hO
  refine bC ?_
  refine bF [(2, (aL (!x2)))] ?_
  refine bH ?_
  obtain rfl := oI h0
  exact aI (Q_r hO)

theorem HZ (t0 : Int) (r : Bool) (h0 : vV t0 = some r) : bT Try.prog 134 [(eI t0)] (aL r) := by
  intro H0
  refine cI Try.func134 ?_
  have hO := aO.start H0
  unfold vV at h0
  refine aY aG 1 [] [] ?_
  refine bV aG 7 [(2, (aL ((decide ((0 : Int) ≤ t0)) && (decide (t0 ≤ (1125899906842624 : Int))))))] ?_
  refine bH ?_
  obtain rfl := oI h0
  exact aI (Q_r hO)

theorem WM (s0 : aS) (r : Bool) (h0 : xS s0 = some r) : bT Try.prog 120 [(bK s0)] (aL r) := by
  intro H0
  refine cI Try.func120 ?_
  have hO := aO.start H0
  unfold xS at h0
  refine aQ ?_
  refine aT aG 2 ?_
  refine gO 2 (bK s0) (by kernel_rfl) (by kernel_rfl) ?_
  refine bC ?_
  refine bF [(1, (.rp (bK s0)))] ?_
  refine aQ ?_
  refine aT aG 16 ?_
  refine bM 2 ?_
  obtain ⟨x1, hx2, h0⟩ := aV h0
  refine cJ (HZ s0.From _ hx2) hO ?_
  intro H hO
  refine bM 6 ?_
  obtain ⟨x4, hx5, h0⟩ := aV h0
  refine gQ [(6, true)] 134 [(eI s0.To)] (aL x4) x1 (by kernel_rfl) (by kernel_rfl) (by kernel_rfl) (fun hb6 => (HZ s0.To _ (jH hx5 hb6))) hO ?_
  intro H hO
  refine bC ?_
  refine bF [(2, (aL ((x1 && x4) && (decide (s0.From < s0.To)))))] ?_
  refine bH ?_
  obtain rfl := oI h0
  exact aI (Q_r hO)

theorem TC (s0 : aS) (r : Bool) (h0 : yR s0 = some r) : bT Try.prog 87 [(bK s0)] (aL r) := by
  intro H0
  refine cI Try.func87 ?_
  have hO := aO.start H0
  unfold yR at h0
  refine aQ ?_
  refine aT aG 2 ?_
  refine gO 2 (bK s0) (by kernel_rfl) (by kernel_rfl) ?_
  refine bC ?_
  refine bF [(1, (.rp (bK s0)))] ?_
  refine aQ ?_
  refine aT aG 18 ?_
  refine bM 1 ?_
  obtain ⟨x1, hx2, h0⟩ := aV h0
  refine cJ (WM s0 _ hx2) hO ?_
  intro H hO
  refine bC ?_
  refine bF [(2, (aL (x1 || (((decide (s0.From = (-1 : Int))) && (decide ((0 : Int) ≤ s0.To))) && (decide (s0.To ≤ (1125899906842624 : Int)))))))] ?_
  refine bH ?_
  obtain rfl := oI h0
  exact aI (Q_r hO)

theorem DO (p0 : aM) (r : Bool) (h0 : rH p0 = some r) : bT Try.prog 45 [(aJ p0)] (aL r) := by
  intro H0
  refine cI Try.func45 ?_
  have hO := aO.start H0
  unfold rH at h0
  refine aQ ?_
  refine aT aG 2 ?_
  refine gO 3 (aJ p0) (by kernel_rfl) (by kernel_rfl) ?_
  refine bC ?_
  refine bF [(1, (.rp (aJ p0)))] ?_
  refine aQ ?_
  refine aT aG 9 ?_
  refine bM 2 ?_
  obtain ⟨x1, hx2, h0⟩ := aV h0
  refine cJ (xB p0.Row _ hx2) hO ?_
  intro H hO
  refine bM 6 ?_
  obtain ⟨x4, hx5, h0⟩ := aV h0
  refine gQ [(6, true)] 87 [(bK p0.Span)] (aL x4) x1 (by kernel_rfl) (by kernel_rfl) (by kernel_rfl) (fun hb6 => (TC p0.Span _ (jH hx5 hb6))) hO ?_
  intro H hO
  refine bC ?_
  refine bF [(2, (aL (x1 && x4)))] ?_
  refine bH ?_
  obtain rfl := oI h0
  exact aI (Q_r hO)

theorem LS (p0 : aM) (r : Bool) (h0 : qR p0 = some r) : bT Try.prog 75 [(aJ p0)] (aL r) := by
  intro H0
  refine cI Try.func75 ?_
  have hO := aO.start H0
  unfold qR at h0
  refine aQ ?_
  refine aT aG 2 ?_
  refine gO 3 (aJ p0) (by kernel_rfl) (by kernel_rfl) ?_
  refine bC ?_
  refine bF [(1, (.rp (aJ p0)))] ?_
  refine aQ ?_
  refine aT aG 4 ?_
  refine bM 1 ?_
  obtain ⟨x1, hx2, h0⟩ := aV h0
  refine cJ (DO p0 _ hx2) hO ?_
  intro H hO
  refine bC ?_
  refine bF [(2, (aL (!x1)))] ?_
  refine bH ?_
  obtain rfl := oI h0
  exact aI (Q_r hO)

theorem uM (s0 : (List aC)) (f1_f : Nat) (f1_a f1_c : List V) (f1 : aC → Option Bool) (f1_h : ∀ a0 r, f1 a0 = some r → bT Try.prog f1_f (f1_a ++ [(aE a0)] ++ f1_c) (aL r)) (r : Int) (h0 : fL s0 f1 = some r) : bT Try.prog 89 [(eL aE s0), (.fn (.func f1_f) f1_a f1_c)] (eI r) := by
  intro H0
  refine cI Try.func89 ?_
  have hO := aO.start H0
  unfold fL at h0
  refine aY aG 1 [] [] ?_
  refine dB (fun T H => Has T [] ∧ aO ⟨H0, [], []⟩ H [] ∧ dP f1  = some r) ?_ ?_
  · clear hO h0
    rintro T H ⟨hT, hO, h0⟩
    refine bB hT ?_
    clear hT
    unfold dP at h0
    refine bV aG 1 [(4, (eI (-1 : Int)))] ?_
    refine bH ?_
    obtain rfl := oI h0
    exact aI (Q_r hO)
  refine aY aG 3 [] [(7, (eI (lN s0))), (8, (eI (0 : Int)))] ?_
  refine bP 0 ?_
  refine cT [(0, (eL aE s0)), (1, (.fn (.func f1_f) f1_a f1_c)), (7, (eI (lN s0))), (8, (eI (0 : Int)))] ?_
  refine cL (fun T H => ∃ t7 : Int, ∃ t8 : Int, Has T [(0, (eL aE s0)), (1, (.fn (.func f1_f) f1_a f1_c)), (7, (eI t7)), (8, (eI t8))] ∧ aO ⟨H0, [], []⟩ H [] ∧ fG f1 s0 t7 t8 = some r) ?_ ⟨(lN s0), (0 : Int), .eq (by kernel_rfl), hO, h0⟩
  clear hO h0
  rintro T H ⟨t7, t8, hT, hO, h0⟩
  refine bB hT ?_
  clear hT
  unfold fG at h0
  obtain ⟨rr0, hl0, h0⟩ := aV h0
  refine cB (by kernel_rfl) (fun (s : Int) T H => Has T [(0, (eL aE s0)), (1, (.fn (.func f1_f) f1_a f1_c)), (7, (eI t7)), (8, (eI s))] ∧ aO ⟨H0, [], []⟩ H []) hl0 ⟨.eq (by kernel_rfl), hO⟩ ?_
  clear hO
  rintro k0 s out1 T H ⟨hT, hO⟩ h1 ho0
  obtain ⟨t8, rfl⟩ : ∃ x, x = s := ⟨_, rfl⟩
  replace h1 : fD f1 s0 t7 t8 = some out1 := h1
  refine bB hT ?_
  clear hT
  unfold fD at h1
  refine aY aG 1 [] [(9, (aL (decide (t8 < t7))))] ?_
  refine aQ ?_
  refine bL h1 (fun h1 => ?_) (fun h1 => ?_)
  · refine bN ?_
    refine bF [(0, (eL aE s0)), (1, (.fn (.func f1_f) f1_a f1_c)), (7, (eI t7)), (8, (eI t8))] ?_
    refine aQ ?_
    refine bP 1 ?_
    refine aY aG 2 [] [(5, (eI t8))] ?_
    refine aQ ?_
    refine aT aG 6 ?_
    obtain ⟨c2, h1⟩ := bJ h1
    refine qG 5 [0 ≤ t8 ∧ t8 < (lN s0)] ⟨c2, trivial⟩ ?_
    obtain ⟨x3, hx4, h1⟩ := aV h1
    refine cJ (f1_h (gD s0 t8) _ hx4) hO ?_
    intro H hO
    refine cH ?_
    refine bS [] [(16, (aL x3))] ?_
    refine bL h1 (fun h1 => ?_) (fun h1 => ?_)
    · refine bV aG 2 [(4, (eI t8))] ?_
      refine bH ?_
      obtain rfl := oI h1
      obtain rfl : _ = rr0 := ho0
      replace h0 : some t8 = some r := h0
      obtain rfl := oI h0
      exact aI (bR (bA (bA (bR (bA (Q_r hO))))))
    refine bN ?_
    refine dD [(0, (eL aE s0)), (1, (.fn (.func f1_f) f1_a f1_c)), (7, (eI t7)), (8, (eI t8))] ?_
    refine aI (aU (aH (?_)))
    refine aT aG 2 ?_
    refine bC ?_
    exact aI (aH (⟨rfl, _, (oI h1).symm, .eq (by kernel_rfl), hO⟩))
  refine dU 0 ?_
  obtain rfl := oI h1
  obtain rfl : _ = rr0 := ho0
  replace h0 : dP f1  = some r := h0
  exact aI (aZ (aZ (bO (aH (⟨rfl, .eq (by kernel_rfl), hO, h0⟩)))))

theorem mO (s0 : (List aC)) (f1_f : Nat) (f1_a f1_c : List V) (f1 : aC → Option Bool) (f1_h : ∀ a0 r, f1 a0 = some r → bT Try.prog f1_f (f1_a ++ [(aE a0)] ++ f1_c) (aL r)) (r : Bool) (h0 : cR s0 f1 = some r) : bT Try.prog 50 [(eL aE s0), (.fn (.func f1_f) f1_a f1_c)] (aL r) := by
  intro H0
  refine cI Try.func50 ?_
  have hO := aO.start H0
  unfold cR at h0
  refine aY aG 1 [] [] ?_
  refine aQ ?_
  refine aT aG 5 ?_
  refine bM 2 ?_
  obtain ⟨x1, hx2, h0⟩ := aV h0
  refine cJ (uM s0 f1_f f1_a f1_c f1 f1_h _ hx2) hO ?_
  intro H hO
  refine bC ?_
  refine bF [(4, (aL (decide ((0 : Int) ≤ x1))))] ?_
  refine bH ?_
  obtain rfl := oI h0
  exact aI (Q_r hO)

theorem OR (x0 : aC) (r : Bool) (h0 : sU x0 = some r) : bT Try.prog 56 [(aE x0)] (aL r) := by
  intro H0
  refine cI Try.func56 ?_
  have hO := aO.start H0
  unfold sU at h0
  refine aQ ?_
  refine aT aG 2 ?_
  refine gO 3 (aE x0) (by kernel_rfl) (by kernel_rfl) ?_
  refine bC ?_
  refine bF [(1, (.rp (aE x0)))] ?_
  refine aQ ?_
  refine aT aG 15 ?_
  refine bM 2 ?_
  obtain ⟨x1, hx2, h0⟩ := aV h0
  refine cJ (xB x0.Row _ hx2) hO ?_
  intro H hO
  refine bC ?_
  refine bF [(2, (aL (((!x1) || (decide ((1048576 : Int) < x0.Net))) || (decide (x0.Net < (-1048576 : Int))))))] ?_
  refine bH ?_
  obtain rfl := oI h0
  exact aI (Q_r hO)

theorem OK (x0 : aC) (r : Bool) (h0 : rU x0 = some r) : bT Try.prog 58 [(aE x0)] (aL r) := by
  intro H0
  refine cI Try.func58 ?_
  have hO := aO.start H0
  unfold rU at h0
  refine aQ ?_
  refine aT aG 2 ?_
  refine gO 3 (aE x0) (by kernel_rfl) (by kernel_rfl) ?_
  refine bC ?_
  refine bF [(1, (.rp (aE x0)))] ?_
  refine bV aG 9 [(2, (aL ((decide (x0.At < (-1 : Int))) || (decide ((1125899906842624 : Int) < x0.At)))))] ?_
  refine bH ?_
  obtain rfl := oI h0
  exact aI (Q_r hO)

theorem wW (s0 : (List aC)) (r : (List aC)) (h0 : eS s0 = some r) : zX Try.prog 59 [(eL aE s0)] (fun lo => (.msl 3 lo 0 (List.length r))) 3 (List.map aE r) := by
  intro H0
  refine cI Try.func59 ?_
  have hO := aO.start H0
  unfold eS at h0
  refine aY aG 1 [] [] ?_
  refine aQ ?_
  refine aQ ?_
  refine aT aG 2 ?_
  refine bM 1 ?_
  refine aAJ false (List.length s0) (fun i => aE (List.getD s0 i default)) (by kernel_rfl) (by kernel_rfl) ?_
  intro b1 hn2
  refine cH ?_
  refine bS [] [(4, (aL b1))] ?_
  refine nW (b1) (fun hc3 => ?_) (fun hc3 => ?_)
  · replace h0 : some ([] : List aC) = some r := by
      have hl := List.eq_nil_of_length_eq_zero (hn2 hc3)
      rw [hl] at h0
      exact (bJ h0).2
    refine bV aG 1 [(2, (.sl true 0 (fun _ => .bad)))] ?_
    refine bH ?_
    refine dD [(2, (.sl true 0 (fun _ => .bad)))] ?_
    refine ZJ (el := (fun _ => .bad)) 0 2 3 hO (by kernel_rfl) ?_
    intro lo4 H5 hO
    obtain rfl := oI h0
    exact aI (bA (pY (x := (.msl 3 lo4 0 (List.length ([] : List aC)))) (by kernel_rfl) (aX.refl _) ⟨lo4, rfl, hO⟩))
  · refine bN ?_
    refine bF [(0, (eL aE s0))] ?_
    refine aQ ?_
    refine aT aG 4 ?_
    refine xY (xs := []) (k := 3) (by kernel_rfl) (by kernel_rfl) ?_
    refine bM 2 ?_
    obtain ⟨c7, h0⟩ := bJ h0
    refine VB (e := aE) s0 (fun _ => .bad) 3 40 (eL aE s0) (fun lo6 => [(lo6, 3, List.map aE s0)]) (by kernel_rfl) (by kernel_rfl) hO (ME (fun _ => by kernel_rfl)) c7 (fun _ => by kernel_rfl) ?_
    intro lo6 H hO
    refine bC ?_
    refine bF [(2, (.msl 3 lo6 0 (List.length s0)))] ?_
    refine bH ?_
    obtain rfl := oI h0
    exact aI (pY (x := (.msl 3 lo6 0 (List.length s0))) (by kernel_rfl) (aX.refl _) ⟨lo6, rfl, hO⟩)

theorem mY (lo0p : Nat) (aA : (List aC)) (a1 : Int) (b2 : Int) (cmp3_f : Nat) (cmp3_a cmp3_c : List V) (cmp3 : aC → aC → Option Int) (cmp3_h : ∀ a0 a1 r, cmp3 a0 a1 = some r → bT Try.prog cmp3_f (cmp3_a ++ [(aE a0), (aE a1)] ++ cmp3_c) (eI r)) (r : List aC) (h0 : dL aA a1 b2 cmp3 = some r) : kY Try.prog 127 lo0p 3 (List.map aE aA) (List.map aE r) [(.msl 3 lo0p 0 (List.length aA)), (eI a1), (eI b2), (.fn (.func cmp3_f) cmp3_a cmp3_c)] (.tup []) := by
  intro H0 hl0
  refine cI Try.func127 ?_
  have hO := aO.pZ hl0
  clear hl0
  obtain ⟨N0, hN0⟩ : ∃ n, n = List.length aA := ⟨_, rfl⟩
  have hN : List.length aA = N0 := hN0.symm
  unfold dL at h0
  refine aY aG 3 [] [(8, (eI (wR (a1 + (1 : Int)))))] ?_
  refine bP 0 ?_
  refine cT [(0, (.msl 3 lo0p 0 (List.length aA))), (1, (eI a1)), (2, (eI b2)), (3, (.fn (.func cmp3_f) cmp3_a cmp3_c)), (8, (eI (wR (a1 + (1 : Int)))))] ?_
  refine cL (fun T H => ∃ aA : List aC, ∃ i8 : Int, Has T [(0, (.msl 3 lo0p 0 (List.length aA))), (1, (eI a1)), (2, (eI b2)), (3, (.fn (.func cmp3_f) cmp3_a cmp3_c)), (8, (eI i8))] ∧ aO ⟨H0, [lo0p], []⟩ H [(lo0p, 3, List.map aE aA)] ∧ List.length aA = N0 ∧ iN cmp3 aA a1 b2 i8 = some r) ?_ ⟨aA, wR (a1 + (1 : Int)), .eq (by kernel_rfl), hO, hN, h0⟩
  clear hO hN h0
  rintro T H ⟨aA, i8, hT, hO, hN, h0⟩
  refine bB hT ?_
  clear hT
  unfold iN at h0
  obtain ⟨rr0, hl0, h0⟩ := aV h0
  refine cB (by kernel_rfl) (fun (s : List aC × Int) T H => Has T [(0, (.msl 3 lo0p 0 (List.length s.1))), (1, (eI a1)), (2, (eI b2)), (3, (.fn (.func cmp3_f) cmp3_a cmp3_c)), (8, (eI s.2))] ∧ aO ⟨H0, [lo0p], []⟩ H [(lo0p, 3, List.map aE s.1)] ∧ List.length s.1 = N0) hl0 ⟨.eq (by kernel_rfl), hO, hN⟩ ?_
  clear hO hN
  rintro k0 s out1 T H ⟨hT, hO, hN⟩ h1 ho0
  obtain ⟨aA, i8⟩ := s
  replace h1 : iR cmp3 a1 b2 aA i8 = some out1 := h1
  try dsimp only at hT
  refine bB hT ?_
  clear hT
  unfold iR at h1
  refine aQ ?_
  refine aY aG 3 [] [(14, (aL (decide (i8 < b2))))] ?_
  refine bL h1 (fun h1 => ?_) (fun h1 => ?_)
  · refine bN ?_
    refine bF [(0, (.msl 3 lo0p 0 (List.length aA))), (1, (eI a1)), (2, (eI b2)), (3, (.fn (.func cmp3_f) cmp3_a cmp3_c)), (8, (eI i8))] ?_
    refine dB (fun T H => ∃ aA : List aC, Has T [(0, (.msl 3 lo0p 0 (List.length aA))), (1, (eI a1)), (2, (eI b2)), (3, (.fn (.func cmp3_f) cmp3_a cmp3_c)), (8, (eI i8))] ∧ aO ⟨H0, [lo0p], []⟩ H [(lo0p, 3, List.map aE aA)] ∧ List.length aA = N0 ∧ eJ cmp3 aA a1 b2 i8 = some out1) ?_ ?_
    · clear hO hN h1
      rintro T H ⟨aA, hT, hO, hN, h1⟩
      refine bB hT ?_
      clear hT
      unfold eJ at h1
      refine aT aG 3 ?_
      refine bC ?_
      exact aI (aH (⟨rfl, _, (oI h1).symm, .eq (by kernel_rfl), hO, hN⟩))
    refine bP 1 ?_
    refine aY aG 2 [] [(9, (eI i8))] ?_
    refine bP 2 ?_
    refine cT [(0, (.msl 3 lo0p 0 (List.length aA))), (1, (eI a1)), (2, (eI b2)), (3, (.fn (.func cmp3_f) cmp3_a cmp3_c)), (8, (eI i8)), (9, (eI i8))] ?_
    refine cL (fun T H => ∃ aA : List aC, ∃ j9 : Int, Has T [(0, (.msl 3 lo0p 0 (List.length aA))), (1, (eI a1)), (2, (eI b2)), (3, (.fn (.func cmp3_f) cmp3_a cmp3_c)), (8, (eI i8)), (9, (eI j9))] ∧ aO ⟨H0, [lo0p], []⟩ H [(lo0p, 3, List.map aE aA)] ∧ List.length aA = N0 ∧ iM cmp3 aA a1 b2 i8 j9 = some out1) ?_ ⟨aA, i8, .eq (by kernel_rfl), hO, hN, h1⟩
    clear hO hN h1
    rintro T H ⟨aA, j9, hT, hO, hN, h1⟩
    refine bB hT ?_
    clear hT
    unfold iM at h1
    obtain ⟨rr1, hl1, h1⟩ := aV h1
    refine cB (by kernel_rfl) (fun (s : List aC × Int) T H => Has T [(0, (.msl 3 lo0p 0 (List.length s.1))), (1, (eI a1)), (2, (eI b2)), (3, (.fn (.func cmp3_f) cmp3_a cmp3_c)), (8, (eI i8)), (9, (eI s.2))] ∧ aO ⟨H0, [lo0p], []⟩ H [(lo0p, 3, List.map aE s.1)] ∧ List.length s.1 = N0) hl1 ⟨.eq (by kernel_rfl), hO, hN⟩ ?_
    clear hO hN
    rintro k1 s out2 T H ⟨hT, hO, hN⟩ h2 ho1
    obtain ⟨aA, j9⟩ := s
    replace h2 : iK cmp3 a1 b2 i8 aA j9 = some out2 := h2
    try dsimp only at hT
    refine bB hT ?_
    clear hT
    unfold iK at h2
    refine aQ ?_
    refine aQ ?_
    obtain ⟨c2, h2⟩ := bJ h2
    obtain ⟨c3, h2⟩ := bJ h2
    obtain ⟨x4, hx5, h2⟩ := aV h2
    refine kC (jO []) aG 17 ?_
    refine CV (K := fun T H => Has (lift T) [(0, (.msl 3 lo0p 0 (List.length aA))), (1, (eI a1)), (2, (eI b2)), (3, (.fn (.func cmp3_f) cmp3_a cmp3_c)), (8, (eI i8)), (9, (eI j9)), (34, (aL ((decide (a1 < j9)) && (decide (x4 < (0 : Int))))))] ∧ aO ⟨H0, [lo0p], []⟩ H [(lo0p, 3, List.map aE aA)]) ?_ ?_
    · refine uJ 4 ?_
      refine DJ (t := 21) (e := decide (a1 < j9)) (by kernel_rfl) (fun hg6 => ?_) (fun hg6 => ?_)
      · refine dM 8 [0 ≤ j9 ∧ j9 < (lN aA)] ⟨(c2 hg6), trivial⟩ ?_
        refine AO 0 lo0p 3 (0 + Int.toNat j9) (aE (gD aA j9)) (aE (gD aA j9)) (List.map aE aA) (by kernel_rfl) (by kernel_rfl) (by kernel_rfl) hO (by kernel_rfl) (cP (c2 hg6)) ?_
        refine dM 13 [0 ≤ (wR (j9 - (1 : Int))) ∧ (wR (j9 - (1 : Int))) < (lN aA)] ⟨(c3 hg6), trivial⟩ ?_
        refine AO 0 lo0p 3 (0 + Int.toNat (wR (j9 - (1 : Int)))) (aE (gD aA (wR (j9 - (1 : Int))))) (aE (gD aA (wR (j9 - (1 : Int))))) (List.map aE aA) (by kernel_rfl) (by kernel_rfl) (by kernel_rfl) hO (by kernel_rfl) (cP (c3 hg6)) ?_
        refine LK cmp3_f (cmp3_a ++ [(aE (gD aA j9)), (aE (gD aA (wR (j9 - (1 : Int)))))] ++ cmp3_c) (eI x4) (by kernel_rfl) (by kernel_rfl) (cmp3_h (gD aA j9) (gD aA (wR (j9 - (1 : Int)))) _ (jH hx5 hg6)) hO ?_
        intro H hO
        refine qF ?_
        exact ⟨⟨[(0, (.msl 3 lo0p 0 (List.length aA))), (1, (eI a1)), (2, (eI b2)), (3, (.fn (.func cmp3_f) cmp3_a cmp3_c)), (8, (eI i8)), (9, (eI j9)), (34, (aL (decide (x4 < (0 : Int)))))], by kernel_rfl, rfl, ⟨aX.refl _, aX.refl _, aX.refl _, aX.refl _, aX.refl _, aX.refl _, aX.eq (congrArg aL (CA hg6 rfl).symm), trivial⟩⟩, hO⟩
      refine qF ?_
      exact ⟨⟨[(0, (.msl 3 lo0p 0 (List.length aA))), (1, (eI a1)), (2, (eI b2)), (3, (.fn (.func cmp3_f) cmp3_a cmp3_c)), (8, (eI i8)), (9, (eI j9)), (34, (aL false))], by kernel_rfl, rfl, ⟨aX.refl _, aX.refl _, aX.refl _, aX.refl _, aX.refl _, aX.refl _, aX.eq (congrArg aL (CA hg6 rfl).symm), trivial⟩⟩, hO⟩
    · rintro T H ⟨hT, hO⟩
      refine cS hT ?_
      clear hT
      refine aI (aH ?_)
      refine bL h2 (fun h2 => ?_) (fun h2 => ?_)
      · refine bN ?_
        refine bF [(0, (.msl 3 lo0p 0 (List.length aA))), (1, (eI a1)), (2, (eI b2)), (3, (.fn (.func cmp3_f) cmp3_a cmp3_c)), (8, (eI i8)), (9, (eI j9))] ?_
        refine aQ ?_
        refine bP 3 ?_
        refine kC (jO []) aG 18 ?_
        obtain ⟨c8, h2⟩ := bJ h2
        refine dM 9 [0 ≤ (wR (j9 - (1 : Int))) ∧ (wR (j9 - (1 : Int))) < (lN aA)] ⟨c8, trivial⟩ ?_
        refine kS 0 lo0p 3 (0 + Int.toNat (wR (j9 - (1 : Int)))) (aE (gD aA (wR (j9 - (1 : Int))))) (aE (gD aA (wR (j9 - (1 : Int))))) (List.map aE aA) hO (cP c8) ?_
        obtain ⟨c9, h2⟩ := bJ h2
        refine dM 13 [0 ≤ j9 ∧ j9 < (lN aA)] ⟨c9, trivial⟩ ?_
        refine kS 0 lo0p 3 (0 + Int.toNat j9) (aE (gD aA j9)) (aE (gD aA j9)) (List.map aE aA) hO (cP c9) ?_
        obtain ⟨c10, h2⟩ := bJ h2
        refine dM 15 [0 ≤ j9 ∧ j9 < (lN aA)] ⟨c10, trivial⟩ ?_
        refine rR 0 lo0p 3 (0 + Int.toNat j9) (aE (gD aA j9)) (aE (gD aA (wR (j9 - (1 : Int))))) (List.map aE aA) [(lo0p, 3, List.map aE (List.set aA (Int.toNat j9) (gD aA (wR (j9 - (1 : Int))))))] hO (cP c10) (by simp only [List.set, nP]) ?_
        intro H hO
        replace hN : List.length (List.set aA (Int.toNat j9) (gD aA (wR (j9 - (1 : Int))))) = N0 := by simpa using hN
        obtain ⟨c11, h2⟩ := bJ h2
        refine dM 17 [0 ≤ (wR (j9 - (1 : Int))) ∧ (wR (j9 - (1 : Int))) < (lN aA)] ⟨c11, trivial⟩ ?_
        refine rR 0 lo0p 3 (0 + Int.toNat (wR (j9 - (1 : Int)))) (aE (gD (List.set aA (Int.toNat j9) (gD aA (wR (j9 - (1 : Int))))) (wR (j9 - (1 : Int))))) (aE (gD aA j9)) (List.map aE (List.set aA (Int.toNat j9) (gD aA (wR (j9 - (1 : Int)))))) [(lo0p, 3, List.map aE (List.set (List.set aA (Int.toNat j9) (gD aA (wR (j9 - (1 : Int))))) (Int.toNat (wR (j9 - (1 : Int)))) (gD aA j9)))] hO (xD c11 (by simp [])) (by simp only [List.set, nP]) ?_
        intro H hO
        replace hN : List.length (List.set (List.set aA (Int.toNat j9) (gD aA (wR (j9 - (1 : Int))))) (Int.toNat (wR (j9 - (1 : Int)))) (gD aA j9)) = N0 := by simpa using hN
        refine xP (by kernel_rfl) ?_
        refine cS (l := [(0, (.msl 3 lo0p 0 (List.length (List.set (List.set aA (Int.toNat j9) (gD aA (wR (j9 - (1 : Int))))) (Int.toNat (wR (j9 - (1 : Int)))) (gD aA j9))))), (1, (eI a1)), (2, (eI b2)), (3, (.fn (.func cmp3_f) cmp3_a cmp3_c)), (8, (eI i8)), (9, (eI j9))]) ⟨[(0, (.msl 3 lo0p 0 (List.length aA))), (1, (eI a1)), (2, (eI b2)), (3, (.fn (.func cmp3_f) cmp3_a cmp3_c)), (8, (eI i8)), (9, (eI j9))], by kernel_rfl, rfl, ⟨aX.eq (by simp []), aX.refl _, aX.refl _, aX.refl _, aX.refl _, aX.refl _, trivial⟩⟩ ?_
        refine aI (aU (aH (?_)))
        refine aT aG 3 ?_
        refine bC ?_
        exact aI (aH (⟨rfl, _, (oI h2).symm, .eq (by kernel_rfl), hO, hN⟩))
      refine dU 2 ?_
      obtain rfl := oI h2
      obtain rfl : _ = rr1 := ho1
      replace h1 : eJ cmp3 aA a1 b2 i8 = some out1 := h1
      exact aI (aZ (aZ (bO (aU (aH (⟨rfl, _, .eq (by kernel_rfl), hO, hN, h1⟩))))))
  refine dU 0 ?_
  obtain rfl := oI h1
  obtain rfl : _ = rr0 := ho0
  replace h0 : some aA = some r := h0
  obtain rfl := oI h0
  exact aI (aZ (aZ (bO (qN (x := (.tup [])) (by kernel_rfl) (aX.refl _) ⟨rfl, hO.ext, hO.at 0 (by kernel_rfl), by simp only [List.length_map]; exact hN.trans hN0⟩))))

theorem kP (lo0p : Nat) (aA : (List aC)) (a1 : Int) (b2 : Int) (n3 : Int) (cmp4_f : Nat) (cmp4_a cmp4_c : List V) (cmp4 : aC → aC → Option Int) (cmp4_h : ∀ a0 a1 r, cmp4 a0 a1 = some r → bT Try.prog cmp4_f (cmp4_a ++ [(aE a0), (aE a1)] ++ cmp4_c) (eI r)) (r : List aC) (h0 : eA aA a1 b2 n3 cmp4 = some r) : kY Try.prog 142 lo0p 3 (List.map aE aA) (List.map aE r) [(.msl 3 lo0p 0 (List.length aA)), (eI a1), (eI b2), (eI n3), (.fn (.func cmp4_f) cmp4_a cmp4_c)] (.tup []) := by
  intro H0 hl0
  refine cI Try.func142 ?_
  have hO := aO.pZ hl0
  clear hl0
  obtain ⟨N0, hN0⟩ : ∃ n, n = List.length aA := ⟨_, rfl⟩
  have hN : List.length aA = N0 := hN0.symm
  unfold eA at h0
  refine aY aG 1 [4] [(10, (eI (0 : Int)))] ?_
  refine bP 0 ?_
  refine cT [(0, (.msl 3 lo0p 0 (List.length aA))), (1, (eI a1)), (2, (eI b2)), (3, (eI n3)), (10, (eI (0 : Int)))] ?_
  refine cL (fun T H => ∃ aA : List aC, ∃ i10 : Int, Has T [(0, (.msl 3 lo0p 0 (List.length aA))), (1, (eI a1)), (2, (eI b2)), (3, (eI n3)), (10, (eI i10))] ∧ aO ⟨H0, [lo0p], []⟩ H [(lo0p, 3, List.map aE aA)] ∧ List.length aA = N0 ∧ kJ cmp4 aA a1 b2 n3 i10 = some r) ?_ ⟨aA, (0 : Int), .eq (by kernel_rfl), hO, hN, h0⟩
  clear hO hN h0
  rintro T H ⟨aA, i10, hT, hO, hN, h0⟩
  refine bB hT ?_
  clear hT
  unfold kJ at h0
  obtain ⟨rr0, hl0, h0⟩ := aV h0
  refine cB (by kernel_rfl) (fun (s : List aC × Int) T H => Has T [(0, (.msl 3 lo0p 0 (List.length s.1))), (1, (eI a1)), (2, (eI b2)), (3, (eI n3)), (10, (eI s.2))] ∧ aO ⟨H0, [lo0p], []⟩ H [(lo0p, 3, List.map aE s.1)] ∧ List.length s.1 = N0) hl0 ⟨.eq (by kernel_rfl), hO, hN⟩ ?_
  clear hO hN
  rintro k0 s out1 T H ⟨hT, hO, hN⟩ h1 ho0
  obtain ⟨aA, i10⟩ := s
  replace h1 : jX cmp4 a1 b2 n3 aA i10 = some out1 := h1
  try dsimp only at hT
  refine bB hT ?_
  clear hT
  unfold jX at h1
  refine aQ ?_
  refine aY aG 3 [] [(13, (aL (decide (i10 < n3))))] ?_
  refine bL h1 (fun h1 => ?_) (fun h1 => ?_)
  · refine bN ?_
    refine bF [(0, (.msl 3 lo0p 0 (List.length aA))), (1, (eI a1)), (2, (eI b2)), (3, (eI n3)), (10, (eI i10))] ?_
    refine aQ ?_
    refine bP 1 ?_
    refine kC (jO []) aG 24 ?_
    obtain ⟨c2, h1⟩ := bJ h1
    refine dM 13 [0 ≤ (wR (b2 + i10)) ∧ (wR (b2 + i10)) < (lN aA)] ⟨c2, trivial⟩ ?_
    refine kS 0 lo0p 3 (0 + Int.toNat (wR (b2 + i10))) (aE (gD aA (wR (b2 + i10)))) (aE (gD aA (wR (b2 + i10)))) (List.map aE aA) hO (cP c2) ?_
    obtain ⟨c3, h1⟩ := bJ h1
    refine dM 19 [0 ≤ (wR (a1 + i10)) ∧ (wR (a1 + i10)) < (lN aA)] ⟨c3, trivial⟩ ?_
    refine kS 0 lo0p 3 (0 + Int.toNat (wR (a1 + i10))) (aE (gD aA (wR (a1 + i10)))) (aE (gD aA (wR (a1 + i10)))) (List.map aE aA) hO (cP c3) ?_
    obtain ⟨c4, h1⟩ := bJ h1
    refine dM 21 [0 ≤ (wR (a1 + i10)) ∧ (wR (a1 + i10)) < (lN aA)] ⟨c4, trivial⟩ ?_
    refine rR 0 lo0p 3 (0 + Int.toNat (wR (a1 + i10))) (aE (gD aA (wR (a1 + i10)))) (aE (gD aA (wR (b2 + i10)))) (List.map aE aA) [(lo0p, 3, List.map aE (List.set aA (Int.toNat (wR (a1 + i10))) (gD aA (wR (b2 + i10)))))] hO (cP c4) (by simp only [List.set, nP]) ?_
    intro H hO
    replace hN : List.length (List.set aA (Int.toNat (wR (a1 + i10))) (gD aA (wR (b2 + i10)))) = N0 := by simpa using hN
    obtain ⟨c5, h1⟩ := bJ h1
    refine dM 23 [0 ≤ (wR (b2 + i10)) ∧ (wR (b2 + i10)) < (lN aA)] ⟨c5, trivial⟩ ?_
    refine rR 0 lo0p 3 (0 + Int.toNat (wR (b2 + i10))) (aE (gD (List.set aA (Int.toNat (wR (a1 + i10))) (gD aA (wR (b2 + i10)))) (wR (b2 + i10)))) (aE (gD aA (wR (a1 + i10)))) (List.map aE (List.set aA (Int.toNat (wR (a1 + i10))) (gD aA (wR (b2 + i10))))) [(lo0p, 3, List.map aE (List.set (List.set aA (Int.toNat (wR (a1 + i10))) (gD aA (wR (b2 + i10)))) (Int.toNat (wR (b2 + i10))) (gD aA (wR (a1 + i10)))))] hO (xD c5 (by simp [])) (by simp only [List.set, nP]) ?_
    intro H hO
    replace hN : List.length (List.set (List.set aA (Int.toNat (wR (a1 + i10))) (gD aA (wR (b2 + i10)))) (Int.toNat (wR (b2 + i10))) (gD aA (wR (a1 + i10)))) = N0 := by simpa using hN
    refine xP (by kernel_rfl) ?_
    refine cS (l := [(0, (.msl 3 lo0p 0 (List.length (List.set (List.set aA (Int.toNat (wR (a1 + i10))) (gD aA (wR (b2 + i10)))) (Int.toNat (wR (b2 + i10))) (gD aA (wR (a1 + i10))))))), (1, (eI a1)), (2, (eI b2)), (3, (eI n3)), (10, (eI i10))]) ⟨[(0, (.msl 3 lo0p 0 (List.length aA))), (1, (eI a1)), (2, (eI b2)), (3, (eI n3)), (10, (eI i10))], by kernel_rfl, rfl, ⟨aX.eq (by simp []), aX.refl _, aX.refl _, aX.refl _, aX.refl _, trivial⟩⟩ ?_
    refine aI (aU (aH (?_)))
    refine aT aG 3 ?_
    refine bC ?_
    exact aI (aH (⟨rfl, _, (oI h1).symm, .eq (by kernel_rfl), hO, hN⟩))
  refine dU 0 ?_
  obtain rfl := oI h1
  obtain rfl : _ = rr0 := ho0
  replace h0 : some aA = some r := h0
  obtain rfl := oI h0
  exact aI (aZ (aZ (bO (qN (x := (.tup [])) (by kernel_rfl) (aX.refl _) ⟨rfl, hO.ext, hO.at 0 (by kernel_rfl), by simp only [List.length_map]; exact hN.trans hN0⟩))))

theorem xH (lo0p : Nat) (aA : (List aC)) (a1 : Int) (m2 : Int) (b3 : Int) (cmp4_f : Nat) (cmp4_a cmp4_c : List V) (cmp4 : aC → aC → Option Int) (cmp4_h : ∀ a0 a1 r, cmp4 a0 a1 = some r → bT Try.prog cmp4_f (cmp4_a ++ [(aE a0), (aE a1)] ++ cmp4_c) (eI r)) (r : List aC) (h0 : lX aA a1 m2 b3 cmp4 = some r) : kY Try.prog 137 lo0p 3 (List.map aE aA) (List.map aE r) [(.msl 3 lo0p 0 (List.length aA)), (eI a1), (eI m2), (eI b3), (.fn (.func cmp4_f) cmp4_a cmp4_c)] (.tup []) := by
  intro H0 hl0
  refine cI Try.func137 ?_
  have hO := aO.pZ hl0
  clear hl0
  obtain ⟨N0, hN0⟩ : ∃ n, n = List.length aA := ⟨_, rfl⟩
  have hN : List.length aA = N0 := hN0.symm
  unfold lX at h0
  refine aY aG 4 [1] [(10, (eI (wR (m2 - a1))))] ?_
  refine aY aG 4 [3] [(11, (eI (wR (b3 - m2))))] ?_
  refine dB (fun T H => ∃ aA : List aC, ∃ i10 : Int, Has T [(0, (.msl 3 lo0p 0 (List.length aA))), (2, (eI m2)), (4, (.fn (.func cmp4_f) cmp4_a cmp4_c)), (10, (eI i10))] ∧ aO ⟨H0, [lo0p], []⟩ H [(lo0p, 3, List.map aE aA)] ∧ List.length aA = N0 ∧ iJ cmp4 aA m2 i10 = some r) ?_ ?_
  · clear hO hN h0
    rintro T H ⟨aA, i10, hT, hO, hN, h0⟩
    refine bB hT ?_
    clear hT
    unfold iJ at h0
    refine aT aG 8 ?_
    refine bM 7 ?_
    obtain ⟨x1, hx2, h0⟩ := aV h0
    refine oG [(lo0p, 3, List.map aE x1)] 0 (kP lo0p aA (wR (m2 - i10)) m2 i10 cmp4_f cmp4_a cmp4_c cmp4 cmp4_h _ hx2) hO ?_
    intro H hO hl3
    simp only [List.length_map] at hl3
    replace hN := hl3.trans hN
    refine cH ?_
    refine cS (l := [(0, (.msl 3 lo0p 0 (List.length x1)))]) ⟨[(0, (.msl 3 lo0p 0 (List.length aA)))], by kernel_rfl, rfl, ⟨aX.eq (by simp [hl3]), trivial⟩⟩ ?_
    obtain rfl := oI h0
    exact aI (qN (x := (.tup [])) (by kernel_rfl) (aX.refl _) ⟨rfl, hO.ext, hO.at 0 (by kernel_rfl), by simp only [List.length_map]; exact hN.trans hN0⟩)
  refine bP 0 ?_
  refine cT [(0, (.msl 3 lo0p 0 (List.length aA))), (2, (eI m2)), (4, (.fn (.func cmp4_f) cmp4_a cmp4_c)), (10, (eI (wR (m2 - a1)))), (11, (eI (wR (b3 - m2))))] ?_
  refine cL (fun T H => ∃ aA : List aC, ∃ i10 : Int, ∃ j11 : Int, Has T [(0, (.msl 3 lo0p 0 (List.length aA))), (2, (eI m2)), (4, (.fn (.func cmp4_f) cmp4_a cmp4_c)), (10, (eI i10)), (11, (eI j11))] ∧ aO ⟨H0, [lo0p], []⟩ H [(lo0p, 3, List.map aE aA)] ∧ List.length aA = N0 ∧ lJ cmp4 aA m2 i10 j11 = some r) ?_ ⟨aA, wR (m2 - a1), wR (b3 - m2), .eq (by kernel_rfl), hO, hN, h0⟩
  clear hO hN h0
  rintro T H ⟨aA, i10, j11, hT, hO, hN, h0⟩
  refine bB hT ?_
  clear hT
  unfold lJ at h0
  obtain ⟨rr0, hl0, h0⟩ := aV h0
  refine cB (by kernel_rfl) (fun (s : List aC × Int × Int) T H => Has T [(0, (.msl 3 lo0p 0 (List.length s.1))), (2, (eI m2)), (4, (.fn (.func cmp4_f) cmp4_a cmp4_c)), (10, (eI s.2.1)), (11, (eI s.2.2))] ∧ aO ⟨H0, [lo0p], []⟩ H [(lo0p, 3, List.map aE s.1)] ∧ List.length s.1 = N0) hl0 ⟨.eq (by kernel_rfl), hO, hN⟩ ?_
  clear hO hN
  rintro k0 s out1 T H ⟨hT, hO, hN⟩ h1 ho0
  obtain ⟨aA, i10, j11⟩ := s
  replace h1 : lO cmp4 m2 aA i10 j11 = some out1 := h1
  try dsimp only at hT
  refine bB hT ?_
  clear hT
  unfold lO at h1
  refine aQ ?_
  refine aY aG 3 [] [(20, (aL (!decide (i10 = j11))))] ?_
  refine bL h1 (fun h1 => ?_) (fun h1 => ?_)
  · refine bN ?_
    refine bF [(0, (.msl 3 lo0p 0 (List.length aA))), (2, (eI m2)), (4, (.fn (.func cmp4_f) cmp4_a cmp4_c)), (10, (eI i10)), (11, (eI j11))] ?_
    refine bP 1 ?_
    refine aY aG 3 [] [(23, (aL (decide (j11 < i10))))] ?_
    refine bL h1 (fun h1 => ?_) (fun h1 => ?_)
    · refine aQ ?_
      refine aT aG 8 ?_
      refine bM 7 ?_
      obtain ⟨x6, hx7, h1⟩ := aV h1
      refine oG [(lo0p, 3, List.map aE x6)] 0 (kP lo0p aA (wR (m2 - i10)) m2 j11 cmp4_f cmp4_a cmp4_c cmp4 cmp4_h _ hx7) hO ?_
      intro H hO hl8
      simp only [List.length_map] at hl8
      replace hN := hl8.trans hN
      refine cH ?_
      refine cS (l := [(0, (.msl 3 lo0p 0 (List.length x6))), (2, (eI m2)), (4, (.fn (.func cmp4_f) cmp4_a cmp4_c)), (10, (eI i10)), (11, (eI j11))]) ⟨[(0, (.msl 3 lo0p 0 (List.length aA))), (2, (eI m2)), (4, (.fn (.func cmp4_f) cmp4_a cmp4_c)), (10, (eI i10)), (11, (eI j11))], by kernel_rfl, rfl, ⟨aX.eq (by simp [hl8]), aX.refl _, aX.refl _, aX.refl _, aX.refl _, trivial⟩⟩ ?_
      refine aI (aH (?_))
      refine aT aG 4 ?_
      refine bC ?_
      exact aI (aU (aH (⟨rfl, _, (oI h1).symm, .eq (by kernel_rfl), hO, hN⟩)))
    refine aQ ?_
    refine aT aG 12 ?_
    refine bM 11 ?_
    obtain ⟨x9, hx10, h1⟩ := aV h1
    refine oG [(lo0p, 3, List.map aE x9)] 0 (kP lo0p aA (wR (m2 - i10)) (wR ((wR (m2 + j11)) - i10)) i10 cmp4_f cmp4_a cmp4_c cmp4 cmp4_h _ hx10) hO ?_
    intro H hO hl11
    simp only [List.length_map] at hl11
    replace hN := hl11.trans hN
    refine cH ?_
    refine cS (l := [(0, (.msl 3 lo0p 0 (List.length x9))), (2, (eI m2)), (4, (.fn (.func cmp4_f) cmp4_a cmp4_c)), (10, (eI i10)), (11, (eI j11))]) ⟨[(0, (.msl 3 lo0p 0 (List.length aA))), (2, (eI m2)), (4, (.fn (.func cmp4_f) cmp4_a cmp4_c)), (10, (eI i10)), (11, (eI j11))], by kernel_rfl, rfl, ⟨aX.eq (by simp [hl11]), aX.refl _, aX.refl _, aX.refl _, aX.refl _, trivial⟩⟩ ?_
    refine aI (aH (?_))
    refine aT aG 4 ?_
    refine bC ?_
    exact aI (aU (aH (⟨rfl, _, (oI h1).symm, .eq (by kernel_rfl), hO, hN⟩)))
  refine dU 0 ?_
  obtain rfl := oI h1
  obtain rfl : _ = rr0 := ho0
  replace h0 : iJ cmp4 aA m2 i10 = some r := h0
  exact aI (aZ (aZ (bO (aH (⟨rfl, _, _, .eq (by kernel_rfl), hO, hN, h0⟩)))))

theorem tC (cmp4_f : Nat) (cmp4_a cmp4_c : List V) (cmp4 : aC → aC → Option Int) (cmp4_h : ∀ a0 a1 r, cmp4 a0 a1 = some r → bT Try.prog cmp4_f (cmp4_a ++ [(aE a0), (aE a1)] ++ cmp4_c) (eI r)) (rec : (List aC) → Int → Int → Int → Option (List aC)) (ih : ∀ (lo0p : Nat) (aA : (List aC)) (a1 : Int) (m2 : Int) (b3 : Int) (r : List aC), rec aA a1 m2 b3 = some r → kY Try.prog 128 lo0p 3 (List.map aE aA) (List.map aE r) [(.msl 3 lo0p 0 (List.length aA)), (eI a1), (eI m2), (eI b3), (.fn (.func cmp4_f) cmp4_a cmp4_c)] (.tup [])) (lo0p : Nat) (aA : (List aC)) (a1 : Int) (m2 : Int) (b3 : Int) (r : List aC) (h0 : dR cmp4 rec aA a1 m2 b3 = some r) : kY Try.prog 128 lo0p 3 (List.map aE aA) (List.map aE r) [(.msl 3 lo0p 0 (List.length aA)), (eI a1), (eI m2), (eI b3), (.fn (.func cmp4_f) cmp4_a cmp4_c)] (.tup []) := by
  intro H0 hl0
  refine cI Try.func128 ?_
  have hO := aO.pZ hl0
  clear hl0
  obtain ⟨N0, hN0⟩ : ∃ n, n = List.length aA := ⟨_, rfl⟩
  have hN : List.length aA = N0 := hN0.symm
  unfold dR at h0
  refine dB (fun T H => ∃ aA : List aC, Has T [(0, (.msl 3 lo0p 0 (List.length aA))), (1, (eI a1)), (2, (eI m2)), (3, (eI b3)), (4, (.fn (.func cmp4_f) cmp4_a cmp4_c))] ∧ aO ⟨H0, [lo0p], []⟩ H [(lo0p, 3, List.map aE aA)] ∧ List.length aA = N0 ∧ kO cmp4 rec aA a1 m2 b3 = some r) ?_ ?_
  · clear hO hN h0
    rintro T H ⟨aA, hT, hO, hN, h0⟩
    refine bB hT ?_
    clear hT
    unfold kO at h0
    refine dB (fun T H => ∃ aA : List aC, Has T [(0, (.msl 3 lo0p 0 (List.length aA))), (1, (eI a1)), (2, (eI m2)), (3, (eI b3)), (4, (.fn (.func cmp4_f) cmp4_a cmp4_c))] ∧ aO ⟨H0, [lo0p], []⟩ H [(lo0p, 3, List.map aE aA)] ∧ List.length aA = N0 ∧ kM cmp4 rec aA a1 m2 b3 = some r) ?_ ?_
    · clear hO hN h0
      rintro T H ⟨aA, hT, hO, hN, h0⟩
      refine bB hT ?_
      clear hT
      unfold kM at h0
      refine aQ ?_
      refine aT aG 7 ?_
      obtain ⟨c1, h0⟩ := bJ h0
      refine vB [0 ≤ (1 : Int)] ⟨c1, trivial⟩ ?_
      refine bS [] [(18, (eI (wR (Int.fdiv (IntKind.u64.wrap (wR (a1 + b3))) (2 ^ (min (Int.toNat (1 : Int)) 64))))))] ?_
      refine aY aG 4 [] [(19, (eI (wR ((wR (Int.fdiv (IntKind.u64.wrap (wR (a1 + b3))) (2 ^ (min (Int.toNat (1 : Int)) 64)))) + m2))))] ?_
      refine aY aG 2 [] [] ?_
      refine dB (fun T H => ∃ aA : List aC, ∃ bQ : Int, ∃ n19 : Int, ∃ aR : Int, ∃ r21 : Int, Has T [(0, (.msl 3 lo0p 0 (List.length aA))), (1, (eI a1)), (2, (eI m2)), (3, (eI b3)), (4, (.fn (.func cmp4_f) cmp4_a cmp4_c)), (18, (eI bQ)), (19, (eI n19)), (20, (eI aR)), (21, (eI r21))] ∧ aO ⟨H0, [lo0p], []⟩ H [(lo0p, 3, List.map aE aA)] ∧ List.length aA = N0 ∧ gI cmp4 rec aA a1 m2 b3 bQ n19 aR r21 = some r) ?_ ?_
      · clear hO hN h0
        rintro T H ⟨aA, bQ, n19, aR, r21, hT, hO, hN, h0⟩
        refine bB hT ?_
        clear hT
        unfold gI at h0
        refine aY aG 3 [] [(22, (eI (wR (n19 - (1 : Int)))))] ?_
        refine dB (fun T H => ∃ aA : List aC, ∃ aR : Int, Has T [(0, (.msl 3 lo0p 0 (List.length aA))), (1, (eI a1)), (2, (eI m2)), (3, (eI b3)), (4, (.fn (.func cmp4_f) cmp4_a cmp4_c)), (18, (eI bQ)), (19, (eI n19)), (20, (eI aR))] ∧ aO ⟨H0, [lo0p], []⟩ H [(lo0p, 3, List.map aE aA)] ∧ List.length aA = N0 ∧ fV cmp4 rec aA a1 m2 b3 bQ n19 aR = some r) ?_ ?_
        · clear hO hN h0
          rintro T H ⟨aA, aR, hT, hO, hN, h0⟩
          refine bB hT ?_
          clear hT
          unfold fV at h0
          refine aY aG 4 [19] [(24, (eI (wR (n19 - aR))))] ?_
          refine dB (fun T H => ∃ aA : List aC, ∃ dS : Int, Has T [(0, (.msl 3 lo0p 0 (List.length aA))), (1, (eI a1)), (3, (eI b3)), (4, (.fn (.func cmp4_f) cmp4_a cmp4_c)), (18, (eI bQ)), (20, (eI aR)), (24, (eI dS))] ∧ aO ⟨H0, [lo0p], []⟩ H [(lo0p, 3, List.map aE aA)] ∧ List.length aA = N0 ∧ fW cmp4 rec aA a1 b3 bQ aR dS = some r) ?_ ?_
          · clear hO hN h0
            rintro T H ⟨aA, dS, hT, hO, hN, h0⟩
            refine bB hT ?_
            clear hT
            unfold fW at h0
            refine dB (fun T H => ∃ aA : List aC, Has T [(0, (.msl 3 lo0p 0 (List.length aA))), (3, (eI b3)), (4, (.fn (.func cmp4_f) cmp4_a cmp4_c)), (18, (eI bQ)), (24, (eI dS))] ∧ aO ⟨H0, [lo0p], []⟩ H [(lo0p, 3, List.map aE aA)] ∧ List.length aA = N0 ∧ gF cmp4 rec aA b3 bQ dS = some r) ?_ ?_
            · clear hO hN h0
              rintro T H ⟨aA, hT, hO, hN, h0⟩
              refine bB hT ?_
              clear hT
              unfold gF at h0
              refine aY aG 8 [] [(213, (aL ((decide (bQ < dS)) && (decide (dS < b3)))))] ?_
              refine bL h0 (fun h0 => ?_) (fun h0 => ?_)
              · refine aT aG 6 ?_
                refine bM 5 ?_
                obtain ⟨x3, hx4, h0⟩ := aV h0
                refine oG [(lo0p, 3, List.map aE x3)] 0 (ih lo0p aA bQ dS b3 _ hx4) hO ?_
                intro H hO hl5
                simp only [List.length_map] at hl5
                replace hN := hl5.trans hN
                refine cH ?_
                refine cS (l := [(0, (.msl 3 lo0p 0 (List.length x3)))]) ⟨[(0, (.msl 3 lo0p 0 (List.length aA)))], by kernel_rfl, rfl, ⟨aX.eq (by simp [hl5]), trivial⟩⟩ ?_
                obtain rfl := oI h0
                exact aI (qN (x := (.tup [])) (by kernel_rfl) (aX.refl _) ⟨rfl, hO.ext, hO.at 0 (by kernel_rfl), by simp only [List.length_map]; exact hN.trans hN0⟩)
              refine bN ?_
              obtain rfl := oI h0
              exact aI (qN (x := (.tup [])) (by kernel_rfl) (aX.refl _) ⟨rfl, hO.ext, hO.at 0 (by kernel_rfl), by simp only [List.length_map]; exact hN.trans hN0⟩)
            refine aY aG 8 [] [(199, (aL ((decide (a1 < aR)) && (decide (aR < bQ)))))] ?_
            refine bL h0 (fun h0 => ?_) (fun h0 => ?_)
            · refine aT aG 6 ?_
              refine bM 5 ?_
              obtain ⟨x7, hx8, h0⟩ := aV h0
              refine oG [(lo0p, 3, List.map aE x7)] 0 (ih lo0p aA a1 aR bQ _ hx8) hO ?_
              intro H hO hl9
              simp only [List.length_map] at hl9
              replace hN := hl9.trans hN
              refine cH ?_
              refine cS (l := [(0, (.msl 3 lo0p 0 (List.length x7))), (3, (eI b3)), (4, (.fn (.func cmp4_f) cmp4_a cmp4_c)), (18, (eI bQ)), (24, (eI dS))]) ⟨[(0, (.msl 3 lo0p 0 (List.length aA))), (3, (eI b3)), (4, (.fn (.func cmp4_f) cmp4_a cmp4_c)), (18, (eI bQ)), (24, (eI dS))], by kernel_rfl, rfl, ⟨aX.eq (by simp [hl9]), aX.refl _, aX.refl _, aX.refl _, aX.refl _, trivial⟩⟩ ?_
              exact aI (aH (⟨rfl, _, .eq (by kernel_rfl), hO, hN, h0⟩))
            refine bN ?_
            exact aI (aH (⟨rfl, _, .eq (by kernel_rfl), hO, hN, h0⟩))
          refine aY aG 8 [] [(185, (aL ((decide (aR < m2)) && (decide (m2 < (wR (n19 - aR)))))))] ?_
          refine bL h0 (fun h0 => ?_) (fun h0 => ?_)
          · refine aT aG 6 ?_
            refine bM 5 ?_
            obtain ⟨x11, hx12, h0⟩ := aV h0
            refine oG [(lo0p, 3, List.map aE x11)] 0 (xH lo0p aA aR m2 (wR (n19 - aR)) cmp4_f cmp4_a cmp4_c cmp4 cmp4_h _ hx12) hO ?_
            intro H hO hl13
            simp only [List.length_map] at hl13
            replace hN := hl13.trans hN
            refine cH ?_
            refine cS (l := [(0, (.msl 3 lo0p 0 (List.length x11))), (1, (eI a1)), (3, (eI b3)), (4, (.fn (.func cmp4_f) cmp4_a cmp4_c)), (18, (eI bQ)), (20, (eI aR)), (24, (eI (wR (n19 - aR))))]) ⟨[(0, (.msl 3 lo0p 0 (List.length aA))), (1, (eI a1)), (3, (eI b3)), (4, (.fn (.func cmp4_f) cmp4_a cmp4_c)), (18, (eI bQ)), (20, (eI aR)), (24, (eI (wR (n19 - aR))))], by kernel_rfl, rfl, ⟨aX.eq (by simp [hl13]), aX.refl _, aX.refl _, aX.refl _, aX.refl _, aX.refl _, aX.refl _, trivial⟩⟩ ?_
            exact aI (aH (⟨rfl, _, _, .eq (by kernel_rfl), hO, hN, h0⟩))
          refine bN ?_
          exact aI (aH (⟨rfl, _, _, .eq (by kernel_rfl), hO, hN, h0⟩))
        refine bP 8 ?_
        refine cT [(0, (.msl 3 lo0p 0 (List.length aA))), (1, (eI a1)), (2, (eI m2)), (3, (eI b3)), (4, (.fn (.func cmp4_f) cmp4_a cmp4_c)), (18, (eI bQ)), (19, (eI n19)), (20, (eI aR)), (21, (eI r21)), (22, (eI (wR (n19 - (1 : Int)))))] ?_
        refine cL (fun T H => ∃ aA : List aC, ∃ aR : Int, ∃ r21 : Int, ∃ p22 : Int, Has T [(0, (.msl 3 lo0p 0 (List.length aA))), (1, (eI a1)), (2, (eI m2)), (3, (eI b3)), (4, (.fn (.func cmp4_f) cmp4_a cmp4_c)), (18, (eI bQ)), (19, (eI n19)), (20, (eI aR)), (21, (eI r21)), (22, (eI p22))] ∧ aO ⟨H0, [lo0p], []⟩ H [(lo0p, 3, List.map aE aA)] ∧ List.length aA = N0 ∧ kL cmp4 rec aA a1 m2 b3 bQ n19 aR r21 p22 = some r) ?_ ⟨aA, aR, r21, wR (n19 - (1 : Int)), .eq (by kernel_rfl), hO, hN, h0⟩
        clear hO hN h0
        rintro T H ⟨aA, aR, r21, p22, hT, hO, hN, h0⟩
        refine bB hT ?_
        clear hT
        unfold kL at h0
        obtain ⟨rr0, hl0, h0⟩ := aV h0
        refine cB (by kernel_rfl) (fun (s : List aC × Int × Int) T H => Has T [(0, (.msl 3 lo0p 0 (List.length s.1))), (1, (eI a1)), (2, (eI m2)), (3, (eI b3)), (4, (.fn (.func cmp4_f) cmp4_a cmp4_c)), (18, (eI bQ)), (19, (eI n19)), (20, (eI s.2.1)), (21, (eI s.2.2)), (22, (eI p22))] ∧ aO ⟨H0, [lo0p], []⟩ H [(lo0p, 3, List.map aE s.1)] ∧ List.length s.1 = N0) hl0 ⟨.eq (by kernel_rfl), hO, hN⟩ ?_
        clear hO hN
        rintro k0 s out1 T H ⟨hT, hO, hN⟩ h1 ho0
        obtain ⟨aA, aR, r21⟩ := s
        replace h1 : kN cmp4 rec a1 m2 b3 bQ n19 p22 aA aR r21 = some out1 := h1
        try dsimp only at hT
        refine bB hT ?_
        clear hT
        unfold kN at h1
        refine aQ ?_
        refine aY aG 3 [] [(151, (aL (decide (aR < r21))))] ?_
        refine bL h1 (fun h1 => ?_) (fun h1 => ?_)
        · refine bN ?_
          refine bF [(0, (.msl 3 lo0p 0 (List.length aA))), (1, (eI a1)), (2, (eI m2)), (3, (eI b3)), (4, (.fn (.func cmp4_f) cmp4_a cmp4_c)), (18, (eI bQ)), (19, (eI n19)), (20, (eI aR)), (21, (eI r21)), (22, (eI p22))] ?_
          refine bP 9 ?_
          refine aQ ?_
          refine aT aG 7 ?_
          obtain ⟨c15, h1⟩ := bJ h1
          refine vB [0 ≤ (1 : Int)] ⟨c15, trivial⟩ ?_
          refine bS [] [(23, (eI (wR (Int.fdiv (IntKind.u64.wrap (wR (aR + r21))) (2 ^ (min (Int.toNat (1 : Int)) 64))))))] ?_
          refine aQ ?_
          refine kC (jO [169]) aG 14 ?_
          obtain ⟨c16, h1⟩ := bJ h1
          refine dM 6 [0 ≤ (wR (p22 - (wR (Int.fdiv (IntKind.u64.wrap (wR (aR + r21))) (2 ^ (min (Int.toNat (1 : Int)) 64)))))) ∧ (wR (p22 - (wR (Int.fdiv (IntKind.u64.wrap (wR (aR + r21))) (2 ^ (min (Int.toNat (1 : Int)) 64)))))) < (lN aA)] ⟨c16, trivial⟩ ?_
          refine kS 0 lo0p 3 (0 + Int.toNat (wR (p22 - (wR (Int.fdiv (IntKind.u64.wrap (wR (aR + r21))) (2 ^ (min (Int.toNat (1 : Int)) 64))))))) (aE (gD aA (wR (p22 - (wR (Int.fdiv (IntKind.u64.wrap (wR (aR + r21))) (2 ^ (min (Int.toNat (1 : Int)) 64)))))))) (aE (gD aA (wR (p22 - (wR (Int.fdiv (IntKind.u64.wrap (wR (aR + r21))) (2 ^ (min (Int.toNat (1 : Int)) 64)))))))) (List.map aE aA) hO (cP c16) ?_
          obtain ⟨c17, h1⟩ := bJ h1
          refine dM 10 [0 ≤ (wR (Int.fdiv (IntKind.u64.wrap (wR (aR + r21))) (2 ^ (min (Int.toNat (1 : Int)) 64)))) ∧ (wR (Int.fdiv (IntKind.u64.wrap (wR (aR + r21))) (2 ^ (min (Int.toNat (1 : Int)) 64)))) < (lN aA)] ⟨c17, trivial⟩ ?_
          refine kS 0 lo0p 3 (0 + Int.toNat (wR (Int.fdiv (IntKind.u64.wrap (wR (aR + r21))) (2 ^ (min (Int.toNat (1 : Int)) 64))))) (aE (gD aA (wR (Int.fdiv (IntKind.u64.wrap (wR (aR + r21))) (2 ^ (min (Int.toNat (1 : Int)) 64)))))) (aE (gD aA (wR (Int.fdiv (IntKind.u64.wrap (wR (aR + r21))) (2 ^ (min (Int.toNat (1 : Int)) 64)))))) (List.map aE aA) hO (cP c17) ?_
          obtain ⟨x18, hx19, h1⟩ := aV h1
          refine yF (cmp4_h (gD aA (wR (p22 - (wR (Int.fdiv (IntKind.u64.wrap (wR (aR + r21))) (2 ^ (min (Int.toNat (1 : Int)) 64))))))) (gD aA (wR (Int.fdiv (IntKind.u64.wrap (wR (aR + r21))) (2 ^ (min (Int.toNat (1 : Int)) 64))))) _ hx19) hO ?_
          intro H hO
          refine qF ?_
          refine bS [] [(171, (aL (!(decide (x18 < (0 : Int))))))] ?_
          refine bL h1 (fun h1 => ?_) (fun h1 => ?_)
          · refine aT aG 3 ?_
            refine bC ?_
            exact aI (aU (aH (⟨rfl, _, (oI h1).symm, .eq (by kernel_rfl), hO, hN⟩)))
          refine aT aG 2 ?_
          refine bC ?_
          exact aI (aU (aH (⟨rfl, _, (oI h1).symm, .eq (by kernel_rfl), hO, hN⟩)))
        refine dU 8 ?_
        obtain rfl := oI h1
        obtain rfl : _ = rr0 := ho0
        replace h0 : fV cmp4 rec aA a1 m2 b3 bQ n19 aR = some r := h0
        exact aI (aZ (aZ (bO (aH (⟨rfl, _, _, .eq (by kernel_rfl), hO, hN, h0⟩)))))
      refine aY aG 3 [] [(140, (aL (decide ((wR (Int.fdiv (IntKind.u64.wrap (wR (a1 + b3))) (2 ^ (min (Int.toNat (1 : Int)) 64)))) < m2))))] ?_
      refine bL h0 (fun h0 => ?_) (fun h0 => ?_)
      · refine bV aG 4 [(0, (.msl 3 lo0p 0 (List.length aA))), (1, (eI a1)), (2, (eI m2)), (3, (eI b3)), (4, (.fn (.func cmp4_f) cmp4_a cmp4_c)), (18, (eI (wR (Int.fdiv (IntKind.u64.wrap (wR (a1 + b3))) (2 ^ (min (Int.toNat (1 : Int)) 64)))))), (19, (eI (wR ((wR (Int.fdiv (IntKind.u64.wrap (wR (a1 + b3))) (2 ^ (min (Int.toNat (1 : Int)) 64)))) + m2)))), (20, (eI (wR ((wR ((wR (Int.fdiv (IntKind.u64.wrap (wR (a1 + b3))) (2 ^ (min (Int.toNat (1 : Int)) 64)))) + m2)) - b3))))] ?_
        refine aT aG 2 ?_
        refine bC ?_
        exact aI (aH (⟨rfl, _, _, _, _, _, .eq (by kernel_rfl), hO, hN, h0⟩))
      refine bV aG 2 [(0, (.msl 3 lo0p 0 (List.length aA))), (1, (eI a1)), (2, (eI m2)), (3, (eI b3)), (4, (.fn (.func cmp4_f) cmp4_a cmp4_c)), (18, (eI (wR (Int.fdiv (IntKind.u64.wrap (wR (a1 + b3))) (2 ^ (min (Int.toNat (1 : Int)) 64)))))), (19, (eI (wR ((wR (Int.fdiv (IntKind.u64.wrap (wR (a1 + b3))) (2 ^ (min (Int.toNat (1 : Int)) 64)))) + m2)))), (20, (eI a1))] ?_
      refine aT aG 2 ?_
      refine bC ?_
      exact aI (aH (⟨rfl, _, _, _, _, _, .eq (by kernel_rfl), hO, hN, h0⟩))
    refine aY aG 4 [] [(80, (aL (decide ((wR (b3 - m2)) = (1 : Int)))))] ?_
    refine bL h0 (fun h0 => ?_) (fun h0 => ?_)
    · refine aY aG 2 [1, 3, 80] [(14, (eI a1))] ?_
      refine aY aG 2 [] [(15, (eI m2))] ?_
      refine dB (fun T H => ∃ aA : List aC, ∃ i14 : Int, Has T [(0, (.msl 3 lo0p 0 (List.length aA))), (2, (eI m2)), (14, (eI i14))] ∧ aO ⟨H0, [lo0p], []⟩ H [(lo0p, 3, List.map aE aA)] ∧ List.length aA = N0 ∧ fU cmp4 rec aA m2 i14 = some r) ?_ ?_
      · clear hO hN h0
        rintro T H ⟨aA, i14, hT, hO, hN, h0⟩
        refine bB hT ?_
        clear hT
        unfold fU at h0
        refine dB (fun T H => ∃ aA : List aC, Has T [(0, (.msl 3 lo0p 0 (List.length aA)))] ∧ aO ⟨H0, [lo0p], []⟩ H [(lo0p, 3, List.map aE aA)] ∧ List.length aA = N0 ∧ gM cmp4 rec aA = some r) ?_ ?_
        · clear hO hN h0
          rintro T H ⟨aA, hT, hO, hN, h0⟩
          refine bB hT ?_
          clear hT
          unfold gM at h0
          refine bH ?_
          obtain rfl := oI h0
          exact aI (bA (pY (x := (.tup [])) (by kernel_rfl) (aX.refl _) ⟨rfl, hO.ext, hO.at 0 (by kernel_rfl), by simp only [List.length_map]; exact hN.trans hN0⟩))
        refine aY aG 2 [2] [(17, (eI m2))] ?_
        refine bP 6 ?_
        refine cT [(0, (.msl 3 lo0p 0 (List.length aA))), (14, (eI i14)), (17, (eI m2))] ?_
        refine cL (fun T H => ∃ aA : List aC, ∃ k17 : Int, Has T [(0, (.msl 3 lo0p 0 (List.length aA))), (14, (eI i14)), (17, (eI k17))] ∧ aO ⟨H0, [lo0p], []⟩ H [(lo0p, 3, List.map aE aA)] ∧ List.length aA = N0 ∧ jQ cmp4 rec aA i14 k17 = some r) ?_ ⟨aA, m2, .eq (by kernel_rfl), hO, hN, h0⟩
        clear hO hN h0
        rintro T H ⟨aA, k17, hT, hO, hN, h0⟩
        refine bB hT ?_
        clear hT
        unfold jQ at h0
        obtain ⟨rr0, hl0, h0⟩ := aV h0
        refine cB (by kernel_rfl) (fun (s : List aC × Int) T H => Has T [(0, (.msl 3 lo0p 0 (List.length s.1))), (14, (eI i14)), (17, (eI s.2))] ∧ aO ⟨H0, [lo0p], []⟩ H [(lo0p, 3, List.map aE s.1)] ∧ List.length s.1 = N0) hl0 ⟨.eq (by kernel_rfl), hO, hN⟩ ?_
        clear hO hN
        rintro k0 s out1 T H ⟨hT, hO, hN⟩ h1 ho0
        obtain ⟨aA, k17⟩ := s
        replace h1 : jY cmp4 rec i14 aA k17 = some out1 := h1
        try dsimp only at hT
        refine bB hT ?_
        clear hT
        unfold jY at h1
        refine aQ ?_
        refine aY aG 3 [] [(110, (aL (decide (i14 < k17))))] ?_
        refine bL h1 (fun h1 => ?_) (fun h1 => ?_)
        · refine bN ?_
          refine bF [(0, (.msl 3 lo0p 0 (List.length aA))), (14, (eI i14)), (17, (eI k17))] ?_
          refine aQ ?_
          refine bP 7 ?_
          refine kC (jO []) aG 18 ?_
          obtain ⟨c25, h1⟩ := bJ h1
          refine dM 9 [0 ≤ (wR (k17 - (1 : Int))) ∧ (wR (k17 - (1 : Int))) < (lN aA)] ⟨c25, trivial⟩ ?_
          refine kS 0 lo0p 3 (0 + Int.toNat (wR (k17 - (1 : Int)))) (aE (gD aA (wR (k17 - (1 : Int))))) (aE (gD aA (wR (k17 - (1 : Int))))) (List.map aE aA) hO (cP c25) ?_
          obtain ⟨c26, h1⟩ := bJ h1
          refine dM 13 [0 ≤ k17 ∧ k17 < (lN aA)] ⟨c26, trivial⟩ ?_
          refine kS 0 lo0p 3 (0 + Int.toNat k17) (aE (gD aA k17)) (aE (gD aA k17)) (List.map aE aA) hO (cP c26) ?_
          obtain ⟨c27, h1⟩ := bJ h1
          refine dM 15 [0 ≤ k17 ∧ k17 < (lN aA)] ⟨c27, trivial⟩ ?_
          refine rR 0 lo0p 3 (0 + Int.toNat k17) (aE (gD aA k17)) (aE (gD aA (wR (k17 - (1 : Int))))) (List.map aE aA) [(lo0p, 3, List.map aE (List.set aA (Int.toNat k17) (gD aA (wR (k17 - (1 : Int))))))] hO (cP c27) (by simp only [List.set, nP]) ?_
          intro H hO
          replace hN : List.length (List.set aA (Int.toNat k17) (gD aA (wR (k17 - (1 : Int))))) = N0 := by simpa using hN
          obtain ⟨c28, h1⟩ := bJ h1
          refine dM 17 [0 ≤ (wR (k17 - (1 : Int))) ∧ (wR (k17 - (1 : Int))) < (lN aA)] ⟨c28, trivial⟩ ?_
          refine rR 0 lo0p 3 (0 + Int.toNat (wR (k17 - (1 : Int)))) (aE (gD (List.set aA (Int.toNat k17) (gD aA (wR (k17 - (1 : Int))))) (wR (k17 - (1 : Int))))) (aE (gD aA k17)) (List.map aE (List.set aA (Int.toNat k17) (gD aA (wR (k17 - (1 : Int)))))) [(lo0p, 3, List.map aE (List.set (List.set aA (Int.toNat k17) (gD aA (wR (k17 - (1 : Int))))) (Int.toNat (wR (k17 - (1 : Int)))) (gD aA k17)))] hO (xD c28 (by simp [])) (by simp only [List.set, nP]) ?_
          intro H hO
          replace hN : List.length (List.set (List.set aA (Int.toNat k17) (gD aA (wR (k17 - (1 : Int))))) (Int.toNat (wR (k17 - (1 : Int)))) (gD aA k17)) = N0 := by simpa using hN
          refine xP (by kernel_rfl) ?_
          refine cS (l := [(0, (.msl 3 lo0p 0 (List.length (List.set (List.set aA (Int.toNat k17) (gD aA (wR (k17 - (1 : Int))))) (Int.toNat (wR (k17 - (1 : Int)))) (gD aA k17))))), (14, (eI i14)), (17, (eI k17))]) ⟨[(0, (.msl 3 lo0p 0 (List.length aA))), (14, (eI i14)), (17, (eI k17))], by kernel_rfl, rfl, ⟨aX.eq (by simp []), aX.refl _, aX.refl _, trivial⟩⟩ ?_
          refine aI (aU (aH (?_)))
          refine aT aG 3 ?_
          refine bC ?_
          exact aI (aH (⟨rfl, _, (oI h1).symm, .eq (by kernel_rfl), hO, hN⟩))
        refine dU 6 ?_
        obtain rfl := oI h1
        obtain rfl : _ = rr0 := ho0
        replace h0 : gM cmp4 rec aA = some r := h0
        exact aI (aZ (aZ (bO (aH (⟨rfl, _, .eq (by kernel_rfl), hO, hN, h0⟩)))))
      refine bP 4 ?_
      refine cT [(0, (.msl 3 lo0p 0 (List.length aA))), (2, (eI m2)), (4, (.fn (.func cmp4_f) cmp4_a cmp4_c)), (14, (eI a1)), (15, (eI m2))] ?_
      refine cL (fun T H => ∃ aA : List aC, ∃ i14 : Int, ∃ j15 : Int, Has T [(0, (.msl 3 lo0p 0 (List.length aA))), (2, (eI m2)), (4, (.fn (.func cmp4_f) cmp4_a cmp4_c)), (14, (eI i14)), (15, (eI j15))] ∧ aO ⟨H0, [lo0p], []⟩ H [(lo0p, 3, List.map aE aA)] ∧ List.length aA = N0 ∧ kG cmp4 rec aA m2 i14 j15 = some r) ?_ ⟨aA, a1, m2, .eq (by kernel_rfl), hO, hN, h0⟩
      clear hO hN h0
      rintro T H ⟨aA, i14, j15, hT, hO, hN, h0⟩
      refine bB hT ?_
      clear hT
      unfold kG at h0
      obtain ⟨rr0, hl0, h0⟩ := aV h0
      refine cB (by kernel_rfl) (fun (s : List aC × Int × Int) T H => Has T [(0, (.msl 3 lo0p 0 (List.length s.1))), (2, (eI m2)), (4, (.fn (.func cmp4_f) cmp4_a cmp4_c)), (14, (eI s.2.1)), (15, (eI s.2.2))] ∧ aO ⟨H0, [lo0p], []⟩ H [(lo0p, 3, List.map aE s.1)] ∧ List.length s.1 = N0) hl0 ⟨.eq (by kernel_rfl), hO, hN⟩ ?_
      clear hO hN
      rintro k0 s out1 T H ⟨hT, hO, hN⟩ h1 ho0
      obtain ⟨aA, i14, j15⟩ := s
      replace h1 : jT cmp4 rec m2 aA i14 j15 = some out1 := h1
      try dsimp only at hT
      refine bB hT ?_
      clear hT
      unfold jT at h1
      refine aQ ?_
      refine aY aG 3 [] [(85, (aL (decide (i14 < j15))))] ?_
      refine bL h1 (fun h1 => ?_) (fun h1 => ?_)
      · refine bN ?_
        refine bF [(0, (.msl 3 lo0p 0 (List.length aA))), (2, (eI m2)), (4, (.fn (.func cmp4_f) cmp4_a cmp4_c)), (14, (eI i14)), (15, (eI j15))] ?_
        refine bP 5 ?_
        refine aQ ?_
        refine aT aG 7 ?_
        obtain ⟨c30, h1⟩ := bJ h1
        refine vB [0 ≤ (1 : Int)] ⟨c30, trivial⟩ ?_
        refine bS [] [(16, (eI (wR (Int.fdiv (IntKind.u64.wrap (wR (i14 + j15))) (2 ^ (min (Int.toNat (1 : Int)) 64))))))] ?_
        refine aQ ?_
        refine kC (jO [101]) aG 12 ?_
        obtain ⟨c31, h1⟩ := bJ h1
        refine dM 4 [0 ≤ m2 ∧ m2 < (lN aA)] ⟨c31, trivial⟩ ?_
        refine kS 0 lo0p 3 (0 + Int.toNat m2) (aE (gD aA m2)) (aE (gD aA m2)) (List.map aE aA) hO (cP c31) ?_
        obtain ⟨c32, h1⟩ := bJ h1
        refine dM 8 [0 ≤ (wR (Int.fdiv (IntKind.u64.wrap (wR (i14 + j15))) (2 ^ (min (Int.toNat (1 : Int)) 64)))) ∧ (wR (Int.fdiv (IntKind.u64.wrap (wR (i14 + j15))) (2 ^ (min (Int.toNat (1 : Int)) 64)))) < (lN aA)] ⟨c32, trivial⟩ ?_
        refine kS 0 lo0p 3 (0 + Int.toNat (wR (Int.fdiv (IntKind.u64.wrap (wR (i14 + j15))) (2 ^ (min (Int.toNat (1 : Int)) 64))))) (aE (gD aA (wR (Int.fdiv (IntKind.u64.wrap (wR (i14 + j15))) (2 ^ (min (Int.toNat (1 : Int)) 64)))))) (aE (gD aA (wR (Int.fdiv (IntKind.u64.wrap (wR (i14 + j15))) (2 ^ (min (Int.toNat (1 : Int)) 64)))))) (List.map aE aA) hO (cP c32) ?_
        obtain ⟨x33, hx34, h1⟩ := aV h1
        refine yF (cmp4_h (gD aA m2) (gD aA (wR (Int.fdiv (IntKind.u64.wrap (wR (i14 + j15))) (2 ^ (min (Int.toNat (1 : Int)) 64))))) _ hx34) hO ?_
        intro H hO
        refine qF ?_
        refine bS [] [(103, (aL (!(decide (x33 < (0 : Int))))))] ?_
        refine bL h1 (fun h1 => ?_) (fun h1 => ?_)
        · refine aT aG 3 ?_
          refine bC ?_
          exact aI (aU (aH (⟨rfl, _, (oI h1).symm, .eq (by kernel_rfl), hO, hN⟩)))
        refine aT aG 2 ?_
        refine bC ?_
        exact aI (aU (aH (⟨rfl, _, (oI h1).symm, .eq (by kernel_rfl), hO, hN⟩)))
      refine dU 4 ?_
      obtain rfl := oI h1
      obtain rfl : _ = rr0 := ho0
      replace h0 : fU cmp4 rec aA m2 i14 = some r := h0
      exact aI (aZ (aZ (bO (aH (⟨rfl, _, _, .eq (by kernel_rfl), hO, hN, h0⟩)))))
    refine bN ?_
    exact aI (aH (⟨rfl, _, .eq (by kernel_rfl), hO, hN, h0⟩))
  refine aY aG 4 [] [(28, (aL (decide ((wR (m2 - a1)) = (1 : Int)))))] ?_
  refine bL h0 (fun h0 => ?_) (fun h0 => ?_)
  · refine aY aG 2 [2, 28] [(10, (eI m2))] ?_
    refine aY aG 2 [3] [(11, (eI b3))] ?_
    refine dB (fun T H => ∃ aA : List aC, ∃ i10 : Int, Has T [(0, (.msl 3 lo0p 0 (List.length aA))), (1, (eI a1)), (10, (eI i10))] ∧ aO ⟨H0, [lo0p], []⟩ H [(lo0p, 3, List.map aE aA)] ∧ List.length aA = N0 ∧ fS cmp4 rec aA a1 i10 = some r) ?_ ?_
    · clear hO hN h0
      rintro T H ⟨aA, i10, hT, hO, hN, h0⟩
      refine bB hT ?_
      clear hT
      unfold fS at h0
      refine dB (fun T H => ∃ aA : List aC, Has T [(0, (.msl 3 lo0p 0 (List.length aA)))] ∧ aO ⟨H0, [lo0p], []⟩ H [(lo0p, 3, List.map aE aA)] ∧ List.length aA = N0 ∧ fP cmp4 rec aA = some r) ?_ ?_
      · clear hO hN h0
        rintro T H ⟨aA, hT, hO, hN, h0⟩
        refine bB hT ?_
        clear hT
        unfold fP at h0
        refine bH ?_
        obtain rfl := oI h0
        exact aI (bA (pY (x := (.tup [])) (by kernel_rfl) (aX.refl _) ⟨rfl, hO.ext, hO.at 0 (by kernel_rfl), by simp only [List.length_map]; exact hN.trans hN0⟩))
      refine aY aG 2 [1] [(13, (eI a1))] ?_
      refine bP 2 ?_
      refine cT [(0, (.msl 3 lo0p 0 (List.length aA))), (10, (eI i10)), (13, (eI a1))] ?_
      refine cL (fun T H => ∃ aA : List aC, ∃ k13 : Int, Has T [(0, (.msl 3 lo0p 0 (List.length aA))), (10, (eI i10)), (13, (eI k13))] ∧ aO ⟨H0, [lo0p], []⟩ H [(lo0p, 3, List.map aE aA)] ∧ List.length aA = N0 ∧ kI cmp4 rec aA i10 k13 = some r) ?_ ⟨aA, a1, .eq (by kernel_rfl), hO, hN, h0⟩
      clear hO hN h0
      rintro T H ⟨aA, k13, hT, hO, hN, h0⟩
      refine bB hT ?_
      clear hT
      unfold kI at h0
      obtain ⟨rr0, hl0, h0⟩ := aV h0
      refine cB (by kernel_rfl) (fun (s : List aC × Int) T H => Has T [(0, (.msl 3 lo0p 0 (List.length s.1))), (10, (eI i10)), (13, (eI s.2))] ∧ aO ⟨H0, [lo0p], []⟩ H [(lo0p, 3, List.map aE s.1)] ∧ List.length s.1 = N0) hl0 ⟨.eq (by kernel_rfl), hO, hN⟩ ?_
      clear hO hN
      rintro k0 s out1 T H ⟨hT, hO, hN⟩ h1 ho0
      obtain ⟨aA, k13⟩ := s
      replace h1 : kK cmp4 rec i10 aA k13 = some out1 := h1
      try dsimp only at hT
      refine bB hT ?_
      clear hT
      unfold kK at h1
      refine aQ ?_
      refine aY aG 4 [] [(58, (aL (decide (k13 < (wR (i10 - (1 : Int)))))))] ?_
      refine bL h1 (fun h1 => ?_) (fun h1 => ?_)
      · refine bN ?_
        refine bF [(0, (.msl 3 lo0p 0 (List.length aA))), (10, (eI i10)), (13, (eI k13))] ?_
        refine aQ ?_
        refine bP 3 ?_
        refine kC (jO []) aG 18 ?_
        obtain ⟨c39, h1⟩ := bJ h1
        refine dM 9 [0 ≤ (wR (k13 + (1 : Int))) ∧ (wR (k13 + (1 : Int))) < (lN aA)] ⟨c39, trivial⟩ ?_
        refine kS 0 lo0p 3 (0 + Int.toNat (wR (k13 + (1 : Int)))) (aE (gD aA (wR (k13 + (1 : Int))))) (aE (gD aA (wR (k13 + (1 : Int))))) (List.map aE aA) hO (cP c39) ?_
        obtain ⟨c40, h1⟩ := bJ h1
        refine dM 13 [0 ≤ k13 ∧ k13 < (lN aA)] ⟨c40, trivial⟩ ?_
        refine kS 0 lo0p 3 (0 + Int.toNat k13) (aE (gD aA k13)) (aE (gD aA k13)) (List.map aE aA) hO (cP c40) ?_
        obtain ⟨c41, h1⟩ := bJ h1
        refine dM 15 [0 ≤ k13 ∧ k13 < (lN aA)] ⟨c41, trivial⟩ ?_
        refine rR 0 lo0p 3 (0 + Int.toNat k13) (aE (gD aA k13)) (aE (gD aA (wR (k13 + (1 : Int))))) (List.map aE aA) [(lo0p, 3, List.map aE (List.set aA (Int.toNat k13) (gD aA (wR (k13 + (1 : Int))))))] hO (cP c41) (by simp only [List.set, nP]) ?_
        intro H hO
        replace hN : List.length (List.set aA (Int.toNat k13) (gD aA (wR (k13 + (1 : Int))))) = N0 := by simpa using hN
        obtain ⟨c42, h1⟩ := bJ h1
        refine dM 17 [0 ≤ (wR (k13 + (1 : Int))) ∧ (wR (k13 + (1 : Int))) < (lN aA)] ⟨c42, trivial⟩ ?_
        refine rR 0 lo0p 3 (0 + Int.toNat (wR (k13 + (1 : Int)))) (aE (gD (List.set aA (Int.toNat k13) (gD aA (wR (k13 + (1 : Int))))) (wR (k13 + (1 : Int))))) (aE (gD aA k13)) (List.map aE (List.set aA (Int.toNat k13) (gD aA (wR (k13 + (1 : Int)))))) [(lo0p, 3, List.map aE (List.set (List.set aA (Int.toNat k13) (gD aA (wR (k13 + (1 : Int))))) (Int.toNat (wR (k13 + (1 : Int)))) (gD aA k13)))] hO (xD c42 (by simp [])) (by simp only [List.set, nP]) ?_
        intro H hO
        replace hN : List.length (List.set (List.set aA (Int.toNat k13) (gD aA (wR (k13 + (1 : Int))))) (Int.toNat (wR (k13 + (1 : Int)))) (gD aA k13)) = N0 := by simpa using hN
        refine xP (by kernel_rfl) ?_
        refine cS (l := [(0, (.msl 3 lo0p 0 (List.length (List.set (List.set aA (Int.toNat k13) (gD aA (wR (k13 + (1 : Int))))) (Int.toNat (wR (k13 + (1 : Int)))) (gD aA k13))))), (10, (eI i10)), (13, (eI k13))]) ⟨[(0, (.msl 3 lo0p 0 (List.length aA))), (10, (eI i10)), (13, (eI k13))], by kernel_rfl, rfl, ⟨aX.eq (by simp []), aX.refl _, aX.refl _, trivial⟩⟩ ?_
        refine aI (aU (aH (?_)))
        refine aT aG 3 ?_
        refine bC ?_
        exact aI (aH (⟨rfl, _, (oI h1).symm, .eq (by kernel_rfl), hO, hN⟩))
      refine dU 2 ?_
      obtain rfl := oI h1
      obtain rfl : _ = rr0 := ho0
      replace h0 : fP cmp4 rec aA = some r := h0
      exact aI (aZ (aZ (bO (aH (⟨rfl, _, .eq (by kernel_rfl), hO, hN, h0⟩)))))
    refine bP 0 ?_
    refine cT [(0, (.msl 3 lo0p 0 (List.length aA))), (1, (eI a1)), (4, (.fn (.func cmp4_f) cmp4_a cmp4_c)), (10, (eI m2)), (11, (eI b3))] ?_
    refine cL (fun T H => ∃ aA : List aC, ∃ i10 : Int, ∃ j11 : Int, Has T [(0, (.msl 3 lo0p 0 (List.length aA))), (1, (eI a1)), (4, (.fn (.func cmp4_f) cmp4_a cmp4_c)), (10, (eI i10)), (11, (eI j11))] ∧ aO ⟨H0, [lo0p], []⟩ H [(lo0p, 3, List.map aE aA)] ∧ List.length aA = N0 ∧ jR cmp4 rec aA a1 i10 j11 = some r) ?_ ⟨aA, m2, b3, .eq (by kernel_rfl), hO, hN, h0⟩
    clear hO hN h0
    rintro T H ⟨aA, i10, j11, hT, hO, hN, h0⟩
    refine bB hT ?_
    clear hT
    unfold jR at h0
    obtain ⟨rr0, hl0, h0⟩ := aV h0
    refine cB (by kernel_rfl) (fun (s : List aC × Int × Int) T H => Has T [(0, (.msl 3 lo0p 0 (List.length s.1))), (1, (eI a1)), (4, (.fn (.func cmp4_f) cmp4_a cmp4_c)), (10, (eI s.2.1)), (11, (eI s.2.2))] ∧ aO ⟨H0, [lo0p], []⟩ H [(lo0p, 3, List.map aE s.1)] ∧ List.length s.1 = N0) hl0 ⟨.eq (by kernel_rfl), hO, hN⟩ ?_
    clear hO hN
    rintro k0 s out1 T H ⟨hT, hO, hN⟩ h1 ho0
    obtain ⟨aA, i10, j11⟩ := s
    replace h1 : kF cmp4 rec a1 aA i10 j11 = some out1 := h1
    try dsimp only at hT
    refine bB hT ?_
    clear hT
    unfold kF at h1
    refine aQ ?_
    refine aY aG 3 [] [(33, (aL (decide (i10 < j11))))] ?_
    refine bL h1 (fun h1 => ?_) (fun h1 => ?_)
    · refine bN ?_
      refine bF [(0, (.msl 3 lo0p 0 (List.length aA))), (1, (eI a1)), (4, (.fn (.func cmp4_f) cmp4_a cmp4_c)), (10, (eI i10)), (11, (eI j11))] ?_
      refine bP 1 ?_
      refine aQ ?_
      refine aT aG 7 ?_
      obtain ⟨c44, h1⟩ := bJ h1
      refine vB [0 ≤ (1 : Int)] ⟨c44, trivial⟩ ?_
      refine bS [] [(12, (eI (wR (Int.fdiv (IntKind.u64.wrap (wR (i10 + j11))) (2 ^ (min (Int.toNat (1 : Int)) 64))))))] ?_
      refine aQ ?_
      refine kC (jO [49]) aG 11 ?_
      obtain ⟨c45, h1⟩ := bJ h1
      refine dM 4 [0 ≤ (wR (Int.fdiv (IntKind.u64.wrap (wR (i10 + j11))) (2 ^ (min (Int.toNat (1 : Int)) 64)))) ∧ (wR (Int.fdiv (IntKind.u64.wrap (wR (i10 + j11))) (2 ^ (min (Int.toNat (1 : Int)) 64)))) < (lN aA)] ⟨c45, trivial⟩ ?_
      refine kS 0 lo0p 3 (0 + Int.toNat (wR (Int.fdiv (IntKind.u64.wrap (wR (i10 + j11))) (2 ^ (min (Int.toNat (1 : Int)) 64))))) (aE (gD aA (wR (Int.fdiv (IntKind.u64.wrap (wR (i10 + j11))) (2 ^ (min (Int.toNat (1 : Int)) 64)))))) (aE (gD aA (wR (Int.fdiv (IntKind.u64.wrap (wR (i10 + j11))) (2 ^ (min (Int.toNat (1 : Int)) 64)))))) (List.map aE aA) hO (cP c45) ?_
      obtain ⟨c46, h1⟩ := bJ h1
      refine dM 8 [0 ≤ a1 ∧ a1 < (lN aA)] ⟨c46, trivial⟩ ?_
      refine kS 0 lo0p 3 (0 + Int.toNat a1) (aE (gD aA a1)) (aE (gD aA a1)) (List.map aE aA) hO (cP c46) ?_
      obtain ⟨x47, hx48, h1⟩ := aV h1
      refine yF (cmp4_h (gD aA (wR (Int.fdiv (IntKind.u64.wrap (wR (i10 + j11))) (2 ^ (min (Int.toNat (1 : Int)) 64))))) (gD aA a1) _ hx48) hO ?_
      intro H hO
      refine qF ?_
      refine bS [] [(50, (aL (decide (x47 < (0 : Int)))))] ?_
      refine bL h1 (fun h1 => ?_) (fun h1 => ?_)
      · refine aT aG 3 ?_
        refine bC ?_
        exact aI (aU (aH (⟨rfl, _, (oI h1).symm, .eq (by kernel_rfl), hO, hN⟩)))
      refine aT aG 2 ?_
      refine bC ?_
      exact aI (aU (aH (⟨rfl, _, (oI h1).symm, .eq (by kernel_rfl), hO, hN⟩)))
    refine dU 0 ?_
    obtain rfl := oI h1
    obtain rfl : _ = rr0 := ho0
    replace h0 : fS cmp4 rec aA a1 i10 = some r := h0
    exact aI (aZ (aZ (bO (aH (⟨rfl, _, _, .eq (by kernel_rfl), hO, hN, h0⟩)))))
  refine bN ?_
  exact aI (aH (⟨rfl, _, .eq (by kernel_rfl), hO, hN, h0⟩))

theorem nN (cmp4_f : Nat) (cmp4_a cmp4_c : List V) (cmp4 : aC → aC → Option Int) (cmp4_h : ∀ a0 a1 r, cmp4 a0 a1 = some r → bT Try.prog cmp4_f (cmp4_a ++ [(aE a0), (aE a1)] ++ cmp4_c) (eI r)) : ∀ (k : Nat) (lo0p : Nat) (aA : (List aC)) (a1 : Int) (m2 : Int) (b3 : Int) (r : List aC), gL cmp4 k aA a1 m2 b3 = some r → kY Try.prog 128 lo0p 3 (List.map aE aA) (List.map aE r) [(.msl 3 lo0p 0 (List.length aA)), (eI a1), (eI m2), (eI b3), (.fn (.func cmp4_f) cmp4_a cmp4_c)] (.tup [])
  | 0, _, _, _, _, _, _, h => by cases h
  | k + 1, lo0p, aA, a1, m2, b3, r, h => tC cmp4_f cmp4_a cmp4_c cmp4 cmp4_h _ (nN cmp4_f cmp4_a cmp4_c cmp4 cmp4_h k) lo0p aA a1 m2 b3 r h

theorem oL (lo0p : Nat) (aA : (List aC)) (a1 : Int) (m2 : Int) (b3 : Int) (cmp4_f : Nat) (cmp4_a cmp4_c : List V) (cmp4 : aC → aC → Option Int) (cmp4_h : ∀ a0 a1 r, cmp4 a0 a1 = some r → bT Try.prog cmp4_f (cmp4_a ++ [(aE a0), (aE a1)] ++ cmp4_c) (eI r)) (r : List aC) (h0 : eF aA a1 m2 b3 cmp4 = some r) : kY Try.prog 128 lo0p 3 (List.map aE aA) (List.map aE r) [(.msl 3 lo0p 0 (List.length aA)), (eI a1), (eI m2), (eI b3), (.fn (.func cmp4_f) cmp4_a cmp4_c)] (.tup []) := by
  obtain ⟨k, hk⟩ := FO h0
  exact nN cmp4_f cmp4_a cmp4_c cmp4 cmp4_h k lo0p aA a1 m2 b3 r hk

theorem xE (lo0p : Nat) (aA : (List aC)) (n1 : Int) (cmp2_f : Nat) (cmp2_a cmp2_c : List V) (cmp2 : aC → aC → Option Int) (cmp2_h : ∀ a0 a1 r, cmp2 a0 a1 = some r → bT Try.prog cmp2_f (cmp2_a ++ [(aE a0), (aE a1)] ++ cmp2_c) (eI r)) (r : List aC) (h0 : eZ aA n1 cmp2 = some r) : kY Try.prog 99 lo0p 3 (List.map aE aA) (List.map aE r) [(.msl 3 lo0p 0 (List.length aA)), (eI n1), (.fn (.func cmp2_f) cmp2_a cmp2_c)] (.tup []) := by
  intro H0 hl0
  refine cI Try.func99 ?_
  have hO := aO.pZ hl0
  clear hl0
  obtain ⟨N0, hN0⟩ : ∃ n, n = List.length aA := ⟨_, rfl⟩
  have hN : List.length aA = N0 := hN0.symm
  unfold eZ at h0
  refine aY aG 1 [] [(6, (eI (20 : Int)))] ?_
  refine aY aG 3 [] [(7, (eI (0 : Int))), (8, (eI (20 : Int)))] ?_
  refine dB (fun T H => ∃ aA : List aC, ∃ aP : Int, ∃ a7 : Int, Has T [(0, (.msl 3 lo0p 0 (List.length aA))), (1, (eI n1)), (2, (.fn (.func cmp2_f) cmp2_a cmp2_c)), (6, (eI aP)), (7, (eI a7))] ∧ aO ⟨H0, [lo0p], []⟩ H [(lo0p, 3, List.map aE aA)] ∧ List.length aA = N0 ∧ eR cmp2 aA n1 aP a7 = some r) ?_ ?_
  · clear hO hN h0
    rintro T H ⟨aA, aP, a7, hT, hO, hN, h0⟩
    refine bB hT ?_
    clear hT
    unfold eR at h0
    refine aQ ?_
    refine aT aG 5 ?_
    refine bM 4 ?_
    obtain ⟨x1, hx2, h0⟩ := aV h0
    refine oG [(lo0p, 3, List.map aE x1)] 0 (mY lo0p aA a7 n1 cmp2_f cmp2_a cmp2_c cmp2 cmp2_h _ hx2) hO ?_
    intro H hO hl3
    simp only [List.length_map] at hl3
    replace hN := hl3.trans hN
    refine cH ?_
    refine cS (l := [(0, (.msl 3 lo0p 0 (List.length x1))), (1, (eI n1)), (2, (.fn (.func cmp2_f) cmp2_a cmp2_c)), (6, (eI aP))]) ⟨[(0, (.msl 3 lo0p 0 (List.length aA))), (1, (eI n1)), (2, (.fn (.func cmp2_f) cmp2_a cmp2_c)), (6, (eI aP))], by kernel_rfl, rfl, ⟨aX.eq (by simp [hl3]), aX.refl _, aX.refl _, aX.refl _, trivial⟩⟩ ?_
    refine aI (aH (?_))
    refine bP 2 ?_
    refine cT [(0, (.msl 3 lo0p 0 (List.length x1))), (1, (eI n1)), (2, (.fn (.func cmp2_f) cmp2_a cmp2_c)), (6, (eI aP))] ?_
    refine cL (fun T H => ∃ aA : List aC, ∃ aP : Int, Has T [(0, (.msl 3 lo0p 0 (List.length aA))), (1, (eI n1)), (2, (.fn (.func cmp2_f) cmp2_a cmp2_c)), (6, (eI aP))] ∧ aO ⟨H0, [lo0p], []⟩ H [(lo0p, 3, List.map aE aA)] ∧ List.length aA = N0 ∧ gW cmp2 aA n1 aP = some r) ?_ ⟨x1, aP, .eq (by kernel_rfl), hO, hN, h0⟩
    clear hO hN h0
    rintro T H ⟨aA, aP, hT, hO, hN, h0⟩
    refine bB hT ?_
    clear hT
    unfold gW at h0
    obtain ⟨rr0, hl0, h0⟩ := aV h0
    refine cB (by kernel_rfl) (fun (s : List aC × Int) T H => Has T [(0, (.msl 3 lo0p 0 (List.length s.1))), (1, (eI n1)), (2, (.fn (.func cmp2_f) cmp2_a cmp2_c)), (6, (eI s.2))] ∧ aO ⟨H0, [lo0p], []⟩ H [(lo0p, 3, List.map aE s.1)] ∧ List.length s.1 = N0) hl0 ⟨.eq (by kernel_rfl), hO, hN⟩ ?_
    clear hO hN
    rintro k0 s out1 T H ⟨hT, hO, hN⟩ h1 ho0
    obtain ⟨aA, aP⟩ := s
    replace h1 : gZ cmp2 n1 aA aP = some out1 := h1
    try dsimp only at hT
    refine bB hT ?_
    clear hT
    unfold gZ at h1
    refine aQ ?_
    refine aY aG 3 [] [(30, (aL (decide (aP < n1))))] ?_
    refine bL h1 (fun h1 => ?_) (fun h1 => ?_)
    · refine bN ?_
      refine bF [(0, (.msl 3 lo0p 0 (List.length aA))), (1, (eI n1)), (2, (.fn (.func cmp2_f) cmp2_a cmp2_c)), (6, (eI aP))] ?_
      refine bP 3 ?_
      refine aY aG 4 [] [(7, (eI (0 : Int))), (8, (eI (wR ((2 : Int) * aP))))] ?_
      refine dB (fun T H => ∃ aA : List aC, ∃ a7 : Int, Has T [(0, (.msl 3 lo0p 0 (List.length aA))), (1, (eI n1)), (2, (.fn (.func cmp2_f) cmp2_a cmp2_c)), (6, (eI aP)), (7, (eI a7))] ∧ aO ⟨H0, [lo0p], []⟩ H [(lo0p, 3, List.map aE aA)] ∧ List.length aA = N0 ∧ eT cmp2 aA n1 aP a7 = some out1) ?_ ?_
      · clear hO hN h1
        rintro T H ⟨aA, a7, hT, hO, hN, h1⟩
        refine bB hT ?_
        clear hT
        unfold eT at h1
        refine dB (fun T H => ∃ aA : List aC, Has T [(0, (.msl 3 lo0p 0 (List.length aA))), (1, (eI n1)), (2, (.fn (.func cmp2_f) cmp2_a cmp2_c)), (6, (eI aP))] ∧ aO ⟨H0, [lo0p], []⟩ H [(lo0p, 3, List.map aE aA)] ∧ List.length aA = N0 ∧ gU cmp2 aA n1 aP = some out1) ?_ ?_
        · clear hO hN h1
          rintro T H ⟨aA, hT, hO, hN, h1⟩
          refine bB hT ?_
          clear hT
          unfold gU at h1
          refine aT aG 3 ?_
          refine bC ?_
          exact aI (aU (aH (⟨rfl, _, (oI h1).symm, .eq (by kernel_rfl), hO, hN⟩)))
        refine aY aG 4 [] [(9, (eI (wR (a7 + aP))))] ?_
        refine aY aG 3 [] [(54, (aL (decide ((wR (a7 + aP)) < n1))))] ?_
        refine bL h1 (fun h1 => ?_) (fun h1 => ?_)
        · refine aT aG 6 ?_
          refine bM 5 ?_
          obtain ⟨x6, hx7, h1⟩ := aV h1
          refine oG [(lo0p, 3, List.map aE x6)] 0 (oL lo0p aA a7 (wR (a7 + aP)) n1 cmp2_f cmp2_a cmp2_c cmp2 cmp2_h _ hx7) hO ?_
          intro H hO hl8
          simp only [List.length_map] at hl8
          replace hN := hl8.trans hN
          refine cH ?_
          refine cS (l := [(0, (.msl 3 lo0p 0 (List.length x6))), (1, (eI n1)), (2, (.fn (.func cmp2_f) cmp2_a cmp2_c)), (6, (eI aP))]) ⟨[(0, (.msl 3 lo0p 0 (List.length aA))), (1, (eI n1)), (2, (.fn (.func cmp2_f) cmp2_a cmp2_c)), (6, (eI aP))], by kernel_rfl, rfl, ⟨aX.eq (by simp [hl8]), aX.refl _, aX.refl _, aX.refl _, trivial⟩⟩ ?_
          exact aI (aH (⟨rfl, _, .eq (by kernel_rfl), hO, hN, h1⟩))
        refine bN ?_
        exact aI (aH (⟨rfl, _, .eq (by kernel_rfl), hO, hN, h1⟩))
      refine bP 4 ?_
      refine cT [(0, (.msl 3 lo0p 0 (List.length aA))), (1, (eI n1)), (2, (.fn (.func cmp2_f) cmp2_a cmp2_c)), (6, (eI aP)), (7, (eI (0 : Int))), (8, (eI (wR ((2 : Int) * aP))))] ?_
      refine cL (fun T H => ∃ aA : List aC, ∃ a7 : Int, ∃ b8 : Int, Has T [(0, (.msl 3 lo0p 0 (List.length aA))), (1, (eI n1)), (2, (.fn (.func cmp2_f) cmp2_a cmp2_c)), (6, (eI aP)), (7, (eI a7)), (8, (eI b8))] ∧ aO ⟨H0, [lo0p], []⟩ H [(lo0p, 3, List.map aE aA)] ∧ List.length aA = N0 ∧ iI cmp2 aA n1 aP a7 b8 = some out1) ?_ ⟨aA, (0 : Int), wR ((2 : Int) * aP), .eq (by kernel_rfl), hO, hN, h1⟩
      clear hO hN h1
      rintro T H ⟨aA, a7, b8, hT, hO, hN, h1⟩
      refine bB hT ?_
      clear hT
      unfold iI at h1
      obtain ⟨rr1, hl1, h1⟩ := aV h1
      refine cB (by kernel_rfl) (fun (s : List aC × Int × Int) T H => Has T [(0, (.msl 3 lo0p 0 (List.length s.1))), (1, (eI n1)), (2, (.fn (.func cmp2_f) cmp2_a cmp2_c)), (6, (eI aP)), (7, (eI s.2.1)), (8, (eI s.2.2))] ∧ aO ⟨H0, [lo0p], []⟩ H [(lo0p, 3, List.map aE s.1)] ∧ List.length s.1 = N0) hl1 ⟨.eq (by kernel_rfl), hO, hN⟩ ?_
      clear hO hN
      rintro k1 s out2 T H ⟨hT, hO, hN⟩ h2 ho1
      obtain ⟨aA, a7, b8⟩ := s
      replace h2 : hU cmp2 n1 aP aA a7 b8 = some out2 := h2
      try dsimp only at hT
      refine bB hT ?_
      clear hT
      unfold hU at h2
      refine aQ ?_
      refine aY aG 3 [] [(35, (aL (decide (b8 ≤ n1))))] ?_
      refine bL h2 (fun h2 => ?_) (fun h2 => ?_)
      · refine bN ?_
        refine bF [(0, (.msl 3 lo0p 0 (List.length aA))), (1, (eI n1)), (2, (.fn (.func cmp2_f) cmp2_a cmp2_c)), (6, (eI aP)), (7, (eI a7)), (8, (eI b8))] ?_
        refine bP 5 ?_
        refine aQ ?_
        refine aT aG 8 ?_
        refine bM 7 ?_
        obtain ⟨x10, hx11, h2⟩ := aV h2
        refine oG [(lo0p, 3, List.map aE x10)] 0 (oL lo0p aA a7 (wR (a7 + aP)) b8 cmp2_f cmp2_a cmp2_c cmp2 cmp2_h _ hx11) hO ?_
        intro H hO hl12
        simp only [List.length_map] at hl12
        replace hN := hl12.trans hN
        refine cH ?_
        refine cS (l := [(0, (.msl 3 lo0p 0 (List.length x10))), (1, (eI n1)), (2, (.fn (.func cmp2_f) cmp2_a cmp2_c)), (6, (eI aP)), (8, (eI b8))]) ⟨[(0, (.msl 3 lo0p 0 (List.length aA))), (1, (eI n1)), (2, (.fn (.func cmp2_f) cmp2_a cmp2_c)), (6, (eI aP)), (8, (eI b8))], by kernel_rfl, rfl, ⟨aX.eq (by simp [hl12]), aX.refl _, aX.refl _, aX.refl _, aX.refl _, trivial⟩⟩ ?_
        refine aI (aH (?_))
        refine aY aG 2 [] [(7, (eI b8))] ?_
        refine aT aG 5 ?_
        refine bC ?_
        exact aI (aU (aH (⟨rfl, _, (oI h2).symm, .eq (by kernel_rfl), hO, hN⟩)))
      refine dU 4 ?_
      obtain rfl := oI h2
      obtain rfl : _ = rr1 := ho1
      replace h1 : eT cmp2 aA n1 aP a7 = some out1 := h1
      exact aI (aZ (aZ (bO (aH (⟨rfl, _, _, .eq (by kernel_rfl), hO, hN, h1⟩)))))
    refine dU 2 ?_
    obtain rfl := oI h1
    obtain rfl : _ = rr0 := ho0
    replace h0 : some aA = some r := h0
    obtain rfl := oI h0
    exact aI (aZ (aZ (bO (qN (x := (.tup [])) (by kernel_rfl) (aX.refl _) ⟨rfl, hO.ext, hO.at 0 (by kernel_rfl), by simp only [List.length_map]; exact hN.trans hN0⟩))))
  refine bP 0 ?_
  refine cT [(0, (.msl 3 lo0p 0 (List.length aA))), (1, (eI n1)), (2, (.fn (.func cmp2_f) cmp2_a cmp2_c)), (6, (eI (20 : Int))), (7, (eI (0 : Int))), (8, (eI (20 : Int)))] ?_
  refine cL (fun T H => ∃ aA : List aC, ∃ aP : Int, ∃ a7 : Int, ∃ b8 : Int, Has T [(0, (.msl 3 lo0p 0 (List.length aA))), (1, (eI n1)), (2, (.fn (.func cmp2_f) cmp2_a cmp2_c)), (6, (eI aP)), (7, (eI a7)), (8, (eI b8))] ∧ aO ⟨H0, [lo0p], []⟩ H [(lo0p, 3, List.map aE aA)] ∧ List.length aA = N0 ∧ iB cmp2 aA n1 aP a7 b8 = some r) ?_ ⟨aA, (20 : Int), (0 : Int), (20 : Int), .eq (by kernel_rfl), hO, hN, h0⟩
  clear hO hN h0
  rintro T H ⟨aA, aP, a7, b8, hT, hO, hN, h0⟩
  refine bB hT ?_
  clear hT
  unfold iB at h0
  obtain ⟨rr0, hl0, h0⟩ := aV h0
  refine cB (by kernel_rfl) (fun (s : List aC × Int × Int) T H => Has T [(0, (.msl 3 lo0p 0 (List.length s.1))), (1, (eI n1)), (2, (.fn (.func cmp2_f) cmp2_a cmp2_c)), (6, (eI aP)), (7, (eI s.2.1)), (8, (eI s.2.2))] ∧ aO ⟨H0, [lo0p], []⟩ H [(lo0p, 3, List.map aE s.1)] ∧ List.length s.1 = N0) hl0 ⟨.eq (by kernel_rfl), hO, hN⟩ ?_
  clear hO hN
  rintro k0 s out1 T H ⟨hT, hO, hN⟩ h1 ho0
  obtain ⟨aA, a7, b8⟩ := s
  replace h1 : gX cmp2 n1 aP aA a7 b8 = some out1 := h1
  try dsimp only at hT
  refine bB hT ?_
  clear hT
  unfold gX at h1
  refine aQ ?_
  refine aY aG 3 [] [(13, (aL (decide (b8 ≤ n1))))] ?_
  refine bL h1 (fun h1 => ?_) (fun h1 => ?_)
  · refine bN ?_
    refine bF [(0, (.msl 3 lo0p 0 (List.length aA))), (1, (eI n1)), (2, (.fn (.func cmp2_f) cmp2_a cmp2_c)), (6, (eI aP)), (7, (eI a7)), (8, (eI b8))] ?_
    refine bP 1 ?_
    refine aQ ?_
    refine aT aG 5 ?_
    refine bM 4 ?_
    obtain ⟨x14, hx15, h1⟩ := aV h1
    refine oG [(lo0p, 3, List.map aE x14)] 0 (mY lo0p aA a7 b8 cmp2_f cmp2_a cmp2_c cmp2 cmp2_h _ hx15) hO ?_
    intro H hO hl16
    simp only [List.length_map] at hl16
    replace hN := hl16.trans hN
    refine cH ?_
    refine cS (l := [(0, (.msl 3 lo0p 0 (List.length x14))), (1, (eI n1)), (2, (.fn (.func cmp2_f) cmp2_a cmp2_c)), (6, (eI aP)), (8, (eI b8))]) ⟨[(0, (.msl 3 lo0p 0 (List.length aA))), (1, (eI n1)), (2, (.fn (.func cmp2_f) cmp2_a cmp2_c)), (6, (eI aP)), (8, (eI b8))], by kernel_rfl, rfl, ⟨aX.eq (by simp [hl16]), aX.refl _, aX.refl _, aX.refl _, aX.refl _, trivial⟩⟩ ?_
    refine aI (aH (?_))
    refine aY aG 2 [] [(7, (eI b8))] ?_
    refine aT aG 4 ?_
    refine bC ?_
    exact aI (aU (aH (⟨rfl, _, (oI h1).symm, .eq (by kernel_rfl), hO, hN⟩)))
  refine dU 0 ?_
  obtain rfl := oI h1
  obtain rfl : _ = rr0 := ho0
  replace h0 : eR cmp2 aA n1 aP a7 = some r := h0
  exact aI (aZ (aZ (bO (aH (⟨rfl, _, _, _, .eq (by kernel_rfl), hO, hN, h0⟩)))))

theorem rG (lo0p : Nat) (x0 : (List aC)) (cmp1_f : Nat) (cmp1_a cmp1_c : List V) (cmp1 : aC → aC → Option Int) (cmp1_h : ∀ a0 a1 r, cmp1 a0 a1 = some r → bT Try.prog cmp1_f (cmp1_a ++ [(aE a0), (aE a1)] ++ cmp1_c) (eI r)) (r : List aC) (h0 : cX x0 cmp1 = some r) : kY Try.prog 60 lo0p 3 (List.map aE x0) (List.map aE r) [(.msl 3 lo0p 0 (List.length x0)), (.fn (.func cmp1_f) cmp1_a cmp1_c)] (.tup []) := by
  intro H0 hl0
  refine cI Try.func60 ?_
  have hO := aO.pZ hl0
  clear hl0
  obtain ⟨N0, hN0⟩ : ∃ n, n = List.length x0 := ⟨_, rfl⟩
  have hN : List.length x0 = N0 := hN0.symm
  unfold cX at h0
  refine aT aG 5 ?_
  refine bM 4 ?_
  obtain ⟨x1, hx2, h0⟩ := aV h0
  refine oG [(lo0p, 3, List.map aE x1)] 0 (xE lo0p x0 (lN x0) cmp1_f cmp1_a cmp1_c cmp1 cmp1_h _ hx2) hO ?_
  intro H hO hl3
  simp only [List.length_map] at hl3
  replace hN := hl3.trans hN
  refine cH ?_
  refine cS (l := [(0, (.msl 3 lo0p 0 (List.length x1)))]) ⟨[(0, (.msl 3 lo0p 0 (List.length x0)))], by kernel_rfl, rfl, ⟨aX.eq (by simp [hl3]), trivial⟩⟩ ?_
  obtain rfl := oI h0
  exact aI (qN (x := (.tup [])) (by kernel_rfl) (aX.refl _) ⟨rfl, hO.ext, hO.at 0 (by kernel_rfl), by simp only [List.length_map]; exact hN.trans hN0⟩)

theorem KF (t0 : (List aF)) (r : (Int × (List aF))) (h0 : tJ t0 = some r) : zX Try.prog 101 [(.rp (eL aK t0))] (fun lo => (.fn (.func 102) [] [(.lp lo 0 0), (.rp (eL aK r.2))])) 1 [(eI r.1)] := by
  intro H0
  refine cI Try.func101 ?_
  have hO := aO.start H0
  unfold tJ at h0
  refine aY aG 1 [] [] ?_
  refine aQ ?_
  refine aT aG 2 ?_
  refine nB 1 (eI 0) (by kernel_rfl) (by kernel_rfl) hO ?_
  intro lo1 H hO
  refine iW 0 lo1 1 0 (eI 0) (eI (-1 : Int)) [(eI 0)] [(lo1, 1, [(eI (-1 : Int))])] hO rfl (by kernel_rfl) ?_
  intro H hO
  refine cH ?_
  refine bS [] [(2, (.lp lo1 0 0))] ?_
  refine aY aG 2 [0] [(1, (.fn (.func 102) [] [(.lp lo1 0 0), (.rp (eL aK t0))]))] ?_
  refine bH ?_
  obtain rfl := oI h0
  exact aI (pY (x := (.fn (.func 102) [] [(.lp lo1 0 0), (.rp (eL aK t0))])) (by kernel_rfl) (aX.refl _) ⟨lo1, rfl, hO⟩)

theorem tH {σ : Type} (I : σ → Gs → Prop) (s0 : (List aF)) (f1_v : V) (f1 : σ → aF → Option (σ × Bool)) (f1_h : ∀ st a0 st2 r, f1 st a0 = some (st2, r) → HJ Try.prog f1_v I st [(aK a0)] st2 (aL r)) (sg0 : σ) (r : (σ × Int)) (h0 : eX s0 f1 sg0 = some r) : AI Try.prog 100 I sg0 [(eL aK s0), f1_v] r.1 (eI r.2) := by
  intro H0 G0 hI hg
  refine cI Try.func100 ?_
  obtain ⟨G, hO, hI⟩ : ∃ G, aO ⟨H0, List.map (fun p : Nat × cU => p.1) G0, G⟩ H0 [] ∧ I sg0 G := ⟨G0, aO.JR hg, hI⟩
  clear hg
  unfold eX at h0
  refine aY aG 1 [] [] ?_
  refine dB (fun T H => ∃ sg : σ, ∃ G : Gs, Has T [] ∧ aO ⟨H0, List.map (fun p : Nat × cU => p.1) G0, G⟩ H [] ∧ I sg G ∧ dI f1 sg = some r) ?_ ?_
  · clear hO hI h0
    rintro T H ⟨sg, G, hT, hO, hI, h0⟩
    refine bB hT ?_
    clear hT
    unfold dI at h0
    refine bV aG 1 [(4, (eI (-1 : Int)))] ?_
    refine bH ?_
    obtain rfl := oI h0
    exact aI (pY (x := (eI (-1 : Int))) (by kernel_rfl) (aX.refl _) ⟨rfl, G, hI, hO.GN⟩)
  refine aY aG 3 [] [(7, (eI (lN s0))), (8, (eI (0 : Int)))] ?_
  refine bP 0 ?_
  refine cT [(0, (eL aK s0)), (1, f1_v), (7, (eI (lN s0))), (8, (eI (0 : Int)))] ?_
  refine cL (fun T H => ∃ sg : σ, ∃ t7 : Int, ∃ t8 : Int, ∃ G : Gs, Has T [(0, (eL aK s0)), (1, f1_v), (7, (eI t7)), (8, (eI t8))] ∧ aO ⟨H0, List.map (fun p : Nat × cU => p.1) G0, G⟩ H [] ∧ I sg G ∧ eM f1 sg s0 t7 t8 = some r) ?_ ⟨sg0, (lN s0), (0 : Int), G, .eq (by kernel_rfl), hO, hI, h0⟩
  clear hO hI h0
  rintro T H ⟨sg, t7, t8, G, hT, hO, hI, h0⟩
  refine bB hT ?_
  clear hT
  unfold eM at h0
  obtain ⟨rr0, hl0, h0⟩ := aV h0
  refine cB (by kernel_rfl) (fun (s : σ × Int) T H => ∃ G : Gs, Has T [(0, (eL aK s0)), (1, f1_v), (7, (eI t7)), (8, (eI s.2))] ∧ aO ⟨H0, List.map (fun p : Nat × cU => p.1) G0, G⟩ H [] ∧ I s.1 G) hl0 ⟨G, .eq (by kernel_rfl), hO, hI⟩ ?_
  clear hO hI
  rintro k0 s out1 T H ⟨G, hT, hO, hI⟩ h1 ho0
  obtain ⟨sg, t8⟩ := s
  replace h1 : bW f1 s0 t7 sg t8 = some out1 := h1
  try dsimp only at hT
  refine bB hT ?_
  clear hT
  unfold bW at h1
  refine aY aG 1 [] [(9, (aL (decide (t8 < t7))))] ?_
  refine aQ ?_
  refine bL h1 (fun h1 => ?_) (fun h1 => ?_)
  · refine bN ?_
    refine bF [(0, (eL aK s0)), (1, f1_v), (7, (eI t7)), (8, (eI t8))] ?_
    refine aQ ?_
    refine bP 1 ?_
    refine aY aG 2 [] [(5, (eI t8))] ?_
    refine aQ ?_
    refine aT aG 6 ?_
    obtain ⟨c2, h1⟩ := bJ h1
    refine qG 5 [0 ≤ t8 ∧ t8 < (lN s0)] ⟨c2, trivial⟩ ?_
    obtain ⟨x3, hx4, h1⟩ := aV h1
    refine UK (I := I) f1_v [(aK (gD s0 t8))] (aL x3.2) (by kernel_rfl) (by kernel_rfl) (f1_h _ (gD s0 t8) x3.1 x3.2 hx4) hO hI ?_
    intro G H hO hI
    refine cH ?_
    refine bS [] [(16, (aL x3.2))] ?_
    refine bL h1 (fun h1 => ?_) (fun h1 => ?_)
    · refine bV aG 2 [(4, (eI t8))] ?_
      refine bH ?_
      obtain rfl := oI h1
      obtain rfl : _ = rr0 := ho0
      replace h0 : some (x3.1, t8) = some r := h0
      obtain rfl := oI h0
      exact aI (bR (bA (bA (bR (bA (pY (x := (eI t8)) (by kernel_rfl) (aX.refl _) ⟨rfl, G, hI, hO.GN⟩))))))
    refine bN ?_
    refine dD [(0, (eL aK s0)), (1, f1_v), (7, (eI t7)), (8, (eI t8))] ?_
    refine aI (aU (aH (?_)))
    refine aT aG 2 ?_
    refine bC ?_
    exact aI (aH (⟨rfl, _, (oI h1).symm, _, .eq (by kernel_rfl), hO, hI⟩))
  refine dU 0 ?_
  obtain rfl := oI h1
  obtain rfl : _ = rr0 := ho0
  replace h0 : dI f1 sg = some r := h0
  exact aI (aZ (aZ (bO (aH (⟨rfl, _, _, .eq (by kernel_rfl), hO, hI, h0⟩)))))

theorem HO (v0 : aF) (lo1p : Nat) (t1 : Int) (t2 : (List aF)) (r : (Bool × Int)) (h0 : iV v0 t1 t2 = some r) : kY Try.prog 102 lo1p 1 [(eI t1)] [(eI r.2)] [(aK v0), (.lp lo1p 0 0), (.rp (eL aK t2))] (aL r.1) := by
  intro H0 hl0
  refine cI Try.func102 ?_
  have hO := aO.pZ hl0
  clear hl0
  unfold iV at h0
  refine aQ ?_
  refine aT aG 2 ?_
  refine gO 3 (aK v0) (by kernel_rfl) (by kernel_rfl) ?_
  refine bC ?_
  refine bS [0] [(3, (.rp (aK v0)))] ?_
  refine aQ ?_
  refine aT aG 3 ?_
  refine lM 0 lo1p 1 0 (eI t1) (eI t1) [(eI t1)] hO rfl ?_
  refine bM 2 ?_
  refine iW 0 lo1p 1 0 (eI t1) (eI (wR (t1 + (1 : Int)))) [(eI t1)] [(lo1p, 1, [(eI (wR (t1 + (1 : Int))))])] hO rfl (by kernel_rfl) ?_
  intro H hO
  refine cH ?_
  refine bS [] [] ?_
  refine aQ ?_
  refine kC (jO [7, 8, 11]) aG 7 ?_
  refine uJ 2 ?_
  refine kS 0 lo1p 1 0 (eI (wR (t1 + (1 : Int)))) (eI (wR (t1 + (1 : Int)))) [(eI (wR (t1 + (1 : Int))))] hO rfl ?_
  obtain ⟨c1, h0⟩ := bJ h0
  refine JX (Ds := [0 ≤ (wR (t1 + (1 : Int))) ∧ (wR (t1 + (1 : Int))) < (lN t2)]) (by kernel_rfl) ⟨c1, trivial⟩ ?_
  refine bF [(1, (.lp lo1p 0 0)), (4, (aL (!((decide (v0.Kind = ((gD t2 (wR (t1 + (1 : Int)))).Kind))) && ((decide (v0.Num = ((gD t2 (wR (t1 + (1 : Int)))).Num))) && ((oE v0.Text ((gD t2 (wR (t1 + (1 : Int)))).Text)) && true))))))] ?_
  refine bH ?_
  obtain rfl := oI h0
  exact aI (pY (x := (aL (!((decide (v0.Kind = ((gD t2 (wR (t1 + (1 : Int)))).Kind))) && ((decide (v0.Num = ((gD t2 (wR (t1 + (1 : Int)))).Num))) && ((oE v0.Text ((gD t2 (wR (t1 + (1 : Int)))).Text)) && true)))))) (by kernel_rfl) (aX.refl _) ⟨rfl, hO.ext, hO.at 0 (by kernel_rfl), rfl⟩)

theorem BW (x0 : Int) (r : Bool) (h0 : nT x0 = some r) : bT Try.prog 104 [(eI x0)] (aL r) := by
  intro H0
  refine cI Try.func104 ?_
  have hO := aO.start H0
  unfold nT at h0
  refine aY aG 1 [] [] ?_
  refine bV aG 4 [(2, (aL (!decide (x0 = x0))))] ?_
  refine bH ?_
  obtain rfl := oI h0
  exact aI (Q_r hO)

theorem vG (x0 : Int) (y1 : Int) (r : Int) (h0 : iU x0 y1 = some r) : bT Try.prog 64 [(eI x0), (eI y1)] (eI r) := by
  intro H0
  refine cI Try.func64 ?_
  have hO := aO.start H0
  unfold iU at h0
  refine aY aG 1 [] [] ?_
  refine aQ ?_
  refine aT aG 3 ?_
  refine bM 1 ?_
  obtain ⟨x1, hx2, h0⟩ := aV h0
  refine cJ (BW x0 _ hx2) hO ?_
  intro H hO
  refine bC ?_
  refine bS [] [(5, (aL x1))] ?_
  refine aQ ?_
  refine aT aG 3 ?_
  refine bM 1 ?_
  obtain ⟨x4, hx5, h0⟩ := aV h0
  refine cJ (BW y1 _ hx5) hO ?_
  intro H hO
  refine bC ?_
  refine bS [] [(6, (aL x4))] ?_
  refine aQ ?_
  refine aY aG 1 [5] [(11, (aL x1))] ?_
  refine bL h0 (fun h0 => ?_) (fun h0 => ?_)
  · refine aQ ?_
    refine bV aG 1 [(12, (aL x4))] ?_
    refine bL h0 (fun h0 => ?_) (fun h0 => ?_)
    · refine bV aG 1 [(4, (eI (0 : Int)))] ?_
      refine bH ?_
      obtain rfl := oI h0
      exact aI (bA (bA (Q_r hO)))
    refine bN ?_
    refine bF [] ?_
    refine bV aG 1 [(4, (eI (-1 : Int)))] ?_
    refine bH ?_
    obtain rfl := oI h0
    exact aI (bA (Q_r hO))
  refine bN ?_
  refine bF [(0, (eI x0)), (1, (eI y1)), (6, (aL x4))] ?_
  refine aQ ?_
  refine aY aG 1 [6] [(13, (aL x4))] ?_
  refine bL h0 (fun h0 => ?_) (fun h0 => ?_)
  · refine bV aG 1 [(4, (eI (1 : Int)))] ?_
    refine bH ?_
    obtain rfl := oI h0
    exact aI (bA (Q_r hO))
  refine bN ?_
  refine bF [(0, (eI x0)), (1, (eI y1))] ?_
  refine aQ ?_
  refine aY aG 3 [] [(16, (aL (decide (x0 < y1))))] ?_
  refine bL h0 (fun h0 => ?_) (fun h0 => ?_)
  · refine bV aG 1 [(4, (eI (-1 : Int)))] ?_
    refine bH ?_
    obtain rfl := oI h0
    exact aI (bA (Q_r hO))
  refine bN ?_
  refine bF [(0, (eI x0)), (1, (eI y1))] ?_
  refine aQ ?_
  refine bV aG 3 [(19, (aL (decide (y1 < x0))))] ?_
  refine bL h0 (fun h0 => ?_) (fun h0 => ?_)
  · refine bV aG 1 [(4, (eI (1 : Int)))] ?_
    refine bH ?_
    obtain rfl := oI h0
    exact aI (bA (Q_r hO))
  refine bN ?_
  refine bF [] ?_
  refine bV aG 1 [(4, (eI (0 : Int)))] ?_
  refine bH ?_
  obtain rfl := oI h0
  exact aI (Q_r hO)

theorem uO (x0 : Int) (r : Bool) (h0 : jI x0 = some r) : bT Try.prog 138 [(eI x0)] (aL r) := by
  intro H0
  refine cI Try.func138 ?_
  have hO := aO.start H0
  unfold jI at h0
  refine aY aG 1 [] [] ?_
  refine bV aG 4 [(2, (aL (!decide (x0 = x0))))] ?_
  refine bH ?_
  obtain rfl := oI h0
  exact aI (Q_r hO)

theorem zQ (x0 : Int) (y1 : Int) (r : Int) (h0 : dY x0 y1 = some r) : bT Try.prog 129 [(eI x0), (eI y1)] (eI r) := by
  intro H0
  refine cI Try.func129 ?_
  have hO := aO.start H0
  unfold dY at h0
  refine aY aG 1 [] [] ?_
  refine aQ ?_
  refine aT aG 3 ?_
  refine bM 1 ?_
  obtain ⟨x1, hx2, h0⟩ := aV h0
  refine cJ (uO x0 _ hx2) hO ?_
  intro H hO
  refine bC ?_
  refine bS [] [(5, (aL x1))] ?_
  refine aQ ?_
  refine aT aG 3 ?_
  refine bM 1 ?_
  obtain ⟨x4, hx5, h0⟩ := aV h0
  refine cJ (uO y1 _ hx5) hO ?_
  intro H hO
  refine bC ?_
  refine bS [] [(6, (aL x4))] ?_
  refine aQ ?_
  refine aY aG 1 [5] [(11, (aL x1))] ?_
  refine bL h0 (fun h0 => ?_) (fun h0 => ?_)
  · refine aQ ?_
    refine bV aG 1 [(12, (aL x4))] ?_
    refine bL h0 (fun h0 => ?_) (fun h0 => ?_)
    · refine bV aG 1 [(4, (eI (0 : Int)))] ?_
      refine bH ?_
      obtain rfl := oI h0
      exact aI (bA (bA (Q_r hO)))
    refine bN ?_
    refine bF [] ?_
    refine bV aG 1 [(4, (eI (-1 : Int)))] ?_
    refine bH ?_
    obtain rfl := oI h0
    exact aI (bA (Q_r hO))
  refine bN ?_
  refine bF [(0, (eI x0)), (1, (eI y1)), (6, (aL x4))] ?_
  refine aQ ?_
  refine aY aG 1 [6] [(13, (aL x4))] ?_
  refine bL h0 (fun h0 => ?_) (fun h0 => ?_)
  · refine bV aG 1 [(4, (eI (1 : Int)))] ?_
    refine bH ?_
    obtain rfl := oI h0
    exact aI (bA (Q_r hO))
  refine bN ?_
  refine bF [(0, (eI x0)), (1, (eI y1))] ?_
  refine aQ ?_
  refine aY aG 3 [] [(16, (aL (decide (x0 < y1))))] ?_
  refine bL h0 (fun h0 => ?_) (fun h0 => ?_)
  · refine bV aG 1 [(4, (eI (-1 : Int)))] ?_
    refine bH ?_
    obtain rfl := oI h0
    exact aI (bA (Q_r hO))
  refine bN ?_
  refine bF [(0, (eI x0)), (1, (eI y1))] ?_
  refine aQ ?_
  refine bV aG 3 [(19, (aL (decide (y1 < x0))))] ?_
  refine bL h0 (fun h0 => ?_) (fun h0 => ?_)
  · refine bV aG 1 [(4, (eI (1 : Int)))] ?_
    refine bH ?_
    obtain rfl := oI h0
    exact aI (bA (Q_r hO))
  refine bN ?_
  refine bF [] ?_
  refine bV aG 1 [(4, (eI (0 : Int)))] ?_
  refine bH ?_
  obtain rfl := oI h0
  exact aI (Q_r hO)

theorem wV (a0 : ByteArray) (b1 : ByteArray) (r : Int) (h0 : iH a0 b1 = some r) : bT Try.prog 139 [(yM a0), (yM b1)] (eI r) := by
  intro H0
  refine cI Try.func139 ?_
  have hO := aO.start H0
  unfold iH at h0
  refine aY aG 1 [] [] ?_
  refine aQ ?_
  refine aT aG 4 ?_
  refine bM 2 ?_
  refine aBc 143 [(yM a0), (yM b1)] (eI (MG a0 b1)) (by kernel_rfl) (by kernel_rfl) (ZN Try.func143 (by kernel_rfl) (by kernel_rfl) (by kernel_rfl) (by kernel_rfl) a0 b1) hO ?_
  intro H hO
  refine bC ?_
  refine bF [(4, (eI (MG a0 b1)))] ?_
  refine bH ?_
  obtain rfl := oI h0
  exact aI (Q_r hO)

theorem HQ (a0 : ByteArray) (b1 : ByteArray) (r : Int) (h0 : mK a0 b1 = some r) : bT Try.prog 130 [(yM a0), (yM b1)] (eI r) := by
  intro H0
  refine cI Try.func130 ?_
  have hO := aO.start H0
  unfold mK at h0
  refine aY aG 1 [] [] ?_
  refine aQ ?_
  refine aT aG 4 ?_
  refine bM 2 ?_
  obtain ⟨x1, hx2, h0⟩ := aV h0
  refine cJ (wV a0 b1 _ hx2) hO ?_
  intro H hO
  refine bC ?_
  refine bF [(4, (eI x1))] ?_
  refine bH ?_
  obtain rfl := oI h0
  exact aI (Q_r hO)

theorem KC (a0 : aF) (b1 : aF) (r : Int) (h0 : pX a0 b1 = some r) : bT Try.prog 103 [(aK a0), (aK b1)] (eI r) := by
  intro H0
  refine cI Try.func103 ?_
  have hO := aO.start H0
  unfold pX at h0
  refine aQ ?_
  refine aT aG 3 ?_
  refine gO 3 (aK a0) (by kernel_rfl) (by kernel_rfl) ?_
  refine gO 3 (aK b1) (by kernel_rfl) (by kernel_rfl) ?_
  refine bC ?_
  refine bF [(2, (.rp (aK a0))), (3, (.rp (aK b1)))] ?_
  refine aQ ?_
  refine aT aG 7 ?_
  refine bM 1 ?_
  obtain ⟨⟨x1_0, x1_1⟩, hx2, h0⟩ := aV h0
  refine cJ (yC a0 _ hx2) hO ?_
  intro H hO
  rcases x1_0 with _ | y4 | y5
  · replace h0 : ((lG b1).bind fun (x6_0, x6_1) => match x6_0 with | .none_ => (cond ((!x1_1) || (!x6_1)) (some (0 : Int)) (none)) | .k_number y9 => (cond ((!x1_1) || (!x6_1)) (some (0 : Int)) (some (1 : Int))) | .k_words y10 => (cond ((!x1_1) || (!x6_1)) (some (0 : Int)) (none))) = some r := h0
    refine bC ?_
    refine bS [2] [(5, (bE bG.none_)), (6, (aL x1_1))] ?_
    refine aQ ?_
    refine aT aG 7 ?_
    refine bM 1 ?_
    obtain ⟨⟨x6_0, x6_1⟩, hx7, h0⟩ := aV h0
    refine cJ (yC b1 _ hx7) hO ?_
    intro H hO
    rcases x6_0 with _ | y9 | y10
    · replace h0 : (cond ((!x1_1) || (!x6_1)) (some (0 : Int)) (none)) = some r := h0
      refine bC ?_
      refine bS [3] [(7, (bE bG.none_)), (8, (aL x6_1))] ?_
      refine aQ ?_
      refine aY aG 6 [6, 8] [(28, (aL ((!x1_1) || (!x6_1))))] ?_
      refine bL h0 (fun h0 => ?_) (fun h0 => ?_)
      · refine bV aG 1 [(4, (eI (0 : Int)))] ?_
        refine bH ?_
        obtain rfl := oI h0
        exact aI (bA (Q_r hO))
      refine bN ?_
      refine bF [(5, (bE bG.none_)), (7, (bE bG.none_))] ?_
      refine aY aG 7 [] [(9, (eI 0)), (10, (aL false))] ?_
      refine aY aG 7 [] [(11, (eI 0)), (12, (aL false))] ?_
      refine aQ ?_
      refine bP 0 ?_
      refine aY aG 5 [] [(39, (aL false))] ?_
      refine nW (false) (fun hc12 => ?_) (fun hc12 => ?_)
      · cases hc12
      · refine aY aG 2 [9, 10, 11, 39] [(47, (aL false))] ?_
        refine nW (false) (fun hc13 => ?_) (fun hc13 => ?_)
        · cases hc13
        · refine bV aG 2 [(5, (bE bG.none_)), (7, (bE bG.none_)), (49, (aL false))] ?_
          refine nW (false) (fun hc14 => ?_) (fun hc14 => ?_)
          · cases hc14
          · refine bN ?_
            refine dD [(5, (bE bG.none_)), (7, (bE bG.none_))] ?_
            refine aI (aU (aH (?_)))
            refine aQ ?_
            refine kC (jO []) aG 6 ?_
            cases h0
    · replace h0 : (cond ((!x1_1) || (!x6_1)) (some (0 : Int)) (some (1 : Int))) = some r := h0
      refine bC ?_
      refine bS [3] [(7, (bE (bG.k_number y9))), (8, (aL x6_1))] ?_
      refine aQ ?_
      refine aY aG 6 [6, 8] [(28, (aL ((!x1_1) || (!x6_1))))] ?_
      refine bL h0 (fun h0 => ?_) (fun h0 => ?_)
      · refine bV aG 1 [(4, (eI (0 : Int)))] ?_
        refine bH ?_
        obtain rfl := oI h0
        exact aI (bA (Q_r hO))
      refine bN ?_
      refine bF [(5, (bE bG.none_)), (7, (bE (bG.k_number y9)))] ?_
      refine aY aG 7 [] [(9, (eI 0)), (10, (aL false))] ?_
      refine aY aG 7 [] [(11, (eI y9)), (12, (aL true))] ?_
      refine aQ ?_
      refine bP 0 ?_
      refine aY aG 5 [] [(39, (aL false))] ?_
      refine nW (false) (fun hc16 => ?_) (fun hc16 => ?_)
      · cases hc16
      · refine aY aG 2 [9, 10, 11, 39] [(47, (aL false))] ?_
        refine nW (false) (fun hc17 => ?_) (fun hc17 => ?_)
        · cases hc17
        · refine bV aG 2 [(5, (bE bG.none_)), (7, (bE (bG.k_number y9))), (49, (aL true))] ?_
          refine nW (true) (fun hc18 => ?_) (fun hc18 => ?_)
          · refine bV aG 1 [(4, (eI (1 : Int)))] ?_
            refine bH ?_
            obtain rfl := oI h0
            exact aI (bR (bA (Q_r hO)))
          · cases hc18
    · replace h0 : (cond ((!x1_1) || (!x6_1)) (some (0 : Int)) (none)) = some r := h0
      refine bC ?_
      refine bS [3] [(7, (bE (bG.k_words y10))), (8, (aL x6_1))] ?_
      refine aQ ?_
      refine aY aG 6 [6, 8] [(28, (aL ((!x1_1) || (!x6_1))))] ?_
      refine bL h0 (fun h0 => ?_) (fun h0 => ?_)
      · refine bV aG 1 [(4, (eI (0 : Int)))] ?_
        refine bH ?_
        obtain rfl := oI h0
        exact aI (bA (Q_r hO))
      refine bN ?_
      refine bF [(5, (bE bG.none_)), (7, (bE (bG.k_words y10)))] ?_
      refine aY aG 7 [] [(9, (eI 0)), (10, (aL false))] ?_
      refine aY aG 7 [] [(11, (eI 0)), (12, (aL false))] ?_
      refine aQ ?_
      refine bP 0 ?_
      refine aY aG 5 [] [(39, (aL false))] ?_
      refine nW (false) (fun hc20 => ?_) (fun hc20 => ?_)
      · cases hc20
      · refine aY aG 2 [9, 10, 11, 39] [(47, (aL false))] ?_
        refine nW (false) (fun hc21 => ?_) (fun hc21 => ?_)
        · cases hc21
        · refine bV aG 2 [(5, (bE bG.none_)), (7, (bE (bG.k_words y10))), (49, (aL false))] ?_
          refine nW (false) (fun hc22 => ?_) (fun hc22 => ?_)
          · cases hc22
          · refine bN ?_
            refine dD [(5, (bE bG.none_)), (7, (bE (bG.k_words y10)))] ?_
            refine aI (aU (aH (?_)))
            refine aQ ?_
            refine kC (jO []) aG 6 ?_
            cases h0
  · replace h0 : ((lG b1).bind fun (x23_0, x23_1) => match x23_0 with | .none_ => (cond ((!x1_1) || (!x23_1)) (some (0 : Int)) (some (-1 : Int))) | .k_number y26 => (cond ((!x1_1) || (!x23_1)) (some (0 : Int)) ((dY y4 y26).bind fun x33 => some x33)) | .k_words y27 => (cond ((!x1_1) || (!x23_1)) (some (0 : Int)) (some (-1 : Int)))) = some r := h0
    refine bC ?_
    refine bS [2] [(5, (bE (bG.k_number y4))), (6, (aL x1_1))] ?_
    refine aQ ?_
    refine aT aG 7 ?_
    refine bM 1 ?_
    obtain ⟨⟨x23_0, x23_1⟩, hx24, h0⟩ := aV h0
    refine cJ (yC b1 _ hx24) hO ?_
    intro H hO
    rcases x23_0 with _ | y26 | y27
    · replace h0 : (cond ((!x1_1) || (!x23_1)) (some (0 : Int)) (some (-1 : Int))) = some r := h0
      refine bC ?_
      refine bS [3] [(7, (bE bG.none_)), (8, (aL x23_1))] ?_
      refine aQ ?_
      refine aY aG 6 [6, 8] [(28, (aL ((!x1_1) || (!x23_1))))] ?_
      refine bL h0 (fun h0 => ?_) (fun h0 => ?_)
      · refine bV aG 1 [(4, (eI (0 : Int)))] ?_
        refine bH ?_
        obtain rfl := oI h0
        exact aI (bA (Q_r hO))
      refine bN ?_
      refine bF [(5, (bE (bG.k_number y4))), (7, (bE bG.none_))] ?_
      refine aY aG 7 [] [(9, (eI y4)), (10, (aL true))] ?_
      refine aY aG 7 [] [(11, (eI 0)), (12, (aL false))] ?_
      refine aQ ?_
      refine bP 0 ?_
      refine aY aG 5 [] [(39, (aL false))] ?_
      refine nW (false) (fun hc29 => ?_) (fun hc29 => ?_)
      · cases hc29
      · refine aY aG 2 [9, 10, 11, 39] [(47, (aL true))] ?_
        refine nW (true) (fun hc30 => ?_) (fun hc30 => ?_)
        · refine bV aG 1 [(4, (eI (-1 : Int)))] ?_
          refine bH ?_
          obtain rfl := oI h0
          exact aI (bR (bA (Q_r hO)))
        · cases hc30
    · replace h0 : (cond ((!x1_1) || (!x23_1)) (some (0 : Int)) ((dY y4 y26).bind fun x33 => some x33)) = some r := h0
      refine bC ?_
      refine bS [3] [(7, (bE (bG.k_number y26))), (8, (aL x23_1))] ?_
      refine aQ ?_
      refine aY aG 6 [6, 8] [(28, (aL ((!x1_1) || (!x23_1))))] ?_
      refine bL h0 (fun h0 => ?_) (fun h0 => ?_)
      · refine bV aG 1 [(4, (eI (0 : Int)))] ?_
        refine bH ?_
        obtain rfl := oI h0
        exact aI (bA (Q_r hO))
      refine bN ?_
      refine bF [(5, (bE (bG.k_number y4))), (7, (bE (bG.k_number y26)))] ?_
      refine aY aG 7 [] [(9, (eI y4)), (10, (aL true))] ?_
      refine aY aG 7 [] [(11, (eI y26)), (12, (aL true))] ?_
      refine aQ ?_
      refine bP 0 ?_
      refine aY aG 5 [] [(39, (aL true))] ?_
      refine nW (true) (fun hc32 => ?_) (fun hc32 => ?_)
      · refine aQ ?_
        refine aT aG 4 ?_
        refine bM 2 ?_
        obtain ⟨x33, hx34, h0⟩ := aV h0
        refine cJ (zQ y4 y26 _ hx34) hO ?_
        intro H hO
        refine bC ?_
        refine bF [(4, (eI x33))] ?_
        refine bH ?_
        obtain rfl := oI h0
        exact aI (bR (bA (Q_r hO)))
      · cases hc32
    · replace h0 : (cond ((!x1_1) || (!x23_1)) (some (0 : Int)) (some (-1 : Int))) = some r := h0
      refine bC ?_
      refine bS [3] [(7, (bE (bG.k_words y27))), (8, (aL x23_1))] ?_
      refine aQ ?_
      refine aY aG 6 [6, 8] [(28, (aL ((!x1_1) || (!x23_1))))] ?_
      refine bL h0 (fun h0 => ?_) (fun h0 => ?_)
      · refine bV aG 1 [(4, (eI (0 : Int)))] ?_
        refine bH ?_
        obtain rfl := oI h0
        exact aI (bA (Q_r hO))
      refine bN ?_
      refine bF [(5, (bE (bG.k_number y4))), (7, (bE (bG.k_words y27)))] ?_
      refine aY aG 7 [] [(9, (eI y4)), (10, (aL true))] ?_
      refine aY aG 7 [] [(11, (eI 0)), (12, (aL false))] ?_
      refine aQ ?_
      refine bP 0 ?_
      refine aY aG 5 [] [(39, (aL false))] ?_
      refine nW (false) (fun hc37 => ?_) (fun hc37 => ?_)
      · cases hc37
      · refine aY aG 2 [9, 10, 11, 39] [(47, (aL true))] ?_
        refine nW (true) (fun hc38 => ?_) (fun hc38 => ?_)
        · refine bV aG 1 [(4, (eI (-1 : Int)))] ?_
          refine bH ?_
          obtain rfl := oI h0
          exact aI (bR (bA (Q_r hO)))
        · cases hc38
  · replace h0 : ((lG b1).bind fun (x39_0, x39_1) => match x39_0 with | .none_ => (cond ((!x1_1) || (!x39_1)) (some (0 : Int)) (none)) | .k_number y42 => (cond ((!x1_1) || (!x39_1)) (some (0 : Int)) (some (1 : Int))) | .k_words y43 => (cond ((!x1_1) || (!x39_1)) (some (0 : Int)) ((mK y5 y43).bind fun x56 => some x56))) = some r := h0
    refine bC ?_
    refine bS [2] [(5, (bE (bG.k_words y5))), (6, (aL x1_1))] ?_
    refine aQ ?_
    refine aT aG 7 ?_
    refine bM 1 ?_
    obtain ⟨⟨x39_0, x39_1⟩, hx40, h0⟩ := aV h0
    refine cJ (yC b1 _ hx40) hO ?_
    intro H hO
    rcases x39_0 with _ | y42 | y43
    · replace h0 : (cond ((!x1_1) || (!x39_1)) (some (0 : Int)) (none)) = some r := h0
      refine bC ?_
      refine bS [3] [(7, (bE bG.none_)), (8, (aL x39_1))] ?_
      refine aQ ?_
      refine aY aG 6 [6, 8] [(28, (aL ((!x1_1) || (!x39_1))))] ?_
      refine bL h0 (fun h0 => ?_) (fun h0 => ?_)
      · refine bV aG 1 [(4, (eI (0 : Int)))] ?_
        refine bH ?_
        obtain rfl := oI h0
        exact aI (bA (Q_r hO))
      refine bN ?_
      refine bF [(5, (bE (bG.k_words y5))), (7, (bE bG.none_))] ?_
      refine aY aG 7 [] [(9, (eI 0)), (10, (aL false))] ?_
      refine aY aG 7 [] [(11, (eI 0)), (12, (aL false))] ?_
      refine aQ ?_
      refine bP 0 ?_
      refine aY aG 5 [] [(39, (aL false))] ?_
      refine nW (false) (fun hc45 => ?_) (fun hc45 => ?_)
      · cases hc45
      · refine aY aG 2 [9, 10, 11, 39] [(47, (aL false))] ?_
        refine nW (false) (fun hc46 => ?_) (fun hc46 => ?_)
        · cases hc46
        · refine bV aG 2 [(5, (bE (bG.k_words y5))), (7, (bE bG.none_)), (49, (aL false))] ?_
          refine nW (false) (fun hc47 => ?_) (fun hc47 => ?_)
          · cases hc47
          · refine bN ?_
            refine dD [(5, (bE (bG.k_words y5))), (7, (bE bG.none_))] ?_
            refine aI (aU (aH (?_)))
            refine aQ ?_
            refine kC (jO []) aG 6 ?_
            cases h0
    · replace h0 : (cond ((!x1_1) || (!x39_1)) (some (0 : Int)) (some (1 : Int))) = some r := h0
      refine bC ?_
      refine bS [3] [(7, (bE (bG.k_number y42))), (8, (aL x39_1))] ?_
      refine aQ ?_
      refine aY aG 6 [6, 8] [(28, (aL ((!x1_1) || (!x39_1))))] ?_
      refine bL h0 (fun h0 => ?_) (fun h0 => ?_)
      · refine bV aG 1 [(4, (eI (0 : Int)))] ?_
        refine bH ?_
        obtain rfl := oI h0
        exact aI (bA (Q_r hO))
      refine bN ?_
      refine bF [(5, (bE (bG.k_words y5))), (7, (bE (bG.k_number y42)))] ?_
      refine aY aG 7 [] [(9, (eI 0)), (10, (aL false))] ?_
      refine aY aG 7 [] [(11, (eI y42)), (12, (aL true))] ?_
      refine aQ ?_
      refine bP 0 ?_
      refine aY aG 5 [] [(39, (aL false))] ?_
      refine nW (false) (fun hc49 => ?_) (fun hc49 => ?_)
      · cases hc49
      · refine aY aG 2 [9, 10, 11, 39] [(47, (aL false))] ?_
        refine nW (false) (fun hc50 => ?_) (fun hc50 => ?_)
        · cases hc50
        · refine bV aG 2 [(5, (bE (bG.k_words y5))), (7, (bE (bG.k_number y42))), (49, (aL true))] ?_
          refine nW (true) (fun hc51 => ?_) (fun hc51 => ?_)
          · refine bV aG 1 [(4, (eI (1 : Int)))] ?_
            refine bH ?_
            obtain rfl := oI h0
            exact aI (bR (bA (Q_r hO)))
          · cases hc51
    · replace h0 : (cond ((!x1_1) || (!x39_1)) (some (0 : Int)) ((mK y5 y43).bind fun x56 => some x56)) = some r := h0
      refine bC ?_
      refine bS [3] [(7, (bE (bG.k_words y43))), (8, (aL x39_1))] ?_
      refine aQ ?_
      refine aY aG 6 [6, 8] [(28, (aL ((!x1_1) || (!x39_1))))] ?_
      refine bL h0 (fun h0 => ?_) (fun h0 => ?_)
      · refine bV aG 1 [(4, (eI (0 : Int)))] ?_
        refine bH ?_
        obtain rfl := oI h0
        exact aI (bA (Q_r hO))
      refine bN ?_
      refine bF [(5, (bE (bG.k_words y5))), (7, (bE (bG.k_words y43)))] ?_
      refine aY aG 7 [] [(9, (eI 0)), (10, (aL false))] ?_
      refine aY aG 7 [] [(11, (eI 0)), (12, (aL false))] ?_
      refine aQ ?_
      refine bP 0 ?_
      refine aY aG 5 [] [(39, (aL false))] ?_
      refine nW (false) (fun hc53 => ?_) (fun hc53 => ?_)
      · cases hc53
      · refine aY aG 2 [9, 10, 11, 39] [(47, (aL false))] ?_
        refine nW (false) (fun hc54 => ?_) (fun hc54 => ?_)
        · cases hc54
        · refine bV aG 2 [(5, (bE (bG.k_words y5))), (7, (bE (bG.k_words y43))), (49, (aL false))] ?_
          refine nW (false) (fun hc55 => ?_) (fun hc55 => ?_)
          · cases hc55
          · refine bN ?_
            refine dD [(5, (bE (bG.k_words y5))), (7, (bE (bG.k_words y43)))] ?_
            refine aI (aU (aH (?_)))
            refine aQ ?_
            refine kC (jO []) aG 6 ?_
            refine uJ 4 ?_
            obtain ⟨x56, hx57, h0⟩ := aV h0
            refine yF (HQ y5 y43 _ hx57) hO ?_
            intro H hO
            refine qF ?_
            refine bF [(4, (eI x56))] ?_
            refine bH ?_
            obtain rfl := oI h0
            exact aI (Q_r hO)

theorem FA (a0 : (List aF)) (b1 : (List aF)) (r : Int) (h0 : pQ a0 b1 = some r) : bT Try.prog 63 [(eL aK a0), (eL aK b1)] (eI r) := by
  intro H0
  refine cI Try.func63 ?_
  have hO := aO.start H0
  unfold pQ at h0
  refine aQ ?_
  refine aT aG 2 ?_
  refine gO 1 (eL aK b1) (by kernel_rfl) (by kernel_rfl) ?_
  refine bC ?_
  refine bS [1] [(3, (.rp (eL aK b1)))] ?_
  refine aQ ?_
  refine aQ ?_
  refine aT aG 8 ?_
  refine bM 1 ?_
  obtain ⟨x1, hx2, h0⟩ := aV h0
  refine cJ (xB a0 _ hx2) hO ?_
  intro H hO
  refine bM 5 ?_
  obtain ⟨x4, hx5, h0⟩ := aV h0
  refine gQ [(10, false)] 57 [(eL aK b1)] (aL x4) (!(!x1)) (by kernel_rfl) (by kernel_rfl) (by kernel_rfl) (fun hb6 => (xB b1 _ (jH hx5 hb6))) hO ?_
  intro H hO
  refine bC ?_
  refine bS [] [(14, (aL ((!x1) || (!x4))))] ?_
  refine bL h0 (fun h0 => ?_) (fun h0 => ?_)
  · refine bV aG 1 [(4, (eI (0 : Int)))] ?_
    refine bH ?_
    obtain rfl := oI h0
    exact aI (bA (Q_r hO))
  refine bN ?_
  refine bF [(0, (eL aK a0)), (3, (.rp (eL aK b1)))] ?_
  refine aY aG 6 [] [(5, (eI (if (lN b1) < (lN a0) then (lN b1) else (lN a0))))] ?_
  refine aQ ?_
  refine kC (jO []) aG 7 ?_
  obtain ⟨c8, h0⟩ := bJ h0
  refine dM 4 [0 ≤ (if (lN b1) < (lN a0) then (lN b1) else (lN a0)) ∧ (if (lN b1) < (lN a0) then (lN b1) else (lN a0)) ≤ (lN a0)] ⟨c8, trivial⟩ ?_
  obtain ⟨x9, hx10, h0⟩ := aV h0
  refine aAV (L' := fun lo11 => [(lo11, 1, [(eI x9.1)])]) 1 [(eI x9.1)] 101 [(.rp (eL aK b1))] (fun lo11 => (.fn (.func 102) [] [(.lp lo11 0 0), (.rp (eL aK x9.2))])) (by kernel_rfl) (by kernel_rfl) (KF b1 _ hx10) hO (fun _ => by kernel_rfl) ?_
  intro lo11 H hO
  obtain ⟨x12, hx13, h0⟩ := aV h0
  refine aBn (fun st G' => G' = up [(lo11, 1, [(eI st)])] ++ []) [(lo11, 1, [(eI x12.1)])] x9.1 x12.1 100 [(.sl false (Int.toNat (if (lN b1) < (lN a0) then (lN b1) else (lN a0))) (fun i => aK (List.getD a0 i default))), (.fn (.func 102) [] [(.lp lo11 0 0), (.rp (eL aK x9.2))])] (eI x12.2) (by kernel_rfl) (by kernel_rfl) (AI.sub (as0' := [(eL aK (List.take (Int.toNat (if (lN b1) < (lN a0) then (lN b1) else (lN a0))) a0)), (.fn (.func 102) [] [(.lp lo11 0 0), (.rp (eL aK x9.2))])]) (tH _ (List.take (Int.toNat (if (lN b1) < (lN a0) then (lN b1) else (lN a0))) a0) (.fn (.func 102) [] [(.lp lo11 0 0), (.rp (eL aK x9.2))]) (fun st y0 => (iV y0 st x9.2).bind fun o => some (o.2, o.1)) (fun st y0 st2 rr hr => (HO y0 lo11 st x9.2 _ (aB9 hr)).toV (ys := []) (zs := [(aK y0)]) (cs := [(.lp lo11 0 0), (.rp (eL aK x9.2))]) (fun Gx hG => ⟨up [], up [] ++ [], hG, rfl⟩)) _ _ hx13) ⟨aBo (Int.toNat_le.2 (And.right c8)), aX.refl _, trivial⟩) hO rfl (fun _ h => h) ?_
  intro H hO
  refine qF ?_
  replace hO := hO.pick (L' := []) [] (by decide) (by kernel_rfl)
  refine bS [5] [(6, (eI x12.2))] ?_
  refine aQ ?_
  refine aY aG 2 [] [(27, (aL (decide (x12.2 < (0 : Int)))))] ?_
  refine bL h0 (fun h0 => ?_) (fun h0 => ?_)
  · refine aQ ?_
    refine aT aG 6 ?_
    refine bM 4 ?_
    obtain ⟨x15, hx16, h0⟩ := aV h0
    refine cJ (vG (lN a0) (lN b1) _ hx16) hO ?_
    intro H hO
    refine bC ?_
    refine bF [(4, (eI x15))] ?_
    refine bH ?_
    obtain rfl := oI h0
    exact aI (bA (Q_r hO))
  refine bN ?_
  refine bF [(0, (eL aK a0)), (3, (.rp (eL aK b1))), (6, (eI x12.2))] ?_
  refine aQ ?_
  refine kC (jO [36, 37, 40, 41]) aG 10 ?_
  obtain ⟨c18, h0⟩ := bJ h0
  obtain ⟨c19, h0⟩ := bJ h0
  refine dM 8 [0 ≤ x12.2 ∧ x12.2 < (lN a0), 0 ≤ x12.2 ∧ x12.2 < (lN b1)] ⟨c18, c19, trivial⟩ ?_
  obtain ⟨x20, hx21, h0⟩ := aV h0
  refine yF (KC (gD a0 x12.2) (gD b1 x12.2) _ hx21) hO ?_
  intro H hO
  refine qF ?_
  refine bF [(4, (eI x20))] ?_
  refine bH ?_
  obtain rfl := oI h0
  exact aI (Q_r hO)

theorem PN (xO : (List Int)) (r : Int) (h0 : uH xO = some r) : bT Try.prog 62 [(eL (eI) xO)] (eI r) := by
  intro H0
  refine cI Try.func62 ?_
  have hO := aO.start H0
  unfold uH at h0
  refine aY aG 1 [] [] ?_
  refine aY aG 1 [] [(3, (eI (0 : Int)))] ?_
  refine dB (fun T H => ∃ nI : Int, Has T [(3, (eI nI))] ∧ aO ⟨H0, [], []⟩ H [] ∧ rX nI = some r) ?_ ?_
  · clear hO h0
    rintro T H ⟨nI, hT, hO, h0⟩
    refine bB hT ?_
    clear hT
    unfold rX at h0
    refine bV aG 2 [(2, (eI nI))] ?_
    refine bH ?_
    obtain rfl := oI h0
    exact aI (Q_r hO)
  refine aY aG 3 [0] [(6, (eL (eI) xO)), (7, (eI (lN xO))), (8, (eI (0 : Int)))] ?_
  refine bP 0 ?_
  refine cT [(3, (eI (0 : Int))), (6, (eL (eI) xO)), (7, (eI (lN xO))), (8, (eI (0 : Int)))] ?_
  refine cL (fun T H => ∃ nI : Int, ∃ t6 : (List Int), ∃ t7 : Int, ∃ t8 : Int, Has T [(3, (eI nI)), (6, (eL (eI) t6)), (7, (eI t7)), (8, (eI t8))] ∧ aO ⟨H0, [], []⟩ H [] ∧ wJ nI t6 t7 t8 = some r) ?_ ⟨(0 : Int), xO, (lN xO), (0 : Int), .eq (by kernel_rfl), hO, h0⟩
  clear hO h0
  rintro T H ⟨nI, t6, t7, t8, hT, hO, h0⟩
  refine bB hT ?_
  clear hT
  unfold wJ at h0
  obtain ⟨rr0, hl0, h0⟩ := aV h0
  refine cB (by kernel_rfl) (fun (s : Int) T H => Has T [(3, (eI nI)), (6, (eL (eI) t6)), (7, (eI t7)), (8, (eI s))] ∧ aO ⟨H0, [], []⟩ H []) hl0 ⟨.eq (by kernel_rfl), hO⟩ ?_
  clear hO
  rintro k0 s out1 T H ⟨hT, hO⟩ h1 ho0
  obtain ⟨t8, rfl⟩ : ∃ x, x = s := ⟨_, rfl⟩
  replace h1 : gN nI t6 t7 t8 = some out1 := h1
  refine bB hT ?_
  clear hT
  unfold gN at h1
  refine aY aG 1 [] [(9, (aL (decide (t8 < t7))))] ?_
  refine aQ ?_
  refine bL h1 (fun h1 => ?_) (fun h1 => ?_)
  · refine bN ?_
    refine bF [(3, (eI nI)), (6, (eL (eI) t6)), (7, (eI t7)), (8, (eI t8))] ?_
    refine aQ ?_
    refine bP 1 ?_
    refine aQ ?_
    refine aT aG 3 ?_
    obtain ⟨c2, h1⟩ := bJ h1
    refine vB [0 ≤ t8 ∧ t8 < (lN t6)] ⟨c2, trivial⟩ ?_
    refine bS [] [(5, (eI (gD t6 t8)))] ?_
    refine aY aG 3 [] [(14, (aL (!decide ((gD t6 t8) = nI))))] ?_
    refine bL h1 (fun h1 => ?_) (fun h1 => ?_)
    · refine bV aG 2 [(2, (eI (gD t6 t8)))] ?_
      refine bH ?_
      obtain rfl := oI h1
      obtain rfl : _ = rr0 := ho0
      replace h0 : some (gD t6 t8) = some r := h0
      obtain rfl := oI h0
      exact aI (bR (bA (bA (bR (bA (Q_r hO))))))
    refine bN ?_
    refine dD [(3, (eI nI)), (6, (eL (eI) t6)), (7, (eI t7)), (8, (eI t8))] ?_
    refine aI (aU (aH (?_)))
    refine aT aG 2 ?_
    refine bC ?_
    exact aI (aH (⟨rfl, _, (oI h1).symm, .eq (by kernel_rfl), hO⟩))
  refine dU 0 ?_
  obtain rfl := oI h1
  obtain rfl : _ = rr0 := ho0
  replace h0 : rX nI = some r := h0
  exact aI (aZ (aZ (bO (aH (⟨rfl, _, .eq (by kernel_rfl), hO, h0⟩)))))

theorem OA (x0 : aC) (y1 : aC) (r : Int) (h0 : mN x0 y1 = some r) : bT Try.prog 61 [(aE x0), (aE y1)] (eI r) := by
  intro H0
  refine cI Try.func61 ?_
  have hO := aO.start H0
  unfold mN at h0
  refine aQ ?_
  refine aT aG 3 ?_
  refine gO 3 (aE x0) (by kernel_rfl) (by kernel_rfl) ?_
  refine gO 3 (aE y1) (by kernel_rfl) (by kernel_rfl) ?_
  refine bC ?_
  refine bF [(2, (.rp (aE x0))), (3, (.rp (aE y1)))] ?_
  refine aQ ?_
  refine kC (jO [6, 8, 9, 11, 13, 14, 15, 16]) aG 13 ?_
  refine uJ 4 ?_
  obtain ⟨x1, hx2, h0⟩ := aV h0
  refine yF (FA x0.Row y1.Row _ hx2) hO ?_
  intro H hO
  refine uJ 9 ?_
  obtain ⟨x4, hx5, h0⟩ := aV h0
  refine yF (vG x0.At y1.At _ hx5) hO ?_
  intro H hO
  refine OX (xs := [(eI x1), (eI x4)]) (k := 1) (by kernel_rfl) (by kernel_rfl) ?_
  obtain ⟨x7, hx8, h0⟩ := aV h0
  refine UW 62 [(fI [(eI x1), (eI x4)])] (eI x7) (by kernel_rfl) (by kernel_rfl) (bT.sub (PN ([x1, x4]) _ hx8) ⟨CY (l := [x1, x4]), trivial⟩) hO ?_
  intro H hO
  refine qF ?_
  refine bF [(4, (eI x7))] ?_
  refine bH ?_
  obtain rfl := oI h0
  exact aI (Q_r hO)

theorem CP (l0 : (List aC)) (r : (List aC)) (h0 : oQ l0 = some r) : bT Try.prog 105 [(eL aE l0)] (.fn (.func 131) [] [(.rp (eL aE r))]) := by
  intro H0
  refine cI Try.func105 ?_
  have hO := aO.start H0
  unfold oQ at h0
  refine aQ ?_
  refine aT aG 2 ?_
  refine gO 1 (eL aE l0) (by kernel_rfl) (by kernel_rfl) ?_
  refine bC ?_
  refine bF [(1, (.rp (eL aE l0)))] ?_
  refine bV aG 2 [(2, (.fn (.func 131) [] [(.rp (eL aE l0))]))] ?_
  refine bH ?_
  obtain rfl := oI h0
  exact aI (pY (x := (.fn (.func 131) [] [(.rp (eL aE l0))])) (by kernel_rfl) (aX.refl _) ⟨rfl, hO.out⟩)

theorem wX (s10 : (List aF)) (s21 : (List aF)) (r : Bool) (h0 : gR s10 s21 = some r) : bT Try.prog 118 [(eL aK s10), (eL aK s21)] (aL r) := by
  intro H0
  refine cI Try.func118 ?_
  have hO := aO.start H0
  unfold gR at h0
  refine aY aG 1 [] [] ?_
  refine aQ ?_
  refine aY aG 5 [] [(10, (aL (!decide ((lN s10) = (lN s21)))))] ?_
  refine bL h0 (fun h0 => ?_) (fun h0 => ?_)
  · refine bV aG 1 [(4, (aL false))] ?_
    refine bH ?_
    obtain rfl := oI h0
    exact aI (bA (Q_r hO))
  refine bN ?_
  refine bF [(0, (eL aK s10)), (1, (eL aK s21))] ?_
  refine dB (fun T H => Has T [] ∧ aO ⟨H0, [], []⟩ H [] ∧ eD  = some r) ?_ ?_
  · clear hO h0
    rintro T H ⟨hT, hO, h0⟩
    refine bB hT ?_
    clear hT
    unfold eD at h0
    refine bV aG 1 [(4, (aL true))] ?_
    refine bH ?_
    obtain rfl := oI h0
    exact aI (Q_r hO)
  refine aY aG 3 [] [(12, (eI (lN s10))), (13, (eI (0 : Int)))] ?_
  refine bP 0 ?_
  refine cT [(0, (eL aK s10)), (1, (eL aK s21)), (12, (eI (lN s10))), (13, (eI (0 : Int)))] ?_
  refine cL (fun T H => ∃ t12 : Int, ∃ t13 : Int, Has T [(0, (eL aK s10)), (1, (eL aK s21)), (12, (eI t12)), (13, (eI t13))] ∧ aO ⟨H0, [], []⟩ H [] ∧ gP s10 s21 t12 t13 = some r) ?_ ⟨(lN s10), (0 : Int), .eq (by kernel_rfl), hO, h0⟩
  clear hO h0
  rintro T H ⟨t12, t13, hT, hO, h0⟩
  refine bB hT ?_
  clear hT
  unfold gP at h0
  obtain ⟨rr0, hl0, h0⟩ := aV h0
  refine cB (by kernel_rfl) (fun (s : Int) T H => Has T [(0, (eL aK s10)), (1, (eL aK s21)), (12, (eI t12)), (13, (eI s))] ∧ aO ⟨H0, [], []⟩ H []) hl0 ⟨.eq (by kernel_rfl), hO⟩ ?_
  clear hO
  rintro k0 s out1 T H ⟨hT, hO⟩ h1 ho0
  obtain ⟨t13, rfl⟩ : ∃ x, x = s := ⟨_, rfl⟩
  replace h1 : dJ s10 s21 t12 t13 = some out1 := h1
  refine bB hT ?_
  clear hT
  unfold dJ at h1
  refine aY aG 1 [] [(14, (aL (decide (t13 < t12))))] ?_
  refine aQ ?_
  refine bL h1 (fun h1 => ?_) (fun h1 => ?_)
  · refine bN ?_
    refine bF [(0, (eL aK s10)), (1, (eL aK s21)), (12, (eI t12)), (13, (eI t13))] ?_
    refine aQ ?_
    refine bP 1 ?_
    refine aY aG 2 [] [(5, (eI t13))] ?_
    refine aQ ?_
    refine kC (jO [19, 23]) aG 9 ?_
    obtain ⟨c3, h1⟩ := bJ h1
    obtain ⟨c4, h1⟩ := bJ h1
    refine JX (Ds := [0 ≤ t13 ∧ t13 < (lN s10), 0 ≤ t13 ∧ t13 < (lN s21)]) (by kernel_rfl) ⟨c3, c4, trivial⟩ ?_
    refine bS [5] [(24, (aL (!((decide (((gD s10 t13).Kind) = ((gD s21 t13).Kind))) && ((decide (((gD s10 t13).Num) = ((gD s21 t13).Num))) && ((oE ((gD s10 t13).Text) ((gD s21 t13).Text)) && true))))))] ?_
    refine bL h1 (fun h1 => ?_) (fun h1 => ?_)
    · refine bV aG 1 [(4, (aL false))] ?_
      refine bH ?_
      obtain rfl := oI h1
      obtain rfl : _ = rr0 := ho0
      replace h0 : some false = some r := h0
      obtain rfl := oI h0
      exact aI (bR (bA (bA (bR (bA (Q_r hO))))))
    refine bN ?_
    refine dD [(0, (eL aK s10)), (1, (eL aK s21)), (12, (eI t12)), (13, (eI t13))] ?_
    refine aI (aU (aH (?_)))
    refine aT aG 2 ?_
    refine bC ?_
    exact aI (aH (⟨rfl, _, (oI h1).symm, .eq (by kernel_rfl), hO⟩))
  refine dU 0 ?_
  obtain rfl := oI h1
  obtain rfl : _ = rr0 := ho0
  replace h0 : eD  = some r := h0
  exact aI (aZ (aZ (bO (aH (⟨rfl, .eq (by kernel_rfl), hO, h0⟩)))))

theorem EI (a0 : (List aF)) (b1 : (List aF)) (r : Bool) (h0 : rT a0 b1 = some r) : bT Try.prog 78 [(eL aK a0), (eL aK b1)] (aL r) := by
  intro H0
  refine cI Try.func78 ?_
  have hO := aO.start H0
  unfold rT at h0
  refine aY aG 1 [] [] ?_
  refine aQ ?_
  refine aT aG 4 ?_
  refine bM 2 ?_
  obtain ⟨x1, hx2, h0⟩ := aV h0
  refine cJ (wX a0 b1 _ hx2) hO ?_
  intro H hO
  refine bC ?_
  refine bF [(4, (aL x1))] ?_
  refine bH ?_
  obtain rfl := oI h0
  exact aI (Q_r hO)

theorem DV (r0 : (List aF)) (r : (List aF)) (h0 : rL r0 = some r) : bT Try.prog 80 [(eL aK r0)] (eL aK r) := by
  intro H0
  refine cI Try.func80 ?_
  have hO := aO.start H0
  unfold rL at h0
  refine aY aG 1 [] [] ?_
  refine aQ ?_
  refine aT aG 6 ?_
  refine bM 2 ?_
  obtain ⟨c1, h0⟩ := bJ h0
  refine HM 3 32 (lN r0) (by kernel_rfl) (by kernel_rfl) c1 hO ?_
  intro lo2 H hO
  refine bM 4 ?_
  obtain ⟨c4, h0⟩ := bJ h0
  refine HL (e := aK) ([] : List aF) r0 0 lo2 3 32 (eL aK r0) (fun lo3 => [(lo3, 3, List.map aK (([] : List aF) ++ r0))]) (by kernel_rfl) (by kernel_rfl) hO (by kernel_rfl) (ME (fun _ => by kernel_rfl)) c4 (fun _ => by kernel_rfl) ?_
  intro lo3 H hO
  refine bC ?_
  refine bF [(2, (.msl 3 lo3 0 (List.length (([] : List aF) ++ r0))))] ?_
  refine bH ?_
  refine dD [(2, (.msl 3 lo3 0 (List.length (([] : List aF) ++ r0))))] ?_
  refine GV (en := aK) (([] : List aF) ++ r0) 0 0 2 3 lo3 (List.length (([] : List aF) ++ r0)) hO (by kernel_rfl) (by kernel_rfl) (by kernel_rfl) (L' := []) (by kernel_rfl) ?_
  intro H5 hO
  obtain rfl := oI h0
  exact aI (Q_r hO)

theorem xL {σ : Type} (I : σ → Gs → Prop) (yield0_b : Nat) (eC : σ → (List aF) → (List aB) → Option (σ × Bool)) (yield0_h : ∀ st a0 a1 st2 r, eC st a0 a1 = some (st2, r) → HJ Try.prog (yv yield0_b) I st [(eL aK a0), (eL aD a1)] st2 (aL r)) (t1 : (List aC)) (sg0 : σ) (r : σ) (h0 : mH eC t1 sg0 = some r) : AI Try.prog 131 I sg0 [(yv yield0_b), (.rp (eL aE t1))] r (.tup []) := by
  intro H0 G0 hI hg
  refine cI Try.func131 ?_
  obtain ⟨G, hO, hI⟩ : ∃ G, aO ⟨H0, List.map (fun p : Nat × cU => p.1) G0, G⟩ H0 [] ∧ I sg0 G := ⟨G0, aO.JR hg, hI⟩
  clear hg
  unfold mH at h0
  refine aY aG 1 [] [(3, (eI (0 : Int)))] ?_
  refine bP 0 ?_
  refine cT [(0, (yv yield0_b)), (1, (.rp (eL aE t1))), (3, (eI (0 : Int)))] ?_
  refine cL (fun T H => ∃ sg : σ, ∃ i3 : Int, ∃ G : Gs, Has T [(0, (yv yield0_b)), (1, (.rp (eL aE t1))), (3, (eI i3))] ∧ aO ⟨H0, List.map (fun p : Nat × cU => p.1) G0, G⟩ H [] ∧ I sg G ∧ rJ eC sg t1 i3 = some r) ?_ ⟨sg0, (0 : Int), G, .eq (by kernel_rfl), hO, hI, h0⟩
  clear hO hI h0
  rintro T H ⟨sg, i3, G, hT, hO, hI, h0⟩
  refine bB hT ?_
  clear hT
  unfold rJ at h0
  obtain ⟨rr0, hl0, h0⟩ := aV h0
  refine cB (by kernel_rfl) (fun (s : σ × Int) T H => ∃ G : Gs, Has T [(0, (yv yield0_b)), (1, (.rp (eL aE t1))), (3, (eI s.2))] ∧ aO ⟨H0, List.map (fun p : Nat × cU => p.1) G0, G⟩ H [] ∧ I s.1 G) hl0 ⟨G, .eq (by kernel_rfl), hO, hI⟩ ?_
  clear hO hI
  rintro k0 s out1 T H ⟨G, hT, hO, hI⟩ h1 ho0
  obtain ⟨sg, i3⟩ := s
  replace h1 : fO eC t1 sg i3 = some out1 := h1
  try dsimp only at hT
  refine bB hT ?_
  clear hT
  unfold fO at h1
  refine aQ ?_
  refine aY aG 4 [] [(9, (aL (decide (i3 < (lN t1)))))] ?_
  refine bL h1 (fun h1 => ?_) (fun h1 => ?_)
  · refine bN ?_
    refine bF [(0, (yv yield0_b)), (1, (.rp (eL aE t1))), (3, (eI i3))] ?_
    refine bP 1 ?_
    refine aQ ?_
    refine aT aG 6 ?_
    obtain ⟨c2, h1⟩ := bJ h1
    refine vB [0 ≤ i3 ∧ i3 < (lN t1)] ⟨c2, trivial⟩ ?_
    refine bS [] [(4, (eL aK ((gD t1 i3).Row)))] ?_
    refine aQ ?_
    refine aT aG 2 ?_
    refine xY (xs := []) (k := 2) (by kernel_rfl) (by kernel_rfl) ?_
    refine bC ?_
    refine bS [] [(5, (.sl true 0 (fun _ => .bad)))] ?_
    refine dB (fun T H => ∃ sg : σ, ∃ i3 : Int, ∃ r4 : (List aF), ∃ f5 : List aB, ∃ lo3 : Nat, ∃ G : Gs, Has T [(0, (yv yield0_b)), (1, (.rp (eL aE t1))), (3, (eI i3)), (4, (eL aK r4)), (5, (.msl 2 lo3 0 (List.length f5)))] ∧ aO ⟨H0, List.map (fun p : Nat × cU => p.1) G0, G⟩ H [(lo3, 2, List.map aD f5)] ∧ I sg G ∧ pH eC sg t1 i3 r4 f5 = some out1) ?_ ?_
    · clear hO hI h1
      rintro T H ⟨sg, i3, r4, f5, lo3, G, hT, hO, hI, h1⟩
      refine bB hT ?_
      clear hT
      unfold pH at h1
      refine aQ ?_
      refine aT aG 6 ?_
      refine BQ (e := aD) f5 0 5 2 lo3 (List.length f5) [] (by kernel_rfl) hO (by kernel_rfl) (by kernel_rfl) (by kernel_rfl) (by kernel_rfl) ?_
      intro H hO
      refine bM 2 ?_
      obtain ⟨x7, hx8, h1⟩ := aV h1
      refine cJ (DV r4 _ hx8) hO ?_
      intro H hO
      refine bM 4 ?_
      obtain ⟨x10, hx11, h1⟩ := aV h1
      refine UK (I := I) (yv yield0_b) [(eL aK x7), (eL aD f5)] (aL x10.2) (by kernel_rfl) (by kernel_rfl) (yield0_h _ x7 f5 x10.1 x10.2 hx11) hO hI ?_
      intro G H hO hI
      refine bC ?_
      refine bS [4, 5] [(50, (aL (!x10.2)))] ?_
      refine bL h1 (fun h1 => ?_) (fun h1 => ?_)
      · refine bH ?_
        obtain rfl := oI h1
        obtain rfl : _ = rr0 := ho0
        replace h0 : some x10.1 = some r := h0
        obtain rfl := oI h0
        exact aI (bR (bA (bR (pY (x := (.tup [])) (by kernel_rfl) (aX.refl _) ⟨rfl, G, hI, hO.GN⟩))))
      refine bN ?_
      exact aI (aU (aH (⟨rfl, _, (oI h1).symm, _, .eq (by kernel_rfl), hO, hI⟩)))
    refine bP 2 ?_
    refine cT [(0, (yv yield0_b)), (1, (.rp (eL aE t1))), (3, (eI i3)), (4, (eL aK ((gD t1 i3).Row))), (5, (.sl true 0 (fun _ => .bad)))] ?_
    refine XE (el := (fun _ => .bad)) 4 5 2 hO (by kernel_rfl) ?_
    intro lo24 H25 hO
    refine cL (fun T H => ∃ sg : σ, ∃ i3 : Int, ∃ r4 : (List aF), ∃ f5 : List aB, ∃ lo14 : Nat, ∃ G : Gs, Has T [(0, (yv yield0_b)), (1, (.rp (eL aE t1))), (3, (eI i3)), (4, (eL aK r4)), (5, (.msl 2 lo14 0 (List.length f5)))] ∧ aO ⟨H0, List.map (fun p : Nat × cU => p.1) G0, G⟩ H [(lo14, 2, List.map aD f5)] ∧ I sg G ∧ rM eC sg t1 i3 r4 f5 = some out1) ?_ ⟨sg, i3, (gD t1 i3).Row, ([] : List aB), lo24, G, .eq (by kernel_rfl), hO, hI, h1⟩
    clear hO hI h1
    rintro T H ⟨sg, i3, r4, f5, lo14, G, hT, hO, hI, h1⟩
    refine bB hT ?_
    clear hT
    unfold rM at h1
    obtain ⟨rr1, hl1, h1⟩ := aV h1
    refine cB (by kernel_rfl) (fun (s : σ × Int × List aB) T H => ∃ lo14 : Nat, ∃ G : Gs, Has T [(0, (yv yield0_b)), (1, (.rp (eL aE t1))), (3, (eI s.2.1)), (4, (eL aK r4)), (5, (.msl 2 lo14 0 (List.length s.2.2)))] ∧ aO ⟨H0, List.map (fun p : Nat × cU => p.1) G0, G⟩ H [(lo14, 2, List.map aD s.2.2)] ∧ I s.1 G) hl1 ⟨lo14, G, .eq (by kernel_rfl), hO, hI⟩ ?_
    clear hO hI
    rintro k1 s out2 T H ⟨lo14, G, hT, hO, hI⟩ h2 ho1
    obtain ⟨sg, i3, f5⟩ := s
    replace h2 : gT eC t1 r4 sg i3 f5 = some out2 := h2
    try dsimp only at hT
    refine bB hT ?_
    clear hT
    unfold gT at h2
    refine aQ ?_
    refine aQ ?_
    refine aT aG 13 ?_
    obtain ⟨c15, h2⟩ := bJ h2
    refine qG 11 [(((decide (i3 < (lN t1)))) = true → 0 ≤ i3 ∧ i3 < (lN t1))] ⟨c15, trivial⟩ ?_
    obtain ⟨x16, hx17, h2⟩ := aV h2
    refine gQ [(20, true)] 78 [(eL aK ((gD t1 i3).Row)), (eL aK r4)] (aL x16) (decide (i3 < (lN t1))) (by kernel_rfl) (by kernel_rfl) (by kernel_rfl) (fun hb18 => (EI ((gD t1 i3).Row) r4 _ (jH hx17 hb18))) hO ?_
    intro H hO
    refine bC ?_
    refine bS [] [(28, (aL ((decide (i3 < (lN t1))) && x16)))] ?_
    refine bL h2 (fun h2 => ?_) (fun h2 => ?_)
    · refine bN ?_
      refine bF [(0, (yv yield0_b)), (1, (.rp (eL aE t1))), (3, (eI i3)), (4, (eL aK r4)), (5, (.msl 2 lo14 0 (List.length f5)))] ?_
      refine aQ ?_
      refine bP 3 ?_
      refine kC (jO [32, 36, 37, 41, 43]) aG 15 ?_
      obtain ⟨c20, h2⟩ := bJ h2
      obtain ⟨c21, h2⟩ := bJ h2
      refine dM 12 [0 ≤ i3 ∧ i3 < (lN t1), 0 ≤ i3 ∧ i3 < (lN t1)] ⟨c20, c21, trivial⟩ ?_
      refine OX (xs := [(aD (aB.mk ((gD t1 i3).At) ((gD t1 i3).Net)))]) (k := 2) (by kernel_rfl) (by kernel_rfl) ?_
      obtain ⟨c23, h2⟩ := bJ h2
      refine LL (e := aD) f5 ([aB.mk ((gD t1 i3).At) ((gD t1 i3).Net)]) 0 lo14 2 16 (fI [(aD (aB.mk ((gD t1 i3).At) ((gD t1 i3).Net)))]) (fun lo22 => [(lo22, 2, List.map aD (f5 ++ ([aB.mk ((gD t1 i3).At) ((gD t1 i3).Net)])))]) (by kernel_rfl) (by kernel_rfl) hO (by kernel_rfl) (by kernel_rfl) c23 (fun _ => by kernel_rfl) ?_
      intro lo22 H hO
      refine qF ?_
      refine dD [(0, (yv yield0_b)), (1, (.rp (eL aE t1))), (3, (eI i3)), (4, (eL aK r4)), (5, (.msl 2 lo22 0 (List.length (f5 ++ ([aB.mk ((gD t1 i3).At) ((gD t1 i3).Net)])))))] ?_
      refine aI (aU (aH (?_)))
      refine aT aG 3 ?_
      refine bC ?_
      exact aI (aH (⟨rfl, _, (oI h2).symm, _, _, .eq (by kernel_rfl), hO, hI⟩))
    refine dU 2 ?_
    obtain rfl := oI h2
    obtain rfl : _ = rr1 := ho1
    replace h1 : pH eC sg t1 i3 r4 f5 = some out1 := h1
    exact aI (aZ (aZ (bO (aH (⟨rfl, _, _, _, _, _, _, .eq (by kernel_rfl), hO, hI, h1⟩)))))
  refine dU 0 ?_
  obtain rfl := oI h1
  obtain rfl : _ = rr0 := ho0
  replace h0 : some sg = some r := h0
  obtain rfl := oI h0
  exact aI (aZ (aZ (bO (qN (x := (.tup [])) (by kernel_rfl) (aX.refl _) ⟨rfl, G, hI, hO.GN⟩))))

theorem VW (lo0p : Nat) (l0 : (List aC)) (r1 : (List aF)) (f2 : (List aB)) (r : (List aC)) (h0 : xT l0 r1 f2 = some r) : EM Try.prog 106 lo0p 3 (List.map aE l0) [(.msl 3 lo0p 0 (List.length l0)), (eL aK r1), (eL aD f2)] (fun lo => .msl 3 lo 0 (List.length r)) (List.map aE r) := by
  intro H0 hl0
  refine cI Try.func106 ?_
  have hO := aO.pZ hl0
  clear hl0
  unfold xT at h0
  refine aY aG 1 [] [] ?_
  refine dB (fun T H => ∃ l0 : List aC, ∃ lo1 : Nat, Has T [(0, (.msl 3 lo1 0 (List.length l0)))] ∧ aO ⟨H0, [lo0p], []⟩ H [(lo1, 3, List.map aE l0)] ∧ yZ l0 = some r) ?_ ?_
  · clear hO h0
    rintro T H ⟨l0, lo1, hT, hO, h0⟩
    refine bB hT ?_
    clear hT
    unfold yZ at h0
    refine bV aG 2 [(6, (.msl 3 lo1 0 (List.length l0)))] ?_
    refine bH ?_
    obtain rfl := oI h0
    exact aI (pY (x := (.msl 3 lo1 0 (List.length l0))) (by kernel_rfl) (aX.refl _) ⟨lo1, rfl, hO⟩)
  refine aY aG 3 [2] [(9, (eL aD f2)), (10, (eI (lN f2))), (11, (eI (0 : Int)))] ?_
  refine bP 0 ?_
  refine cT [(0, (.msl 3 lo0p 0 (List.length l0))), (1, (eL aK r1)), (9, (eL aD f2)), (10, (eI (lN f2))), (11, (eI (0 : Int)))] ?_
  refine cL (fun T H => ∃ l0 : List aC, ∃ t9 : (List aB), ∃ t10 : Int, ∃ t11 : Int, ∃ lo3 : Nat, Has T [(0, (.msl 3 lo3 0 (List.length l0))), (1, (eL aK r1)), (9, (eL aD t9)), (10, (eI t10)), (11, (eI t11))] ∧ aO ⟨H0, [lo0p], []⟩ H [(lo3, 3, List.map aE l0)] ∧ yX l0 r1 t9 t10 t11 = some r) ?_ ⟨l0, f2, (lN f2), (0 : Int), lo0p, .eq (by kernel_rfl), hO, h0⟩
  clear hO h0
  rintro T H ⟨l0, t9, t10, t11, lo3, hT, hO, h0⟩
  refine bB hT ?_
  clear hT
  unfold yX at h0
  obtain ⟨rr0, hl0, h0⟩ := aV h0
  refine cB (by kernel_rfl) (fun (s : List aC × Int) T H => ∃ lo3 : Nat, Has T [(0, (.msl 3 lo3 0 (List.length s.1))), (1, (eL aK r1)), (9, (eL aD t9)), (10, (eI t10)), (11, (eI s.2))] ∧ aO ⟨H0, [lo0p], []⟩ H [(lo3, 3, List.map aE s.1)]) hl0 ⟨lo3, .eq (by kernel_rfl), hO⟩ ?_
  clear hO
  rintro k0 s out1 T H ⟨lo3, hT, hO⟩ h1 ho0
  obtain ⟨l0, t11⟩ := s
  replace h1 : oP r1 t9 t10 l0 t11 = some out1 := h1
  try dsimp only at hT
  refine bB hT ?_
  clear hT
  unfold oP at h1
  refine aY aG 1 [] [(12, (aL (decide (t11 < t10))))] ?_
  refine aQ ?_
  refine bL h1 (fun h1 => ?_) (fun h1 => ?_)
  · refine bN ?_
    refine bF [(0, (.msl 3 lo3 0 (List.length l0))), (1, (eL aK r1)), (9, (eL aD t9)), (10, (eI t10)), (11, (eI t11))] ?_
    refine aQ ?_
    refine bP 1 ?_
    refine aQ ?_
    refine aT aG 4 ?_
    obtain ⟨c5, h1⟩ := bJ h1
    refine qG 2 [0 ≤ t11 ∧ t11 < (lN t9)] ⟨c5, trivial⟩ ?_
    refine nB 2 (aD (aB.mk 0 0)) (by kernel_rfl) (by kernel_rfl) hO ?_
    intro lo6 H hO
    refine iW 1 lo6 2 0 (aD (aB.mk 0 0)) (aD (gD t9 t11)) [(aD (aB.mk 0 0))] [(lo3, 3, List.map aE l0), (lo6, 2, [(aD (gD t9 t11))])] hO rfl (by kernel_rfl) ?_
    intro H hO
    refine cH ?_
    refine bS [] [(8, (.lp lo6 0 0))] ?_
    refine cT [(0, (.msl 3 lo3 0 (List.length l0))), (1, (eL aK r1)), (8, (.lp lo6 0 0)), (9, (eL aD t9)), (10, (eI t10)), (11, (eI t11))] ?_
    refine NI 2 1 8 2 lo6 (aD (gD t9 t11)) [(lo3, 3, List.map aE l0)] hO (by kernel_rfl) (by kernel_rfl) (by kernel_rfl) ?_
    intro H hO
    refine kC (jO [19, 21, 23]) aG 11 ?_
    refine uJ 2 ?_
    obtain ⟨x7, hx8, h1⟩ := aV h1
    refine yF (DV r1 _ hx8) hO ?_
    intro H hO
    refine uJ 8 ?_
    refine OX (xs := [(aE (aC.mk x7 ((gD t9 t11).At) ((gD t9 t11).Net)))]) (k := 3) (by kernel_rfl) (by kernel_rfl) ?_
    obtain ⟨c11, h1⟩ := bJ h1
    refine LL (e := aE) l0 ([aC.mk x7 ((gD t9 t11).At) ((gD t9 t11).Net)]) 0 lo3 3 40 (fI [(aE (aC.mk x7 ((gD t9 t11).At) ((gD t9 t11).Net)))]) (fun lo10 => [(lo10, 3, List.map aE (l0 ++ ([aC.mk x7 ((gD t9 t11).At) ((gD t9 t11).Net)])))]) (by kernel_rfl) (by kernel_rfl) hO (by kernel_rfl) (by kernel_rfl) c11 (fun _ => by kernel_rfl) ?_
    intro lo10 H hO
    refine qF ?_
    refine dD [(0, (.msl 3 lo10 0 (List.length (l0 ++ ([aC.mk x7 ((gD t9 t11).At) ((gD t9 t11).Net)]))))), (1, (eL aK r1)), (9, (eL aD t9)), (10, (eI t10)), (11, (eI t11))] ?_
    refine aI (aU (aH (?_)))
    refine aT aG 2 ?_
    refine bC ?_
    exact aI (aH (⟨rfl, _, (oI h1).symm, _, .eq (by kernel_rfl), hO⟩))
  refine dU 0 ?_
  obtain rfl := oI h1
  obtain rfl : _ = rr0 := ho0
  replace h0 : yZ l0 = some r := h0
  exact aI (aZ (aZ (bO (aH (⟨rfl, _, _, .eq (by kernel_rfl), hO, h0⟩)))))

theorem OI (l0 : (List aC)) (by1_f : Nat) (by1_a by1_c : List V) (by1 : (List aB) → Option ((List aB) × Int)) (by1_h : ∀ a0 r, by1 a0 = some r → bT Try.prog by1_f (by1_a ++ [(eL aD a0)] ++ by1_c) (.tup [(eL aD r.1), (eI r.2)])) (r : ((List aC) × Int)) (h0 : sO l0 by1 = some r) : bT Try.prog 65 [(eL aE l0), (.fn (.func by1_f) by1_a by1_c)] (.tup [(eL aE r.1), (eI r.2)]) := by
  intro H0
  refine AN aG Try.func65 (by kernel_rfl) (by kernel_rfl) (by kernel_rfl) ?_
  have hO := aO.start H0
  unfold sO at h0
  refine aQ ?_
  refine aT aG 3 ?_
  refine gO 1 (.fn (.func by1_f) by1_a by1_c) (by kernel_rfl) (by kernel_rfl) ?_
  refine qE 1 (.sl true 0 (fun _ => .bad)) (eL aE ([])) (by kernel_rfl) (by kernel_rfl) (by kernel_rfl) (fJ) (by kernel_rfl) (by kernel_rfl) hO ?_
  intro lo1 H hO
  refine nB 1 (eI 0) (by kernel_rfl) (by kernel_rfl) hO ?_
  intro lo2 H hO
  refine cH ?_
  refine bS [1] [(3, (.rp (.fn (.func by1_f) by1_a by1_c))), (4, (.lp lo1 0 0)), (5, (.lp lo2 0 0))] ?_
  refine aQ ?_
  refine aT aG 3 ?_
  refine xY (xs := []) (k := 3) (by kernel_rfl) (by kernel_rfl) ?_
  refine qE 1 (.sl true 0 (fun _ => .bad)) (eL aE ([])) (by kernel_rfl) (by kernel_rfl) (by kernel_rfl) (fJ) (by kernel_rfl) (by kernel_rfl) hO ?_
  intro lo3 H hO
  refine aB0 11 3 (fun _ => .bad) (by kernel_rfl) hO (by kernel_rfl) ?_
  intro lo4 H hO
  refine iW 2 lo3 1 0 (eL aE ([])) (.msl 3 lo4 0 (List.length ([] : List aC))) [(eL aE ([]))] [(lo1, 1, [(eL aE ([]))]), (lo2, 1, [(eI 0)]), (lo3, 1, [(.msl 3 lo4 0 (List.length ([] : List aC)))]), (lo4, 3, List.map aE ([] : List aC))] hO rfl (by kernel_rfl) ?_
  intro H hO
  refine cH ?_
  refine bS [] [(6, (.lp lo3 0 0))] ?_
  refine aQ ?_
  refine aQ ?_
  refine aT aG 2 ?_
  refine bM 1 ?_
  obtain ⟨x5, hx6, h0⟩ := aV h0
  refine cJ (CP l0 _ hx6) hO ?_
  intro H hO
  refine cH ?_
  refine bS [0] [(13, (.fn (.func 131) [] [(.rp (eL aE x5))]))] ?_
  refine bP 0 ?_
  refine cT [(3, (.rp (.fn (.func by1_f) by1_a by1_c))), (4, (.lp lo1 0 0)), (5, (.lp lo2 0 0)), (6, (.lp lo3 0 0)), (13, (.fn (.func 131) [] [(.rp (eL aE x5))]))] ?_
  refine cL (fun T H => ∃ t4 : (List aC), ∃ t5 : Int, ∃ out6 : List aC, ∃ kB : (List aC), ∃ lo7 : Nat, Has T [(3, (.rp (.fn (.func by1_f) by1_a by1_c))), (4, (.lp lo1 0 0)), (5, (.lp lo2 0 0)), (6, (.lp lo3 0 0)), (13, (.fn (.func 131) [] [(.rp (eL aE kB))]))] ∧ aO ⟨H0, [], []⟩ H [(lo1, 1, [(eL aE t4)]), (lo2, 1, [(eI t5)]), (lo3, 1, [(.msl 3 lo7 0 (List.length out6))]), (lo7, 3, List.map aE out6)] ∧ uP by1 t4 t5 out6 kB = some r) ?_ ⟨[], 0, ([] : List aC), x5, lo4, .eq (by kernel_rfl), hO, h0⟩
  clear hO h0
  rintro T H ⟨t4, t5, out6, kB, lo7, hT, hO, h0⟩
  refine bB (l := [(3, (.rp (.fn (.func by1_f) by1_a by1_c))), (4, (.lp lo1 0 0)), (5, (.lp lo2 0 0)), (6, (.lp lo3 0 0)), (13, (.fn (.func 131) [] [(.rp (eL aE kB))]))]) hT ?_
  clear hT
  unfold uP at h0
  obtain ⟨o0, hl0, h0⟩ := aV h0
  refine yK (fid := 131) (ys := []) (cs := [(.rp (eL aE kB))]) #[14, 15] (fun (A : xQ) (b lL : Nat) (st : ((List aC) × Int × List aC) ⊕ ((List aC) × Int × List aC)) (G' : Gs) => Sum.elim (fun (s : (List aC) × Int × List aC) => ∃ lo7 : Nat, G' = (lL, .raw (iZ b A .ready none)) :: (up [(lo1, 1, [(eL aE s.1)]), (lo2, 1, [(eI s.2.1)]), (lo3, 1, [(.msl 3 lo7 0 (List.length s.2.2))]), (lo7, 3, List.map aE s.2.2)] ++ [])) (fun (s : (List aC) × Int × List aC) => ∃ lo7 : Nat, G' = (lL, .raw (iZ b A .done (some .ret))) :: (up [(lo1, 1, [(eL aE s.1)]), (lo2, 1, [(eI s.2.1)]), (lo3, 1, [(.msl 3 lo7 0 (List.length s.2.2))]), (lo7, 3, List.map aE s.2.2)] ++ [])) st) (.inl (t4, t5, out6)) o0 (.tup []) (by kernel_rfl) (by kernel_rfl) (by kernel_rfl) hO (fun _ _ => ⟨lo7, rfl⟩) ?_ ?_
  · intro b lL
    clear hO h0
    refine xL _ b (fun st t14 t15 => rnd (fun (s : (List aC) × Int × List aC) => nC by1 kB s.1 s.2.1 s.2.2 t14 t15) st) ?_ kB _ _ hl0
    intro st t14 t15 out1 rr hr
    obtain ⟨s, rfl, h1, rfl⟩ := MF hr
    clear hr
    intro Hr Gr hi hg
    obtain ⟨t4, t5, out6⟩ := s
    dsimp only [Sum.elim_inl] at hi
    obtain ⟨lo7, rfl⟩ := hi
    replace h1 : nC by1 kB t4 t5 out6 t14 t15 = some out1 := h1
    unfold nC at h1
    obtain ⟨E1, hE, hO⟩ := tB hg
    refine sW (yJ (hO.gm 0 _ rfl).2 (by kernel_rfl) (by kernel_rfl) ?_)
    refine cT [(3, (.rp (.fn (.func by1_f) by1_a by1_c))), (4, (.lp lo1 0 0)), (5, (.lp lo2 0 0)), (6, (.lp lo3 0 0)), (13, (.fn (.func 131) [] [(.rp (eL aE kB))])), (14, (eL aK t14)), (15, (eL aD t15))] ?_
    refine aY aG 1 [13, 14] [(7, (eL aK t14))] ?_
    refine aT aG 1 ?_
    refine bC ?_
    refine dD [(3, (.rp (.fn (.func by1_f) by1_a by1_c))), (4, (.lp lo1 0 0)), (5, (.lp lo2 0 0)), (6, (.lp lo3 0 0)), (7, (eL aK t14)), (8, (eL aD t15))] ?_
    refine aI (⟨rfl, rfl, (hO.gm 0 _ rfl).2, ?_⟩)
    intro o1 ho1
    replace hO := hO.rS o1
    refine bP 1 ?_
    refine aQ ?_
    refine aT aG 8 ?_
    refine bM 2 ?_
    obtain ⟨x8, hx9, h1⟩ := aV h1
    refine cJ (by1_h t15 _ hx9) hO ?_
    intro H hO
    refine bC ?_
    refine bS [3, 8] [(9, (eL aD x8.1)), (10, (eI x8.2))] ?_
    refine aQ ?_
    refine aY aG 2 [] [(23, (aL (!decide (x8.2 = (0 : Int)))))] ?_
    refine bL h1 (fun h1 => ?_) (fun h1 => ?_)
    · refine aQ ?_
      refine aT aG 3 ?_
      refine bM 1 ?_
      refine iW 0 lo1 1 0 (eL aE t4) (.sl true 0 (fun _ => .bad)) [(eL aE t4)] [(lo1, 1, [(.sl true 0 (fun _ => .bad))]), (lo2, 1, [(eI t5)]), (lo3, 1, [(.msl 3 lo7 0 (List.length out6))]), (lo7, 3, List.map aE out6)] hO rfl (by kernel_rfl) ?_
      intro H hO
      refine iW 1 lo2 1 0 (eI t5) (eI x8.2) [(eI t5)] [(lo1, 1, [(.sl true 0 (fun _ => .bad))]), (lo2, 1, [(eI x8.2)]), (lo3, 1, [(.msl 3 lo7 0 (List.length out6))]), (lo7, 3, List.map aE out6)] hO rfl (by kernel_rfl) ?_
      intro H hO
      refine cH ?_
      refine AT 0 lo1 1 (.sl true 0 (fun _ => .bad)) (eL aE ([])) [(lo1, 1, [(eL aE ([]))]), (lo2, 1, [(eI x8.2)]), (lo3, 1, [(.msl 3 lo7 0 (List.length out6))]), (lo7, 3, List.map aE out6)] hO (by kernel_rfl) (by kernel_rfl) fJ (by kernel_rfl) ?_
      intro H hO
      refine bF [(4, (.lp lo1 0 0)), (5, (.lp lo2 0 0)), (6, (.lp lo3 0 0))] ?_
      refine bH ?_
      refine dD [(4, (.lp lo1 0 0)), (5, (.lp lo2 0 0)), (6, (.lp lo3 0 0))] ?_
      obtain rfl := oI h1
      exact aI (bA (bR (⟨(dZ hO hE ho1 .dead).1, rfl, _, ⟨lo7, rfl⟩, (dZ hO hE ho1 _).2⟩)))
    refine bN ?_
    refine bF [(4, (.lp lo1 0 0)), (5, (.lp lo2 0 0)), (6, (.lp lo3 0 0)), (7, (eL aK t14)), (9, (eL aD x8.1))] ?_
    refine aQ ?_
    refine aT aG 5 ?_
    refine lM 2 lo3 1 0 (.msl 3 lo7 0 (List.length out6)) (.msl 3 lo7 0 (List.length out6)) [(.msl 3 lo7 0 (List.length out6))] hO rfl ?_
    refine bM 3 ?_
    obtain ⟨x12, hx13, h1⟩ := aV h1
    refine aBf (L' := fun lo14 => [(lo1, 1, [(eL aE t4)]), (lo2, 1, [(eI t5)]), (lo3, 1, [(.msl 3 lo7 0 (List.length out6))]), (lo14, 3, List.map aE x12)]) 3 lo7 3 (List.map aE out6) (List.map aE x12) 106 [(.msl 3 lo7 0 (List.length out6)), (eL aK t14), (eL aD x8.1)] (fun lo14 => (.msl 3 lo14 0 (List.length x12))) (by kernel_rfl) (by kernel_rfl) (VW lo7 out6 t14 x8.1 _ hx13) hO (by kernel_rfl) (fun _ => by kernel_rfl) ?_
    intro lo14 H hO
    refine iW 2 lo3 1 0 (.msl 3 lo7 0 (List.length out6)) (.msl 3 lo14 0 (List.length x12)) [(.msl 3 lo7 0 (List.length out6))] [(lo1, 1, [(eL aE t4)]), (lo2, 1, [(eI t5)]), (lo3, 1, [(.msl 3 lo14 0 (List.length x12))]), (lo14, 3, List.map aE x12)] hO rfl (by kernel_rfl) ?_
    intro H hO
    refine cH ?_
    refine bS [7, 9] [] ?_
    refine aQ ?_
    refine aT aG 3 ?_
    refine lM 2 lo3 1 0 (.msl 3 lo14 0 (List.length x12)) (.msl 3 lo14 0 (List.length x12)) [(.msl 3 lo14 0 (List.length x12))] hO rfl ?_
    refine bC ?_
    refine bS [] [(31, (aL (decide ((4096 : Int) < (lN x12)))))] ?_
    refine bL h1 (fun h1 => ?_) (fun h1 => ?_)
    · refine aQ ?_
      refine aT aG 2 ?_
      refine iW 0 lo1 1 0 (eL aE t4) (.sl true 0 (fun _ => .bad)) [(eL aE t4)] [(lo1, 1, [(.sl true 0 (fun _ => .bad))]), (lo2, 1, [(eI t5)]), (lo3, 1, [(.msl 3 lo14 0 (List.length x12))]), (lo14, 3, List.map aE x12)] hO rfl (by kernel_rfl) ?_
      intro H hO
      refine iW 1 lo2 1 0 (eI t5) (eI (7 : Int)) [(eI t5)] [(lo1, 1, [(.sl true 0 (fun _ => .bad))]), (lo2, 1, [(eI (7 : Int))]), (lo3, 1, [(.msl 3 lo14 0 (List.length x12))]), (lo14, 3, List.map aE x12)] hO rfl (by kernel_rfl) ?_
      intro H hO
      refine cH ?_
      refine AT 0 lo1 1 (.sl true 0 (fun _ => .bad)) (eL aE ([])) [(lo1, 1, [(eL aE ([]))]), (lo2, 1, [(eI (7 : Int))]), (lo3, 1, [(.msl 3 lo14 0 (List.length x12))]), (lo14, 3, List.map aE x12)] hO (by kernel_rfl) (by kernel_rfl) fJ (by kernel_rfl) ?_
      intro H hO
      refine bF [(4, (.lp lo1 0 0)), (5, (.lp lo2 0 0)), (6, (.lp lo3 0 0))] ?_
      refine bH ?_
      refine dD [(4, (.lp lo1 0 0)), (5, (.lp lo2 0 0)), (6, (.lp lo3 0 0))] ?_
      obtain rfl := oI h1
      exact aI (bR (⟨(dZ hO hE ho1 .dead).1, rfl, _, ⟨lo14, rfl⟩, (dZ hO hE ho1 _).2⟩))
    refine bN ?_
    refine dD [(4, (.lp lo1 0 0)), (5, (.lp lo2 0 0)), (6, (.lp lo3 0 0))] ?_
    obtain rfl := oI h1
    exact aI (aU (⟨(dZ hO hE ho1 .dead).1, rfl, _, ⟨lo14, rfl⟩, (dZ hO hE ho1 _).2⟩))
  · intro b lD16 lL H' G' hi hO
    rcases o0 with s | s
    · dsimp only [Sum.elim_inl] at hi
      obtain ⟨lo7, rfl⟩ := hi
      replace h0 : (some (s.2.2, (0 : Int))) = some r := h0
      obtain ⟨hlL, hO⟩ := nL hO
      refine ⟨_, _, hlL, (by intro e; cases e), ?_⟩
      refine dD [(4, (.lp lo1 0 0)), (5, (.lp lo2 0 0)), (6, (.lp lo3 0 0))] ?_
      refine aI (aU (aH (?_)))
      refine aQ ?_
      refine VN (e := aE) s.2.2 2 3 1 3 lo3 lo7 (List.length s.2.2) [(lo1, 1, [(eL aE s.1)]), (lo2, 1, [(eI s.2.1)]), (lo3, 1, [(eL aE s.2.2)])] hO (by kernel_rfl) (by kernel_rfl) (by kernel_rfl) (.inr (by decide)) (by kernel_rfl) ?_
      intro H hO
      refine aT aG 3 ?_
      refine lM 2 lo3 1 0 (eL aE s.2.2) (eL aE s.2.2) [(eL aE s.2.2)] hO rfl ?_
      refine iW 0 lo1 1 0 (eL aE s.1) (eL aE s.2.2) [(eL aE s.1)] [(lo1, 1, [(eL aE s.2.2)]), (lo2, 1, [(eI s.2.1)]), (lo3, 1, [(eL aE s.2.2)])] hO rfl (by kernel_rfl) ?_
      intro H hO
      refine iW 1 lo2 1 0 (eI s.2.1) (eI (0 : Int)) [(eI s.2.1)] [(lo1, 1, [(eL aE s.2.2)]), (lo2, 1, [(eI (0 : Int))]), (lo3, 1, [(eL aE s.2.2)])] hO rfl (by kernel_rfl) ?_
      intro H hO
      refine cH ?_
      replace hO := hO.pick (L' := [(lo1, 1, [(eL aE s.2.2)]), (lo2, 1, [(eI (0 : Int))])]) [0, 1] (by decide) (by kernel_rfl)
      refine bS [6] [] ?_
      refine bH ?_
      obtain rfl := oI h0
      have hD := (hO.gm 0 _ rfl).2
      replace hO := (hO.rS .dead).rI
      exact aI (QM1 (.inr rfl) hD (rs := [.cell 4 45, .cell 5 24]) (xs := [(eL aE s.2.2), (eI (0 : Int))]) (x := (.tup [(eL aE s.2.2), (eI (0 : Int))])) (by kernel_rfl) (qY (lo := lo1) (k := 1) (y := (eL aE s.2.2)) (x := (eL aE s.2.2)) 0 hO (by kernel_rfl) (by kernel_rfl) (by kernel_rfl) (by kernel_rfl) (qY (lo := lo2) (k := 1) (y := (eI (0 : Int))) (x := (eI (0 : Int))) 1 hO (by kernel_rfl) (by kernel_rfl) (by kernel_rfl) (by kernel_rfl) nZ)) (by kernel_rfl) ⟨rfl, hO.out⟩)
    · dsimp only [Sum.elim_inr] at hi
      obtain ⟨lo7, rfl⟩ := hi
      replace h0 : (some (s.1, s.2.1)) = some r := h0
      obtain ⟨hlL, hO⟩ := nL hO
      refine ⟨_, _, hlL, (by intro e; cases e), ?_⟩
      refine bH ?_
      replace hO := hO.pick (L' := [(lo1, 1, [(eL aE s.1)]), (lo2, 1, [(eI s.2.1)])]) [0, 1] (by decide) (by kernel_rfl)
      obtain rfl := oI h0
      have hD := (hO.gm 0 _ rfl).2
      replace hO := (hO.rS .dead).rI
      exact aI (bR (bA (QM1 (.inr rfl) hD (rs := [.cell 4 45, .cell 5 24]) (xs := [(eL aE s.1), (eI s.2.1)]) (x := (.tup [(eL aE s.1), (eI s.2.1)])) (by kernel_rfl) (qY (lo := lo1) (k := 1) (y := (eL aE s.1)) (x := (eL aE s.1)) 0 hO (by kernel_rfl) (by kernel_rfl) (by kernel_rfl) (by kernel_rfl) (qY (lo := lo2) (k := 1) (y := (eI s.2.1)) (x := (eI s.2.1)) 1 hO (by kernel_rfl) (by kernel_rfl) (by kernel_rfl) (by kernel_rfl) nZ)) (by kernel_rfl) ⟨rfl, hO.out⟩)))

theorem uF (s0 : (List aB)) (f1_f : Nat) (f1_a f1_c : List V) (f1 : aB → Option Bool) (f1_h : ∀ a0 r, f1 a0 = some r → bT Try.prog f1_f (f1_a ++ [(aD a0)] ++ f1_c) (aL r)) (r : Int) (h0 : fK s0 f1 = some r) : bT Try.prog 132 [(eL aD s0), (.fn (.func f1_f) f1_a f1_c)] (eI r) := by
  intro H0
  refine cI Try.func132 ?_
  have hO := aO.start H0
  unfold fK at h0
  refine aY aG 1 [] [] ?_
  refine dB (fun T H => Has T [] ∧ aO ⟨H0, [], []⟩ H [] ∧ dO f1  = some r) ?_ ?_
  · clear hO h0
    rintro T H ⟨hT, hO, h0⟩
    refine bB hT ?_
    clear hT
    unfold dO at h0
    refine bV aG 1 [(4, (eI (-1 : Int)))] ?_
    refine bH ?_
    obtain rfl := oI h0
    exact aI (Q_r hO)
  refine aY aG 3 [] [(7, (eI (lN s0))), (8, (eI (0 : Int)))] ?_
  refine bP 0 ?_
  refine cT [(0, (eL aD s0)), (1, (.fn (.func f1_f) f1_a f1_c)), (7, (eI (lN s0))), (8, (eI (0 : Int)))] ?_
  refine cL (fun T H => ∃ t7 : Int, ∃ t8 : Int, Has T [(0, (eL aD s0)), (1, (.fn (.func f1_f) f1_a f1_c)), (7, (eI t7)), (8, (eI t8))] ∧ aO ⟨H0, [], []⟩ H [] ∧ fE f1 s0 t7 t8 = some r) ?_ ⟨(lN s0), (0 : Int), .eq (by kernel_rfl), hO, h0⟩
  clear hO h0
  rintro T H ⟨t7, t8, hT, hO, h0⟩
  refine bB hT ?_
  clear hT
  unfold fE at h0
  obtain ⟨rr0, hl0, h0⟩ := aV h0
  refine cB (by kernel_rfl) (fun (s : Int) T H => Has T [(0, (eL aD s0)), (1, (.fn (.func f1_f) f1_a f1_c)), (7, (eI t7)), (8, (eI s))] ∧ aO ⟨H0, [], []⟩ H []) hl0 ⟨.eq (by kernel_rfl), hO⟩ ?_
  clear hO
  rintro k0 s out1 T H ⟨hT, hO⟩ h1 ho0
  obtain ⟨t8, rfl⟩ : ∃ x, x = s := ⟨_, rfl⟩
  replace h1 : fC f1 s0 t7 t8 = some out1 := h1
  refine bB hT ?_
  clear hT
  unfold fC at h1
  refine aY aG 1 [] [(9, (aL (decide (t8 < t7))))] ?_
  refine aQ ?_
  refine bL h1 (fun h1 => ?_) (fun h1 => ?_)
  · refine bN ?_
    refine bF [(0, (eL aD s0)), (1, (.fn (.func f1_f) f1_a f1_c)), (7, (eI t7)), (8, (eI t8))] ?_
    refine aQ ?_
    refine bP 1 ?_
    refine aY aG 2 [] [(5, (eI t8))] ?_
    refine aQ ?_
    refine aT aG 6 ?_
    obtain ⟨c2, h1⟩ := bJ h1
    refine qG 5 [0 ≤ t8 ∧ t8 < (lN s0)] ⟨c2, trivial⟩ ?_
    obtain ⟨x3, hx4, h1⟩ := aV h1
    refine cJ (f1_h (gD s0 t8) _ hx4) hO ?_
    intro H hO
    refine cH ?_
    refine bS [] [(16, (aL x3))] ?_
    refine bL h1 (fun h1 => ?_) (fun h1 => ?_)
    · refine bV aG 2 [(4, (eI t8))] ?_
      refine bH ?_
      obtain rfl := oI h1
      obtain rfl : _ = rr0 := ho0
      replace h0 : some t8 = some r := h0
      obtain rfl := oI h0
      exact aI (bR (bA (bA (bR (bA (Q_r hO))))))
    refine bN ?_
    refine dD [(0, (eL aD s0)), (1, (.fn (.func f1_f) f1_a f1_c)), (7, (eI t7)), (8, (eI t8))] ?_
    refine aI (aU (aH (?_)))
    refine aT aG 2 ?_
    refine bC ?_
    exact aI (aH (⟨rfl, _, (oI h1).symm, .eq (by kernel_rfl), hO⟩))
  refine dU 0 ?_
  obtain rfl := oI h1
  obtain rfl : _ = rr0 := ho0
  replace h0 : dO f1  = some r := h0
  exact aI (aZ (aZ (bO (aH (⟨rfl, .eq (by kernel_rfl), hO, h0⟩)))))

theorem mS (s0 : (List aB)) (f1_f : Nat) (f1_a f1_c : List V) (f1 : aB → Option Bool) (f1_h : ∀ a0 r, f1 a0 = some r → bT Try.prog f1_f (f1_a ++ [(aD a0)] ++ f1_c) (aL r)) (r : Bool) (h0 : cQ s0 f1 = some r) : bT Try.prog 107 [(eL aD s0), (.fn (.func f1_f) f1_a f1_c)] (aL r) := by
  intro H0
  refine cI Try.func107 ?_
  have hO := aO.start H0
  unfold cQ at h0
  refine aY aG 1 [] [] ?_
  refine aQ ?_
  refine aT aG 5 ?_
  refine bM 2 ?_
  obtain ⟨x1, hx2, h0⟩ := aV h0
  refine cJ (uF s0 f1_f f1_a f1_c f1 f1_h _ hx2) hO ?_
  intro H hO
  refine bC ?_
  refine bF [(4, (aL (decide ((0 : Int) ≤ x1))))] ?_
  refine bH ?_
  obtain rfl := oI h0
  exact aI (Q_r hO)

theorem IA (n0 : Int) (r : Bool) (h0 : vT n0 = some r) : bT Try.prog 109 [(eI n0)] (aL r) := by
  intro H0
  refine cI Try.func109 ?_
  have hO := aO.start H0
  unfold vT at h0
  refine aY aG 1 [] [] ?_
  refine bV aG 7 [(2, (aL ((decide (n0 ≤ (1048576 : Int))) && (decide ((-1048576 : Int) ≤ n0)))))] ?_
  refine bH ?_
  obtain rfl := oI h0
  exact aI (Q_r hO)

theorem OM (j0 : aB) (r : Bool) (h0 : sF j0 = some r) : bT Try.prog 108 [(aD j0)] (aL r) := by
  intro H0
  refine cI Try.func108 ?_
  have hO := aO.start H0
  unfold sF at h0
  refine aQ ?_
  refine aT aG 2 ?_
  refine gO 2 (aD j0) (by kernel_rfl) (by kernel_rfl) ?_
  refine bC ?_
  refine bF [(1, (.rp (aD j0)))] ?_
  refine aQ ?_
  refine aT aG 5 ?_
  refine bM 2 ?_
  obtain ⟨x1, hx2, h0⟩ := aV h0
  refine cJ (IA j0.Net _ hx2) hO ?_
  intro H hO
  refine bC ?_
  refine bF [(2, (aL (!x1)))] ?_
  refine bH ?_
  obtain rfl := oI h0
  exact aI (Q_r hO)

theorem OT (j0 : aB) (r : Bool) (h0 : sI j0 = some r) : bT Try.prog 110 [(aD j0)] (aL r) := by
  intro H0
  refine cI Try.func110 ?_
  have hO := aO.start H0
  unfold sI at h0
  refine aQ ?_
  refine aT aG 2 ?_
  refine gO 2 (aD j0) (by kernel_rfl) (by kernel_rfl) ?_
  refine bC ?_
  refine bF [(1, (.rp (aD j0)))] ?_
  refine bV aG 9 [(2, (aL ((decide (j0.At < (-1 : Int))) || (decide ((1125899906842624 : Int) < j0.At)))))] ?_
  refine bH ?_
  obtain rfl := oI h0
  exact aI (Q_r hO)

theorem wU (s0 : (List aB)) (r : (List aB)) (h0 : eW s0 = some r) : zX Try.prog 111 [(eL aD s0)] (fun lo => (.msl 2 lo 0 (List.length r))) 2 (List.map aD r) := by
  intro H0
  refine cI Try.func111 ?_
  have hO := aO.start H0
  unfold eW at h0
  refine aY aG 1 [] [] ?_
  refine aQ ?_
  refine aQ ?_
  refine aT aG 2 ?_
  refine bM 1 ?_
  refine aAJ false (List.length s0) (fun i => aD (List.getD s0 i default)) (by kernel_rfl) (by kernel_rfl) ?_
  intro b1 hn2
  refine cH ?_
  refine bS [] [(4, (aL b1))] ?_
  refine nW (b1) (fun hc3 => ?_) (fun hc3 => ?_)
  · replace h0 : some ([] : List aB) = some r := by
      have hl := List.eq_nil_of_length_eq_zero (hn2 hc3)
      rw [hl] at h0
      exact (bJ h0).2
    refine bV aG 1 [(2, (.sl true 0 (fun _ => .bad)))] ?_
    refine bH ?_
    refine dD [(2, (.sl true 0 (fun _ => .bad)))] ?_
    refine ZJ (el := (fun _ => .bad)) 0 2 2 hO (by kernel_rfl) ?_
    intro lo4 H5 hO
    obtain rfl := oI h0
    exact aI (bA (pY (x := (.msl 2 lo4 0 (List.length ([] : List aB)))) (by kernel_rfl) (aX.refl _) ⟨lo4, rfl, hO⟩))
  · refine bN ?_
    refine bF [(0, (eL aD s0))] ?_
    refine aQ ?_
    refine aT aG 4 ?_
    refine xY (xs := []) (k := 2) (by kernel_rfl) (by kernel_rfl) ?_
    refine bM 2 ?_
    obtain ⟨c7, h0⟩ := bJ h0
    refine VB (e := aD) s0 (fun _ => .bad) 2 16 (eL aD s0) (fun lo6 => [(lo6, 2, List.map aD s0)]) (by kernel_rfl) (by kernel_rfl) hO (ME (fun _ => by kernel_rfl)) c7 (fun _ => by kernel_rfl) ?_
    intro lo6 H hO
    refine bC ?_
    refine bF [(2, (.msl 2 lo6 0 (List.length s0)))] ?_
    refine bH ?_
    obtain rfl := oI h0
    exact aI (pY (x := (.msl 2 lo6 0 (List.length s0))) (by kernel_rfl) (aX.refl _) ⟨lo6, rfl, hO⟩)

theorem mX (lo0p : Nat) (aA : (List aB)) (a1 : Int) (b2 : Int) (cmp3_f : Nat) (cmp3_a cmp3_c : List V) (cmp3 : aB → aB → Option Int) (cmp3_h : ∀ a0 a1 r, cmp3 a0 a1 = some r → bT Try.prog cmp3_f (cmp3_a ++ [(aD a0), (aD a1)] ++ cmp3_c) (eI r)) (r : List aB) (h0 : dK aA a1 b2 cmp3 = some r) : kY Try.prog 140 lo0p 2 (List.map aD aA) (List.map aD r) [(.msl 2 lo0p 0 (List.length aA)), (eI a1), (eI b2), (.fn (.func cmp3_f) cmp3_a cmp3_c)] (.tup []) := by
  intro H0 hl0
  refine cI Try.func140 ?_
  have hO := aO.pZ hl0
  clear hl0
  obtain ⟨N0, hN0⟩ : ∃ n, n = List.length aA := ⟨_, rfl⟩
  have hN : List.length aA = N0 := hN0.symm
  unfold dK at h0
  refine aY aG 3 [] [(8, (eI (wR (a1 + (1 : Int)))))] ?_
  refine bP 0 ?_
  refine cT [(0, (.msl 2 lo0p 0 (List.length aA))), (1, (eI a1)), (2, (eI b2)), (3, (.fn (.func cmp3_f) cmp3_a cmp3_c)), (8, (eI (wR (a1 + (1 : Int)))))] ?_
  refine cL (fun T H => ∃ aA : List aB, ∃ i8 : Int, Has T [(0, (.msl 2 lo0p 0 (List.length aA))), (1, (eI a1)), (2, (eI b2)), (3, (.fn (.func cmp3_f) cmp3_a cmp3_c)), (8, (eI i8))] ∧ aO ⟨H0, [lo0p], []⟩ H [(lo0p, 2, List.map aD aA)] ∧ List.length aA = N0 ∧ iP cmp3 aA a1 b2 i8 = some r) ?_ ⟨aA, wR (a1 + (1 : Int)), .eq (by kernel_rfl), hO, hN, h0⟩
  clear hO hN h0
  rintro T H ⟨aA, i8, hT, hO, hN, h0⟩
  refine bB hT ?_
  clear hT
  unfold iP at h0
  obtain ⟨rr0, hl0, h0⟩ := aV h0
  refine cB (by kernel_rfl) (fun (s : List aB × Int) T H => Has T [(0, (.msl 2 lo0p 0 (List.length s.1))), (1, (eI a1)), (2, (eI b2)), (3, (.fn (.func cmp3_f) cmp3_a cmp3_c)), (8, (eI s.2))] ∧ aO ⟨H0, [lo0p], []⟩ H [(lo0p, 2, List.map aD s.1)] ∧ List.length s.1 = N0) hl0 ⟨.eq (by kernel_rfl), hO, hN⟩ ?_
  clear hO hN
  rintro k0 s out1 T H ⟨hT, hO, hN⟩ h1 ho0
  obtain ⟨aA, i8⟩ := s
  replace h1 : iL cmp3 a1 b2 aA i8 = some out1 := h1
  try dsimp only at hT
  refine bB hT ?_
  clear hT
  unfold iL at h1
  refine aQ ?_
  refine aY aG 3 [] [(14, (aL (decide (i8 < b2))))] ?_
  refine bL h1 (fun h1 => ?_) (fun h1 => ?_)
  · refine bN ?_
    refine bF [(0, (.msl 2 lo0p 0 (List.length aA))), (1, (eI a1)), (2, (eI b2)), (3, (.fn (.func cmp3_f) cmp3_a cmp3_c)), (8, (eI i8))] ?_
    refine dB (fun T H => ∃ aA : List aB, Has T [(0, (.msl 2 lo0p 0 (List.length aA))), (1, (eI a1)), (2, (eI b2)), (3, (.fn (.func cmp3_f) cmp3_a cmp3_c)), (8, (eI i8))] ∧ aO ⟨H0, [lo0p], []⟩ H [(lo0p, 2, List.map aD aA)] ∧ List.length aA = N0 ∧ eN cmp3 aA a1 b2 i8 = some out1) ?_ ?_
    · clear hO hN h1
      rintro T H ⟨aA, hT, hO, hN, h1⟩
      refine bB hT ?_
      clear hT
      unfold eN at h1
      refine aT aG 3 ?_
      refine bC ?_
      exact aI (aH (⟨rfl, _, (oI h1).symm, .eq (by kernel_rfl), hO, hN⟩))
    refine bP 1 ?_
    refine aY aG 2 [] [(9, (eI i8))] ?_
    refine bP 2 ?_
    refine cT [(0, (.msl 2 lo0p 0 (List.length aA))), (1, (eI a1)), (2, (eI b2)), (3, (.fn (.func cmp3_f) cmp3_a cmp3_c)), (8, (eI i8)), (9, (eI i8))] ?_
    refine cL (fun T H => ∃ aA : List aB, ∃ j9 : Int, Has T [(0, (.msl 2 lo0p 0 (List.length aA))), (1, (eI a1)), (2, (eI b2)), (3, (.fn (.func cmp3_f) cmp3_a cmp3_c)), (8, (eI i8)), (9, (eI j9))] ∧ aO ⟨H0, [lo0p], []⟩ H [(lo0p, 2, List.map aD aA)] ∧ List.length aA = N0 ∧ iQ cmp3 aA a1 b2 i8 j9 = some out1) ?_ ⟨aA, i8, .eq (by kernel_rfl), hO, hN, h1⟩
    clear hO hN h1
    rintro T H ⟨aA, j9, hT, hO, hN, h1⟩
    refine bB hT ?_
    clear hT
    unfold iQ at h1
    obtain ⟨rr1, hl1, h1⟩ := aV h1
    refine cB (by kernel_rfl) (fun (s : List aB × Int) T H => Has T [(0, (.msl 2 lo0p 0 (List.length s.1))), (1, (eI a1)), (2, (eI b2)), (3, (.fn (.func cmp3_f) cmp3_a cmp3_c)), (8, (eI i8)), (9, (eI s.2))] ∧ aO ⟨H0, [lo0p], []⟩ H [(lo0p, 2, List.map aD s.1)] ∧ List.length s.1 = N0) hl1 ⟨.eq (by kernel_rfl), hO, hN⟩ ?_
    clear hO hN
    rintro k1 s out2 T H ⟨hT, hO, hN⟩ h2 ho1
    obtain ⟨aA, j9⟩ := s
    replace h2 : iO cmp3 a1 b2 i8 aA j9 = some out2 := h2
    try dsimp only at hT
    refine bB hT ?_
    clear hT
    unfold iO at h2
    refine aQ ?_
    refine aQ ?_
    obtain ⟨c2, h2⟩ := bJ h2
    obtain ⟨c3, h2⟩ := bJ h2
    obtain ⟨x4, hx5, h2⟩ := aV h2
    refine kC (jO []) aG 17 ?_
    refine CV (K := fun T H => Has (lift T) [(0, (.msl 2 lo0p 0 (List.length aA))), (1, (eI a1)), (2, (eI b2)), (3, (.fn (.func cmp3_f) cmp3_a cmp3_c)), (8, (eI i8)), (9, (eI j9)), (34, (aL ((decide (a1 < j9)) && (decide (x4 < (0 : Int))))))] ∧ aO ⟨H0, [lo0p], []⟩ H [(lo0p, 2, List.map aD aA)]) ?_ ?_
    · refine uJ 4 ?_
      refine DJ (t := 21) (e := decide (a1 < j9)) (by kernel_rfl) (fun hg6 => ?_) (fun hg6 => ?_)
      · refine dM 8 [0 ≤ j9 ∧ j9 < (lN aA)] ⟨(c2 hg6), trivial⟩ ?_
        refine AO 0 lo0p 2 (0 + Int.toNat j9) (aD (gD aA j9)) (aD (gD aA j9)) (List.map aD aA) (by kernel_rfl) (by kernel_rfl) (by kernel_rfl) hO (by kernel_rfl) (cP (c2 hg6)) ?_
        refine dM 13 [0 ≤ (wR (j9 - (1 : Int))) ∧ (wR (j9 - (1 : Int))) < (lN aA)] ⟨(c3 hg6), trivial⟩ ?_
        refine AO 0 lo0p 2 (0 + Int.toNat (wR (j9 - (1 : Int)))) (aD (gD aA (wR (j9 - (1 : Int))))) (aD (gD aA (wR (j9 - (1 : Int))))) (List.map aD aA) (by kernel_rfl) (by kernel_rfl) (by kernel_rfl) hO (by kernel_rfl) (cP (c3 hg6)) ?_
        refine LK cmp3_f (cmp3_a ++ [(aD (gD aA j9)), (aD (gD aA (wR (j9 - (1 : Int)))))] ++ cmp3_c) (eI x4) (by kernel_rfl) (by kernel_rfl) (cmp3_h (gD aA j9) (gD aA (wR (j9 - (1 : Int)))) _ (jH hx5 hg6)) hO ?_
        intro H hO
        refine qF ?_
        exact ⟨⟨[(0, (.msl 2 lo0p 0 (List.length aA))), (1, (eI a1)), (2, (eI b2)), (3, (.fn (.func cmp3_f) cmp3_a cmp3_c)), (8, (eI i8)), (9, (eI j9)), (34, (aL (decide (x4 < (0 : Int)))))], by kernel_rfl, rfl, ⟨aX.refl _, aX.refl _, aX.refl _, aX.refl _, aX.refl _, aX.refl _, aX.eq (congrArg aL (CA hg6 rfl).symm), trivial⟩⟩, hO⟩
      refine qF ?_
      exact ⟨⟨[(0, (.msl 2 lo0p 0 (List.length aA))), (1, (eI a1)), (2, (eI b2)), (3, (.fn (.func cmp3_f) cmp3_a cmp3_c)), (8, (eI i8)), (9, (eI j9)), (34, (aL false))], by kernel_rfl, rfl, ⟨aX.refl _, aX.refl _, aX.refl _, aX.refl _, aX.refl _, aX.refl _, aX.eq (congrArg aL (CA hg6 rfl).symm), trivial⟩⟩, hO⟩
    · rintro T H ⟨hT, hO⟩
      refine cS hT ?_
      clear hT
      refine aI (aH ?_)
      refine bL h2 (fun h2 => ?_) (fun h2 => ?_)
      · refine bN ?_
        refine bF [(0, (.msl 2 lo0p 0 (List.length aA))), (1, (eI a1)), (2, (eI b2)), (3, (.fn (.func cmp3_f) cmp3_a cmp3_c)), (8, (eI i8)), (9, (eI j9))] ?_
        refine aQ ?_
        refine bP 3 ?_
        refine kC (jO []) aG 18 ?_
        obtain ⟨c8, h2⟩ := bJ h2
        refine dM 9 [0 ≤ (wR (j9 - (1 : Int))) ∧ (wR (j9 - (1 : Int))) < (lN aA)] ⟨c8, trivial⟩ ?_
        refine kS 0 lo0p 2 (0 + Int.toNat (wR (j9 - (1 : Int)))) (aD (gD aA (wR (j9 - (1 : Int))))) (aD (gD aA (wR (j9 - (1 : Int))))) (List.map aD aA) hO (cP c8) ?_
        obtain ⟨c9, h2⟩ := bJ h2
        refine dM 13 [0 ≤ j9 ∧ j9 < (lN aA)] ⟨c9, trivial⟩ ?_
        refine kS 0 lo0p 2 (0 + Int.toNat j9) (aD (gD aA j9)) (aD (gD aA j9)) (List.map aD aA) hO (cP c9) ?_
        obtain ⟨c10, h2⟩ := bJ h2
        refine dM 15 [0 ≤ j9 ∧ j9 < (lN aA)] ⟨c10, trivial⟩ ?_
        refine rR 0 lo0p 2 (0 + Int.toNat j9) (aD (gD aA j9)) (aD (gD aA (wR (j9 - (1 : Int))))) (List.map aD aA) [(lo0p, 2, List.map aD (List.set aA (Int.toNat j9) (gD aA (wR (j9 - (1 : Int))))))] hO (cP c10) (by simp only [List.set, nP]) ?_
        intro H hO
        replace hN : List.length (List.set aA (Int.toNat j9) (gD aA (wR (j9 - (1 : Int))))) = N0 := by simpa using hN
        obtain ⟨c11, h2⟩ := bJ h2
        refine dM 17 [0 ≤ (wR (j9 - (1 : Int))) ∧ (wR (j9 - (1 : Int))) < (lN aA)] ⟨c11, trivial⟩ ?_
        refine rR 0 lo0p 2 (0 + Int.toNat (wR (j9 - (1 : Int)))) (aD (gD (List.set aA (Int.toNat j9) (gD aA (wR (j9 - (1 : Int))))) (wR (j9 - (1 : Int))))) (aD (gD aA j9)) (List.map aD (List.set aA (Int.toNat j9) (gD aA (wR (j9 - (1 : Int)))))) [(lo0p, 2, List.map aD (List.set (List.set aA (Int.toNat j9) (gD aA (wR (j9 - (1 : Int))))) (Int.toNat (wR (j9 - (1 : Int)))) (gD aA j9)))] hO (xD c11 (by simp [])) (by simp only [List.set, nP]) ?_
        intro H hO
        replace hN : List.length (List.set (List.set aA (Int.toNat j9) (gD aA (wR (j9 - (1 : Int))))) (Int.toNat (wR (j9 - (1 : Int)))) (gD aA j9)) = N0 := by simpa using hN
        refine xP (by kernel_rfl) ?_
        refine cS (l := [(0, (.msl 2 lo0p 0 (List.length (List.set (List.set aA (Int.toNat j9) (gD aA (wR (j9 - (1 : Int))))) (Int.toNat (wR (j9 - (1 : Int)))) (gD aA j9))))), (1, (eI a1)), (2, (eI b2)), (3, (.fn (.func cmp3_f) cmp3_a cmp3_c)), (8, (eI i8)), (9, (eI j9))]) ⟨[(0, (.msl 2 lo0p 0 (List.length aA))), (1, (eI a1)), (2, (eI b2)), (3, (.fn (.func cmp3_f) cmp3_a cmp3_c)), (8, (eI i8)), (9, (eI j9))], by kernel_rfl, rfl, ⟨aX.eq (by simp []), aX.refl _, aX.refl _, aX.refl _, aX.refl _, aX.refl _, trivial⟩⟩ ?_
        refine aI (aU (aH (?_)))
        refine aT aG 3 ?_
        refine bC ?_
        exact aI (aH (⟨rfl, _, (oI h2).symm, .eq (by kernel_rfl), hO, hN⟩))
      refine dU 2 ?_
      obtain rfl := oI h2
      obtain rfl : _ = rr1 := ho1
      replace h1 : eN cmp3 aA a1 b2 i8 = some out1 := h1
      exact aI (aZ (aZ (bO (aU (aH (⟨rfl, _, .eq (by kernel_rfl), hO, hN, h1⟩))))))
  refine dU 0 ?_
  obtain rfl := oI h1
  obtain rfl : _ = rr0 := ho0
  replace h0 : some aA = some r := h0
  obtain rfl := oI h0
  exact aI (aZ (aZ (bO (qN (x := (.tup [])) (by kernel_rfl) (aX.refl _) ⟨rfl, hO.ext, hO.at 0 (by kernel_rfl), by simp only [List.length_map]; exact hN.trans hN0⟩))))

theorem kU (lo0p : Nat) (aA : (List aB)) (a1 : Int) (b2 : Int) (n3 : Int) (cmp4_f : Nat) (cmp4_a cmp4_c : List V) (cmp4 : aB → aB → Option Int) (cmp4_h : ∀ a0 a1 r, cmp4 a0 a1 = some r → bT Try.prog cmp4_f (cmp4_a ++ [(aD a0), (aD a1)] ++ cmp4_c) (eI r)) (r : List aB) (h0 : eB aA a1 b2 n3 cmp4 = some r) : kY Try.prog 145 lo0p 2 (List.map aD aA) (List.map aD r) [(.msl 2 lo0p 0 (List.length aA)), (eI a1), (eI b2), (eI n3), (.fn (.func cmp4_f) cmp4_a cmp4_c)] (.tup []) := by
  intro H0 hl0
  refine cI Try.func145 ?_
  have hO := aO.pZ hl0
  clear hl0
  obtain ⟨N0, hN0⟩ : ∃ n, n = List.length aA := ⟨_, rfl⟩
  have hN : List.length aA = N0 := hN0.symm
  unfold eB at h0
  refine aY aG 1 [4] [(10, (eI (0 : Int)))] ?_
  refine bP 0 ?_
  refine cT [(0, (.msl 2 lo0p 0 (List.length aA))), (1, (eI a1)), (2, (eI b2)), (3, (eI n3)), (10, (eI (0 : Int)))] ?_
  refine cL (fun T H => ∃ aA : List aB, ∃ i10 : Int, Has T [(0, (.msl 2 lo0p 0 (List.length aA))), (1, (eI a1)), (2, (eI b2)), (3, (eI n3)), (10, (eI i10))] ∧ aO ⟨H0, [lo0p], []⟩ H [(lo0p, 2, List.map aD aA)] ∧ List.length aA = N0 ∧ jS cmp4 aA a1 b2 n3 i10 = some r) ?_ ⟨aA, (0 : Int), .eq (by kernel_rfl), hO, hN, h0⟩
  clear hO hN h0
  rintro T H ⟨aA, i10, hT, hO, hN, h0⟩
  refine bB hT ?_
  clear hT
  unfold jS at h0
  obtain ⟨rr0, hl0, h0⟩ := aV h0
  refine cB (by kernel_rfl) (fun (s : List aB × Int) T H => Has T [(0, (.msl 2 lo0p 0 (List.length s.1))), (1, (eI a1)), (2, (eI b2)), (3, (eI n3)), (10, (eI s.2))] ∧ aO ⟨H0, [lo0p], []⟩ H [(lo0p, 2, List.map aD s.1)] ∧ List.length s.1 = N0) hl0 ⟨.eq (by kernel_rfl), hO, hN⟩ ?_
  clear hO hN
  rintro k0 s out1 T H ⟨hT, hO, hN⟩ h1 ho0
  obtain ⟨aA, i10⟩ := s
  replace h1 : jZ cmp4 a1 b2 n3 aA i10 = some out1 := h1
  try dsimp only at hT
  refine bB hT ?_
  clear hT
  unfold jZ at h1
  refine aQ ?_
  refine aY aG 3 [] [(13, (aL (decide (i10 < n3))))] ?_
  refine bL h1 (fun h1 => ?_) (fun h1 => ?_)
  · refine bN ?_
    refine bF [(0, (.msl 2 lo0p 0 (List.length aA))), (1, (eI a1)), (2, (eI b2)), (3, (eI n3)), (10, (eI i10))] ?_
    refine aQ ?_
    refine bP 1 ?_
    refine kC (jO []) aG 24 ?_
    obtain ⟨c2, h1⟩ := bJ h1
    refine dM 13 [0 ≤ (wR (b2 + i10)) ∧ (wR (b2 + i10)) < (lN aA)] ⟨c2, trivial⟩ ?_
    refine kS 0 lo0p 2 (0 + Int.toNat (wR (b2 + i10))) (aD (gD aA (wR (b2 + i10)))) (aD (gD aA (wR (b2 + i10)))) (List.map aD aA) hO (cP c2) ?_
    obtain ⟨c3, h1⟩ := bJ h1
    refine dM 19 [0 ≤ (wR (a1 + i10)) ∧ (wR (a1 + i10)) < (lN aA)] ⟨c3, trivial⟩ ?_
    refine kS 0 lo0p 2 (0 + Int.toNat (wR (a1 + i10))) (aD (gD aA (wR (a1 + i10)))) (aD (gD aA (wR (a1 + i10)))) (List.map aD aA) hO (cP c3) ?_
    obtain ⟨c4, h1⟩ := bJ h1
    refine dM 21 [0 ≤ (wR (a1 + i10)) ∧ (wR (a1 + i10)) < (lN aA)] ⟨c4, trivial⟩ ?_
    refine rR 0 lo0p 2 (0 + Int.toNat (wR (a1 + i10))) (aD (gD aA (wR (a1 + i10)))) (aD (gD aA (wR (b2 + i10)))) (List.map aD aA) [(lo0p, 2, List.map aD (List.set aA (Int.toNat (wR (a1 + i10))) (gD aA (wR (b2 + i10)))))] hO (cP c4) (by simp only [List.set, nP]) ?_
    intro H hO
    replace hN : List.length (List.set aA (Int.toNat (wR (a1 + i10))) (gD aA (wR (b2 + i10)))) = N0 := by simpa using hN
    obtain ⟨c5, h1⟩ := bJ h1
    refine dM 23 [0 ≤ (wR (b2 + i10)) ∧ (wR (b2 + i10)) < (lN aA)] ⟨c5, trivial⟩ ?_
    refine rR 0 lo0p 2 (0 + Int.toNat (wR (b2 + i10))) (aD (gD (List.set aA (Int.toNat (wR (a1 + i10))) (gD aA (wR (b2 + i10)))) (wR (b2 + i10)))) (aD (gD aA (wR (a1 + i10)))) (List.map aD (List.set aA (Int.toNat (wR (a1 + i10))) (gD aA (wR (b2 + i10))))) [(lo0p, 2, List.map aD (List.set (List.set aA (Int.toNat (wR (a1 + i10))) (gD aA (wR (b2 + i10)))) (Int.toNat (wR (b2 + i10))) (gD aA (wR (a1 + i10)))))] hO (xD c5 (by simp [])) (by simp only [List.set, nP]) ?_
    intro H hO
    replace hN : List.length (List.set (List.set aA (Int.toNat (wR (a1 + i10))) (gD aA (wR (b2 + i10)))) (Int.toNat (wR (b2 + i10))) (gD aA (wR (a1 + i10)))) = N0 := by simpa using hN
    refine xP (by kernel_rfl) ?_
    refine cS (l := [(0, (.msl 2 lo0p 0 (List.length (List.set (List.set aA (Int.toNat (wR (a1 + i10))) (gD aA (wR (b2 + i10)))) (Int.toNat (wR (b2 + i10))) (gD aA (wR (a1 + i10))))))), (1, (eI a1)), (2, (eI b2)), (3, (eI n3)), (10, (eI i10))]) ⟨[(0, (.msl 2 lo0p 0 (List.length aA))), (1, (eI a1)), (2, (eI b2)), (3, (eI n3)), (10, (eI i10))], by kernel_rfl, rfl, ⟨aX.eq (by simp []), aX.refl _, aX.refl _, aX.refl _, aX.refl _, trivial⟩⟩ ?_
    refine aI (aU (aH (?_)))
    refine aT aG 3 ?_
    refine bC ?_
    exact aI (aH (⟨rfl, _, (oI h1).symm, .eq (by kernel_rfl), hO, hN⟩))
  refine dU 0 ?_
  obtain rfl := oI h1
  obtain rfl : _ = rr0 := ho0
  replace h0 : some aA = some r := h0
  obtain rfl := oI h0
  exact aI (aZ (aZ (bO (qN (x := (.tup [])) (by kernel_rfl) (aX.refl _) ⟨rfl, hO.ext, hO.at 0 (by kernel_rfl), by simp only [List.length_map]; exact hN.trans hN0⟩))))

theorem xF (lo0p : Nat) (aA : (List aB)) (a1 : Int) (m2 : Int) (b3 : Int) (cmp4_f : Nat) (cmp4_a cmp4_c : List V) (cmp4 : aB → aB → Option Int) (cmp4_h : ∀ a0 a1 r, cmp4 a0 a1 = some r → bT Try.prog cmp4_f (cmp4_a ++ [(aD a0), (aD a1)] ++ cmp4_c) (eI r)) (r : List aB) (h0 : lZ aA a1 m2 b3 cmp4 = some r) : kY Try.prog 144 lo0p 2 (List.map aD aA) (List.map aD r) [(.msl 2 lo0p 0 (List.length aA)), (eI a1), (eI m2), (eI b3), (.fn (.func cmp4_f) cmp4_a cmp4_c)] (.tup []) := by
  intro H0 hl0
  refine cI Try.func144 ?_
  have hO := aO.pZ hl0
  clear hl0
  obtain ⟨N0, hN0⟩ : ∃ n, n = List.length aA := ⟨_, rfl⟩
  have hN : List.length aA = N0 := hN0.symm
  unfold lZ at h0
  refine aY aG 4 [1] [(10, (eI (wR (m2 - a1))))] ?_
  refine aY aG 4 [3] [(11, (eI (wR (b3 - m2))))] ?_
  refine dB (fun T H => ∃ aA : List aB, ∃ i10 : Int, Has T [(0, (.msl 2 lo0p 0 (List.length aA))), (2, (eI m2)), (4, (.fn (.func cmp4_f) cmp4_a cmp4_c)), (10, (eI i10))] ∧ aO ⟨H0, [lo0p], []⟩ H [(lo0p, 2, List.map aD aA)] ∧ List.length aA = N0 ∧ iC cmp4 aA m2 i10 = some r) ?_ ?_
  · clear hO hN h0
    rintro T H ⟨aA, i10, hT, hO, hN, h0⟩
    refine bB hT ?_
    clear hT
    unfold iC at h0
    refine aT aG 8 ?_
    refine bM 7 ?_
    obtain ⟨x1, hx2, h0⟩ := aV h0
    refine oG [(lo0p, 2, List.map aD x1)] 0 (kU lo0p aA (wR (m2 - i10)) m2 i10 cmp4_f cmp4_a cmp4_c cmp4 cmp4_h _ hx2) hO ?_
    intro H hO hl3
    simp only [List.length_map] at hl3
    replace hN := hl3.trans hN
    refine cH ?_
    refine cS (l := [(0, (.msl 2 lo0p 0 (List.length x1)))]) ⟨[(0, (.msl 2 lo0p 0 (List.length aA)))], by kernel_rfl, rfl, ⟨aX.eq (by simp [hl3]), trivial⟩⟩ ?_
    obtain rfl := oI h0
    exact aI (qN (x := (.tup [])) (by kernel_rfl) (aX.refl _) ⟨rfl, hO.ext, hO.at 0 (by kernel_rfl), by simp only [List.length_map]; exact hN.trans hN0⟩)
  refine bP 0 ?_
  refine cT [(0, (.msl 2 lo0p 0 (List.length aA))), (2, (eI m2)), (4, (.fn (.func cmp4_f) cmp4_a cmp4_c)), (10, (eI (wR (m2 - a1)))), (11, (eI (wR (b3 - m2))))] ?_
  refine cL (fun T H => ∃ aA : List aB, ∃ i10 : Int, ∃ j11 : Int, Has T [(0, (.msl 2 lo0p 0 (List.length aA))), (2, (eI m2)), (4, (.fn (.func cmp4_f) cmp4_a cmp4_c)), (10, (eI i10)), (11, (eI j11))] ∧ aO ⟨H0, [lo0p], []⟩ H [(lo0p, 2, List.map aD aA)] ∧ List.length aA = N0 ∧ lK cmp4 aA m2 i10 j11 = some r) ?_ ⟨aA, wR (m2 - a1), wR (b3 - m2), .eq (by kernel_rfl), hO, hN, h0⟩
  clear hO hN h0
  rintro T H ⟨aA, i10, j11, hT, hO, hN, h0⟩
  refine bB hT ?_
  clear hT
  unfold lK at h0
  obtain ⟨rr0, hl0, h0⟩ := aV h0
  refine cB (by kernel_rfl) (fun (s : List aB × Int × Int) T H => Has T [(0, (.msl 2 lo0p 0 (List.length s.1))), (2, (eI m2)), (4, (.fn (.func cmp4_f) cmp4_a cmp4_c)), (10, (eI s.2.1)), (11, (eI s.2.2))] ∧ aO ⟨H0, [lo0p], []⟩ H [(lo0p, 2, List.map aD s.1)] ∧ List.length s.1 = N0) hl0 ⟨.eq (by kernel_rfl), hO, hN⟩ ?_
  clear hO hN
  rintro k0 s out1 T H ⟨hT, hO, hN⟩ h1 ho0
  obtain ⟨aA, i10, j11⟩ := s
  replace h1 : lP cmp4 m2 aA i10 j11 = some out1 := h1
  try dsimp only at hT
  refine bB hT ?_
  clear hT
  unfold lP at h1
  refine aQ ?_
  refine aY aG 3 [] [(20, (aL (!decide (i10 = j11))))] ?_
  refine bL h1 (fun h1 => ?_) (fun h1 => ?_)
  · refine bN ?_
    refine bF [(0, (.msl 2 lo0p 0 (List.length aA))), (2, (eI m2)), (4, (.fn (.func cmp4_f) cmp4_a cmp4_c)), (10, (eI i10)), (11, (eI j11))] ?_
    refine bP 1 ?_
    refine aY aG 3 [] [(23, (aL (decide (j11 < i10))))] ?_
    refine bL h1 (fun h1 => ?_) (fun h1 => ?_)
    · refine aQ ?_
      refine aT aG 8 ?_
      refine bM 7 ?_
      obtain ⟨x6, hx7, h1⟩ := aV h1
      refine oG [(lo0p, 2, List.map aD x6)] 0 (kU lo0p aA (wR (m2 - i10)) m2 j11 cmp4_f cmp4_a cmp4_c cmp4 cmp4_h _ hx7) hO ?_
      intro H hO hl8
      simp only [List.length_map] at hl8
      replace hN := hl8.trans hN
      refine cH ?_
      refine cS (l := [(0, (.msl 2 lo0p 0 (List.length x6))), (2, (eI m2)), (4, (.fn (.func cmp4_f) cmp4_a cmp4_c)), (10, (eI i10)), (11, (eI j11))]) ⟨[(0, (.msl 2 lo0p 0 (List.length aA))), (2, (eI m2)), (4, (.fn (.func cmp4_f) cmp4_a cmp4_c)), (10, (eI i10)), (11, (eI j11))], by kernel_rfl, rfl, ⟨aX.eq (by simp [hl8]), aX.refl _, aX.refl _, aX.refl _, aX.refl _, trivial⟩⟩ ?_
      refine aI (aH (?_))
      refine aT aG 4 ?_
      refine bC ?_
      exact aI (aU (aH (⟨rfl, _, (oI h1).symm, .eq (by kernel_rfl), hO, hN⟩)))
    refine aQ ?_
    refine aT aG 12 ?_
    refine bM 11 ?_
    obtain ⟨x9, hx10, h1⟩ := aV h1
    refine oG [(lo0p, 2, List.map aD x9)] 0 (kU lo0p aA (wR (m2 - i10)) (wR ((wR (m2 + j11)) - i10)) i10 cmp4_f cmp4_a cmp4_c cmp4 cmp4_h _ hx10) hO ?_
    intro H hO hl11
    simp only [List.length_map] at hl11
    replace hN := hl11.trans hN
    refine cH ?_
    refine cS (l := [(0, (.msl 2 lo0p 0 (List.length x9))), (2, (eI m2)), (4, (.fn (.func cmp4_f) cmp4_a cmp4_c)), (10, (eI i10)), (11, (eI j11))]) ⟨[(0, (.msl 2 lo0p 0 (List.length aA))), (2, (eI m2)), (4, (.fn (.func cmp4_f) cmp4_a cmp4_c)), (10, (eI i10)), (11, (eI j11))], by kernel_rfl, rfl, ⟨aX.eq (by simp [hl11]), aX.refl _, aX.refl _, aX.refl _, aX.refl _, trivial⟩⟩ ?_
    refine aI (aH (?_))
    refine aT aG 4 ?_
    refine bC ?_
    exact aI (aU (aH (⟨rfl, _, (oI h1).symm, .eq (by kernel_rfl), hO, hN⟩)))
  refine dU 0 ?_
  obtain rfl := oI h1
  obtain rfl : _ = rr0 := ho0
  replace h0 : iC cmp4 aA m2 i10 = some r := h0
  exact aI (aZ (aZ (bO (aH (⟨rfl, _, _, .eq (by kernel_rfl), hO, hN, h0⟩)))))

end Go.Abs
namespace Go.Abs
open Go Go.RowKit Go.Proofs
theorem tI (cmp4_f : Nat) (cmp4_a cmp4_c : List V) (cmp4 : aB → aB → Option Int) (cmp4_h : ∀ a0 a1 r, cmp4 a0 a1 = some r → bT Try.prog cmp4_f (cmp4_a ++ [(aD a0), (aD a1)] ++ cmp4_c) (eI r)) (rec : (List aB) → Int → Int → Int → Option (List aB)) (ih : ∀ (lo0p : Nat) (aA : (List aB)) (a1 : Int) (m2 : Int) (b3 : Int) (r : List aB), rec aA a1 m2 b3 = some r → kY Try.prog 141 lo0p 2 (List.map aD aA) (List.map aD r) [(.msl 2 lo0p 0 (List.length aA)), (eI a1), (eI m2), (eI b3), (.fn (.func cmp4_f) cmp4_a cmp4_c)] (.tup [])) (lo0p : Nat) (aA : (List aB)) (a1 : Int) (m2 : Int) (b3 : Int) (r : List aB) (h0 : dQ cmp4 rec aA a1 m2 b3 = some r) : kY Try.prog 141 lo0p 2 (List.map aD aA) (List.map aD r) [(.msl 2 lo0p 0 (List.length aA)), (eI a1), (eI m2), (eI b3), (.fn (.func cmp4_f) cmp4_a cmp4_c)] (.tup []) := by
  intro H0 hl0
  refine cI Try.func141 ?_
  have hO := aO.pZ hl0
  clear hl0
  obtain ⟨N0, hN0⟩ : ∃ n, n = List.length aA := ⟨_, rfl⟩
  have hN : List.length aA = N0 := hN0.symm
  unfold dQ at h0
  refine dB (fun T H => ∃ aA : List aB, Has T [(0, (.msl 2 lo0p 0 (List.length aA))), (1, (eI a1)), (2, (eI m2)), (3, (eI b3)), (4, (.fn (.func cmp4_f) cmp4_a cmp4_c))] ∧ aO ⟨H0, [lo0p], []⟩ H [(lo0p, 2, List.map aD aA)] ∧ List.length aA = N0 ∧ kR cmp4 rec aA a1 m2 b3 = some r) ?_ ?_
  · clear hO hN h0
    rintro T H ⟨aA, hT, hO, hN, h0⟩
    refine bB hT ?_
    clear hT
    unfold kR at h0
    refine dB (fun T H => ∃ aA : List aB, Has T [(0, (.msl 2 lo0p 0 (List.length aA))), (1, (eI a1)), (2, (eI m2)), (3, (eI b3)), (4, (.fn (.func cmp4_f) cmp4_a cmp4_c))] ∧ aO ⟨H0, [lo0p], []⟩ H [(lo0p, 2, List.map aD aA)] ∧ List.length aA = N0 ∧ kT cmp4 rec aA a1 m2 b3 = some r) ?_ ?_
    · clear hO hN h0
      rintro T H ⟨aA, hT, hO, hN, h0⟩
      refine bB hT ?_
      clear hT
      unfold kT at h0
      refine aQ ?_
      refine aT aG 7 ?_
      obtain ⟨c1, h0⟩ := bJ h0
      refine vB [0 ≤ (1 : Int)] ⟨c1, trivial⟩ ?_
      refine bS [] [(18, (eI (wR (Int.fdiv (IntKind.u64.wrap (wR (a1 + b3))) (2 ^ (min (Int.toNat (1 : Int)) 64))))))] ?_
      refine aY aG 4 [] [(19, (eI (wR ((wR (Int.fdiv (IntKind.u64.wrap (wR (a1 + b3))) (2 ^ (min (Int.toNat (1 : Int)) 64)))) + m2))))] ?_
      refine aY aG 2 [] [] ?_
      refine dB (fun T H => ∃ aA : List aB, ∃ bQ : Int, ∃ n19 : Int, ∃ aR : Int, ∃ r21 : Int, Has T [(0, (.msl 2 lo0p 0 (List.length aA))), (1, (eI a1)), (2, (eI m2)), (3, (eI b3)), (4, (.fn (.func cmp4_f) cmp4_a cmp4_c)), (18, (eI bQ)), (19, (eI n19)), (20, (eI aR)), (21, (eI r21))] ∧ aO ⟨H0, [lo0p], []⟩ H [(lo0p, 2, List.map aD aA)] ∧ List.length aA = N0 ∧ fY cmp4 rec aA a1 m2 b3 bQ n19 aR r21 = some r) ?_ ?_
      · clear hO hN h0
        rintro T H ⟨aA, bQ, n19, aR, r21, hT, hO, hN, h0⟩
        refine bB hT ?_
        clear hT
        unfold fY at h0
        refine aY aG 3 [] [(22, (eI (wR (n19 - (1 : Int)))))] ?_
        refine dB (fun T H => ∃ aA : List aB, ∃ aR : Int, Has T [(0, (.msl 2 lo0p 0 (List.length aA))), (1, (eI a1)), (2, (eI m2)), (3, (eI b3)), (4, (.fn (.func cmp4_f) cmp4_a cmp4_c)), (18, (eI bQ)), (19, (eI n19)), (20, (eI aR))] ∧ aO ⟨H0, [lo0p], []⟩ H [(lo0p, 2, List.map aD aA)] ∧ List.length aA = N0 ∧ gH cmp4 rec aA a1 m2 b3 bQ n19 aR = some r) ?_ ?_
        · clear hO hN h0
          rintro T H ⟨aA, aR, hT, hO, hN, h0⟩
          refine bB hT ?_
          clear hT
          unfold gH at h0
          refine aY aG 4 [19] [(24, (eI (wR (n19 - aR))))] ?_
          refine dB (fun T H => ∃ aA : List aB, ∃ dS : Int, Has T [(0, (.msl 2 lo0p 0 (List.length aA))), (1, (eI a1)), (3, (eI b3)), (4, (.fn (.func cmp4_f) cmp4_a cmp4_c)), (18, (eI bQ)), (20, (eI aR)), (24, (eI dS))] ∧ aO ⟨H0, [lo0p], []⟩ H [(lo0p, 2, List.map aD aA)] ∧ List.length aA = N0 ∧ gE cmp4 rec aA a1 b3 bQ aR dS = some r) ?_ ?_
          · clear hO hN h0
            rintro T H ⟨aA, dS, hT, hO, hN, h0⟩
            refine bB hT ?_
            clear hT
            unfold gE at h0
            refine dB (fun T H => ∃ aA : List aB, Has T [(0, (.msl 2 lo0p 0 (List.length aA))), (3, (eI b3)), (4, (.fn (.func cmp4_f) cmp4_a cmp4_c)), (18, (eI bQ)), (24, (eI dS))] ∧ aO ⟨H0, [lo0p], []⟩ H [(lo0p, 2, List.map aD aA)] ∧ List.length aA = N0 ∧ gC cmp4 rec aA b3 bQ dS = some r) ?_ ?_
            · clear hO hN h0
              rintro T H ⟨aA, hT, hO, hN, h0⟩
              refine bB hT ?_
              clear hT
              unfold gC at h0
              refine aY aG 8 [] [(213, (aL ((decide (bQ < dS)) && (decide (dS < b3)))))] ?_
              refine bL h0 (fun h0 => ?_) (fun h0 => ?_)
              · refine aT aG 6 ?_
                refine bM 5 ?_
                obtain ⟨x3, hx4, h0⟩ := aV h0
                refine oG [(lo0p, 2, List.map aD x3)] 0 (ih lo0p aA bQ dS b3 _ hx4) hO ?_
                intro H hO hl5
                simp only [List.length_map] at hl5
                replace hN := hl5.trans hN
                refine cH ?_
                refine cS (l := [(0, (.msl 2 lo0p 0 (List.length x3)))]) ⟨[(0, (.msl 2 lo0p 0 (List.length aA)))], by kernel_rfl, rfl, ⟨aX.eq (by simp [hl5]), trivial⟩⟩ ?_
                obtain rfl := oI h0
                exact aI (qN (x := (.tup [])) (by kernel_rfl) (aX.refl _) ⟨rfl, hO.ext, hO.at 0 (by kernel_rfl), by simp only [List.length_map]; exact hN.trans hN0⟩)
              refine bN ?_
              obtain rfl := oI h0
              exact aI (qN (x := (.tup [])) (by kernel_rfl) (aX.refl _) ⟨rfl, hO.ext, hO.at 0 (by kernel_rfl), by simp only [List.length_map]; exact hN.trans hN0⟩)
            refine aY aG 8 [] [(199, (aL ((decide (a1 < aR)) && (decide (aR < bQ)))))] ?_
            refine bL h0 (fun h0 => ?_) (fun h0 => ?_)
            · refine aT aG 6 ?_
              refine bM 5 ?_
              obtain ⟨x7, hx8, h0⟩ := aV h0
              refine oG [(lo0p, 2, List.map aD x7)] 0 (ih lo0p aA a1 aR bQ _ hx8) hO ?_
              intro H hO hl9
              simp only [List.length_map] at hl9
              replace hN := hl9.trans hN
              refine cH ?_
              refine cS (l := [(0, (.msl 2 lo0p 0 (List.length x7))), (3, (eI b3)), (4, (.fn (.func cmp4_f) cmp4_a cmp4_c)), (18, (eI bQ)), (24, (eI dS))]) ⟨[(0, (.msl 2 lo0p 0 (List.length aA))), (3, (eI b3)), (4, (.fn (.func cmp4_f) cmp4_a cmp4_c)), (18, (eI bQ)), (24, (eI dS))], by kernel_rfl, rfl, ⟨aX.eq (by simp [hl9]), aX.refl _, aX.refl _, aX.refl _, aX.refl _, trivial⟩⟩ ?_
              exact aI (aH (⟨rfl, _, .eq (by kernel_rfl), hO, hN, h0⟩))
            refine bN ?_
            exact aI (aH (⟨rfl, _, .eq (by kernel_rfl), hO, hN, h0⟩))
          refine aY aG 8 [] [(185, (aL ((decide (aR < m2)) && (decide (m2 < (wR (n19 - aR)))))))] ?_
          refine bL h0 (fun h0 => ?_) (fun h0 => ?_)
          · refine aT aG 6 ?_
            refine bM 5 ?_
            obtain ⟨x11, hx12, h0⟩ := aV h0
            refine oG [(lo0p, 2, List.map aD x11)] 0 (xF lo0p aA aR m2 (wR (n19 - aR)) cmp4_f cmp4_a cmp4_c cmp4 cmp4_h _ hx12) hO ?_
            intro H hO hl13
            simp only [List.length_map] at hl13
            replace hN := hl13.trans hN
            refine cH ?_
            refine cS (l := [(0, (.msl 2 lo0p 0 (List.length x11))), (1, (eI a1)), (3, (eI b3)), (4, (.fn (.func cmp4_f) cmp4_a cmp4_c)), (18, (eI bQ)), (20, (eI aR)), (24, (eI (wR (n19 - aR))))]) ⟨[(0, (.msl 2 lo0p 0 (List.length aA))), (1, (eI a1)), (3, (eI b3)), (4, (.fn (.func cmp4_f) cmp4_a cmp4_c)), (18, (eI bQ)), (20, (eI aR)), (24, (eI (wR (n19 - aR))))], by kernel_rfl, rfl, ⟨aX.eq (by simp [hl13]), aX.refl _, aX.refl _, aX.refl _, aX.refl _, aX.refl _, aX.refl _, trivial⟩⟩ ?_
            exact aI (aH (⟨rfl, _, _, .eq (by kernel_rfl), hO, hN, h0⟩))
          refine bN ?_
          exact aI (aH (⟨rfl, _, _, .eq (by kernel_rfl), hO, hN, h0⟩))
        refine bP 8 ?_
        refine cT [(0, (.msl 2 lo0p 0 (List.length aA))), (1, (eI a1)), (2, (eI m2)), (3, (eI b3)), (4, (.fn (.func cmp4_f) cmp4_a cmp4_c)), (18, (eI bQ)), (19, (eI n19)), (20, (eI aR)), (21, (eI r21)), (22, (eI (wR (n19 - (1 : Int)))))] ?_
        refine cL (fun T H => ∃ aA : List aB, ∃ aR : Int, ∃ r21 : Int, ∃ p22 : Int, Has T [(0, (.msl 2 lo0p 0 (List.length aA))), (1, (eI a1)), (2, (eI m2)), (3, (eI b3)), (4, (.fn (.func cmp4_f) cmp4_a cmp4_c)), (18, (eI bQ)), (19, (eI n19)), (20, (eI aR)), (21, (eI r21)), (22, (eI p22))] ∧ aO ⟨H0, [lo0p], []⟩ H [(lo0p, 2, List.map aD aA)] ∧ List.length aA = N0 ∧ kQ cmp4 rec aA a1 m2 b3 bQ n19 aR r21 p22 = some r) ?_ ⟨aA, aR, r21, wR (n19 - (1 : Int)), .eq (by kernel_rfl), hO, hN, h0⟩
        clear hO hN h0
        rintro T H ⟨aA, aR, r21, p22, hT, hO, hN, h0⟩
        refine bB hT ?_
        clear hT
        unfold kQ at h0
        obtain ⟨rr0, hl0, h0⟩ := aV h0
        refine cB (by kernel_rfl) (fun (s : List aB × Int × Int) T H => Has T [(0, (.msl 2 lo0p 0 (List.length s.1))), (1, (eI a1)), (2, (eI m2)), (3, (eI b3)), (4, (.fn (.func cmp4_f) cmp4_a cmp4_c)), (18, (eI bQ)), (19, (eI n19)), (20, (eI s.2.1)), (21, (eI s.2.2)), (22, (eI p22))] ∧ aO ⟨H0, [lo0p], []⟩ H [(lo0p, 2, List.map aD s.1)] ∧ List.length s.1 = N0) hl0 ⟨.eq (by kernel_rfl), hO, hN⟩ ?_
        clear hO hN
        rintro k0 s out1 T H ⟨hT, hO, hN⟩ h1 ho0
        obtain ⟨aA, aR, r21⟩ := s
        replace h1 : kV cmp4 rec a1 m2 b3 bQ n19 p22 aA aR r21 = some out1 := h1
        try dsimp only at hT
        refine bB hT ?_
        clear hT
        unfold kV at h1
        refine aQ ?_
        refine aY aG 3 [] [(151, (aL (decide (aR < r21))))] ?_
        refine bL h1 (fun h1 => ?_) (fun h1 => ?_)
        · refine bN ?_
          refine bF [(0, (.msl 2 lo0p 0 (List.length aA))), (1, (eI a1)), (2, (eI m2)), (3, (eI b3)), (4, (.fn (.func cmp4_f) cmp4_a cmp4_c)), (18, (eI bQ)), (19, (eI n19)), (20, (eI aR)), (21, (eI r21)), (22, (eI p22))] ?_
          refine bP 9 ?_
          refine aQ ?_
          refine aT aG 7 ?_
          obtain ⟨c15, h1⟩ := bJ h1
          refine vB [0 ≤ (1 : Int)] ⟨c15, trivial⟩ ?_
          refine bS [] [(23, (eI (wR (Int.fdiv (IntKind.u64.wrap (wR (aR + r21))) (2 ^ (min (Int.toNat (1 : Int)) 64))))))] ?_
          refine aQ ?_
          refine kC (jO [169]) aG 14 ?_
          obtain ⟨c16, h1⟩ := bJ h1
          refine dM 6 [0 ≤ (wR (p22 - (wR (Int.fdiv (IntKind.u64.wrap (wR (aR + r21))) (2 ^ (min (Int.toNat (1 : Int)) 64)))))) ∧ (wR (p22 - (wR (Int.fdiv (IntKind.u64.wrap (wR (aR + r21))) (2 ^ (min (Int.toNat (1 : Int)) 64)))))) < (lN aA)] ⟨c16, trivial⟩ ?_
          refine kS 0 lo0p 2 (0 + Int.toNat (wR (p22 - (wR (Int.fdiv (IntKind.u64.wrap (wR (aR + r21))) (2 ^ (min (Int.toNat (1 : Int)) 64))))))) (aD (gD aA (wR (p22 - (wR (Int.fdiv (IntKind.u64.wrap (wR (aR + r21))) (2 ^ (min (Int.toNat (1 : Int)) 64)))))))) (aD (gD aA (wR (p22 - (wR (Int.fdiv (IntKind.u64.wrap (wR (aR + r21))) (2 ^ (min (Int.toNat (1 : Int)) 64)))))))) (List.map aD aA) hO (cP c16) ?_
          obtain ⟨c17, h1⟩ := bJ h1
          refine dM 10 [0 ≤ (wR (Int.fdiv (IntKind.u64.wrap (wR (aR + r21))) (2 ^ (min (Int.toNat (1 : Int)) 64)))) ∧ (wR (Int.fdiv (IntKind.u64.wrap (wR (aR + r21))) (2 ^ (min (Int.toNat (1 : Int)) 64)))) < (lN aA)] ⟨c17, trivial⟩ ?_
          refine kS 0 lo0p 2 (0 + Int.toNat (wR (Int.fdiv (IntKind.u64.wrap (wR (aR + r21))) (2 ^ (min (Int.toNat (1 : Int)) 64))))) (aD (gD aA (wR (Int.fdiv (IntKind.u64.wrap (wR (aR + r21))) (2 ^ (min (Int.toNat (1 : Int)) 64)))))) (aD (gD aA (wR (Int.fdiv (IntKind.u64.wrap (wR (aR + r21))) (2 ^ (min (Int.toNat (1 : Int)) 64)))))) (List.map aD aA) hO (cP c17) ?_
          obtain ⟨x18, hx19, h1⟩ := aV h1
          refine yF (cmp4_h (gD aA (wR (p22 - (wR (Int.fdiv (IntKind.u64.wrap (wR (aR + r21))) (2 ^ (min (Int.toNat (1 : Int)) 64))))))) (gD aA (wR (Int.fdiv (IntKind.u64.wrap (wR (aR + r21))) (2 ^ (min (Int.toNat (1 : Int)) 64))))) _ hx19) hO ?_
          intro H hO
          refine qF ?_
          refine bS [] [(171, (aL (!(decide (x18 < (0 : Int))))))] ?_
          refine bL h1 (fun h1 => ?_) (fun h1 => ?_)
          · refine aT aG 3 ?_
            refine bC ?_
            exact aI (aU (aH (⟨rfl, _, (oI h1).symm, .eq (by kernel_rfl), hO, hN⟩)))
          refine aT aG 2 ?_
          refine bC ?_
          exact aI (aU (aH (⟨rfl, _, (oI h1).symm, .eq (by kernel_rfl), hO, hN⟩)))
        refine dU 8 ?_
        obtain rfl := oI h1
        obtain rfl : _ = rr0 := ho0
        replace h0 : gH cmp4 rec aA a1 m2 b3 bQ n19 aR = some r := h0
        exact aI (aZ (aZ (bO (aH (⟨rfl, _, _, .eq (by kernel_rfl), hO, hN, h0⟩)))))
      refine aY aG 3 [] [(140, (aL (decide ((wR (Int.fdiv (IntKind.u64.wrap (wR (a1 + b3))) (2 ^ (min (Int.toNat (1 : Int)) 64)))) < m2))))] ?_
      refine bL h0 (fun h0 => ?_) (fun h0 => ?_)
      · refine bV aG 4 [(0, (.msl 2 lo0p 0 (List.length aA))), (1, (eI a1)), (2, (eI m2)), (3, (eI b3)), (4, (.fn (.func cmp4_f) cmp4_a cmp4_c)), (18, (eI (wR (Int.fdiv (IntKind.u64.wrap (wR (a1 + b3))) (2 ^ (min (Int.toNat (1 : Int)) 64)))))), (19, (eI (wR ((wR (Int.fdiv (IntKind.u64.wrap (wR (a1 + b3))) (2 ^ (min (Int.toNat (1 : Int)) 64)))) + m2)))), (20, (eI (wR ((wR ((wR (Int.fdiv (IntKind.u64.wrap (wR (a1 + b3))) (2 ^ (min (Int.toNat (1 : Int)) 64)))) + m2)) - b3))))] ?_
        refine aT aG 2 ?_
        refine bC ?_
        exact aI (aH (⟨rfl, _, _, _, _, _, .eq (by kernel_rfl), hO, hN, h0⟩))
      refine bV aG 2 [(0, (.msl 2 lo0p 0 (List.length aA))), (1, (eI a1)), (2, (eI m2)), (3, (eI b3)), (4, (.fn (.func cmp4_f) cmp4_a cmp4_c)), (18, (eI (wR (Int.fdiv (IntKind.u64.wrap (wR (a1 + b3))) (2 ^ (min (Int.toNat (1 : Int)) 64)))))), (19, (eI (wR ((wR (Int.fdiv (IntKind.u64.wrap (wR (a1 + b3))) (2 ^ (min (Int.toNat (1 : Int)) 64)))) + m2)))), (20, (eI a1))] ?_
      refine aT aG 2 ?_
      refine bC ?_
      exact aI (aH (⟨rfl, _, _, _, _, _, .eq (by kernel_rfl), hO, hN, h0⟩))
    refine aY aG 4 [] [(80, (aL (decide ((wR (b3 - m2)) = (1 : Int)))))] ?_
    refine bL h0 (fun h0 => ?_) (fun h0 => ?_)
    · refine aY aG 2 [1, 3, 80] [(14, (eI a1))] ?_
      refine aY aG 2 [] [(15, (eI m2))] ?_
      refine dB (fun T H => ∃ aA : List aB, ∃ i14 : Int, Has T [(0, (.msl 2 lo0p 0 (List.length aA))), (2, (eI m2)), (14, (eI i14))] ∧ aO ⟨H0, [lo0p], []⟩ H [(lo0p, 2, List.map aD aA)] ∧ List.length aA = N0 ∧ gK cmp4 rec aA m2 i14 = some r) ?_ ?_
      · clear hO hN h0
        rintro T H ⟨aA, i14, hT, hO, hN, h0⟩
        refine bB hT ?_
        clear hT
        unfold gK at h0
        refine dB (fun T H => ∃ aA : List aB, Has T [(0, (.msl 2 lo0p 0 (List.length aA)))] ∧ aO ⟨H0, [lo0p], []⟩ H [(lo0p, 2, List.map aD aA)] ∧ List.length aA = N0 ∧ gG cmp4 rec aA = some r) ?_ ?_
        · clear hO hN h0
          rintro T H ⟨aA, hT, hO, hN, h0⟩
          refine bB hT ?_
          clear hT
          unfold gG at h0
          refine bH ?_
          obtain rfl := oI h0
          exact aI (bA (pY (x := (.tup [])) (by kernel_rfl) (aX.refl _) ⟨rfl, hO.ext, hO.at 0 (by kernel_rfl), by simp only [List.length_map]; exact hN.trans hN0⟩))
        refine aY aG 2 [2] [(17, (eI m2))] ?_
        refine bP 6 ?_
        refine cT [(0, (.msl 2 lo0p 0 (List.length aA))), (14, (eI i14)), (17, (eI m2))] ?_
        refine cL (fun T H => ∃ aA : List aB, ∃ k17 : Int, Has T [(0, (.msl 2 lo0p 0 (List.length aA))), (14, (eI i14)), (17, (eI k17))] ∧ aO ⟨H0, [lo0p], []⟩ H [(lo0p, 2, List.map aD aA)] ∧ List.length aA = N0 ∧ jV cmp4 rec aA i14 k17 = some r) ?_ ⟨aA, m2, .eq (by kernel_rfl), hO, hN, h0⟩
        clear hO hN h0
        rintro T H ⟨aA, k17, hT, hO, hN, h0⟩
        refine bB hT ?_
        clear hT
        unfold jV at h0
        obtain ⟨rr0, hl0, h0⟩ := aV h0
        refine cB (by kernel_rfl) (fun (s : List aB × Int) T H => Has T [(0, (.msl 2 lo0p 0 (List.length s.1))), (14, (eI i14)), (17, (eI s.2))] ∧ aO ⟨H0, [lo0p], []⟩ H [(lo0p, 2, List.map aD s.1)] ∧ List.length s.1 = N0) hl0 ⟨.eq (by kernel_rfl), hO, hN⟩ ?_
        clear hO hN
        rintro k0 s out1 T H ⟨hT, hO, hN⟩ h1 ho0
        obtain ⟨aA, k17⟩ := s
        replace h1 : jP cmp4 rec i14 aA k17 = some out1 := h1
        try dsimp only at hT
        refine bB hT ?_
        clear hT
        unfold jP at h1
        refine aQ ?_
        refine aY aG 3 [] [(110, (aL (decide (i14 < k17))))] ?_
        refine bL h1 (fun h1 => ?_) (fun h1 => ?_)
        · refine bN ?_
          refine bF [(0, (.msl 2 lo0p 0 (List.length aA))), (14, (eI i14)), (17, (eI k17))] ?_
          refine aQ ?_
          refine bP 7 ?_
          refine kC (jO []) aG 18 ?_
          obtain ⟨c25, h1⟩ := bJ h1
          refine dM 9 [0 ≤ (wR (k17 - (1 : Int))) ∧ (wR (k17 - (1 : Int))) < (lN aA)] ⟨c25, trivial⟩ ?_
          refine kS 0 lo0p 2 (0 + Int.toNat (wR (k17 - (1 : Int)))) (aD (gD aA (wR (k17 - (1 : Int))))) (aD (gD aA (wR (k17 - (1 : Int))))) (List.map aD aA) hO (cP c25) ?_
          obtain ⟨c26, h1⟩ := bJ h1
          refine dM 13 [0 ≤ k17 ∧ k17 < (lN aA)] ⟨c26, trivial⟩ ?_
          refine kS 0 lo0p 2 (0 + Int.toNat k17) (aD (gD aA k17)) (aD (gD aA k17)) (List.map aD aA) hO (cP c26) ?_
          obtain ⟨c27, h1⟩ := bJ h1
          refine dM 15 [0 ≤ k17 ∧ k17 < (lN aA)] ⟨c27, trivial⟩ ?_
          refine rR 0 lo0p 2 (0 + Int.toNat k17) (aD (gD aA k17)) (aD (gD aA (wR (k17 - (1 : Int))))) (List.map aD aA) [(lo0p, 2, List.map aD (List.set aA (Int.toNat k17) (gD aA (wR (k17 - (1 : Int))))))] hO (cP c27) (by simp only [List.set, nP]) ?_
          intro H hO
          replace hN : List.length (List.set aA (Int.toNat k17) (gD aA (wR (k17 - (1 : Int))))) = N0 := by simpa using hN
          obtain ⟨c28, h1⟩ := bJ h1
          refine dM 17 [0 ≤ (wR (k17 - (1 : Int))) ∧ (wR (k17 - (1 : Int))) < (lN aA)] ⟨c28, trivial⟩ ?_
          refine rR 0 lo0p 2 (0 + Int.toNat (wR (k17 - (1 : Int)))) (aD (gD (List.set aA (Int.toNat k17) (gD aA (wR (k17 - (1 : Int))))) (wR (k17 - (1 : Int))))) (aD (gD aA k17)) (List.map aD (List.set aA (Int.toNat k17) (gD aA (wR (k17 - (1 : Int)))))) [(lo0p, 2, List.map aD (List.set (List.set aA (Int.toNat k17) (gD aA (wR (k17 - (1 : Int))))) (Int.toNat (wR (k17 - (1 : Int)))) (gD aA k17)))] hO (xD c28 (by simp [])) (by simp only [List.set, nP]) ?_
          intro H hO
          replace hN : List.length (List.set (List.set aA (Int.toNat k17) (gD aA (wR (k17 - (1 : Int))))) (Int.toNat (wR (k17 - (1 : Int)))) (gD aA k17)) = N0 := by simpa using hN
          refine xP (by kernel_rfl) ?_
          refine cS (l := [(0, (.msl 2 lo0p 0 (List.length (List.set (List.set aA (Int.toNat k17) (gD aA (wR (k17 - (1 : Int))))) (Int.toNat (wR (k17 - (1 : Int)))) (gD aA k17))))), (14, (eI i14)), (17, (eI k17))]) ⟨[(0, (.msl 2 lo0p 0 (List.length aA))), (14, (eI i14)), (17, (eI k17))], by kernel_rfl, rfl, ⟨aX.eq (by simp []), aX.refl _, aX.refl _, trivial⟩⟩ ?_
          refine aI (aU (aH (?_)))
          refine aT aG 3 ?_
          refine bC ?_
          exact aI (aH (⟨rfl, _, (oI h1).symm, .eq (by kernel_rfl), hO, hN⟩))
        refine dU 6 ?_
        obtain rfl := oI h1
        obtain rfl : _ = rr0 := ho0
        replace h0 : gG cmp4 rec aA = some r := h0
        exact aI (aZ (aZ (bO (aH (⟨rfl, _, .eq (by kernel_rfl), hO, hN, h0⟩)))))
      refine bP 4 ?_
      refine cT [(0, (.msl 2 lo0p 0 (List.length aA))), (2, (eI m2)), (4, (.fn (.func cmp4_f) cmp4_a cmp4_c)), (14, (eI a1)), (15, (eI m2))] ?_
      refine cL (fun T H => ∃ aA : List aB, ∃ i14 : Int, ∃ j15 : Int, Has T [(0, (.msl 2 lo0p 0 (List.length aA))), (2, (eI m2)), (4, (.fn (.func cmp4_f) cmp4_a cmp4_c)), (14, (eI i14)), (15, (eI j15))] ∧ aO ⟨H0, [lo0p], []⟩ H [(lo0p, 2, List.map aD aA)] ∧ List.length aA = N0 ∧ kE cmp4 rec aA m2 i14 j15 = some r) ?_ ⟨aA, a1, m2, .eq (by kernel_rfl), hO, hN, h0⟩
      clear hO hN h0
      rintro T H ⟨aA, i14, j15, hT, hO, hN, h0⟩
      refine bB hT ?_
      clear hT
      unfold kE at h0
      obtain ⟨rr0, hl0, h0⟩ := aV h0
      refine cB (by kernel_rfl) (fun (s : List aB × Int × Int) T H => Has T [(0, (.msl 2 lo0p 0 (List.length s.1))), (2, (eI m2)), (4, (.fn (.func cmp4_f) cmp4_a cmp4_c)), (14, (eI s.2.1)), (15, (eI s.2.2))] ∧ aO ⟨H0, [lo0p], []⟩ H [(lo0p, 2, List.map aD s.1)] ∧ List.length s.1 = N0) hl0 ⟨.eq (by kernel_rfl), hO, hN⟩ ?_
      clear hO hN
      rintro k0 s out1 T H ⟨hT, hO, hN⟩ h1 ho0
      obtain ⟨aA, i14, j15⟩ := s
      replace h1 : kD cmp4 rec m2 aA i14 j15 = some out1 := h1
      try dsimp only at hT
      refine bB hT ?_
      clear hT
      unfold kD at h1
      refine aQ ?_
      refine aY aG 3 [] [(85, (aL (decide (i14 < j15))))] ?_
      refine bL h1 (fun h1 => ?_) (fun h1 => ?_)
      · refine bN ?_
        refine bF [(0, (.msl 2 lo0p 0 (List.length aA))), (2, (eI m2)), (4, (.fn (.func cmp4_f) cmp4_a cmp4_c)), (14, (eI i14)), (15, (eI j15))] ?_
        refine bP 5 ?_
        refine aQ ?_
        refine aT aG 7 ?_
        obtain ⟨c30, h1⟩ := bJ h1
        refine vB [0 ≤ (1 : Int)] ⟨c30, trivial⟩ ?_
        refine bS [] [(16, (eI (wR (Int.fdiv (IntKind.u64.wrap (wR (i14 + j15))) (2 ^ (min (Int.toNat (1 : Int)) 64))))))] ?_
        refine aQ ?_
        refine kC (jO [101]) aG 12 ?_
        obtain ⟨c31, h1⟩ := bJ h1
        refine dM 4 [0 ≤ m2 ∧ m2 < (lN aA)] ⟨c31, trivial⟩ ?_
        refine kS 0 lo0p 2 (0 + Int.toNat m2) (aD (gD aA m2)) (aD (gD aA m2)) (List.map aD aA) hO (cP c31) ?_
        obtain ⟨c32, h1⟩ := bJ h1
        refine dM 8 [0 ≤ (wR (Int.fdiv (IntKind.u64.wrap (wR (i14 + j15))) (2 ^ (min (Int.toNat (1 : Int)) 64)))) ∧ (wR (Int.fdiv (IntKind.u64.wrap (wR (i14 + j15))) (2 ^ (min (Int.toNat (1 : Int)) 64)))) < (lN aA)] ⟨c32, trivial⟩ ?_
        refine kS 0 lo0p 2 (0 + Int.toNat (wR (Int.fdiv (IntKind.u64.wrap (wR (i14 + j15))) (2 ^ (min (Int.toNat (1 : Int)) 64))))) (aD (gD aA (wR (Int.fdiv (IntKind.u64.wrap (wR (i14 + j15))) (2 ^ (min (Int.toNat (1 : Int)) 64)))))) (aD (gD aA (wR (Int.fdiv (IntKind.u64.wrap (wR (i14 + j15))) (2 ^ (min (Int.toNat (1 : Int)) 64)))))) (List.map aD aA) hO (cP c32) ?_
        obtain ⟨x33, hx34, h1⟩ := aV h1
        refine yF (cmp4_h (gD aA m2) (gD aA (wR (Int.fdiv (IntKind.u64.wrap (wR (i14 + j15))) (2 ^ (min (Int.toNat (1 : Int)) 64))))) _ hx34) hO ?_
        intro H hO
        refine qF ?_
        refine bS [] [(103, (aL (!(decide (x33 < (0 : Int))))))] ?_
        refine bL h1 (fun h1 => ?_) (fun h1 => ?_)
        · refine aT aG 3 ?_
          refine bC ?_
          exact aI (aU (aH (⟨rfl, _, (oI h1).symm, .eq (by kernel_rfl), hO, hN⟩)))
        refine aT aG 2 ?_
        refine bC ?_
        exact aI (aU (aH (⟨rfl, _, (oI h1).symm, .eq (by kernel_rfl), hO, hN⟩)))
      refine dU 4 ?_
      obtain rfl := oI h1
      obtain rfl : _ = rr0 := ho0
      replace h0 : gK cmp4 rec aA m2 i14 = some r := h0
      exact aI (aZ (aZ (bO (aH (⟨rfl, _, _, .eq (by kernel_rfl), hO, hN, h0⟩)))))
    refine bN ?_
    exact aI (aH (⟨rfl, _, .eq (by kernel_rfl), hO, hN, h0⟩))
  refine aY aG 4 [] [(28, (aL (decide ((wR (m2 - a1)) = (1 : Int)))))] ?_
  refine bL h0 (fun h0 => ?_) (fun h0 => ?_)
  · refine aY aG 2 [2, 28] [(10, (eI m2))] ?_
    refine aY aG 2 [3] [(11, (eI b3))] ?_
    refine dB (fun T H => ∃ aA : List aB, ∃ i10 : Int, Has T [(0, (.msl 2 lo0p 0 (List.length aA))), (1, (eI a1)), (10, (eI i10))] ∧ aO ⟨H0, [lo0p], []⟩ H [(lo0p, 2, List.map aD aA)] ∧ List.length aA = N0 ∧ fR cmp4 rec aA a1 i10 = some r) ?_ ?_
    · clear hO hN h0
      rintro T H ⟨aA, i10, hT, hO, hN, h0⟩
      refine bB hT ?_
      clear hT
      unfold fR at h0
      refine dB (fun T H => ∃ aA : List aB, Has T [(0, (.msl 2 lo0p 0 (List.length aA)))] ∧ aO ⟨H0, [lo0p], []⟩ H [(lo0p, 2, List.map aD aA)] ∧ List.length aA = N0 ∧ fQ cmp4 rec aA = some r) ?_ ?_
      · clear hO hN h0
        rintro T H ⟨aA, hT, hO, hN, h0⟩
        refine bB hT ?_
        clear hT
        unfold fQ at h0
        refine bH ?_
        obtain rfl := oI h0
        exact aI (bA (pY (x := (.tup [])) (by kernel_rfl) (aX.refl _) ⟨rfl, hO.ext, hO.at 0 (by kernel_rfl), by simp only [List.length_map]; exact hN.trans hN0⟩))
      refine aY aG 2 [1] [(13, (eI a1))] ?_
      refine bP 2 ?_
      refine cT [(0, (.msl 2 lo0p 0 (List.length aA))), (10, (eI i10)), (13, (eI a1))] ?_
      refine cL (fun T H => ∃ aA : List aB, ∃ k13 : Int, Has T [(0, (.msl 2 lo0p 0 (List.length aA))), (10, (eI i10)), (13, (eI k13))] ∧ aO ⟨H0, [lo0p], []⟩ H [(lo0p, 2, List.map aD aA)] ∧ List.length aA = N0 ∧ jW cmp4 rec aA i10 k13 = some r) ?_ ⟨aA, a1, .eq (by kernel_rfl), hO, hN, h0⟩
      clear hO hN h0
      rintro T H ⟨aA, k13, hT, hO, hN, h0⟩
      refine bB hT ?_
      clear hT
      unfold jW at h0
      obtain ⟨rr0, hl0, h0⟩ := aV h0
      refine cB (by kernel_rfl) (fun (s : List aB × Int) T H => Has T [(0, (.msl 2 lo0p 0 (List.length s.1))), (10, (eI i10)), (13, (eI s.2))] ∧ aO ⟨H0, [lo0p], []⟩ H [(lo0p, 2, List.map aD s.1)] ∧ List.length s.1 = N0) hl0 ⟨.eq (by kernel_rfl), hO, hN⟩ ?_
      clear hO hN
      rintro k0 s out1 T H ⟨hT, hO, hN⟩ h1 ho0
      obtain ⟨aA, k13⟩ := s
      replace h1 : kH cmp4 rec i10 aA k13 = some out1 := h1
      try dsimp only at hT
      refine bB hT ?_
      clear hT
      unfold kH at h1
      refine aQ ?_
      refine aY aG 4 [] [(58, (aL (decide (k13 < (wR (i10 - (1 : Int)))))))] ?_
      refine bL h1 (fun h1 => ?_) (fun h1 => ?_)
      · refine bN ?_
        refine bF [(0, (.msl 2 lo0p 0 (List.length aA))), (10, (eI i10)), (13, (eI k13))] ?_
        refine aQ ?_
        refine bP 3 ?_
        refine kC (jO []) aG 18 ?_
        obtain ⟨c39, h1⟩ := bJ h1
        refine dM 9 [0 ≤ (wR (k13 + (1 : Int))) ∧ (wR (k13 + (1 : Int))) < (lN aA)] ⟨c39, trivial⟩ ?_
        refine kS 0 lo0p 2 (0 + Int.toNat (wR (k13 + (1 : Int)))) (aD (gD aA (wR (k13 + (1 : Int))))) (aD (gD aA (wR (k13 + (1 : Int))))) (List.map aD aA) hO (cP c39) ?_
        obtain ⟨c40, h1⟩ := bJ h1
        refine dM 13 [0 ≤ k13 ∧ k13 < (lN aA)] ⟨c40, trivial⟩ ?_
        refine kS 0 lo0p 2 (0 + Int.toNat k13) (aD (gD aA k13)) (aD (gD aA k13)) (List.map aD aA) hO (cP c40) ?_
        obtain ⟨c41, h1⟩ := bJ h1
        refine dM 15 [0 ≤ k13 ∧ k13 < (lN aA)] ⟨c41, trivial⟩ ?_
        refine rR 0 lo0p 2 (0 + Int.toNat k13) (aD (gD aA k13)) (aD (gD aA (wR (k13 + (1 : Int))))) (List.map aD aA) [(lo0p, 2, List.map aD (List.set aA (Int.toNat k13) (gD aA (wR (k13 + (1 : Int))))))] hO (cP c41) (by simp only [List.set, nP]) ?_
        intro H hO
        replace hN : List.length (List.set aA (Int.toNat k13) (gD aA (wR (k13 + (1 : Int))))) = N0 := by simpa using hN
        obtain ⟨c42, h1⟩ := bJ h1
        refine dM 17 [0 ≤ (wR (k13 + (1 : Int))) ∧ (wR (k13 + (1 : Int))) < (lN aA)] ⟨c42, trivial⟩ ?_
        refine rR 0 lo0p 2 (0 + Int.toNat (wR (k13 + (1 : Int)))) (aD (gD (List.set aA (Int.toNat k13) (gD aA (wR (k13 + (1 : Int))))) (wR (k13 + (1 : Int))))) (aD (gD aA k13)) (List.map aD (List.set aA (Int.toNat k13) (gD aA (wR (k13 + (1 : Int)))))) [(lo0p, 2, List.map aD (List.set (List.set aA (Int.toNat k13) (gD aA (wR (k13 + (1 : Int))))) (Int.toNat (wR (k13 + (1 : Int)))) (gD aA k13)))] hO (xD c42 (by simp [])) (by simp only [List.set, nP]) ?_
        intro H hO
        replace hN : List.length (List.set (List.set aA (Int.toNat k13) (gD aA (wR (k13 + (1 : Int))))) (Int.toNat (wR (k13 + (1 : Int)))) (gD aA k13)) = N0 := by simpa using hN
        refine xP (by kernel_rfl) ?_
        refine cS (l := [(0, (.msl 2 lo0p 0 (List.length (List.set (List.set aA (Int.toNat k13) (gD aA (wR (k13 + (1 : Int))))) (Int.toNat (wR (k13 + (1 : Int)))) (gD aA k13))))), (10, (eI i10)), (13, (eI k13))]) ⟨[(0, (.msl 2 lo0p 0 (List.length aA))), (10, (eI i10)), (13, (eI k13))], by kernel_rfl, rfl, ⟨aX.eq (by simp []), aX.refl _, aX.refl _, trivial⟩⟩ ?_
        refine aI (aU (aH (?_)))
        refine aT aG 3 ?_
        refine bC ?_
        exact aI (aH (⟨rfl, _, (oI h1).symm, .eq (by kernel_rfl), hO, hN⟩))
      refine dU 2 ?_
      obtain rfl := oI h1
      obtain rfl : _ = rr0 := ho0
      replace h0 : fQ cmp4 rec aA = some r := h0
      exact aI (aZ (aZ (bO (aH (⟨rfl, _, .eq (by kernel_rfl), hO, hN, h0⟩)))))
    refine bP 0 ?_
    refine cT [(0, (.msl 2 lo0p 0 (List.length aA))), (1, (eI a1)), (4, (.fn (.func cmp4_f) cmp4_a cmp4_c)), (10, (eI m2)), (11, (eI b3))] ?_
    refine cL (fun T H => ∃ aA : List aB, ∃ i10 : Int, ∃ j11 : Int, Has T [(0, (.msl 2 lo0p 0 (List.length aA))), (1, (eI a1)), (4, (.fn (.func cmp4_f) cmp4_a cmp4_c)), (10, (eI i10)), (11, (eI j11))] ∧ aO ⟨H0, [lo0p], []⟩ H [(lo0p, 2, List.map aD aA)] ∧ List.length aA = N0 ∧ jU cmp4 rec aA a1 i10 j11 = some r) ?_ ⟨aA, m2, b3, .eq (by kernel_rfl), hO, hN, h0⟩
    clear hO hN h0
    rintro T H ⟨aA, i10, j11, hT, hO, hN, h0⟩
    refine bB hT ?_
    clear hT
    unfold jU at h0
    obtain ⟨rr0, hl0, h0⟩ := aV h0
    refine cB (by kernel_rfl) (fun (s : List aB × Int × Int) T H => Has T [(0, (.msl 2 lo0p 0 (List.length s.1))), (1, (eI a1)), (4, (.fn (.func cmp4_f) cmp4_a cmp4_c)), (10, (eI s.2.1)), (11, (eI s.2.2))] ∧ aO ⟨H0, [lo0p], []⟩ H [(lo0p, 2, List.map aD s.1)] ∧ List.length s.1 = N0) hl0 ⟨.eq (by kernel_rfl), hO, hN⟩ ?_
    clear hO hN
    rintro k0 s out1 T H ⟨hT, hO, hN⟩ h1 ho0
    obtain ⟨aA, i10, j11⟩ := s
    replace h1 : kA cmp4 rec a1 aA i10 j11 = some out1 := h1
    try dsimp only at hT
    refine bB hT ?_
    clear hT
    unfold kA at h1
    refine aQ ?_
    refine aY aG 3 [] [(33, (aL (decide (i10 < j11))))] ?_
    refine bL h1 (fun h1 => ?_) (fun h1 => ?_)
    · refine bN ?_
      refine bF [(0, (.msl 2 lo0p 0 (List.length aA))), (1, (eI a1)), (4, (.fn (.func cmp4_f) cmp4_a cmp4_c)), (10, (eI i10)), (11, (eI j11))] ?_
      refine bP 1 ?_
      refine aQ ?_
      refine aT aG 7 ?_
      obtain ⟨c44, h1⟩ := bJ h1
      refine vB [0 ≤ (1 : Int)] ⟨c44, trivial⟩ ?_
      refine bS [] [(12, (eI (wR (Int.fdiv (IntKind.u64.wrap (wR (i10 + j11))) (2 ^ (min (Int.toNat (1 : Int)) 64))))))] ?_
      refine aQ ?_
      refine kC (jO [49]) aG 11 ?_
      obtain ⟨c45, h1⟩ := bJ h1
      refine dM 4 [0 ≤ (wR (Int.fdiv (IntKind.u64.wrap (wR (i10 + j11))) (2 ^ (min (Int.toNat (1 : Int)) 64)))) ∧ (wR (Int.fdiv (IntKind.u64.wrap (wR (i10 + j11))) (2 ^ (min (Int.toNat (1 : Int)) 64)))) < (lN aA)] ⟨c45, trivial⟩ ?_
      refine kS 0 lo0p 2 (0 + Int.toNat (wR (Int.fdiv (IntKind.u64.wrap (wR (i10 + j11))) (2 ^ (min (Int.toNat (1 : Int)) 64))))) (aD (gD aA (wR (Int.fdiv (IntKind.u64.wrap (wR (i10 + j11))) (2 ^ (min (Int.toNat (1 : Int)) 64)))))) (aD (gD aA (wR (Int.fdiv (IntKind.u64.wrap (wR (i10 + j11))) (2 ^ (min (Int.toNat (1 : Int)) 64)))))) (List.map aD aA) hO (cP c45) ?_
      obtain ⟨c46, h1⟩ := bJ h1
      refine dM 8 [0 ≤ a1 ∧ a1 < (lN aA)] ⟨c46, trivial⟩ ?_
      refine kS 0 lo0p 2 (0 + Int.toNat a1) (aD (gD aA a1)) (aD (gD aA a1)) (List.map aD aA) hO (cP c46) ?_
      obtain ⟨x47, hx48, h1⟩ := aV h1
      refine yF (cmp4_h (gD aA (wR (Int.fdiv (IntKind.u64.wrap (wR (i10 + j11))) (2 ^ (min (Int.toNat (1 : Int)) 64))))) (gD aA a1) _ hx48) hO ?_
      intro H hO
      refine qF ?_
      refine bS [] [(50, (aL (decide (x47 < (0 : Int)))))] ?_
      refine bL h1 (fun h1 => ?_) (fun h1 => ?_)
      · refine aT aG 3 ?_
        refine bC ?_
        exact aI (aU (aH (⟨rfl, _, (oI h1).symm, .eq (by kernel_rfl), hO, hN⟩)))
      refine aT aG 2 ?_
      refine bC ?_
      exact aI (aU (aH (⟨rfl, _, (oI h1).symm, .eq (by kernel_rfl), hO, hN⟩)))
    refine dU 0 ?_
    obtain rfl := oI h1
    obtain rfl : _ = rr0 := ho0
    replace h0 : fR cmp4 rec aA a1 i10 = some r := h0
    exact aI (aZ (aZ (bO (aH (⟨rfl, _, _, .eq (by kernel_rfl), hO, hN, h0⟩)))))
  refine bN ?_
  exact aI (aH (⟨rfl, _, .eq (by kernel_rfl), hO, hN, h0⟩))

theorem nQ (cmp4_f : Nat) (cmp4_a cmp4_c : List V) (cmp4 : aB → aB → Option Int) (cmp4_h : ∀ a0 a1 r, cmp4 a0 a1 = some r → bT Try.prog cmp4_f (cmp4_a ++ [(aD a0), (aD a1)] ++ cmp4_c) (eI r)) : ∀ (k : Nat) (lo0p : Nat) (aA : (List aB)) (a1 : Int) (m2 : Int) (b3 : Int) (r : List aB), gJ cmp4 k aA a1 m2 b3 = some r → kY Try.prog 141 lo0p 2 (List.map aD aA) (List.map aD r) [(.msl 2 lo0p 0 (List.length aA)), (eI a1), (eI m2), (eI b3), (.fn (.func cmp4_f) cmp4_a cmp4_c)] (.tup [])
  | 0, _, _, _, _, _, _, h => by cases h
  | k + 1, lo0p, aA, a1, m2, b3, r, h => tI cmp4_f cmp4_a cmp4_c cmp4 cmp4_h _ (nQ cmp4_f cmp4_a cmp4_c cmp4 cmp4_h k) lo0p aA a1 m2 b3 r h

theorem oK (lo0p : Nat) (aA : (List aB)) (a1 : Int) (m2 : Int) (b3 : Int) (cmp4_f : Nat) (cmp4_a cmp4_c : List V) (cmp4 : aB → aB → Option Int) (cmp4_h : ∀ a0 a1 r, cmp4 a0 a1 = some r → bT Try.prog cmp4_f (cmp4_a ++ [(aD a0), (aD a1)] ++ cmp4_c) (eI r)) (r : List aB) (h0 : eE aA a1 m2 b3 cmp4 = some r) : kY Try.prog 141 lo0p 2 (List.map aD aA) (List.map aD r) [(.msl 2 lo0p 0 (List.length aA)), (eI a1), (eI m2), (eI b3), (.fn (.func cmp4_f) cmp4_a cmp4_c)] (.tup []) := by
  obtain ⟨k, hk⟩ := FO h0
  exact nQ cmp4_f cmp4_a cmp4_c cmp4 cmp4_h k lo0p aA a1 m2 b3 r hk

end Go.Abs
