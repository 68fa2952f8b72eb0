/- What the law PackOnce stands on: the framework, the given functions as plain functions, their walks, and the plain laws; part 3. -/
import Derived.Test.YtfepdngmgjmniaaPackOnceZ2
set_option linter.unusedSimpArgs false
set_option linter.unusedVariables false
namespace Go.Abs
open Go
noncomputable def sU (l0 : (List aM)) : Option ((List aC) × Int) :=
  (cY l0 (fun y0 => qN y0)).bind fun x1 =>
  cond x1
  (some ([], (2 : Int)))
  (cond (decide ((4096 : Int) < ((List.length l0 : Nat) : Int)))
  (some ([], (7 : Int)))
  (bJ (0 ≤ (IntKind.i64.wrap ((2 : Int) * ((List.length l0 : Nat) : Int))) ∧ (40 : Int) * (IntKind.i64.wrap ((2 : Int) * ((List.length l0 : Nat) : Int))) ≤ 281474976710656 ∧ (IntKind.i64.wrap ((2 : Int) * ((List.length l0 : Nat) : Int))) ≤ 9223372036854775807) <|
  vT ([] : List aC) l0 ((List.length l0 : Nat) : Int) (0 : Int)))

noncomputable def oV (sY : (List aB) → Option Bool) (kH : (List aC)) (t4 : Bool) (nU : (List aF)) (jA : Bool) (t14 : (List aF)) (t15 : (List aB)) : Option ((Bool × (List aF) × Bool) ⊕ (Bool × (List aF) × Bool)) :=
  (pU t14).bind fun x7 =>
  (cZ (jA && (!(!x7))) (pF nU t14)).bind fun x12 =>
  (cZ (!((!x7) || (jA && (decide ((0 : Int) ≤ x12))))) (sY t15)).bind fun x15 =>
  cond (((!x7) || (jA && (decide ((0 : Int) ≤ x12)))) || (!x15))
  (some (.inr (false, nU, jA)))
  (some (.inl (t4, t14, true)))

noncomputable def wK (sY : (List aB) → Option Bool) (t4 : Bool) (nU : (List aF)) (jA : Bool) (kH : (List aC)) : Option Bool :=
  (mD (fun st t14 t15 => rnd (fun (s : Bool × (List aF) × Bool) => oV sY kH s.1 s.2.1 s.2.2 t14 t15) st) kH (.inl (t4, nU, jA))).bind (Sum.elim (fun (s : Bool × (List aF) × Bool) =>
  (some true))
  (fun (s : Bool × (List aF) × Bool) =>
  (some s.1)))

noncomputable def sI (l0 : (List aC)) (sY : (List aB) → Option Bool) : Option Bool :=
  cond (decide ((4096 : Int) < ((List.length l0 : Nat) : Int)))
  (some false)
  ((oG l0).bind fun x5 =>
  wK sY false ([]) false x5)

noncomputable def uA (l0 : (List aC)) : Option Bool :=
  (sI l0 (fun y0 => nT y0)).bind fun x1 =>
  some x1

noncomputable def rX (fC : Int) : Option Int :=
  some fC

noncomputable def mM (t24 : (List aB)) (t25 : Int) (v3 : Int) (fC : Int) (t26 : Int) : Option ((Int × Int × Int) ⊕ (Int)) :=
  cond (decide (t26 < t25))
  (bJ (0 ≤ t26 ∧ t26 < ((List.length t24 : Nat) : Int)) <|
  some (.inl (IntKind.i64.wrap (v3 + ((List.getD t24 (Int.toNat t26) default).Net)), if (IntKind.i64.wrap (v3 + ((List.getD t24 (Int.toNat t26) default).Net))) < fC then (IntKind.i64.wrap (v3 + ((List.getD t24 (Int.toNat t26) default).Net))) else fC, IntKind.i64.wrap (t26 + (1 : Int)))))
  (some (.inr fC))

noncomputable def rT (v3 : Int) (fC : Int) (t24 : (List aB)) (t25 : Int) (t26 : Int) : Option Int :=
  (lp (fun s => mM t24 t25 s.1 s.2.1 s.2.2) (v3, fC, t26)).bind (fun rr => rX rr)

noncomputable def pI (f0 : (List aB)) (v3 : Int) (fC : Int) : Option Int :=
  rT v3 fC f0 ((List.length f0 : Nat) : Int) (0 : Int)

noncomputable def tI (f0 : (List aB)) : Option Int :=
  (nT f0).bind fun x1 =>
  cond ((!x1) || (decide (((List.length f0 : Nat) : Int) = (0 : Int))))
  (some (0 : Int))
  (bJ (0 ≤ (0 : Int) ∧ (0 : Int) < ((List.length f0 : Nat) : Int)) <|
  cond (decide (((List.getD f0 (Int.toNat (0 : Int)) default).At) = (-1 : Int)))
  (bJ (0 ≤ (0 : Int) ∧ (0 : Int) < ((List.length f0 : Nat) : Int)) <|
  pI f0 (0 : Int) ((List.getD f0 (Int.toNat (0 : Int)) default).Net))
  (pI f0 (0 : Int) (0 : Int)))

noncomputable def qF (f0 : (List aB)) : Option Bool :=
  (nT f0).bind fun x1 =>
  (cZ x1 (tI f0)).bind fun x4 =>
  some (x1 && (decide ((0 : Int) ≤ x4)))

noncomputable def tB (l0 : (List aC)) : Option Bool :=
  (sI l0 (fun y0 => qF y0)).bind fun x1 =>
  some x1

noncomputable def pK (l0 : (List aC)) : Option ((List aC)) :=
  some l0

noncomputable def jF {σ : Type} (eF : σ → (List aF) → (List aB) → Option (σ × Bool)) (t9c0 : (List aC)) (sg : σ) (t10 : (List aF)) (t11 : (List aB)) : Option ((σ) ⊕ (σ)) :=
  (eF sg t10 t11).bind fun x7 =>
  cond (!x7.2)
  (some (.inr x7.1))
  (some (.inl x7.1))

noncomputable def pQ {σ : Type} (eF : σ → (List aF) → (List aB) → Option (σ × Bool)) (sg : σ) (t9c0 : (List aC)) : Option σ :=
  (mD (fun st t10 t11 => rnd (fun (s : σ) => jF eF t9c0 s t10 t11) st) t9c0 (.inl sg)).bind (Sum.elim (fun (s : σ) =>
  (some s))
  (fun (s : σ) =>
  (some s)))

noncomputable def mH {σ : Type} (eF : σ → (List aF) → (List aB) → Option (σ × Bool)) (t1 : (List aC)) (sg0 : σ) : Option σ :=
  (uA t1).bind fun x1 =>
  cond (!x1)
  (some sg0)
  ((oG t1).bind fun x5 =>
  pQ eF sg0 x5)

noncomputable def tK (n3 : Int) : Option Int :=
  some n3

noncomputable def nJ (t6 : (List aB)) (t7 : Int) (n3 : Int) (t8 : Int) : Option ((Int × Int) ⊕ (Int)) :=
  cond (decide (t8 < t7))
  (bJ (0 ≤ t8 ∧ t8 < ((List.length t6 : Nat) : Int)) <|
  some (.inl (IntKind.i64.wrap (n3 + (if (0 : Int) > ((List.getD t6 (Int.toNat t8) default).Net) then (0 : Int) else ((List.getD t6 (Int.toNat t8) default).Net))), IntKind.i64.wrap (t8 + (1 : Int)))))
  (some (.inr n3))

noncomputable def xC (n3 : Int) (t6 : (List aB)) (t7 : Int) (t8 : Int) : Option Int :=
  (lp (fun s => nJ t6 t7 s.1 s.2) (n3, t8)).bind (fun rr => tK rr)

noncomputable def pX (f0 : (List aB)) : Option Int :=
  xC (0 : Int) f0 ((List.length f0 : Nat) : Int) (0 : Int)

noncomputable def lP (t0 : Int) (t1 : (List aS)) (t2 : Int) : Option ((List aS) × Int) :=
  bJ (0 ≤ t2 ∧ t2 < ((List.length t1 : Nat) : Int)) <|
  some (List.set t1 (Int.toNat t2) (aS.mk (List.getD t1 (Int.toNat t2) default).From t0), IntKind.i64.wrap (t2 + (1 : Int)))

noncomputable def vD (out3 : List aS) : Option (List aS) :=
  some out3

noncomputable def lF  (out3 : List aS) (bZ : Int) : Option ((List aS × Int) ⊕ ((List aS))) :=
  cond (decide (bZ < ((List.length out3 : Nat) : Int)))
  ((lP (1125899906842624 : Int) out3 bZ).bind fun x14 =>
  some (.inl (x14.1, x14.2)))
  (some (.inr out3))

noncomputable def vP (out3 : List aS) (bZ : Int) : Option (List aS) :=
  (lp (fun s => lF s.1 s.2) (out3, bZ)).bind (fun rr => vD rr)

noncomputable def rS (out3 : List aS) (bZ : Int) : Option (List aS) :=
  vP out3 bZ

noncomputable def rO (out3 : List aS) (bZ : Int) (t12 : (List aB)) (t13 : Int) (t14 : Int) : Option ((List aS × Int × Int) ⊕ ((List aS × Int))) :=
  some (.inl (out3, bZ, IntKind.i64.wrap (t14 + (1 : Int))))

noncomputable def lE (t12 : (List aB)) (t13 : Int) (t14 : Int) (t31 : Int) (out3 : List aS) (bZ : Int) (j7 : aB) (t32 : Int) : Option ((List aS × Int × aB × Int) ⊕ ((List aS × Int))) :=
  cond (decide (t32 < t31))
  ((lP j7.At out3 bZ).bind fun x30 =>
  some (.inl (x30.1, x30.2, j7, IntKind.i64.wrap (t32 + (1 : Int)))))
  (some (.inr (out3, bZ)))

noncomputable def vS (out3 : List aS) (bZ : Int) (j7 : aB) (t12 : (List aB)) (t13 : Int) (t14 : Int) (t31 : Int) (t32 : Int) : Option ((List aS × Int × Int) ⊕ ((List aS × Int))) :=
  (lp (fun s => lE t12 t13 t14 t31 s.1 s.2.1 s.2.2.1 s.2.2.2) (out3, bZ, j7, t32)).bind (fun rr => rO rr.1 rr.2 t12 t13 t14)

noncomputable def sC (out3 : List aS) (bZ : Int) (j7 : aB) (t12 : (List aB)) (t13 : Int) (t14 : Int) : Option ((List aS × Int × Int) ⊕ ((List aS × Int))) :=
  vS out3 bZ j7 t12 t13 t14 (IntKind.i64.wrap (0 - j7.Net)) (0 : Int)

noncomputable def lB (t12 : (List aB)) (t13 : Int) (t14 : Int) (t19 : Int) (out3 : List aS) (bZ : Int) (j7 : aB) (t20 : Int) : Option ((List aS × Int × aB × Int) ⊕ ((List aS × Int × aB))) :=
  cond (decide (t20 < t19))
  (bJ ((List.length out3 + List.length ([aS.mk j7.At 0])) * 16 ≤ 140737488355328 ∧ List.length out3 + List.length ([aS.mk j7.At 0]) ≤ 9223372036854775807) <|
  some (.inl (out3 ++ ([aS.mk j7.At 0]), bZ, j7, IntKind.i64.wrap (t20 + (1 : Int)))))
  (some (.inr (out3, bZ, j7)))

noncomputable def vR (out3 : List aS) (bZ : Int) (j7 : aB) (t12 : (List aB)) (t13 : Int) (t14 : Int) (t19 : Int) (t20 : Int) : Option ((List aS × Int × Int) ⊕ ((List aS × Int))) :=
  (lp (fun s => lB t12 t13 t14 t19 s.1 s.2.1 s.2.2.1 s.2.2.2) (out3, bZ, j7, t20)).bind (fun rr => sC rr.1 rr.2.1 rr.2.2 t12 t13 t14)

noncomputable def mK (t12 : (List aB)) (t13 : Int) (out3 : List aS) (bZ : Int) (t14 : Int) : Option ((List aS × Int × Int) ⊕ ((List aS × Int))) :=
  cond (decide (t14 < t13))
  (bJ (0 ≤ t14 ∧ t14 < ((List.length t12 : Nat) : Int)) <|
  vR out3 bZ (List.getD t12 (Int.toNat t14) default) t12 t13 t14 ((List.getD t12 (Int.toNat t14) default).Net) (0 : Int))
  (some (.inr (out3, bZ)))

noncomputable def vJ (out3 : List aS) (bZ : Int) (t12 : (List aB)) (t13 : Int) (t14 : Int) : Option (List aS) :=
  (lp (fun s => mK t12 t13 s.1 s.2.1 s.2.2) (out3, bZ, t14)).bind (fun rr => rS rr.1 rr.2)

noncomputable def sV (f0 : (List aB)) : Option (List aS) :=
  (pX f0).bind fun x1 =>
  bJ (0 ≤ x1 ∧ (16 : Int) * x1 ≤ 281474976710656 ∧ x1 ≤ 9223372036854775807) <|
  vJ ([] : List aS) (0 : Int) f0 ((List.length f0 : Nat) : Int) (0 : Int)

noncomputable def mZ (l0 : (List aC)) (tZ : (List aC)) (n4 : Int) (t22 : (List aF)) (t23 : (List aB)) : Option ((Int) ⊕ (Int)) :=
  (pX t23).bind fun x12 =>
  some (.inl (IntKind.i64.wrap (n4 + x12)))

noncomputable def lM (r8 : (List aF)) (t37 : (List aS)) (t38 : Int) (out7 : List aM) (t39 : Int) : Option ((List aM × Int) ⊕ ((List aM))) :=
  cond (decide (t39 < t38))
  (bJ (0 ≤ t39 ∧ t39 < ((List.length t37 : Nat) : Int)) <|
  (rD r8).bind fun x31 =>
  bJ ((List.length out7 + List.length ([aM.mk x31 (List.getD t37 (Int.toNat t39) default)])) * 40 ≤ 140737488355328 ∧ List.length out7 + List.length ([aM.mk x31 (List.getD t37 (Int.toNat t39) default)]) ≤ 9223372036854775807) <|
  some (.inl (out7 ++ ([aM.mk x31 (List.getD t37 (Int.toNat t39) default)]), IntKind.i64.wrap (t39 + (1 : Int)))))
  (some (.inr out7))

noncomputable def qH (out7 : List aM) (r8 : (List aF)) (t37 : (List aS)) (t38 : Int) (t39 : Int) : Option ((List aM) ⊕ (List aM)) :=
  (lp (fun s => lM r8 t37 t38 s.1 s.2) (out7, t39)).bind (fun rr => some (.inl rr))

noncomputable def mV (uC : (List aC)) (out7 : List aM) (t34 : (List aF)) (t35 : (List aB)) : Option ((List aM) ⊕ (List aM)) :=
  (sV t35).bind fun x23 =>
  qH out7 t34 x23 ((List.length x23 : Nat) : Int) (0 : Int)

noncomputable def qJ (out7 : List aM) (uC : (List aC)) : Option ((List aM) × Int) :=
  (mH (fun st t34 t35 => rnd (fun (s : List aM) => mV uC s t34 t35) st) uC (.inl out7)).bind (Sum.elim (fun (s : List aM) =>
  (some (s, (0 : Int))))
  (fun (s : List aM) =>
  (none)))

noncomputable def uE (l0 : (List aC)) (n4 : Int) (tZ : (List aC)) : Option ((List aM) × Int) :=
  (mH (fun st t22 t23 => rnd (fun (s : Int) => mZ l0 tZ s t22 t23) st) tZ (.inl n4)).bind (Sum.elim (fun (s : Int) =>
  (cond (decide ((4096 : Int) < s))
  (some ([], (7 : Int)))
  (bJ (0 ≤ s ∧ (40 : Int) * s ≤ 281474976710656 ∧ s ≤ 9223372036854775807) <|
  (pK l0).bind fun x20 =>
  qJ ([] : List aM) x20)))
  (fun (s : Int) =>
  (none)))

noncomputable def rW (l0 : (List aC)) : Option ((List aM) × Int) :=
  (uA l0).bind fun x1 =>
  cond (!x1)
  (some ([], (2 : Int)))
  ((tB l0).bind fun x5 =>
  cond (!x5)
  (some ([], (20 : Int)))
  ((pK l0).bind fun x10 =>
  uE l0 (0 : Int) x10))

noncomputable def oH (l0 : (List aM)) : Option ((List aM) × Int) :=
  (sU l0).bind fun x1 =>
  cond (!decide (x1.2 = (0 : Int)))
  (some ([], x1.2))
  ((rW x1.1).bind fun x5 =>
  some (x5.1, x5.2))

noncomputable def cD (eq2 : aM → aM → Option Bool)  : Option Bool :=
  some true

noncomputable def bW (eq2 : aM → aM → Option Bool) (s21 : (List aM)) (t15 : (List aM)) (t16 : Int) (t17 : Int) : Option ((Int) ⊕ (Unit ⊕ Bool)) :=
  cond (decide (t17 < t16))
  (bJ (0 ≤ t17 ∧ t17 < ((List.length t15 : Nat) : Int)) <|
  bJ (0 ≤ t17 ∧ t17 < ((List.length s21 : Nat) : Int)) <|
  (eq2 (List.getD t15 (Int.toNat t17) default) (List.getD s21 (Int.toNat t17) default)).bind fun x7 =>
  cond (!x7)
  (some (.inr (.inr false)))
  (some (.inl (IntKind.i64.wrap (t17 + (1 : Int))))))
  (some (.inr (.inl ())))

noncomputable def cK (eq2 : aM → aM → Option Bool) (s21 : (List aM)) (t15 : (List aM)) (t16 : Int) (t17 : Int) : Option Bool :=
  (lp (fun s => bW eq2 s21 t15 t16 s) t17).bind (Sum.elim (fun rr => cD eq2 ) (fun rr => some rr))

noncomputable def cL (s10 : (List aM)) (s21 : (List aM)) (eq2 : aM → aM → Option Bool) : Option Bool :=
  cond (!decide (((List.length s10 : Nat) : Int) = ((List.length s21 : Nat) : Int)))
  (some false)
  (cK eq2 s21 s10 ((List.length s10 : Nat) : Int) (0 : Int))

noncomputable def nN (x0 : aM) (y1 : aM) : Option Bool :=
  (cZ ((decide (x0.Span.From = y1.Span.From)) && ((decide (x0.Span.To = y1.Span.To)) && true)) (uD x0.Row y1.Row)).bind fun x1 =>
  some (((decide (x0.Span.From = y1.Span.From)) && ((decide (x0.Span.To = y1.Span.To)) && true)) && x1)

noncomputable def sE (a0 : (List aM)) (b1 : (List aM)) : Option Bool :=
  (cL a0 b1 (fun y0 y1 => nN y0 y1)).bind fun x1 =>
  some x1

noncomputable def rR  : Option Bool :=
  some true

noncomputable def pG (a0 : (List aF)) (b1 : (List aF)) (i5 : Int) : Option ((Int) ⊕ (Unit ⊕ Bool)) :=
  cond (decide (i5 < ((List.length a0 : Nat) : Int)))
  (bJ (0 ≤ i5 ∧ i5 < ((List.length a0 : Nat) : Int)) <|
  bJ (0 ≤ i5 ∧ i5 < ((List.length b1 : Nat) : Int)) <|
  cond (!((decide (((List.getD a0 (Int.toNat i5) default).Kind) = ((List.getD b1 (Int.toNat i5) default).Kind))) && ((decide (((List.getD a0 (Int.toNat i5) default).Num) = ((List.getD b1 (Int.toNat i5) default).Num))) && ((nX ((List.getD a0 (Int.toNat i5) default).Text) ((List.getD b1 (Int.toNat i5) default).Text)) && true))))
  (some (.inr (.inr false)))
  (some (.inl (IntKind.i64.wrap (i5 + (1 : Int))))))
  (some (.inr (.inl ())))

noncomputable def vH (a0 : (List aF)) (b1 : (List aF)) (i5 : Int) : Option Bool :=
  (lp (fun s => pG a0 b1 s) i5).bind (Sum.elim (fun rr => rR ) (fun rr => some rr))

noncomputable def tR (a0 : (List aF)) (b1 : (List aF)) : Option Bool :=
  cond (!decide (((List.length a0 : Nat) : Int) = ((List.length b1 : Nat) : Int)))
  (some false)
  (vH a0 b1 (0 : Int))

noncomputable def rL  : Option Bool :=
  some true

noncomputable def pL (a0 : (List aM)) (b1 : (List aM)) (i5 : Int) : Option ((Int) ⊕ (Unit ⊕ Bool)) :=
  cond (decide (i5 < ((List.length a0 : Nat) : Int)))
  (bJ (0 ≤ i5 ∧ i5 < ((List.length a0 : Nat) : Int)) <|
  bJ (0 ≤ i5 ∧ i5 < ((List.length b1 : Nat) : Int)) <|
  bJ ((((!(!((decide ((((List.getD a0 (Int.toNat i5) default).Span).From) = (((List.getD b1 (Int.toNat i5) default).Span).From))) && ((decide ((((List.getD a0 (Int.toNat i5) default).Span).To) = (((List.getD b1 (Int.toNat i5) default).Span).To))) && true))))) = true → 0 ≤ i5 ∧ i5 < ((List.length a0 : Nat) : Int))) <|
  bJ ((((!(!((decide ((((List.getD a0 (Int.toNat i5) default).Span).From) = (((List.getD b1 (Int.toNat i5) default).Span).From))) && ((decide ((((List.getD a0 (Int.toNat i5) default).Span).To) = (((List.getD b1 (Int.toNat i5) default).Span).To))) && true))))) = true → 0 ≤ i5 ∧ i5 < ((List.length b1 : Nat) : Int))) <|
  (cZ (!(!((decide ((((List.getD a0 (Int.toNat i5) default).Span).From) = (((List.getD b1 (Int.toNat i5) default).Span).From))) && ((decide ((((List.getD a0 (Int.toNat i5) default).Span).To) = (((List.getD b1 (Int.toNat i5) default).Span).To))) && true)))) (tR ((List.getD a0 (Int.toNat i5) default).Row) ((List.getD b1 (Int.toNat i5) default).Row))).bind fun x7 =>
  cond ((!((decide ((((List.getD a0 (Int.toNat i5) default).Span).From) = (((List.getD b1 (Int.toNat i5) default).Span).From))) && ((decide ((((List.getD a0 (Int.toNat i5) default).Span).To) = (((List.getD b1 (Int.toNat i5) default).Span).To))) && true))) || (!x7))
  (some (.inr (.inr false)))
  (some (.inl (IntKind.i64.wrap (i5 + (1 : Int))))))
  (some (.inr (.inl ())))

noncomputable def vO (a0 : (List aM)) (b1 : (List aM)) (i5 : Int) : Option Bool :=
  (lp (fun s => pL a0 b1 s) i5).bind (Sum.elim (fun rr => rL ) (fun rr => some rr))

noncomputable def oS (a0 : (List aM)) (b1 : (List aM)) : Option Bool :=
  cond (!decide (((List.length a0 : Nat) : Int) = ((List.length b1 : Nat) : Int)))
  (some false)
  (vO a0 b1 (0 : Int))

noncomputable def oR  : Option Bool :=
  (jJ (5 : Int) (9 : Int)).bind fun x1 =>
  (jJ (2 : Int) (5 : Int)).bind fun x4 =>
  (oH ([x1, x4])).bind fun x7 =>
  (jJ (1 : Int) (10 : Int)).bind fun x10 =>
  (jJ (3 : Int) (5 : Int)).bind fun x13 =>
  (oH ([x10, x13])).bind fun x16 =>
  (cZ ((decide (x7.2 = (0 : Int))) && (decide (x16.2 = (0 : Int)))) (jJ (2 : Int) (9 : Int))).bind fun x19 =>
  (cZ ((decide (x7.2 = (0 : Int))) && (decide (x16.2 = (0 : Int)))) (sE x7.1 ([x19]))).bind fun x22 =>
  (cZ (((decide (x7.2 = (0 : Int))) && (decide (x16.2 = (0 : Int)))) && x22) (jJ (1 : Int) (5 : Int))).bind fun x25 =>
  (cZ (((decide (x7.2 = (0 : Int))) && (decide (x16.2 = (0 : Int)))) && x22) (jJ (3 : Int) (10 : Int))).bind fun x28 =>
  (cZ (((decide (x7.2 = (0 : Int))) && (decide (x16.2 = (0 : Int)))) && x22) (oS x16.1 ([x25, x28]))).bind fun x31 =>
  (cZ ((((decide (x7.2 = (0 : Int))) && (decide (x16.2 = (0 : Int)))) && x22) && x31) (jJ (-1 : Int) (0 : Int))).bind fun x34 =>
  (cZ ((((decide (x7.2 = (0 : Int))) && (decide (x16.2 = (0 : Int)))) && x22) && x31) (qU x34)).bind fun x37 =>
  (cZ (((((decide (x7.2 = (0 : Int))) && (decide (x16.2 = (0 : Int)))) && x22) && x31) && x37) (jJ (3 : Int) (3 : Int))).bind fun x40 =>
  (cZ (((((decide (x7.2 = (0 : Int))) && (decide (x16.2 = (0 : Int)))) && x22) && x31) && x37) (qU x40)).bind fun x43 =>
  some ((((((decide (x7.2 = (0 : Int))) && (decide (x16.2 = (0 : Int)))) && x22) && x31) && x37) && (!x43))

noncomputable def nR (l0 : (List aM)) (a3 : (List aM)) (eA : List aM) : Option Bool :=
  (oH eA).bind fun x13 =>
  (oR ).bind fun x16 =>
  (cZ (x16 && (decide (x13.2 = (0 : Int)))) (oS a3 x13.1)).bind fun x19 =>
  some (((x16 && (decide (x13.2 = (0 : Int)))) && x19) && (decide (((List.length a3 : Nat) : Int) ≤ ((List.length l0 : Nat) : Int))))

noncomputable def iW (l0 : (List aM)) (a3 : (List aM)) (eA : List aM) (i6 : Int) : Option ((List aM × Int) ⊕ ((List aM))) :=
  cond (decide ((0 : Int) ≤ i6))
  (bJ (0 ≤ i6 ∧ i6 < ((List.length a3 : Nat) : Int)) <|
  bJ ((List.length eA + List.length ([List.getD a3 (Int.toNat i6) default])) * 40 ≤ 140737488355328 ∧ List.length eA + List.length ([List.getD a3 (Int.toNat i6) default]) ≤ 9223372036854775807) <|
  some (.inl (eA ++ ([List.getD a3 (Int.toNat i6) default]), IntKind.i64.wrap (i6 - (1 : Int)))))
  (some (.inr eA))

noncomputable def qB (l0 : (List aM)) (a3 : (List aM)) (eA : List aM) (i6 : Int) : Option Bool :=
  (lp (fun s => iW l0 a3 s.1 s.2) (eA, i6)).bind (fun rr => nR l0 a3 rr)

noncomputable def qV (l0 : (List aM)) : Option Bool :=
  cond (decide ((2000 : Int) < ((List.length l0 : Nat) : Int)))
  ((oR ).bind fun x2 =>
  some x2)
  ((oH l0).bind fun x5 =>
  cond (!decide (x5.2 = (0 : Int)))
  ((oR ).bind fun x9 =>
  some x9)
  (qB l0 x5.1 ([] : List aM) (IntKind.i64.wrap (((List.length x5.1 : Nat) : Int) - (1 : Int)))))

end Go.Abs
namespace Go.Abs
open Go Go.RowKit
def zR (x : aF) : Prop := DJ x.Kind ∧ DJ x.Num ∧ (fun s => s.size ≤ maxLen) x.Text ∧ True

def xN (x : aS) : Prop := DJ x.From ∧ DJ x.To ∧ True

def tE (x : aM) : Prop := (fun l => (∀ a ∈ l, zR a) ∧ l.length * 32 ≤ 140737488351232) x.Row ∧ xN x.Span ∧ True

end Go.Abs
namespace Go.Abs
open Go Go.RowKit Go.Proofs
noncomputable def tt : TT := ⟨UT Try.prog, QC Try.prog⟩

theorem aG : eH Try.prog tt := eH.of Try.prog

theorem nE (nM : Int) (to1 : Int) (r : aM) (h0 : jJ nM to1 = some r) : bU Try.prog 44 [(eI nM), (eI to1)] (aH r) := by
  intro H0
  refine BR aG Try.func44 (by kernel_rfl) (by kernel_rfl) (by kernel_rfl) ?_
  have hO := aP.start H0
  unfold jJ at h0
  refine aQ ?_
  refine aU aG 1 ?_
  refine rB 3 (.agg [(.sl true 0 (fun _ => .bad)), (eI 0), (eI 0)]) (aH (aM.mk ([]) (aS.mk 0 0))) (by kernel_rfl) (by kernel_rfl) (by kernel_rfl) (EW (xs := [(.sl true 0 (fun _ => .bad)), (eI 0), (eI 0)]) (ys := [(eL aL ([])), (eI 0), (eI 0)]) ⟨gP, aV.refl _, aV.refl _, trivial⟩) (by kernel_rfl) (by kernel_rfl) hO ?_
  intro lo1 H hO
  refine cH ?_
  refine bS [] [(4, (.lp lo1 0 0))] ?_
  refine aQ ?_
  refine aU aG 7 ?_
  refine bK 1 ?_
  refine tT (xs := [(aL (aF.mk (1 : Int) (1 : Int) ByteArray.empty))]) (k := 3) (by kernel_rfl) (by kernel_rfl) ?_
  refine bK 6 ?_
  refine jR 0 lo1 3 0 (aH (aM.mk ([]) (aS.mk 0 0))) (.agg [(eT [(aL (aF.mk (1 : Int) (1 : Int) ByteArray.empty))]), (eI ((aS.mk nM to1).From)), (eI ((aS.mk nM to1).To))]) [(aH (aM.mk ([]) (aS.mk 0 0)))] [(lo1, 3, [(.agg [(eT [(aL (aF.mk (1 : Int) (1 : Int) ByteArray.empty))]), (eI ((aS.mk nM to1).From)), (eI ((aS.mk nM to1).To))])])] hO rfl (by kernel_rfl) ?_
  intro H hO
  refine cH ?_
  refine ID 0 lo1 3 (.agg [(eT [(aL (aF.mk (1 : Int) (1 : Int) ByteArray.empty))]), (eI ((aS.mk nM to1).From)), (eI ((aS.mk nM to1).To))]) (aH (aM.mk ([aF.mk (1 : Int) (1 : Int) ByteArray.empty]) (aS.mk nM to1))) [(lo1, 3, [(aH (aM.mk ([aF.mk (1 : Int) (1 : Int) ByteArray.empty]) (aS.mk nM to1)))])] hO (by kernel_rfl) (by kernel_rfl) (EW (xs := [(eT [(aL (aF.mk (1 : Int) (1 : Int) ByteArray.empty))]), (eI ((aS.mk nM to1).From)), (eI ((aS.mk nM to1).To))]) (ys := [(eL aL ([aF.mk (1 : Int) (1 : Int) ByteArray.empty])), (eI ((aS.mk nM to1).From)), (eI ((aS.mk nM to1).To))]) ⟨BN (l := [aF.mk (1 : Int) (1 : Int) ByteArray.empty]), aV.refl _, aV.refl _, trivial⟩) (by kernel_rfl) ?_
  intro H hO
  refine bF [(4, (.lp lo1 0 0))] ?_
  refine bI ?_
  obtain rfl := oI h0
  exact aJ (QM0 (.inr rfl) (rs := [.cell 4 32]) (xs := [(aH (aM.mk ([aF.mk (1 : Int) (1 : Int) ByteArray.empty]) (aS.mk nM to1)))]) (x := (aH (aM.mk ([aF.mk (1 : Int) (1 : Int) ByteArray.empty]) (aS.mk nM to1)))) (by kernel_rfl) (wE (lo := lo1) (k := 3) (y := (aH (aM.mk ([aF.mk (1 : Int) (1 : Int) ByteArray.empty]) (aS.mk nM to1)))) (x := (aH (aM.mk ([aF.mk (1 : Int) (1 : Int) ByteArray.empty]) (aS.mk nM to1)))) 0 hO (by kernel_rfl) (by kernel_rfl) (by kernel_rfl) (by kernel_rfl) qG) (by kernel_rfl) ⟨rfl, hO.out⟩)

theorem sM (s0 : (List aM)) (f1_f : Nat) (f1_a f1_c : List V) (f1 : aM → Option Bool) (f1_h : ∀ a0 r, f1 a0 = some r → bU Try.prog f1_f (f1_a ++ [(aH a0)] ++ f1_c) (aK r)) (r : Int) (h0 : eZ s0 f1 = some r) : bU Try.prog 116 [(eL aH s0), (.fn (.func f1_f) f1_a f1_c)] (eI r) := by
  intro H0
  refine cI Try.func116 ?_
  have hO := aP.start H0
  unfold eZ at h0
  refine aX aG 1 [] [] ?_
  refine dO (fun T H => Has T [] ∧ aP ⟨H0, [], []⟩ H [] ∧ dD f1  = some r) ?_ ?_
  · clear hO h0
    rintro T H ⟨hT, hO, h0⟩
    refine bB hT ?_
    clear hT
    unfold dD at h0
    refine bY aG 1 [(4, (eI (-1 : Int)))] ?_
    refine bI ?_
    obtain rfl := oI h0
    exact aJ (Q_r hO)
  refine aX aG 3 [] [(7, (eI (lN s0))), (8, (eI (0 : Int)))] ?_
  refine bQ 0 ?_
  refine cU [(0, (eL aH s0)), (1, (.fn (.func f1_f) f1_a f1_c)), (7, (eI (lN s0))), (8, (eI (0 : Int)))] ?_
  refine cO (fun T H => ∃ t7 : Int, ∃ t8 : Int, Has T [(0, (eL aH s0)), (1, (.fn (.func f1_f) f1_a f1_c)), (7, (eI t7)), (8, (eI t8))] ∧ aP ⟨H0, [], []⟩ H [] ∧ eP f1 s0 t7 t8 = some r) ?_ ⟨(lN s0), (0 : Int), .eq (by kernel_rfl), hO, h0⟩
  clear hO h0
  rintro T H ⟨t7, t8, hT, hO, h0⟩
  refine bB hT ?_
  clear hT
  unfold eP at h0
  obtain ⟨rr0, hl0, h0⟩ := aW h0
  refine cF (by kernel_rfl) (fun (s : Int) T H => Has T [(0, (eL aH s0)), (1, (.fn (.func f1_f) f1_a f1_c)), (7, (eI t7)), (8, (eI s))] ∧ aP ⟨H0, [], []⟩ H []) hl0 ⟨.eq (by kernel_rfl), hO⟩ ?_
  clear hO
  rintro k0 s out1 T H ⟨hT, hO⟩ h1 ho0
  obtain ⟨t8, rfl⟩ : ∃ x, x = s := ⟨_, rfl⟩
  replace h1 : eJ f1 s0 t7 t8 = some out1 := h1
  refine bB hT ?_
  clear hT
  unfold eJ at h1
  refine aX aG 1 [] [(9, (aK (decide (t8 < t7))))] ?_
  refine aQ ?_
  refine bM h1 (fun h1 => ?_) (fun h1 => ?_)
  · refine bN ?_
    refine bF [(0, (eL aH s0)), (1, (.fn (.func f1_f) f1_a f1_c)), (7, (eI t7)), (8, (eI t8))] ?_
    refine aQ ?_
    refine bQ 1 ?_
    refine aX aG 2 [] [(5, (eI t8))] ?_
    refine aQ ?_
    refine aU aG 6 ?_
    obtain ⟨c2, h1⟩ := bL h1
    refine sL 5 [0 ≤ t8 ∧ t8 < (lN s0)] ⟨c2, trivial⟩ ?_
    obtain ⟨x3, hx4, h1⟩ := aW h1
    refine cM (f1_h (gD s0 t8) _ hx4) hO ?_
    intro H hO
    refine cH ?_
    refine bS [] [(16, (aK x3))] ?_
    refine bM h1 (fun h1 => ?_) (fun h1 => ?_)
    · refine bY aG 2 [(4, (eI t8))] ?_
      refine bI ?_
      obtain rfl := oI h1
      obtain rfl : _ = rr0 := ho0
      replace h0 : some t8 = some r := h0
      obtain rfl := oI h0
      exact aJ (bX (bA (bA (bX (bA (Q_r hO))))))
    refine bN ?_
    refine dP [(0, (eL aH s0)), (1, (.fn (.func f1_f) f1_a f1_c)), (7, (eI t7)), (8, (eI t8))] ?_
    refine aJ (aZ (aI (?_)))
    refine aU aG 2 ?_
    refine bC ?_
    exact aJ (aI (⟨rfl, _, (oI h1).symm, .eq (by kernel_rfl), hO⟩))
  refine eB 0 ?_
  obtain rfl := oI h1
  obtain rfl : _ = rr0 := ho0
  replace h0 : dD f1  = some r := h0
  exact aJ (aY (aY (bP (aI (⟨rfl, .eq (by kernel_rfl), hO, h0⟩)))))

theorem qR (s0 : (List aM)) (f1_f : Nat) (f1_a f1_c : List V) (f1 : aM → Option Bool) (f1_h : ∀ a0 r, f1 a0 = some r → bU Try.prog f1_f (f1_a ++ [(aH a0)] ++ f1_c) (aK r)) (r : Bool) (h0 : cY s0 f1 = some r) : bU Try.prog 74 [(eL aH s0), (.fn (.func f1_f) f1_a f1_c)] (aK r) := by
  intro H0
  refine cI Try.func74 ?_
  have hO := aP.start H0
  unfold cY at h0
  refine aX aG 1 [] [] ?_
  refine aQ ?_
  refine aU aG 5 ?_
  refine bK 2 ?_
  obtain ⟨x1, hx2, h0⟩ := aW h0
  refine cM (sM s0 f1_f f1_a f1_c f1 f1_h _ hx2) hO ?_
  intro H hO
  refine bC ?_
  refine bF [(4, (aK (decide ((0 : Int) ≤ x1))))] ?_
  refine bI ?_
  obtain rfl := oI h0
  exact aJ (Q_r hO)

theorem tF (s0 : (List aF)) (f1_f : Nat) (f1_a f1_c : List V) (f1 : aF → Option Bool) (f1_h : ∀ a0 r, f1 a0 = some r → bU Try.prog f1_f (f1_a ++ [(aL a0)] ++ f1_c) (aK r)) (r : Int) (h0 : fK s0 f1 = some r) : bU Try.prog 100 [(eL aL s0), (.fn (.func f1_f) f1_a f1_c)] (eI r) := by
  intro H0
  refine cI Try.func100 ?_
  have hO := aP.start H0
  unfold fK at h0
  refine aX aG 1 [] [] ?_
  refine dO (fun T H => Has T [] ∧ aP ⟨H0, [], []⟩ H [] ∧ dL f1  = some r) ?_ ?_
  · clear hO h0
    rintro T H ⟨hT, hO, h0⟩
    refine bB hT ?_
    clear hT
    unfold dL at h0
    refine bY aG 1 [(4, (eI (-1 : Int)))] ?_
    refine bI ?_
    obtain rfl := oI h0
    exact aJ (Q_r hO)
  refine aX aG 3 [] [(7, (eI (lN s0))), (8, (eI (0 : Int)))] ?_
  refine bQ 0 ?_
  refine cU [(0, (eL aL s0)), (1, (.fn (.func f1_f) f1_a f1_c)), (7, (eI (lN s0))), (8, (eI (0 : Int)))] ?_
  refine cO (fun T H => ∃ t7 : Int, ∃ t8 : Int, Has T [(0, (eL aL s0)), (1, (.fn (.func f1_f) f1_a f1_c)), (7, (eI t7)), (8, (eI t8))] ∧ aP ⟨H0, [], []⟩ H [] ∧ fG f1 s0 t7 t8 = some r) ?_ ⟨(lN s0), (0 : Int), .eq (by kernel_rfl), hO, h0⟩
  clear hO h0
  rintro T H ⟨t7, t8, hT, hO, h0⟩
  refine bB hT ?_
  clear hT
  unfold fG at h0
  obtain ⟨rr0, hl0, h0⟩ := aW h0
  refine cF (by kernel_rfl) (fun (s : Int) T H => Has T [(0, (eL aL s0)), (1, (.fn (.func f1_f) f1_a f1_c)), (7, (eI t7)), (8, (eI s))] ∧ aP ⟨H0, [], []⟩ H []) hl0 ⟨.eq (by kernel_rfl), hO⟩ ?_
  clear hO
  rintro k0 s out1 T H ⟨hT, hO⟩ h1 ho0
  obtain ⟨t8, rfl⟩ : ∃ x, x = s := ⟨_, rfl⟩
  replace h1 : fH f1 s0 t7 t8 = some out1 := h1
  refine bB hT ?_
  clear hT
  unfold fH at h1
  refine aX aG 1 [] [(9, (aK (decide (t8 < t7))))] ?_
  refine aQ ?_
  refine bM h1 (fun h1 => ?_) (fun h1 => ?_)
  · refine bN ?_
    refine bF [(0, (eL aL s0)), (1, (.fn (.func f1_f) f1_a f1_c)), (7, (eI t7)), (8, (eI t8))] ?_
    refine aQ ?_
    refine bQ 1 ?_
    refine aX aG 2 [] [(5, (eI t8))] ?_
    refine aQ ?_
    refine aU aG 6 ?_
    obtain ⟨c2, h1⟩ := bL h1
    refine sL 5 [0 ≤ t8 ∧ t8 < (lN s0)] ⟨c2, trivial⟩ ?_
    obtain ⟨x3, hx4, h1⟩ := aW h1
    refine cM (f1_h (gD s0 t8) _ hx4) hO ?_
    intro H hO
    refine cH ?_
    refine bS [] [(16, (aK x3))] ?_
    refine bM h1 (fun h1 => ?_) (fun h1 => ?_)
    · refine bY aG 2 [(4, (eI t8))] ?_
      refine bI ?_
      obtain rfl := oI h1
      obtain rfl : _ = rr0 := ho0
      replace h0 : some t8 = some r := h0
      obtain rfl := oI h0
      exact aJ (bX (bA (bA (bX (bA (Q_r hO))))))
    refine bN ?_
    refine dP [(0, (eL aL s0)), (1, (.fn (.func f1_f) f1_a f1_c)), (7, (eI t7)), (8, (eI t8))] ?_
    refine aJ (aZ (aI (?_)))
    refine aU aG 2 ?_
    refine bC ?_
    exact aJ (aI (⟨rfl, _, (oI h1).symm, .eq (by kernel_rfl), hO⟩))
  refine eB 0 ?_
  obtain rfl := oI h1
  obtain rfl : _ = rr0 := ho0
  replace h0 : dL f1  = some r := h0
  exact aJ (aY (aY (bP (aI (⟨rfl, .eq (by kernel_rfl), hO, h0⟩)))))

theorem rJ (s0 : (List aF)) (f1_f : Nat) (f1_a f1_c : List V) (f1 : aF → Option Bool) (f1_h : ∀ a0 r, f1 a0 = some r → bU Try.prog f1_f (f1_a ++ [(aL a0)] ++ f1_c) (aK r)) (r : Bool) (h0 : dF s0 f1 = some r) : bU Try.prog 96 [(eL aL s0), (.fn (.func f1_f) f1_a f1_c)] (aK r) := by
  intro H0
  refine cI Try.func96 ?_
  have hO := aP.start H0
  unfold dF at h0
  refine aX aG 1 [] [] ?_
  refine aQ ?_
  refine aU aG 5 ?_
  refine bK 2 ?_
  obtain ⟨x1, hx2, h0⟩ := aW h0
  refine cM (tF s0 f1_f f1_a f1_c f1 f1_h _ hx2) hO ?_
  intro H hO
  refine bC ?_
  refine bF [(4, (aK (decide ((0 : Int) ≤ x1))))] ?_
  refine bI ?_
  obtain rfl := oI h0
  exact aJ (Q_r hO)

theorem wP (v0 : aF) (r : (bE × Bool)) (h0 : lC v0 = some r) : bU Try.prog 126 [(aL v0)] (.tup [(bD r.1), (aK r.2)]) := by
  intro H0
  refine cI Try.func126 ?_
  have hO := aP.start H0
  unfold lC at h0
  refine aQ ?_
  refine aU aG 3 ?_
  refine gO 3 (aL v0) (by kernel_rfl) (by kernel_rfl) ?_
  refine bC ?_
  refine bF [(1, (.rp (aL v0)))] ?_
  refine aQ ?_
  refine bQ 0 ?_
  refine aX aG 9 [] [(4, (aK ((decide (v0.Kind = (1 : Int))) && (nX v0.Text (⟨#[]⟩ : ByteArray)))))] ?_
  refine bM h0 (fun h0 => ?_) (fun h0 => ?_)
  · refine bY aG 5 [(2, (bD (bE.k_number v0.Num))), (3, (aK true))] ?_
    refine bI ?_
    obtain rfl := oI h0
    exact aJ (bX (bA (Q_r hO)))
  refine aX aG 15 [4] [(16, (aK (((decide (v0.Kind = (2 : Int))) && (decide (v0.Num = (0 : Int)))) && (decide (((ByteArray.size v0.Text : Nat) : Int) ≤ (64 : Int))))))] ?_
  refine bM h0 (fun h0 => ?_) (fun h0 => ?_)
  · refine bY aG 5 [(2, (bD (bE.k_words v0.Text))), (3, (aK true))] ?_
    refine bI ?_
    obtain rfl := oI h0
    exact aJ (bX (bA (Q_r hO)))
  refine bN ?_
  refine dP [] ?_
  refine aJ (aZ (aI (?_)))
  refine bY aG 2 [(2, (bD bE.none_)), (3, (aK false))] ?_
  refine bI ?_
  obtain rfl := oI h0
  exact aJ (Q_r hO)

theorem SI (v0 : aF) (r : Bool) (h0 : vA v0 = some r) : bU Try.prog 98 [(aL v0)] (aK r) := by
  intro H0
  refine cI Try.func98 ?_
  have hO := aP.start H0
  unfold vA at h0
  refine aQ ?_
  refine aU aG 2 ?_
  refine gO 3 (aL v0) (by kernel_rfl) (by kernel_rfl) ?_
  refine bC ?_
  refine bF [(1, (.rp (aL v0)))] ?_
  refine aQ ?_
  refine aU aG 7 ?_
  refine bK 1 ?_
  obtain ⟨⟨x1_0, x1_1⟩, hx2, h0⟩ := aW h0
  refine cM (wP v0 _ hx2) hO ?_
  intro H hO
  rcases x1_0 with _ | y4 | y5
  · replace h0 : (some x1_1) = some r := h0
    refine bC ?_
    refine bF [(4, (aK x1_1))] ?_
    refine bY aG 2 [(2, (aK x1_1))] ?_
    refine bI ?_
    obtain rfl := oI h0
    exact aJ (Q_r hO)
  · replace h0 : (some x1_1) = some r := h0
    refine bC ?_
    refine bF [(4, (aK x1_1))] ?_
    refine bY aG 2 [(2, (aK x1_1))] ?_
    refine bI ?_
    obtain rfl := oI h0
    exact aJ (Q_r hO)
  · replace h0 : (some x1_1) = some r := h0
    refine bC ?_
    refine bF [(4, (aK x1_1))] ?_
    refine bY aG 2 [(2, (aK x1_1))] ?_
    refine bI ?_
    obtain rfl := oI h0
    exact aJ (Q_r hO)

theorem SD (v0 : aF) (r : Bool) (h0 : uZ v0 = some r) : bU Try.prog 97 [(aL v0)] (aK r) := by
  intro H0
  refine cI Try.func97 ?_
  have hO := aP.start H0
  unfold uZ at h0
  refine aQ ?_
  refine aU aG 2 ?_
  refine gO 3 (aL v0) (by kernel_rfl) (by kernel_rfl) ?_
  refine bC ?_
  refine bF [(1, (.rp (aL v0)))] ?_
  refine aQ ?_
  refine aU aG 4 ?_
  refine bK 1 ?_
  obtain ⟨x1, hx2, h0⟩ := aW h0
  refine cM (SI v0 _ hx2) hO ?_
  intro H hO
  refine bC ?_
  refine bF [(2, (aK (!x1)))] ?_
  refine bI ?_
  obtain rfl := oI h0
  exact aJ (Q_r hO)

theorem yO (r0 : (List aF)) (r : Bool) (h0 : pU r0 = some r) : bU Try.prog 57 [(eL aL r0)] (aK r) := by
  intro H0
  refine cI Try.func57 ?_
  have hO := aP.start H0
  unfold pU at h0
  refine aX aG 1 [] [] ?_
  refine aQ ?_
  refine aX aG 3 [] [(5, (aK (decide ((8 : Int) < (lN r0)))))] ?_
  refine bM h0 (fun h0 => ?_) (fun h0 => ?_)
  · refine bY aG 1 [(2, (aK false))] ?_
    refine bI ?_
    obtain rfl := oI h0
    exact aJ (bA (Q_r hO))
  refine bN ?_
  refine bF [(0, (eL aL r0))] ?_
  refine aQ ?_
  refine aU aG 4 ?_
  refine bK 1 ?_
  obtain ⟨x2, hx3, h0⟩ := aW h0
  refine cM (rJ r0 97 [] [] (fun y0 => uZ y0) (fun y0 r h => SD y0 r h) _ hx3) hO ?_
  intro H hO
  refine bC ?_
  refine bF [(2, (aK (!x2)))] ?_
  refine bI ?_
  obtain rfl := oI h0
  exact aJ (Q_r hO)

theorem GV (t0 : Int) (r : Bool) (h0 : uV t0 = some r) : bU Try.prog 134 [(eI t0)] (aK r) := by
  intro H0
  refine cI Try.func134 ?_
  have hO := aP.start H0
  unfold uV at h0
  refine aX aG 1 [] [] ?_
  refine bY aG 7 [(2, (aK ((decide ((0 : Int) ≤ t0)) && (decide (t0 ≤ (1125899906842624 : Int))))))] ?_
  refine bI ?_
  obtain rfl := oI h0
  exact aJ (Q_r hO)

theorem UY (s0 : aS) (r : Bool) (h0 : xA s0 = some r) : bU Try.prog 120 [(bH s0)] (aK r) := by
  intro H0
  refine cI Try.func120 ?_
  have hO := aP.start H0
  unfold xA at h0
  refine aQ ?_
  refine aU aG 2 ?_
  refine gO 2 (bH s0) (by kernel_rfl) (by kernel_rfl) ?_
  refine bC ?_
  refine bF [(1, (.rp (bH s0)))] ?_
  refine aQ ?_
  refine aU aG 16 ?_
  refine bK 2 ?_
  obtain ⟨x1, hx2, h0⟩ := aW h0
  refine cM (GV s0.From _ hx2) hO ?_
  intro H hO
  refine bK 6 ?_
  obtain ⟨x4, hx5, h0⟩ := aW h0
  refine iT [(6, true)] 134 [(eI s0.To)] (aK x4) x1 (by kernel_rfl) (by kernel_rfl) (by kernel_rfl) (fun hb6 => (GV s0.To _ (kI hx5 hb6))) hO ?_
  intro H hO
  refine bC ?_
  refine bF [(2, (aK ((x1 && x4) && (decide (s0.From < s0.To)))))] ?_
  refine bI ?_
  obtain rfl := oI h0
  exact aJ (Q_r hO)

theorem RS (s0 : aS) (r : Bool) (h0 : xS s0 = some r) : bU Try.prog 87 [(bH s0)] (aK r) := by
  intro H0
  refine cI Try.func87 ?_
  have hO := aP.start H0
  unfold xS at h0
  refine aQ ?_
  refine aU aG 2 ?_
  refine gO 2 (bH s0) (by kernel_rfl) (by kernel_rfl) ?_
  refine bC ?_
  refine bF [(1, (.rp (bH s0)))] ?_
  refine aQ ?_
  refine aU aG 18 ?_
  refine bK 1 ?_
  obtain ⟨x1, hx2, h0⟩ := aW h0
  refine cM (UY s0 _ hx2) hO ?_
  intro H hO
  refine bC ?_
  refine bF [(2, (aK (x1 || (((decide (s0.From = (-1 : Int))) && (decide ((0 : Int) ≤ s0.To))) && (decide (s0.To ≤ (1125899906842624 : Int)))))))] ?_
  refine bI ?_
  obtain rfl := oI h0
  exact aJ (Q_r hO)

theorem CM (p0 : aM) (r : Bool) (h0 : qU p0 = some r) : bU Try.prog 45 [(aH p0)] (aK r) := by
  intro H0
  refine cI Try.func45 ?_
  have hO := aP.start H0
  unfold qU at h0
  refine aQ ?_
  refine aU aG 2 ?_
  refine gO 3 (aH p0) (by kernel_rfl) (by kernel_rfl) ?_
  refine bC ?_
  refine bF [(1, (.rp (aH p0)))] ?_
  refine aQ ?_
  refine aU aG 9 ?_
  refine bK 2 ?_
  obtain ⟨x1, hx2, h0⟩ := aW h0
  refine cM (yO p0.Row _ hx2) hO ?_
  intro H hO
  refine bK 6 ?_
  obtain ⟨x4, hx5, h0⟩ := aW h0
  refine iT [(6, true)] 87 [(bH p0.Span)] (aK x4) x1 (by kernel_rfl) (by kernel_rfl) (by kernel_rfl) (fun hb6 => (RS p0.Span _ (kI hx5 hb6))) hO ?_
  intro H hO
  refine bC ?_
  refine bF [(2, (aK (x1 && x4)))] ?_
  refine bI ?_
  obtain rfl := oI h0
  exact aJ (Q_r hO)

theorem KU (p0 : aM) (r : Bool) (h0 : qN p0 = some r) : bU Try.prog 75 [(aH p0)] (aK r) := by
  intro H0
  refine cI Try.func75 ?_
  have hO := aP.start H0
  unfold qN at h0
  refine aQ ?_
  refine aU aG 2 ?_
  refine gO 3 (aH p0) (by kernel_rfl) (by kernel_rfl) ?_
  refine bC ?_
  refine bF [(1, (.rp (aH p0)))] ?_
  refine aQ ?_
  refine aU aG 4 ?_
  refine bK 1 ?_
  obtain ⟨x1, hx2, h0⟩ := aW h0
  refine cM (CM p0 _ hx2) hO ?_
  intro H hO
  refine bC ?_
  refine bF [(2, (aK (!x1)))] ?_
  refine bI ?_
  obtain rfl := oI h0
  exact aJ (Q_r hO)

theorem sX (s0 : (List aC)) (f1_f : Nat) (f1_a f1_c : List V) (f1 : aC → Option Bool) (f1_h : ∀ a0 r, f1 a0 = some r → bU Try.prog f1_f (f1_a ++ [(aE a0)] ++ f1_c) (aK r)) (r : Int) (h0 : fJ s0 f1 = some r) : bU Try.prog 89 [(eL aE s0), (.fn (.func f1_f) f1_a f1_c)] (eI r) := by
  intro H0
  refine cI Try.func89 ?_
  have hO := aP.start H0
  unfold fJ at h0
  refine aX aG 1 [] [] ?_
  refine dO (fun T H => Has T [] ∧ aP ⟨H0, [], []⟩ H [] ∧ dM f1  = some r) ?_ ?_
  · clear hO h0
    rintro T H ⟨hT, hO, h0⟩
    refine bB hT ?_
    clear hT
    unfold dM at h0
    refine bY aG 1 [(4, (eI (-1 : Int)))] ?_
    refine bI ?_
    obtain rfl := oI h0
    exact aJ (Q_r hO)
  refine aX aG 3 [] [(7, (eI (lN s0))), (8, (eI (0 : Int)))] ?_
  refine bQ 0 ?_
  refine cU [(0, (eL aE s0)), (1, (.fn (.func f1_f) f1_a f1_c)), (7, (eI (lN s0))), (8, (eI (0 : Int)))] ?_
  refine cO (fun T H => ∃ t7 : Int, ∃ t8 : Int, Has T [(0, (eL aE s0)), (1, (.fn (.func f1_f) f1_a f1_c)), (7, (eI t7)), (8, (eI t8))] ∧ aP ⟨H0, [], []⟩ H [] ∧ fF f1 s0 t7 t8 = some r) ?_ ⟨(lN s0), (0 : Int), .eq (by kernel_rfl), hO, h0⟩
  clear hO h0
  rintro T H ⟨t7, t8, hT, hO, h0⟩
  refine bB hT ?_
  clear hT
  unfold fF at h0
  obtain ⟨rr0, hl0, h0⟩ := aW h0
  refine cF (by kernel_rfl) (fun (s : Int) T H => Has T [(0, (eL aE s0)), (1, (.fn (.func f1_f) f1_a f1_c)), (7, (eI t7)), (8, (eI s))] ∧ aP ⟨H0, [], []⟩ H []) hl0 ⟨.eq (by kernel_rfl), hO⟩ ?_
  clear hO
  rintro k0 s out1 T H ⟨hT, hO⟩ h1 ho0
  obtain ⟨t8, rfl⟩ : ∃ x, x = s := ⟨_, rfl⟩
  replace h1 : fD f1 s0 t7 t8 = some out1 := h1
  refine bB hT ?_
  clear hT
  unfold fD at h1
  refine aX aG 1 [] [(9, (aK (decide (t8 < t7))))] ?_
  refine aQ ?_
  refine bM h1 (fun h1 => ?_) (fun h1 => ?_)
  · refine bN ?_
    refine bF [(0, (eL aE s0)), (1, (.fn (.func f1_f) f1_a f1_c)), (7, (eI t7)), (8, (eI t8))] ?_
    refine aQ ?_
    refine bQ 1 ?_
    refine aX aG 2 [] [(5, (eI t8))] ?_
    refine aQ ?_
    refine aU aG 6 ?_
    obtain ⟨c2, h1⟩ := bL h1
    refine sL 5 [0 ≤ t8 ∧ t8 < (lN s0)] ⟨c2, trivial⟩ ?_
    obtain ⟨x3, hx4, h1⟩ := aW h1
    refine cM (f1_h (gD s0 t8) _ hx4) hO ?_
    intro H hO
    refine cH ?_
    refine bS [] [(16, (aK x3))] ?_
    refine bM h1 (fun h1 => ?_) (fun h1 => ?_)
    · refine bY aG 2 [(4, (eI t8))] ?_
      refine bI ?_
      obtain rfl := oI h1
      obtain rfl : _ = rr0 := ho0
      replace h0 : some t8 = some r := h0
      obtain rfl := oI h0
      exact aJ (bX (bA (bA (bX (bA (Q_r hO))))))
    refine bN ?_
    refine dP [(0, (eL aE s0)), (1, (.fn (.func f1_f) f1_a f1_c)), (7, (eI t7)), (8, (eI t8))] ?_
    refine aJ (aZ (aI (?_)))
    refine aU aG 2 ?_
    refine bC ?_
    exact aJ (aI (⟨rfl, _, (oI h1).symm, .eq (by kernel_rfl), hO⟩))
  refine eB 0 ?_
  obtain rfl := oI h1
  obtain rfl : _ = rr0 := ho0
  replace h0 : dM f1  = some r := h0
  exact aJ (aY (aY (bP (aI (⟨rfl, .eq (by kernel_rfl), hO, h0⟩)))))

theorem mP (s0 : (List aC)) (f1_f : Nat) (f1_a f1_c : List V) (f1 : aC → Option Bool) (f1_h : ∀ a0 r, f1 a0 = some r → bU Try.prog f1_f (f1_a ++ [(aE a0)] ++ f1_c) (aK r)) (r : Bool) (h0 : cP s0 f1 = some r) : bU Try.prog 50 [(eL aE s0), (.fn (.func f1_f) f1_a f1_c)] (aK r) := by
  intro H0
  refine cI Try.func50 ?_
  have hO := aP.start H0
  unfold cP at h0
  refine aX aG 1 [] [] ?_
  refine aQ ?_
  refine aU aG 5 ?_
  refine bK 2 ?_
  obtain ⟨x1, hx2, h0⟩ := aW h0
  refine cM (sX s0 f1_f f1_a f1_c f1 f1_h _ hx2) hO ?_
  intro H hO
  refine bC ?_
  refine bF [(4, (aK (decide ((0 : Int) ≤ x1))))] ?_
  refine bI ?_
  obtain rfl := oI h0
  exact aJ (Q_r hO)

theorem NF (x0 : aC) (r : Bool) (h0 : rU x0 = some r) : bU Try.prog 56 [(aE x0)] (aK r) := by
  intro H0
  refine cI Try.func56 ?_
  have hO := aP.start H0
  unfold rU at h0
  refine aQ ?_
  refine aU aG 2 ?_
  refine gO 3 (aE x0) (by kernel_rfl) (by kernel_rfl) ?_
  refine bC ?_
  refine bF [(1, (.rp (aE x0)))] ?_
  refine aQ ?_
  refine aU aG 15 ?_
  refine bK 2 ?_
  obtain ⟨x1, hx2, h0⟩ := aW h0
  refine cM (yO x0.Row _ hx2) hO ?_
  intro H hO
  refine bC ?_
  refine bF [(2, (aK (((!x1) || (decide ((1048576 : Int) < x0.Net))) || (decide (x0.Net < (-1048576 : Int))))))] ?_
  refine bI ?_
  obtain rfl := oI h0
  exact aJ (Q_r hO)

theorem ND (x0 : aC) (r : Bool) (h0 : rM x0 = some r) : bU Try.prog 58 [(aE x0)] (aK r) := by
  intro H0
  refine cI Try.func58 ?_
  have hO := aP.start H0
  unfold rM at h0
  refine aQ ?_
  refine aU aG 2 ?_
  refine gO 3 (aE x0) (by kernel_rfl) (by kernel_rfl) ?_
  refine bC ?_
  refine bF [(1, (.rp (aE x0)))] ?_
  refine bY aG 9 [(2, (aK ((decide (x0.At < (-1 : Int))) || (decide ((1125899906842624 : Int) < x0.At)))))] ?_
  refine bI ?_
  obtain rfl := oI h0
  exact aJ (Q_r hO)

theorem vZ (s0 : (List aC)) (r : (List aC)) (h0 : eW s0 = some r) : zJ Try.prog 59 [(eL aE s0)] (fun lo => (.msl 3 lo 0 (List.length r))) 3 (List.map aE r) := by
  intro H0
  refine cI Try.func59 ?_
  have hO := aP.start H0
  unfold eW at h0
  refine aX aG 1 [] [] ?_
  refine aQ ?_
  refine aQ ?_
  refine aU aG 2 ?_
  refine bK 1 ?_
  refine aAi false (List.length s0) (fun i => aE (List.getD s0 i default)) (by kernel_rfl) (by kernel_rfl) ?_
  intro b1 hn2
  refine cH ?_
  refine bS [] [(4, (aK b1))] ?_
  refine nP (b1) (fun hc3 => ?_) (fun hc3 => ?_)
  · replace h0 : some ([] : List aC) = some r := by
      have hl := List.eq_nil_of_length_eq_zero (hn2 hc3)
      rw [hl] at h0
      exact (bL h0).2
    refine bY aG 1 [(2, (.sl true 0 (fun _ => .bad)))] ?_
    refine bI ?_
    refine dP [(2, (.sl true 0 (fun _ => .bad)))] ?_
    refine XU (el := (fun _ => .bad)) 0 2 3 hO (by kernel_rfl) ?_
    intro lo4 H5 hO
    obtain rfl := oI h0
    exact aJ (bA (pO (x := (.msl 3 lo4 0 (List.length ([] : List aC)))) (by kernel_rfl) (aV.refl _) ⟨lo4, rfl, hO⟩))
  · refine bN ?_
    refine bF [(0, (eL aE s0))] ?_
    refine aQ ?_
    refine aU aG 4 ?_
    refine tT (xs := []) (k := 3) (by kernel_rfl) (by kernel_rfl) ?_
    refine bK 2 ?_
    obtain ⟨c7, h0⟩ := bL h0
    refine TU (e := aE) s0 (fun _ => .bad) 3 40 (eL aE s0) (fun lo6 => [(lo6, 3, List.map aE s0)]) (by kernel_rfl) (by kernel_rfl) hO (LI (fun _ => by kernel_rfl)) c7 (fun _ => by kernel_rfl) ?_
    intro lo6 H hO
    refine bC ?_
    refine bF [(2, (.msl 3 lo6 0 (List.length s0)))] ?_
    refine bI ?_
    obtain rfl := oI h0
    exact aJ (pO (x := (.msl 3 lo6 0 (List.length s0))) (by kernel_rfl) (aV.refl _) ⟨lo6, rfl, hO⟩)

theorem mU (lo0p : Nat) (aA : (List aC)) (a1 : Int) (b2 : Int) (cmp3_f : Nat) (cmp3_a cmp3_c : List V) (cmp3 : aC → aC → Option Int) (cmp3_h : ∀ a0 a1 r, cmp3 a0 a1 = some r → bU Try.prog cmp3_f (cmp3_a ++ [(aE a0), (aE a1)] ++ cmp3_c) (eI r)) (r : List aC) (h0 : dJ aA a1 b2 cmp3 = some r) : kX Try.prog 127 lo0p 3 (List.map aE aA) (List.map aE r) [(.msl 3 lo0p 0 (List.length aA)), (eI a1), (eI b2), (.fn (.func cmp3_f) cmp3_a cmp3_c)] (.tup []) := by
  intro H0 hl0
  refine cI Try.func127 ?_
  have hO := aP.pS hl0
  clear hl0
  obtain ⟨N0, hN0⟩ : ∃ n, n = List.length aA := ⟨_, rfl⟩
  have hN : List.length aA = N0 := hN0.symm
  unfold dJ at h0
  refine aX aG 3 [] [(8, (eI (wR (a1 + (1 : Int)))))] ?_
  refine bQ 0 ?_
  refine cU [(0, (.msl 3 lo0p 0 (List.length aA))), (1, (eI a1)), (2, (eI b2)), (3, (.fn (.func cmp3_f) cmp3_a cmp3_c)), (8, (eI (wR (a1 + (1 : Int)))))] ?_
  refine cO (fun T H => ∃ aA : List aC, ∃ i8 : Int, Has T [(0, (.msl 3 lo0p 0 (List.length aA))), (1, (eI a1)), (2, (eI b2)), (3, (.fn (.func cmp3_f) cmp3_a cmp3_c)), (8, (eI i8))] ∧ aP ⟨H0, [lo0p], []⟩ H [(lo0p, 3, List.map aE aA)] ∧ List.length aA = N0 ∧ iO cmp3 aA a1 b2 i8 = some r) ?_ ⟨aA, wR (a1 + (1 : Int)), .eq (by kernel_rfl), hO, hN, h0⟩
  clear hO hN h0
  rintro T H ⟨aA, i8, hT, hO, hN, h0⟩
  refine bB hT ?_
  clear hT
  unfold iO at h0
  obtain ⟨rr0, hl0, h0⟩ := aW h0
  refine cF (by kernel_rfl) (fun (s : List aC × Int) T H => Has T [(0, (.msl 3 lo0p 0 (List.length s.1))), (1, (eI a1)), (2, (eI b2)), (3, (.fn (.func cmp3_f) cmp3_a cmp3_c)), (8, (eI s.2))] ∧ aP ⟨H0, [lo0p], []⟩ H [(lo0p, 3, List.map aE s.1)] ∧ List.length s.1 = N0) hl0 ⟨.eq (by kernel_rfl), hO, hN⟩ ?_
  clear hO hN
  rintro k0 s out1 T H ⟨hT, hO, hN⟩ h1 ho0
  obtain ⟨aA, i8⟩ := s
  replace h1 : iJ cmp3 a1 b2 aA i8 = some out1 := h1
  try dsimp only at hT
  refine bB hT ?_
  clear hT
  unfold iJ at h1
  refine aQ ?_
  refine aX aG 3 [] [(14, (aK (decide (i8 < b2))))] ?_
  refine bM h1 (fun h1 => ?_) (fun h1 => ?_)
  · refine bN ?_
    refine bF [(0, (.msl 3 lo0p 0 (List.length aA))), (1, (eI a1)), (2, (eI b2)), (3, (.fn (.func cmp3_f) cmp3_a cmp3_c)), (8, (eI i8))] ?_
    refine dO (fun T H => ∃ aA : List aC, Has T [(0, (.msl 3 lo0p 0 (List.length aA))), (1, (eI a1)), (2, (eI b2)), (3, (.fn (.func cmp3_f) cmp3_a cmp3_c)), (8, (eI i8))] ∧ aP ⟨H0, [lo0p], []⟩ H [(lo0p, 3, List.map aE aA)] ∧ List.length aA = N0 ∧ eN cmp3 aA a1 b2 i8 = some out1) ?_ ?_
    · clear hO hN h1
      rintro T H ⟨aA, hT, hO, hN, h1⟩
      refine bB hT ?_
      clear hT
      unfold eN at h1
      refine aU aG 3 ?_
      refine bC ?_
      exact aJ (aI (⟨rfl, _, (oI h1).symm, .eq (by kernel_rfl), hO, hN⟩))
    refine bQ 1 ?_
    refine aX aG 2 [] [(9, (eI i8))] ?_
    refine bQ 2 ?_
    refine cU [(0, (.msl 3 lo0p 0 (List.length aA))), (1, (eI a1)), (2, (eI b2)), (3, (.fn (.func cmp3_f) cmp3_a cmp3_c)), (8, (eI i8)), (9, (eI i8))] ?_
    refine cO (fun T H => ∃ aA : List aC, ∃ j9 : Int, Has T [(0, (.msl 3 lo0p 0 (List.length aA))), (1, (eI a1)), (2, (eI b2)), (3, (.fn (.func cmp3_f) cmp3_a cmp3_c)), (8, (eI i8)), (9, (eI j9))] ∧ aP ⟨H0, [lo0p], []⟩ H [(lo0p, 3, List.map aE aA)] ∧ List.length aA = N0 ∧ iQ cmp3 aA a1 b2 i8 j9 = some out1) ?_ ⟨aA, i8, .eq (by kernel_rfl), hO, hN, h1⟩
    clear hO hN h1
    rintro T H ⟨aA, j9, hT, hO, hN, h1⟩
    refine bB hT ?_
    clear hT
    unfold iQ at h1
    obtain ⟨rr1, hl1, h1⟩ := aW h1
    refine cF (by kernel_rfl) (fun (s : List aC × Int) T H => Has T [(0, (.msl 3 lo0p 0 (List.length s.1))), (1, (eI a1)), (2, (eI b2)), (3, (.fn (.func cmp3_f) cmp3_a cmp3_c)), (8, (eI i8)), (9, (eI s.2))] ∧ aP ⟨H0, [lo0p], []⟩ H [(lo0p, 3, List.map aE s.1)] ∧ List.length s.1 = N0) hl1 ⟨.eq (by kernel_rfl), hO, hN⟩ ?_
    clear hO hN
    rintro k1 s out2 T H ⟨hT, hO, hN⟩ h2 ho1
    obtain ⟨aA, j9⟩ := s
    replace h2 : iN cmp3 a1 b2 i8 aA j9 = some out2 := h2
    try dsimp only at hT
    refine bB hT ?_
    clear hT
    unfold iN at h2
    refine aQ ?_
    refine aQ ?_
    obtain ⟨c2, h2⟩ := bL h2
    obtain ⟨c3, h2⟩ := bL h2
    obtain ⟨x4, hx5, h2⟩ := aW h2
    refine kU (kP []) aG 17 ?_
    refine EK (K := fun T H => Has (lift T) [(0, (.msl 3 lo0p 0 (List.length aA))), (1, (eI a1)), (2, (eI b2)), (3, (.fn (.func cmp3_f) cmp3_a cmp3_c)), (8, (eI i8)), (9, (eI j9)), (34, (aK ((decide (a1 < j9)) && (decide (x4 < (0 : Int))))))] ∧ aP ⟨H0, [lo0p], []⟩ H [(lo0p, 3, List.map aE aA)]) ?_ ?_
    · refine uM 4 ?_
      refine GG (t := 21) (e := decide (a1 < j9)) (by kernel_rfl) (fun hg6 => ?_) (fun hg6 => ?_)
      · refine dK 8 [0 ≤ j9 ∧ j9 < (lN aA)] ⟨(c2 hg6), trivial⟩ ?_
        refine zM 0 lo0p 3 (0 + Int.toNat j9) (aE (gD aA j9)) (aE (gD aA j9)) (List.map aE aA) (by kernel_rfl) (by kernel_rfl) (by kernel_rfl) hO (by kernel_rfl) (cN (c2 hg6)) ?_
        refine dK 13 [0 ≤ (wR (j9 - (1 : Int))) ∧ (wR (j9 - (1 : Int))) < (lN aA)] ⟨(c3 hg6), trivial⟩ ?_
        refine zM 0 lo0p 3 (0 + Int.toNat (wR (j9 - (1 : Int)))) (aE (gD aA (wR (j9 - (1 : Int))))) (aE (gD aA (wR (j9 - (1 : Int))))) (List.map aE aA) (by kernel_rfl) (by kernel_rfl) (by kernel_rfl) hO (by kernel_rfl) (cN (c3 hg6)) ?_
        refine KT cmp3_f (cmp3_a ++ [(aE (gD aA j9)), (aE (gD aA (wR (j9 - (1 : Int)))))] ++ cmp3_c) (eI x4) (by kernel_rfl) (by kernel_rfl) (cmp3_h (gD aA j9) (gD aA (wR (j9 - (1 : Int)))) _ (kI hx5 hg6)) hO ?_
        intro H hO
        refine qO ?_
        exact ⟨⟨[(0, (.msl 3 lo0p 0 (List.length aA))), (1, (eI a1)), (2, (eI b2)), (3, (.fn (.func cmp3_f) cmp3_a cmp3_c)), (8, (eI i8)), (9, (eI j9)), (34, (aK (decide (x4 < (0 : Int)))))], by kernel_rfl, rfl, ⟨aV.refl _, aV.refl _, aV.refl _, aV.refl _, aV.refl _, aV.refl _, aV.eq (congrArg aK (GC hg6 rfl).symm), trivial⟩⟩, hO⟩
      refine qO ?_
      exact ⟨⟨[(0, (.msl 3 lo0p 0 (List.length aA))), (1, (eI a1)), (2, (eI b2)), (3, (.fn (.func cmp3_f) cmp3_a cmp3_c)), (8, (eI i8)), (9, (eI j9)), (34, (aK false))], by kernel_rfl, rfl, ⟨aV.refl _, aV.refl _, aV.refl _, aV.refl _, aV.refl _, aV.refl _, aV.eq (congrArg aK (GC hg6 rfl).symm), trivial⟩⟩, hO⟩
    · rintro T H ⟨hT, hO⟩
      refine cS hT ?_
      clear hT
      refine aJ (aI ?_)
      refine bM h2 (fun h2 => ?_) (fun h2 => ?_)
      · refine bN ?_
        refine bF [(0, (.msl 3 lo0p 0 (List.length aA))), (1, (eI a1)), (2, (eI b2)), (3, (.fn (.func cmp3_f) cmp3_a cmp3_c)), (8, (eI i8)), (9, (eI j9))] ?_
        refine aQ ?_
        refine bQ 3 ?_
        refine kU (kP []) aG 18 ?_
        obtain ⟨c8, h2⟩ := bL h2
        refine dK 9 [0 ≤ (wR (j9 - (1 : Int))) ∧ (wR (j9 - (1 : Int))) < (lN aA)] ⟨c8, trivial⟩ ?_
        refine kT 0 lo0p 3 (0 + Int.toNat (wR (j9 - (1 : Int)))) (aE (gD aA (wR (j9 - (1 : Int))))) (aE (gD aA (wR (j9 - (1 : Int))))) (List.map aE aA) hO (cN c8) ?_
        obtain ⟨c9, h2⟩ := bL h2
        refine dK 13 [0 ≤ j9 ∧ j9 < (lN aA)] ⟨c9, trivial⟩ ?_
        refine kT 0 lo0p 3 (0 + Int.toNat j9) (aE (gD aA j9)) (aE (gD aA j9)) (List.map aE aA) hO (cN c9) ?_
        obtain ⟨c10, h2⟩ := bL h2
        refine dK 15 [0 ≤ j9 ∧ j9 < (lN aA)] ⟨c10, trivial⟩ ?_
        refine qT 0 lo0p 3 (0 + Int.toNat j9) (aE (gD aA j9)) (aE (gD aA (wR (j9 - (1 : Int))))) (List.map aE aA) [(lo0p, 3, List.map aE (List.set aA (Int.toNat j9) (gD aA (wR (j9 - (1 : Int))))))] hO (cN c10) (by simp only [List.set, nH]) ?_
        intro H hO
        replace hN : List.length (List.set aA (Int.toNat j9) (gD aA (wR (j9 - (1 : Int))))) = N0 := by simpa using hN
        obtain ⟨c11, h2⟩ := bL h2
        refine dK 17 [0 ≤ (wR (j9 - (1 : Int))) ∧ (wR (j9 - (1 : Int))) < (lN aA)] ⟨c11, trivial⟩ ?_
        refine qT 0 lo0p 3 (0 + Int.toNat (wR (j9 - (1 : Int)))) (aE (gD (List.set aA (Int.toNat j9) (gD aA (wR (j9 - (1 : Int))))) (wR (j9 - (1 : Int))))) (aE (gD aA j9)) (List.map aE (List.set aA (Int.toNat j9) (gD aA (wR (j9 - (1 : Int)))))) [(lo0p, 3, List.map aE (List.set (List.set aA (Int.toNat j9) (gD aA (wR (j9 - (1 : Int))))) (Int.toNat (wR (j9 - (1 : Int)))) (gD aA j9)))] hO (wB c11 (by simp [])) (by simp only [List.set, nH]) ?_
        intro H hO
        replace hN : List.length (List.set (List.set aA (Int.toNat j9) (gD aA (wR (j9 - (1 : Int))))) (Int.toNat (wR (j9 - (1 : Int)))) (gD aA j9)) = N0 := by simpa using hN
        refine wT (by kernel_rfl) ?_
        refine cS (l := [(0, (.msl 3 lo0p 0 (List.length (List.set (List.set aA (Int.toNat j9) (gD aA (wR (j9 - (1 : Int))))) (Int.toNat (wR (j9 - (1 : Int)))) (gD aA j9))))), (1, (eI a1)), (2, (eI b2)), (3, (.fn (.func cmp3_f) cmp3_a cmp3_c)), (8, (eI i8)), (9, (eI j9))]) ⟨[(0, (.msl 3 lo0p 0 (List.length aA))), (1, (eI a1)), (2, (eI b2)), (3, (.fn (.func cmp3_f) cmp3_a cmp3_c)), (8, (eI i8)), (9, (eI j9))], by kernel_rfl, rfl, ⟨aV.eq (by simp []), aV.refl _, aV.refl _, aV.refl _, aV.refl _, aV.refl _, trivial⟩⟩ ?_
        refine aJ (aZ (aI (?_)))
        refine aU aG 3 ?_
        refine bC ?_
        exact aJ (aI (⟨rfl, _, (oI h2).symm, .eq (by kernel_rfl), hO, hN⟩))
      refine eB 2 ?_
      obtain rfl := oI h2
      obtain rfl : _ = rr1 := ho1
      replace h1 : eN cmp3 aA a1 b2 i8 = some out1 := h1
      exact aJ (aY (aY (bP (aZ (aI (⟨rfl, _, .eq (by kernel_rfl), hO, hN, h1⟩))))))
  refine eB 0 ?_
  obtain rfl := oI h1
  obtain rfl : _ = rr0 := ho0
  replace h0 : some aA = some r := h0
  obtain rfl := oI h0
  exact aJ (aY (aY (bP (qD (x := (.tup [])) (by kernel_rfl) (aV.refl _) ⟨rfl, hO.ext, hO.at 0 (by kernel_rfl), by simp only [List.length_map]; exact hN.trans hN0⟩))))

theorem kJ (lo0p : Nat) (aA : (List aC)) (a1 : Int) (b2 : Int) (n3 : Int) (cmp4_f : Nat) (cmp4_a cmp4_c : List V) (cmp4 : aC → aC → Option Int) (cmp4_h : ∀ a0 a1 r, cmp4 a0 a1 = some r → bU Try.prog cmp4_f (cmp4_a ++ [(aE a0), (aE a1)] ++ cmp4_c) (eI r)) (r : List aC) (h0 : dY aA a1 b2 n3 cmp4 = some r) : kX Try.prog 142 lo0p 3 (List.map aE aA) (List.map aE r) [(.msl 3 lo0p 0 (List.length aA)), (eI a1), (eI b2), (eI n3), (.fn (.func cmp4_f) cmp4_a cmp4_c)] (.tup []) := by
  intro H0 hl0
  refine cI Try.func142 ?_
  have hO := aP.pS hl0
  clear hl0
  obtain ⟨N0, hN0⟩ : ∃ n, n = List.length aA := ⟨_, rfl⟩
  have hN : List.length aA = N0 := hN0.symm
  unfold dY at h0
  refine aX aG 1 [4] [(10, (eI (0 : Int)))] ?_
  refine bQ 0 ?_
  refine cU [(0, (.msl 3 lo0p 0 (List.length aA))), (1, (eI a1)), (2, (eI b2)), (3, (eI n3)), (10, (eI (0 : Int)))] ?_
  refine cO (fun T H => ∃ aA : List aC, ∃ i10 : Int, Has T [(0, (.msl 3 lo0p 0 (List.length aA))), (1, (eI a1)), (2, (eI b2)), (3, (eI n3)), (10, (eI i10))] ∧ aP ⟨H0, [lo0p], []⟩ H [(lo0p, 3, List.map aE aA)] ∧ List.length aA = N0 ∧ jV cmp4 aA a1 b2 n3 i10 = some r) ?_ ⟨aA, (0 : Int), .eq (by kernel_rfl), hO, hN, h0⟩
  clear hO hN h0
  rintro T H ⟨aA, i10, hT, hO, hN, h0⟩
  refine bB hT ?_
  clear hT
  unfold jV at h0
  obtain ⟨rr0, hl0, h0⟩ := aW h0
  refine cF (by kernel_rfl) (fun (s : List aC × Int) T H => Has T [(0, (.msl 3 lo0p 0 (List.length s.1))), (1, (eI a1)), (2, (eI b2)), (3, (eI n3)), (10, (eI s.2))] ∧ aP ⟨H0, [lo0p], []⟩ H [(lo0p, 3, List.map aE s.1)] ∧ List.length s.1 = N0) hl0 ⟨.eq (by kernel_rfl), hO, hN⟩ ?_
  clear hO hN
  rintro k0 s out1 T H ⟨hT, hO, hN⟩ h1 ho0
  obtain ⟨aA, i10⟩ := s
  replace h1 : jU cmp4 a1 b2 n3 aA i10 = some out1 := h1
  try dsimp only at hT
  refine bB hT ?_
  clear hT
  unfold jU at h1
  refine aQ ?_
  refine aX aG 3 [] [(13, (aK (decide (i10 < n3))))] ?_
  refine bM h1 (fun h1 => ?_) (fun h1 => ?_)
  · refine bN ?_
    refine bF [(0, (.msl 3 lo0p 0 (List.length aA))), (1, (eI a1)), (2, (eI b2)), (3, (eI n3)), (10, (eI i10))] ?_
    refine aQ ?_
    refine bQ 1 ?_
    refine kU (kP []) aG 24 ?_
    obtain ⟨c2, h1⟩ := bL h1
    refine dK 13 [0 ≤ (wR (b2 + i10)) ∧ (wR (b2 + i10)) < (lN aA)] ⟨c2, trivial⟩ ?_
    refine kT 0 lo0p 3 (0 + Int.toNat (wR (b2 + i10))) (aE (gD aA (wR (b2 + i10)))) (aE (gD aA (wR (b2 + i10)))) (List.map aE aA) hO (cN c2) ?_
    obtain ⟨c3, h1⟩ := bL h1
    refine dK 19 [0 ≤ (wR (a1 + i10)) ∧ (wR (a1 + i10)) < (lN aA)] ⟨c3, trivial⟩ ?_
    refine kT 0 lo0p 3 (0 + Int.toNat (wR (a1 + i10))) (aE (gD aA (wR (a1 + i10)))) (aE (gD aA (wR (a1 + i10)))) (List.map aE aA) hO (cN c3) ?_
    obtain ⟨c4, h1⟩ := bL h1
    refine dK 21 [0 ≤ (wR (a1 + i10)) ∧ (wR (a1 + i10)) < (lN aA)] ⟨c4, trivial⟩ ?_
    refine qT 0 lo0p 3 (0 + Int.toNat (wR (a1 + i10))) (aE (gD aA (wR (a1 + i10)))) (aE (gD aA (wR (b2 + i10)))) (List.map aE aA) [(lo0p, 3, List.map aE (List.set aA (Int.toNat (wR (a1 + i10))) (gD aA (wR (b2 + i10)))))] hO (cN c4) (by simp only [List.set, nH]) ?_
    intro H hO
    replace hN : List.length (List.set aA (Int.toNat (wR (a1 + i10))) (gD aA (wR (b2 + i10)))) = N0 := by simpa using hN
    obtain ⟨c5, h1⟩ := bL h1
    refine dK 23 [0 ≤ (wR (b2 + i10)) ∧ (wR (b2 + i10)) < (lN aA)] ⟨c5, trivial⟩ ?_
    refine qT 0 lo0p 3 (0 + Int.toNat (wR (b2 + i10))) (aE (gD (List.set aA (Int.toNat (wR (a1 + i10))) (gD aA (wR (b2 + i10)))) (wR (b2 + i10)))) (aE (gD aA (wR (a1 + i10)))) (List.map aE (List.set aA (Int.toNat (wR (a1 + i10))) (gD aA (wR (b2 + i10))))) [(lo0p, 3, List.map aE (List.set (List.set aA (Int.toNat (wR (a1 + i10))) (gD aA (wR (b2 + i10)))) (Int.toNat (wR (b2 + i10))) (gD aA (wR (a1 + i10)))))] hO (wB c5 (by simp [])) (by simp only [List.set, nH]) ?_
    intro H hO
    replace hN : List.length (List.set (List.set aA (Int.toNat (wR (a1 + i10))) (gD aA (wR (b2 + i10)))) (Int.toNat (wR (b2 + i10))) (gD aA (wR (a1 + i10)))) = N0 := by simpa using hN
    refine wT (by kernel_rfl) ?_
    refine cS (l := [(0, (.msl 3 lo0p 0 (List.length (List.set (List.set aA (Int.toNat (wR (a1 + i10))) (gD aA (wR (b2 + i10)))) (Int.toNat (wR (b2 + i10))) (gD aA (wR (a1 + i10))))))), (1, (eI a1)), (2, (eI b2)), (3, (eI n3)), (10, (eI i10))]) ⟨[(0, (.msl 3 lo0p 0 (List.length aA))), (1, (eI a1)), (2, (eI b2)), (3, (eI n3)), (10, (eI i10))], by kernel_rfl, rfl, ⟨aV.eq (by simp []), aV.refl _, aV.refl _, aV.refl _, aV.refl _, trivial⟩⟩ ?_
    refine aJ (aZ (aI (?_)))
    refine aU aG 3 ?_
    refine bC ?_
    exact aJ (aI (⟨rfl, _, (oI h1).symm, .eq (by kernel_rfl), hO, hN⟩))
  refine eB 0 ?_
  obtain rfl := oI h1
  obtain rfl : _ = rr0 := ho0
  replace h0 : some aA = some r := h0
  obtain rfl := oI h0
  exact aJ (aY (aY (bP (qD (x := (.tup [])) (by kernel_rfl) (aV.refl _) ⟨rfl, hO.ext, hO.at 0 (by kernel_rfl), by simp only [List.length_map]; exact hN.trans hN0⟩))))

theorem wJ (lo0p : Nat) (aA : (List aC)) (a1 : Int) (m2 : Int) (b3 : Int) (cmp4_f : Nat) (cmp4_a cmp4_c : List V) (cmp4 : aC → aC → Option Int) (cmp4_h : ∀ a0 a1 r, cmp4 a0 a1 = some r → bU Try.prog cmp4_f (cmp4_a ++ [(aE a0), (aE a1)] ++ cmp4_c) (eI r)) (r : List aC) (h0 : lT aA a1 m2 b3 cmp4 = some r) : kX Try.prog 137 lo0p 3 (List.map aE aA) (List.map aE r) [(.msl 3 lo0p 0 (List.length aA)), (eI a1), (eI m2), (eI b3), (.fn (.func cmp4_f) cmp4_a cmp4_c)] (.tup []) := by
  intro H0 hl0
  refine cI Try.func137 ?_
  have hO := aP.pS hl0
  clear hl0
  obtain ⟨N0, hN0⟩ : ∃ n, n = List.length aA := ⟨_, rfl⟩
  have hN : List.length aA = N0 := hN0.symm
  unfold lT at h0
  refine aX aG 4 [1] [(10, (eI (wR (m2 - a1))))] ?_
  refine aX aG 4 [3] [(11, (eI (wR (b3 - m2))))] ?_
  refine dO (fun T H => ∃ aA : List aC, ∃ i10 : Int, Has T [(0, (.msl 3 lo0p 0 (List.length aA))), (2, (eI m2)), (4, (.fn (.func cmp4_f) cmp4_a cmp4_c)), (10, (eI i10))] ∧ aP ⟨H0, [lo0p], []⟩ H [(lo0p, 3, List.map aE aA)] ∧ List.length aA = N0 ∧ gR cmp4 aA m2 i10 = some r) ?_ ?_
  · clear hO hN h0
    rintro T H ⟨aA, i10, hT, hO, hN, h0⟩
    refine bB hT ?_
    clear hT
    unfold gR at h0
    refine aU aG 8 ?_
    refine bK 7 ?_
    obtain ⟨x1, hx2, h0⟩ := aW h0
    refine nW [(lo0p, 3, List.map aE x1)] 0 (kJ lo0p aA (wR (m2 - i10)) m2 i10 cmp4_f cmp4_a cmp4_c cmp4 cmp4_h _ hx2) hO ?_
    intro H hO hl3
    simp only [List.length_map] at hl3
    replace hN := hl3.trans hN
    refine cH ?_
    refine cS (l := [(0, (.msl 3 lo0p 0 (List.length x1)))]) ⟨[(0, (.msl 3 lo0p 0 (List.length aA)))], by kernel_rfl, rfl, ⟨aV.eq (by simp [hl3]), trivial⟩⟩ ?_
    obtain rfl := oI h0
    exact aJ (qD (x := (.tup [])) (by kernel_rfl) (aV.refl _) ⟨rfl, hO.ext, hO.at 0 (by kernel_rfl), by simp only [List.length_map]; exact hN.trans hN0⟩)
  refine bQ 0 ?_
  refine cU [(0, (.msl 3 lo0p 0 (List.length aA))), (2, (eI m2)), (4, (.fn (.func cmp4_f) cmp4_a cmp4_c)), (10, (eI (wR (m2 - a1)))), (11, (eI (wR (b3 - m2))))] ?_
  refine cO (fun T H => ∃ aA : List aC, ∃ i10 : Int, ∃ j11 : Int, Has T [(0, (.msl 3 lo0p 0 (List.length aA))), (2, (eI m2)), (4, (.fn (.func cmp4_f) cmp4_a cmp4_c)), (10, (eI i10)), (11, (eI j11))] ∧ aP ⟨H0, [lo0p], []⟩ H [(lo0p, 3, List.map aE aA)] ∧ List.length aA = N0 ∧ lH cmp4 aA m2 i10 j11 = some r) ?_ ⟨aA, wR (m2 - a1), wR (b3 - m2), .eq (by kernel_rfl), hO, hN, h0⟩
  clear hO hN h0
  rintro T H ⟨aA, i10, j11, hT, hO, hN, h0⟩
  refine bB hT ?_
  clear hT
  unfold lH at h0
  obtain ⟨rr0, hl0, h0⟩ := aW h0
  refine cF (by kernel_rfl) (fun (s : List aC × Int × Int) T H => Has T [(0, (.msl 3 lo0p 0 (List.length s.1))), (2, (eI m2)), (4, (.fn (.func cmp4_f) cmp4_a cmp4_c)), (10, (eI s.2.1)), (11, (eI s.2.2))] ∧ aP ⟨H0, [lo0p], []⟩ H [(lo0p, 3, List.map aE s.1)] ∧ List.length s.1 = N0) hl0 ⟨.eq (by kernel_rfl), hO, hN⟩ ?_
  clear hO hN
  rintro k0 s out1 T H ⟨hT, hO, hN⟩ h1 ho0
  obtain ⟨aA, i10, j11⟩ := s
  replace h1 : lK cmp4 m2 aA i10 j11 = some out1 := h1
  try dsimp only at hT
  refine bB hT ?_
  clear hT
  unfold lK at h1
  refine aQ ?_
  refine aX aG 3 [] [(20, (aK (!decide (i10 = j11))))] ?_
  refine bM h1 (fun h1 => ?_) (fun h1 => ?_)
  · refine bN ?_
    refine bF [(0, (.msl 3 lo0p 0 (List.length aA))), (2, (eI m2)), (4, (.fn (.func cmp4_f) cmp4_a cmp4_c)), (10, (eI i10)), (11, (eI j11))] ?_
    refine bQ 1 ?_
    refine aX aG 3 [] [(23, (aK (decide (j11 < i10))))] ?_
    refine bM h1 (fun h1 => ?_) (fun h1 => ?_)
    · refine aQ ?_
      refine aU aG 8 ?_
      refine bK 7 ?_
      obtain ⟨x6, hx7, h1⟩ := aW h1
      refine nW [(lo0p, 3, List.map aE x6)] 0 (kJ lo0p aA (wR (m2 - i10)) m2 j11 cmp4_f cmp4_a cmp4_c cmp4 cmp4_h _ hx7) hO ?_
      intro H hO hl8
      simp only [List.length_map] at hl8
      replace hN := hl8.trans hN
      refine cH ?_
      refine cS (l := [(0, (.msl 3 lo0p 0 (List.length x6))), (2, (eI m2)), (4, (.fn (.func cmp4_f) cmp4_a cmp4_c)), (10, (eI i10)), (11, (eI j11))]) ⟨[(0, (.msl 3 lo0p 0 (List.length aA))), (2, (eI m2)), (4, (.fn (.func cmp4_f) cmp4_a cmp4_c)), (10, (eI i10)), (11, (eI j11))], by kernel_rfl, rfl, ⟨aV.eq (by simp [hl8]), aV.refl _, aV.refl _, aV.refl _, aV.refl _, trivial⟩⟩ ?_
      refine aJ (aI (?_))
      refine aU aG 4 ?_
      refine bC ?_
      exact aJ (aZ (aI (⟨rfl, _, (oI h1).symm, .eq (by kernel_rfl), hO, hN⟩)))
    refine aQ ?_
    refine aU aG 12 ?_
    refine bK 11 ?_
    obtain ⟨x9, hx10, h1⟩ := aW h1
    refine nW [(lo0p, 3, List.map aE x9)] 0 (kJ lo0p aA (wR (m2 - i10)) (wR ((wR (m2 + j11)) - i10)) i10 cmp4_f cmp4_a cmp4_c cmp4 cmp4_h _ hx10) hO ?_
    intro H hO hl11
    simp only [List.length_map] at hl11
    replace hN := hl11.trans hN
    refine cH ?_
    refine cS (l := [(0, (.msl 3 lo0p 0 (List.length x9))), (2, (eI m2)), (4, (.fn (.func cmp4_f) cmp4_a cmp4_c)), (10, (eI i10)), (11, (eI j11))]) ⟨[(0, (.msl 3 lo0p 0 (List.length aA))), (2, (eI m2)), (4, (.fn (.func cmp4_f) cmp4_a cmp4_c)), (10, (eI i10)), (11, (eI j11))], by kernel_rfl, rfl, ⟨aV.eq (by simp [hl11]), aV.refl _, aV.refl _, aV.refl _, aV.refl _, trivial⟩⟩ ?_
    refine aJ (aI (?_))
    refine aU aG 4 ?_
    refine bC ?_
    exact aJ (aZ (aI (⟨rfl, _, (oI h1).symm, .eq (by kernel_rfl), hO, hN⟩)))
  refine eB 0 ?_
  obtain rfl := oI h1
  obtain rfl : _ = rr0 := ho0
  replace h0 : gR cmp4 aA m2 i10 = some r := h0
  exact aJ (aY (aY (bP (aI (⟨rfl, _, _, .eq (by kernel_rfl), hO, hN, h0⟩)))))

theorem sK (cmp4_f : Nat) (cmp4_a cmp4_c : List V) (cmp4 : aC → aC → Option Int) (cmp4_h : ∀ a0 a1 r, cmp4 a0 a1 = some r → bU Try.prog cmp4_f (cmp4_a ++ [(aE a0), (aE a1)] ++ cmp4_c) (eI r)) (rec : (List aC) → Int → Int → Int → Option (List aC)) (ih : ∀ (lo0p : Nat) (aA : (List aC)) (a1 : Int) (m2 : Int) (b3 : Int) (r : List aC), rec aA a1 m2 b3 = some r → kX Try.prog 128 lo0p 3 (List.map aE aA) (List.map aE r) [(.msl 3 lo0p 0 (List.length aA)), (eI a1), (eI m2), (eI b3), (.fn (.func cmp4_f) cmp4_a cmp4_c)] (.tup [])) (lo0p : Nat) (aA : (List aC)) (a1 : Int) (m2 : Int) (b3 : Int) (r : List aC) (h0 : dQ cmp4 rec aA a1 m2 b3 = some r) : kX Try.prog 128 lo0p 3 (List.map aE aA) (List.map aE r) [(.msl 3 lo0p 0 (List.length aA)), (eI a1), (eI m2), (eI b3), (.fn (.func cmp4_f) cmp4_a cmp4_c)] (.tup []) := by
  intro H0 hl0
  refine cI Try.func128 ?_
  have hO := aP.pS hl0
  clear hl0
  obtain ⟨N0, hN0⟩ : ∃ n, n = List.length aA := ⟨_, rfl⟩
  have hN : List.length aA = N0 := hN0.symm
  unfold dQ at h0
  refine dO (fun T H => ∃ aA : List aC, Has T [(0, (.msl 3 lo0p 0 (List.length aA))), (1, (eI a1)), (2, (eI m2)), (3, (eI b3)), (4, (.fn (.func cmp4_f) cmp4_a cmp4_c))] ∧ aP ⟨H0, [lo0p], []⟩ H [(lo0p, 3, List.map aE aA)] ∧ List.length aA = N0 ∧ kR cmp4 rec aA a1 m2 b3 = some r) ?_ ?_
  · clear hO hN h0
    rintro T H ⟨aA, hT, hO, hN, h0⟩
    refine bB hT ?_
    clear hT
    unfold kR at h0
    refine dO (fun T H => ∃ aA : List aC, Has T [(0, (.msl 3 lo0p 0 (List.length aA))), (1, (eI a1)), (2, (eI m2)), (3, (eI b3)), (4, (.fn (.func cmp4_f) cmp4_a cmp4_c))] ∧ aP ⟨H0, [lo0p], []⟩ H [(lo0p, 3, List.map aE aA)] ∧ List.length aA = N0 ∧ kL cmp4 rec aA a1 m2 b3 = some r) ?_ ?_
    · clear hO hN h0
      rintro T H ⟨aA, hT, hO, hN, h0⟩
      refine bB hT ?_
      clear hT
      unfold kL at h0
      refine aQ ?_
      refine aU aG 7 ?_
      obtain ⟨c1, h0⟩ := bL h0
      refine yR [0 ≤ (1 : Int)] ⟨c1, trivial⟩ ?_
      refine bS [] [(18, (eI (wR (Int.fdiv (IntKind.u64.wrap (wR (a1 + b3))) (2 ^ (min (Int.toNat (1 : Int)) 64))))))] ?_
      refine aX aG 4 [] [(19, (eI (wR ((wR (Int.fdiv (IntKind.u64.wrap (wR (a1 + b3))) (2 ^ (min (Int.toNat (1 : Int)) 64)))) + m2))))] ?_
      refine aX aG 2 [] [] ?_
      refine dO (fun T H => ∃ aA : List aC, ∃ bO : Int, ∃ n19 : Int, ∃ aR : Int, ∃ r21 : Int, Has T [(0, (.msl 3 lo0p 0 (List.length aA))), (1, (eI a1)), (2, (eI m2)), (3, (eI b3)), (4, (.fn (.func cmp4_f) cmp4_a cmp4_c)), (18, (eI bO)), (19, (eI n19)), (20, (eI aR)), (21, (eI r21))] ∧ aP ⟨H0, [lo0p], []⟩ H [(lo0p, 3, List.map aE aA)] ∧ List.length aA = N0 ∧ gK cmp4 rec aA a1 m2 b3 bO n19 aR r21 = some r) ?_ ?_
      · clear hO hN h0
        rintro T H ⟨aA, bO, n19, aR, r21, hT, hO, hN, h0⟩
        refine bB hT ?_
        clear hT
        unfold gK at h0
        refine aX aG 3 [] [(22, (eI (wR (n19 - (1 : Int)))))] ?_
        refine dO (fun T H => ∃ aA : List aC, ∃ aR : Int, Has T [(0, (.msl 3 lo0p 0 (List.length aA))), (1, (eI a1)), (2, (eI m2)), (3, (eI b3)), (4, (.fn (.func cmp4_f) cmp4_a cmp4_c)), (18, (eI bO)), (19, (eI n19)), (20, (eI aR))] ∧ aP ⟨H0, [lo0p], []⟩ H [(lo0p, 3, List.map aE aA)] ∧ List.length aA = N0 ∧ fU cmp4 rec aA a1 m2 b3 bO n19 aR = some r) ?_ ?_
        · clear hO hN h0
          rintro T H ⟨aA, aR, hT, hO, hN, h0⟩
          refine bB hT ?_
          clear hT
          unfold fU at h0
          refine aX aG 4 [19] [(24, (eI (wR (n19 - aR))))] ?_
          refine dO (fun T H => ∃ aA : List aC, ∃ dS : Int, Has T [(0, (.msl 3 lo0p 0 (List.length aA))), (1, (eI a1)), (3, (eI b3)), (4, (.fn (.func cmp4_f) cmp4_a cmp4_c)), (18, (eI bO)), (20, (eI aR)), (24, (eI dS))] ∧ aP ⟨H0, [lo0p], []⟩ H [(lo0p, 3, List.map aE aA)] ∧ List.length aA = N0 ∧ gC cmp4 rec aA a1 b3 bO aR dS = some r) ?_ ?_
          · clear hO hN h0
            rintro T H ⟨aA, dS, hT, hO, hN, h0⟩
            refine bB hT ?_
            clear hT
            unfold gC at h0
            refine dO (fun T H => ∃ aA : List aC, Has T [(0, (.msl 3 lo0p 0 (List.length aA))), (3, (eI b3)), (4, (.fn (.func cmp4_f) cmp4_a cmp4_c)), (18, (eI bO)), (24, (eI dS))] ∧ aP ⟨H0, [lo0p], []⟩ H [(lo0p, 3, List.map aE aA)] ∧ List.length aA = N0 ∧ gH cmp4 rec aA b3 bO dS = some r) ?_ ?_
            · clear hO hN h0
              rintro T H ⟨aA, hT, hO, hN, h0⟩
              refine bB hT ?_
              clear hT
              unfold gH at h0
              refine aX aG 8 [] [(213, (aK ((decide (bO < dS)) && (decide (dS < b3)))))] ?_
              refine bM h0 (fun h0 => ?_) (fun h0 => ?_)
              · refine aU aG 6 ?_
                refine bK 5 ?_
                obtain ⟨x3, hx4, h0⟩ := aW h0
                refine nW [(lo0p, 3, List.map aE x3)] 0 (ih lo0p aA bO dS b3 _ hx4) hO ?_
                intro H hO hl5
                simp only [List.length_map] at hl5
                replace hN := hl5.trans hN
                refine cH ?_
                refine cS (l := [(0, (.msl 3 lo0p 0 (List.length x3)))]) ⟨[(0, (.msl 3 lo0p 0 (List.length aA)))], by kernel_rfl, rfl, ⟨aV.eq (by simp [hl5]), trivial⟩⟩ ?_
                obtain rfl := oI h0
                exact aJ (qD (x := (.tup [])) (by kernel_rfl) (aV.refl _) ⟨rfl, hO.ext, hO.at 0 (by kernel_rfl), by simp only [List.length_map]; exact hN.trans hN0⟩)
              refine bN ?_
              obtain rfl := oI h0
              exact aJ (qD (x := (.tup [])) (by kernel_rfl) (aV.refl _) ⟨rfl, hO.ext, hO.at 0 (by kernel_rfl), by simp only [List.length_map]; exact hN.trans hN0⟩)
            refine aX aG 8 [] [(199, (aK ((decide (a1 < aR)) && (decide (aR < bO)))))] ?_
            refine bM h0 (fun h0 => ?_) (fun h0 => ?_)
            · refine aU aG 6 ?_
              refine bK 5 ?_
              obtain ⟨x7, hx8, h0⟩ := aW h0
              refine nW [(lo0p, 3, List.map aE x7)] 0 (ih lo0p aA a1 aR bO _ hx8) hO ?_
              intro H hO hl9
              simp only [List.length_map] at hl9
              replace hN := hl9.trans hN
              refine cH ?_
              refine cS (l := [(0, (.msl 3 lo0p 0 (List.length x7))), (3, (eI b3)), (4, (.fn (.func cmp4_f) cmp4_a cmp4_c)), (18, (eI bO)), (24, (eI dS))]) ⟨[(0, (.msl 3 lo0p 0 (List.length aA))), (3, (eI b3)), (4, (.fn (.func cmp4_f) cmp4_a cmp4_c)), (18, (eI bO)), (24, (eI dS))], by kernel_rfl, rfl, ⟨aV.eq (by simp [hl9]), aV.refl _, aV.refl _, aV.refl _, aV.refl _, trivial⟩⟩ ?_
              exact aJ (aI (⟨rfl, _, .eq (by kernel_rfl), hO, hN, h0⟩))
            refine bN ?_
            exact aJ (aI (⟨rfl, _, .eq (by kernel_rfl), hO, hN, h0⟩))
          refine aX aG 8 [] [(185, (aK ((decide (aR < m2)) && (decide (m2 < (wR (n19 - aR)))))))] ?_
          refine bM h0 (fun h0 => ?_) (fun h0 => ?_)
          · refine aU aG 6 ?_
            refine bK 5 ?_
            obtain ⟨x11, hx12, h0⟩ := aW h0
            refine nW [(lo0p, 3, List.map aE x11)] 0 (wJ lo0p aA aR m2 (wR (n19 - aR)) cmp4_f cmp4_a cmp4_c cmp4 cmp4_h _ hx12) hO ?_
            intro H hO hl13
            simp only [List.length_map] at hl13
            replace hN := hl13.trans hN
            refine cH ?_
            refine cS (l := [(0, (.msl 3 lo0p 0 (List.length x11))), (1, (eI a1)), (3, (eI b3)), (4, (.fn (.func cmp4_f) cmp4_a cmp4_c)), (18, (eI bO)), (20, (eI aR)), (24, (eI (wR (n19 - aR))))]) ⟨[(0, (.msl 3 lo0p 0 (List.length aA))), (1, (eI a1)), (3, (eI b3)), (4, (.fn (.func cmp4_f) cmp4_a cmp4_c)), (18, (eI bO)), (20, (eI aR)), (24, (eI (wR (n19 - aR))))], by kernel_rfl, rfl, ⟨aV.eq (by simp [hl13]), aV.refl _, aV.refl _, aV.refl _, aV.refl _, aV.refl _, aV.refl _, trivial⟩⟩ ?_
            exact aJ (aI (⟨rfl, _, _, .eq (by kernel_rfl), hO, hN, h0⟩))
          refine bN ?_
          exact aJ (aI (⟨rfl, _, _, .eq (by kernel_rfl), hO, hN, h0⟩))
        refine bQ 8 ?_
        refine cU [(0, (.msl 3 lo0p 0 (List.length aA))), (1, (eI a1)), (2, (eI m2)), (3, (eI b3)), (4, (.fn (.func cmp4_f) cmp4_a cmp4_c)), (18, (eI bO)), (19, (eI n19)), (20, (eI aR)), (21, (eI r21)), (22, (eI (wR (n19 - (1 : Int)))))] ?_
        refine cO (fun T H => ∃ aA : List aC, ∃ aR : Int, ∃ r21 : Int, ∃ p22 : Int, Has T [(0, (.msl 3 lo0p 0 (List.length aA))), (1, (eI a1)), (2, (eI m2)), (3, (eI b3)), (4, (.fn (.func cmp4_f) cmp4_a cmp4_c)), (18, (eI bO)), (19, (eI n19)), (20, (eI aR)), (21, (eI r21)), (22, (eI p22))] ∧ aP ⟨H0, [lo0p], []⟩ H [(lo0p, 3, List.map aE aA)] ∧ List.length aA = N0 ∧ kV cmp4 rec aA a1 m2 b3 bO n19 aR r21 p22 = some r) ?_ ⟨aA, aR, r21, wR (n19 - (1 : Int)), .eq (by kernel_rfl), hO, hN, h0⟩
        clear hO hN h0
        rintro T H ⟨aA, aR, r21, p22, hT, hO, hN, h0⟩
        refine bB hT ?_
        clear hT
        unfold kV at h0
        obtain ⟨rr0, hl0, h0⟩ := aW h0
        refine cF (by kernel_rfl) (fun (s : List aC × Int × Int) T H => Has T [(0, (.msl 3 lo0p 0 (List.length s.1))), (1, (eI a1)), (2, (eI m2)), (3, (eI b3)), (4, (.fn (.func cmp4_f) cmp4_a cmp4_c)), (18, (eI bO)), (19, (eI n19)), (20, (eI s.2.1)), (21, (eI s.2.2)), (22, (eI p22))] ∧ aP ⟨H0, [lo0p], []⟩ H [(lo0p, 3, List.map aE s.1)] ∧ List.length s.1 = N0) hl0 ⟨.eq (by kernel_rfl), hO, hN⟩ ?_
        clear hO hN
        rintro k0 s out1 T H ⟨hT, hO, hN⟩ h1 ho0
        obtain ⟨aA, aR, r21⟩ := s
        replace h1 : kO cmp4 rec a1 m2 b3 bO n19 p22 aA aR r21 = some out1 := h1
        try dsimp only at hT
        refine bB hT ?_
        clear hT
        unfold kO at h1
        refine aQ ?_
        refine aX aG 3 [] [(151, (aK (decide (aR < r21))))] ?_
        refine bM h1 (fun h1 => ?_) (fun h1 => ?_)
        · refine bN ?_
          refine bF [(0, (.msl 3 lo0p 0 (List.length aA))), (1, (eI a1)), (2, (eI m2)), (3, (eI b3)), (4, (.fn (.func cmp4_f) cmp4_a cmp4_c)), (18, (eI bO)), (19, (eI n19)), (20, (eI aR)), (21, (eI r21)), (22, (eI p22))] ?_
          refine bQ 9 ?_
          refine aQ ?_
          refine aU aG 7 ?_
          obtain ⟨c15, h1⟩ := bL h1
          refine yR [0 ≤ (1 : Int)] ⟨c15, trivial⟩ ?_
          refine bS [] [(23, (eI (wR (Int.fdiv (IntKind.u64.wrap (wR (aR + r21))) (2 ^ (min (Int.toNat (1 : Int)) 64))))))] ?_
          refine aQ ?_
          refine kU (kP [169]) aG 14 ?_
          obtain ⟨c16, h1⟩ := bL h1
          refine dK 6 [0 ≤ (wR (p22 - (wR (Int.fdiv (IntKind.u64.wrap (wR (aR + r21))) (2 ^ (min (Int.toNat (1 : Int)) 64)))))) ∧ (wR (p22 - (wR (Int.fdiv (IntKind.u64.wrap (wR (aR + r21))) (2 ^ (min (Int.toNat (1 : Int)) 64)))))) < (lN aA)] ⟨c16, trivial⟩ ?_
          refine kT 0 lo0p 3 (0 + Int.toNat (wR (p22 - (wR (Int.fdiv (IntKind.u64.wrap (wR (aR + r21))) (2 ^ (min (Int.toNat (1 : Int)) 64))))))) (aE (gD aA (wR (p22 - (wR (Int.fdiv (IntKind.u64.wrap (wR (aR + r21))) (2 ^ (min (Int.toNat (1 : Int)) 64)))))))) (aE (gD aA (wR (p22 - (wR (Int.fdiv (IntKind.u64.wrap (wR (aR + r21))) (2 ^ (min (Int.toNat (1 : Int)) 64)))))))) (List.map aE aA) hO (cN c16) ?_
          obtain ⟨c17, h1⟩ := bL h1
          refine dK 10 [0 ≤ (wR (Int.fdiv (IntKind.u64.wrap (wR (aR + r21))) (2 ^ (min (Int.toNat (1 : Int)) 64)))) ∧ (wR (Int.fdiv (IntKind.u64.wrap (wR (aR + r21))) (2 ^ (min (Int.toNat (1 : Int)) 64)))) < (lN aA)] ⟨c17, trivial⟩ ?_
          refine kT 0 lo0p 3 (0 + Int.toNat (wR (Int.fdiv (IntKind.u64.wrap (wR (aR + r21))) (2 ^ (min (Int.toNat (1 : Int)) 64))))) (aE (gD aA (wR (Int.fdiv (IntKind.u64.wrap (wR (aR + r21))) (2 ^ (min (Int.toNat (1 : Int)) 64)))))) (aE (gD aA (wR (Int.fdiv (IntKind.u64.wrap (wR (aR + r21))) (2 ^ (min (Int.toNat (1 : Int)) 64)))))) (List.map aE aA) hO (cN c17) ?_
          obtain ⟨x18, hx19, h1⟩ := aW h1
          refine xL (cmp4_h (gD aA (wR (p22 - (wR (Int.fdiv (IntKind.u64.wrap (wR (aR + r21))) (2 ^ (min (Int.toNat (1 : Int)) 64))))))) (gD aA (wR (Int.fdiv (IntKind.u64.wrap (wR (aR + r21))) (2 ^ (min (Int.toNat (1 : Int)) 64))))) _ hx19) hO ?_
          intro H hO
          refine qO ?_
          refine bS [] [(171, (aK (!(decide (x18 < (0 : Int))))))] ?_
          refine bM h1 (fun h1 => ?_) (fun h1 => ?_)
          · refine aU aG 3 ?_
            refine bC ?_
            exact aJ (aZ (aI (⟨rfl, _, (oI h1).symm, .eq (by kernel_rfl), hO, hN⟩)))
          refine aU aG 2 ?_
          refine bC ?_
          exact aJ (aZ (aI (⟨rfl, _, (oI h1).symm, .eq (by kernel_rfl), hO, hN⟩)))
        refine eB 8 ?_
        obtain rfl := oI h1
        obtain rfl : _ = rr0 := ho0
        replace h0 : fU cmp4 rec aA a1 m2 b3 bO n19 aR = some r := h0
        exact aJ (aY (aY (bP (aI (⟨rfl, _, _, .eq (by kernel_rfl), hO, hN, h0⟩)))))
      refine aX aG 3 [] [(140, (aK (decide ((wR (Int.fdiv (IntKind.u64.wrap (wR (a1 + b3))) (2 ^ (min (Int.toNat (1 : Int)) 64)))) < m2))))] ?_
      refine bM h0 (fun h0 => ?_) (fun h0 => ?_)
      · refine bY aG 4 [(0, (.msl 3 lo0p 0 (List.length aA))), (1, (eI a1)), (2, (eI m2)), (3, (eI b3)), (4, (.fn (.func cmp4_f) cmp4_a cmp4_c)), (18, (eI (wR (Int.fdiv (IntKind.u64.wrap (wR (a1 + b3))) (2 ^ (min (Int.toNat (1 : Int)) 64)))))), (19, (eI (wR ((wR (Int.fdiv (IntKind.u64.wrap (wR (a1 + b3))) (2 ^ (min (Int.toNat (1 : Int)) 64)))) + m2)))), (20, (eI (wR ((wR ((wR (Int.fdiv (IntKind.u64.wrap (wR (a1 + b3))) (2 ^ (min (Int.toNat (1 : Int)) 64)))) + m2)) - b3))))] ?_
        refine aU aG 2 ?_
        refine bC ?_
        exact aJ (aI (⟨rfl, _, _, _, _, _, .eq (by kernel_rfl), hO, hN, h0⟩))
      refine bY aG 2 [(0, (.msl 3 lo0p 0 (List.length aA))), (1, (eI a1)), (2, (eI m2)), (3, (eI b3)), (4, (.fn (.func cmp4_f) cmp4_a cmp4_c)), (18, (eI (wR (Int.fdiv (IntKind.u64.wrap (wR (a1 + b3))) (2 ^ (min (Int.toNat (1 : Int)) 64)))))), (19, (eI (wR ((wR (Int.fdiv (IntKind.u64.wrap (wR (a1 + b3))) (2 ^ (min (Int.toNat (1 : Int)) 64)))) + m2)))), (20, (eI a1))] ?_
      refine aU aG 2 ?_
      refine bC ?_
      exact aJ (aI (⟨rfl, _, _, _, _, _, .eq (by kernel_rfl), hO, hN, h0⟩))
    refine aX aG 4 [] [(80, (aK (decide ((wR (b3 - m2)) = (1 : Int)))))] ?_
    refine bM h0 (fun h0 => ?_) (fun h0 => ?_)
    · refine aX aG 2 [1, 3, 80] [(14, (eI a1))] ?_
      refine aX aG 2 [] [(15, (eI m2))] ?_
      refine dO (fun T H => ∃ aA : List aC, ∃ i14 : Int, Has T [(0, (.msl 3 lo0p 0 (List.length aA))), (2, (eI m2)), (14, (eI i14))] ∧ aP ⟨H0, [lo0p], []⟩ H [(lo0p, 3, List.map aE aA)] ∧ List.length aA = N0 ∧ fV cmp4 rec aA m2 i14 = some r) ?_ ?_
      · clear hO hN h0
        rintro T H ⟨aA, i14, hT, hO, hN, h0⟩
        refine bB hT ?_
        clear hT
        unfold fV at h0
        refine dO (fun T H => ∃ aA : List aC, Has T [(0, (.msl 3 lo0p 0 (List.length aA)))] ∧ aP ⟨H0, [lo0p], []⟩ H [(lo0p, 3, List.map aE aA)] ∧ List.length aA = N0 ∧ fX cmp4 rec aA = some r) ?_ ?_
        · clear hO hN h0
          rintro T H ⟨aA, hT, hO, hN, h0⟩
          refine bB hT ?_
          clear hT
          unfold fX at h0
          refine bI ?_
          obtain rfl := oI h0
          exact aJ (bA (pO (x := (.tup [])) (by kernel_rfl) (aV.refl _) ⟨rfl, hO.ext, hO.at 0 (by kernel_rfl), by simp only [List.length_map]; exact hN.trans hN0⟩))
        refine aX aG 2 [2] [(17, (eI m2))] ?_
        refine bQ 6 ?_
        refine cU [(0, (.msl 3 lo0p 0 (List.length aA))), (14, (eI i14)), (17, (eI m2))] ?_
        refine cO (fun T H => ∃ aA : List aC, ∃ k17 : Int, Has T [(0, (.msl 3 lo0p 0 (List.length aA))), (14, (eI i14)), (17, (eI k17))] ∧ aP ⟨H0, [lo0p], []⟩ H [(lo0p, 3, List.map aE aA)] ∧ List.length aA = N0 ∧ jO cmp4 rec aA i14 k17 = some r) ?_ ⟨aA, m2, .eq (by kernel_rfl), hO, hN, h0⟩
        clear hO hN h0
        rintro T H ⟨aA, k17, hT, hO, hN, h0⟩
        refine bB hT ?_
        clear hT
        unfold jO at h0
        obtain ⟨rr0, hl0, h0⟩ := aW h0
        refine cF (by kernel_rfl) (fun (s : List aC × Int) T H => Has T [(0, (.msl 3 lo0p 0 (List.length s.1))), (14, (eI i14)), (17, (eI s.2))] ∧ aP ⟨H0, [lo0p], []⟩ H [(lo0p, 3, List.map aE s.1)] ∧ List.length s.1 = N0) hl0 ⟨.eq (by kernel_rfl), hO, hN⟩ ?_
        clear hO hN
        rintro k0 s out1 T H ⟨hT, hO, hN⟩ h1 ho0
        obtain ⟨aA, k17⟩ := s
        replace h1 : jS cmp4 rec i14 aA k17 = some out1 := h1
        try dsimp only at hT
        refine bB hT ?_
        clear hT
        unfold jS at h1
        refine aQ ?_
        refine aX aG 3 [] [(110, (aK (decide (i14 < k17))))] ?_
        refine bM h1 (fun h1 => ?_) (fun h1 => ?_)
        · refine bN ?_
          refine bF [(0, (.msl 3 lo0p 0 (List.length aA))), (14, (eI i14)), (17, (eI k17))] ?_
          refine aQ ?_
          refine bQ 7 ?_
          refine kU (kP []) aG 18 ?_
          obtain ⟨c25, h1⟩ := bL h1
          refine dK 9 [0 ≤ (wR (k17 - (1 : Int))) ∧ (wR (k17 - (1 : Int))) < (lN aA)] ⟨c25, trivial⟩ ?_
          refine kT 0 lo0p 3 (0 + Int.toNat (wR (k17 - (1 : Int)))) (aE (gD aA (wR (k17 - (1 : Int))))) (aE (gD aA (wR (k17 - (1 : Int))))) (List.map aE aA) hO (cN c25) ?_
          obtain ⟨c26, h1⟩ := bL h1
          refine dK 13 [0 ≤ k17 ∧ k17 < (lN aA)] ⟨c26, trivial⟩ ?_
          refine kT 0 lo0p 3 (0 + Int.toNat k17) (aE (gD aA k17)) (aE (gD aA k17)) (List.map aE aA) hO (cN c26) ?_
          obtain ⟨c27, h1⟩ := bL h1
          refine dK 15 [0 ≤ k17 ∧ k17 < (lN aA)] ⟨c27, trivial⟩ ?_
          refine qT 0 lo0p 3 (0 + Int.toNat k17) (aE (gD aA k17)) (aE (gD aA (wR (k17 - (1 : Int))))) (List.map aE aA) [(lo0p, 3, List.map aE (List.set aA (Int.toNat k17) (gD aA (wR (k17 - (1 : Int))))))] hO (cN c27) (by simp only [List.set, nH]) ?_
          intro H hO
          replace hN : List.length (List.set aA (Int.toNat k17) (gD aA (wR (k17 - (1 : Int))))) = N0 := by simpa using hN
          obtain ⟨c28, h1⟩ := bL h1
          refine dK 17 [0 ≤ (wR (k17 - (1 : Int))) ∧ (wR (k17 - (1 : Int))) < (lN aA)] ⟨c28, trivial⟩ ?_
          refine qT 0 lo0p 3 (0 + Int.toNat (wR (k17 - (1 : Int)))) (aE (gD (List.set aA (Int.toNat k17) (gD aA (wR (k17 - (1 : Int))))) (wR (k17 - (1 : Int))))) (aE (gD aA k17)) (List.map aE (List.set aA (Int.toNat k17) (gD aA (wR (k17 - (1 : Int)))))) [(lo0p, 3, List.map aE (List.set (List.set aA (Int.toNat k17) (gD aA (wR (k17 - (1 : Int))))) (Int.toNat (wR (k17 - (1 : Int)))) (gD aA k17)))] hO (wB c28 (by simp [])) (by simp only [List.set, nH]) ?_
          intro H hO
          replace hN : List.length (List.set (List.set aA (Int.toNat k17) (gD aA (wR (k17 - (1 : Int))))) (Int.toNat (wR (k17 - (1 : Int)))) (gD aA k17)) = N0 := by simpa using hN
          refine wT (by kernel_rfl) ?_
          refine cS (l := [(0, (.msl 3 lo0p 0 (List.length (List.set (List.set aA (Int.toNat k17) (gD aA (wR (k17 - (1 : Int))))) (Int.toNat (wR (k17 - (1 : Int)))) (gD aA k17))))), (14, (eI i14)), (17, (eI k17))]) ⟨[(0, (.msl 3 lo0p 0 (List.length aA))), (14, (eI i14)), (17, (eI k17))], by kernel_rfl, rfl, ⟨aV.eq (by simp []), aV.refl _, aV.refl _, trivial⟩⟩ ?_
          refine aJ (aZ (aI (?_)))
          refine aU aG 3 ?_
          refine bC ?_
          exact aJ (aI (⟨rfl, _, (oI h1).symm, .eq (by kernel_rfl), hO, hN⟩))
        refine eB 6 ?_
        obtain rfl := oI h1
        obtain rfl : _ = rr0 := ho0
        replace h0 : fX cmp4 rec aA = some r := h0
        exact aJ (aY (aY (bP (aI (⟨rfl, _, .eq (by kernel_rfl), hO, hN, h0⟩)))))
      refine bQ 4 ?_
      refine cU [(0, (.msl 3 lo0p 0 (List.length aA))), (2, (eI m2)), (4, (.fn (.func cmp4_f) cmp4_a cmp4_c)), (14, (eI a1)), (15, (eI m2))] ?_
      refine cO (fun T H => ∃ aA : List aC, ∃ i14 : Int, ∃ j15 : Int, Has T [(0, (.msl 3 lo0p 0 (List.length aA))), (2, (eI m2)), (4, (.fn (.func cmp4_f) cmp4_a cmp4_c)), (14, (eI i14)), (15, (eI j15))] ∧ aP ⟨H0, [lo0p], []⟩ H [(lo0p, 3, List.map aE aA)] ∧ List.length aA = N0 ∧ kE cmp4 rec aA m2 i14 j15 = some r) ?_ ⟨aA, a1, m2, .eq (by kernel_rfl), hO, hN, h0⟩
      clear hO hN h0
      rintro T H ⟨aA, i14, j15, hT, hO, hN, h0⟩
      refine bB hT ?_
      clear hT
      unfold kE at h0
      obtain ⟨rr0, hl0, h0⟩ := aW h0
      refine cF (by kernel_rfl) (fun (s : List aC × Int × Int) T H => Has T [(0, (.msl 3 lo0p 0 (List.length s.1))), (2, (eI m2)), (4, (.fn (.func cmp4_f) cmp4_a cmp4_c)), (14, (eI s.2.1)), (15, (eI s.2.2))] ∧ aP ⟨H0, [lo0p], []⟩ H [(lo0p, 3, List.map aE s.1)] ∧ List.length s.1 = N0) hl0 ⟨.eq (by kernel_rfl), hO, hN⟩ ?_
      clear hO hN
      rintro k0 s out1 T H ⟨hT, hO, hN⟩ h1 ho0
      obtain ⟨aA, i14, j15⟩ := s
      replace h1 : jM cmp4 rec m2 aA i14 j15 = some out1 := h1
      try dsimp only at hT
      refine bB hT ?_
      clear hT
      unfold jM at h1
      refine aQ ?_
      refine aX aG 3 [] [(85, (aK (decide (i14 < j15))))] ?_
      refine bM h1 (fun h1 => ?_) (fun h1 => ?_)
      · refine bN ?_
        refine bF [(0, (.msl 3 lo0p 0 (List.length aA))), (2, (eI m2)), (4, (.fn (.func cmp4_f) cmp4_a cmp4_c)), (14, (eI i14)), (15, (eI j15))] ?_
        refine bQ 5 ?_
        refine aQ ?_
        refine aU aG 7 ?_
        obtain ⟨c30, h1⟩ := bL h1
        refine yR [0 ≤ (1 : Int)] ⟨c30, trivial⟩ ?_
        refine bS [] [(16, (eI (wR (Int.fdiv (IntKind.u64.wrap (wR (i14 + j15))) (2 ^ (min (Int.toNat (1 : Int)) 64))))))] ?_
        refine aQ ?_
        refine kU (kP [101]) aG 12 ?_
        obtain ⟨c31, h1⟩ := bL h1
        refine dK 4 [0 ≤ m2 ∧ m2 < (lN aA)] ⟨c31, trivial⟩ ?_
        refine kT 0 lo0p 3 (0 + Int.toNat m2) (aE (gD aA m2)) (aE (gD aA m2)) (List.map aE aA) hO (cN c31) ?_
        obtain ⟨c32, h1⟩ := bL h1
        refine dK 8 [0 ≤ (wR (Int.fdiv (IntKind.u64.wrap (wR (i14 + j15))) (2 ^ (min (Int.toNat (1 : Int)) 64)))) ∧ (wR (Int.fdiv (IntKind.u64.wrap (wR (i14 + j15))) (2 ^ (min (Int.toNat (1 : Int)) 64)))) < (lN aA)] ⟨c32, trivial⟩ ?_
        refine kT 0 lo0p 3 (0 + Int.toNat (wR (Int.fdiv (IntKind.u64.wrap (wR (i14 + j15))) (2 ^ (min (Int.toNat (1 : Int)) 64))))) (aE (gD aA (wR (Int.fdiv (IntKind.u64.wrap (wR (i14 + j15))) (2 ^ (min (Int.toNat (1 : Int)) 64)))))) (aE (gD aA (wR (Int.fdiv (IntKind.u64.wrap (wR (i14 + j15))) (2 ^ (min (Int.toNat (1 : Int)) 64)))))) (List.map aE aA) hO (cN c32) ?_
        obtain ⟨x33, hx34, h1⟩ := aW h1
        refine xL (cmp4_h (gD aA m2) (gD aA (wR (Int.fdiv (IntKind.u64.wrap (wR (i14 + j15))) (2 ^ (min (Int.toNat (1 : Int)) 64))))) _ hx34) hO ?_
        intro H hO
        refine qO ?_
        refine bS [] [(103, (aK (!(decide (x33 < (0 : Int))))))] ?_
        refine bM h1 (fun h1 => ?_) (fun h1 => ?_)
        · refine aU aG 3 ?_
          refine bC ?_
          exact aJ (aZ (aI (⟨rfl, _, (oI h1).symm, .eq (by kernel_rfl), hO, hN⟩)))
        refine aU aG 2 ?_
        refine bC ?_
        exact aJ (aZ (aI (⟨rfl, _, (oI h1).symm, .eq (by kernel_rfl), hO, hN⟩)))
      refine eB 4 ?_
      obtain rfl := oI h1
      obtain rfl : _ = rr0 := ho0
      replace h0 : fV cmp4 rec aA m2 i14 = some r := h0
      exact aJ (aY (aY (bP (aI (⟨rfl, _, _, .eq (by kernel_rfl), hO, hN, h0⟩)))))
    refine bN ?_
    exact aJ (aI (⟨rfl, _, .eq (by kernel_rfl), hO, hN, h0⟩))
  refine aX aG 4 [] [(28, (aK (decide ((wR (m2 - a1)) = (1 : Int)))))] ?_
  refine bM h0 (fun h0 => ?_) (fun h0 => ?_)
  · refine aX aG 2 [2, 28] [(10, (eI m2))] ?_
    refine aX aG 2 [3] [(11, (eI b3))] ?_
    refine dO (fun T H => ∃ aA : List aC, ∃ i10 : Int, Has T [(0, (.msl 3 lo0p 0 (List.length aA))), (1, (eI a1)), (10, (eI i10))] ∧ aP ⟨H0, [lo0p], []⟩ H [(lo0p, 3, List.map aE aA)] ∧ List.length aA = N0 ∧ fP cmp4 rec aA a1 i10 = some r) ?_ ?_
    · clear hO hN h0
      rintro T H ⟨aA, i10, hT, hO, hN, h0⟩
      refine bB hT ?_
      clear hT
      unfold fP at h0
      refine dO (fun T H => ∃ aA : List aC, Has T [(0, (.msl 3 lo0p 0 (List.length aA)))] ∧ aP ⟨H0, [lo0p], []⟩ H [(lo0p, 3, List.map aE aA)] ∧ List.length aA = N0 ∧ fQ cmp4 rec aA = some r) ?_ ?_
      · clear hO hN h0
        rintro T H ⟨aA, hT, hO, hN, h0⟩
        refine bB hT ?_
        clear hT
        unfold fQ at h0
        refine bI ?_
        obtain rfl := oI h0
        exact aJ (bA (pO (x := (.tup [])) (by kernel_rfl) (aV.refl _) ⟨rfl, hO.ext, hO.at 0 (by kernel_rfl), by simp only [List.length_map]; exact hN.trans hN0⟩))
      refine aX aG 2 [1] [(13, (eI a1))] ?_
      refine bQ 2 ?_
      refine cU [(0, (.msl 3 lo0p 0 (List.length aA))), (10, (eI i10)), (13, (eI a1))] ?_
      refine cO (fun T H => ∃ aA : List aC, ∃ k13 : Int, Has T [(0, (.msl 3 lo0p 0 (List.length aA))), (10, (eI i10)), (13, (eI k13))] ∧ aP ⟨H0, [lo0p], []⟩ H [(lo0p, 3, List.map aE aA)] ∧ List.length aA = N0 ∧ jY cmp4 rec aA i10 k13 = some r) ?_ ⟨aA, a1, .eq (by kernel_rfl), hO, hN, h0⟩
      clear hO hN h0
      rintro T H ⟨aA, k13, hT, hO, hN, h0⟩
      refine bB hT ?_
      clear hT
      unfold jY at h0
      obtain ⟨rr0, hl0, h0⟩ := aW h0
      refine cF (by kernel_rfl) (fun (s : List aC × Int) T H => Has T [(0, (.msl 3 lo0p 0 (List.length s.1))), (10, (eI i10)), (13, (eI s.2))] ∧ aP ⟨H0, [lo0p], []⟩ H [(lo0p, 3, List.map aE s.1)] ∧ List.length s.1 = N0) hl0 ⟨.eq (by kernel_rfl), hO, hN⟩ ?_
      clear hO hN
      rintro k0 s out1 T H ⟨hT, hO, hN⟩ h1 ho0
      obtain ⟨aA, k13⟩ := s
      replace h1 : jN cmp4 rec i10 aA k13 = some out1 := h1
      try dsimp only at hT
      refine bB hT ?_
      clear hT
      unfold jN at h1
      refine aQ ?_
      refine aX aG 4 [] [(58, (aK (decide (k13 < (wR (i10 - (1 : Int)))))))] ?_
      refine bM h1 (fun h1 => ?_) (fun h1 => ?_)
      · refine bN ?_
        refine bF [(0, (.msl 3 lo0p 0 (List.length aA))), (10, (eI i10)), (13, (eI k13))] ?_
        refine aQ ?_
        refine bQ 3 ?_
        refine kU (kP []) aG 18 ?_
        obtain ⟨c39, h1⟩ := bL h1
        refine dK 9 [0 ≤ (wR (k13 + (1 : Int))) ∧ (wR (k13 + (1 : Int))) < (lN aA)] ⟨c39, trivial⟩ ?_
        refine kT 0 lo0p 3 (0 + Int.toNat (wR (k13 + (1 : Int)))) (aE (gD aA (wR (k13 + (1 : Int))))) (aE (gD aA (wR (k13 + (1 : Int))))) (List.map aE aA) hO (cN c39) ?_
        obtain ⟨c40, h1⟩ := bL h1
        refine dK 13 [0 ≤ k13 ∧ k13 < (lN aA)] ⟨c40, trivial⟩ ?_
        refine kT 0 lo0p 3 (0 + Int.toNat k13) (aE (gD aA k13)) (aE (gD aA k13)) (List.map aE aA) hO (cN c40) ?_
        obtain ⟨c41, h1⟩ := bL h1
        refine dK 15 [0 ≤ k13 ∧ k13 < (lN aA)] ⟨c41, trivial⟩ ?_
        refine qT 0 lo0p 3 (0 + Int.toNat k13) (aE (gD aA k13)) (aE (gD aA (wR (k13 + (1 : Int))))) (List.map aE aA) [(lo0p, 3, List.map aE (List.set aA (Int.toNat k13) (gD aA (wR (k13 + (1 : Int))))))] hO (cN c41) (by simp only [List.set, nH]) ?_
        intro H hO
        replace hN : List.length (List.set aA (Int.toNat k13) (gD aA (wR (k13 + (1 : Int))))) = N0 := by simpa using hN
        obtain ⟨c42, h1⟩ := bL h1
        refine dK 17 [0 ≤ (wR (k13 + (1 : Int))) ∧ (wR (k13 + (1 : Int))) < (lN aA)] ⟨c42, trivial⟩ ?_
        refine qT 0 lo0p 3 (0 + Int.toNat (wR (k13 + (1 : Int)))) (aE (gD (List.set aA (Int.toNat k13) (gD aA (wR (k13 + (1 : Int))))) (wR (k13 + (1 : Int))))) (aE (gD aA k13)) (List.map aE (List.set aA (Int.toNat k13) (gD aA (wR (k13 + (1 : Int)))))) [(lo0p, 3, List.map aE (List.set (List.set aA (Int.toNat k13) (gD aA (wR (k13 + (1 : Int))))) (Int.toNat (wR (k13 + (1 : Int)))) (gD aA k13)))] hO (wB c42 (by simp [])) (by simp only [List.set, nH]) ?_
        intro H hO
        replace hN : List.length (List.set (List.set aA (Int.toNat k13) (gD aA (wR (k13 + (1 : Int))))) (Int.toNat (wR (k13 + (1 : Int)))) (gD aA k13)) = N0 := by simpa using hN
        refine wT (by kernel_rfl) ?_
        refine cS (l := [(0, (.msl 3 lo0p 0 (List.length (List.set (List.set aA (Int.toNat k13) (gD aA (wR (k13 + (1 : Int))))) (Int.toNat (wR (k13 + (1 : Int)))) (gD aA k13))))), (10, (eI i10)), (13, (eI k13))]) ⟨[(0, (.msl 3 lo0p 0 (List.length aA))), (10, (eI i10)), (13, (eI k13))], by kernel_rfl, rfl, ⟨aV.eq (by simp []), aV.refl _, aV.refl _, trivial⟩⟩ ?_
        refine aJ (aZ (aI (?_)))
        refine aU aG 3 ?_
        refine bC ?_
        exact aJ (aI (⟨rfl, _, (oI h1).symm, .eq (by kernel_rfl), hO, hN⟩))
      refine eB 2 ?_
      obtain rfl := oI h1
      obtain rfl : _ = rr0 := ho0
      replace h0 : fQ cmp4 rec aA = some r := h0
      exact aJ (aY (aY (bP (aI (⟨rfl, _, .eq (by kernel_rfl), hO, hN, h0⟩)))))
    refine bQ 0 ?_
    refine cU [(0, (.msl 3 lo0p 0 (List.length aA))), (1, (eI a1)), (4, (.fn (.func cmp4_f) cmp4_a cmp4_c)), (10, (eI m2)), (11, (eI b3))] ?_
    refine cO (fun T H => ∃ aA : List aC, ∃ i10 : Int, ∃ j11 : Int, Has T [(0, (.msl 3 lo0p 0 (List.length aA))), (1, (eI a1)), (4, (.fn (.func cmp4_f) cmp4_a cmp4_c)), (10, (eI i10)), (11, (eI j11))] ∧ aP ⟨H0, [lo0p], []⟩ H [(lo0p, 3, List.map aE aA)] ∧ List.length aA = N0 ∧ kD cmp4 rec aA a1 i10 j11 = some r) ?_ ⟨aA, m2, b3, .eq (by kernel_rfl), hO, hN, h0⟩
    clear hO hN h0
    rintro T H ⟨aA, i10, j11, hT, hO, hN, h0⟩
    refine bB hT ?_
    clear hT
    unfold kD at h0
    obtain ⟨rr0, hl0, h0⟩ := aW h0
    refine cF (by kernel_rfl) (fun (s : List aC × Int × Int) T H => Has T [(0, (.msl 3 lo0p 0 (List.length s.1))), (1, (eI a1)), (4, (.fn (.func cmp4_f) cmp4_a cmp4_c)), (10, (eI s.2.1)), (11, (eI s.2.2))] ∧ aP ⟨H0, [lo0p], []⟩ H [(lo0p, 3, List.map aE s.1)] ∧ List.length s.1 = N0) hl0 ⟨.eq (by kernel_rfl), hO, hN⟩ ?_
    clear hO hN
    rintro k0 s out1 T H ⟨hT, hO, hN⟩ h1 ho0
    obtain ⟨aA, i10, j11⟩ := s
    replace h1 : jX cmp4 rec a1 aA i10 j11 = some out1 := h1
    try dsimp only at hT
    refine bB hT ?_
    clear hT
    unfold jX at h1
    refine aQ ?_
    refine aX aG 3 [] [(33, (aK (decide (i10 < j11))))] ?_
    refine bM h1 (fun h1 => ?_) (fun h1 => ?_)
    · refine bN ?_
      refine bF [(0, (.msl 3 lo0p 0 (List.length aA))), (1, (eI a1)), (4, (.fn (.func cmp4_f) cmp4_a cmp4_c)), (10, (eI i10)), (11, (eI j11))] ?_
      refine bQ 1 ?_
      refine aQ ?_
      refine aU aG 7 ?_
      obtain ⟨c44, h1⟩ := bL h1
      refine yR [0 ≤ (1 : Int)] ⟨c44, trivial⟩ ?_
      refine bS [] [(12, (eI (wR (Int.fdiv (IntKind.u64.wrap (wR (i10 + j11))) (2 ^ (min (Int.toNat (1 : Int)) 64))))))] ?_
      refine aQ ?_
      refine kU (kP [49]) aG 11 ?_
      obtain ⟨c45, h1⟩ := bL h1
      refine dK 4 [0 ≤ (wR (Int.fdiv (IntKind.u64.wrap (wR (i10 + j11))) (2 ^ (min (Int.toNat (1 : Int)) 64)))) ∧ (wR (Int.fdiv (IntKind.u64.wrap (wR (i10 + j11))) (2 ^ (min (Int.toNat (1 : Int)) 64)))) < (lN aA)] ⟨c45, trivial⟩ ?_
      refine kT 0 lo0p 3 (0 + Int.toNat (wR (Int.fdiv (IntKind.u64.wrap (wR (i10 + j11))) (2 ^ (min (Int.toNat (1 : Int)) 64))))) (aE (gD aA (wR (Int.fdiv (IntKind.u64.wrap (wR (i10 + j11))) (2 ^ (min (Int.toNat (1 : Int)) 64)))))) (aE (gD aA (wR (Int.fdiv (IntKind.u64.wrap (wR (i10 + j11))) (2 ^ (min (Int.toNat (1 : Int)) 64)))))) (List.map aE aA) hO (cN c45) ?_
      obtain ⟨c46, h1⟩ := bL h1
      refine dK 8 [0 ≤ a1 ∧ a1 < (lN aA)] ⟨c46, trivial⟩ ?_
      refine kT 0 lo0p 3 (0 + Int.toNat a1) (aE (gD aA a1)) (aE (gD aA a1)) (List.map aE aA) hO (cN c46) ?_
      obtain ⟨x47, hx48, h1⟩ := aW h1
      refine xL (cmp4_h (gD aA (wR (Int.fdiv (IntKind.u64.wrap (wR (i10 + j11))) (2 ^ (min (Int.toNat (1 : Int)) 64))))) (gD aA a1) _ hx48) hO ?_
      intro H hO
      refine qO ?_
      refine bS [] [(50, (aK (decide (x47 < (0 : Int)))))] ?_
      refine bM h1 (fun h1 => ?_) (fun h1 => ?_)
      · refine aU aG 3 ?_
        refine bC ?_
        exact aJ (aZ (aI (⟨rfl, _, (oI h1).symm, .eq (by kernel_rfl), hO, hN⟩)))
      refine aU aG 2 ?_
      refine bC ?_
      exact aJ (aZ (aI (⟨rfl, _, (oI h1).symm, .eq (by kernel_rfl), hO, hN⟩)))
    refine eB 0 ?_
    obtain rfl := oI h1
    obtain rfl : _ = rr0 := ho0
    replace h0 : fP cmp4 rec aA a1 i10 = some r := h0
    exact aJ (aY (aY (bP (aI (⟨rfl, _, _, .eq (by kernel_rfl), hO, hN, h0⟩)))))
  refine bN ?_
  exact aJ (aI (⟨rfl, _, .eq (by kernel_rfl), hO, hN, h0⟩))

theorem nK (cmp4_f : Nat) (cmp4_a cmp4_c : List V) (cmp4 : aC → aC → Option Int) (cmp4_h : ∀ a0 a1 r, cmp4 a0 a1 = some r → bU Try.prog cmp4_f (cmp4_a ++ [(aE a0), (aE a1)] ++ cmp4_c) (eI r)) : ∀ (k : Nat) (lo0p : Nat) (aA : (List aC)) (a1 : Int) (m2 : Int) (b3 : Int) (r : List aC), fS cmp4 k aA a1 m2 b3 = some r → kX Try.prog 128 lo0p 3 (List.map aE aA) (List.map aE r) [(.msl 3 lo0p 0 (List.length aA)), (eI a1), (eI m2), (eI b3), (.fn (.func cmp4_f) cmp4_a cmp4_c)] (.tup [])
  | 0, _, _, _, _, _, _, h => by cases h
  | k + 1, lo0p, aA, a1, m2, b3, r, h => sK cmp4_f cmp4_a cmp4_c cmp4 cmp4_h _ (nK cmp4_f cmp4_a cmp4_c cmp4 cmp4_h k) lo0p aA a1 m2 b3 r h

theorem oJ (lo0p : Nat) (aA : (List aC)) (a1 : Int) (m2 : Int) (b3 : Int) (cmp4_f : Nat) (cmp4_a cmp4_c : List V) (cmp4 : aC → aC → Option Int) (cmp4_h : ∀ a0 a1 r, cmp4 a0 a1 = some r → bU Try.prog cmp4_f (cmp4_a ++ [(aE a0), (aE a1)] ++ cmp4_c) (eI r)) (r : List aC) (h0 : eD aA a1 m2 b3 cmp4 = some r) : kX Try.prog 128 lo0p 3 (List.map aE aA) (List.map aE r) [(.msl 3 lo0p 0 (List.length aA)), (eI a1), (eI m2), (eI b3), (.fn (.func cmp4_f) cmp4_a cmp4_c)] (.tup []) := by
  obtain ⟨k, hk⟩ := EJ h0
  exact nK cmp4_f cmp4_a cmp4_c cmp4 cmp4_h k lo0p aA a1 m2 b3 r hk

theorem wH (lo0p : Nat) (aA : (List aC)) (n1 : Int) (cmp2_f : Nat) (cmp2_a cmp2_c : List V) (cmp2 : aC → aC → Option Int) (cmp2_h : ∀ a0 a1 r, cmp2 a0 a1 = some r → bU Try.prog cmp2_f (cmp2_a ++ [(aE a0), (aE a1)] ++ cmp2_c) (eI r)) (r : List aC) (h0 : fA aA n1 cmp2 = some r) : kX Try.prog 99 lo0p 3 (List.map aE aA) (List.map aE r) [(.msl 3 lo0p 0 (List.length aA)), (eI n1), (.fn (.func cmp2_f) cmp2_a cmp2_c)] (.tup []) := by
  intro H0 hl0
  refine cI Try.func99 ?_
  have hO := aP.pS hl0
  clear hl0
  obtain ⟨N0, hN0⟩ : ∃ n, n = List.length aA := ⟨_, rfl⟩
  have hN : List.length aA = N0 := hN0.symm
  unfold fA at h0
  refine aX aG 1 [] [(6, (eI (20 : Int)))] ?_
  refine aX aG 3 [] [(7, (eI (0 : Int))), (8, (eI (20 : Int)))] ?_
  refine dO (fun T H => ∃ aA : List aC, ∃ aO : Int, ∃ a7 : Int, Has T [(0, (.msl 3 lo0p 0 (List.length aA))), (1, (eI n1)), (2, (.fn (.func cmp2_f) cmp2_a cmp2_c)), (6, (eI aO)), (7, (eI a7))] ∧ aP ⟨H0, [lo0p], []⟩ H [(lo0p, 3, List.map aE aA)] ∧ List.length aA = N0 ∧ eS cmp2 aA n1 aO a7 = some r) ?_ ?_
  · clear hO hN h0
    rintro T H ⟨aA, aO, a7, hT, hO, hN, h0⟩
    refine bB hT ?_
    clear hT
    unfold eS at h0
    refine aQ ?_
    refine aU aG 5 ?_
    refine bK 4 ?_
    obtain ⟨x1, hx2, h0⟩ := aW h0
    refine nW [(lo0p, 3, List.map aE x1)] 0 (mU lo0p aA a7 n1 cmp2_f cmp2_a cmp2_c cmp2 cmp2_h _ hx2) hO ?_
    intro H hO hl3
    simp only [List.length_map] at hl3
    replace hN := hl3.trans hN
    refine cH ?_
    refine cS (l := [(0, (.msl 3 lo0p 0 (List.length x1))), (1, (eI n1)), (2, (.fn (.func cmp2_f) cmp2_a cmp2_c)), (6, (eI aO))]) ⟨[(0, (.msl 3 lo0p 0 (List.length aA))), (1, (eI n1)), (2, (.fn (.func cmp2_f) cmp2_a cmp2_c)), (6, (eI aO))], by kernel_rfl, rfl, ⟨aV.eq (by simp [hl3]), aV.refl _, aV.refl _, aV.refl _, trivial⟩⟩ ?_
    refine aJ (aI (?_))
    refine bQ 2 ?_
    refine cU [(0, (.msl 3 lo0p 0 (List.length x1))), (1, (eI n1)), (2, (.fn (.func cmp2_f) cmp2_a cmp2_c)), (6, (eI aO))] ?_
    refine cO (fun T H => ∃ aA : List aC, ∃ aO : Int, Has T [(0, (.msl 3 lo0p 0 (List.length aA))), (1, (eI n1)), (2, (.fn (.func cmp2_f) cmp2_a cmp2_c)), (6, (eI aO))] ∧ aP ⟨H0, [lo0p], []⟩ H [(lo0p, 3, List.map aE aA)] ∧ List.length aA = N0 ∧ gV cmp2 aA n1 aO = some r) ?_ ⟨x1, aO, .eq (by kernel_rfl), hO, hN, h0⟩
    clear hO hN h0
    rintro T H ⟨aA, aO, hT, hO, hN, h0⟩
    refine bB hT ?_
    clear hT
    unfold gV at h0
    obtain ⟨rr0, hl0, h0⟩ := aW h0
    refine cF (by kernel_rfl) (fun (s : List aC × Int) T H => Has T [(0, (.msl 3 lo0p 0 (List.length s.1))), (1, (eI n1)), (2, (.fn (.func cmp2_f) cmp2_a cmp2_c)), (6, (eI s.2))] ∧ aP ⟨H0, [lo0p], []⟩ H [(lo0p, 3, List.map aE s.1)] ∧ List.length s.1 = N0) hl0 ⟨.eq (by kernel_rfl), hO, hN⟩ ?_
    clear hO hN
    rintro k0 s out1 T H ⟨hT, hO, hN⟩ h1 ho0
    obtain ⟨aA, aO⟩ := s
    replace h1 : iI cmp2 n1 aA aO = some out1 := h1
    try dsimp only at hT
    refine bB hT ?_
    clear hT
    unfold iI at h1
    refine aQ ?_
    refine aX aG 3 [] [(30, (aK (decide (aO < n1))))] ?_
    refine bM h1 (fun h1 => ?_) (fun h1 => ?_)
    · refine bN ?_
      refine bF [(0, (.msl 3 lo0p 0 (List.length aA))), (1, (eI n1)), (2, (.fn (.func cmp2_f) cmp2_a cmp2_c)), (6, (eI aO))] ?_
      refine bQ 3 ?_
      refine aX aG 4 [] [(7, (eI (0 : Int))), (8, (eI (wR ((2 : Int) * aO))))] ?_
      refine dO (fun T H => ∃ aA : List aC, ∃ a7 : Int, Has T [(0, (.msl 3 lo0p 0 (List.length aA))), (1, (eI n1)), (2, (.fn (.func cmp2_f) cmp2_a cmp2_c)), (6, (eI aO)), (7, (eI a7))] ∧ aP ⟨H0, [lo0p], []⟩ H [(lo0p, 3, List.map aE aA)] ∧ List.length aA = N0 ∧ eU cmp2 aA n1 aO a7 = some out1) ?_ ?_
      · clear hO hN h1
        rintro T H ⟨aA, a7, hT, hO, hN, h1⟩
        refine bB hT ?_
        clear hT
        unfold eU at h1
        refine dO (fun T H => ∃ aA : List aC, Has T [(0, (.msl 3 lo0p 0 (List.length aA))), (1, (eI n1)), (2, (.fn (.func cmp2_f) cmp2_a cmp2_c)), (6, (eI aO))] ∧ aP ⟨H0, [lo0p], []⟩ H [(lo0p, 3, List.map aE aA)] ∧ List.length aA = N0 ∧ hM cmp2 aA n1 aO = some out1) ?_ ?_
        · clear hO hN h1
          rintro T H ⟨aA, hT, hO, hN, h1⟩
          refine bB hT ?_
          clear hT
          unfold hM at h1
          refine aU aG 3 ?_
          refine bC ?_
          exact aJ (aZ (aI (⟨rfl, _, (oI h1).symm, .eq (by kernel_rfl), hO, hN⟩)))
        refine aX aG 4 [] [(9, (eI (wR (a7 + aO))))] ?_
        refine aX aG 3 [] [(54, (aK (decide ((wR (a7 + aO)) < n1))))] ?_
        refine bM h1 (fun h1 => ?_) (fun h1 => ?_)
        · refine aU aG 6 ?_
          refine bK 5 ?_
          obtain ⟨x6, hx7, h1⟩ := aW h1
          refine nW [(lo0p, 3, List.map aE x6)] 0 (oJ lo0p aA a7 (wR (a7 + aO)) n1 cmp2_f cmp2_a cmp2_c cmp2 cmp2_h _ hx7) hO ?_
          intro H hO hl8
          simp only [List.length_map] at hl8
          replace hN := hl8.trans hN
          refine cH ?_
          refine cS (l := [(0, (.msl 3 lo0p 0 (List.length x6))), (1, (eI n1)), (2, (.fn (.func cmp2_f) cmp2_a cmp2_c)), (6, (eI aO))]) ⟨[(0, (.msl 3 lo0p 0 (List.length aA))), (1, (eI n1)), (2, (.fn (.func cmp2_f) cmp2_a cmp2_c)), (6, (eI aO))], by kernel_rfl, rfl, ⟨aV.eq (by simp [hl8]), aV.refl _, aV.refl _, aV.refl _, trivial⟩⟩ ?_
          exact aJ (aI (⟨rfl, _, .eq (by kernel_rfl), hO, hN, h1⟩))
        refine bN ?_
        exact aJ (aI (⟨rfl, _, .eq (by kernel_rfl), hO, hN, h1⟩))
      refine bQ 4 ?_
      refine cU [(0, (.msl 3 lo0p 0 (List.length aA))), (1, (eI n1)), (2, (.fn (.func cmp2_f) cmp2_a cmp2_c)), (6, (eI aO)), (7, (eI (0 : Int))), (8, (eI (wR ((2 : Int) * aO))))] ?_
      refine cO (fun T H => ∃ aA : List aC, ∃ a7 : Int, ∃ b8 : Int, Has T [(0, (.msl 3 lo0p 0 (List.length aA))), (1, (eI n1)), (2, (.fn (.func cmp2_f) cmp2_a cmp2_c)), (6, (eI aO)), (7, (eI a7)), (8, (eI b8))] ∧ aP ⟨H0, [lo0p], []⟩ H [(lo0p, 3, List.map aE aA)] ∧ List.length aA = N0 ∧ hU cmp2 aA n1 aO a7 b8 = some out1) ?_ ⟨aA, (0 : Int), wR ((2 : Int) * aO), .eq (by kernel_rfl), hO, hN, h1⟩
      clear hO hN h1
      rintro T H ⟨aA, a7, b8, hT, hO, hN, h1⟩
      refine bB hT ?_
      clear hT
      unfold hU at h1
      obtain ⟨rr1, hl1, h1⟩ := aW h1
      refine cF (by kernel_rfl) (fun (s : List aC × Int × Int) T H => Has T [(0, (.msl 3 lo0p 0 (List.length s.1))), (1, (eI n1)), (2, (.fn (.func cmp2_f) cmp2_a cmp2_c)), (6, (eI aO)), (7, (eI s.2.1)), (8, (eI s.2.2))] ∧ aP ⟨H0, [lo0p], []⟩ H [(lo0p, 3, List.map aE s.1)] ∧ List.length s.1 = N0) hl1 ⟨.eq (by kernel_rfl), hO, hN⟩ ?_
      clear hO hN
      rintro k1 s out2 T H ⟨hT, hO, hN⟩ h2 ho1
      obtain ⟨aA, a7, b8⟩ := s
      replace h2 : gT cmp2 n1 aO aA a7 b8 = some out2 := h2
      try dsimp only at hT
      refine bB hT ?_
      clear hT
      unfold gT at h2
      refine aQ ?_
      refine aX aG 3 [] [(35, (aK (decide (b8 ≤ n1))))] ?_
      refine bM h2 (fun h2 => ?_) (fun h2 => ?_)
      · refine bN ?_
        refine bF [(0, (.msl 3 lo0p 0 (List.length aA))), (1, (eI n1)), (2, (.fn (.func cmp2_f) cmp2_a cmp2_c)), (6, (eI aO)), (7, (eI a7)), (8, (eI b8))] ?_
        refine bQ 5 ?_
        refine aQ ?_
        refine aU aG 8 ?_
        refine bK 7 ?_
        obtain ⟨x10, hx11, h2⟩ := aW h2
        refine nW [(lo0p, 3, List.map aE x10)] 0 (oJ lo0p aA a7 (wR (a7 + aO)) b8 cmp2_f cmp2_a cmp2_c cmp2 cmp2_h _ hx11) hO ?_
        intro H hO hl12
        simp only [List.length_map] at hl12
        replace hN := hl12.trans hN
        refine cH ?_
        refine cS (l := [(0, (.msl 3 lo0p 0 (List.length x10))), (1, (eI n1)), (2, (.fn (.func cmp2_f) cmp2_a cmp2_c)), (6, (eI aO)), (8, (eI b8))]) ⟨[(0, (.msl 3 lo0p 0 (List.length aA))), (1, (eI n1)), (2, (.fn (.func cmp2_f) cmp2_a cmp2_c)), (6, (eI aO)), (8, (eI b8))], by kernel_rfl, rfl, ⟨aV.eq (by simp [hl12]), aV.refl _, aV.refl _, aV.refl _, aV.refl _, trivial⟩⟩ ?_
        refine aJ (aI (?_))
        refine aX aG 2 [] [(7, (eI b8))] ?_
        refine aU aG 5 ?_
        refine bC ?_
        exact aJ (aZ (aI (⟨rfl, _, (oI h2).symm, .eq (by kernel_rfl), hO, hN⟩)))
      refine eB 4 ?_
      obtain rfl := oI h2
      obtain rfl : _ = rr1 := ho1
      replace h1 : eU cmp2 aA n1 aO a7 = some out1 := h1
      exact aJ (aY (aY (bP (aI (⟨rfl, _, _, .eq (by kernel_rfl), hO, hN, h1⟩)))))
    refine eB 2 ?_
    obtain rfl := oI h1
    obtain rfl : _ = rr0 := ho0
    replace h0 : some aA = some r := h0
    obtain rfl := oI h0
    exact aJ (aY (aY (bP (qD (x := (.tup [])) (by kernel_rfl) (aV.refl _) ⟨rfl, hO.ext, hO.at 0 (by kernel_rfl), by simp only [List.length_map]; exact hN.trans hN0⟩))))
  refine bQ 0 ?_
  refine cU [(0, (.msl 3 lo0p 0 (List.length aA))), (1, (eI n1)), (2, (.fn (.func cmp2_f) cmp2_a cmp2_c)), (6, (eI (20 : Int))), (7, (eI (0 : Int))), (8, (eI (20 : Int)))] ?_
  refine cO (fun T H => ∃ aA : List aC, ∃ aO : Int, ∃ a7 : Int, ∃ b8 : Int, Has T [(0, (.msl 3 lo0p 0 (List.length aA))), (1, (eI n1)), (2, (.fn (.func cmp2_f) cmp2_a cmp2_c)), (6, (eI aO)), (7, (eI a7)), (8, (eI b8))] ∧ aP ⟨H0, [lo0p], []⟩ H [(lo0p, 3, List.map aE aA)] ∧ List.length aA = N0 ∧ gX cmp2 aA n1 aO a7 b8 = some r) ?_ ⟨aA, (20 : Int), (0 : Int), (20 : Int), .eq (by kernel_rfl), hO, hN, h0⟩
  clear hO hN h0
  rintro T H ⟨aA, aO, a7, b8, hT, hO, hN, h0⟩
  refine bB hT ?_
  clear hT
  unfold gX at h0
  obtain ⟨rr0, hl0, h0⟩ := aW h0
  refine cF (by kernel_rfl) (fun (s : List aC × Int × Int) T H => Has T [(0, (.msl 3 lo0p 0 (List.length s.1))), (1, (eI n1)), (2, (.fn (.func cmp2_f) cmp2_a cmp2_c)), (6, (eI aO)), (7, (eI s.2.1)), (8, (eI s.2.2))] ∧ aP ⟨H0, [lo0p], []⟩ H [(lo0p, 3, List.map aE s.1)] ∧ List.length s.1 = N0) hl0 ⟨.eq (by kernel_rfl), hO, hN⟩ ?_
  clear hO hN
  rintro k0 s out1 T H ⟨hT, hO, hN⟩ h1 ho0
  obtain ⟨aA, a7, b8⟩ := s
  replace h1 : iA cmp2 n1 aO aA a7 b8 = some out1 := h1
  try dsimp only at hT
  refine bB hT ?_
  clear hT
  unfold iA at h1
  refine aQ ?_
  refine aX aG 3 [] [(13, (aK (decide (b8 ≤ n1))))] ?_
  refine bM h1 (fun h1 => ?_) (fun h1 => ?_)
  · refine bN ?_
    refine bF [(0, (.msl 3 lo0p 0 (List.length aA))), (1, (eI n1)), (2, (.fn (.func cmp2_f) cmp2_a cmp2_c)), (6, (eI aO)), (7, (eI a7)), (8, (eI b8))] ?_
    refine bQ 1 ?_
    refine aQ ?_
    refine aU aG 5 ?_
    refine bK 4 ?_
    obtain ⟨x14, hx15, h1⟩ := aW h1
    refine nW [(lo0p, 3, List.map aE x14)] 0 (mU lo0p aA a7 b8 cmp2_f cmp2_a cmp2_c cmp2 cmp2_h _ hx15) hO ?_
    intro H hO hl16
    simp only [List.length_map] at hl16
    replace hN := hl16.trans hN
    refine cH ?_
    refine cS (l := [(0, (.msl 3 lo0p 0 (List.length x14))), (1, (eI n1)), (2, (.fn (.func cmp2_f) cmp2_a cmp2_c)), (6, (eI aO)), (8, (eI b8))]) ⟨[(0, (.msl 3 lo0p 0 (List.length aA))), (1, (eI n1)), (2, (.fn (.func cmp2_f) cmp2_a cmp2_c)), (6, (eI aO)), (8, (eI b8))], by kernel_rfl, rfl, ⟨aV.eq (by simp [hl16]), aV.refl _, aV.refl _, aV.refl _, aV.refl _, trivial⟩⟩ ?_
    refine aJ (aI (?_))
    refine aX aG 2 [] [(7, (eI b8))] ?_
    refine aU aG 4 ?_
    refine bC ?_
    exact aJ (aZ (aI (⟨rfl, _, (oI h1).symm, .eq (by kernel_rfl), hO, hN⟩)))
  refine eB 0 ?_
  obtain rfl := oI h1
  obtain rfl : _ = rr0 := ho0
  replace h0 : eS cmp2 aA n1 aO a7 = some r := h0
  exact aJ (aY (aY (bP (aI (⟨rfl, _, _, _, .eq (by kernel_rfl), hO, hN, h0⟩)))))

theorem qQ (lo0p : Nat) (x0 : (List aC)) (cmp1_f : Nat) (cmp1_a cmp1_c : List V) (cmp1 : aC → aC → Option Int) (cmp1_h : ∀ a0 a1 r, cmp1 a0 a1 = some r → bU Try.prog cmp1_f (cmp1_a ++ [(aE a0), (aE a1)] ++ cmp1_c) (eI r)) (r : List aC) (h0 : cW x0 cmp1 = some r) : kX Try.prog 60 lo0p 3 (List.map aE x0) (List.map aE r) [(.msl 3 lo0p 0 (List.length x0)), (.fn (.func cmp1_f) cmp1_a cmp1_c)] (.tup []) := by
  intro H0 hl0
  refine cI Try.func60 ?_
  have hO := aP.pS hl0
  clear hl0
  obtain ⟨N0, hN0⟩ : ∃ n, n = List.length x0 := ⟨_, rfl⟩
  have hN : List.length x0 = N0 := hN0.symm
  unfold cW at h0
  refine aU aG 5 ?_
  refine bK 4 ?_
  obtain ⟨x1, hx2, h0⟩ := aW h0
  refine nW [(lo0p, 3, List.map aE x1)] 0 (wH lo0p x0 (lN x0) cmp1_f cmp1_a cmp1_c cmp1 cmp1_h _ hx2) hO ?_
  intro H hO hl3
  simp only [List.length_map] at hl3
  replace hN := hl3.trans hN
  refine cH ?_
  refine cS (l := [(0, (.msl 3 lo0p 0 (List.length x1)))]) ⟨[(0, (.msl 3 lo0p 0 (List.length x0)))], by kernel_rfl, rfl, ⟨aV.eq (by simp [hl3]), trivial⟩⟩ ?_
  obtain rfl := oI h0
  exact aJ (qD (x := (.tup [])) (by kernel_rfl) (aV.refl _) ⟨rfl, hO.ext, hO.at 0 (by kernel_rfl), by simp only [List.length_map]; exact hN.trans hN0⟩)

theorem IV (t0 : (List aF)) (r : (Int × (List aF))) (h0 : sQ t0 = some r) : zJ Try.prog 101 [(.rp (eL aL t0))] (fun lo => (.fn (.func 102) [] [(.lp lo 0 0), (.rp (eL aL r.2))])) 1 [(eI r.1)] := by
  intro H0
  refine cI Try.func101 ?_
  have hO := aP.start H0
  unfold sQ at h0
  refine aX aG 1 [] [] ?_
  refine aQ ?_
  refine aU aG 2 ?_
  refine nC 1 (eI 0) (by kernel_rfl) (by kernel_rfl) hO ?_
  intro lo1 H hO
  refine jR 0 lo1 1 0 (eI 0) (eI (-1 : Int)) [(eI 0)] [(lo1, 1, [(eI (-1 : Int))])] hO rfl (by kernel_rfl) ?_
  intro H hO
  refine cH ?_
  refine bS [] [(2, (.lp lo1 0 0))] ?_
  refine aX aG 2 [0] [(1, (.fn (.func 102) [] [(.lp lo1 0 0), (.rp (eL aL t0))]))] ?_
  refine bI ?_
  obtain rfl := oI h0
  exact aJ (pO (x := (.fn (.func 102) [] [(.lp lo1 0 0), (.rp (eL aL t0))])) (by kernel_rfl) (aV.refl _) ⟨lo1, rfl, hO⟩)

theorem sO {σ : Type} (I : σ → Gs → Prop) (s0 : (List aF)) (f1_v : V) (f1 : σ → aF → Option (σ × Bool)) (f1_h : ∀ st a0 st2 r, f1 st a0 = some (st2, r) → GI Try.prog f1_v I st [(aL a0)] st2 (aK r)) (sg0 : σ) (r : (σ × Int)) (h0 : eY s0 f1 sg0 = some r) : zF Try.prog 100 I sg0 [(eL aL s0), f1_v] r.1 (eI r.2) := by
  intro H0 G0 hI hg
  refine cI Try.func100 ?_
  obtain ⟨G, hO, hI⟩ : ∃ G, aP ⟨H0, List.map (fun p : Nat × cT => p.1) G0, G⟩ H0 [] ∧ I sg0 G := ⟨G0, aP.IT hg, hI⟩
  clear hg
  unfold eY at h0
  refine aX aG 1 [] [] ?_
  refine dO (fun T H => ∃ sg : σ, ∃ G : Gs, Has T [] ∧ aP ⟨H0, List.map (fun p : Nat × cT => p.1) G0, G⟩ H [] ∧ I sg G ∧ dG f1 sg = some r) ?_ ?_
  · clear hO hI h0
    rintro T H ⟨sg, G, hT, hO, hI, h0⟩
    refine bB hT ?_
    clear hT
    unfold dG at h0
    refine bY aG 1 [(4, (eI (-1 : Int)))] ?_
    refine bI ?_
    obtain rfl := oI h0
    exact aJ (pO (x := (eI (-1 : Int))) (by kernel_rfl) (aV.refl _) ⟨rfl, G, hI, hO.FL⟩)
  refine aX aG 3 [] [(7, (eI (lN s0))), (8, (eI (0 : Int)))] ?_
  refine bQ 0 ?_
  refine cU [(0, (eL aL s0)), (1, f1_v), (7, (eI (lN s0))), (8, (eI (0 : Int)))] ?_
  refine cO (fun T H => ∃ sg : σ, ∃ t7 : Int, ∃ t8 : Int, ∃ G : Gs, Has T [(0, (eL aL s0)), (1, f1_v), (7, (eI t7)), (8, (eI t8))] ∧ aP ⟨H0, List.map (fun p : Nat × cT => p.1) G0, G⟩ H [] ∧ I sg G ∧ eO f1 sg s0 t7 t8 = some r) ?_ ⟨sg0, (lN s0), (0 : Int), G, .eq (by kernel_rfl), hO, hI, h0⟩
  clear hO hI h0
  rintro T H ⟨sg, t7, t8, G, hT, hO, hI, h0⟩
  refine bB hT ?_
  clear hT
  unfold eO at h0
  obtain ⟨rr0, hl0, h0⟩ := aW h0
  refine cF (by kernel_rfl) (fun (s : σ × Int) T H => ∃ G : Gs, Has T [(0, (eL aL s0)), (1, f1_v), (7, (eI t7)), (8, (eI s.2))] ∧ aP ⟨H0, List.map (fun p : Nat × cT => p.1) G0, G⟩ H [] ∧ I s.1 G) hl0 ⟨G, .eq (by kernel_rfl), hO, hI⟩ ?_
  clear hO hI
  rintro k0 s out1 T H ⟨G, hT, hO, hI⟩ h1 ho0
  obtain ⟨sg, t8⟩ := s
  replace h1 : bT f1 s0 t7 sg t8 = some out1 := h1
  try dsimp only at hT
  refine bB hT ?_
  clear hT
  unfold bT at h1
  refine aX aG 1 [] [(9, (aK (decide (t8 < t7))))] ?_
  refine aQ ?_
  refine bM h1 (fun h1 => ?_) (fun h1 => ?_)
  · refine bN ?_
    refine bF [(0, (eL aL s0)), (1, f1_v), (7, (eI t7)), (8, (eI t8))] ?_
    refine aQ ?_
    refine bQ 1 ?_
    refine aX aG 2 [] [(5, (eI t8))] ?_
    refine aQ ?_
    refine aU aG 6 ?_
    obtain ⟨c2, h1⟩ := bL h1
    refine sL 5 [0 ≤ t8 ∧ t8 < (lN s0)] ⟨c2, trivial⟩ ?_
    obtain ⟨x3, hx4, h1⟩ := aW h1
    refine SW (I := I) f1_v [(aL (gD s0 t8))] (aK x3.2) (by kernel_rfl) (by kernel_rfl) (f1_h _ (gD s0 t8) x3.1 x3.2 hx4) hO hI ?_
    intro G H hO hI
    refine cH ?_
    refine bS [] [(16, (aK x3.2))] ?_
    refine bM h1 (fun h1 => ?_) (fun h1 => ?_)
    · refine bY aG 2 [(4, (eI t8))] ?_
      refine bI ?_
      obtain rfl := oI h1
      obtain rfl : _ = rr0 := ho0
      replace h0 : some (x3.1, t8) = some r := h0
      obtain rfl := oI h0
      exact aJ (bX (bA (bA (bX (bA (pO (x := (eI t8)) (by kernel_rfl) (aV.refl _) ⟨rfl, G, hI, hO.FL⟩))))))
    refine bN ?_
    refine dP [(0, (eL aL s0)), (1, f1_v), (7, (eI t7)), (8, (eI t8))] ?_
    refine aJ (aZ (aI (?_)))
    refine aU aG 2 ?_
    refine bC ?_
    exact aJ (aI (⟨rfl, _, (oI h1).symm, _, .eq (by kernel_rfl), hO, hI⟩))
  refine eB 0 ?_
  obtain rfl := oI h1
  obtain rfl : _ = rr0 := ho0
  replace h0 : dG f1 sg = some r := h0
  exact aJ (aY (aY (bP (aI (⟨rfl, _, _, .eq (by kernel_rfl), hO, hI, h0⟩)))))

theorem GL (v0 : aF) (lo1p : Nat) (t1 : Int) (t2 : (List aF)) (r : (Bool × Int)) (h0 : iU v0 t1 t2 = some r) : kX Try.prog 102 lo1p 1 [(eI t1)] [(eI r.2)] [(aL v0), (.lp lo1p 0 0), (.rp (eL aL t2))] (aK r.1) := by
  intro H0 hl0
  refine cI Try.func102 ?_
  have hO := aP.pS hl0
  clear hl0
  unfold iU at h0
  refine aQ ?_
  refine aU aG 2 ?_
  refine gO 3 (aL v0) (by kernel_rfl) (by kernel_rfl) ?_
  refine bC ?_
  refine bS [0] [(3, (.rp (aL v0)))] ?_
  refine aQ ?_
  refine aU aG 3 ?_
  refine lJ 0 lo1p 1 0 (eI t1) (eI t1) [(eI t1)] hO rfl ?_
  refine bK 2 ?_
  refine jR 0 lo1p 1 0 (eI t1) (eI (wR (t1 + (1 : Int)))) [(eI t1)] [(lo1p, 1, [(eI (wR (t1 + (1 : Int))))])] hO rfl (by kernel_rfl) ?_
  intro H hO
  refine cH ?_
  refine bS [] [] ?_
  refine aQ ?_
  refine kU (kP [7, 8, 11]) aG 7 ?_
  refine uM 2 ?_
  refine kT 0 lo1p 1 0 (eI (wR (t1 + (1 : Int)))) (eI (wR (t1 + (1 : Int)))) [(eI (wR (t1 + (1 : Int))))] hO rfl ?_
  obtain ⟨c1, h0⟩ := bL h0
  refine OB (Ds := [0 ≤ (wR (t1 + (1 : Int))) ∧ (wR (t1 + (1 : Int))) < (lN t2)]) (by kernel_rfl) ⟨c1, trivial⟩ ?_
  refine bF [(1, (.lp lo1p 0 0)), (4, (aK (!((decide (v0.Kind = ((gD t2 (wR (t1 + (1 : Int)))).Kind))) && ((decide (v0.Num = ((gD t2 (wR (t1 + (1 : Int)))).Num))) && ((nX v0.Text ((gD t2 (wR (t1 + (1 : Int)))).Text)) && true))))))] ?_
  refine bI ?_
  obtain rfl := oI h0
  exact aJ (pO (x := (aK (!((decide (v0.Kind = ((gD t2 (wR (t1 + (1 : Int)))).Kind))) && ((decide (v0.Num = ((gD t2 (wR (t1 + (1 : Int)))).Num))) && ((nX v0.Text ((gD t2 (wR (t1 + (1 : Int)))).Text)) && true)))))) (by kernel_rfl) (aV.refl _) ⟨rfl, hO.ext, hO.at 0 (by kernel_rfl), rfl⟩)

theorem AU (x0 : Int) (r : Bool) (h0 : nL x0 = some r) : bU Try.prog 104 [(eI x0)] (aK r) := by
  intro H0
  refine cI Try.func104 ?_
  have hO := aP.start H0
  unfold nL at h0
  refine aX aG 1 [] [] ?_
  refine bY aG 4 [(2, (aK (!decide (x0 = x0))))] ?_
  refine bI ?_
  obtain rfl := oI h0
  exact aJ (Q_r hO)

theorem uJ (x0 : Int) (y1 : Int) (r : Int) (h0 : iV x0 y1 = some r) : bU Try.prog 64 [(eI x0), (eI y1)] (eI r) := by
  intro H0
  refine cI Try.func64 ?_
  have hO := aP.start H0
  unfold iV at h0
  refine aX aG 1 [] [] ?_
  refine aQ ?_
  refine aU aG 3 ?_
  refine bK 1 ?_
  obtain ⟨x1, hx2, h0⟩ := aW h0
  refine cM (AU x0 _ hx2) hO ?_
  intro H hO
  refine bC ?_
  refine bS [] [(5, (aK x1))] ?_
  refine aQ ?_
  refine aU aG 3 ?_
  refine bK 1 ?_
  obtain ⟨x4, hx5, h0⟩ := aW h0
  refine cM (AU y1 _ hx5) hO ?_
  intro H hO
  refine bC ?_
  refine bS [] [(6, (aK x4))] ?_
  refine aQ ?_
  refine aX aG 1 [5] [(11, (aK x1))] ?_
  refine bM h0 (fun h0 => ?_) (fun h0 => ?_)
  · refine aQ ?_
    refine bY aG 1 [(12, (aK x4))] ?_
    refine bM h0 (fun h0 => ?_) (fun h0 => ?_)
    · refine bY aG 1 [(4, (eI (0 : Int)))] ?_
      refine bI ?_
      obtain rfl := oI h0
      exact aJ (bA (bA (Q_r hO)))
    refine bN ?_
    refine bF [] ?_
    refine bY aG 1 [(4, (eI (-1 : Int)))] ?_
    refine bI ?_
    obtain rfl := oI h0
    exact aJ (bA (Q_r hO))
  refine bN ?_
  refine bF [(0, (eI x0)), (1, (eI y1)), (6, (aK x4))] ?_
  refine aQ ?_
  refine aX aG 1 [6] [(13, (aK x4))] ?_
  refine bM h0 (fun h0 => ?_) (fun h0 => ?_)
  · refine bY aG 1 [(4, (eI (1 : Int)))] ?_
    refine bI ?_
    obtain rfl := oI h0
    exact aJ (bA (Q_r hO))
  refine bN ?_
  refine bF [(0, (eI x0)), (1, (eI y1))] ?_
  refine aQ ?_
  refine aX aG 3 [] [(16, (aK (decide (x0 < y1))))] ?_
  refine bM h0 (fun h0 => ?_) (fun h0 => ?_)
  · refine bY aG 1 [(4, (eI (-1 : Int)))] ?_
    refine bI ?_
    obtain rfl := oI h0
    exact aJ (bA (Q_r hO))
  refine bN ?_
  refine bF [(0, (eI x0)), (1, (eI y1))] ?_
  refine aQ ?_
  refine bY aG 3 [(19, (aK (decide (y1 < x0))))] ?_
  refine bM h0 (fun h0 => ?_) (fun h0 => ?_)
  · refine bY aG 1 [(4, (eI (1 : Int)))] ?_
    refine bI ?_
    obtain rfl := oI h0
    exact aJ (bA (Q_r hO))
  refine bN ?_
  refine bF [] ?_
  refine bY aG 1 [(4, (eI (0 : Int)))] ?_
  refine bI ?_
  obtain rfl := oI h0
  exact aJ (Q_r hO)

theorem sZ (x0 : Int) (r : Bool) (h0 : jI x0 = some r) : bU Try.prog 138 [(eI x0)] (aK r) := by
  intro H0
  refine cI Try.func138 ?_
  have hO := aP.start H0
  unfold jI at h0
  refine aX aG 1 [] [] ?_
  refine bY aG 4 [(2, (aK (!decide (x0 = x0))))] ?_
  refine bI ?_
  obtain rfl := oI h0
  exact aJ (Q_r hO)

theorem yP (x0 : Int) (y1 : Int) (r : Int) (h0 : dX x0 y1 = some r) : bU Try.prog 129 [(eI x0), (eI y1)] (eI r) := by
  intro H0
  refine cI Try.func129 ?_
  have hO := aP.start H0
  unfold dX at h0
  refine aX aG 1 [] [] ?_
  refine aQ ?_
  refine aU aG 3 ?_
  refine bK 1 ?_
  obtain ⟨x1, hx2, h0⟩ := aW h0
  refine cM (sZ x0 _ hx2) hO ?_
  intro H hO
  refine bC ?_
  refine bS [] [(5, (aK x1))] ?_
  refine aQ ?_
  refine aU aG 3 ?_
  refine bK 1 ?_
  obtain ⟨x4, hx5, h0⟩ := aW h0
  refine cM (sZ y1 _ hx5) hO ?_
  intro H hO
  refine bC ?_
  refine bS [] [(6, (aK x4))] ?_
  refine aQ ?_
  refine aX aG 1 [5] [(11, (aK x1))] ?_
  refine bM h0 (fun h0 => ?_) (fun h0 => ?_)
  · refine aQ ?_
    refine bY aG 1 [(12, (aK x4))] ?_
    refine bM h0 (fun h0 => ?_) (fun h0 => ?_)
    · refine bY aG 1 [(4, (eI (0 : Int)))] ?_
      refine bI ?_
      obtain rfl := oI h0
      exact aJ (bA (bA (Q_r hO)))
    refine bN ?_
    refine bF [] ?_
    refine bY aG 1 [(4, (eI (-1 : Int)))] ?_
    refine bI ?_
    obtain rfl := oI h0
    exact aJ (bA (Q_r hO))
  refine bN ?_
  refine bF [(0, (eI x0)), (1, (eI y1)), (6, (aK x4))] ?_
  refine aQ ?_
  refine aX aG 1 [6] [(13, (aK x4))] ?_
  refine bM h0 (fun h0 => ?_) (fun h0 => ?_)
  · refine bY aG 1 [(4, (eI (1 : Int)))] ?_
    refine bI ?_
    obtain rfl := oI h0
    exact aJ (bA (Q_r hO))
  refine bN ?_
  refine bF [(0, (eI x0)), (1, (eI y1))] ?_
  refine aQ ?_
  refine aX aG 3 [] [(16, (aK (decide (x0 < y1))))] ?_
  refine bM h0 (fun h0 => ?_) (fun h0 => ?_)
  · refine bY aG 1 [(4, (eI (-1 : Int)))] ?_
    refine bI ?_
    obtain rfl := oI h0
    exact aJ (bA (Q_r hO))
  refine bN ?_
  refine bF [(0, (eI x0)), (1, (eI y1))] ?_
  refine aQ ?_
  refine bY aG 3 [(19, (aK (decide (y1 < x0))))] ?_
  refine bM h0 (fun h0 => ?_) (fun h0 => ?_)
  · refine bY aG 1 [(4, (eI (1 : Int)))] ?_
    refine bI ?_
    obtain rfl := oI h0
    exact aJ (bA (Q_r hO))
  refine bN ?_
  refine bF [] ?_
  refine bY aG 1 [(4, (eI (0 : Int)))] ?_
  refine bI ?_
  obtain rfl := oI h0
  exact aJ (Q_r hO)

theorem vV (a0 : ByteArray) (b1 : ByteArray) (r : Int) (h0 : iD a0 b1 = some r) : bU Try.prog 139 [(xE a0), (xE b1)] (eI r) := by
  intro H0
  refine cI Try.func139 ?_
  have hO := aP.start H0
  unfold iD at h0
  refine aX aG 1 [] [] ?_
  refine aQ ?_
  refine aU aG 4 ?_
  refine bK 2 ?_
  refine aAQ 143 [(xE a0), (xE b1)] (eI (LJ a0 b1)) (by kernel_rfl) (by kernel_rfl) (ZD Try.func143 (by kernel_rfl) (by kernel_rfl) (by kernel_rfl) (by kernel_rfl) a0 b1) hO ?_
  intro H hO
  refine bC ?_
  refine bF [(4, (eI (LJ a0 b1)))] ?_
  refine bI ?_
  obtain rfl := oI h0
  exact aJ (Q_r hO)

theorem GK (a0 : ByteArray) (b1 : ByteArray) (r : Int) (h0 : mF a0 b1 = some r) : bU Try.prog 130 [(xE a0), (xE b1)] (eI r) := by
  intro H0
  refine cI Try.func130 ?_
  have hO := aP.start H0
  unfold mF at h0
  refine aX aG 1 [] [] ?_
  refine aQ ?_
  refine aU aG 4 ?_
  refine bK 2 ?_
  obtain ⟨x1, hx2, h0⟩ := aW h0
  refine cM (vV a0 b1 _ hx2) hO ?_
  intro H hO
  refine bC ?_
  refine bF [(4, (eI x1))] ?_
  refine bI ?_
  obtain rfl := oI h0
  exact aJ (Q_r hO)

theorem JO (a0 : aF) (b1 : aF) (r : Int) (h0 : pP a0 b1 = some r) : bU Try.prog 103 [(aL a0), (aL b1)] (eI r) := by
  intro H0
  refine cI Try.func103 ?_
  have hO := aP.start H0
  unfold pP at h0
  refine aQ ?_
  refine aU aG 3 ?_
  refine gO 3 (aL a0) (by kernel_rfl) (by kernel_rfl) ?_
  refine gO 3 (aL b1) (by kernel_rfl) (by kernel_rfl) ?_
  refine bC ?_
  refine bF [(2, (.rp (aL a0))), (3, (.rp (aL b1)))] ?_
  refine aQ ?_
  refine aU aG 7 ?_
  refine bK 1 ?_
  obtain ⟨⟨x1_0, x1_1⟩, hx2, h0⟩ := aW h0
  refine cM (wP a0 _ hx2) hO ?_
  intro H hO
  rcases x1_0 with _ | y4 | y5
  · replace h0 : ((lC b1).bind fun (x6_0, x6_1) => match x6_0 with | .none_ => (cond ((!x1_1) || (!x6_1)) (some (0 : Int)) (none)) | .k_number y9 => (cond ((!x1_1) || (!x6_1)) (some (0 : Int)) (some (1 : Int))) | .k_words y10 => (cond ((!x1_1) || (!x6_1)) (some (0 : Int)) (none))) = some r := h0
    refine bC ?_
    refine bS [2] [(5, (bD bE.none_)), (6, (aK x1_1))] ?_
    refine aQ ?_
    refine aU aG 7 ?_
    refine bK 1 ?_
    obtain ⟨⟨x6_0, x6_1⟩, hx7, h0⟩ := aW h0
    refine cM (wP b1 _ hx7) hO ?_
    intro H hO
    rcases x6_0 with _ | y9 | y10
    · replace h0 : (cond ((!x1_1) || (!x6_1)) (some (0 : Int)) (none)) = some r := h0
      refine bC ?_
      refine bS [3] [(7, (bD bE.none_)), (8, (aK x6_1))] ?_
      refine aQ ?_
      refine aX aG 6 [6, 8] [(28, (aK ((!x1_1) || (!x6_1))))] ?_
      refine bM h0 (fun h0 => ?_) (fun h0 => ?_)
      · refine bY aG 1 [(4, (eI (0 : Int)))] ?_
        refine bI ?_
        obtain rfl := oI h0
        exact aJ (bA (Q_r hO))
      refine bN ?_
      refine bF [(5, (bD bE.none_)), (7, (bD bE.none_))] ?_
      refine aX aG 7 [] [(9, (eI 0)), (10, (aK false))] ?_
      refine aX aG 7 [] [(11, (eI 0)), (12, (aK false))] ?_
      refine aQ ?_
      refine bQ 0 ?_
      refine aX aG 5 [] [(39, (aK false))] ?_
      refine nP (false) (fun hc12 => ?_) (fun hc12 => ?_)
      · cases hc12
      · refine aX aG 2 [9, 10, 11, 39] [(47, (aK false))] ?_
        refine nP (false) (fun hc13 => ?_) (fun hc13 => ?_)
        · cases hc13
        · refine bY aG 2 [(5, (bD bE.none_)), (7, (bD bE.none_)), (49, (aK false))] ?_
          refine nP (false) (fun hc14 => ?_) (fun hc14 => ?_)
          · cases hc14
          · refine bN ?_
            refine dP [(5, (bD bE.none_)), (7, (bD bE.none_))] ?_
            refine aJ (aZ (aI (?_)))
            refine aQ ?_
            refine kU (kP []) aG 6 ?_
            cases h0
    · replace h0 : (cond ((!x1_1) || (!x6_1)) (some (0 : Int)) (some (1 : Int))) = some r := h0
      refine bC ?_
      refine bS [3] [(7, (bD (bE.k_number y9))), (8, (aK x6_1))] ?_
      refine aQ ?_
      refine aX aG 6 [6, 8] [(28, (aK ((!x1_1) || (!x6_1))))] ?_
      refine bM h0 (fun h0 => ?_) (fun h0 => ?_)
      · refine bY aG 1 [(4, (eI (0 : Int)))] ?_
        refine bI ?_
        obtain rfl := oI h0
        exact aJ (bA (Q_r hO))
      refine bN ?_
      refine bF [(5, (bD bE.none_)), (7, (bD (bE.k_number y9)))] ?_
      refine aX aG 7 [] [(9, (eI 0)), (10, (aK false))] ?_
      refine aX aG 7 [] [(11, (eI y9)), (12, (aK true))] ?_
      refine aQ ?_
      refine bQ 0 ?_
      refine aX aG 5 [] [(39, (aK false))] ?_
      refine nP (false) (fun hc16 => ?_) (fun hc16 => ?_)
      · cases hc16
      · refine aX aG 2 [9, 10, 11, 39] [(47, (aK false))] ?_
        refine nP (false) (fun hc17 => ?_) (fun hc17 => ?_)
        · cases hc17
        · refine bY aG 2 [(5, (bD bE.none_)), (7, (bD (bE.k_number y9))), (49, (aK true))] ?_
          refine nP (true) (fun hc18 => ?_) (fun hc18 => ?_)
          · refine bY aG 1 [(4, (eI (1 : Int)))] ?_
            refine bI ?_
            obtain rfl := oI h0
            exact aJ (bX (bA (Q_r hO)))
          · cases hc18
    · replace h0 : (cond ((!x1_1) || (!x6_1)) (some (0 : Int)) (none)) = some r := h0
      refine bC ?_
      refine bS [3] [(7, (bD (bE.k_words y10))), (8, (aK x6_1))] ?_
      refine aQ ?_
      refine aX aG 6 [6, 8] [(28, (aK ((!x1_1) || (!x6_1))))] ?_
      refine bM h0 (fun h0 => ?_) (fun h0 => ?_)
      · refine bY aG 1 [(4, (eI (0 : Int)))] ?_
        refine bI ?_
        obtain rfl := oI h0
        exact aJ (bA (Q_r hO))
      refine bN ?_
      refine bF [(5, (bD bE.none_)), (7, (bD (bE.k_words y10)))] ?_
      refine aX aG 7 [] [(9, (eI 0)), (10, (aK false))] ?_
      refine aX aG 7 [] [(11, (eI 0)), (12, (aK false))] ?_
      refine aQ ?_
      refine bQ 0 ?_
      refine aX aG 5 [] [(39, (aK false))] ?_
      refine nP (false) (fun hc20 => ?_) (fun hc20 => ?_)
      · cases hc20
      · refine aX aG 2 [9, 10, 11, 39] [(47, (aK false))] ?_
        refine nP (false) (fun hc21 => ?_) (fun hc21 => ?_)
        · cases hc21
        · refine bY aG 2 [(5, (bD bE.none_)), (7, (bD (bE.k_words y10))), (49, (aK false))] ?_
          refine nP (false) (fun hc22 => ?_) (fun hc22 => ?_)
          · cases hc22
          · refine bN ?_
            refine dP [(5, (bD bE.none_)), (7, (bD (bE.k_words y10)))] ?_
            refine aJ (aZ (aI (?_)))
            refine aQ ?_
            refine kU (kP []) aG 6 ?_
            cases h0
  · replace h0 : ((lC b1).bind fun (x23_0, x23_1) => match x23_0 with | .none_ => (cond ((!x1_1) || (!x23_1)) (some (0 : Int)) (some (-1 : Int))) | .k_number y26 => (cond ((!x1_1) || (!x23_1)) (some (0 : Int)) ((dX y4 y26).bind fun x33 => some x33)) | .k_words y27 => (cond ((!x1_1) || (!x23_1)) (some (0 : Int)) (some (-1 : Int)))) = some r := h0
    refine bC ?_
    refine bS [2] [(5, (bD (bE.k_number y4))), (6, (aK x1_1))] ?_
    refine aQ ?_
    refine aU aG 7 ?_
    refine bK 1 ?_
    obtain ⟨⟨x23_0, x23_1⟩, hx24, h0⟩ := aW h0
    refine cM (wP b1 _ hx24) hO ?_
    intro H hO
    rcases x23_0 with _ | y26 | y27
    · replace h0 : (cond ((!x1_1) || (!x23_1)) (some (0 : Int)) (some (-1 : Int))) = some r := h0
      refine bC ?_
      refine bS [3] [(7, (bD bE.none_)), (8, (aK x23_1))] ?_
      refine aQ ?_
      refine aX aG 6 [6, 8] [(28, (aK ((!x1_1) || (!x23_1))))] ?_
      refine bM h0 (fun h0 => ?_) (fun h0 => ?_)
      · refine bY aG 1 [(4, (eI (0 : Int)))] ?_
        refine bI ?_
        obtain rfl := oI h0
        exact aJ (bA (Q_r hO))
      refine bN ?_
      refine bF [(5, (bD (bE.k_number y4))), (7, (bD bE.none_))] ?_
      refine aX aG 7 [] [(9, (eI y4)), (10, (aK true))] ?_
      refine aX aG 7 [] [(11, (eI 0)), (12, (aK false))] ?_
      refine aQ ?_
      refine bQ 0 ?_
      refine aX aG 5 [] [(39, (aK false))] ?_
      refine nP (false) (fun hc29 => ?_) (fun hc29 => ?_)
      · cases hc29
      · refine aX aG 2 [9, 10, 11, 39] [(47, (aK true))] ?_
        refine nP (true) (fun hc30 => ?_) (fun hc30 => ?_)
        · refine bY aG 1 [(4, (eI (-1 : Int)))] ?_
          refine bI ?_
          obtain rfl := oI h0
          exact aJ (bX (bA (Q_r hO)))
        · cases hc30
    · replace h0 : (cond ((!x1_1) || (!x23_1)) (some (0 : Int)) ((dX y4 y26).bind fun x33 => some x33)) = some r := h0
      refine bC ?_
      refine bS [3] [(7, (bD (bE.k_number y26))), (8, (aK x23_1))] ?_
      refine aQ ?_
      refine aX aG 6 [6, 8] [(28, (aK ((!x1_1) || (!x23_1))))] ?_
      refine bM h0 (fun h0 => ?_) (fun h0 => ?_)
      · refine bY aG 1 [(4, (eI (0 : Int)))] ?_
        refine bI ?_
        obtain rfl := oI h0
        exact aJ (bA (Q_r hO))
      refine bN ?_
      refine bF [(5, (bD (bE.k_number y4))), (7, (bD (bE.k_number y26)))] ?_
      refine aX aG 7 [] [(9, (eI y4)), (10, (aK true))] ?_
      refine aX aG 7 [] [(11, (eI y26)), (12, (aK true))] ?_
      refine aQ ?_
      refine bQ 0 ?_
      refine aX aG 5 [] [(39, (aK true))] ?_
      refine nP (true) (fun hc32 => ?_) (fun hc32 => ?_)
      · refine aQ ?_
        refine aU aG 4 ?_
        refine bK 2 ?_
        obtain ⟨x33, hx34, h0⟩ := aW h0
        refine cM (yP y4 y26 _ hx34) hO ?_
        intro H hO
        refine bC ?_
        refine bF [(4, (eI x33))] ?_
        refine bI ?_
        obtain rfl := oI h0
        exact aJ (bX (bA (Q_r hO)))
      · cases hc32
    · replace h0 : (cond ((!x1_1) || (!x23_1)) (some (0 : Int)) (some (-1 : Int))) = some r := h0
      refine bC ?_
      refine bS [3] [(7, (bD (bE.k_words y27))), (8, (aK x23_1))] ?_
      refine aQ ?_
      refine aX aG 6 [6, 8] [(28, (aK ((!x1_1) || (!x23_1))))] ?_
      refine bM h0 (fun h0 => ?_) (fun h0 => ?_)
      · refine bY aG 1 [(4, (eI (0 : Int)))] ?_
        refine bI ?_
        obtain rfl := oI h0
        exact aJ (bA (Q_r hO))
      refine bN ?_
      refine bF [(5, (bD (bE.k_number y4))), (7, (bD (bE.k_words y27)))] ?_
      refine aX aG 7 [] [(9, (eI y4)), (10, (aK true))] ?_
      refine aX aG 7 [] [(11, (eI 0)), (12, (aK false))] ?_
      refine aQ ?_
      refine bQ 0 ?_
      refine aX aG 5 [] [(39, (aK false))] ?_
      refine nP (false) (fun hc37 => ?_) (fun hc37 => ?_)
      · cases hc37
      · refine aX aG 2 [9, 10, 11, 39] [(47, (aK true))] ?_
        refine nP (true) (fun hc38 => ?_) (fun hc38 => ?_)
        · refine bY aG 1 [(4, (eI (-1 : Int)))] ?_
          refine bI ?_
          obtain rfl := oI h0
          exact aJ (bX (bA (Q_r hO)))
        · cases hc38
  · replace h0 : ((lC b1).bind fun (x39_0, x39_1) => match x39_0 with | .none_ => (cond ((!x1_1) || (!x39_1)) (some (0 : Int)) (none)) | .k_number y42 => (cond ((!x1_1) || (!x39_1)) (some (0 : Int)) (some (1 : Int))) | .k_words y43 => (cond ((!x1_1) || (!x39_1)) (some (0 : Int)) ((mF y5 y43).bind fun x56 => some x56))) = some r := h0
    refine bC ?_
    refine bS [2] [(5, (bD (bE.k_words y5))), (6, (aK x1_1))] ?_
    refine aQ ?_
    refine aU aG 7 ?_
    refine bK 1 ?_
    obtain ⟨⟨x39_0, x39_1⟩, hx40, h0⟩ := aW h0
    refine cM (wP b1 _ hx40) hO ?_
    intro H hO
    rcases x39_0 with _ | y42 | y43
    · replace h0 : (cond ((!x1_1) || (!x39_1)) (some (0 : Int)) (none)) = some r := h0
      refine bC ?_
      refine bS [3] [(7, (bD bE.none_)), (8, (aK x39_1))] ?_
      refine aQ ?_
      refine aX aG 6 [6, 8] [(28, (aK ((!x1_1) || (!x39_1))))] ?_
      refine bM h0 (fun h0 => ?_) (fun h0 => ?_)
      · refine bY aG 1 [(4, (eI (0 : Int)))] ?_
        refine bI ?_
        obtain rfl := oI h0
        exact aJ (bA (Q_r hO))
      refine bN ?_
      refine bF [(5, (bD (bE.k_words y5))), (7, (bD bE.none_))] ?_
      refine aX aG 7 [] [(9, (eI 0)), (10, (aK false))] ?_
      refine aX aG 7 [] [(11, (eI 0)), (12, (aK false))] ?_
      refine aQ ?_
      refine bQ 0 ?_
      refine aX aG 5 [] [(39, (aK false))] ?_
      refine nP (false) (fun hc45 => ?_) (fun hc45 => ?_)
      · cases hc45
      · refine aX aG 2 [9, 10, 11, 39] [(47, (aK false))] ?_
        refine nP (false) (fun hc46 => ?_) (fun hc46 => ?_)
        · cases hc46
        · refine bY aG 2 [(5, (bD (bE.k_words y5))), (7, (bD bE.none_)), (49, (aK false))] ?_
          refine nP (false) (fun hc47 => ?_) (fun hc47 => ?_)
          · cases hc47
          · refine bN ?_
            refine dP [(5, (bD (bE.k_words y5))), (7, (bD bE.none_))] ?_
            refine aJ (aZ (aI (?_)))
            refine aQ ?_
            refine kU (kP []) aG 6 ?_
            cases h0
    · replace h0 : (cond ((!x1_1) || (!x39_1)) (some (0 : Int)) (some (1 : Int))) = some r := h0
      refine bC ?_
      refine bS [3] [(7, (bD (bE.k_number y42))), (8, (aK x39_1))] ?_
      refine aQ ?_
      refine aX aG 6 [6, 8] [(28, (aK ((!x1_1) || (!x39_1))))] ?_
      refine bM h0 (fun h0 => ?_) (fun h0 => ?_)
      · refine bY aG 1 [(4, (eI (0 : Int)))] ?_
        refine bI ?_
        obtain rfl := oI h0
        exact aJ (bA (Q_r hO))
      refine bN ?_
      refine bF [(5, (bD (bE.k_words y5))), (7, (bD (bE.k_number y42)))] ?_
      refine aX aG 7 [] [(9, (eI 0)), (10, (aK false))] ?_
      refine aX aG 7 [] [(11, (eI y42)), (12, (aK true))] ?_
      refine aQ ?_
      refine bQ 0 ?_
      refine aX aG 5 [] [(39, (aK false))] ?_
      refine nP (false) (fun hc49 => ?_) (fun hc49 => ?_)
      · cases hc49
      · refine aX aG 2 [9, 10, 11, 39] [(47, (aK false))] ?_
        refine nP (false) (fun hc50 => ?_) (fun hc50 => ?_)
        · cases hc50
        · refine bY aG 2 [(5, (bD (bE.k_words y5))), (7, (bD (bE.k_number y42))), (49, (aK true))] ?_
          refine nP (true) (fun hc51 => ?_) (fun hc51 => ?_)
          · refine bY aG 1 [(4, (eI (1 : Int)))] ?_
            refine bI ?_
            obtain rfl := oI h0
            exact aJ (bX (bA (Q_r hO)))
          · cases hc51
    · replace h0 : (cond ((!x1_1) || (!x39_1)) (some (0 : Int)) ((mF y5 y43).bind fun x56 => some x56)) = some r := h0
      refine bC ?_
      refine bS [3] [(7, (bD (bE.k_words y43))), (8, (aK x39_1))] ?_
      refine aQ ?_
      refine aX aG 6 [6, 8] [(28, (aK ((!x1_1) || (!x39_1))))] ?_
      refine bM h0 (fun h0 => ?_) (fun h0 => ?_)
      · refine bY aG 1 [(4, (eI (0 : Int)))] ?_
        refine bI ?_
        obtain rfl := oI h0
        exact aJ (bA (Q_r hO))
      refine bN ?_
      refine bF [(5, (bD (bE.k_words y5))), (7, (bD (bE.k_words y43)))] ?_
      refine aX aG 7 [] [(9, (eI 0)), (10, (aK false))] ?_
      refine aX aG 7 [] [(11, (eI 0)), (12, (aK false))] ?_
      refine aQ ?_
      refine bQ 0 ?_
      refine aX aG 5 [] [(39, (aK false))] ?_
      refine nP (false) (fun hc53 => ?_) (fun hc53 => ?_)
      · cases hc53
      · refine aX aG 2 [9, 10, 11, 39] [(47, (aK false))] ?_
        refine nP (false) (fun hc54 => ?_) (fun hc54 => ?_)
        · cases hc54
        · refine bY aG 2 [(5, (bD (bE.k_words y5))), (7, (bD (bE.k_words y43))), (49, (aK false))] ?_
          refine nP (false) (fun hc55 => ?_) (fun hc55 => ?_)
          · cases hc55
          · refine bN ?_
            refine dP [(5, (bD (bE.k_words y5))), (7, (bD (bE.k_words y43)))] ?_
            refine aJ (aZ (aI (?_)))
            refine aQ ?_
            refine kU (kP []) aG 6 ?_
            refine uM 4 ?_
            obtain ⟨x56, hx57, h0⟩ := aW h0
            refine xL (GK y5 y43 _ hx57) hO ?_
            intro H hO
            refine qO ?_
            refine bF [(4, (eI x56))] ?_
            refine bI ?_
            obtain rfl := oI h0
            exact aJ (Q_r hO)

theorem DZ (a0 : (List aF)) (b1 : (List aF)) (r : Int) (h0 : pF a0 b1 = some r) : bU Try.prog 63 [(eL aL a0), (eL aL b1)] (eI r) := by
  intro H0
  refine cI Try.func63 ?_
  have hO := aP.start H0
  unfold pF at h0
  refine aQ ?_
  refine aU aG 2 ?_
  refine gO 1 (eL aL b1) (by kernel_rfl) (by kernel_rfl) ?_
  refine bC ?_
  refine bS [1] [(3, (.rp (eL aL b1)))] ?_
  refine aQ ?_
  refine aQ ?_
  refine aU aG 8 ?_
  refine bK 1 ?_
  obtain ⟨x1, hx2, h0⟩ := aW h0
  refine cM (yO a0 _ hx2) hO ?_
  intro H hO
  refine bK 5 ?_
  obtain ⟨x4, hx5, h0⟩ := aW h0
  refine iT [(10, false)] 57 [(eL aL b1)] (aK x4) (!(!x1)) (by kernel_rfl) (by kernel_rfl) (by kernel_rfl) (fun hb6 => (yO b1 _ (kI hx5 hb6))) hO ?_
  intro H hO
  refine bC ?_
  refine bS [] [(14, (aK ((!x1) || (!x4))))] ?_
  refine bM h0 (fun h0 => ?_) (fun h0 => ?_)
  · refine bY aG 1 [(4, (eI (0 : Int)))] ?_
    refine bI ?_
    obtain rfl := oI h0
    exact aJ (bA (Q_r hO))
  refine bN ?_
  refine bF [(0, (eL aL a0)), (3, (.rp (eL aL b1)))] ?_
  refine aX aG 6 [] [(5, (eI (if (lN b1) < (lN a0) then (lN b1) else (lN a0))))] ?_
  refine aQ ?_
  refine kU (kP []) aG 7 ?_
  obtain ⟨c8, h0⟩ := bL h0
  refine dK 4 [0 ≤ (if (lN b1) < (lN a0) then (lN b1) else (lN a0)) ∧ (if (lN b1) < (lN a0) then (lN b1) else (lN a0)) ≤ (lN a0)] ⟨c8, trivial⟩ ?_
  obtain ⟨x9, hx10, h0⟩ := aW h0
  refine aAP (L' := fun lo11 => [(lo11, 1, [(eI x9.1)])]) 1 [(eI x9.1)] 101 [(.rp (eL aL b1))] (fun lo11 => (.fn (.func 102) [] [(.lp lo11 0 0), (.rp (eL aL x9.2))])) (by kernel_rfl) (by kernel_rfl) (IV b1 _ hx10) hO (fun _ => by kernel_rfl) ?_
  intro lo11 H hO
  obtain ⟨x12, hx13, h0⟩ := aW h0
  refine aAw (fun st G' => G' = up [(lo11, 1, [(eI st)])] ++ []) [(lo11, 1, [(eI x12.1)])] x9.1 x12.1 100 [(.sl false (Int.toNat (if (lN b1) < (lN a0) then (lN b1) else (lN a0))) (fun i => aL (List.getD a0 i default))), (.fn (.func 102) [] [(.lp lo11 0 0), (.rp (eL aL x9.2))])] (eI x12.2) (by kernel_rfl) (by kernel_rfl) (zF.sub (as0' := [(eL aL (List.take (Int.toNat (if (lN b1) < (lN a0) then (lN b1) else (lN a0))) a0)), (.fn (.func 102) [] [(.lp lo11 0 0), (.rp (eL aL x9.2))])]) (sO _ (List.take (Int.toNat (if (lN b1) < (lN a0) then (lN b1) else (lN a0))) a0) (.fn (.func 102) [] [(.lp lo11 0 0), (.rp (eL aL x9.2))]) (fun st y0 => (iU y0 st x9.2).bind fun o => some (o.2, o.1)) (fun st y0 st2 rr hr => (GL y0 lo11 st x9.2 _ (aBx hr)).toV (ys := []) (zs := [(aL y0)]) (cs := [(.lp lo11 0 0), (.rp (eL aL x9.2))]) (fun Gx hG => ⟨up [], up [] ++ [], hG, rfl⟩)) _ _ hx13) ⟨aAJ (Int.toNat_le.2 (And.right c8)), aV.refl _, trivial⟩) hO rfl (fun _ h => h) ?_
  intro H hO
  refine qO ?_
  replace hO := hO.pick (L' := []) [] (by decide) (by kernel_rfl)
  refine bS [5] [(6, (eI x12.2))] ?_
  refine aQ ?_
  refine aX aG 2 [] [(27, (aK (decide (x12.2 < (0 : Int)))))] ?_
  refine bM h0 (fun h0 => ?_) (fun h0 => ?_)
  · refine aQ ?_
    refine aU aG 6 ?_
    refine bK 4 ?_
    obtain ⟨x15, hx16, h0⟩ := aW h0
    refine cM (uJ (lN a0) (lN b1) _ hx16) hO ?_
    intro H hO
    refine bC ?_
    refine bF [(4, (eI x15))] ?_
    refine bI ?_
    obtain rfl := oI h0
    exact aJ (bA (Q_r hO))
  refine bN ?_
  refine bF [(0, (eL aL a0)), (3, (.rp (eL aL b1))), (6, (eI x12.2))] ?_
  refine aQ ?_
  refine kU (kP [36, 37, 40, 41]) aG 10 ?_
  obtain ⟨c18, h0⟩ := bL h0
  obtain ⟨c19, h0⟩ := bL h0
  refine dK 8 [0 ≤ x12.2 ∧ x12.2 < (lN a0), 0 ≤ x12.2 ∧ x12.2 < (lN b1)] ⟨c18, c19, trivial⟩ ?_
  obtain ⟨x20, hx21, h0⟩ := aW h0
  refine xL (JO (gD a0 x12.2) (gD b1 x12.2) _ hx21) hO ?_
  intro H hO
  refine qO ?_
  refine bF [(4, (eI x20))] ?_
  refine bI ?_
  obtain rfl := oI h0
  exact aJ (Q_r hO)

theorem OH (wY : (List Int)) (r : Int) (h0 : tH wY = some r) : bU Try.prog 62 [(eL (eI) wY)] (eI r) := by
  intro H0
  refine cI Try.func62 ?_
  have hO := aP.start H0
  unfold tH at h0
  refine aX aG 1 [] [] ?_
  refine aX aG 1 [] [(3, (eI (0 : Int)))] ?_
  refine dO (fun T H => ∃ nG : Int, Has T [(3, (eI nG))] ∧ aP ⟨H0, [], []⟩ H [] ∧ rV nG = some r) ?_ ?_
  · clear hO h0
    rintro T H ⟨nG, hT, hO, h0⟩
    refine bB hT ?_
    clear hT
    unfold rV at h0
    refine bY aG 2 [(2, (eI nG))] ?_
    refine bI ?_
    obtain rfl := oI h0
    exact aJ (Q_r hO)
  refine aX aG 3 [0] [(6, (eL (eI) wY)), (7, (eI (lN wY))), (8, (eI (0 : Int)))] ?_
  refine bQ 0 ?_
  refine cU [(3, (eI (0 : Int))), (6, (eL (eI) wY)), (7, (eI (lN wY))), (8, (eI (0 : Int)))] ?_
  refine cO (fun T H => ∃ nG : Int, ∃ t6 : (List Int), ∃ t7 : Int, ∃ t8 : Int, Has T [(3, (eI nG)), (6, (eL (eI) t6)), (7, (eI t7)), (8, (eI t8))] ∧ aP ⟨H0, [], []⟩ H [] ∧ vB nG t6 t7 t8 = some r) ?_ ⟨(0 : Int), wY, (lN wY), (0 : Int), .eq (by kernel_rfl), hO, h0⟩
  clear hO h0
  rintro T H ⟨nG, t6, t7, t8, hT, hO, h0⟩
  refine bB hT ?_
  clear hT
  unfold vB at h0
  obtain ⟨rr0, hl0, h0⟩ := aW h0
  refine cF (by kernel_rfl) (fun (s : Int) T H => Has T [(3, (eI nG)), (6, (eL (eI) t6)), (7, (eI t7)), (8, (eI s))] ∧ aP ⟨H0, [], []⟩ H []) hl0 ⟨.eq (by kernel_rfl), hO⟩ ?_
  clear hO
  rintro k0 s out1 T H ⟨hT, hO⟩ h1 ho0
  obtain ⟨t8, rfl⟩ : ∃ x, x = s := ⟨_, rfl⟩
  replace h1 : gL nG t6 t7 t8 = some out1 := h1
  refine bB hT ?_
  clear hT
  unfold gL at h1
  refine aX aG 1 [] [(9, (aK (decide (t8 < t7))))] ?_
  refine aQ ?_
  refine bM h1 (fun h1 => ?_) (fun h1 => ?_)
  · refine bN ?_
    refine bF [(3, (eI nG)), (6, (eL (eI) t6)), (7, (eI t7)), (8, (eI t8))] ?_
    refine aQ ?_
    refine bQ 1 ?_
    refine aQ ?_
    refine aU aG 3 ?_
    obtain ⟨c2, h1⟩ := bL h1
    refine yR [0 ≤ t8 ∧ t8 < (lN t6)] ⟨c2, trivial⟩ ?_
    refine bS [] [(5, (eI (gD t6 t8)))] ?_
    refine aX aG 3 [] [(14, (aK (!decide ((gD t6 t8) = nG))))] ?_
    refine bM h1 (fun h1 => ?_) (fun h1 => ?_)
    · refine bY aG 2 [(2, (eI (gD t6 t8)))] ?_
      refine bI ?_
      obtain rfl := oI h1
      obtain rfl : _ = rr0 := ho0
      replace h0 : some (gD t6 t8) = some r := h0
      obtain rfl := oI h0
      exact aJ (bX (bA (bA (bX (bA (Q_r hO))))))
    refine bN ?_
    refine dP [(3, (eI nG)), (6, (eL (eI) t6)), (7, (eI t7)), (8, (eI t8))] ?_
    refine aJ (aZ (aI (?_)))
    refine aU aG 2 ?_
    refine bC ?_
    exact aJ (aI (⟨rfl, _, (oI h1).symm, .eq (by kernel_rfl), hO⟩))
  refine eB 0 ?_
  obtain rfl := oI h1
  obtain rfl : _ = rr0 := ho0
  replace h0 : rV nG = some r := h0
  exact aJ (aY (aY (bP (aI (⟨rfl, _, .eq (by kernel_rfl), hO, h0⟩)))))

theorem NN (x0 : aC) (y1 : aC) (r : Int) (h0 : mQ x0 y1 = some r) : bU Try.prog 61 [(aE x0), (aE y1)] (eI r) := by
  intro H0
  refine cI Try.func61 ?_
  have hO := aP.start H0
  unfold mQ at h0
  refine aQ ?_
  refine aU aG 3 ?_
  refine gO 3 (aE x0) (by kernel_rfl) (by kernel_rfl) ?_
  refine gO 3 (aE y1) (by kernel_rfl) (by kernel_rfl) ?_
  refine bC ?_
  refine bF [(2, (.rp (aE x0))), (3, (.rp (aE y1)))] ?_
  refine aQ ?_
  refine kU (kP [6, 8, 9, 11, 13, 14, 15, 16]) aG 13 ?_
  refine uM 4 ?_
  obtain ⟨x1, hx2, h0⟩ := aW h0
  refine xL (DZ x0.Row y1.Row _ hx2) hO ?_
  intro H hO
  refine uM 9 ?_
  obtain ⟨x4, hx5, h0⟩ := aW h0
  refine xL (uJ x0.At y1.At _ hx5) hO ?_
  intro H hO
  refine OA (xs := [(eI x1), (eI x4)]) (k := 1) (by kernel_rfl) (by kernel_rfl) ?_
  obtain ⟨x7, hx8, h0⟩ := aW h0
  refine TE 62 [(eT [(eI x1), (eI x4)])] (eI x7) (by kernel_rfl) (by kernel_rfl) (bU.sub (OH ([x1, x4]) _ hx8) ⟨BN (l := [x1, x4]), trivial⟩) hO ?_
  intro H hO
  refine qO ?_
  refine bF [(4, (eI x7))] ?_
  refine bI ?_
  obtain rfl := oI h0
  exact aJ (Q_r hO)

theorem BI (l0 : (List aC)) (r : (List aC)) (h0 : oG l0 = some r) : bU Try.prog 105 [(eL aE l0)] (.fn (.func 131) [] [(.rp (eL aE r))]) := by
  intro H0
  refine cI Try.func105 ?_
  have hO := aP.start H0
  unfold oG at h0
  refine aQ ?_
  refine aU aG 2 ?_
  refine gO 1 (eL aE l0) (by kernel_rfl) (by kernel_rfl) ?_
  refine bC ?_
  refine bF [(1, (.rp (eL aE l0)))] ?_
  refine bY aG 2 [(2, (.fn (.func 131) [] [(.rp (eL aE l0))]))] ?_
  refine bI ?_
  obtain rfl := oI h0
  exact aJ (pO (x := (.fn (.func 131) [] [(.rp (eL aE l0))])) (by kernel_rfl) (aV.refl _) ⟨rfl, hO.out⟩)

theorem vU (s10 : (List aF)) (s21 : (List aF)) (r : Bool) (h0 : gY s10 s21 = some r) : bU Try.prog 118 [(eL aL s10), (eL aL s21)] (aK r) := by
  intro H0
  refine cI Try.func118 ?_
  have hO := aP.start H0
  unfold gY at h0
  refine aX aG 1 [] [] ?_
  refine aQ ?_
  refine aX aG 5 [] [(10, (aK (!decide ((lN s10) = (lN s21)))))] ?_
  refine bM h0 (fun h0 => ?_) (fun h0 => ?_)
  · refine bY aG 1 [(4, (aK false))] ?_
    refine bI ?_
    obtain rfl := oI h0
    exact aJ (bA (Q_r hO))
  refine bN ?_
  refine bF [(0, (eL aL s10)), (1, (eL aL s21))] ?_
  refine dO (fun T H => Has T [] ∧ aP ⟨H0, [], []⟩ H [] ∧ eC  = some r) ?_ ?_
  · clear hO h0
    rintro T H ⟨hT, hO, h0⟩
    refine bB hT ?_
    clear hT
    unfold eC at h0
    refine bY aG 1 [(4, (aK true))] ?_
    refine bI ?_
    obtain rfl := oI h0
    exact aJ (Q_r hO)
  refine aX aG 3 [] [(12, (eI (lN s10))), (13, (eI (0 : Int)))] ?_
  refine bQ 0 ?_
  refine cU [(0, (eL aL s10)), (1, (eL aL s21)), (12, (eI (lN s10))), (13, (eI (0 : Int)))] ?_
  refine cO (fun T H => ∃ t12 : Int, ∃ t13 : Int, Has T [(0, (eL aL s10)), (1, (eL aL s21)), (12, (eI t12)), (13, (eI t13))] ∧ aP ⟨H0, [], []⟩ H [] ∧ gN s10 s21 t12 t13 = some r) ?_ ⟨(lN s10), (0 : Int), .eq (by kernel_rfl), hO, h0⟩
  clear hO h0
  rintro T H ⟨t12, t13, hT, hO, h0⟩
  refine bB hT ?_
  clear hT
  unfold gN at h0
  obtain ⟨rr0, hl0, h0⟩ := aW h0
  refine cF (by kernel_rfl) (fun (s : Int) T H => Has T [(0, (eL aL s10)), (1, (eL aL s21)), (12, (eI t12)), (13, (eI s))] ∧ aP ⟨H0, [], []⟩ H []) hl0 ⟨.eq (by kernel_rfl), hO⟩ ?_
  clear hO
  rintro k0 s out1 T H ⟨hT, hO⟩ h1 ho0
  obtain ⟨t13, rfl⟩ : ∃ x, x = s := ⟨_, rfl⟩
  replace h1 : dH s10 s21 t12 t13 = some out1 := h1
  refine bB hT ?_
  clear hT
  unfold dH at h1
  refine aX aG 1 [] [(14, (aK (decide (t13 < t12))))] ?_
  refine aQ ?_
  refine bM h1 (fun h1 => ?_) (fun h1 => ?_)
  · refine bN ?_
    refine bF [(0, (eL aL s10)), (1, (eL aL s21)), (12, (eI t12)), (13, (eI t13))] ?_
    refine aQ ?_
    refine bQ 1 ?_
    refine aX aG 2 [] [(5, (eI t13))] ?_
    refine aQ ?_
    refine kU (kP [19, 23]) aG 9 ?_
    obtain ⟨c3, h1⟩ := bL h1
    obtain ⟨c4, h1⟩ := bL h1
    refine OB (Ds := [0 ≤ t13 ∧ t13 < (lN s10), 0 ≤ t13 ∧ t13 < (lN s21)]) (by kernel_rfl) ⟨c3, c4, trivial⟩ ?_
    refine bS [5] [(24, (aK (!((decide (((gD s10 t13).Kind) = ((gD s21 t13).Kind))) && ((decide (((gD s10 t13).Num) = ((gD s21 t13).Num))) && ((nX ((gD s10 t13).Text) ((gD s21 t13).Text)) && true))))))] ?_
    refine bM h1 (fun h1 => ?_) (fun h1 => ?_)
    · refine bY aG 1 [(4, (aK false))] ?_
      refine bI ?_
      obtain rfl := oI h1
      obtain rfl : _ = rr0 := ho0
      replace h0 : some false = some r := h0
      obtain rfl := oI h0
      exact aJ (bX (bA (bA (bX (bA (Q_r hO))))))
    refine bN ?_
    refine dP [(0, (eL aL s10)), (1, (eL aL s21)), (12, (eI t12)), (13, (eI t13))] ?_
    refine aJ (aZ (aI (?_)))
    refine aU aG 2 ?_
    refine bC ?_
    exact aJ (aI (⟨rfl, _, (oI h1).symm, .eq (by kernel_rfl), hO⟩))
  refine eB 0 ?_
  obtain rfl := oI h1
  obtain rfl : _ = rr0 := ho0
  replace h0 : eC  = some r := h0
  exact aJ (aY (aY (bP (aI (⟨rfl, .eq (by kernel_rfl), hO, h0⟩)))))

theorem IU (a0 : (List aF)) (b1 : (List aF)) (r : Bool) (h0 : uD a0 b1 = some r) : bU Try.prog 78 [(eL aL a0), (eL aL b1)] (aK r) := by
  intro H0
  refine cI Try.func78 ?_
  have hO := aP.start H0
  unfold uD at h0
  refine aX aG 1 [] [] ?_
  refine aQ ?_
  refine aU aG 4 ?_
  refine bK 2 ?_
  obtain ⟨x1, hx2, h0⟩ := aW h0
  refine cM (vU a0 b1 _ hx2) hO ?_
  intro H hO
  refine bC ?_
  refine bF [(4, (aK x1))] ?_
  refine bI ?_
  obtain rfl := oI h0
  exact aJ (Q_r hO)

theorem CZ (r0 : (List aF)) (r : (List aF)) (h0 : rD r0 = some r) : bU Try.prog 80 [(eL aL r0)] (eL aL r) := by
  intro H0
  refine cI Try.func80 ?_
  have hO := aP.start H0
  unfold rD at h0
  refine aX aG 1 [] [] ?_
  refine aQ ?_
  refine aU aG 6 ?_
  refine bK 2 ?_
  obtain ⟨c1, h0⟩ := bL h0
  refine GF 3 32 (lN r0) (by kernel_rfl) (by kernel_rfl) c1 hO ?_
  intro lo2 H hO
  refine bK 4 ?_
  obtain ⟨c4, h0⟩ := bL h0
  refine BY (e := aL) ([] : List aF) r0 0 lo2 3 32 (eL aL r0) (fun lo3 => [(lo3, 3, List.map aL (([] : List aF) ++ r0))]) (by kernel_rfl) (by kernel_rfl) hO (by kernel_rfl) (LI (fun _ => by kernel_rfl)) c4 (fun _ => by kernel_rfl) ?_
  intro lo3 H hO
  refine bC ?_
  refine bF [(2, (.msl 3 lo3 0 (List.length (([] : List aF) ++ r0))))] ?_
  refine bI ?_
  refine dP [(2, (.msl 3 lo3 0 (List.length (([] : List aF) ++ r0))))] ?_
  refine FI (en := aL) (([] : List aF) ++ r0) 0 0 2 3 lo3 (List.length (([] : List aF) ++ r0)) hO (by kernel_rfl) (by kernel_rfl) (by kernel_rfl) (L' := []) (by kernel_rfl) ?_
  intro H5 hO
  obtain rfl := oI h0
  exact aJ (Q_r hO)

theorem wQ {σ : Type} (I : σ → Gs → Prop) (yield0_b : Nat) (eF : σ → (List aF) → (List aB) → Option (σ × Bool)) (yield0_h : ∀ st a0 a1 st2 r, eF st a0 a1 = some (st2, r) → GI Try.prog (yv yield0_b) I st [(eL aL a0), (eL aD a1)] st2 (aK r)) (t1 : (List aC)) (sg0 : σ) (r : σ) (h0 : mD eF t1 sg0 = some r) : zF Try.prog 131 I sg0 [(yv yield0_b), (.rp (eL aE t1))] r (.tup []) := by
  intro H0 G0 hI hg
  refine cI Try.func131 ?_
  obtain ⟨G, hO, hI⟩ : ∃ G, aP ⟨H0, List.map (fun p : Nat × cT => p.1) G0, G⟩ H0 [] ∧ I sg0 G := ⟨G0, aP.IT hg, hI⟩
  clear hg
  unfold mD at h0
  refine aX aG 1 [] [(3, (eI (0 : Int)))] ?_
  refine bQ 0 ?_
  refine cU [(0, (yv yield0_b)), (1, (.rp (eL aE t1))), (3, (eI (0 : Int)))] ?_
  refine cO (fun T H => ∃ sg : σ, ∃ i3 : Int, ∃ G : Gs, Has T [(0, (yv yield0_b)), (1, (.rp (eL aE t1))), (3, (eI i3))] ∧ aP ⟨H0, List.map (fun p : Nat × cT => p.1) G0, G⟩ H [] ∧ I sg G ∧ qW eF sg t1 i3 = some r) ?_ ⟨sg0, (0 : Int), G, .eq (by kernel_rfl), hO, hI, h0⟩
  clear hO hI h0
  rintro T H ⟨sg, i3, G, hT, hO, hI, h0⟩
  refine bB hT ?_
  clear hT
  unfold qW at h0
  obtain ⟨rr0, hl0, h0⟩ := aW h0
  refine cF (by kernel_rfl) (fun (s : σ × Int) T H => ∃ G : Gs, Has T [(0, (yv yield0_b)), (1, (.rp (eL aE t1))), (3, (eI s.2))] ∧ aP ⟨H0, List.map (fun p : Nat × cT => p.1) G0, G⟩ H [] ∧ I s.1 G) hl0 ⟨G, .eq (by kernel_rfl), hO, hI⟩ ?_
  clear hO hI
  rintro k0 s out1 T H ⟨G, hT, hO, hI⟩ h1 ho0
  obtain ⟨sg, i3⟩ := s
  replace h1 : fM eF t1 sg i3 = some out1 := h1
  try dsimp only at hT
  refine bB hT ?_
  clear hT
  unfold fM at h1
  refine aQ ?_
  refine aX aG 4 [] [(9, (aK (decide (i3 < (lN t1)))))] ?_
  refine bM h1 (fun h1 => ?_) (fun h1 => ?_)
  · refine bN ?_
    refine bF [(0, (yv yield0_b)), (1, (.rp (eL aE t1))), (3, (eI i3))] ?_
    refine bQ 1 ?_
    refine aQ ?_
    refine aU aG 6 ?_
    obtain ⟨c2, h1⟩ := bL h1
    refine yR [0 ≤ i3 ∧ i3 < (lN t1)] ⟨c2, trivial⟩ ?_
    refine bS [] [(4, (eL aL ((gD t1 i3).Row)))] ?_
    refine aQ ?_
    refine aU aG 2 ?_
    refine tT (xs := []) (k := 2) (by kernel_rfl) (by kernel_rfl) ?_
    refine bC ?_
    refine bS [] [(5, (.sl true 0 (fun _ => .bad)))] ?_
    refine dO (fun T H => ∃ sg : σ, ∃ i3 : Int, ∃ r4 : (List aF), ∃ f5 : List aB, ∃ lo3 : Nat, ∃ G : Gs, Has T [(0, (yv yield0_b)), (1, (.rp (eL aE t1))), (3, (eI i3)), (4, (eL aL r4)), (5, (.msl 2 lo3 0 (List.length f5)))] ∧ aP ⟨H0, List.map (fun p : Nat × cT => p.1) G0, G⟩ H [(lo3, 2, List.map aD f5)] ∧ I sg G ∧ oU eF sg t1 i3 r4 f5 = some out1) ?_ ?_
    · clear hO hI h1
      rintro T H ⟨sg, i3, r4, f5, lo3, G, hT, hO, hI, h1⟩
      refine bB hT ?_
      clear hT
      unfold oU at h1
      refine aQ ?_
      refine aU aG 6 ?_
      refine yG (e := aD) f5 0 5 2 lo3 (List.length f5) [] (by kernel_rfl) hO (by kernel_rfl) (by kernel_rfl) (by kernel_rfl) (by kernel_rfl) ?_
      intro H hO
      refine bK 2 ?_
      obtain ⟨x7, hx8, h1⟩ := aW h1
      refine cM (CZ r4 _ hx8) hO ?_
      intro H hO
      refine bK 4 ?_
      obtain ⟨x10, hx11, h1⟩ := aW h1
      refine SW (I := I) (yv yield0_b) [(eL aL x7), (eL aD f5)] (aK x10.2) (by kernel_rfl) (by kernel_rfl) (yield0_h _ x7 f5 x10.1 x10.2 hx11) hO hI ?_
      intro G H hO hI
      refine bC ?_
      refine bS [4, 5] [(50, (aK (!x10.2)))] ?_
      refine bM h1 (fun h1 => ?_) (fun h1 => ?_)
      · refine bI ?_
        obtain rfl := oI h1
        obtain rfl : _ = rr0 := ho0
        replace h0 : some x10.1 = some r := h0
        obtain rfl := oI h0
        exact aJ (bX (bA (bX (pO (x := (.tup [])) (by kernel_rfl) (aV.refl _) ⟨rfl, G, hI, hO.FL⟩))))
      refine bN ?_
      exact aJ (aZ (aI (⟨rfl, _, (oI h1).symm, _, .eq (by kernel_rfl), hO, hI⟩)))
    refine bQ 2 ?_
    refine cU [(0, (yv yield0_b)), (1, (.rp (eL aE t1))), (3, (eI i3)), (4, (eL aL ((gD t1 i3).Row))), (5, (.sl true 0 (fun _ => .bad)))] ?_
    refine PM (el := (fun _ => .bad)) 4 5 2 hO (by kernel_rfl) ?_
    intro lo24 H25 hO
    refine cO (fun T H => ∃ sg : σ, ∃ i3 : Int, ∃ r4 : (List aF), ∃ f5 : List aB, ∃ lo14 : Nat, ∃ G : Gs, Has T [(0, (yv yield0_b)), (1, (.rp (eL aE t1))), (3, (eI i3)), (4, (eL aL r4)), (5, (.msl 2 lo14 0 (List.length f5)))] ∧ aP ⟨H0, List.map (fun p : Nat × cT => p.1) G0, G⟩ H [(lo14, 2, List.map aD f5)] ∧ I sg G ∧ qZ eF sg t1 i3 r4 f5 = some out1) ?_ ⟨sg, i3, (gD t1 i3).Row, ([] : List aB), lo24, G, .eq (by kernel_rfl), hO, hI, h1⟩
    clear hO hI h1
    rintro T H ⟨sg, i3, r4, f5, lo14, G, hT, hO, hI, h1⟩
    refine bB hT ?_
    clear hT
    unfold qZ at h1
    obtain ⟨rr1, hl1, h1⟩ := aW h1
    refine cF (by kernel_rfl) (fun (s : σ × Int × List aB) T H => ∃ lo14 : Nat, ∃ G : Gs, Has T [(0, (yv yield0_b)), (1, (.rp (eL aE t1))), (3, (eI s.2.1)), (4, (eL aL r4)), (5, (.msl 2 lo14 0 (List.length s.2.2)))] ∧ aP ⟨H0, List.map (fun p : Nat × cT => p.1) G0, G⟩ H [(lo14, 2, List.map aD s.2.2)] ∧ I s.1 G) hl1 ⟨lo14, G, .eq (by kernel_rfl), hO, hI⟩ ?_
    clear hO hI
    rintro k1 s out2 T H ⟨lo14, G, hT, hO, hI⟩ h2 ho1
    obtain ⟨sg, i3, f5⟩ := s
    replace h2 : iF eF t1 r4 sg i3 f5 = some out2 := h2
    try dsimp only at hT
    refine bB hT ?_
    clear hT
    unfold iF at h2
    refine aQ ?_
    refine aQ ?_
    refine aU aG 13 ?_
    obtain ⟨c15, h2⟩ := bL h2
    refine sL 11 [(((decide (i3 < (lN t1)))) = true → 0 ≤ i3 ∧ i3 < (lN t1))] ⟨c15, trivial⟩ ?_
    obtain ⟨x16, hx17, h2⟩ := aW h2
    refine iT [(20, true)] 78 [(eL aL ((gD t1 i3).Row)), (eL aL r4)] (aK x16) (decide (i3 < (lN t1))) (by kernel_rfl) (by kernel_rfl) (by kernel_rfl) (fun hb18 => (IU ((gD t1 i3).Row) r4 _ (kI hx17 hb18))) hO ?_
    intro H hO
    refine bC ?_
    refine bS [] [(28, (aK ((decide (i3 < (lN t1))) && x16)))] ?_
    refine bM h2 (fun h2 => ?_) (fun h2 => ?_)
    · refine bN ?_
      refine bF [(0, (yv yield0_b)), (1, (.rp (eL aE t1))), (3, (eI i3)), (4, (eL aL r4)), (5, (.msl 2 lo14 0 (List.length f5)))] ?_
      refine aQ ?_
      refine bQ 3 ?_
      refine kU (kP [32, 36, 37, 41, 43]) aG 15 ?_
      obtain ⟨c20, h2⟩ := bL h2
      obtain ⟨c21, h2⟩ := bL h2
      refine dK 12 [0 ≤ i3 ∧ i3 < (lN t1), 0 ≤ i3 ∧ i3 < (lN t1)] ⟨c20, c21, trivial⟩ ?_
      refine OA (xs := [(aD (aB.mk ((gD t1 i3).At) ((gD t1 i3).Net)))]) (k := 2) (by kernel_rfl) (by kernel_rfl) ?_
      obtain ⟨c23, h2⟩ := bL h2
      refine KM (e := aD) f5 ([aB.mk ((gD t1 i3).At) ((gD t1 i3).Net)]) 0 lo14 2 16 (eT [(aD (aB.mk ((gD t1 i3).At) ((gD t1 i3).Net)))]) (fun lo22 => [(lo22, 2, List.map aD (f5 ++ ([aB.mk ((gD t1 i3).At) ((gD t1 i3).Net)])))]) (by kernel_rfl) (by kernel_rfl) hO (by kernel_rfl) (by kernel_rfl) c23 (fun _ => by kernel_rfl) ?_
      intro lo22 H hO
      refine qO ?_
      refine dP [(0, (yv yield0_b)), (1, (.rp (eL aE t1))), (3, (eI i3)), (4, (eL aL r4)), (5, (.msl 2 lo22 0 (List.length (f5 ++ ([aB.mk ((gD t1 i3).At) ((gD t1 i3).Net)])))))] ?_
      refine aJ (aZ (aI (?_)))
      refine aU aG 3 ?_
      refine bC ?_
      exact aJ (aI (⟨rfl, _, (oI h2).symm, _, _, .eq (by kernel_rfl), hO, hI⟩))
    refine eB 2 ?_
    obtain rfl := oI h2
    obtain rfl : _ = rr1 := ho1
    replace h1 : oU eF sg t1 i3 r4 f5 = some out1 := h1
    exact aJ (aY (aY (bP (aI (⟨rfl, _, _, _, _, _, _, .eq (by kernel_rfl), hO, hI, h1⟩)))))
  refine eB 0 ?_
  obtain rfl := oI h1
  obtain rfl : _ = rr0 := ho0
  replace h0 : some sg = some r := h0
  obtain rfl := oI h0
  exact aJ (aY (aY (bP (qD (x := (.tup [])) (by kernel_rfl) (aV.refl _) ⟨rfl, G, hI, hO.FL⟩))))

theorem UG (lo0p : Nat) (l0 : (List aC)) (r1 : (List aF)) (f2 : (List aB)) (r : (List aC)) (h0 : wM l0 r1 f2 = some r) : CI Try.prog 106 lo0p 3 (List.map aE l0) [(.msl 3 lo0p 0 (List.length l0)), (eL aL r1), (eL aD f2)] (fun lo => .msl 3 lo 0 (List.length r)) (List.map aE r) := by
  intro H0 hl0
  refine cI Try.func106 ?_
  have hO := aP.pS hl0
  clear hl0
  unfold wM at h0
  refine aX aG 1 [] [] ?_
  refine dO (fun T H => ∃ l0 : List aC, ∃ lo1 : Nat, Has T [(0, (.msl 3 lo1 0 (List.length l0)))] ∧ aP ⟨H0, [lo0p], []⟩ H [(lo1, 3, List.map aE l0)] ∧ xX l0 = some r) ?_ ?_
  · clear hO h0
    rintro T H ⟨l0, lo1, hT, hO, h0⟩
    refine bB hT ?_
    clear hT
    unfold xX at h0
    refine bY aG 2 [(6, (.msl 3 lo1 0 (List.length l0)))] ?_
    refine bI ?_
    obtain rfl := oI h0
    exact aJ (pO (x := (.msl 3 lo1 0 (List.length l0))) (by kernel_rfl) (aV.refl _) ⟨lo1, rfl, hO⟩)
  refine aX aG 3 [2] [(9, (eL aD f2)), (10, (eI (lN f2))), (11, (eI (0 : Int)))] ?_
  refine bQ 0 ?_
  refine cU [(0, (.msl 3 lo0p 0 (List.length l0))), (1, (eL aL r1)), (9, (eL aD f2)), (10, (eI (lN f2))), (11, (eI (0 : Int)))] ?_
  refine cO (fun T H => ∃ l0 : List aC, ∃ t9 : (List aB), ∃ t10 : Int, ∃ t11 : Int, ∃ lo3 : Nat, Has T [(0, (.msl 3 lo3 0 (List.length l0))), (1, (eL aL r1)), (9, (eL aD t9)), (10, (eI t10)), (11, (eI t11))] ∧ aP ⟨H0, [lo0p], []⟩ H [(lo3, 3, List.map aE l0)] ∧ xW l0 r1 t9 t10 t11 = some r) ?_ ⟨l0, f2, (lN f2), (0 : Int), lo0p, .eq (by kernel_rfl), hO, h0⟩
  clear hO h0
  rintro T H ⟨l0, t9, t10, t11, lo3, hT, hO, h0⟩
  refine bB hT ?_
  clear hT
  unfold xW at h0
  obtain ⟨rr0, hl0, h0⟩ := aW h0
  refine cF (by kernel_rfl) (fun (s : List aC × Int) T H => ∃ lo3 : Nat, Has T [(0, (.msl 3 lo3 0 (List.length s.1))), (1, (eL aL r1)), (9, (eL aD t9)), (10, (eI t10)), (11, (eI s.2))] ∧ aP ⟨H0, [lo0p], []⟩ H [(lo3, 3, List.map aE s.1)]) hl0 ⟨lo3, .eq (by kernel_rfl), hO⟩ ?_
  clear hO
  rintro k0 s out1 T H ⟨lo3, hT, hO⟩ h1 ho0
  obtain ⟨l0, t11⟩ := s
  replace h1 : oK r1 t9 t10 l0 t11 = some out1 := h1
  try dsimp only at hT
  refine bB hT ?_
  clear hT
  unfold oK at h1
  refine aX aG 1 [] [(12, (aK (decide (t11 < t10))))] ?_
  refine aQ ?_
  refine bM h1 (fun h1 => ?_) (fun h1 => ?_)
  · refine bN ?_
    refine bF [(0, (.msl 3 lo3 0 (List.length l0))), (1, (eL aL r1)), (9, (eL aD t9)), (10, (eI t10)), (11, (eI t11))] ?_
    refine aQ ?_
    refine bQ 1 ?_
    refine aQ ?_
    refine aU aG 4 ?_
    obtain ⟨c5, h1⟩ := bL h1
    refine sL 2 [0 ≤ t11 ∧ t11 < (lN t9)] ⟨c5, trivial⟩ ?_
    refine nC 2 (aD (aB.mk 0 0)) (by kernel_rfl) (by kernel_rfl) hO ?_
    intro lo6 H hO
    refine jR 1 lo6 2 0 (aD (aB.mk 0 0)) (aD (gD t9 t11)) [(aD (aB.mk 0 0))] [(lo3, 3, List.map aE l0), (lo6, 2, [(aD (gD t9 t11))])] hO rfl (by kernel_rfl) ?_
    intro H hO
    refine cH ?_
    refine bS [] [(8, (.lp lo6 0 0))] ?_
    refine cU [(0, (.msl 3 lo3 0 (List.length l0))), (1, (eL aL r1)), (8, (.lp lo6 0 0)), (9, (eL aD t9)), (10, (eI t10)), (11, (eI t11))] ?_
    refine LU 2 1 8 2 lo6 (aD (gD t9 t11)) [(lo3, 3, List.map aE l0)] hO (by kernel_rfl) (by kernel_rfl) (by kernel_rfl) ?_
    intro H hO
    refine kU (kP [19, 21, 23]) aG 11 ?_
    refine uM 2 ?_
    obtain ⟨x7, hx8, h1⟩ := aW h1
    refine xL (CZ r1 _ hx8) hO ?_
    intro H hO
    refine uM 8 ?_
    refine OA (xs := [(aE (aC.mk x7 ((gD t9 t11).At) ((gD t9 t11).Net)))]) (k := 3) (by kernel_rfl) (by kernel_rfl) ?_
    obtain ⟨c11, h1⟩ := bL h1
    refine KM (e := aE) l0 ([aC.mk x7 ((gD t9 t11).At) ((gD t9 t11).Net)]) 0 lo3 3 40 (eT [(aE (aC.mk x7 ((gD t9 t11).At) ((gD t9 t11).Net)))]) (fun lo10 => [(lo10, 3, List.map aE (l0 ++ ([aC.mk x7 ((gD t9 t11).At) ((gD t9 t11).Net)])))]) (by kernel_rfl) (by kernel_rfl) hO (by kernel_rfl) (by kernel_rfl) c11 (fun _ => by kernel_rfl) ?_
    intro lo10 H hO
    refine qO ?_
    refine dP [(0, (.msl 3 lo10 0 (List.length (l0 ++ ([aC.mk x7 ((gD t9 t11).At) ((gD t9 t11).Net)]))))), (1, (eL aL r1)), (9, (eL aD t9)), (10, (eI t10)), (11, (eI t11))] ?_
    refine aJ (aZ (aI (?_)))
    refine aU aG 2 ?_
    refine bC ?_
    exact aJ (aI (⟨rfl, _, (oI h1).symm, _, .eq (by kernel_rfl), hO⟩))
  refine eB 0 ?_
  obtain rfl := oI h1
  obtain rfl : _ = rr0 := ho0
  replace h0 : xX l0 = some r := h0
  exact aJ (aY (aY (bP (aI (⟨rfl, _, _, .eq (by kernel_rfl), hO, h0⟩)))))

theorem NB (l0 : (List aC)) (by1_f : Nat) (by1_a by1_c : List V) (by1 : (List aB) → Option ((List aB) × Int)) (by1_h : ∀ a0 r, by1 a0 = some r → bU Try.prog by1_f (by1_a ++ [(eL aD a0)] ++ by1_c) (.tup [(eL aD r.1), (eI r.2)])) (r : ((List aC) × Int)) (h0 : rQ l0 by1 = some r) : bU Try.prog 65 [(eL aE l0), (.fn (.func by1_f) by1_a by1_c)] (.tup [(eL aE r.1), (eI r.2)]) := by
  intro H0
  refine BR aG Try.func65 (by kernel_rfl) (by kernel_rfl) (by kernel_rfl) ?_
  have hO := aP.start H0
  unfold rQ at h0
  refine aQ ?_
  refine aU aG 3 ?_
  refine gO 1 (.fn (.func by1_f) by1_a by1_c) (by kernel_rfl) (by kernel_rfl) ?_
  refine rB 1 (.sl true 0 (fun _ => .bad)) (eL aE ([])) (by kernel_rfl) (by kernel_rfl) (by kernel_rfl) (gP) (by kernel_rfl) (by kernel_rfl) hO ?_
  intro lo1 H hO
  refine nC 1 (eI 0) (by kernel_rfl) (by kernel_rfl) hO ?_
  intro lo2 H hO
  refine cH ?_
  refine bS [1] [(3, (.rp (.fn (.func by1_f) by1_a by1_c))), (4, (.lp lo1 0 0)), (5, (.lp lo2 0 0))] ?_
  refine aQ ?_
  refine aU aG 3 ?_
  refine tT (xs := []) (k := 3) (by kernel_rfl) (by kernel_rfl) ?_
  refine rB 1 (.sl true 0 (fun _ => .bad)) (eL aE ([])) (by kernel_rfl) (by kernel_rfl) (by kernel_rfl) (gP) (by kernel_rfl) (by kernel_rfl) hO ?_
  intro lo3 H hO
  refine aA0 11 3 (fun _ => .bad) (by kernel_rfl) hO (by kernel_rfl) ?_
  intro lo4 H hO
  refine jR 2 lo3 1 0 (eL aE ([])) (.msl 3 lo4 0 (List.length ([] : List aC))) [(eL aE ([]))] [(lo1, 1, [(eL aE ([]))]), (lo2, 1, [(eI 0)]), (lo3, 1, [(.msl 3 lo4 0 (List.length ([] : List aC)))]), (lo4, 3, List.map aE ([] : List aC))] hO rfl (by kernel_rfl) ?_
  intro H hO
  refine cH ?_
  refine bS [] [(6, (.lp lo3 0 0))] ?_
  refine aQ ?_
  refine aQ ?_
  refine aU aG 2 ?_
  refine bK 1 ?_
  obtain ⟨x5, hx6, h0⟩ := aW h0
  refine cM (BI l0 _ hx6) hO ?_
  intro H hO
  refine cH ?_
  refine bS [0] [(13, (.fn (.func 131) [] [(.rp (eL aE x5))]))] ?_
  refine bQ 0 ?_
  refine cU [(3, (.rp (.fn (.func by1_f) by1_a by1_c))), (4, (.lp lo1 0 0)), (5, (.lp lo2 0 0)), (6, (.lp lo3 0 0)), (13, (.fn (.func 131) [] [(.rp (eL aE x5))]))] ?_
  refine cO (fun T H => ∃ t4 : (List aC), ∃ t5 : Int, ∃ out6 : List aC, ∃ kH : (List aC), ∃ lo7 : Nat, Has T [(3, (.rp (.fn (.func by1_f) by1_a by1_c))), (4, (.lp lo1 0 0)), (5, (.lp lo2 0 0)), (6, (.lp lo3 0 0)), (13, (.fn (.func 131) [] [(.rp (eL aE kH))]))] ∧ aP ⟨H0, [], []⟩ H [(lo1, 1, [(eL aE t4)]), (lo2, 1, [(eI t5)]), (lo3, 1, [(.msl 3 lo7 0 (List.length out6))]), (lo7, 3, List.map aE out6)] ∧ tW by1 t4 t5 out6 kH = some r) ?_ ⟨[], 0, ([] : List aC), x5, lo4, .eq (by kernel_rfl), hO, h0⟩
  clear hO h0
  rintro T H ⟨t4, t5, out6, kH, lo7, hT, hO, h0⟩
  refine bB (l := [(3, (.rp (.fn (.func by1_f) by1_a by1_c))), (4, (.lp lo1 0 0)), (5, (.lp lo2 0 0)), (6, (.lp lo3 0 0)), (13, (.fn (.func 131) [] [(.rp (eL aE kH))]))]) hT ?_
  clear hT
  unfold tW at h0
  obtain ⟨o0, hl0, h0⟩ := aW h0
  refine AI (fid := 131) (ys := []) (cs := [(.rp (eL aE kH))]) #[14, 15] (fun (A : xY) (b lL : Nat) (st : ((List aC) × Int × List aC) ⊕ ((List aC) × Int × List aC)) (G' : Gs) => Sum.elim (fun (s : (List aC) × Int × List aC) => ∃ lo7 : Nat, G' = (lL, .raw (jZ b A .ready none)) :: (up [(lo1, 1, [(eL aE s.1)]), (lo2, 1, [(eI s.2.1)]), (lo3, 1, [(.msl 3 lo7 0 (List.length s.2.2))]), (lo7, 3, List.map aE s.2.2)] ++ [])) (fun (s : (List aC) × Int × List aC) => ∃ lo7 : Nat, G' = (lL, .raw (jZ b A .done (some .ret))) :: (up [(lo1, 1, [(eL aE s.1)]), (lo2, 1, [(eI s.2.1)]), (lo3, 1, [(.msl 3 lo7 0 (List.length s.2.2))]), (lo7, 3, List.map aE s.2.2)] ++ [])) st) (.inl (t4, t5, out6)) o0 (.tup []) (by kernel_rfl) (by kernel_rfl) (by kernel_rfl) hO (fun _ _ => ⟨lo7, rfl⟩) ?_ ?_
  · intro b lL
    clear hO h0
    refine wQ _ b (fun st t14 t15 => rnd (fun (s : (List aC) × Int × List aC) => mY by1 kH s.1 s.2.1 s.2.2 t14 t15) st) ?_ kH _ _ hl0
    intro st t14 t15 out1 rr hr
    obtain ⟨s, rfl, h1, rfl⟩ := OD hr
    clear hr
    intro Hr Gr hi hg
    obtain ⟨t4, t5, out6⟩ := s
    dsimp only [Sum.elim_inl] at hi
    obtain ⟨lo7, rfl⟩ := hi
    replace h1 : mY by1 kH t4 t5 out6 t14 t15 = some out1 := h1
    unfold mY at h1
    obtain ⟨E1, hE, hO⟩ := uY hg
    refine uQ (zW (hO.gm 0 _ rfl).2 (by kernel_rfl) (by kernel_rfl) ?_)
    refine cU [(3, (.rp (.fn (.func by1_f) by1_a by1_c))), (4, (.lp lo1 0 0)), (5, (.lp lo2 0 0)), (6, (.lp lo3 0 0)), (13, (.fn (.func 131) [] [(.rp (eL aE kH))])), (14, (eL aL t14)), (15, (eL aD t15))] ?_
    refine aX aG 1 [13, 14] [(7, (eL aL t14))] ?_
    refine aU aG 1 ?_
    refine bC ?_
    refine dP [(3, (.rp (.fn (.func by1_f) by1_a by1_c))), (4, (.lp lo1 0 0)), (5, (.lp lo2 0 0)), (6, (.lp lo3 0 0)), (7, (eL aL t14)), (8, (eL aD t15))] ?_
    refine aJ (⟨rfl, rfl, (hO.gm 0 _ rfl).2, ?_⟩)
    intro o1 ho1
    replace hO := hO.uG o1
    refine bQ 1 ?_
    refine aQ ?_
    refine aU aG 8 ?_
    refine bK 2 ?_
    obtain ⟨x8, hx9, h1⟩ := aW h1
    refine cM (by1_h t15 _ hx9) hO ?_
    intro H hO
    refine bC ?_
    refine bS [3, 8] [(9, (eL aD x8.1)), (10, (eI x8.2))] ?_
    refine aQ ?_
    refine aX aG 2 [] [(23, (aK (!decide (x8.2 = (0 : Int)))))] ?_
    refine bM h1 (fun h1 => ?_) (fun h1 => ?_)
    · refine aQ ?_
      refine aU aG 3 ?_
      refine bK 1 ?_
      refine jR 0 lo1 1 0 (eL aE t4) (.sl true 0 (fun _ => .bad)) [(eL aE t4)] [(lo1, 1, [(.sl true 0 (fun _ => .bad))]), (lo2, 1, [(eI t5)]), (lo3, 1, [(.msl 3 lo7 0 (List.length out6))]), (lo7, 3, List.map aE out6)] hO rfl (by kernel_rfl) ?_
      intro H hO
      refine jR 1 lo2 1 0 (eI t5) (eI x8.2) [(eI t5)] [(lo1, 1, [(.sl true 0 (fun _ => .bad))]), (lo2, 1, [(eI x8.2)]), (lo3, 1, [(.msl 3 lo7 0 (List.length out6))]), (lo7, 3, List.map aE out6)] hO rfl (by kernel_rfl) ?_
      intro H hO
      refine cH ?_
      refine ID 0 lo1 1 (.sl true 0 (fun _ => .bad)) (eL aE ([])) [(lo1, 1, [(eL aE ([]))]), (lo2, 1, [(eI x8.2)]), (lo3, 1, [(.msl 3 lo7 0 (List.length out6))]), (lo7, 3, List.map aE out6)] hO (by kernel_rfl) (by kernel_rfl) gP (by kernel_rfl) ?_
      intro H hO
      refine bF [(4, (.lp lo1 0 0)), (5, (.lp lo2 0 0)), (6, (.lp lo3 0 0))] ?_
      refine bI ?_
      refine dP [(4, (.lp lo1 0 0)), (5, (.lp lo2 0 0)), (6, (.lp lo3 0 0))] ?_
      obtain rfl := oI h1
      exact aJ (bA (bX (⟨(fR hO hE ho1 .dead).1, rfl, _, ⟨lo7, rfl⟩, (fR hO hE ho1 _).2⟩)))
    refine bN ?_
    refine bF [(4, (.lp lo1 0 0)), (5, (.lp lo2 0 0)), (6, (.lp lo3 0 0)), (7, (eL aL t14)), (9, (eL aD x8.1))] ?_
    refine aQ ?_
    refine aU aG 5 ?_
    refine lJ 2 lo3 1 0 (.msl 3 lo7 0 (List.length out6)) (.msl 3 lo7 0 (List.length out6)) [(.msl 3 lo7 0 (List.length out6))] hO rfl ?_
    refine bK 3 ?_
    obtain ⟨x12, hx13, h1⟩ := aW h1
    refine aAm (L' := fun lo14 => [(lo1, 1, [(eL aE t4)]), (lo2, 1, [(eI t5)]), (lo3, 1, [(.msl 3 lo7 0 (List.length out6))]), (lo14, 3, List.map aE x12)]) 3 lo7 3 (List.map aE out6) (List.map aE x12) 106 [(.msl 3 lo7 0 (List.length out6)), (eL aL t14), (eL aD x8.1)] (fun lo14 => (.msl 3 lo14 0 (List.length x12))) (by kernel_rfl) (by kernel_rfl) (UG lo7 out6 t14 x8.1 _ hx13) hO (by kernel_rfl) (fun _ => by kernel_rfl) ?_
    intro lo14 H hO
    refine jR 2 lo3 1 0 (.msl 3 lo7 0 (List.length out6)) (.msl 3 lo14 0 (List.length x12)) [(.msl 3 lo7 0 (List.length out6))] [(lo1, 1, [(eL aE t4)]), (lo2, 1, [(eI t5)]), (lo3, 1, [(.msl 3 lo14 0 (List.length x12))]), (lo14, 3, List.map aE x12)] hO rfl (by kernel_rfl) ?_
    intro H hO
    refine cH ?_
    refine bS [7, 9] [] ?_
    refine aQ ?_
    refine aU aG 3 ?_
    refine lJ 2 lo3 1 0 (.msl 3 lo14 0 (List.length x12)) (.msl 3 lo14 0 (List.length x12)) [(.msl 3 lo14 0 (List.length x12))] hO rfl ?_
    refine bC ?_
    refine bS [] [(31, (aK (decide ((4096 : Int) < (lN x12)))))] ?_
    refine bM h1 (fun h1 => ?_) (fun h1 => ?_)
    · refine aQ ?_
      refine aU aG 2 ?_
      refine jR 0 lo1 1 0 (eL aE t4) (.sl true 0 (fun _ => .bad)) [(eL aE t4)] [(lo1, 1, [(.sl true 0 (fun _ => .bad))]), (lo2, 1, [(eI t5)]), (lo3, 1, [(.msl 3 lo14 0 (List.length x12))]), (lo14, 3, List.map aE x12)] hO rfl (by kernel_rfl) ?_
      intro H hO
      refine jR 1 lo2 1 0 (eI t5) (eI (7 : Int)) [(eI t5)] [(lo1, 1, [(.sl true 0 (fun _ => .bad))]), (lo2, 1, [(eI (7 : Int))]), (lo3, 1, [(.msl 3 lo14 0 (List.length x12))]), (lo14, 3, List.map aE x12)] hO rfl (by kernel_rfl) ?_
      intro H hO
      refine cH ?_
      refine ID 0 lo1 1 (.sl true 0 (fun _ => .bad)) (eL aE ([])) [(lo1, 1, [(eL aE ([]))]), (lo2, 1, [(eI (7 : Int))]), (lo3, 1, [(.msl 3 lo14 0 (List.length x12))]), (lo14, 3, List.map aE x12)] hO (by kernel_rfl) (by kernel_rfl) gP (by kernel_rfl) ?_
      intro H hO
      refine bF [(4, (.lp lo1 0 0)), (5, (.lp lo2 0 0)), (6, (.lp lo3 0 0))] ?_
      refine bI ?_
      refine dP [(4, (.lp lo1 0 0)), (5, (.lp lo2 0 0)), (6, (.lp lo3 0 0))] ?_
      obtain rfl := oI h1
      exact aJ (bX (⟨(fR hO hE ho1 .dead).1, rfl, _, ⟨lo14, rfl⟩, (fR hO hE ho1 _).2⟩))
    refine bN ?_
    refine dP [(4, (.lp lo1 0 0)), (5, (.lp lo2 0 0)), (6, (.lp lo3 0 0))] ?_
    obtain rfl := oI h1
    exact aJ (aZ (⟨(fR hO hE ho1 .dead).1, rfl, _, ⟨lo14, rfl⟩, (fR hO hE ho1 _).2⟩))
  · intro b lD16 lL H' G' hi hO
    rcases o0 with s | s
    · dsimp only [Sum.elim_inl] at hi
      obtain ⟨lo7, rfl⟩ := hi
      replace h0 : (some (s.2.2, (0 : Int))) = some r := h0
      obtain ⟨hlL, hO⟩ := pN hO
      refine ⟨_, _, hlL, (by intro e; cases e), ?_⟩
      refine dP [(4, (.lp lo1 0 0)), (5, (.lp lo2 0 0)), (6, (.lp lo3 0 0))] ?_
      refine aJ (aZ (aI (?_)))
      refine aQ ?_
      refine UI (e := aE) s.2.2 2 3 1 3 lo3 lo7 (List.length s.2.2) [(lo1, 1, [(eL aE s.1)]), (lo2, 1, [(eI s.2.1)]), (lo3, 1, [(eL aE s.2.2)])] hO (by kernel_rfl) (by kernel_rfl) (by kernel_rfl) (.inr (by decide)) (by kernel_rfl) ?_
      intro H hO
      refine aU aG 3 ?_
      refine lJ 2 lo3 1 0 (eL aE s.2.2) (eL aE s.2.2) [(eL aE s.2.2)] hO rfl ?_
      refine jR 0 lo1 1 0 (eL aE s.1) (eL aE s.2.2) [(eL aE s.1)] [(lo1, 1, [(eL aE s.2.2)]), (lo2, 1, [(eI s.2.1)]), (lo3, 1, [(eL aE s.2.2)])] hO rfl (by kernel_rfl) ?_
      intro H hO
      refine jR 1 lo2 1 0 (eI s.2.1) (eI (0 : Int)) [(eI s.2.1)] [(lo1, 1, [(eL aE s.2.2)]), (lo2, 1, [(eI (0 : Int))]), (lo3, 1, [(eL aE s.2.2)])] hO rfl (by kernel_rfl) ?_
      intro H hO
      refine cH ?_
      replace hO := hO.pick (L' := [(lo1, 1, [(eL aE s.2.2)]), (lo2, 1, [(eI (0 : Int))])]) [0, 1] (by decide) (by kernel_rfl)
      refine bS [6] [] ?_
      refine bI ?_
      obtain rfl := oI h0
      have hD := (hO.gm 0 _ rfl).2
      replace hO := (hO.uG .dead).tX
      exact aJ (QM1 (.inr rfl) hD (rs := [.cell 4 45, .cell 5 24]) (xs := [(eL aE s.2.2), (eI (0 : Int))]) (x := (.tup [(eL aE s.2.2), (eI (0 : Int))])) (by kernel_rfl) (wE (lo := lo1) (k := 1) (y := (eL aE s.2.2)) (x := (eL aE s.2.2)) 0 hO (by kernel_rfl) (by kernel_rfl) (by kernel_rfl) (by kernel_rfl) (wE (lo := lo2) (k := 1) (y := (eI (0 : Int))) (x := (eI (0 : Int))) 1 hO (by kernel_rfl) (by kernel_rfl) (by kernel_rfl) (by kernel_rfl) qG)) (by kernel_rfl) ⟨rfl, hO.out⟩)
    · dsimp only [Sum.elim_inr] at hi
      obtain ⟨lo7, rfl⟩ := hi
      replace h0 : (some (s.1, s.2.1)) = some r := h0
      obtain ⟨hlL, hO⟩ := pN hO
      refine ⟨_, _, hlL, (by intro e; cases e), ?_⟩
      refine bI ?_
      replace hO := hO.pick (L' := [(lo1, 1, [(eL aE s.1)]), (lo2, 1, [(eI s.2.1)])]) [0, 1] (by decide) (by kernel_rfl)
      obtain rfl := oI h0
      have hD := (hO.gm 0 _ rfl).2
      replace hO := (hO.uG .dead).tX
      exact aJ (bX (bA (QM1 (.inr rfl) hD (rs := [.cell 4 45, .cell 5 24]) (xs := [(eL aE s.1), (eI s.2.1)]) (x := (.tup [(eL aE s.1), (eI s.2.1)])) (by kernel_rfl) (wE (lo := lo1) (k := 1) (y := (eL aE s.1)) (x := (eL aE s.1)) 0 hO (by kernel_rfl) (by kernel_rfl) (by kernel_rfl) (by kernel_rfl) (wE (lo := lo2) (k := 1) (y := (eI s.2.1)) (x := (eI s.2.1)) 1 hO (by kernel_rfl) (by kernel_rfl) (by kernel_rfl) (by kernel_rfl) qG)) (by kernel_rfl) ⟨rfl, hO.out⟩)))

theorem tQ (s0 : (List aB)) (f1_f : Nat) (f1_a f1_c : List V) (f1 : aB → Option Bool) (f1_h : ∀ a0 r, f1 a0 = some r → bU Try.prog f1_f (f1_a ++ [(aD a0)] ++ f1_c) (aK r)) (r : Int) (h0 : fL s0 f1 = some r) : bU Try.prog 132 [(eL aD s0), (.fn (.func f1_f) f1_a f1_c)] (eI r) := by
  intro H0
  refine cI Try.func132 ?_
  have hO := aP.start H0
  unfold fL at h0
  refine aX aG 1 [] [] ?_
  refine dO (fun T H => Has T [] ∧ aP ⟨H0, [], []⟩ H [] ∧ dN f1  = some r) ?_ ?_
  · clear hO h0
    rintro T H ⟨hT, hO, h0⟩
    refine bB hT ?_
    clear hT
    unfold dN at h0
    refine bY aG 1 [(4, (eI (-1 : Int)))] ?_
    refine bI ?_
    obtain rfl := oI h0
    exact aJ (Q_r hO)
  refine aX aG 3 [] [(7, (eI (lN s0))), (8, (eI (0 : Int)))] ?_
  refine bQ 0 ?_
  refine cU [(0, (eL aD s0)), (1, (.fn (.func f1_f) f1_a f1_c)), (7, (eI (lN s0))), (8, (eI (0 : Int)))] ?_
  refine cO (fun T H => ∃ t7 : Int, ∃ t8 : Int, Has T [(0, (eL aD s0)), (1, (.fn (.func f1_f) f1_a f1_c)), (7, (eI t7)), (8, (eI t8))] ∧ aP ⟨H0, [], []⟩ H [] ∧ fI f1 s0 t7 t8 = some r) ?_ ⟨(lN s0), (0 : Int), .eq (by kernel_rfl), hO, h0⟩
  clear hO h0
  rintro T H ⟨t7, t8, hT, hO, h0⟩
  refine bB hT ?_
  clear hT
  unfold fI at h0
  obtain ⟨rr0, hl0, h0⟩ := aW h0
  refine cF (by kernel_rfl) (fun (s : Int) T H => Has T [(0, (eL aD s0)), (1, (.fn (.func f1_f) f1_a f1_c)), (7, (eI t7)), (8, (eI s))] ∧ aP ⟨H0, [], []⟩ H []) hl0 ⟨.eq (by kernel_rfl), hO⟩ ?_
  clear hO
  rintro k0 s out1 T H ⟨hT, hO⟩ h1 ho0
  obtain ⟨t8, rfl⟩ : ∃ x, x = s := ⟨_, rfl⟩
  replace h1 : fE f1 s0 t7 t8 = some out1 := h1
  refine bB hT ?_
  clear hT
  unfold fE at h1
  refine aX aG 1 [] [(9, (aK (decide (t8 < t7))))] ?_
  refine aQ ?_
  refine bM h1 (fun h1 => ?_) (fun h1 => ?_)
  · refine bN ?_
    refine bF [(0, (eL aD s0)), (1, (.fn (.func f1_f) f1_a f1_c)), (7, (eI t7)), (8, (eI t8))] ?_
    refine aQ ?_
    refine bQ 1 ?_
    refine aX aG 2 [] [(5, (eI t8))] ?_
    refine aQ ?_
    refine aU aG 6 ?_
    obtain ⟨c2, h1⟩ := bL h1
    refine sL 5 [0 ≤ t8 ∧ t8 < (lN s0)] ⟨c2, trivial⟩ ?_
    obtain ⟨x3, hx4, h1⟩ := aW h1
    refine cM (f1_h (gD s0 t8) _ hx4) hO ?_
    intro H hO
    refine cH ?_
    refine bS [] [(16, (aK x3))] ?_
    refine bM h1 (fun h1 => ?_) (fun h1 => ?_)
    · refine bY aG 2 [(4, (eI t8))] ?_
      refine bI ?_
      obtain rfl := oI h1
      obtain rfl : _ = rr0 := ho0
      replace h0 : some t8 = some r := h0
      obtain rfl := oI h0
      exact aJ (bX (bA (bA (bX (bA (Q_r hO))))))
    refine bN ?_
    refine dP [(0, (eL aD s0)), (1, (.fn (.func f1_f) f1_a f1_c)), (7, (eI t7)), (8, (eI t8))] ?_
    refine aJ (aZ (aI (?_)))
    refine aU aG 2 ?_
    refine bC ?_
    exact aJ (aI (⟨rfl, _, (oI h1).symm, .eq (by kernel_rfl), hO⟩))
  refine eB 0 ?_
  obtain rfl := oI h1
  obtain rfl : _ = rr0 := ho0
  replace h0 : dN f1  = some r := h0
  exact aJ (aY (aY (bP (aI (⟨rfl, .eq (by kernel_rfl), hO, h0⟩)))))

theorem mN (s0 : (List aB)) (f1_f : Nat) (f1_a f1_c : List V) (f1 : aB → Option Bool) (f1_h : ∀ a0 r, f1 a0 = some r → bU Try.prog f1_f (f1_a ++ [(aD a0)] ++ f1_c) (aK r)) (r : Bool) (h0 : cQ s0 f1 = some r) : bU Try.prog 107 [(eL aD s0), (.fn (.func f1_f) f1_a f1_c)] (aK r) := by
  intro H0
  refine cI Try.func107 ?_
  have hO := aP.start H0
  unfold cQ at h0
  refine aX aG 1 [] [] ?_
  refine aQ ?_
  refine aU aG 5 ?_
  refine bK 2 ?_
  obtain ⟨x1, hx2, h0⟩ := aW h0
  refine cM (tQ s0 f1_f f1_a f1_c f1 f1_h _ hx2) hO ?_
  intro H hO
  refine bC ?_
  refine bF [(4, (aK (decide ((0 : Int) ≤ x1))))] ?_
  refine bI ?_
  obtain rfl := oI h0
  exact aJ (Q_r hO)

theorem HE (n0 : Int) (r : Bool) (h0 : uS n0 = some r) : bU Try.prog 109 [(eI n0)] (aK r) := by
  intro H0
  refine cI Try.func109 ?_
  have hO := aP.start H0
  unfold uS at h0
  refine aX aG 1 [] [] ?_
  refine bY aG 7 [(2, (aK ((decide (n0 ≤ (1048576 : Int))) && (decide ((-1048576 : Int) ≤ n0)))))] ?_
  refine bI ?_
  obtain rfl := oI h0
  exact aJ (Q_r hO)

theorem NC (j0 : aB) (r : Bool) (h0 : rF j0 = some r) : bU Try.prog 108 [(aD j0)] (aK r) := by
  intro H0
  refine cI Try.func108 ?_
  have hO := aP.start H0
  unfold rF at h0
  refine aQ ?_
  refine aU aG 2 ?_
  refine gO 2 (aD j0) (by kernel_rfl) (by kernel_rfl) ?_
  refine bC ?_
  refine bF [(1, (.rp (aD j0)))] ?_
  refine aQ ?_
  refine aU aG 5 ?_
  refine bK 2 ?_
  obtain ⟨x1, hx2, h0⟩ := aW h0
  refine cM (HE j0.Net _ hx2) hO ?_
  intro H hO
  refine bC ?_
  refine bF [(2, (aK (!x1)))] ?_
  refine bI ?_
  obtain rfl := oI h0
  exact aJ (Q_r hO)

theorem MZ (j0 : aB) (r : Bool) (h0 : sD j0 = some r) : bU Try.prog 110 [(aD j0)] (aK r) := by
  intro H0
  refine cI Try.func110 ?_
  have hO := aP.start H0
  unfold sD at h0
  refine aQ ?_
  refine aU aG 2 ?_
  refine gO 2 (aD j0) (by kernel_rfl) (by kernel_rfl) ?_
  refine bC ?_
  refine bF [(1, (.rp (aD j0)))] ?_
  refine bY aG 9 [(2, (aK ((decide (j0.At < (-1 : Int))) || (decide ((1125899906842624 : Int) < j0.At)))))] ?_
  refine bI ?_
  obtain rfl := oI h0
  exact aJ (Q_r hO)

theorem vX (s0 : (List aB)) (r : (List aB)) (h0 : eV s0 = some r) : zJ Try.prog 111 [(eL aD s0)] (fun lo => (.msl 2 lo 0 (List.length r))) 2 (List.map aD r) := by
  intro H0
  refine cI Try.func111 ?_
  have hO := aP.start H0
  unfold eV at h0
  refine aX aG 1 [] [] ?_
  refine aQ ?_
  refine aQ ?_
  refine aU aG 2 ?_
  refine bK 1 ?_
  refine aAi false (List.length s0) (fun i => aD (List.getD s0 i default)) (by kernel_rfl) (by kernel_rfl) ?_
  intro b1 hn2
  refine cH ?_
  refine bS [] [(4, (aK b1))] ?_
  refine nP (b1) (fun hc3 => ?_) (fun hc3 => ?_)
  · replace h0 : some ([] : List aB) = some r := by
      have hl := List.eq_nil_of_length_eq_zero (hn2 hc3)
      rw [hl] at h0
      exact (bL h0).2
    refine bY aG 1 [(2, (.sl true 0 (fun _ => .bad)))] ?_
    refine bI ?_
    refine dP [(2, (.sl true 0 (fun _ => .bad)))] ?_
    refine XU (el := (fun _ => .bad)) 0 2 2 hO (by kernel_rfl) ?_
    intro lo4 H5 hO
    obtain rfl := oI h0
    exact aJ (bA (pO (x := (.msl 2 lo4 0 (List.length ([] : List aB)))) (by kernel_rfl) (aV.refl _) ⟨lo4, rfl, hO⟩))
  · refine bN ?_
    refine bF [(0, (eL aD s0))] ?_
    refine aQ ?_
    refine aU aG 4 ?_
    refine tT (xs := []) (k := 2) (by kernel_rfl) (by kernel_rfl) ?_
    refine bK 2 ?_
    obtain ⟨c7, h0⟩ := bL h0
    refine TU (e := aD) s0 (fun _ => .bad) 2 16 (eL aD s0) (fun lo6 => [(lo6, 2, List.map aD s0)]) (by kernel_rfl) (by kernel_rfl) hO (LI (fun _ => by kernel_rfl)) c7 (fun _ => by kernel_rfl) ?_
    intro lo6 H hO
    refine bC ?_
    refine bF [(2, (.msl 2 lo6 0 (List.length s0)))] ?_
    refine bI ?_
    obtain rfl := oI h0
    exact aJ (pO (x := (.msl 2 lo6 0 (List.length s0))) (by kernel_rfl) (aV.refl _) ⟨lo6, rfl, hO⟩)

theorem mT (lo0p : Nat) (aA : (List aB)) (a1 : Int) (b2 : Int) (cmp3_f : Nat) (cmp3_a cmp3_c : List V) (cmp3 : aB → aB → Option Int) (cmp3_h : ∀ a0 a1 r, cmp3 a0 a1 = some r → bU Try.prog cmp3_f (cmp3_a ++ [(aD a0), (aD a1)] ++ cmp3_c) (eI r)) (r : List aB) (h0 : dI aA a1 b2 cmp3 = some r) : kX Try.prog 140 lo0p 2 (List.map aD aA) (List.map aD r) [(.msl 2 lo0p 0 (List.length aA)), (eI a1), (eI b2), (.fn (.func cmp3_f) cmp3_a cmp3_c)] (.tup []) := by
  intro H0 hl0
  refine cI Try.func140 ?_
  have hO := aP.pS hl0
  clear hl0
  obtain ⟨N0, hN0⟩ : ∃ n, n = List.length aA := ⟨_, rfl⟩
  have hN : List.length aA = N0 := hN0.symm
  unfold dI at h0
  refine aX aG 3 [] [(8, (eI (wR (a1 + (1 : Int)))))] ?_
  refine bQ 0 ?_
  refine cU [(0, (.msl 2 lo0p 0 (List.length aA))), (1, (eI a1)), (2, (eI b2)), (3, (.fn (.func cmp3_f) cmp3_a cmp3_c)), (8, (eI (wR (a1 + (1 : Int)))))] ?_
  refine cO (fun T H => ∃ aA : List aB, ∃ i8 : Int, Has T [(0, (.msl 2 lo0p 0 (List.length aA))), (1, (eI a1)), (2, (eI b2)), (3, (.fn (.func cmp3_f) cmp3_a cmp3_c)), (8, (eI i8))] ∧ aP ⟨H0, [lo0p], []⟩ H [(lo0p, 2, List.map aD aA)] ∧ List.length aA = N0 ∧ iP cmp3 aA a1 b2 i8 = some r) ?_ ⟨aA, wR (a1 + (1 : Int)), .eq (by kernel_rfl), hO, hN, h0⟩
  clear hO hN h0
  rintro T H ⟨aA, i8, hT, hO, hN, h0⟩
  refine bB hT ?_
  clear hT
  unfold iP at h0
  obtain ⟨rr0, hl0, h0⟩ := aW h0
  refine cF (by kernel_rfl) (fun (s : List aB × Int) T H => Has T [(0, (.msl 2 lo0p 0 (List.length s.1))), (1, (eI a1)), (2, (eI b2)), (3, (.fn (.func cmp3_f) cmp3_a cmp3_c)), (8, (eI s.2))] ∧ aP ⟨H0, [lo0p], []⟩ H [(lo0p, 2, List.map aD s.1)] ∧ List.length s.1 = N0) hl0 ⟨.eq (by kernel_rfl), hO, hN⟩ ?_
  clear hO hN
  rintro k0 s out1 T H ⟨hT, hO, hN⟩ h1 ho0
  obtain ⟨aA, i8⟩ := s
  replace h1 : iM cmp3 a1 b2 aA i8 = some out1 := h1
  try dsimp only at hT
  refine bB hT ?_
  clear hT
  unfold iM at h1
  refine aQ ?_
  refine aX aG 3 [] [(14, (aK (decide (i8 < b2))))] ?_
  refine bM h1 (fun h1 => ?_) (fun h1 => ?_)
  · refine bN ?_
    refine bF [(0, (.msl 2 lo0p 0 (List.length aA))), (1, (eI a1)), (2, (eI b2)), (3, (.fn (.func cmp3_f) cmp3_a cmp3_c)), (8, (eI i8))] ?_
    refine dO (fun T H => ∃ aA : List aB, Has T [(0, (.msl 2 lo0p 0 (List.length aA))), (1, (eI a1)), (2, (eI b2)), (3, (.fn (.func cmp3_f) cmp3_a cmp3_c)), (8, (eI i8))] ∧ aP ⟨H0, [lo0p], []⟩ H [(lo0p, 2, List.map aD aA)] ∧ List.length aA = N0 ∧ eM cmp3 aA a1 b2 i8 = some out1) ?_ ?_
    · clear hO hN h1
      rintro T H ⟨aA, hT, hO, hN, h1⟩
      refine bB hT ?_
      clear hT
      unfold eM at h1
      refine aU aG 3 ?_
      refine bC ?_
      exact aJ (aI (⟨rfl, _, (oI h1).symm, .eq (by kernel_rfl), hO, hN⟩))
    refine bQ 1 ?_
    refine aX aG 2 [] [(9, (eI i8))] ?_
    refine bQ 2 ?_
    refine cU [(0, (.msl 2 lo0p 0 (List.length aA))), (1, (eI a1)), (2, (eI b2)), (3, (.fn (.func cmp3_f) cmp3_a cmp3_c)), (8, (eI i8)), (9, (eI i8))] ?_
    refine cO (fun T H => ∃ aA : List aB, ∃ j9 : Int, Has T [(0, (.msl 2 lo0p 0 (List.length aA))), (1, (eI a1)), (2, (eI b2)), (3, (.fn (.func cmp3_f) cmp3_a cmp3_c)), (8, (eI i8)), (9, (eI j9))] ∧ aP ⟨H0, [lo0p], []⟩ H [(lo0p, 2, List.map aD aA)] ∧ List.length aA = N0 ∧ iL cmp3 aA a1 b2 i8 j9 = some out1) ?_ ⟨aA, i8, .eq (by kernel_rfl), hO, hN, h1⟩
    clear hO hN h1
    rintro T H ⟨aA, j9, hT, hO, hN, h1⟩
    refine bB hT ?_
    clear hT
    unfold iL at h1
    obtain ⟨rr1, hl1, h1⟩ := aW h1
    refine cF (by kernel_rfl) (fun (s : List aB × Int) T H => Has T [(0, (.msl 2 lo0p 0 (List.length s.1))), (1, (eI a1)), (2, (eI b2)), (3, (.fn (.func cmp3_f) cmp3_a cmp3_c)), (8, (eI i8)), (9, (eI s.2))] ∧ aP ⟨H0, [lo0p], []⟩ H [(lo0p, 2, List.map aD s.1)] ∧ List.length s.1 = N0) hl1 ⟨.eq (by kernel_rfl), hO, hN⟩ ?_
    clear hO hN
    rintro k1 s out2 T H ⟨hT, hO, hN⟩ h2 ho1
    obtain ⟨aA, j9⟩ := s
    replace h2 : iR cmp3 a1 b2 i8 aA j9 = some out2 := h2
    try dsimp only at hT
    refine bB hT ?_
    clear hT
    unfold iR at h2
    refine aQ ?_
    refine aQ ?_
    obtain ⟨c2, h2⟩ := bL h2
    obtain ⟨c3, h2⟩ := bL h2
    obtain ⟨x4, hx5, h2⟩ := aW h2
    refine kU (kP []) aG 17 ?_
    refine EK (K := fun T H => Has (lift T) [(0, (.msl 2 lo0p 0 (List.length aA))), (1, (eI a1)), (2, (eI b2)), (3, (.fn (.func cmp3_f) cmp3_a cmp3_c)), (8, (eI i8)), (9, (eI j9)), (34, (aK ((decide (a1 < j9)) && (decide (x4 < (0 : Int))))))] ∧ aP ⟨H0, [lo0p], []⟩ H [(lo0p, 2, List.map aD aA)]) ?_ ?_
    · refine uM 4 ?_
      refine GG (t := 21) (e := decide (a1 < j9)) (by kernel_rfl) (fun hg6 => ?_) (fun hg6 => ?_)
      · refine dK 8 [0 ≤ j9 ∧ j9 < (lN aA)] ⟨(c2 hg6), trivial⟩ ?_
        refine zM 0 lo0p 2 (0 + Int.toNat j9) (aD (gD aA j9)) (aD (gD aA j9)) (List.map aD aA) (by kernel_rfl) (by kernel_rfl) (by kernel_rfl) hO (by kernel_rfl) (cN (c2 hg6)) ?_
        refine dK 13 [0 ≤ (wR (j9 - (1 : Int))) ∧ (wR (j9 - (1 : Int))) < (lN aA)] ⟨(c3 hg6), trivial⟩ ?_
        refine zM 0 lo0p 2 (0 + Int.toNat (wR (j9 - (1 : Int)))) (aD (gD aA (wR (j9 - (1 : Int))))) (aD (gD aA (wR (j9 - (1 : Int))))) (List.map aD aA) (by kernel_rfl) (by kernel_rfl) (by kernel_rfl) hO (by kernel_rfl) (cN (c3 hg6)) ?_
        refine KT cmp3_f (cmp3_a ++ [(aD (gD aA j9)), (aD (gD aA (wR (j9 - (1 : Int)))))] ++ cmp3_c) (eI x4) (by kernel_rfl) (by kernel_rfl) (cmp3_h (gD aA j9) (gD aA (wR (j9 - (1 : Int)))) _ (kI hx5 hg6)) hO ?_
        intro H hO
        refine qO ?_
        exact ⟨⟨[(0, (.msl 2 lo0p 0 (List.length aA))), (1, (eI a1)), (2, (eI b2)), (3, (.fn (.func cmp3_f) cmp3_a cmp3_c)), (8, (eI i8)), (9, (eI j9)), (34, (aK (decide (x4 < (0 : Int)))))], by kernel_rfl, rfl, ⟨aV.refl _, aV.refl _, aV.refl _, aV.refl _, aV.refl _, aV.refl _, aV.eq (congrArg aK (GC hg6 rfl).symm), trivial⟩⟩, hO⟩
      refine qO ?_
      exact ⟨⟨[(0, (.msl 2 lo0p 0 (List.length aA))), (1, (eI a1)), (2, (eI b2)), (3, (.fn (.func cmp3_f) cmp3_a cmp3_c)), (8, (eI i8)), (9, (eI j9)), (34, (aK false))], by kernel_rfl, rfl, ⟨aV.refl _, aV.refl _, aV.refl _, aV.refl _, aV.refl _, aV.refl _, aV.eq (congrArg aK (GC hg6 rfl).symm), trivial⟩⟩, hO⟩
    · rintro T H ⟨hT, hO⟩
      refine cS hT ?_
      clear hT
      refine aJ (aI ?_)
      refine bM h2 (fun h2 => ?_) (fun h2 => ?_)
      · refine bN ?_
        refine bF [(0, (.msl 2 lo0p 0 (List.length aA))), (1, (eI a1)), (2, (eI b2)), (3, (.fn (.func cmp3_f) cmp3_a cmp3_c)), (8, (eI i8)), (9, (eI j9))] ?_
        refine aQ ?_
        refine bQ 3 ?_
        refine kU (kP []) aG 18 ?_
        obtain ⟨c8, h2⟩ := bL h2
        refine dK 9 [0 ≤ (wR (j9 - (1 : Int))) ∧ (wR (j9 - (1 : Int))) < (lN aA)] ⟨c8, trivial⟩ ?_
        refine kT 0 lo0p 2 (0 + Int.toNat (wR (j9 - (1 : Int)))) (aD (gD aA (wR (j9 - (1 : Int))))) (aD (gD aA (wR (j9 - (1 : Int))))) (List.map aD aA) hO (cN c8) ?_
        obtain ⟨c9, h2⟩ := bL h2
        refine dK 13 [0 ≤ j9 ∧ j9 < (lN aA)] ⟨c9, trivial⟩ ?_
        refine kT 0 lo0p 2 (0 + Int.toNat j9) (aD (gD aA j9)) (aD (gD aA j9)) (List.map aD aA) hO (cN c9) ?_
        obtain ⟨c10, h2⟩ := bL h2
        refine dK 15 [0 ≤ j9 ∧ j9 < (lN aA)] ⟨c10, trivial⟩ ?_
        refine qT 0 lo0p 2 (0 + Int.toNat j9) (aD (gD aA j9)) (aD (gD aA (wR (j9 - (1 : Int))))) (List.map aD aA) [(lo0p, 2, List.map aD (List.set aA (Int.toNat j9) (gD aA (wR (j9 - (1 : Int))))))] hO (cN c10) (by simp only [List.set, nH]) ?_
        intro H hO
        replace hN : List.length (List.set aA (Int.toNat j9) (gD aA (wR (j9 - (1 : Int))))) = N0 := by simpa using hN
        obtain ⟨c11, h2⟩ := bL h2
        refine dK 17 [0 ≤ (wR (j9 - (1 : Int))) ∧ (wR (j9 - (1 : Int))) < (lN aA)] ⟨c11, trivial⟩ ?_
        refine qT 0 lo0p 2 (0 + Int.toNat (wR (j9 - (1 : Int)))) (aD (gD (List.set aA (Int.toNat j9) (gD aA (wR (j9 - (1 : Int))))) (wR (j9 - (1 : Int))))) (aD (gD aA j9)) (List.map aD (List.set aA (Int.toNat j9) (gD aA (wR (j9 - (1 : Int)))))) [(lo0p, 2, List.map aD (List.set (List.set aA (Int.toNat j9) (gD aA (wR (j9 - (1 : Int))))) (Int.toNat (wR (j9 - (1 : Int)))) (gD aA j9)))] hO (wB c11 (by simp [])) (by simp only [List.set, nH]) ?_
        intro H hO
        replace hN : List.length (List.set (List.set aA (Int.toNat j9) (gD aA (wR (j9 - (1 : Int))))) (Int.toNat (wR (j9 - (1 : Int)))) (gD aA j9)) = N0 := by simpa using hN
        refine wT (by kernel_rfl) ?_
        refine cS (l := [(0, (.msl 2 lo0p 0 (List.length (List.set (List.set aA (Int.toNat j9) (gD aA (wR (j9 - (1 : Int))))) (Int.toNat (wR (j9 - (1 : Int)))) (gD aA j9))))), (1, (eI a1)), (2, (eI b2)), (3, (.fn (.func cmp3_f) cmp3_a cmp3_c)), (8, (eI i8)), (9, (eI j9))]) ⟨[(0, (.msl 2 lo0p 0 (List.length aA))), (1, (eI a1)), (2, (eI b2)), (3, (.fn (.func cmp3_f) cmp3_a cmp3_c)), (8, (eI i8)), (9, (eI j9))], by kernel_rfl, rfl, ⟨aV.eq (by simp []), aV.refl _, aV.refl _, aV.refl _, aV.refl _, aV.refl _, trivial⟩⟩ ?_
        refine aJ (aZ (aI (?_)))
        refine aU aG 3 ?_
        refine bC ?_
        exact aJ (aI (⟨rfl, _, (oI h2).symm, .eq (by kernel_rfl), hO, hN⟩))
      refine eB 2 ?_
      obtain rfl := oI h2
      obtain rfl : _ = rr1 := ho1
      replace h1 : eM cmp3 aA a1 b2 i8 = some out1 := h1
      exact aJ (aY (aY (bP (aZ (aI (⟨rfl, _, .eq (by kernel_rfl), hO, hN, h1⟩))))))
  refine eB 0 ?_
  obtain rfl := oI h1
  obtain rfl : _ = rr0 := ho0
  replace h0 : some aA = some r := h0
  obtain rfl := oI h0
  exact aJ (aY (aY (bP (qD (x := (.tup [])) (by kernel_rfl) (aV.refl _) ⟨rfl, hO.ext, hO.at 0 (by kernel_rfl), by simp only [List.length_map]; exact hN.trans hN0⟩))))

theorem kK (lo0p : Nat) (aA : (List aB)) (a1 : Int) (b2 : Int) (n3 : Int) (cmp4_f : Nat) (cmp4_a cmp4_c : List V) (cmp4 : aB → aB → Option Int) (cmp4_h : ∀ a0 a1 r, cmp4 a0 a1 = some r → bU Try.prog cmp4_f (cmp4_a ++ [(aD a0), (aD a1)] ++ cmp4_c) (eI r)) (r : List aB) (h0 : dZ aA a1 b2 n3 cmp4 = some r) : kX Try.prog 145 lo0p 2 (List.map aD aA) (List.map aD r) [(.msl 2 lo0p 0 (List.length aA)), (eI a1), (eI b2), (eI n3), (.fn (.func cmp4_f) cmp4_a cmp4_c)] (.tup []) := by
  intro H0 hl0
  refine cI Try.func145 ?_
  have hO := aP.pS hl0
  clear hl0
  obtain ⟨N0, hN0⟩ : ∃ n, n = List.length aA := ⟨_, rfl⟩
  have hN : List.length aA = N0 := hN0.symm
  unfold dZ at h0
  refine aX aG 1 [4] [(10, (eI (0 : Int)))] ?_
  refine bQ 0 ?_
  refine cU [(0, (.msl 2 lo0p 0 (List.length aA))), (1, (eI a1)), (2, (eI b2)), (3, (eI n3)), (10, (eI (0 : Int)))] ?_
  refine cO (fun T H => ∃ aA : List aB, ∃ i10 : Int, Has T [(0, (.msl 2 lo0p 0 (List.length aA))), (1, (eI a1)), (2, (eI b2)), (3, (eI n3)), (10, (eI i10))] ∧ aP ⟨H0, [lo0p], []⟩ H [(lo0p, 2, List.map aD aA)] ∧ List.length aA = N0 ∧ kC cmp4 aA a1 b2 n3 i10 = some r) ?_ ⟨aA, (0 : Int), .eq (by kernel_rfl), hO, hN, h0⟩
  clear hO hN h0
  rintro T H ⟨aA, i10, hT, hO, hN, h0⟩
  refine bB hT ?_
  clear hT
  unfold kC at h0
  obtain ⟨rr0, hl0, h0⟩ := aW h0
  refine cF (by kernel_rfl) (fun (s : List aB × Int) T H => Has T [(0, (.msl 2 lo0p 0 (List.length s.1))), (1, (eI a1)), (2, (eI b2)), (3, (eI n3)), (10, (eI s.2))] ∧ aP ⟨H0, [lo0p], []⟩ H [(lo0p, 2, List.map aD s.1)] ∧ List.length s.1 = N0) hl0 ⟨.eq (by kernel_rfl), hO, hN⟩ ?_
  clear hO hN
  rintro k0 s out1 T H ⟨hT, hO, hN⟩ h1 ho0
  obtain ⟨aA, i10⟩ := s
  replace h1 : jW cmp4 a1 b2 n3 aA i10 = some out1 := h1
  try dsimp only at hT
  refine bB hT ?_
  clear hT
  unfold jW at h1
  refine aQ ?_
  refine aX aG 3 [] [(13, (aK (decide (i10 < n3))))] ?_
  refine bM h1 (fun h1 => ?_) (fun h1 => ?_)
  · refine bN ?_
    refine bF [(0, (.msl 2 lo0p 0 (List.length aA))), (1, (eI a1)), (2, (eI b2)), (3, (eI n3)), (10, (eI i10))] ?_
    refine aQ ?_
    refine bQ 1 ?_
    refine kU (kP []) aG 24 ?_
    obtain ⟨c2, h1⟩ := bL h1
    refine dK 13 [0 ≤ (wR (b2 + i10)) ∧ (wR (b2 + i10)) < (lN aA)] ⟨c2, trivial⟩ ?_
    refine kT 0 lo0p 2 (0 + Int.toNat (wR (b2 + i10))) (aD (gD aA (wR (b2 + i10)))) (aD (gD aA (wR (b2 + i10)))) (List.map aD aA) hO (cN c2) ?_
    obtain ⟨c3, h1⟩ := bL h1
    refine dK 19 [0 ≤ (wR (a1 + i10)) ∧ (wR (a1 + i10)) < (lN aA)] ⟨c3, trivial⟩ ?_
    refine kT 0 lo0p 2 (0 + Int.toNat (wR (a1 + i10))) (aD (gD aA (wR (a1 + i10)))) (aD (gD aA (wR (a1 + i10)))) (List.map aD aA) hO (cN c3) ?_
    obtain ⟨c4, h1⟩ := bL h1
    refine dK 21 [0 ≤ (wR (a1 + i10)) ∧ (wR (a1 + i10)) < (lN aA)] ⟨c4, trivial⟩ ?_
    refine qT 0 lo0p 2 (0 + Int.toNat (wR (a1 + i10))) (aD (gD aA (wR (a1 + i10)))) (aD (gD aA (wR (b2 + i10)))) (List.map aD aA) [(lo0p, 2, List.map aD (List.set aA (Int.toNat (wR (a1 + i10))) (gD aA (wR (b2 + i10)))))] hO (cN c4) (by simp only [List.set, nH]) ?_
    intro H hO
    replace hN : List.length (List.set aA (Int.toNat (wR (a1 + i10))) (gD aA (wR (b2 + i10)))) = N0 := by simpa using hN
    obtain ⟨c5, h1⟩ := bL h1
    refine dK 23 [0 ≤ (wR (b2 + i10)) ∧ (wR (b2 + i10)) < (lN aA)] ⟨c5, trivial⟩ ?_
    refine qT 0 lo0p 2 (0 + Int.toNat (wR (b2 + i10))) (aD (gD (List.set aA (Int.toNat (wR (a1 + i10))) (gD aA (wR (b2 + i10)))) (wR (b2 + i10)))) (aD (gD aA (wR (a1 + i10)))) (List.map aD (List.set aA (Int.toNat (wR (a1 + i10))) (gD aA (wR (b2 + i10))))) [(lo0p, 2, List.map aD (List.set (List.set aA (Int.toNat (wR (a1 + i10))) (gD aA (wR (b2 + i10)))) (Int.toNat (wR (b2 + i10))) (gD aA (wR (a1 + i10)))))] hO (wB c5 (by simp [])) (by simp only [List.set, nH]) ?_
    intro H hO
    replace hN : List.length (List.set (List.set aA (Int.toNat (wR (a1 + i10))) (gD aA (wR (b2 + i10)))) (Int.toNat (wR (b2 + i10))) (gD aA (wR (a1 + i10)))) = N0 := by simpa using hN
    refine wT (by kernel_rfl) ?_
    refine cS (l := [(0, (.msl 2 lo0p 0 (List.length (List.set (List.set aA (Int.toNat (wR (a1 + i10))) (gD aA (wR (b2 + i10)))) (Int.toNat (wR (b2 + i10))) (gD aA (wR (a1 + i10))))))), (1, (eI a1)), (2, (eI b2)), (3, (eI n3)), (10, (eI i10))]) ⟨[(0, (.msl 2 lo0p 0 (List.length aA))), (1, (eI a1)), (2, (eI b2)), (3, (eI n3)), (10, (eI i10))], by kernel_rfl, rfl, ⟨aV.eq (by simp []), aV.refl _, aV.refl _, aV.refl _, aV.refl _, trivial⟩⟩ ?_
    refine aJ (aZ (aI (?_)))
    refine aU aG 3 ?_
    refine bC ?_
    exact aJ (aI (⟨rfl, _, (oI h1).symm, .eq (by kernel_rfl), hO, hN⟩))
  refine eB 0 ?_
  obtain rfl := oI h1
  obtain rfl : _ = rr0 := ho0
  replace h0 : some aA = some r := h0
  obtain rfl := oI h0
  exact aJ (aY (aY (bP (qD (x := (.tup [])) (by kernel_rfl) (aV.refl _) ⟨rfl, hO.ext, hO.at 0 (by kernel_rfl), by simp only [List.length_map]; exact hN.trans hN0⟩))))

theorem wI (lo0p : Nat) (aA : (List aB)) (a1 : Int) (m2 : Int) (b3 : Int) (cmp4_f : Nat) (cmp4_a cmp4_c : List V) (cmp4 : aB → aB → Option Int) (cmp4_h : ∀ a0 a1 r, cmp4 a0 a1 = some r → bU Try.prog cmp4_f (cmp4_a ++ [(aD a0), (aD a1)] ++ cmp4_c) (eI r)) (r : List aB) (h0 : lU aA a1 m2 b3 cmp4 = some r) : kX Try.prog 144 lo0p 2 (List.map aD aA) (List.map aD r) [(.msl 2 lo0p 0 (List.length aA)), (eI a1), (eI m2), (eI b3), (.fn (.func cmp4_f) cmp4_a cmp4_c)] (.tup []) := by
  intro H0 hl0
  refine cI Try.func144 ?_
  have hO := aP.pS hl0
  clear hl0
  obtain ⟨N0, hN0⟩ : ∃ n, n = List.length aA := ⟨_, rfl⟩
  have hN : List.length aA = N0 := hN0.symm
  unfold lU at h0
  refine aX aG 4 [1] [(10, (eI (wR (m2 - a1))))] ?_
  refine aX aG 4 [3] [(11, (eI (wR (b3 - m2))))] ?_
  refine dO (fun T H => ∃ aA : List aB, ∃ i10 : Int, Has T [(0, (.msl 2 lo0p 0 (List.length aA))), (2, (eI m2)), (4, (.fn (.func cmp4_f) cmp4_a cmp4_c)), (10, (eI i10))] ∧ aP ⟨H0, [lo0p], []⟩ H [(lo0p, 2, List.map aD aA)] ∧ List.length aA = N0 ∧ gU cmp4 aA m2 i10 = some r) ?_ ?_
  · clear hO hN h0
    rintro T H ⟨aA, i10, hT, hO, hN, h0⟩
    refine bB hT ?_
    clear hT
    unfold gU at h0
    refine aU aG 8 ?_
    refine bK 7 ?_
    obtain ⟨x1, hx2, h0⟩ := aW h0
    refine nW [(lo0p, 2, List.map aD x1)] 0 (kK lo0p aA (wR (m2 - i10)) m2 i10 cmp4_f cmp4_a cmp4_c cmp4 cmp4_h _ hx2) hO ?_
    intro H hO hl3
    simp only [List.length_map] at hl3
    replace hN := hl3.trans hN
    refine cH ?_
    refine cS (l := [(0, (.msl 2 lo0p 0 (List.length x1)))]) ⟨[(0, (.msl 2 lo0p 0 (List.length aA)))], by kernel_rfl, rfl, ⟨aV.eq (by simp [hl3]), trivial⟩⟩ ?_
    obtain rfl := oI h0
    exact aJ (qD (x := (.tup [])) (by kernel_rfl) (aV.refl _) ⟨rfl, hO.ext, hO.at 0 (by kernel_rfl), by simp only [List.length_map]; exact hN.trans hN0⟩)
  refine bQ 0 ?_
  refine cU [(0, (.msl 2 lo0p 0 (List.length aA))), (2, (eI m2)), (4, (.fn (.func cmp4_f) cmp4_a cmp4_c)), (10, (eI (wR (m2 - a1)))), (11, (eI (wR (b3 - m2))))] ?_
  refine cO (fun T H => ∃ aA : List aB, ∃ i10 : Int, ∃ j11 : Int, Has T [(0, (.msl 2 lo0p 0 (List.length aA))), (2, (eI m2)), (4, (.fn (.func cmp4_f) cmp4_a cmp4_c)), (10, (eI i10)), (11, (eI j11))] ∧ aP ⟨H0, [lo0p], []⟩ H [(lo0p, 2, List.map aD aA)] ∧ List.length aA = N0 ∧ lG cmp4 aA m2 i10 j11 = some r) ?_ ⟨aA, wR (m2 - a1), wR (b3 - m2), .eq (by kernel_rfl), hO, hN, h0⟩
  clear hO hN h0
  rintro T H ⟨aA, i10, j11, hT, hO, hN, h0⟩
  refine bB hT ?_
  clear hT
  unfold lG at h0
  obtain ⟨rr0, hl0, h0⟩ := aW h0
  refine cF (by kernel_rfl) (fun (s : List aB × Int × Int) T H => Has T [(0, (.msl 2 lo0p 0 (List.length s.1))), (2, (eI m2)), (4, (.fn (.func cmp4_f) cmp4_a cmp4_c)), (10, (eI s.2.1)), (11, (eI s.2.2))] ∧ aP ⟨H0, [lo0p], []⟩ H [(lo0p, 2, List.map aD s.1)] ∧ List.length s.1 = N0) hl0 ⟨.eq (by kernel_rfl), hO, hN⟩ ?_
  clear hO hN
  rintro k0 s out1 T H ⟨hT, hO, hN⟩ h1 ho0
  obtain ⟨aA, i10, j11⟩ := s
  replace h1 : lI cmp4 m2 aA i10 j11 = some out1 := h1
  try dsimp only at hT
  refine bB hT ?_
  clear hT
  unfold lI at h1
  refine aQ ?_
  refine aX aG 3 [] [(20, (aK (!decide (i10 = j11))))] ?_
  refine bM h1 (fun h1 => ?_) (fun h1 => ?_)
  · refine bN ?_
    refine bF [(0, (.msl 2 lo0p 0 (List.length aA))), (2, (eI m2)), (4, (.fn (.func cmp4_f) cmp4_a cmp4_c)), (10, (eI i10)), (11, (eI j11))] ?_
    refine bQ 1 ?_
    refine aX aG 3 [] [(23, (aK (decide (j11 < i10))))] ?_
    refine bM h1 (fun h1 => ?_) (fun h1 => ?_)
    · refine aQ ?_
      refine aU aG 8 ?_
      refine bK 7 ?_
      obtain ⟨x6, hx7, h1⟩ := aW h1
      refine nW [(lo0p, 2, List.map aD x6)] 0 (kK lo0p aA (wR (m2 - i10)) m2 j11 cmp4_f cmp4_a cmp4_c cmp4 cmp4_h _ hx7) hO ?_
      intro H hO hl8
      simp only [List.length_map] at hl8
      replace hN := hl8.trans hN
      refine cH ?_
      refine cS (l := [(0, (.msl 2 lo0p 0 (List.length x6))), (2, (eI m2)), (4, (.fn (.func cmp4_f) cmp4_a cmp4_c)), (10, (eI i10)), (11, (eI j11))]) ⟨[(0, (.msl 2 lo0p 0 (List.length aA))), (2, (eI m2)), (4, (.fn (.func cmp4_f) cmp4_a cmp4_c)), (10, (eI i10)), (11, (eI j11))], by kernel_rfl, rfl, ⟨aV.eq (by simp [hl8]), aV.refl _, aV.refl _, aV.refl _, aV.refl _, trivial⟩⟩ ?_
      refine aJ (aI (?_))
      refine aU aG 4 ?_
      refine bC ?_
      exact aJ (aZ (aI (⟨rfl, _, (oI h1).symm, .eq (by kernel_rfl), hO, hN⟩)))
    refine aQ ?_
    refine aU aG 12 ?_
    refine bK 11 ?_
    obtain ⟨x9, hx10, h1⟩ := aW h1
    refine nW [(lo0p, 2, List.map aD x9)] 0 (kK lo0p aA (wR (m2 - i10)) (wR ((wR (m2 + j11)) - i10)) i10 cmp4_f cmp4_a cmp4_c cmp4 cmp4_h _ hx10) hO ?_
    intro H hO hl11
    simp only [List.length_map] at hl11
    replace hN := hl11.trans hN
    refine cH ?_
    refine cS (l := [(0, (.msl 2 lo0p 0 (List.length x9))), (2, (eI m2)), (4, (.fn (.func cmp4_f) cmp4_a cmp4_c)), (10, (eI i10)), (11, (eI j11))]) ⟨[(0, (.msl 2 lo0p 0 (List.length aA))), (2, (eI m2)), (4, (.fn (.func cmp4_f) cmp4_a cmp4_c)), (10, (eI i10)), (11, (eI j11))], by kernel_rfl, rfl, ⟨aV.eq (by simp [hl11]), aV.refl _, aV.refl _, aV.refl _, aV.refl _, trivial⟩⟩ ?_
    refine aJ (aI (?_))
    refine aU aG 4 ?_
    refine bC ?_
    exact aJ (aZ (aI (⟨rfl, _, (oI h1).symm, .eq (by kernel_rfl), hO, hN⟩)))
  refine eB 0 ?_
  obtain rfl := oI h1
  obtain rfl : _ = rr0 := ho0
  replace h0 : gU cmp4 aA m2 i10 = some r := h0
  exact aJ (aY (aY (bP (aI (⟨rfl, _, _, .eq (by kernel_rfl), hO, hN, h0⟩)))))

end Go.Abs
namespace Go.Abs
open Go Go.RowKit Go.Proofs
theorem sJ (cmp4_f : Nat) (cmp4_a cmp4_c : List V) (cmp4 : aB → aB → Option Int) (cmp4_h : ∀ a0 a1 r, cmp4 a0 a1 = some r → bU Try.prog cmp4_f (cmp4_a ++ [(aD a0), (aD a1)] ++ cmp4_c) (eI r)) (rec : (List aB) → Int → Int → Int → Option (List aB)) (ih : ∀ (lo0p : Nat) (aA : (List aB)) (a1 : Int) (m2 : Int) (b3 : Int) (r : List aB), rec aA a1 m2 b3 = some r → kX Try.prog 141 lo0p 2 (List.map aD aA) (List.map aD r) [(.msl 2 lo0p 0 (List.length aA)), (eI a1), (eI m2), (eI b3), (.fn (.func cmp4_f) cmp4_a cmp4_c)] (.tup [])) (lo0p : Nat) (aA : (List aB)) (a1 : Int) (m2 : Int) (b3 : Int) (r : List aB) (h0 : dR cmp4 rec aA a1 m2 b3 = some r) : kX Try.prog 141 lo0p 2 (List.map aD aA) (List.map aD r) [(.msl 2 lo0p 0 (List.length aA)), (eI a1), (eI m2), (eI b3), (.fn (.func cmp4_f) cmp4_a cmp4_c)] (.tup []) := by
  intro H0 hl0
  refine cI Try.func141 ?_
  have hO := aP.pS hl0
  clear hl0
  obtain ⟨N0, hN0⟩ : ∃ n, n = List.length aA := ⟨_, rfl⟩
  have hN : List.length aA = N0 := hN0.symm
  unfold dR at h0
  refine dO (fun T H => ∃ aA : List aB, Has T [(0, (.msl 2 lo0p 0 (List.length aA))), (1, (eI a1)), (2, (eI m2)), (3, (eI b3)), (4, (.fn (.func cmp4_f) cmp4_a cmp4_c))] ∧ aP ⟨H0, [lo0p], []⟩ H [(lo0p, 2, List.map aD aA)] ∧ List.length aA = N0 ∧ kM cmp4 rec aA a1 m2 b3 = some r) ?_ ?_
  · clear hO hN h0
    rintro T H ⟨aA, hT, hO, hN, h0⟩
    refine bB hT ?_
    clear hT
    unfold kM at h0
    refine dO (fun T H => ∃ aA : List aB, Has T [(0, (.msl 2 lo0p 0 (List.length aA))), (1, (eI a1)), (2, (eI m2)), (3, (eI b3)), (4, (.fn (.func cmp4_f) cmp4_a cmp4_c))] ∧ aP ⟨H0, [lo0p], []⟩ H [(lo0p, 2, List.map aD aA)] ∧ List.length aA = N0 ∧ kN cmp4 rec aA a1 m2 b3 = some r) ?_ ?_
    · clear hO hN h0
      rintro T H ⟨aA, hT, hO, hN, h0⟩
      refine bB hT ?_
      clear hT
      unfold kN at h0
      refine aQ ?_
      refine aU aG 7 ?_
      obtain ⟨c1, h0⟩ := bL h0
      refine yR [0 ≤ (1 : Int)] ⟨c1, trivial⟩ ?_
      refine bS [] [(18, (eI (wR (Int.fdiv (IntKind.u64.wrap (wR (a1 + b3))) (2 ^ (min (Int.toNat (1 : Int)) 64))))))] ?_
      refine aX aG 4 [] [(19, (eI (wR ((wR (Int.fdiv (IntKind.u64.wrap (wR (a1 + b3))) (2 ^ (min (Int.toNat (1 : Int)) 64)))) + m2))))] ?_
      refine aX aG 2 [] [] ?_
      refine dO (fun T H => ∃ aA : List aB, ∃ bO : Int, ∃ n19 : Int, ∃ aR : Int, ∃ r21 : Int, Has T [(0, (.msl 2 lo0p 0 (List.length aA))), (1, (eI a1)), (2, (eI m2)), (3, (eI b3)), (4, (.fn (.func cmp4_f) cmp4_a cmp4_c)), (18, (eI bO)), (19, (eI n19)), (20, (eI aR)), (21, (eI r21))] ∧ aP ⟨H0, [lo0p], []⟩ H [(lo0p, 2, List.map aD aA)] ∧ List.length aA = N0 ∧ fY cmp4 rec aA a1 m2 b3 bO n19 aR r21 = some r) ?_ ?_
      · clear hO hN h0
        rintro T H ⟨aA, bO, n19, aR, r21, hT, hO, hN, h0⟩
        refine bB hT ?_
        clear hT
        unfold fY at h0
        refine aX aG 3 [] [(22, (eI (wR (n19 - (1 : Int)))))] ?_
        refine dO (fun T H => ∃ aA : List aB, ∃ aR : Int, Has T [(0, (.msl 2 lo0p 0 (List.length aA))), (1, (eI a1)), (2, (eI m2)), (3, (eI b3)), (4, (.fn (.func cmp4_f) cmp4_a cmp4_c)), (18, (eI bO)), (19, (eI n19)), (20, (eI aR))] ∧ aP ⟨H0, [lo0p], []⟩ H [(lo0p, 2, List.map aD aA)] ∧ List.length aA = N0 ∧ fZ cmp4 rec aA a1 m2 b3 bO n19 aR = some r) ?_ ?_
        · clear hO hN h0
          rintro T H ⟨aA, aR, hT, hO, hN, h0⟩
          refine bB hT ?_
          clear hT
          unfold fZ at h0
          refine aX aG 4 [19] [(24, (eI (wR (n19 - aR))))] ?_
          refine dO (fun T H => ∃ aA : List aB, ∃ dS : Int, Has T [(0, (.msl 2 lo0p 0 (List.length aA))), (1, (eI a1)), (3, (eI b3)), (4, (.fn (.func cmp4_f) cmp4_a cmp4_c)), (18, (eI bO)), (20, (eI aR)), (24, (eI dS))] ∧ aP ⟨H0, [lo0p], []⟩ H [(lo0p, 2, List.map aD aA)] ∧ List.length aA = N0 ∧ gF cmp4 rec aA a1 b3 bO aR dS = some r) ?_ ?_
          · clear hO hN h0
            rintro T H ⟨aA, dS, hT, hO, hN, h0⟩
            refine bB hT ?_
            clear hT
            unfold gF at h0
            refine dO (fun T H => ∃ aA : List aB, Has T [(0, (.msl 2 lo0p 0 (List.length aA))), (3, (eI b3)), (4, (.fn (.func cmp4_f) cmp4_a cmp4_c)), (18, (eI bO)), (24, (eI dS))] ∧ aP ⟨H0, [lo0p], []⟩ H [(lo0p, 2, List.map aD aA)] ∧ List.length aA = N0 ∧ fT cmp4 rec aA b3 bO dS = some r) ?_ ?_
            · clear hO hN h0
              rintro T H ⟨aA, hT, hO, hN, h0⟩
              refine bB hT ?_
              clear hT
              unfold fT at h0
              refine aX aG 8 [] [(213, (aK ((decide (bO < dS)) && (decide (dS < b3)))))] ?_
              refine bM h0 (fun h0 => ?_) (fun h0 => ?_)
              · refine aU aG 6 ?_
                refine bK 5 ?_
                obtain ⟨x3, hx4, h0⟩ := aW h0
                refine nW [(lo0p, 2, List.map aD x3)] 0 (ih lo0p aA bO dS b3 _ hx4) hO ?_
                intro H hO hl5
                simp only [List.length_map] at hl5
                replace hN := hl5.trans hN
                refine cH ?_
                refine cS (l := [(0, (.msl 2 lo0p 0 (List.length x3)))]) ⟨[(0, (.msl 2 lo0p 0 (List.length aA)))], by kernel_rfl, rfl, ⟨aV.eq (by simp [hl5]), trivial⟩⟩ ?_
                obtain rfl := oI h0
                exact aJ (qD (x := (.tup [])) (by kernel_rfl) (aV.refl _) ⟨rfl, hO.ext, hO.at 0 (by kernel_rfl), by simp only [List.length_map]; exact hN.trans hN0⟩)
              refine bN ?_
              obtain rfl := oI h0
              exact aJ (qD (x := (.tup [])) (by kernel_rfl) (aV.refl _) ⟨rfl, hO.ext, hO.at 0 (by kernel_rfl), by simp only [List.length_map]; exact hN.trans hN0⟩)
            refine aX aG 8 [] [(199, (aK ((decide (a1 < aR)) && (decide (aR < bO)))))] ?_
            refine bM h0 (fun h0 => ?_) (fun h0 => ?_)
            · refine aU aG 6 ?_
              refine bK 5 ?_
              obtain ⟨x7, hx8, h0⟩ := aW h0
              refine nW [(lo0p, 2, List.map aD x7)] 0 (ih lo0p aA a1 aR bO _ hx8) hO ?_
              intro H hO hl9
              simp only [List.length_map] at hl9
              replace hN := hl9.trans hN
              refine cH ?_
              refine cS (l := [(0, (.msl 2 lo0p 0 (List.length x7))), (3, (eI b3)), (4, (.fn (.func cmp4_f) cmp4_a cmp4_c)), (18, (eI bO)), (24, (eI dS))]) ⟨[(0, (.msl 2 lo0p 0 (List.length aA))), (3, (eI b3)), (4, (.fn (.func cmp4_f) cmp4_a cmp4_c)), (18, (eI bO)), (24, (eI dS))], by kernel_rfl, rfl, ⟨aV.eq (by simp [hl9]), aV.refl _, aV.refl _, aV.refl _, aV.refl _, trivial⟩⟩ ?_
              exact aJ (aI (⟨rfl, _, .eq (by kernel_rfl), hO, hN, h0⟩))
            refine bN ?_
            exact aJ (aI (⟨rfl, _, .eq (by kernel_rfl), hO, hN, h0⟩))
          refine aX aG 8 [] [(185, (aK ((decide (aR < m2)) && (decide (m2 < (wR (n19 - aR)))))))] ?_
          refine bM h0 (fun h0 => ?_) (fun h0 => ?_)
          · refine aU aG 6 ?_
            refine bK 5 ?_
            obtain ⟨x11, hx12, h0⟩ := aW h0
            refine nW [(lo0p, 2, List.map aD x11)] 0 (wI lo0p aA aR m2 (wR (n19 - aR)) cmp4_f cmp4_a cmp4_c cmp4 cmp4_h _ hx12) hO ?_
            intro H hO hl13
            simp only [List.length_map] at hl13
            replace hN := hl13.trans hN
            refine cH ?_
            refine cS (l := [(0, (.msl 2 lo0p 0 (List.length x11))), (1, (eI a1)), (3, (eI b3)), (4, (.fn (.func cmp4_f) cmp4_a cmp4_c)), (18, (eI bO)), (20, (eI aR)), (24, (eI (wR (n19 - aR))))]) ⟨[(0, (.msl 2 lo0p 0 (List.length aA))), (1, (eI a1)), (3, (eI b3)), (4, (.fn (.func cmp4_f) cmp4_a cmp4_c)), (18, (eI bO)), (20, (eI aR)), (24, (eI (wR (n19 - aR))))], by kernel_rfl, rfl, ⟨aV.eq (by simp [hl13]), aV.refl _, aV.refl _, aV.refl _, aV.refl _, aV.refl _, aV.refl _, trivial⟩⟩ ?_
            exact aJ (aI (⟨rfl, _, _, .eq (by kernel_rfl), hO, hN, h0⟩))
          refine bN ?_
          exact aJ (aI (⟨rfl, _, _, .eq (by kernel_rfl), hO, hN, h0⟩))
        refine bQ 8 ?_
        refine cU [(0, (.msl 2 lo0p 0 (List.length aA))), (1, (eI a1)), (2, (eI m2)), (3, (eI b3)), (4, (.fn (.func cmp4_f) cmp4_a cmp4_c)), (18, (eI bO)), (19, (eI n19)), (20, (eI aR)), (21, (eI r21)), (22, (eI (wR (n19 - (1 : Int)))))] ?_
        refine cO (fun T H => ∃ aA : List aB, ∃ aR : Int, ∃ r21 : Int, ∃ p22 : Int, Has T [(0, (.msl 2 lo0p 0 (List.length aA))), (1, (eI a1)), (2, (eI m2)), (3, (eI b3)), (4, (.fn (.func cmp4_f) cmp4_a cmp4_c)), (18, (eI bO)), (19, (eI n19)), (20, (eI aR)), (21, (eI r21)), (22, (eI p22))] ∧ aP ⟨H0, [lo0p], []⟩ H [(lo0p, 2, List.map aD aA)] ∧ List.length aA = N0 ∧ kS cmp4 rec aA a1 m2 b3 bO n19 aR r21 p22 = some r) ?_ ⟨aA, aR, r21, wR (n19 - (1 : Int)), .eq (by kernel_rfl), hO, hN, h0⟩
        clear hO hN h0
        rintro T H ⟨aA, aR, r21, p22, hT, hO, hN, h0⟩
        refine bB hT ?_
        clear hT
        unfold kS at h0
        obtain ⟨rr0, hl0, h0⟩ := aW h0
        refine cF (by kernel_rfl) (fun (s : List aB × Int × Int) T H => Has T [(0, (.msl 2 lo0p 0 (List.length s.1))), (1, (eI a1)), (2, (eI m2)), (3, (eI b3)), (4, (.fn (.func cmp4_f) cmp4_a cmp4_c)), (18, (eI bO)), (19, (eI n19)), (20, (eI s.2.1)), (21, (eI s.2.2)), (22, (eI p22))] ∧ aP ⟨H0, [lo0p], []⟩ H [(lo0p, 2, List.map aD s.1)] ∧ List.length s.1 = N0) hl0 ⟨.eq (by kernel_rfl), hO, hN⟩ ?_
        clear hO hN
        rintro k0 s out1 T H ⟨hT, hO, hN⟩ h1 ho0
        obtain ⟨aA, aR, r21⟩ := s
        replace h1 : kQ cmp4 rec a1 m2 b3 bO n19 p22 aA aR r21 = some out1 := h1
        try dsimp only at hT
        refine bB hT ?_
        clear hT
        unfold kQ at h1
        refine aQ ?_
        refine aX aG 3 [] [(151, (aK (decide (aR < r21))))] ?_
        refine bM h1 (fun h1 => ?_) (fun h1 => ?_)
        · refine bN ?_
          refine bF [(0, (.msl 2 lo0p 0 (List.length aA))), (1, (eI a1)), (2, (eI m2)), (3, (eI b3)), (4, (.fn (.func cmp4_f) cmp4_a cmp4_c)), (18, (eI bO)), (19, (eI n19)), (20, (eI aR)), (21, (eI r21)), (22, (eI p22))] ?_
          refine bQ 9 ?_
          refine aQ ?_
          refine aU aG 7 ?_
          obtain ⟨c15, h1⟩ := bL h1
          refine yR [0 ≤ (1 : Int)] ⟨c15, trivial⟩ ?_
          refine bS [] [(23, (eI (wR (Int.fdiv (IntKind.u64.wrap (wR (aR + r21))) (2 ^ (min (Int.toNat (1 : Int)) 64))))))] ?_
          refine aQ ?_
          refine kU (kP [169]) aG 14 ?_
          obtain ⟨c16, h1⟩ := bL h1
          refine dK 6 [0 ≤ (wR (p22 - (wR (Int.fdiv (IntKind.u64.wrap (wR (aR + r21))) (2 ^ (min (Int.toNat (1 : Int)) 64)))))) ∧ (wR (p22 - (wR (Int.fdiv (IntKind.u64.wrap (wR (aR + r21))) (2 ^ (min (Int.toNat (1 : Int)) 64)))))) < (lN aA)] ⟨c16, trivial⟩ ?_
          refine kT 0 lo0p 2 (0 + Int.toNat (wR (p22 - (wR (Int.fdiv (IntKind.u64.wrap (wR (aR + r21))) (2 ^ (min (Int.toNat (1 : Int)) 64))))))) (aD (gD aA (wR (p22 - (wR (Int.fdiv (IntKind.u64.wrap (wR (aR + r21))) (2 ^ (min (Int.toNat (1 : Int)) 64)))))))) (aD (gD aA (wR (p22 - (wR (Int.fdiv (IntKind.u64.wrap (wR (aR + r21))) (2 ^ (min (Int.toNat (1 : Int)) 64)))))))) (List.map aD aA) hO (cN c16) ?_
          obtain ⟨c17, h1⟩ := bL h1
          refine dK 10 [0 ≤ (wR (Int.fdiv (IntKind.u64.wrap (wR (aR + r21))) (2 ^ (min (Int.toNat (1 : Int)) 64)))) ∧ (wR (Int.fdiv (IntKind.u64.wrap (wR (aR + r21))) (2 ^ (min (Int.toNat (1 : Int)) 64)))) < (lN aA)] ⟨c17, trivial⟩ ?_
          refine kT 0 lo0p 2 (0 + Int.toNat (wR (Int.fdiv (IntKind.u64.wrap (wR (aR + r21))) (2 ^ (min (Int.toNat (1 : Int)) 64))))) (aD (gD aA (wR (Int.fdiv (IntKind.u64.wrap (wR (aR + r21))) (2 ^ (min (Int.toNat (1 : Int)) 64)))))) (aD (gD aA (wR (Int.fdiv (IntKind.u64.wrap (wR (aR + r21))) (2 ^ (min (Int.toNat (1 : Int)) 64)))))) (List.map aD aA) hO (cN c17) ?_
          obtain ⟨x18, hx19, h1⟩ := aW h1
          refine xL (cmp4_h (gD aA (wR (p22 - (wR (Int.fdiv (IntKind.u64.wrap (wR (aR + r21))) (2 ^ (min (Int.toNat (1 : Int)) 64))))))) (gD aA (wR (Int.fdiv (IntKind.u64.wrap (wR (aR + r21))) (2 ^ (min (Int.toNat (1 : Int)) 64))))) _ hx19) hO ?_
          intro H hO
          refine qO ?_
          refine bS [] [(171, (aK (!(decide (x18 < (0 : Int))))))] ?_
          refine bM h1 (fun h1 => ?_) (fun h1 => ?_)
          · refine aU aG 3 ?_
            refine bC ?_
            exact aJ (aZ (aI (⟨rfl, _, (oI h1).symm, .eq (by kernel_rfl), hO, hN⟩)))
          refine aU aG 2 ?_
          refine bC ?_
          exact aJ (aZ (aI (⟨rfl, _, (oI h1).symm, .eq (by kernel_rfl), hO, hN⟩)))
        refine eB 8 ?_
        obtain rfl := oI h1
        obtain rfl : _ = rr0 := ho0
        replace h0 : fZ cmp4 rec aA a1 m2 b3 bO n19 aR = some r := h0
        exact aJ (aY (aY (bP (aI (⟨rfl, _, _, .eq (by kernel_rfl), hO, hN, h0⟩)))))
      refine aX aG 3 [] [(140, (aK (decide ((wR (Int.fdiv (IntKind.u64.wrap (wR (a1 + b3))) (2 ^ (min (Int.toNat (1 : Int)) 64)))) < m2))))] ?_
      refine bM h0 (fun h0 => ?_) (fun h0 => ?_)
      · refine bY aG 4 [(0, (.msl 2 lo0p 0 (List.length aA))), (1, (eI a1)), (2, (eI m2)), (3, (eI b3)), (4, (.fn (.func cmp4_f) cmp4_a cmp4_c)), (18, (eI (wR (Int.fdiv (IntKind.u64.wrap (wR (a1 + b3))) (2 ^ (min (Int.toNat (1 : Int)) 64)))))), (19, (eI (wR ((wR (Int.fdiv (IntKind.u64.wrap (wR (a1 + b3))) (2 ^ (min (Int.toNat (1 : Int)) 64)))) + m2)))), (20, (eI (wR ((wR ((wR (Int.fdiv (IntKind.u64.wrap (wR (a1 + b3))) (2 ^ (min (Int.toNat (1 : Int)) 64)))) + m2)) - b3))))] ?_
        refine aU aG 2 ?_
        refine bC ?_
        exact aJ (aI (⟨rfl, _, _, _, _, _, .eq (by kernel_rfl), hO, hN, h0⟩))
      refine bY aG 2 [(0, (.msl 2 lo0p 0 (List.length aA))), (1, (eI a1)), (2, (eI m2)), (3, (eI b3)), (4, (.fn (.func cmp4_f) cmp4_a cmp4_c)), (18, (eI (wR (Int.fdiv (IntKind.u64.wrap (wR (a1 + b3))) (2 ^ (min (Int.toNat (1 : Int)) 64)))))), (19, (eI (wR ((wR (Int.fdiv (IntKind.u64.wrap (wR (a1 + b3))) (2 ^ (min (Int.toNat (1 : Int)) 64)))) + m2)))), (20, (eI a1))] ?_
      refine aU aG 2 ?_
      refine bC ?_
      exact aJ (aI (⟨rfl, _, _, _, _, _, .eq (by kernel_rfl), hO, hN, h0⟩))
    refine aX aG 4 [] [(80, (aK (decide ((wR (b3 - m2)) = (1 : Int)))))] ?_
    refine bM h0 (fun h0 => ?_) (fun h0 => ?_)
    · refine aX aG 2 [1, 3, 80] [(14, (eI a1))] ?_
      refine aX aG 2 [] [(15, (eI m2))] ?_
      refine dO (fun T H => ∃ aA : List aB, ∃ i14 : Int, Has T [(0, (.msl 2 lo0p 0 (List.length aA))), (2, (eI m2)), (14, (eI i14))] ∧ aP ⟨H0, [lo0p], []⟩ H [(lo0p, 2, List.map aD aA)] ∧ List.length aA = N0 ∧ gE cmp4 rec aA m2 i14 = some r) ?_ ?_
      · clear hO hN h0
        rintro T H ⟨aA, i14, hT, hO, hN, h0⟩
        refine bB hT ?_
        clear hT
        unfold gE at h0
        refine dO (fun T H => ∃ aA : List aB, Has T [(0, (.msl 2 lo0p 0 (List.length aA)))] ∧ aP ⟨H0, [lo0p], []⟩ H [(lo0p, 2, List.map aD aA)] ∧ List.length aA = N0 ∧ gG cmp4 rec aA = some r) ?_ ?_
        · clear hO hN h0
          rintro T H ⟨aA, hT, hO, hN, h0⟩
          refine bB hT ?_
          clear hT
          unfold gG at h0
          refine bI ?_
          obtain rfl := oI h0
          exact aJ (bA (pO (x := (.tup [])) (by kernel_rfl) (aV.refl _) ⟨rfl, hO.ext, hO.at 0 (by kernel_rfl), by simp only [List.length_map]; exact hN.trans hN0⟩))
        refine aX aG 2 [2] [(17, (eI m2))] ?_
        refine bQ 6 ?_
        refine cU [(0, (.msl 2 lo0p 0 (List.length aA))), (14, (eI i14)), (17, (eI m2))] ?_
        refine cO (fun T H => ∃ aA : List aB, ∃ k17 : Int, Has T [(0, (.msl 2 lo0p 0 (List.length aA))), (14, (eI i14)), (17, (eI k17))] ∧ aP ⟨H0, [lo0p], []⟩ H [(lo0p, 2, List.map aD aA)] ∧ List.length aA = N0 ∧ jP cmp4 rec aA i14 k17 = some r) ?_ ⟨aA, m2, .eq (by kernel_rfl), hO, hN, h0⟩
        clear hO hN h0
        rintro T H ⟨aA, k17, hT, hO, hN, h0⟩
        refine bB hT ?_
        clear hT
        unfold jP at h0
        obtain ⟨rr0, hl0, h0⟩ := aW h0
        refine cF (by kernel_rfl) (fun (s : List aB × Int) T H => Has T [(0, (.msl 2 lo0p 0 (List.length s.1))), (14, (eI i14)), (17, (eI s.2))] ∧ aP ⟨H0, [lo0p], []⟩ H [(lo0p, 2, List.map aD s.1)] ∧ List.length s.1 = N0) hl0 ⟨.eq (by kernel_rfl), hO, hN⟩ ?_
        clear hO hN
        rintro k0 s out1 T H ⟨hT, hO, hN⟩ h1 ho0
        obtain ⟨aA, k17⟩ := s
        replace h1 : jQ cmp4 rec i14 aA k17 = some out1 := h1
        try dsimp only at hT
        refine bB hT ?_
        clear hT
        unfold jQ at h1
        refine aQ ?_
        refine aX aG 3 [] [(110, (aK (decide (i14 < k17))))] ?_
        refine bM h1 (fun h1 => ?_) (fun h1 => ?_)
        · refine bN ?_
          refine bF [(0, (.msl 2 lo0p 0 (List.length aA))), (14, (eI i14)), (17, (eI k17))] ?_
          refine aQ ?_
          refine bQ 7 ?_
          refine kU (kP []) aG 18 ?_
          obtain ⟨c25, h1⟩ := bL h1
          refine dK 9 [0 ≤ (wR (k17 - (1 : Int))) ∧ (wR (k17 - (1 : Int))) < (lN aA)] ⟨c25, trivial⟩ ?_
          refine kT 0 lo0p 2 (0 + Int.toNat (wR (k17 - (1 : Int)))) (aD (gD aA (wR (k17 - (1 : Int))))) (aD (gD aA (wR (k17 - (1 : Int))))) (List.map aD aA) hO (cN c25) ?_
          obtain ⟨c26, h1⟩ := bL h1
          refine dK 13 [0 ≤ k17 ∧ k17 < (lN aA)] ⟨c26, trivial⟩ ?_
          refine kT 0 lo0p 2 (0 + Int.toNat k17) (aD (gD aA k17)) (aD (gD aA k17)) (List.map aD aA) hO (cN c26) ?_
          obtain ⟨c27, h1⟩ := bL h1
          refine dK 15 [0 ≤ k17 ∧ k17 < (lN aA)] ⟨c27, trivial⟩ ?_
          refine qT 0 lo0p 2 (0 + Int.toNat k17) (aD (gD aA k17)) (aD (gD aA (wR (k17 - (1 : Int))))) (List.map aD aA) [(lo0p, 2, List.map aD (List.set aA (Int.toNat k17) (gD aA (wR (k17 - (1 : Int))))))] hO (cN c27) (by simp only [List.set, nH]) ?_
          intro H hO
          replace hN : List.length (List.set aA (Int.toNat k17) (gD aA (wR (k17 - (1 : Int))))) = N0 := by simpa using hN
          obtain ⟨c28, h1⟩ := bL h1
          refine dK 17 [0 ≤ (wR (k17 - (1 : Int))) ∧ (wR (k17 - (1 : Int))) < (lN aA)] ⟨c28, trivial⟩ ?_
          refine qT 0 lo0p 2 (0 + Int.toNat (wR (k17 - (1 : Int)))) (aD (gD (List.set aA (Int.toNat k17) (gD aA (wR (k17 - (1 : Int))))) (wR (k17 - (1 : Int))))) (aD (gD aA k17)) (List.map aD (List.set aA (Int.toNat k17) (gD aA (wR (k17 - (1 : Int)))))) [(lo0p, 2, List.map aD (List.set (List.set aA (Int.toNat k17) (gD aA (wR (k17 - (1 : Int))))) (Int.toNat (wR (k17 - (1 : Int)))) (gD aA k17)))] hO (wB c28 (by simp [])) (by simp only [List.set, nH]) ?_
          intro H hO
          replace hN : List.length (List.set (List.set aA (Int.toNat k17) (gD aA (wR (k17 - (1 : Int))))) (Int.toNat (wR (k17 - (1 : Int)))) (gD aA k17)) = N0 := by simpa using hN
          refine wT (by kernel_rfl) ?_
          refine cS (l := [(0, (.msl 2 lo0p 0 (List.length (List.set (List.set aA (Int.toNat k17) (gD aA (wR (k17 - (1 : Int))))) (Int.toNat (wR (k17 - (1 : Int)))) (gD aA k17))))), (14, (eI i14)), (17, (eI k17))]) ⟨[(0, (.msl 2 lo0p 0 (List.length aA))), (14, (eI i14)), (17, (eI k17))], by kernel_rfl, rfl, ⟨aV.eq (by simp []), aV.refl _, aV.refl _, trivial⟩⟩ ?_
          refine aJ (aZ (aI (?_)))
          refine aU aG 3 ?_
          refine bC ?_
          exact aJ (aI (⟨rfl, _, (oI h1).symm, .eq (by kernel_rfl), hO, hN⟩))
        refine eB 6 ?_
        obtain rfl := oI h1
        obtain rfl : _ = rr0 := ho0
        replace h0 : gG cmp4 rec aA = some r := h0
        exact aJ (aY (aY (bP (aI (⟨rfl, _, .eq (by kernel_rfl), hO, hN, h0⟩)))))
      refine bQ 4 ?_
      refine cU [(0, (.msl 2 lo0p 0 (List.length aA))), (2, (eI m2)), (4, (.fn (.func cmp4_f) cmp4_a cmp4_c)), (14, (eI a1)), (15, (eI m2))] ?_
      refine cO (fun T H => ∃ aA : List aB, ∃ i14 : Int, ∃ j15 : Int, Has T [(0, (.msl 2 lo0p 0 (List.length aA))), (2, (eI m2)), (4, (.fn (.func cmp4_f) cmp4_a cmp4_c)), (14, (eI i14)), (15, (eI j15))] ∧ aP ⟨H0, [lo0p], []⟩ H [(lo0p, 2, List.map aD aA)] ∧ List.length aA = N0 ∧ kG cmp4 rec aA m2 i14 j15 = some r) ?_ ⟨aA, a1, m2, .eq (by kernel_rfl), hO, hN, h0⟩
      clear hO hN h0
      rintro T H ⟨aA, i14, j15, hT, hO, hN, h0⟩
      refine bB hT ?_
      clear hT
      unfold kG at h0
      obtain ⟨rr0, hl0, h0⟩ := aW h0
      refine cF (by kernel_rfl) (fun (s : List aB × Int × Int) T H => Has T [(0, (.msl 2 lo0p 0 (List.length s.1))), (2, (eI m2)), (4, (.fn (.func cmp4_f) cmp4_a cmp4_c)), (14, (eI s.2.1)), (15, (eI s.2.2))] ∧ aP ⟨H0, [lo0p], []⟩ H [(lo0p, 2, List.map aD s.1)] ∧ List.length s.1 = N0) hl0 ⟨.eq (by kernel_rfl), hO, hN⟩ ?_
      clear hO hN
      rintro k0 s out1 T H ⟨hT, hO, hN⟩ h1 ho0
      obtain ⟨aA, i14, j15⟩ := s
      replace h1 : kF cmp4 rec m2 aA i14 j15 = some out1 := h1
      try dsimp only at hT
      refine bB hT ?_
      clear hT
      unfold kF at h1
      refine aQ ?_
      refine aX aG 3 [] [(85, (aK (decide (i14 < j15))))] ?_
      refine bM h1 (fun h1 => ?_) (fun h1 => ?_)
      · refine bN ?_
        refine bF [(0, (.msl 2 lo0p 0 (List.length aA))), (2, (eI m2)), (4, (.fn (.func cmp4_f) cmp4_a cmp4_c)), (14, (eI i14)), (15, (eI j15))] ?_
        refine bQ 5 ?_
        refine aQ ?_
        refine aU aG 7 ?_
        obtain ⟨c30, h1⟩ := bL h1
        refine yR [0 ≤ (1 : Int)] ⟨c30, trivial⟩ ?_
        refine bS [] [(16, (eI (wR (Int.fdiv (IntKind.u64.wrap (wR (i14 + j15))) (2 ^ (min (Int.toNat (1 : Int)) 64))))))] ?_
        refine aQ ?_
        refine kU (kP [101]) aG 12 ?_
        obtain ⟨c31, h1⟩ := bL h1
        refine dK 4 [0 ≤ m2 ∧ m2 < (lN aA)] ⟨c31, trivial⟩ ?_
        refine kT 0 lo0p 2 (0 + Int.toNat m2) (aD (gD aA m2)) (aD (gD aA m2)) (List.map aD aA) hO (cN c31) ?_
        obtain ⟨c32, h1⟩ := bL h1
        refine dK 8 [0 ≤ (wR (Int.fdiv (IntKind.u64.wrap (wR (i14 + j15))) (2 ^ (min (Int.toNat (1 : Int)) 64)))) ∧ (wR (Int.fdiv (IntKind.u64.wrap (wR (i14 + j15))) (2 ^ (min (Int.toNat (1 : Int)) 64)))) < (lN aA)] ⟨c32, trivial⟩ ?_
        refine kT 0 lo0p 2 (0 + Int.toNat (wR (Int.fdiv (IntKind.u64.wrap (wR (i14 + j15))) (2 ^ (min (Int.toNat (1 : Int)) 64))))) (aD (gD aA (wR (Int.fdiv (IntKind.u64.wrap (wR (i14 + j15))) (2 ^ (min (Int.toNat (1 : Int)) 64)))))) (aD (gD aA (wR (Int.fdiv (IntKind.u64.wrap (wR (i14 + j15))) (2 ^ (min (Int.toNat (1 : Int)) 64)))))) (List.map aD aA) hO (cN c32) ?_
        obtain ⟨x33, hx34, h1⟩ := aW h1
        refine xL (cmp4_h (gD aA m2) (gD aA (wR (Int.fdiv (IntKind.u64.wrap (wR (i14 + j15))) (2 ^ (min (Int.toNat (1 : Int)) 64))))) _ hx34) hO ?_
        intro H hO
        refine qO ?_
        refine bS [] [(103, (aK (!(decide (x33 < (0 : Int))))))] ?_
        refine bM h1 (fun h1 => ?_) (fun h1 => ?_)
        · refine aU aG 3 ?_
          refine bC ?_
          exact aJ (aZ (aI (⟨rfl, _, (oI h1).symm, .eq (by kernel_rfl), hO, hN⟩)))
        refine aU aG 2 ?_
        refine bC ?_
        exact aJ (aZ (aI (⟨rfl, _, (oI h1).symm, .eq (by kernel_rfl), hO, hN⟩)))
      refine eB 4 ?_
      obtain rfl := oI h1
      obtain rfl : _ = rr0 := ho0
      replace h0 : gE cmp4 rec aA m2 i14 = some r := h0
      exact aJ (aY (aY (bP (aI (⟨rfl, _, _, .eq (by kernel_rfl), hO, hN, h0⟩)))))
    refine bN ?_
    exact aJ (aI (⟨rfl, _, .eq (by kernel_rfl), hO, hN, h0⟩))
  refine aX aG 4 [] [(28, (aK (decide ((wR (m2 - a1)) = (1 : Int)))))] ?_
  refine bM h0 (fun h0 => ?_) (fun h0 => ?_)
  · refine aX aG 2 [2, 28] [(10, (eI m2))] ?_
    refine aX aG 2 [3] [(11, (eI b3))] ?_
    refine dO (fun T H => ∃ aA : List aB, ∃ i10 : Int, Has T [(0, (.msl 2 lo0p 0 (List.length aA))), (1, (eI a1)), (10, (eI i10))] ∧ aP ⟨H0, [lo0p], []⟩ H [(lo0p, 2, List.map aD aA)] ∧ List.length aA = N0 ∧ fO cmp4 rec aA a1 i10 = some r) ?_ ?_
    · clear hO hN h0
      rintro T H ⟨aA, i10, hT, hO, hN, h0⟩
      refine bB hT ?_
      clear hT
      unfold fO at h0
      refine dO (fun T H => ∃ aA : List aB, Has T [(0, (.msl 2 lo0p 0 (List.length aA)))] ∧ aP ⟨H0, [lo0p], []⟩ H [(lo0p, 2, List.map aD aA)] ∧ List.length aA = N0 ∧ fN cmp4 rec aA = some r) ?_ ?_
      · clear hO hN h0
        rintro T H ⟨aA, hT, hO, hN, h0⟩
        refine bB hT ?_
        clear hT
        unfold fN at h0
        refine bI ?_
        obtain rfl := oI h0
        exact aJ (bA (pO (x := (.tup [])) (by kernel_rfl) (aV.refl _) ⟨rfl, hO.ext, hO.at 0 (by kernel_rfl), by simp only [List.length_map]; exact hN.trans hN0⟩))
      refine aX aG 2 [1] [(13, (eI a1))] ?_
      refine bQ 2 ?_
      refine cU [(0, (.msl 2 lo0p 0 (List.length aA))), (10, (eI i10)), (13, (eI a1))] ?_
      refine cO (fun T H => ∃ aA : List aB, ∃ k13 : Int, Has T [(0, (.msl 2 lo0p 0 (List.length aA))), (10, (eI i10)), (13, (eI k13))] ∧ aP ⟨H0, [lo0p], []⟩ H [(lo0p, 2, List.map aD aA)] ∧ List.length aA = N0 ∧ jL cmp4 rec aA i10 k13 = some r) ?_ ⟨aA, a1, .eq (by kernel_rfl), hO, hN, h0⟩
      clear hO hN h0
      rintro T H ⟨aA, k13, hT, hO, hN, h0⟩
      refine bB hT ?_
      clear hT
      unfold jL at h0
      obtain ⟨rr0, hl0, h0⟩ := aW h0
      refine cF (by kernel_rfl) (fun (s : List aB × Int) T H => Has T [(0, (.msl 2 lo0p 0 (List.length s.1))), (10, (eI i10)), (13, (eI s.2))] ∧ aP ⟨H0, [lo0p], []⟩ H [(lo0p, 2, List.map aD s.1)] ∧ List.length s.1 = N0) hl0 ⟨.eq (by kernel_rfl), hO, hN⟩ ?_
      clear hO hN
      rintro k0 s out1 T H ⟨hT, hO, hN⟩ h1 ho0
      obtain ⟨aA, k13⟩ := s
      replace h1 : kA cmp4 rec i10 aA k13 = some out1 := h1
      try dsimp only at hT
      refine bB hT ?_
      clear hT
      unfold kA at h1
      refine aQ ?_
      refine aX aG 4 [] [(58, (aK (decide (k13 < (wR (i10 - (1 : Int)))))))] ?_
      refine bM h1 (fun h1 => ?_) (fun h1 => ?_)
      · refine bN ?_
        refine bF [(0, (.msl 2 lo0p 0 (List.length aA))), (10, (eI i10)), (13, (eI k13))] ?_
        refine aQ ?_
        refine bQ 3 ?_
        refine kU (kP []) aG 18 ?_
        obtain ⟨c39, h1⟩ := bL h1
        refine dK 9 [0 ≤ (wR (k13 + (1 : Int))) ∧ (wR (k13 + (1 : Int))) < (lN aA)] ⟨c39, trivial⟩ ?_
        refine kT 0 lo0p 2 (0 + Int.toNat (wR (k13 + (1 : Int)))) (aD (gD aA (wR (k13 + (1 : Int))))) (aD (gD aA (wR (k13 + (1 : Int))))) (List.map aD aA) hO (cN c39) ?_
        obtain ⟨c40, h1⟩ := bL h1
        refine dK 13 [0 ≤ k13 ∧ k13 < (lN aA)] ⟨c40, trivial⟩ ?_
        refine kT 0 lo0p 2 (0 + Int.toNat k13) (aD (gD aA k13)) (aD (gD aA k13)) (List.map aD aA) hO (cN c40) ?_
        obtain ⟨c41, h1⟩ := bL h1
        refine dK 15 [0 ≤ k13 ∧ k13 < (lN aA)] ⟨c41, trivial⟩ ?_
        refine qT 0 lo0p 2 (0 + Int.toNat k13) (aD (gD aA k13)) (aD (gD aA (wR (k13 + (1 : Int))))) (List.map aD aA) [(lo0p, 2, List.map aD (List.set aA (Int.toNat k13) (gD aA (wR (k13 + (1 : Int))))))] hO (cN c41) (by simp only [List.set, nH]) ?_
        intro H hO
        replace hN : List.length (List.set aA (Int.toNat k13) (gD aA (wR (k13 + (1 : Int))))) = N0 := by simpa using hN
        obtain ⟨c42, h1⟩ := bL h1
        refine dK 17 [0 ≤ (wR (k13 + (1 : Int))) ∧ (wR (k13 + (1 : Int))) < (lN aA)] ⟨c42, trivial⟩ ?_
        refine qT 0 lo0p 2 (0 + Int.toNat (wR (k13 + (1 : Int)))) (aD (gD (List.set aA (Int.toNat k13) (gD aA (wR (k13 + (1 : Int))))) (wR (k13 + (1 : Int))))) (aD (gD aA k13)) (List.map aD (List.set aA (Int.toNat k13) (gD aA (wR (k13 + (1 : Int)))))) [(lo0p, 2, List.map aD (List.set (List.set aA (Int.toNat k13) (gD aA (wR (k13 + (1 : Int))))) (Int.toNat (wR (k13 + (1 : Int)))) (gD aA k13)))] hO (wB c42 (by simp [])) (by simp only [List.set, nH]) ?_
        intro H hO
        replace hN : List.length (List.set (List.set aA (Int.toNat k13) (gD aA (wR (k13 + (1 : Int))))) (Int.toNat (wR (k13 + (1 : Int)))) (gD aA k13)) = N0 := by simpa using hN
        refine wT (by kernel_rfl) ?_
        refine cS (l := [(0, (.msl 2 lo0p 0 (List.length (List.set (List.set aA (Int.toNat k13) (gD aA (wR (k13 + (1 : Int))))) (Int.toNat (wR (k13 + (1 : Int)))) (gD aA k13))))), (10, (eI i10)), (13, (eI k13))]) ⟨[(0, (.msl 2 lo0p 0 (List.length aA))), (10, (eI i10)), (13, (eI k13))], by kernel_rfl, rfl, ⟨aV.eq (by simp []), aV.refl _, aV.refl _, trivial⟩⟩ ?_
        refine aJ (aZ (aI (?_)))
        refine aU aG 3 ?_
        refine bC ?_
        exact aJ (aI (⟨rfl, _, (oI h1).symm, .eq (by kernel_rfl), hO, hN⟩))
      refine eB 2 ?_
      obtain rfl := oI h1
      obtain rfl : _ = rr0 := ho0
      replace h0 : fN cmp4 rec aA = some r := h0
      exact aJ (aY (aY (bP (aI (⟨rfl, _, .eq (by kernel_rfl), hO, hN, h0⟩)))))
    refine bQ 0 ?_
    refine cU [(0, (.msl 2 lo0p 0 (List.length aA))), (1, (eI a1)), (4, (.fn (.func cmp4_f) cmp4_a cmp4_c)), (10, (eI m2)), (11, (eI b3))] ?_
    refine cO (fun T H => ∃ aA : List aB, ∃ i10 : Int, ∃ j11 : Int, Has T [(0, (.msl 2 lo0p 0 (List.length aA))), (1, (eI a1)), (4, (.fn (.func cmp4_f) cmp4_a cmp4_c)), (10, (eI i10)), (11, (eI j11))] ∧ aP ⟨H0, [lo0p], []⟩ H [(lo0p, 2, List.map aD aA)] ∧ List.length aA = N0 ∧ jT cmp4 rec aA a1 i10 j11 = some r) ?_ ⟨aA, m2, b3, .eq (by kernel_rfl), hO, hN, h0⟩
    clear hO hN h0
    rintro T H ⟨aA, i10, j11, hT, hO, hN, h0⟩
    refine bB hT ?_
    clear hT
    unfold jT at h0
    obtain ⟨rr0, hl0, h0⟩ := aW h0
    refine cF (by kernel_rfl) (fun (s : List aB × Int × Int) T H => Has T [(0, (.msl 2 lo0p 0 (List.length s.1))), (1, (eI a1)), (4, (.fn (.func cmp4_f) cmp4_a cmp4_c)), (10, (eI s.2.1)), (11, (eI s.2.2))] ∧ aP ⟨H0, [lo0p], []⟩ H [(lo0p, 2, List.map aD s.1)] ∧ List.length s.1 = N0) hl0 ⟨.eq (by kernel_rfl), hO, hN⟩ ?_
    clear hO hN
    rintro k0 s out1 T H ⟨hT, hO, hN⟩ h1 ho0
    obtain ⟨aA, i10, j11⟩ := s
    replace h1 : kB cmp4 rec a1 aA i10 j11 = some out1 := h1
    try dsimp only at hT
    refine bB hT ?_
    clear hT
    unfold kB at h1
    refine aQ ?_
    refine aX aG 3 [] [(33, (aK (decide (i10 < j11))))] ?_
    refine bM h1 (fun h1 => ?_) (fun h1 => ?_)
    · refine bN ?_
      refine bF [(0, (.msl 2 lo0p 0 (List.length aA))), (1, (eI a1)), (4, (.fn (.func cmp4_f) cmp4_a cmp4_c)), (10, (eI i10)), (11, (eI j11))] ?_
      refine bQ 1 ?_
      refine aQ ?_
      refine aU aG 7 ?_
      obtain ⟨c44, h1⟩ := bL h1
      refine yR [0 ≤ (1 : Int)] ⟨c44, trivial⟩ ?_
      refine bS [] [(12, (eI (wR (Int.fdiv (IntKind.u64.wrap (wR (i10 + j11))) (2 ^ (min (Int.toNat (1 : Int)) 64))))))] ?_
      refine aQ ?_
      refine kU (kP [49]) aG 11 ?_
      obtain ⟨c45, h1⟩ := bL h1
      refine dK 4 [0 ≤ (wR (Int.fdiv (IntKind.u64.wrap (wR (i10 + j11))) (2 ^ (min (Int.toNat (1 : Int)) 64)))) ∧ (wR (Int.fdiv (IntKind.u64.wrap (wR (i10 + j11))) (2 ^ (min (Int.toNat (1 : Int)) 64)))) < (lN aA)] ⟨c45, trivial⟩ ?_
      refine kT 0 lo0p 2 (0 + Int.toNat (wR (Int.fdiv (IntKind.u64.wrap (wR (i10 + j11))) (2 ^ (min (Int.toNat (1 : Int)) 64))))) (aD (gD aA (wR (Int.fdiv (IntKind.u64.wrap (wR (i10 + j11))) (2 ^ (min (Int.toNat (1 : Int)) 64)))))) (aD (gD aA (wR (Int.fdiv (IntKind.u64.wrap (wR (i10 + j11))) (2 ^ (min (Int.toNat (1 : Int)) 64)))))) (List.map aD aA) hO (cN c45) ?_
      obtain ⟨c46, h1⟩ := bL h1
      refine dK 8 [0 ≤ a1 ∧ a1 < (lN aA)] ⟨c46, trivial⟩ ?_
      refine kT 0 lo0p 2 (0 + Int.toNat a1) (aD (gD aA a1)) (aD (gD aA a1)) (List.map aD aA) hO (cN c46) ?_
      obtain ⟨x47, hx48, h1⟩ := aW h1
      refine xL (cmp4_h (gD aA (wR (Int.fdiv (IntKind.u64.wrap (wR (i10 + j11))) (2 ^ (min (Int.toNat (1 : Int)) 64))))) (gD aA a1) _ hx48) hO ?_
      intro H hO
      refine qO ?_
      refine bS [] [(50, (aK (decide (x47 < (0 : Int)))))] ?_
      refine bM h1 (fun h1 => ?_) (fun h1 => ?_)
      · refine aU aG 3 ?_
        refine bC ?_
        exact aJ (aZ (aI (⟨rfl, _, (oI h1).symm, .eq (by kernel_rfl), hO, hN⟩)))
      refine aU aG 2 ?_
      refine bC ?_
      exact aJ (aZ (aI (⟨rfl, _, (oI h1).symm, .eq (by kernel_rfl), hO, hN⟩)))
    refine eB 0 ?_
    obtain rfl := oI h1
    obtain rfl : _ = rr0 := ho0
    replace h0 : fO cmp4 rec aA a1 i10 = some r := h0
    exact aJ (aY (aY (bP (aI (⟨rfl, _, _, .eq (by kernel_rfl), hO, hN, h0⟩)))))
  refine bN ?_
  exact aJ (aI (⟨rfl, _, .eq (by kernel_rfl), hO, hN, h0⟩))

theorem nI (cmp4_f : Nat) (cmp4_a cmp4_c : List V) (cmp4 : aB → aB → Option Int) (cmp4_h : ∀ a0 a1 r, cmp4 a0 a1 = some r → bU Try.prog cmp4_f (cmp4_a ++ [(aD a0), (aD a1)] ++ cmp4_c) (eI r)) : ∀ (k : Nat) (lo0p : Nat) (aA : (List aB)) (a1 : Int) (m2 : Int) (b3 : Int) (r : List aB), gI cmp4 k aA a1 m2 b3 = some r → kX Try.prog 141 lo0p 2 (List.map aD aA) (List.map aD r) [(.msl 2 lo0p 0 (List.length aA)), (eI a1), (eI m2), (eI b3), (.fn (.func cmp4_f) cmp4_a cmp4_c)] (.tup [])
  | 0, _, _, _, _, _, _, h => by cases h
  | k + 1, lo0p, aA, a1, m2, b3, r, h => sJ cmp4_f cmp4_a cmp4_c cmp4 cmp4_h _ (nI cmp4_f cmp4_a cmp4_c cmp4 cmp4_h k) lo0p aA a1 m2 b3 r h

theorem oD (lo0p : Nat) (aA : (List aB)) (a1 : Int) (m2 : Int) (b3 : Int) (cmp4_f : Nat) (cmp4_a cmp4_c : List V) (cmp4 : aB → aB → Option Int) (cmp4_h : ∀ a0 a1 r, cmp4 a0 a1 = some r → bU Try.prog cmp4_f (cmp4_a ++ [(aD a0), (aD a1)] ++ cmp4_c) (eI r)) (r : List aB) (h0 : eE aA a1 m2 b3 cmp4 = some r) : kX Try.prog 141 lo0p 2 (List.map aD aA) (List.map aD r) [(.msl 2 lo0p 0 (List.length aA)), (eI a1), (eI m2), (eI b3), (.fn (.func cmp4_f) cmp4_a cmp4_c)] (.tup []) := by
  obtain ⟨k, hk⟩ := EJ h0
  exact nI cmp4_f cmp4_a cmp4_c cmp4 cmp4_h k lo0p aA a1 m2 b3 r hk

end Go.Abs
