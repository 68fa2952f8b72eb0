/- What the law PackCuts stands on: the framework, the given functions as plain functions, their walks, and the plain laws; part 3. -/
import Derived.Test.YtfepdngmgjmniaaPackCutsZ2
set_option linter.unusedSimpArgs false
set_option linter.unusedVariables false
namespace Go.Abs
open Go
noncomputable def uG (l0 : (List aC)) : Option ((List aC) × Int) :=
  (cP l0 (fun y0 => rE y0)).bind fun x1 =>
  cond x1
  (some ([], (2 : Int)))
  ((cP l0 (fun y0 => rA y0)).bind fun x5 =>
  cond x5
  (some ([], (13 : Int)))
  ((eS l0).bind fun x9 =>
  (cY x9 (fun y0 y1 => mF y0 y1)).bind fun x12 =>
  (rF x12 (fun y0 => qV y0)).bind fun x15 =>
  some (x15.1, x15.2)))

noncomputable def rJ (out4 : List aC) : Option ((List aC) × Int) :=
  (uG out4).bind fun x9 =>
  some (x9.1, x9.2)

noncomputable def mE (t16 : (List aG)) (t17 : Int) (out4 : List aC) (t18 : Int) : Option ((List aC × Int) ⊕ ((List aC))) :=
  cond (decide (t18 < t17))
  (bI (0 ≤ t18 ∧ t18 < ((List.length t16 : Nat) : Int)) <|
  bI ((List.length out4 + List.length ([aC.mk ((List.getD t16 (Int.toNat t18) default).Row) (((List.getD t16 (Int.toNat t18) default).Span).From) (1 : Int), aC.mk ((List.getD t16 (Int.toNat t18) default).Row) (((List.getD t16 (Int.toNat t18) default).Span).To) (-1 : Int)])) * 40 ≤ 140737488355328 ∧ List.length out4 + List.length ([aC.mk ((List.getD t16 (Int.toNat t18) default).Row) (((List.getD t16 (Int.toNat t18) default).Span).From) (1 : Int), aC.mk ((List.getD t16 (Int.toNat t18) default).Row) (((List.getD t16 (Int.toNat t18) default).Span).To) (-1 : Int)]) ≤ 9223372036854775807) <|
  some (.inl (out4 ++ ([aC.mk ((List.getD t16 (Int.toNat t18) default).Row) (((List.getD t16 (Int.toNat t18) default).Span).From) (1 : Int), aC.mk ((List.getD t16 (Int.toNat t18) default).Row) (((List.getD t16 (Int.toNat t18) default).Span).To) (-1 : Int)]), IntKind.i64.wrap (t18 + (1 : Int)))))
  (some (.inr out4))

noncomputable def uU (out4 : List aC) (t16 : (List aG)) (t17 : Int) (t18 : Int) : Option ((List aC) × Int) :=
  (lp (fun s => mE t16 t17 s.1 s.2) (out4, t18)).bind (fun rr => rJ rr)

noncomputable def sE (l0 : (List aG)) : Option ((List aC) × Int) :=
  (cW l0 (fun y0 => qB y0)).bind fun x1 =>
  cond x1
  (some ([], (2 : Int)))
  (cond (decide ((4096 : Int) < ((List.length l0 : Nat) : Int)))
  (some ([], (7 : Int)))
  (bI (0 ≤ (IntKind.i64.wrap ((2 : Int) * ((List.length l0 : Nat) : Int))) ∧ (40 : Int) * (IntKind.i64.wrap ((2 : Int) * ((List.length l0 : Nat) : Int))) ≤ 281474976710656 ∧ (IntKind.i64.wrap ((2 : Int) * ((List.length l0 : Nat) : Int))) ≤ 9223372036854775807) <|
  uU ([] : List aC) l0 ((List.length l0 : Nat) : Int) (0 : Int)))

noncomputable def oH (tD : (List aB) → Option Bool) (jG : (List aC)) (t4 : Bool) (nQ : (List aJ)) (iX : Bool) (t14 : (List aJ)) (t15 : (List aB)) : Option ((Bool × (List aJ) × Bool) ⊕ (Bool × (List aJ) × Bool)) :=
  (pG t14).bind fun x7 =>
  (cL (iX && (!(!x7))) (oT nQ t14)).bind fun x12 =>
  (cL (!((!x7) || (iX && (decide ((0 : Int) ≤ x12))))) (tD t15)).bind fun x15 =>
  cond (((!x7) || (iX && (decide ((0 : Int) ≤ x12)))) || (!x15))
  (some (.inr (false, nQ, iX)))
  (some (.inl (t4, t14, true)))

noncomputable def wF (tD : (List aB) → Option Bool) (t4 : Bool) (nQ : (List aJ)) (iX : Bool) (jG : (List aC)) : Option Bool :=
  (lV (fun st t14 t15 => rnd (fun (s : Bool × (List aJ) × Bool) => oH tD jG s.1 s.2.1 s.2.2 t14 t15) st) jG (.inl (t4, nQ, iX))).bind (Sum.elim (fun (s : Bool × (List aJ) × Bool) =>
  (some true))
  (fun (s : Bool × (List aJ) × Bool) =>
  (some s.1)))

noncomputable def rP (l0 : (List aC)) (tD : (List aB) → Option Bool) : Option Bool :=
  cond (decide ((4096 : Int) < ((List.length l0 : Nat) : Int)))
  (some false)
  ((nS l0).bind fun x5 =>
  wF tD false ([]) false x5)

noncomputable def tP (l0 : (List aC)) : Option Bool :=
  (rP l0 (fun y0 => nP y0)).bind fun x1 =>
  some x1

noncomputable def qQ (eX : Int) : Option Int :=
  some eX

noncomputable def mB (t24 : (List aB)) (t25 : Int) (v3 : Int) (eX : Int) (t26 : Int) : Option ((Int × Int × Int) ⊕ (Int)) :=
  cond (decide (t26 < t25))
  (bI (0 ≤ t26 ∧ t26 < ((List.length t24 : Nat) : Int)) <|
  some (.inl (IntKind.i64.wrap (v3 + ((List.getD t24 (Int.toNat t26) default).Net)), if (IntKind.i64.wrap (v3 + ((List.getD t24 (Int.toNat t26) default).Net))) < eX then (IntKind.i64.wrap (v3 + ((List.getD t24 (Int.toNat t26) default).Net))) else eX, IntKind.i64.wrap (t26 + (1 : Int)))))
  (some (.inr eX))

noncomputable def rC (v3 : Int) (eX : Int) (t24 : (List aB)) (t25 : Int) (t26 : Int) : Option Int :=
  (lp (fun s => mB t24 t25 s.1 s.2.1 s.2.2) (v3, eX, t26)).bind (fun rr => qQ rr)

noncomputable def oV (f0 : (List aB)) (v3 : Int) (eX : Int) : Option Int :=
  rC v3 eX f0 ((List.length f0 : Nat) : Int) (0 : Int)

noncomputable def tE (f0 : (List aB)) : Option Int :=
  (nP f0).bind fun x1 =>
  cond ((!x1) || (decide (((List.length f0 : Nat) : Int) = (0 : Int))))
  (some (0 : Int))
  (bI (0 ≤ (0 : Int) ∧ (0 : Int) < ((List.length f0 : Nat) : Int)) <|
  cond (decide (((List.getD f0 (Int.toNat (0 : Int)) default).At) = (-1 : Int)))
  (bI (0 ≤ (0 : Int) ∧ (0 : Int) < ((List.length f0 : Nat) : Int)) <|
  oV f0 (0 : Int) ((List.getD f0 (Int.toNat (0 : Int)) default).Net))
  (oV f0 (0 : Int) (0 : Int)))

noncomputable def pY (f0 : (List aB)) : Option Bool :=
  (nP f0).bind fun x1 =>
  (cL x1 (tE f0)).bind fun x4 =>
  some (x1 && (decide ((0 : Int) ≤ x4)))

noncomputable def sG (l0 : (List aC)) : Option Bool :=
  (rP l0 (fun y0 => pY y0)).bind fun x1 =>
  some x1

noncomputable def oQ (l0 : (List aC)) : Option ((List aC)) :=
  some l0

noncomputable def iZ {σ : Type} (eE : σ → (List aJ) → (List aB) → Option (σ × Bool)) (t9c0 : (List aC)) (sg : σ) (t10 : (List aJ)) (t11 : (List aB)) : Option ((σ) ⊕ (σ)) :=
  (eE sg t10 t11).bind fun x7 =>
  cond (!x7.2)
  (some (.inr x7.1))
  (some (.inl x7.1))

noncomputable def pH {σ : Type} (eE : σ → (List aJ) → (List aB) → Option (σ × Bool)) (sg : σ) (t9c0 : (List aC)) : Option σ :=
  (lV (fun st t10 t11 => rnd (fun (s : σ) => iZ eE t9c0 s t10 t11) st) t9c0 (.inl sg)).bind (Sum.elim (fun (s : σ) =>
  (some s))
  (fun (s : σ) =>
  (some s)))

noncomputable def lZ {σ : Type} (eE : σ → (List aJ) → (List aB) → Option (σ × Bool)) (t1 : (List aC)) (sg0 : σ) : Option σ :=
  (tP t1).bind fun x1 =>
  cond (!x1)
  (some sg0)
  ((nS t1).bind fun x5 =>
  pH eE sg0 x5)

noncomputable def sM (n3 : Int) : Option Int :=
  some n3

noncomputable def nD (t6 : (List aB)) (t7 : Int) (n3 : Int) (t8 : Int) : Option ((Int × Int) ⊕ (Int)) :=
  cond (decide (t8 < t7))
  (bI (0 ≤ t8 ∧ t8 < ((List.length t6 : Nat) : Int)) <|
  some (.inl (IntKind.i64.wrap (n3 + (if (0 : Int) > ((List.getD t6 (Int.toNat t8) default).Net) then (0 : Int) else ((List.getD t6 (Int.toNat t8) default).Net))), IntKind.i64.wrap (t8 + (1 : Int)))))
  (some (.inr n3))

noncomputable def wK (n3 : Int) (t6 : (List aB)) (t7 : Int) (t8 : Int) : Option Int :=
  (lp (fun s => nD t6 t7 s.1 s.2) (n3, t8)).bind (fun rr => sM rr)

noncomputable def pN (f0 : (List aB)) : Option Int :=
  wK (0 : Int) f0 ((List.length f0 : Nat) : Int) (0 : Int)

noncomputable def lI (t0 : Int) (t1 : (List aQ)) (t2 : Int) : Option ((List aQ) × Int) :=
  bI (0 ≤ t2 ∧ t2 < ((List.length t1 : Nat) : Int)) <|
  some (List.set t1 (Int.toNat t2) (aQ.mk (List.getD t1 (Int.toNat t2) default).From t0), IntKind.i64.wrap (t2 + (1 : Int)))

noncomputable def uZ (out3 : List aQ) : Option (List aQ) :=
  some out3

noncomputable def kV  (out3 : List aQ) (bZ : Int) : Option ((List aQ × Int) ⊕ ((List aQ))) :=
  cond (decide (bZ < ((List.length out3 : Nat) : Int)))
  ((lI (1125899906842624 : Int) out3 bZ).bind fun x14 =>
  some (.inl (x14.1, x14.2)))
  (some (.inr out3))

noncomputable def uX (out3 : List aQ) (bZ : Int) : Option (List aQ) :=
  (lp (fun s => kV s.1 s.2) (out3, bZ)).bind (fun rr => uZ rr)

noncomputable def qX (out3 : List aQ) (bZ : Int) : Option (List aQ) :=
  uX out3 bZ

noncomputable def qY (out3 : List aQ) (bZ : Int) (t12 : (List aB)) (t13 : Int) (t14 : Int) : Option ((List aQ × Int × Int) ⊕ ((List aQ × Int))) :=
  some (.inl (out3, bZ, IntKind.i64.wrap (t14 + (1 : Int))))

noncomputable def kX (t12 : (List aB)) (t13 : Int) (t14 : Int) (t31 : Int) (out3 : List aQ) (bZ : Int) (j7 : aB) (t32 : Int) : Option ((List aQ × Int × aB × Int) ⊕ ((List aQ × Int))) :=
  cond (decide (t32 < t31))
  ((lI j7.At out3 bZ).bind fun x30 =>
  some (.inl (x30.1, x30.2, j7, IntKind.i64.wrap (t32 + (1 : Int)))))
  (some (.inr (out3, bZ)))

noncomputable def vA (out3 : List aQ) (bZ : Int) (j7 : aB) (t12 : (List aB)) (t13 : Int) (t14 : Int) (t31 : Int) (t32 : Int) : Option ((List aQ × Int × Int) ⊕ ((List aQ × Int))) :=
  (lp (fun s => kX t12 t13 t14 t31 s.1 s.2.1 s.2.2.1 s.2.2.2) (out3, bZ, j7, t32)).bind (fun rr => qY rr.1 rr.2 t12 t13 t14)

noncomputable def qW (out3 : List aQ) (bZ : Int) (j7 : aB) (t12 : (List aB)) (t13 : Int) (t14 : Int) : Option ((List aQ × Int × Int) ⊕ ((List aQ × Int))) :=
  vA out3 bZ j7 t12 t13 t14 (IntKind.i64.wrap (0 - j7.Net)) (0 : Int)

noncomputable def kU (t12 : (List aB)) (t13 : Int) (t14 : Int) (t19 : Int) (out3 : List aQ) (bZ : Int) (j7 : aB) (t20 : Int) : Option ((List aQ × Int × aB × Int) ⊕ ((List aQ × Int × aB))) :=
  cond (decide (t20 < t19))
  (bI ((List.length out3 + List.length ([aQ.mk j7.At 0])) * 16 ≤ 140737488355328 ∧ List.length out3 + List.length ([aQ.mk j7.At 0]) ≤ 9223372036854775807) <|
  some (.inl (out3 ++ ([aQ.mk j7.At 0]), bZ, j7, IntKind.i64.wrap (t20 + (1 : Int)))))
  (some (.inr (out3, bZ, j7)))

noncomputable def uO (out3 : List aQ) (bZ : Int) (j7 : aB) (t12 : (List aB)) (t13 : Int) (t14 : Int) (t19 : Int) (t20 : Int) : Option ((List aQ × Int × Int) ⊕ ((List aQ × Int))) :=
  (lp (fun s => kU t12 t13 t14 t19 s.1 s.2.1 s.2.2.1 s.2.2.2) (out3, bZ, j7, t20)).bind (fun rr => qW rr.1 rr.2.1 rr.2.2 t12 t13 t14)

noncomputable def mJ (t12 : (List aB)) (t13 : Int) (out3 : List aQ) (bZ : Int) (t14 : Int) : Option ((List aQ × Int × Int) ⊕ ((List aQ × Int))) :=
  cond (decide (t14 < t13))
  (bI (0 ≤ t14 ∧ t14 < ((List.length t12 : Nat) : Int)) <|
  uO out3 bZ (List.getD t12 (Int.toNat t14) default) t12 t13 t14 ((List.getD t12 (Int.toNat t14) default).Net) (0 : Int))
  (some (.inr (out3, bZ)))

noncomputable def uT (out3 : List aQ) (bZ : Int) (t12 : (List aB)) (t13 : Int) (t14 : Int) : Option (List aQ) :=
  (lp (fun s => mJ t12 t13 s.1 s.2.1 s.2.2) (out3, bZ, t14)).bind (fun rr => qX rr.1 rr.2)

noncomputable def sQ (f0 : (List aB)) : Option (List aQ) :=
  (pN f0).bind fun x1 =>
  bI (0 ≤ x1 ∧ (16 : Int) * x1 ≤ 281474976710656 ∧ x1 ≤ 9223372036854775807) <|
  uT ([] : List aQ) (0 : Int) f0 ((List.length f0 : Nat) : Int) (0 : Int)

noncomputable def mQ (l0 : (List aC)) (tR : (List aC)) (n4 : Int) (t22 : (List aJ)) (t23 : (List aB)) : Option ((Int) ⊕ (Int)) :=
  (pN t23).bind fun x12 =>
  some (.inl (IntKind.i64.wrap (n4 + x12)))

noncomputable def lH (r8 : (List aJ)) (t37 : (List aQ)) (t38 : Int) (out7 : List aG) (t39 : Int) : Option ((List aG × Int) ⊕ ((List aG))) :=
  cond (decide (t39 < t38))
  (bI (0 ≤ t39 ∧ t39 < ((List.length t37 : Nat) : Int)) <|
  (nR r8).bind fun x31 =>
  bI ((List.length out7 + List.length ([aG.mk x31 (List.getD t37 (Int.toNat t39) default)])) * 40 ≤ 140737488355328 ∧ List.length out7 + List.length ([aG.mk x31 (List.getD t37 (Int.toNat t39) default)]) ≤ 9223372036854775807) <|
  some (.inl (out7 ++ ([aG.mk x31 (List.getD t37 (Int.toNat t39) default)]), IntKind.i64.wrap (t39 + (1 : Int)))))
  (some (.inr out7))

noncomputable def pX (out7 : List aG) (r8 : (List aJ)) (t37 : (List aQ)) (t38 : Int) (t39 : Int) : Option ((List aG) ⊕ (List aG)) :=
  (lp (fun s => lH r8 t37 t38 s.1 s.2) (out7, t39)).bind (fun rr => some (.inl rr))

noncomputable def mR (tM : (List aC)) (out7 : List aG) (t34 : (List aJ)) (t35 : (List aB)) : Option ((List aG) ⊕ (List aG)) :=
  (sQ t35).bind fun x23 =>
  pX out7 t34 x23 ((List.length x23 : Nat) : Int) (0 : Int)

noncomputable def pZ (out7 : List aG) (tM : (List aC)) : Option ((List aG) × Int) :=
  (lZ (fun st t34 t35 => rnd (fun (s : List aG) => mR tM s t34 t35) st) tM (.inl out7)).bind (Sum.elim (fun (s : List aG) =>
  (some (s, (0 : Int))))
  (fun (s : List aG) =>
  (none)))

noncomputable def tJ (l0 : (List aC)) (n4 : Int) (tR : (List aC)) : Option ((List aG) × Int) :=
  (lZ (fun st t22 t23 => rnd (fun (s : Int) => mQ l0 tR s t22 t23) st) tR (.inl n4)).bind (Sum.elim (fun (s : Int) =>
  (cond (decide ((4096 : Int) < s))
  (some ([], (7 : Int)))
  (bI (0 ≤ s ∧ (40 : Int) * s ≤ 281474976710656 ∧ s ≤ 9223372036854775807) <|
  (oQ l0).bind fun x20 =>
  pZ ([] : List aG) x20)))
  (fun (s : Int) =>
  (none)))

noncomputable def rD (l0 : (List aC)) : Option ((List aG) × Int) :=
  (tP l0).bind fun x1 =>
  cond (!x1)
  (some ([], (2 : Int)))
  ((sG l0).bind fun x5 =>
  cond (!x5)
  (some ([], (20 : Int)))
  ((oQ l0).bind fun x10 =>
  tJ l0 (0 : Int) x10))

noncomputable def rO (l0 : (List aG)) : Option ((List aG) × Int) :=
  (sE l0).bind fun x1 =>
  cond (!decide (x1.2 = (0 : Int)))
  (some ([], x1.2))
  ((rD x1.1).bind fun x5 =>
  some (x5.1, x5.2))

noncomputable def cD (eq2 : aG → aG → Option Bool)  : Option Bool :=
  some true

noncomputable def bX (eq2 : aG → aG → Option Bool) (s21 : (List aG)) (t15 : (List aG)) (t16 : Int) (t17 : Int) : Option ((Int) ⊕ (Unit ⊕ Bool)) :=
  cond (decide (t17 < t16))
  (bI (0 ≤ t17 ∧ t17 < ((List.length t15 : Nat) : Int)) <|
  bI (0 ≤ t17 ∧ t17 < ((List.length s21 : Nat) : Int)) <|
  (eq2 (List.getD t15 (Int.toNat t17) default) (List.getD s21 (Int.toNat t17) default)).bind fun x7 =>
  cond (!x7)
  (some (.inr (.inr false)))
  (some (.inl (IntKind.i64.wrap (t17 + (1 : Int))))))
  (some (.inr (.inl ())))

noncomputable def cI (eq2 : aG → aG → Option Bool) (s21 : (List aG)) (t15 : (List aG)) (t16 : Int) (t17 : Int) : Option Bool :=
  (lp (fun s => bX eq2 s21 t15 t16 s) t17).bind (Sum.elim (fun rr => cD eq2 ) (fun rr => some rr))

noncomputable def cJ (s10 : (List aG)) (s21 : (List aG)) (eq2 : aG → aG → Option Bool) : Option Bool :=
  cond (!decide (((List.length s10 : Nat) : Int) = ((List.length s21 : Nat) : Int)))
  (some false)
  (cI eq2 s21 s10 ((List.length s10 : Nat) : Int) (0 : Int))

noncomputable def nJ (x0 : aG) (y1 : aG) : Option Bool :=
  (cL ((decide (x0.Span.From = y1.Span.From)) && ((decide (x0.Span.To = y1.Span.To)) && true)) (tS x0.Row y1.Row)).bind fun x1 =>
  some (((decide (x0.Span.From = y1.Span.From)) && ((decide (x0.Span.To = y1.Span.To)) && true)) && x1)

noncomputable def pQ (a0 : (List aG)) (b1 : (List aG)) : Option Bool :=
  (cJ a0 b1 (fun y0 y1 => nJ y0 y1)).bind fun x1 =>
  some x1

noncomputable def qS  : Option Bool :=
  some true

noncomputable def oR (a0 : (List aJ)) (b1 : (List aJ)) (i5 : Int) : Option ((Int) ⊕ (Unit ⊕ Bool)) :=
  cond (decide (i5 < ((List.length a0 : Nat) : Int)))
  (bI (0 ≤ i5 ∧ i5 < ((List.length a0 : Nat) : Int)) <|
  bI (0 ≤ i5 ∧ i5 < ((List.length b1 : Nat) : Int)) <|
  cond (!((decide (((List.getD a0 (Int.toNat i5) default).Kind) = ((List.getD b1 (Int.toNat i5) default).Kind))) && ((decide (((List.getD a0 (Int.toNat i5) default).Num) = ((List.getD b1 (Int.toNat i5) default).Num))) && ((nO ((List.getD a0 (Int.toNat i5) default).Text) ((List.getD b1 (Int.toNat i5) default).Text)) && true))))
  (some (.inr (.inr false)))
  (some (.inl (IntKind.i64.wrap (i5 + (1 : Int))))))
  (some (.inr (.inl ())))

noncomputable def vC (a0 : (List aJ)) (b1 : (List aJ)) (i5 : Int) : Option Bool :=
  (lp (fun s => oR a0 b1 s) i5).bind (Sum.elim (fun rr => qS ) (fun rr => some rr))

noncomputable def sK (a0 : (List aJ)) (b1 : (List aJ)) : Option Bool :=
  cond (!decide (((List.length a0 : Nat) : Int) = ((List.length b1 : Nat) : Int)))
  (some false)
  (vC a0 b1 (0 : Int))

noncomputable def rK  : Option Bool :=
  some true

noncomputable def oW (a0 : (List aG)) (b1 : (List aG)) (i5 : Int) : Option ((Int) ⊕ (Unit ⊕ Bool)) :=
  cond (decide (i5 < ((List.length a0 : Nat) : Int)))
  (bI (0 ≤ i5 ∧ i5 < ((List.length a0 : Nat) : Int)) <|
  bI (0 ≤ i5 ∧ i5 < ((List.length b1 : Nat) : Int)) <|
  bI ((((!(!((decide ((((List.getD a0 (Int.toNat i5) default).Span).From) = (((List.getD b1 (Int.toNat i5) default).Span).From))) && ((decide ((((List.getD a0 (Int.toNat i5) default).Span).To) = (((List.getD b1 (Int.toNat i5) default).Span).To))) && true))))) = true → 0 ≤ i5 ∧ i5 < ((List.length a0 : Nat) : Int))) <|
  bI ((((!(!((decide ((((List.getD a0 (Int.toNat i5) default).Span).From) = (((List.getD b1 (Int.toNat i5) default).Span).From))) && ((decide ((((List.getD a0 (Int.toNat i5) default).Span).To) = (((List.getD b1 (Int.toNat i5) default).Span).To))) && true))))) = true → 0 ≤ i5 ∧ i5 < ((List.length b1 : Nat) : Int))) <|
  (cL (!(!((decide ((((List.getD a0 (Int.toNat i5) default).Span).From) = (((List.getD b1 (Int.toNat i5) default).Span).From))) && ((decide ((((List.getD a0 (Int.toNat i5) default).Span).To) = (((List.getD b1 (Int.toNat i5) default).Span).To))) && true)))) (sK ((List.getD a0 (Int.toNat i5) default).Row) ((List.getD b1 (Int.toNat i5) default).Row))).bind fun x7 =>
  cond ((!((decide ((((List.getD a0 (Int.toNat i5) default).Span).From) = (((List.getD b1 (Int.toNat i5) default).Span).From))) && ((decide ((((List.getD a0 (Int.toNat i5) default).Span).To) = (((List.getD b1 (Int.toNat i5) default).Span).To))) && true))) || (!x7))
  (some (.inr (.inr false)))
  (some (.inl (IntKind.i64.wrap (i5 + (1 : Int))))))
  (some (.inr (.inl ())))

noncomputable def uW (a0 : (List aG)) (b1 : (List aG)) (i5 : Int) : Option Bool :=
  (lp (fun s => oW a0 b1 s) i5).bind (Sum.elim (fun rr => rK ) (fun rr => some rr))

noncomputable def nF (a0 : (List aG)) (b1 : (List aG)) : Option Bool :=
  cond (!decide (((List.length a0 : Nat) : Int) = ((List.length b1 : Nat) : Int)))
  (some false)
  (uW a0 b1 (0 : Int))

noncomputable def sH  : Option Bool :=
  (jD (5 : Int) (9 : Int)).bind fun x1 =>
  (jD (2 : Int) (5 : Int)).bind fun x4 =>
  (rO ([x1, x4])).bind fun x7 =>
  (jD (1 : Int) (10 : Int)).bind fun x10 =>
  (jD (3 : Int) (5 : Int)).bind fun x13 =>
  (rO ([x10, x13])).bind fun x16 =>
  (cL ((decide (x7.2 = (0 : Int))) && (decide (x16.2 = (0 : Int)))) (jD (2 : Int) (9 : Int))).bind fun x19 =>
  (cL ((decide (x7.2 = (0 : Int))) && (decide (x16.2 = (0 : Int)))) (pQ x7.1 ([x19]))).bind fun x22 =>
  (cL (((decide (x7.2 = (0 : Int))) && (decide (x16.2 = (0 : Int)))) && x22) (jD (1 : Int) (5 : Int))).bind fun x25 =>
  (cL (((decide (x7.2 = (0 : Int))) && (decide (x16.2 = (0 : Int)))) && x22) (jD (3 : Int) (10 : Int))).bind fun x28 =>
  (cL (((decide (x7.2 = (0 : Int))) && (decide (x16.2 = (0 : Int)))) && x22) (nF x16.1 ([x25, x28]))).bind fun x31 =>
  (cL ((((decide (x7.2 = (0 : Int))) && (decide (x16.2 = (0 : Int)))) && x22) && x31) (jD (-1 : Int) (0 : Int))).bind fun x34 =>
  (cL ((((decide (x7.2 = (0 : Int))) && (decide (x16.2 = (0 : Int)))) && x22) && x31) (qO x34)).bind fun x37 =>
  (cL (((((decide (x7.2 = (0 : Int))) && (decide (x16.2 = (0 : Int)))) && x22) && x31) && x37) (jD (3 : Int) (3 : Int))).bind fun x40 =>
  (cL (((((decide (x7.2 = (0 : Int))) && (decide (x16.2 = (0 : Int)))) && x22) && x31) && x37) (qO x40)).bind fun x43 =>
  some ((((((decide (x7.2 = (0 : Int))) && (decide (x16.2 = (0 : Int)))) && x22) && x31) && x37) && (!x43))

noncomputable def oD (x0 : Int) (y1 : Int) : Option Bool :=
  (iW x0).bind fun x1 =>
  (cL x1 (iW y1)).bind fun x4 =>
  some ((x1 && (!x4)) || (decide (x0 < y1)))

noncomputable def rG (out5 : List aG) : Option (List aG) :=
  some out5

noncomputable def oY (t1 : Int) (out5 : List aG) (t9 : (List aG)) (t10 : Int) (t11 : Int) : Option ((List aG × Int) ⊕ ((List aG))) :=
  some (.inl (out5, IntKind.i64.wrap (t11 + (1 : Int))))

noncomputable def mC (t1 : Int) (t9 : (List aG)) (t10 : Int) (out5 : List aG) (t11 : Int) : Option ((List aG × Int) ⊕ ((List aG))) :=
  cond (decide (t11 < t10))
  (bI (0 ≤ t11 ∧ t11 < ((List.length t9 : Nat) : Int)) <|
  (oD (((List.getD t9 (Int.toNat t11) default).Span).From) t1).bind fun x9 =>
  cond x9
  ((nR ((List.getD t9 (Int.toNat t11) default).Row)).bind fun x13 =>
  bI ((List.length out5 + List.length ([aG.mk x13 (aQ.mk (((List.getD t9 (Int.toNat t11) default).Span).From) (if t1 < (((List.getD t9 (Int.toNat t11) default).Span).To) then t1 else (((List.getD t9 (Int.toNat t11) default).Span).To)))])) * 40 ≤ 140737488355328 ∧ List.length out5 + List.length ([aG.mk x13 (aQ.mk (((List.getD t9 (Int.toNat t11) default).Span).From) (if t1 < (((List.getD t9 (Int.toNat t11) default).Span).To) then t1 else (((List.getD t9 (Int.toNat t11) default).Span).To)))]) ≤ 9223372036854775807) <|
  oY t1 (out5 ++ ([aG.mk x13 (aQ.mk (((List.getD t9 (Int.toNat t11) default).Span).From) (if t1 < (((List.getD t9 (Int.toNat t11) default).Span).To) then t1 else (((List.getD t9 (Int.toNat t11) default).Span).To)))])) t9 t10 t11)
  (oY t1 out5 t9 t10 t11))
  (some (.inr out5))

noncomputable def uV (t1 : Int) (out5 : List aG) (t9 : (List aG)) (t10 : Int) (t11 : Int) : Option (List aG) :=
  (lp (fun s => mC t1 t9 t10 s.1 s.2) (out5, t11)).bind (fun rr => rG rr)

noncomputable def sZ (l0 : (List aG)) (t1 : Int) : Option (List aG) :=
  uV t1 ([] : List aG) l0 ((List.length l0 : Nat) : Int) (0 : Int)

noncomputable def qD (out5 : List aG) : Option (List aG) :=
  some out5

noncomputable def oE (l0 : (List aG)) (t1 : Int) (out5 : List aG) (i6 : Int) : Option ((List aG × Int) ⊕ ((List aG))) :=
  some (.inl (out5, IntKind.i64.wrap (i6 + (1 : Int))))

noncomputable def nZ (l0 : (List aG)) (t1 : Int) (out5 : List aG) (i6 : Int) (s7 : aQ) : Option ((List aG × Int) ⊕ ((List aG))) :=
  bI (0 ≤ i6 ∧ i6 < ((List.length l0 : Nat) : Int)) <|
  cond (decide ((((List.getD l0 (Int.toNat i6) default).Span).From) < t1))
  (bI (0 ≤ i6 ∧ i6 < ((List.length l0 : Nat) : Int)) <|
  bI (List.length ((List.getD l0 (Int.toNat i6) default).Row) * 32 ≤ 140737488355328 ∧ List.length ((List.getD l0 (Int.toNat i6) default).Row) ≤ 9223372036854775807) <|
  bI ((List.length out5 + List.length ([aG.mk ((List.getD l0 (Int.toNat i6) default).Row) s7])) * 40 ≤ 140737488355328 ∧ List.length out5 + List.length ([aG.mk ((List.getD l0 (Int.toNat i6) default).Row) s7]) ≤ 9223372036854775807) <|
  oE l0 t1 (out5 ++ ([aG.mk ((List.getD l0 (Int.toNat i6) default).Row) s7])) i6)
  (oE l0 t1 out5 i6)

noncomputable def lF (l0 : (List aG)) (t1 : Int) (out5 : List aG) (i6 : Int) : Option ((List aG × Int) ⊕ ((List aG))) :=
  cond (decide (i6 < ((List.length l0 : Nat) : Int)))
  (bI (0 ≤ i6 ∧ i6 < ((List.length l0 : Nat) : Int)) <|
  cond (decide (t1 < (((List.getD l0 (Int.toNat i6) default).Span).To)))
  (nZ l0 t1 out5 i6 (aQ.mk ((List.getD l0 (Int.toNat i6) default).Span).From t1))
  (nZ l0 t1 out5 i6 ((List.getD l0 (Int.toNat i6) default).Span)))
  (some (.inr out5))

noncomputable def tL (l0 : (List aG)) (t1 : Int) (out5 : List aG) (i6 : Int) : Option (List aG) :=
  (lp (fun s => lF l0 t1 s.1 s.2) (out5, i6)).bind (fun rr => qD rr)

noncomputable def qU (l0 : (List aG)) (t1 : Int) : Option (List aG) :=
  tL l0 t1 ([] : List aG) (0 : Int)

noncomputable def sC (out5 : List aG) : Option (List aG) :=
  some out5

noncomputable def pW (t1 : Int) (out5 : List aG) (t9 : (List aG)) (t10 : Int) (t11 : Int) : Option ((List aG × Int) ⊕ ((List aG))) :=
  some (.inl (out5, IntKind.i64.wrap (t11 + (1 : Int))))

noncomputable def nE (t1 : Int) (t9 : (List aG)) (t10 : Int) (out5 : List aG) (t11 : Int) : Option ((List aG × Int) ⊕ ((List aG))) :=
  cond (decide (t11 < t10))
  (bI (0 ≤ t11 ∧ t11 < ((List.length t9 : Nat) : Int)) <|
  (oD t1 (((List.getD t9 (Int.toNat t11) default).Span).To)).bind fun x9 =>
  cond x9
  ((nR ((List.getD t9 (Int.toNat t11) default).Row)).bind fun x13 =>
  bI ((List.length out5 + List.length ([aG.mk x13 (aQ.mk (if t1 > (((List.getD t9 (Int.toNat t11) default).Span).From) then t1 else (((List.getD t9 (Int.toNat t11) default).Span).From)) (((List.getD t9 (Int.toNat t11) default).Span).To))])) * 40 ≤ 140737488355328 ∧ List.length out5 + List.length ([aG.mk x13 (aQ.mk (if t1 > (((List.getD t9 (Int.toNat t11) default).Span).From) then t1 else (((List.getD t9 (Int.toNat t11) default).Span).From)) (((List.getD t9 (Int.toNat t11) default).Span).To))]) ≤ 9223372036854775807) <|
  pW t1 (out5 ++ ([aG.mk x13 (aQ.mk (if t1 > (((List.getD t9 (Int.toNat t11) default).Span).From) then t1 else (((List.getD t9 (Int.toNat t11) default).Span).From)) (((List.getD t9 (Int.toNat t11) default).Span).To))])) t9 t10 t11)
  (pW t1 out5 t9 t10 t11))
  (some (.inr out5))

noncomputable def wW (t1 : Int) (out5 : List aG) (t9 : (List aG)) (t10 : Int) (t11 : Int) : Option (List aG) :=
  (lp (fun s => nE t1 t9 t10 s.1 s.2) (out5, t11)).bind (fun rr => sC rr)

noncomputable def uF (l0 : (List aG)) (t1 : Int) : Option (List aG) :=
  wW t1 ([] : List aG) l0 ((List.length l0 : Nat) : Int) (0 : Int)

noncomputable def rH (out5 : List aG) : Option (List aG) :=
  some out5

noncomputable def oZ (l0 : (List aG)) (t1 : Int) (out5 : List aG) (i6 : Int) : Option ((List aG × Int) ⊕ ((List aG))) :=
  some (.inl (out5, IntKind.i64.wrap (i6 + (1 : Int))))

noncomputable def oS (l0 : (List aG)) (t1 : Int) (out5 : List aG) (i6 : Int) (s7 : aQ) : Option ((List aG × Int) ⊕ ((List aG))) :=
  bI (0 ≤ i6 ∧ i6 < ((List.length l0 : Nat) : Int)) <|
  cond (decide (t1 < (((List.getD l0 (Int.toNat i6) default).Span).To)))
  (bI (0 ≤ i6 ∧ i6 < ((List.length l0 : Nat) : Int)) <|
  bI (List.length ((List.getD l0 (Int.toNat i6) default).Row) * 32 ≤ 140737488355328 ∧ List.length ((List.getD l0 (Int.toNat i6) default).Row) ≤ 9223372036854775807) <|
  bI ((List.length out5 + List.length ([aG.mk ((List.getD l0 (Int.toNat i6) default).Row) s7])) * 40 ≤ 140737488355328 ∧ List.length out5 + List.length ([aG.mk ((List.getD l0 (Int.toNat i6) default).Row) s7]) ≤ 9223372036854775807) <|
  oZ l0 t1 (out5 ++ ([aG.mk ((List.getD l0 (Int.toNat i6) default).Row) s7])) i6)
  (oZ l0 t1 out5 i6)

noncomputable def mI (l0 : (List aG)) (t1 : Int) (out5 : List aG) (i6 : Int) : Option ((List aG × Int) ⊕ ((List aG))) :=
  cond (decide (i6 < ((List.length l0 : Nat) : Int)))
  (bI (0 ≤ i6 ∧ i6 < ((List.length l0 : Nat) : Int)) <|
  cond (decide ((((List.getD l0 (Int.toNat i6) default).Span).From) < t1))
  (oS l0 t1 out5 i6 (aQ.mk t1 ((List.getD l0 (Int.toNat i6) default).Span).To))
  (oS l0 t1 out5 i6 ((List.getD l0 (Int.toNat i6) default).Span)))
  (some (.inr out5))

noncomputable def vG (l0 : (List aG)) (t1 : Int) (out5 : List aG) (i6 : Int) : Option (List aG) :=
  (lp (fun s => mI l0 t1 s.1 s.2) (out5, i6)).bind (fun rr => rH rr)

noncomputable def sV (l0 : (List aG)) (t1 : Int) : Option (List aG) :=
  vG l0 t1 ([] : List aG) (0 : Int)

noncomputable def qM (l0 : (List aG)) (t1 : Int) : Option Bool :=
  (sH ).bind fun x1 =>
  (cL x1 (sZ l0 t1)).bind fun x4 =>
  (cL x1 (qU l0 t1)).bind fun x7 =>
  (cL x1 (nF x4 x7)).bind fun x10 =>
  (cL (x1 && x10) (uF l0 t1)).bind fun x13 =>
  (cL (x1 && x10) (sV l0 t1)).bind fun x16 =>
  (cL (x1 && x10) (nF x13 x16)).bind fun x19 =>
  (cL ((x1 && x10) && x19) (pQ l0 l0)).bind fun x22 =>
  some (((x1 && x10) && x19) && x22)

end Go.Abs
namespace Go.Abs
open Go Go.RowKit
def zH (x : aJ) : Prop := AU x.Kind ∧ AU x.Num ∧ (fun s => s.size ≤ maxLen) x.Text ∧ True

def xF (x : aQ) : Prop := AU x.From ∧ AU x.To ∧ True

def sD (x : aG) : Prop := (fun l => (∀ a ∈ l, zH a) ∧ l.length * 32 ≤ 140737488351232) x.Row ∧ xF x.Span ∧ True

end Go.Abs
namespace Go.Abs
open Go Go.RowKit Go.Proofs
noncomputable def tt : TT := ⟨TJ Try.prog, MT Try.prog⟩

theorem aH : eF Try.prog tt := eF.of Try.prog

theorem mY (nH : Int) (to1 : Int) (r : aG) (h0 : jD nH to1 = some r) : bS Try.prog 44 [(eI nH), (eI to1)] (aF r) := by
  intro H0
  refine BZ aH Try.func44 (by kernel_rfl) (by kernel_rfl) (by kernel_rfl) ?_
  have hO := aO.start H0
  unfold jD at h0
  refine aR ?_
  refine aT aH 1 ?_
  refine oK 3 (.agg [(.sl true 0 (fun _ => .bad)), (eI 0), (eI 0)]) (aF (aG.mk ([]) (aQ.mk 0 0))) (by kernel_rfl) (by kernel_rfl) (by kernel_rfl) (zN (xs := [(.sl true 0 (fun _ => .bad)), (eI 0), (eI 0)]) (ys := [(eL aM ([])), (eI 0), (eI 0)]) ⟨fM, aX.refl _, aX.refl _, trivial⟩) (by kernel_rfl) (by kernel_rfl) hO ?_
  intro lo1 H hO
  refine cF ?_
  refine bR [] [(4, (.lp lo1 0 0))] ?_
  refine aR ?_
  refine aT aH 7 ?_
  refine bK 1 ?_
  refine qL (xs := [(aM (aJ.mk (1 : Int) (1 : Int) ByteArray.empty))]) (k := 3) (by kernel_rfl) (by kernel_rfl) ?_
  refine bK 6 ?_
  refine gM 0 lo1 3 0 (aF (aG.mk ([]) (aQ.mk 0 0))) (.agg [(dO [(aM (aJ.mk (1 : Int) (1 : Int) ByteArray.empty))]), (eI ((aQ.mk nH to1).From)), (eI ((aQ.mk nH to1).To))]) [(aF (aG.mk ([]) (aQ.mk 0 0)))] [(lo1, 3, [(.agg [(dO [(aM (aJ.mk (1 : Int) (1 : Int) ByteArray.empty))]), (eI ((aQ.mk nH to1).From)), (eI ((aQ.mk nH to1).To))])])] hO rfl (by kernel_rfl) ?_
  intro H hO
  refine cF ?_
  refine HA 0 lo1 3 (.agg [(dO [(aM (aJ.mk (1 : Int) (1 : Int) ByteArray.empty))]), (eI ((aQ.mk nH to1).From)), (eI ((aQ.mk nH to1).To))]) (aF (aG.mk ([aJ.mk (1 : Int) (1 : Int) ByteArray.empty]) (aQ.mk nH to1))) [(lo1, 3, [(aF (aG.mk ([aJ.mk (1 : Int) (1 : Int) ByteArray.empty]) (aQ.mk nH to1)))])] hO (by kernel_rfl) (by kernel_rfl) (zN (xs := [(dO [(aM (aJ.mk (1 : Int) (1 : Int) ByteArray.empty))]), (eI ((aQ.mk nH to1).From)), (eI ((aQ.mk nH to1).To))]) (ys := [(eL aM ([aJ.mk (1 : Int) (1 : Int) ByteArray.empty])), (eI ((aQ.mk nH to1).From)), (eI ((aQ.mk nH to1).To))]) ⟨BT (l := [aJ.mk (1 : Int) (1 : Int) ByteArray.empty]), aX.refl _, aX.refl _, trivial⟩) (by kernel_rfl) ?_
  intro H hO
  refine bH [(4, (.lp lo1 0 0))] ?_
  refine bL ?_
  obtain rfl := oI h0
  exact aK (QM0 (.inr rfl) (rs := [.cell 4 32]) (xs := [(aF (aG.mk ([aJ.mk (1 : Int) (1 : Int) ByteArray.empty]) (aQ.mk nH to1)))]) (x := (aF (aG.mk ([aJ.mk (1 : Int) (1 : Int) ByteArray.empty]) (aQ.mk nH to1)))) (by kernel_rfl) (vP (lo := lo1) (k := 3) (y := (aF (aG.mk ([aJ.mk (1 : Int) (1 : Int) ByteArray.empty]) (aQ.mk nH to1)))) (x := (aF (aG.mk ([aJ.mk (1 : Int) (1 : Int) ByteArray.empty]) (aQ.mk nH to1)))) 0 hO (by kernel_rfl) (by kernel_rfl) (by kernel_rfl) (by kernel_rfl) qC) (by kernel_rfl) ⟨rfl, hO.out⟩)

theorem rW (s0 : (List aG)) (f1_f : Nat) (f1_a f1_c : List V) (f1 : aG → Option Bool) (f1_h : ∀ a0 r, f1 a0 = some r → bS Try.prog f1_f (f1_a ++ [(aF a0)] ++ f1_c) (aL r)) (r : Int) (h0 : eV s0 f1 = some r) : bS Try.prog 116 [(eL aF s0), (.fn (.func f1_f) f1_a f1_c)] (eI r) := by
  intro H0
  refine cG Try.func116 ?_
  have hO := aO.start H0
  unfold eV at h0
  refine aZ aH 1 [] [] ?_
  refine cT (fun T H => Has T [] ∧ aO ⟨H0, [], []⟩ H [] ∧ dA f1  = some r) ?_ ?_
  · clear hO h0
    rintro T H ⟨hT, hO, h0⟩
    refine bB hT ?_
    clear hT
    unfold dA at h0
    refine bW aH 1 [(4, (eI (-1 : Int)))] ?_
    refine bL ?_
    obtain rfl := oI h0
    exact aK (Q_r hO)
  refine aZ aH 3 [] [(7, (eI (lN s0))), (8, (eI (0 : Int)))] ?_
  refine bQ 0 ?_
  refine cO [(0, (eL aF s0)), (1, (.fn (.func f1_f) f1_a f1_c)), (7, (eI (lN s0))), (8, (eI (0 : Int)))] ?_
  refine cK (fun T H => ∃ t7 : Int, ∃ t8 : Int, Has T [(0, (eL aF s0)), (1, (.fn (.func f1_f) f1_a f1_c)), (7, (eI t7)), (8, (eI t8))] ∧ aO ⟨H0, [], []⟩ H [] ∧ eG f1 s0 t7 t8 = some r) ?_ ⟨(lN s0), (0 : Int), .eq (by kernel_rfl), hO, h0⟩
  clear hO h0
  rintro T H ⟨t7, t8, hT, hO, h0⟩
  refine bB hT ?_
  clear hT
  unfold eG at h0
  obtain ⟨rr0, hl0, h0⟩ := aW h0
  refine cA (by kernel_rfl) (fun (s : Int) T H => Has T [(0, (eL aF s0)), (1, (.fn (.func f1_f) f1_a f1_c)), (7, (eI t7)), (8, (eI s))] ∧ aO ⟨H0, [], []⟩ H []) hl0 ⟨.eq (by kernel_rfl), hO⟩ ?_
  clear hO
  rintro k0 s out1 T H ⟨hT, hO⟩ h1 ho0
  obtain ⟨t8, rfl⟩ : ∃ x, x = s := ⟨_, rfl⟩
  replace h1 : eH f1 s0 t7 t8 = some out1 := h1
  refine bB hT ?_
  clear hT
  unfold eH at h1
  refine aZ aH 1 [] [(9, (aL (decide (t8 < t7))))] ?_
  refine aR ?_
  refine bM h1 (fun h1 => ?_) (fun h1 => ?_)
  · refine bN ?_
    refine bH [(0, (eL aF s0)), (1, (.fn (.func f1_f) f1_a f1_c)), (7, (eI t7)), (8, (eI t8))] ?_
    refine aR ?_
    refine bQ 1 ?_
    refine aZ aH 2 [] [(5, (eI t8))] ?_
    refine aR ?_
    refine aT aH 6 ?_
    obtain ⟨c2, h1⟩ := bJ h1
    refine pS 5 [0 ≤ t8 ∧ t8 < (lN s0)] ⟨c2, trivial⟩ ?_
    obtain ⟨x3, hx4, h1⟩ := aW h1
    refine cM (f1_h (gD s0 t8) _ hx4) hO ?_
    intro H hO
    refine cF ?_
    refine bR [] [(16, (aL x3))] ?_
    refine bM h1 (fun h1 => ?_) (fun h1 => ?_)
    · refine bW aH 2 [(4, (eI t8))] ?_
      refine bL ?_
      obtain rfl := oI h1
      obtain rfl : _ = rr0 := ho0
      replace h0 : some t8 = some r := h0
      obtain rfl := oI h0
      exact aK (bY (bC (bC (bY (bC (Q_r hO))))))
    refine bN ?_
    refine dF [(0, (eL aF s0)), (1, (.fn (.func f1_f) f1_a f1_c)), (7, (eI t7)), (8, (eI t8))] ?_
    refine aK (aV (aI (?_)))
    refine aT aH 2 ?_
    refine bD ?_
    exact aK (aI (⟨rfl, _, (oI h1).symm, .eq (by kernel_rfl), hO⟩))
  refine dS 0 ?_
  obtain rfl := oI h1
  obtain rfl : _ = rr0 := ho0
  replace h0 : dA f1  = some r := h0
  exact aK (aY (aY (bO (aI (⟨rfl, .eq (by kernel_rfl), hO, h0⟩)))))

theorem qG (s0 : (List aG)) (f1_f : Nat) (f1_a f1_c : List V) (f1 : aG → Option Bool) (f1_h : ∀ a0 r, f1 a0 = some r → bS Try.prog f1_f (f1_a ++ [(aF a0)] ++ f1_c) (aL r)) (r : Bool) (h0 : cW s0 f1 = some r) : bS Try.prog 74 [(eL aF s0), (.fn (.func f1_f) f1_a f1_c)] (aL r) := by
  intro H0
  refine cG Try.func74 ?_
  have hO := aO.start H0
  unfold cW at h0
  refine aZ aH 1 [] [] ?_
  refine aR ?_
  refine aT aH 5 ?_
  refine bK 2 ?_
  obtain ⟨x1, hx2, h0⟩ := aW h0
  refine cM (rW s0 f1_f f1_a f1_c f1 f1_h _ hx2) hO ?_
  intro H hO
  refine bD ?_
  refine bH [(4, (aL (decide ((0 : Int) ≤ x1))))] ?_
  refine bL ?_
  obtain rfl := oI h0
  exact aK (Q_r hO)

theorem sS (s0 : (List aJ)) (f1_f : Nat) (f1_a f1_c : List V) (f1 : aJ → Option Bool) (f1_h : ∀ a0 r, f1 a0 = some r → bS Try.prog f1_f (f1_a ++ [(aM a0)] ++ f1_c) (aL r)) (r : Int) (h0 : fH s0 f1 = some r) : bS Try.prog 100 [(eL aM s0), (.fn (.func f1_f) f1_a f1_c)] (eI r) := by
  intro H0
  refine cG Try.func100 ?_
  have hO := aO.start H0
  unfold fH at h0
  refine aZ aH 1 [] [] ?_
  refine cT (fun T H => Has T [] ∧ aO ⟨H0, [], []⟩ H [] ∧ dN f1  = some r) ?_ ?_
  · clear hO h0
    rintro T H ⟨hT, hO, h0⟩
    refine bB hT ?_
    clear hT
    unfold dN at h0
    refine bW aH 1 [(4, (eI (-1 : Int)))] ?_
    refine bL ?_
    obtain rfl := oI h0
    exact aK (Q_r hO)
  refine aZ aH 3 [] [(7, (eI (lN s0))), (8, (eI (0 : Int)))] ?_
  refine bQ 0 ?_
  refine cO [(0, (eL aM s0)), (1, (.fn (.func f1_f) f1_a f1_c)), (7, (eI (lN s0))), (8, (eI (0 : Int)))] ?_
  refine cK (fun T H => ∃ t7 : Int, ∃ t8 : Int, Has T [(0, (eL aM s0)), (1, (.fn (.func f1_f) f1_a f1_c)), (7, (eI t7)), (8, (eI t8))] ∧ aO ⟨H0, [], []⟩ H [] ∧ fC f1 s0 t7 t8 = some r) ?_ ⟨(lN s0), (0 : Int), .eq (by kernel_rfl), hO, h0⟩
  clear hO h0
  rintro T H ⟨t7, t8, hT, hO, h0⟩
  refine bB hT ?_
  clear hT
  unfold fC at h0
  obtain ⟨rr0, hl0, h0⟩ := aW h0
  refine cA (by kernel_rfl) (fun (s : Int) T H => Has T [(0, (eL aM s0)), (1, (.fn (.func f1_f) f1_a f1_c)), (7, (eI t7)), (8, (eI s))] ∧ aO ⟨H0, [], []⟩ H []) hl0 ⟨.eq (by kernel_rfl), hO⟩ ?_
  clear hO
  rintro k0 s out1 T H ⟨hT, hO⟩ h1 ho0
  obtain ⟨t8, rfl⟩ : ∃ x, x = s := ⟨_, rfl⟩
  replace h1 : fE f1 s0 t7 t8 = some out1 := h1
  refine bB hT ?_
  clear hT
  unfold fE at h1
  refine aZ aH 1 [] [(9, (aL (decide (t8 < t7))))] ?_
  refine aR ?_
  refine bM h1 (fun h1 => ?_) (fun h1 => ?_)
  · refine bN ?_
    refine bH [(0, (eL aM s0)), (1, (.fn (.func f1_f) f1_a f1_c)), (7, (eI t7)), (8, (eI t8))] ?_
    refine aR ?_
    refine bQ 1 ?_
    refine aZ aH 2 [] [(5, (eI t8))] ?_
    refine aR ?_
    refine aT aH 6 ?_
    obtain ⟨c2, h1⟩ := bJ h1
    refine pS 5 [0 ≤ t8 ∧ t8 < (lN s0)] ⟨c2, trivial⟩ ?_
    obtain ⟨x3, hx4, h1⟩ := aW h1
    refine cM (f1_h (gD s0 t8) _ hx4) hO ?_
    intro H hO
    refine cF ?_
    refine bR [] [(16, (aL x3))] ?_
    refine bM h1 (fun h1 => ?_) (fun h1 => ?_)
    · refine bW aH 2 [(4, (eI t8))] ?_
      refine bL ?_
      obtain rfl := oI h1
      obtain rfl : _ = rr0 := ho0
      replace h0 : some t8 = some r := h0
      obtain rfl := oI h0
      exact aK (bY (bC (bC (bY (bC (Q_r hO))))))
    refine bN ?_
    refine dF [(0, (eL aM s0)), (1, (.fn (.func f1_f) f1_a f1_c)), (7, (eI t7)), (8, (eI t8))] ?_
    refine aK (aV (aI (?_)))
    refine aT aH 2 ?_
    refine bD ?_
    exact aK (aI (⟨rfl, _, (oI h1).symm, .eq (by kernel_rfl), hO⟩))
  refine dS 0 ?_
  obtain rfl := oI h1
  obtain rfl : _ = rr0 := ho0
  replace h0 : dN f1  = some r := h0
  exact aK (aY (aY (bO (aI (⟨rfl, .eq (by kernel_rfl), hO, h0⟩)))))

theorem qZ (s0 : (List aJ)) (f1_f : Nat) (f1_a f1_c : List V) (f1 : aJ → Option Bool) (f1_h : ∀ a0 r, f1 a0 = some r → bS Try.prog f1_f (f1_a ++ [(aM a0)] ++ f1_c) (aL r)) (r : Bool) (h0 : dD s0 f1 = some r) : bS Try.prog 96 [(eL aM s0), (.fn (.func f1_f) f1_a f1_c)] (aL r) := by
  intro H0
  refine cG Try.func96 ?_
  have hO := aO.start H0
  unfold dD at h0
  refine aZ aH 1 [] [] ?_
  refine aR ?_
  refine aT aH 5 ?_
  refine bK 2 ?_
  obtain ⟨x1, hx2, h0⟩ := aW h0
  refine cM (sS s0 f1_f f1_a f1_c f1 f1_h _ hx2) hO ?_
  intro H hO
  refine bD ?_
  refine bH [(4, (aL (decide ((0 : Int) ≤ x1))))] ?_
  refine bL ?_
  obtain rfl := oI h0
  exact aK (Q_r hO)

theorem wV (v0 : aJ) (r : (bG × Bool)) (h0 : kW v0 = some r) : bS Try.prog 126 [(aM v0)] (.tup [(bF r.1), (aL r.2)]) := by
  intro H0
  refine cG Try.func126 ?_
  have hO := aO.start H0
  unfold kW at h0
  refine aR ?_
  refine aT aH 3 ?_
  refine gN 3 (aM v0) (by kernel_rfl) (by kernel_rfl) ?_
  refine bD ?_
  refine bH [(1, (.rp (aM v0)))] ?_
  refine aR ?_
  refine bQ 0 ?_
  refine aZ aH 9 [] [(4, (aL ((decide (v0.Kind = (1 : Int))) && (nO v0.Text (⟨#[]⟩ : ByteArray)))))] ?_
  refine bM h0 (fun h0 => ?_) (fun h0 => ?_)
  · refine bW aH 5 [(2, (bF (bG.k_number v0.Num))), (3, (aL true))] ?_
    refine bL ?_
    obtain rfl := oI h0
    exact aK (bY (bC (Q_r hO)))
  refine aZ aH 15 [4] [(16, (aL (((decide (v0.Kind = (2 : Int))) && (decide (v0.Num = (0 : Int)))) && (decide (((ByteArray.size v0.Text : Nat) : Int) ≤ (64 : Int))))))] ?_
  refine bM h0 (fun h0 => ?_) (fun h0 => ?_)
  · refine bW aH 5 [(2, (bF (bG.k_words v0.Text))), (3, (aL true))] ?_
    refine bL ?_
    obtain rfl := oI h0
    exact aK (bY (bC (Q_r hO)))
  refine bN ?_
  refine dF [] ?_
  refine aK (aV (aI (?_)))
  refine bW aH 2 [(2, (bF bG.none_)), (3, (aL false))] ?_
  refine bL ?_
  obtain rfl := oI h0
  exact aK (Q_r hO)

theorem QX (v0 : aJ) (r : Bool) (h0 : uH v0 = some r) : bS Try.prog 98 [(aM v0)] (aL r) := by
  intro H0
  refine cG Try.func98 ?_
  have hO := aO.start H0
  unfold uH at h0
  refine aR ?_
  refine aT aH 2 ?_
  refine gN 3 (aM v0) (by kernel_rfl) (by kernel_rfl) ?_
  refine bD ?_
  refine bH [(1, (.rp (aM v0)))] ?_
  refine aR ?_
  refine aT aH 7 ?_
  refine bK 1 ?_
  obtain ⟨⟨x1_0, x1_1⟩, hx2, h0⟩ := aW h0
  refine cM (wV v0 _ hx2) hO ?_
  intro H hO
  rcases x1_0 with _ | y4 | y5
  · replace h0 : (some x1_1) = some r := h0
    refine bD ?_
    refine bH [(4, (aL x1_1))] ?_
    refine bW aH 2 [(2, (aL x1_1))] ?_
    refine bL ?_
    obtain rfl := oI h0
    exact aK (Q_r hO)
  · replace h0 : (some x1_1) = some r := h0
    refine bD ?_
    refine bH [(4, (aL x1_1))] ?_
    refine bW aH 2 [(2, (aL x1_1))] ?_
    refine bL ?_
    obtain rfl := oI h0
    exact aK (Q_r hO)
  · replace h0 : (some x1_1) = some r := h0
    refine bD ?_
    refine bH [(4, (aL x1_1))] ?_
    refine bW aH 2 [(2, (aL x1_1))] ?_
    refine bL ?_
    obtain rfl := oI h0
    exact aK (Q_r hO)

theorem QK (v0 : aJ) (r : Bool) (h0 : uA v0 = some r) : bS Try.prog 97 [(aM v0)] (aL r) := by
  intro H0
  refine cG Try.func97 ?_
  have hO := aO.start H0
  unfold uA at h0
  refine aR ?_
  refine aT aH 2 ?_
  refine gN 3 (aM v0) (by kernel_rfl) (by kernel_rfl) ?_
  refine bD ?_
  refine bH [(1, (.rp (aM v0)))] ?_
  refine aR ?_
  refine aT aH 4 ?_
  refine bK 1 ?_
  obtain ⟨x1, hx2, h0⟩ := aW h0
  refine cM (QX v0 _ hx2) hO ?_
  intro H hO
  refine bD ?_
  refine bH [(2, (aL (!x1)))] ?_
  refine bL ?_
  obtain rfl := oI h0
  exact aK (Q_r hO)

theorem yF (r0 : (List aJ)) (r : Bool) (h0 : pG r0 = some r) : bS Try.prog 57 [(eL aM r0)] (aL r) := by
  intro H0
  refine cG Try.func57 ?_
  have hO := aO.start H0
  unfold pG at h0
  refine aZ aH 1 [] [] ?_
  refine aR ?_
  refine aZ aH 3 [] [(5, (aL (decide ((8 : Int) < (lN r0)))))] ?_
  refine bM h0 (fun h0 => ?_) (fun h0 => ?_)
  · refine bW aH 1 [(2, (aL false))] ?_
    refine bL ?_
    obtain rfl := oI h0
    exact aK (bC (Q_r hO))
  refine bN ?_
  refine bH [(0, (eL aM r0))] ?_
  refine aR ?_
  refine aT aH 4 ?_
  refine bK 1 ?_
  obtain ⟨x2, hx3, h0⟩ := aW h0
  refine cM (qZ r0 97 [] [] (fun y0 => uA y0) (fun y0 r h => QK y0 r h) _ hx3) hO ?_
  intro H hO
  refine bD ?_
  refine bH [(2, (aL (!x2)))] ?_
  refine bL ?_
  obtain rfl := oI h0
  exact aK (Q_r hO)

theorem GG (t0 : Int) (r : Bool) (h0 : uL t0 = some r) : bS Try.prog 134 [(eI t0)] (aL r) := by
  intro H0
  refine cG Try.func134 ?_
  have hO := aO.start H0
  unfold uL at h0
  refine aZ aH 1 [] [] ?_
  refine bW aH 7 [(2, (aL ((decide ((0 : Int) ≤ t0)) && (decide (t0 ≤ (1125899906842624 : Int))))))] ?_
  refine bL ?_
  obtain rfl := oI h0
  exact aK (Q_r hO)

theorem SQ (s0 : aQ) (r : Bool) (h0 : wM s0 = some r) : bS Try.prog 120 [(bA s0)] (aL r) := by
  intro H0
  refine cG Try.func120 ?_
  have hO := aO.start H0
  unfold wM at h0
  refine aR ?_
  refine aT aH 2 ?_
  refine gN 2 (bA s0) (by kernel_rfl) (by kernel_rfl) ?_
  refine bD ?_
  refine bH [(1, (.rp (bA s0)))] ?_
  refine aR ?_
  refine aT aH 16 ?_
  refine bK 2 ?_
  obtain ⟨x1, hx2, h0⟩ := aW h0
  refine cM (GG s0.From _ hx2) hO ?_
  intro H hO
  refine bK 6 ?_
  obtain ⟨x4, hx5, h0⟩ := aW h0
  refine eA [(6, true)] 134 [(eI s0.To)] (aL x4) x1 (by kernel_rfl) (by kernel_rfl) (by kernel_rfl) (fun hb6 => (GG s0.To _ (fG hx5 hb6))) hO ?_
  intro H hO
  refine bD ?_
  refine bH [(2, (aL ((x1 && x4) && (decide (s0.From < s0.To)))))] ?_
  refine bL ?_
  obtain rfl := oI h0
  exact aK (Q_r hO)

theorem QY (s0 : aQ) (r : Bool) (h0 : xN s0 = some r) : bS Try.prog 87 [(bA s0)] (aL r) := by
  intro H0
  refine cG Try.func87 ?_
  have hO := aO.start H0
  unfold xN at h0
  refine aR ?_
  refine aT aH 2 ?_
  refine gN 2 (bA s0) (by kernel_rfl) (by kernel_rfl) ?_
  refine bD ?_
  refine bH [(1, (.rp (bA s0)))] ?_
  refine aR ?_
  refine aT aH 18 ?_
  refine bK 1 ?_
  obtain ⟨x1, hx2, h0⟩ := aW h0
  refine cM (SQ s0 _ hx2) hO ?_
  intro H hO
  refine bD ?_
  refine bH [(2, (aL (x1 || (((decide (s0.From = (-1 : Int))) && (decide ((0 : Int) ≤ s0.To))) && (decide (s0.To ≤ (1125899906842624 : Int)))))))] ?_
  refine bL ?_
  obtain rfl := oI h0
  exact aK (Q_r hO)

theorem CJ (p0 : aG) (r : Bool) (h0 : qO p0 = some r) : bS Try.prog 45 [(aF p0)] (aL r) := by
  intro H0
  refine cG Try.func45 ?_
  have hO := aO.start H0
  unfold qO at h0
  refine aR ?_
  refine aT aH 2 ?_
  refine gN 3 (aF p0) (by kernel_rfl) (by kernel_rfl) ?_
  refine bD ?_
  refine bH [(1, (.rp (aF p0)))] ?_
  refine aR ?_
  refine aT aH 9 ?_
  refine bK 2 ?_
  obtain ⟨x1, hx2, h0⟩ := aW h0
  refine cM (yF p0.Row _ hx2) hO ?_
  intro H hO
  refine bK 6 ?_
  obtain ⟨x4, hx5, h0⟩ := aW h0
  refine eA [(6, true)] 87 [(bA p0.Span)] (aL x4) x1 (by kernel_rfl) (by kernel_rfl) (by kernel_rfl) (fun hb6 => (QY p0.Span _ (fG hx5 hb6))) hO ?_
  intro H hO
  refine bD ?_
  refine bH [(2, (aL (x1 && x4)))] ?_
  refine bL ?_
  obtain rfl := oI h0
  exact aK (Q_r hO)

theorem JK (p0 : aG) (r : Bool) (h0 : qB p0 = some r) : bS Try.prog 75 [(aF p0)] (aL r) := by
  intro H0
  refine cG Try.func75 ?_
  have hO := aO.start H0
  unfold qB at h0
  refine aR ?_
  refine aT aH 2 ?_
  refine gN 3 (aF p0) (by kernel_rfl) (by kernel_rfl) ?_
  refine bD ?_
  refine bH [(1, (.rp (aF p0)))] ?_
  refine aR ?_
  refine aT aH 4 ?_
  refine bK 1 ?_
  obtain ⟨x1, hx2, h0⟩ := aW h0
  refine cM (CJ p0 _ hx2) hO ?_
  intro H hO
  refine bD ?_
  refine bH [(2, (aL (!x1)))] ?_
  refine bL ?_
  obtain rfl := oI h0
  exact aK (Q_r hO)

theorem sN (s0 : (List aC)) (f1_f : Nat) (f1_a f1_c : List V) (f1 : aC → Option Bool) (f1_h : ∀ a0 r, f1 a0 = some r → bS Try.prog f1_f (f1_a ++ [(aE a0)] ++ f1_c) (aL r)) (r : Int) (h0 : fJ s0 f1 = some r) : bS Try.prog 89 [(eL aE s0), (.fn (.func f1_f) f1_a f1_c)] (eI r) := by
  intro H0
  refine cG Try.func89 ?_
  have hO := aO.start H0
  unfold fJ at h0
  refine aZ aH 1 [] [] ?_
  refine cT (fun T H => Has T [] ∧ aO ⟨H0, [], []⟩ H [] ∧ dL f1  = some r) ?_ ?_
  · clear hO h0
    rintro T H ⟨hT, hO, h0⟩
    refine bB hT ?_
    clear hT
    unfold dL at h0
    refine bW aH 1 [(4, (eI (-1 : Int)))] ?_
    refine bL ?_
    obtain rfl := oI h0
    exact aK (Q_r hO)
  refine aZ aH 3 [] [(7, (eI (lN s0))), (8, (eI (0 : Int)))] ?_
  refine bQ 0 ?_
  refine cO [(0, (eL aE s0)), (1, (.fn (.func f1_f) f1_a f1_c)), (7, (eI (lN s0))), (8, (eI (0 : Int)))] ?_
  refine cK (fun T H => ∃ t7 : Int, ∃ t8 : Int, Has T [(0, (eL aE s0)), (1, (.fn (.func f1_f) f1_a f1_c)), (7, (eI t7)), (8, (eI t8))] ∧ aO ⟨H0, [], []⟩ H [] ∧ fF f1 s0 t7 t8 = some r) ?_ ⟨(lN s0), (0 : Int), .eq (by kernel_rfl), hO, h0⟩
  clear hO h0
  rintro T H ⟨t7, t8, hT, hO, h0⟩
  refine bB hT ?_
  clear hT
  unfold fF at h0
  obtain ⟨rr0, hl0, h0⟩ := aW h0
  refine cA (by kernel_rfl) (fun (s : Int) T H => Has T [(0, (eL aE s0)), (1, (.fn (.func f1_f) f1_a f1_c)), (7, (eI t7)), (8, (eI s))] ∧ aO ⟨H0, [], []⟩ H []) hl0 ⟨.eq (by kernel_rfl), hO⟩ ?_
  clear hO
  rintro k0 s out1 T H ⟨hT, hO⟩ h1 ho0
  obtain ⟨t8, rfl⟩ : ∃ x, x = s := ⟨_, rfl⟩
  replace h1 : fD f1 s0 t7 t8 = some out1 := h1
  refine bB hT ?_
  clear hT
  unfold fD at h1
  refine aZ aH 1 [] [(9, (aL (decide (t8 < t7))))] ?_
  refine aR ?_
  refine bM h1 (fun h1 => ?_) (fun h1 => ?_)
  · refine bN ?_
    refine bH [(0, (eL aE s0)), (1, (.fn (.func f1_f) f1_a f1_c)), (7, (eI t7)), (8, (eI t8))] ?_
    refine aR ?_
    refine bQ 1 ?_
    refine aZ aH 2 [] [(5, (eI t8))] ?_
    refine aR ?_
    refine aT aH 6 ?_
    obtain ⟨c2, h1⟩ := bJ h1
    refine pS 5 [0 ≤ t8 ∧ t8 < (lN s0)] ⟨c2, trivial⟩ ?_
    obtain ⟨x3, hx4, h1⟩ := aW h1
    refine cM (f1_h (gD s0 t8) _ hx4) hO ?_
    intro H hO
    refine cF ?_
    refine bR [] [(16, (aL x3))] ?_
    refine bM h1 (fun h1 => ?_) (fun h1 => ?_)
    · refine bW aH 2 [(4, (eI t8))] ?_
      refine bL ?_
      obtain rfl := oI h1
      obtain rfl : _ = rr0 := ho0
      replace h0 : some t8 = some r := h0
      obtain rfl := oI h0
      exact aK (bY (bC (bC (bY (bC (Q_r hO))))))
    refine bN ?_
    refine dF [(0, (eL aE s0)), (1, (.fn (.func f1_f) f1_a f1_c)), (7, (eI t7)), (8, (eI t8))] ?_
    refine aK (aV (aI (?_)))
    refine aT aH 2 ?_
    refine bD ?_
    exact aK (aI (⟨rfl, _, (oI h1).symm, .eq (by kernel_rfl), hO⟩))
  refine dS 0 ?_
  obtain rfl := oI h1
  obtain rfl : _ = rr0 := ho0
  replace h0 : dL f1  = some r := h0
  exact aK (aY (aY (bO (aI (⟨rfl, .eq (by kernel_rfl), hO, h0⟩)))))

theorem mD (s0 : (List aC)) (f1_f : Nat) (f1_a f1_c : List V) (f1 : aC → Option Bool) (f1_h : ∀ a0 r, f1 a0 = some r → bS Try.prog f1_f (f1_a ++ [(aE a0)] ++ f1_c) (aL r)) (r : Bool) (h0 : cP s0 f1 = some r) : bS Try.prog 50 [(eL aE s0), (.fn (.func f1_f) f1_a f1_c)] (aL r) := by
  intro H0
  refine cG Try.func50 ?_
  have hO := aO.start H0
  unfold cP at h0
  refine aZ aH 1 [] [] ?_
  refine aR ?_
  refine aT aH 5 ?_
  refine bK 2 ?_
  obtain ⟨x1, hx2, h0⟩ := aW h0
  refine cM (sN s0 f1_f f1_a f1_c f1 f1_h _ hx2) hO ?_
  intro H hO
  refine bD ?_
  refine bH [(4, (aL (decide ((0 : Int) ≤ x1))))] ?_
  refine bL ?_
  obtain rfl := oI h0
  exact aK (Q_r hO)

theorem LZ (x0 : aC) (r : Bool) (h0 : rE x0 = some r) : bS Try.prog 56 [(aE x0)] (aL r) := by
  intro H0
  refine cG Try.func56 ?_
  have hO := aO.start H0
  unfold rE at h0
  refine aR ?_
  refine aT aH 2 ?_
  refine gN 3 (aE x0) (by kernel_rfl) (by kernel_rfl) ?_
  refine bD ?_
  refine bH [(1, (.rp (aE x0)))] ?_
  refine aR ?_
  refine aT aH 15 ?_
  refine bK 2 ?_
  obtain ⟨x1, hx2, h0⟩ := aW h0
  refine cM (yF x0.Row _ hx2) hO ?_
  intro H hO
  refine bD ?_
  refine bH [(2, (aL (((!x1) || (decide ((1048576 : Int) < x0.Net))) || (decide (x0.Net < (-1048576 : Int))))))] ?_
  refine bL ?_
  obtain rfl := oI h0
  exact aK (Q_r hO)

theorem LY (x0 : aC) (r : Bool) (h0 : rA x0 = some r) : bS Try.prog 58 [(aE x0)] (aL r) := by
  intro H0
  refine cG Try.func58 ?_
  have hO := aO.start H0
  unfold rA at h0
  refine aR ?_
  refine aT aH 2 ?_
  refine gN 3 (aE x0) (by kernel_rfl) (by kernel_rfl) ?_
  refine bD ?_
  refine bH [(1, (.rp (aE x0)))] ?_
  refine bW aH 9 [(2, (aL ((decide (x0.At < (-1 : Int))) || (decide ((1125899906842624 : Int) < x0.At)))))] ?_
  refine bL ?_
  obtain rfl := oI h0
  exact aK (Q_r hO)

theorem vJ (s0 : (List aC)) (r : (List aC)) (h0 : eS s0 = some r) : yR Try.prog 59 [(eL aE s0)] (fun lo => (.msl 3 lo 0 (List.length r))) 3 (List.map aE r) := by
  intro H0
  refine cG Try.func59 ?_
  have hO := aO.start H0
  unfold eS at h0
  refine aZ aH 1 [] [] ?_
  refine aR ?_
  refine aR ?_
  refine aT aH 2 ?_
  refine bK 1 ?_
  refine YJ false (List.length s0) (fun i => aE (List.getD s0 i default)) (by kernel_rfl) (by kernel_rfl) ?_
  intro b1 hn2
  refine cF ?_
  refine bR [] [(4, (aL b1))] ?_
  refine nI (b1) (fun hc3 => ?_) (fun hc3 => ?_)
  · replace h0 : some ([] : List aC) = some r := by
      have hl := List.eq_nil_of_length_eq_zero (hn2 hc3)
      rw [hl] at h0
      exact (bJ h0).2
    refine bW aH 1 [(2, (.sl true 0 (fun _ => .bad)))] ?_
    refine bL ?_
    refine dF [(2, (.sl true 0 (fun _ => .bad)))] ?_
    refine VF (el := (fun _ => .bad)) 0 2 3 hO (by kernel_rfl) ?_
    intro lo4 H5 hO
    obtain rfl := oI h0
    exact aK (bC (pF (x := (.msl 3 lo4 0 (List.length ([] : List aC)))) (by kernel_rfl) (aX.refl _) ⟨lo4, rfl, hO⟩))
  · refine bN ?_
    refine bH [(0, (eL aE s0))] ?_
    refine aR ?_
    refine aT aH 4 ?_
    refine qL (xs := []) (k := 3) (by kernel_rfl) (by kernel_rfl) ?_
    refine bK 2 ?_
    obtain ⟨c7, h0⟩ := bJ h0
    refine RV (e := aE) s0 (fun _ => .bad) 3 40 (eL aE s0) (fun lo6 => [(lo6, 3, List.map aE s0)]) (by kernel_rfl) (by kernel_rfl) hO (BM (fun _ => by kernel_rfl)) c7 (fun _ => by kernel_rfl) ?_
    intro lo6 H hO
    refine bD ?_
    refine bH [(2, (.msl 3 lo6 0 (List.length s0)))] ?_
    refine bL ?_
    obtain rfl := oI h0
    exact aK (pF (x := (.msl 3 lo6 0 (List.length s0))) (by kernel_rfl) (aX.refl _) ⟨lo6, rfl, hO⟩)

theorem mN (lo0p : Nat) (aA : (List aC)) (a1 : Int) (b2 : Int) (cmp3_f : Nat) (cmp3_a cmp3_c : List V) (cmp3 : aC → aC → Option Int) (cmp3_h : ∀ a0 a1 r, cmp3 a0 a1 = some r → bS Try.prog cmp3_f (cmp3_a ++ [(aE a0), (aE a1)] ++ cmp3_c) (eI r)) (r : List aC) (h0 : dJ aA a1 b2 cmp3 = some r) : kQ Try.prog 127 lo0p 3 (List.map aE aA) (List.map aE r) [(.msl 3 lo0p 0 (List.length aA)), (eI a1), (eI b2), (.fn (.func cmp3_f) cmp3_a cmp3_c)] (.tup []) := by
  intro H0 hl0
  refine cG Try.func127 ?_
  have hO := aO.pE hl0
  clear hl0
  obtain ⟨N0, hN0⟩ : ∃ n, n = List.length aA := ⟨_, rfl⟩
  have hN : List.length aA = N0 := hN0.symm
  unfold dJ at h0
  refine aZ aH 3 [] [(8, (eI (wR (a1 + (1 : Int)))))] ?_
  refine bQ 0 ?_
  refine cO [(0, (.msl 3 lo0p 0 (List.length aA))), (1, (eI a1)), (2, (eI b2)), (3, (.fn (.func cmp3_f) cmp3_a cmp3_c)), (8, (eI (wR (a1 + (1 : Int)))))] ?_
  refine cK (fun T H => ∃ aA : List aC, ∃ i8 : Int, Has T [(0, (.msl 3 lo0p 0 (List.length aA))), (1, (eI a1)), (2, (eI b2)), (3, (.fn (.func cmp3_f) cmp3_a cmp3_c)), (8, (eI i8))] ∧ aO ⟨H0, [lo0p], []⟩ H [(lo0p, 3, List.map aE aA)] ∧ List.length aA = N0 ∧ iI cmp3 aA a1 b2 i8 = some r) ?_ ⟨aA, wR (a1 + (1 : Int)), .eq (by kernel_rfl), hO, hN, h0⟩
  clear hO hN h0
  rintro T H ⟨aA, i8, hT, hO, hN, h0⟩
  refine bB hT ?_
  clear hT
  unfold iI at h0
  obtain ⟨rr0, hl0, h0⟩ := aW h0
  refine cA (by kernel_rfl) (fun (s : List aC × Int) T H => Has T [(0, (.msl 3 lo0p 0 (List.length s.1))), (1, (eI a1)), (2, (eI b2)), (3, (.fn (.func cmp3_f) cmp3_a cmp3_c)), (8, (eI s.2))] ∧ aO ⟨H0, [lo0p], []⟩ H [(lo0p, 3, List.map aE s.1)] ∧ List.length s.1 = N0) hl0 ⟨.eq (by kernel_rfl), hO, hN⟩ ?_
  clear hO hN
  rintro k0 s out1 T H ⟨hT, hO, hN⟩ h1 ho0
  obtain ⟨aA, i8⟩ := s
  replace h1 : iN cmp3 a1 b2 aA i8 = some out1 := h1
  try dsimp only at hT
  refine bB hT ?_
  clear hT
  unfold iN at h1
  refine aR ?_
  refine aZ aH 3 [] [(14, (aL (decide (i8 < b2))))] ?_
  refine bM h1 (fun h1 => ?_) (fun h1 => ?_)
  · refine bN ?_
    refine bH [(0, (.msl 3 lo0p 0 (List.length aA))), (1, (eI a1)), (2, (eI b2)), (3, (.fn (.func cmp3_f) cmp3_a cmp3_c)), (8, (eI i8))] ?_
    refine cT (fun T H => ∃ aA : List aC, Has T [(0, (.msl 3 lo0p 0 (List.length aA))), (1, (eI a1)), (2, (eI b2)), (3, (.fn (.func cmp3_f) cmp3_a cmp3_c)), (8, (eI i8))] ∧ aO ⟨H0, [lo0p], []⟩ H [(lo0p, 3, List.map aE aA)] ∧ List.length aA = N0 ∧ eK cmp3 aA a1 b2 i8 = some out1) ?_ ?_
    · clear hO hN h1
      rintro T H ⟨aA, hT, hO, hN, h1⟩
      refine bB hT ?_
      clear hT
      unfold eK at h1
      refine aT aH 3 ?_
      refine bD ?_
      exact aK (aI (⟨rfl, _, (oI h1).symm, .eq (by kernel_rfl), hO, hN⟩))
    refine bQ 1 ?_
    refine aZ aH 2 [] [(9, (eI i8))] ?_
    refine bQ 2 ?_
    refine cO [(0, (.msl 3 lo0p 0 (List.length aA))), (1, (eI a1)), (2, (eI b2)), (3, (.fn (.func cmp3_f) cmp3_a cmp3_c)), (8, (eI i8)), (9, (eI i8))] ?_
    refine cK (fun T H => ∃ aA : List aC, ∃ j9 : Int, Has T [(0, (.msl 3 lo0p 0 (List.length aA))), (1, (eI a1)), (2, (eI b2)), (3, (.fn (.func cmp3_f) cmp3_a cmp3_c)), (8, (eI i8)), (9, (eI j9))] ∧ aO ⟨H0, [lo0p], []⟩ H [(lo0p, 3, List.map aE aA)] ∧ List.length aA = N0 ∧ iM cmp3 aA a1 b2 i8 j9 = some out1) ?_ ⟨aA, i8, .eq (by kernel_rfl), hO, hN, h1⟩
    clear hO hN h1
    rintro T H ⟨aA, j9, hT, hO, hN, h1⟩
    refine bB hT ?_
    clear hT
    unfold iM at h1
    obtain ⟨rr1, hl1, h1⟩ := aW h1
    refine cA (by kernel_rfl) (fun (s : List aC × Int) T H => Has T [(0, (.msl 3 lo0p 0 (List.length s.1))), (1, (eI a1)), (2, (eI b2)), (3, (.fn (.func cmp3_f) cmp3_a cmp3_c)), (8, (eI i8)), (9, (eI s.2))] ∧ aO ⟨H0, [lo0p], []⟩ H [(lo0p, 3, List.map aE s.1)] ∧ List.length s.1 = N0) hl1 ⟨.eq (by kernel_rfl), hO, hN⟩ ?_
    clear hO hN
    rintro k1 s out2 T H ⟨hT, hO, hN⟩ h2 ho1
    obtain ⟨aA, j9⟩ := s
    replace h2 : iG cmp3 a1 b2 i8 aA j9 = some out2 := h2
    try dsimp only at hT
    refine bB hT ?_
    clear hT
    unfold iG at h2
    refine aR ?_
    refine aR ?_
    obtain ⟨c2, h2⟩ := bJ h2
    obtain ⟨c3, h2⟩ := bJ h2
    obtain ⟨x4, hx5, h2⟩ := aW h2
    refine iV (iU []) aH 17 ?_
    refine EO (K := fun T H => Has (lift T) [(0, (.msl 3 lo0p 0 (List.length aA))), (1, (eI a1)), (2, (eI b2)), (3, (.fn (.func cmp3_f) cmp3_a cmp3_c)), (8, (eI i8)), (9, (eI j9)), (34, (aL ((decide (a1 < j9)) && (decide (x4 < (0 : Int))))))] ∧ aO ⟨H0, [lo0p], []⟩ H [(lo0p, 3, List.map aE aA)]) ?_ ?_
    · refine nM 4 ?_
      refine FB (t := 21) (e := decide (a1 < j9)) (by kernel_rfl) (fun hg6 => ?_) (fun hg6 => ?_)
      · refine dG 8 [0 ≤ j9 ∧ j9 < (lN aA)] ⟨(c2 hg6), trivial⟩ ?_
        refine zC 0 lo0p 3 (0 + Int.toNat j9) (aE (gD aA j9)) (aE (gD aA j9)) (List.map aE aA) (by kernel_rfl) (by kernel_rfl) (by kernel_rfl) hO (by kernel_rfl) (cN (c2 hg6)) ?_
        refine dG 13 [0 ≤ (wR (j9 - (1 : Int))) ∧ (wR (j9 - (1 : Int))) < (lN aA)] ⟨(c3 hg6), trivial⟩ ?_
        refine zC 0 lo0p 3 (0 + Int.toNat (wR (j9 - (1 : Int)))) (aE (gD aA (wR (j9 - (1 : Int))))) (aE (gD aA (wR (j9 - (1 : Int))))) (List.map aE aA) (by kernel_rfl) (by kernel_rfl) (by kernel_rfl) hO (by kernel_rfl) (cN (c3 hg6)) ?_
        refine JH cmp3_f (cmp3_a ++ [(aE (gD aA j9)), (aE (gD aA (wR (j9 - (1 : Int)))))] ++ cmp3_c) (eI x4) (by kernel_rfl) (by kernel_rfl) (cmp3_h (gD aA j9) (gD aA (wR (j9 - (1 : Int)))) _ (fG hx5 hg6)) hO ?_
        intro H hO
        refine nL ?_
        exact ⟨⟨[(0, (.msl 3 lo0p 0 (List.length aA))), (1, (eI a1)), (2, (eI b2)), (3, (.fn (.func cmp3_f) cmp3_a cmp3_c)), (8, (eI i8)), (9, (eI j9)), (34, (aL (decide (x4 < (0 : Int)))))], by kernel_rfl, rfl, ⟨aX.refl _, aX.refl _, aX.refl _, aX.refl _, aX.refl _, aX.refl _, aX.eq (congrArg aL (FI hg6 rfl).symm), trivial⟩⟩, hO⟩
      refine nL ?_
      exact ⟨⟨[(0, (.msl 3 lo0p 0 (List.length aA))), (1, (eI a1)), (2, (eI b2)), (3, (.fn (.func cmp3_f) cmp3_a cmp3_c)), (8, (eI i8)), (9, (eI j9)), (34, (aL false))], by kernel_rfl, rfl, ⟨aX.refl _, aX.refl _, aX.refl _, aX.refl _, aX.refl _, aX.refl _, aX.eq (congrArg aL (FI hg6 rfl).symm), trivial⟩⟩, hO⟩
    · rintro T H ⟨hT, hO⟩
      refine cS hT ?_
      clear hT
      refine aK (aI ?_)
      refine bM h2 (fun h2 => ?_) (fun h2 => ?_)
      · refine bN ?_
        refine bH [(0, (.msl 3 lo0p 0 (List.length aA))), (1, (eI a1)), (2, (eI b2)), (3, (.fn (.func cmp3_f) cmp3_a cmp3_c)), (8, (eI i8)), (9, (eI j9))] ?_
        refine aR ?_
        refine bQ 3 ?_
        refine iV (iU []) aH 18 ?_
        obtain ⟨c8, h2⟩ := bJ h2
        refine dG 9 [0 ≤ (wR (j9 - (1 : Int))) ∧ (wR (j9 - (1 : Int))) < (lN aA)] ⟨c8, trivial⟩ ?_
        refine kH 0 lo0p 3 (0 + Int.toNat (wR (j9 - (1 : Int)))) (aE (gD aA (wR (j9 - (1 : Int))))) (aE (gD aA (wR (j9 - (1 : Int))))) (List.map aE aA) hO (cN c8) ?_
        obtain ⟨c9, h2⟩ := bJ h2
        refine dG 13 [0 ≤ j9 ∧ j9 < (lN aA)] ⟨c9, trivial⟩ ?_
        refine kH 0 lo0p 3 (0 + Int.toNat j9) (aE (gD aA j9)) (aE (gD aA j9)) (List.map aE aA) hO (cN c9) ?_
        obtain ⟨c10, h2⟩ := bJ h2
        refine dG 15 [0 ≤ j9 ∧ j9 < (lN aA)] ⟨c10, trivial⟩ ?_
        refine qJ 0 lo0p 3 (0 + Int.toNat j9) (aE (gD aA j9)) (aE (gD aA (wR (j9 - (1 : Int))))) (List.map aE aA) [(lo0p, 3, List.map aE (List.set aA (Int.toNat j9) (gD aA (wR (j9 - (1 : Int))))))] hO (cN c10) (by simp only [List.set, nA]) ?_
        intro H hO
        replace hN : List.length (List.set aA (Int.toNat j9) (gD aA (wR (j9 - (1 : Int))))) = N0 := by simpa using hN
        obtain ⟨c11, h2⟩ := bJ h2
        refine dG 17 [0 ≤ (wR (j9 - (1 : Int))) ∧ (wR (j9 - (1 : Int))) < (lN aA)] ⟨c11, trivial⟩ ?_
        refine qJ 0 lo0p 3 (0 + Int.toNat (wR (j9 - (1 : Int)))) (aE (gD (List.set aA (Int.toNat j9) (gD aA (wR (j9 - (1 : Int))))) (wR (j9 - (1 : Int))))) (aE (gD aA j9)) (List.map aE (List.set aA (Int.toNat j9) (gD aA (wR (j9 - (1 : Int)))))) [(lo0p, 3, List.map aE (List.set (List.set aA (Int.toNat j9) (gD aA (wR (j9 - (1 : Int))))) (Int.toNat (wR (j9 - (1 : Int)))) (gD aA j9)))] hO (vS c11 (by simp [])) (by simp only [List.set, nA]) ?_
        intro H hO
        replace hN : List.length (List.set (List.set aA (Int.toNat j9) (gD aA (wR (j9 - (1 : Int))))) (Int.toNat (wR (j9 - (1 : Int)))) (gD aA j9)) = N0 := by simpa using hN
        refine wL (by kernel_rfl) ?_
        refine cS (l := [(0, (.msl 3 lo0p 0 (List.length (List.set (List.set aA (Int.toNat j9) (gD aA (wR (j9 - (1 : Int))))) (Int.toNat (wR (j9 - (1 : Int)))) (gD aA j9))))), (1, (eI a1)), (2, (eI b2)), (3, (.fn (.func cmp3_f) cmp3_a cmp3_c)), (8, (eI i8)), (9, (eI j9))]) ⟨[(0, (.msl 3 lo0p 0 (List.length aA))), (1, (eI a1)), (2, (eI b2)), (3, (.fn (.func cmp3_f) cmp3_a cmp3_c)), (8, (eI i8)), (9, (eI j9))], by kernel_rfl, rfl, ⟨aX.eq (by simp []), aX.refl _, aX.refl _, aX.refl _, aX.refl _, aX.refl _, trivial⟩⟩ ?_
        refine aK (aV (aI (?_)))
        refine aT aH 3 ?_
        refine bD ?_
        exact aK (aI (⟨rfl, _, (oI h2).symm, .eq (by kernel_rfl), hO, hN⟩))
      refine dS 2 ?_
      obtain rfl := oI h2
      obtain rfl : _ = rr1 := ho1
      replace h1 : eK cmp3 aA a1 b2 i8 = some out1 := h1
      exact aK (aY (aY (bO (aV (aI (⟨rfl, _, .eq (by kernel_rfl), hO, hN, h1⟩))))))
  refine dS 0 ?_
  obtain rfl := oI h1
  obtain rfl : _ = rr0 := ho0
  replace h0 : some aA = some r := h0
  obtain rfl := oI h0
  exact aK (aY (aY (bO (pT (x := (.tup [])) (by kernel_rfl) (aX.refl _) ⟨rfl, hO.ext, hO.at 0 (by kernel_rfl), by simp only [List.length_map]; exact hN.trans hN0⟩))))

theorem kP (lo0p : Nat) (aA : (List aC)) (a1 : Int) (b2 : Int) (n3 : Int) (cmp4_f : Nat) (cmp4_a cmp4_c : List V) (cmp4 : aC → aC → Option Int) (cmp4_h : ∀ a0 a1 r, cmp4 a0 a1 = some r → bS Try.prog cmp4_f (cmp4_a ++ [(aE a0), (aE a1)] ++ cmp4_c) (eI r)) (r : List aC) (h0 : dZ aA a1 b2 n3 cmp4 = some r) : kQ Try.prog 142 lo0p 3 (List.map aE aA) (List.map aE r) [(.msl 3 lo0p 0 (List.length aA)), (eI a1), (eI b2), (eI n3), (.fn (.func cmp4_f) cmp4_a cmp4_c)] (.tup []) := by
  intro H0 hl0
  refine cG Try.func142 ?_
  have hO := aO.pE hl0
  clear hl0
  obtain ⟨N0, hN0⟩ : ∃ n, n = List.length aA := ⟨_, rfl⟩
  have hN : List.length aA = N0 := hN0.symm
  unfold dZ at h0
  refine aZ aH 1 [4] [(10, (eI (0 : Int)))] ?_
  refine bQ 0 ?_
  refine cO [(0, (.msl 3 lo0p 0 (List.length aA))), (1, (eI a1)), (2, (eI b2)), (3, (eI n3)), (10, (eI (0 : Int)))] ?_
  refine cK (fun T H => ∃ aA : List aC, ∃ i10 : Int, Has T [(0, (.msl 3 lo0p 0 (List.length aA))), (1, (eI a1)), (2, (eI b2)), (3, (eI n3)), (10, (eI i10))] ∧ aO ⟨H0, [lo0p], []⟩ H [(lo0p, 3, List.map aE aA)] ∧ List.length aA = N0 ∧ jP cmp4 aA a1 b2 n3 i10 = some r) ?_ ⟨aA, (0 : Int), .eq (by kernel_rfl), hO, hN, h0⟩
  clear hO hN h0
  rintro T H ⟨aA, i10, hT, hO, hN, h0⟩
  refine bB hT ?_
  clear hT
  unfold jP at h0
  obtain ⟨rr0, hl0, h0⟩ := aW h0
  refine cA (by kernel_rfl) (fun (s : List aC × Int) T H => Has T [(0, (.msl 3 lo0p 0 (List.length s.1))), (1, (eI a1)), (2, (eI b2)), (3, (eI n3)), (10, (eI s.2))] ∧ aO ⟨H0, [lo0p], []⟩ H [(lo0p, 3, List.map aE s.1)] ∧ List.length s.1 = N0) hl0 ⟨.eq (by kernel_rfl), hO, hN⟩ ?_
  clear hO hN
  rintro k0 s out1 T H ⟨hT, hO, hN⟩ h1 ho0
  obtain ⟨aA, i10⟩ := s
  replace h1 : jW cmp4 a1 b2 n3 aA i10 = some out1 := h1
  try dsimp only at hT
  refine bB hT ?_
  clear hT
  unfold jW at h1
  refine aR ?_
  refine aZ aH 3 [] [(13, (aL (decide (i10 < n3))))] ?_
  refine bM h1 (fun h1 => ?_) (fun h1 => ?_)
  · refine bN ?_
    refine bH [(0, (.msl 3 lo0p 0 (List.length aA))), (1, (eI a1)), (2, (eI b2)), (3, (eI n3)), (10, (eI i10))] ?_
    refine aR ?_
    refine bQ 1 ?_
    refine iV (iU []) aH 24 ?_
    obtain ⟨c2, h1⟩ := bJ h1
    refine dG 13 [0 ≤ (wR (b2 + i10)) ∧ (wR (b2 + i10)) < (lN aA)] ⟨c2, trivial⟩ ?_
    refine kH 0 lo0p 3 (0 + Int.toNat (wR (b2 + i10))) (aE (gD aA (wR (b2 + i10)))) (aE (gD aA (wR (b2 + i10)))) (List.map aE aA) hO (cN c2) ?_
    obtain ⟨c3, h1⟩ := bJ h1
    refine dG 19 [0 ≤ (wR (a1 + i10)) ∧ (wR (a1 + i10)) < (lN aA)] ⟨c3, trivial⟩ ?_
    refine kH 0 lo0p 3 (0 + Int.toNat (wR (a1 + i10))) (aE (gD aA (wR (a1 + i10)))) (aE (gD aA (wR (a1 + i10)))) (List.map aE aA) hO (cN c3) ?_
    obtain ⟨c4, h1⟩ := bJ h1
    refine dG 21 [0 ≤ (wR (a1 + i10)) ∧ (wR (a1 + i10)) < (lN aA)] ⟨c4, trivial⟩ ?_
    refine qJ 0 lo0p 3 (0 + Int.toNat (wR (a1 + i10))) (aE (gD aA (wR (a1 + i10)))) (aE (gD aA (wR (b2 + i10)))) (List.map aE aA) [(lo0p, 3, List.map aE (List.set aA (Int.toNat (wR (a1 + i10))) (gD aA (wR (b2 + i10)))))] hO (cN c4) (by simp only [List.set, nA]) ?_
    intro H hO
    replace hN : List.length (List.set aA (Int.toNat (wR (a1 + i10))) (gD aA (wR (b2 + i10)))) = N0 := by simpa using hN
    obtain ⟨c5, h1⟩ := bJ h1
    refine dG 23 [0 ≤ (wR (b2 + i10)) ∧ (wR (b2 + i10)) < (lN aA)] ⟨c5, trivial⟩ ?_
    refine qJ 0 lo0p 3 (0 + Int.toNat (wR (b2 + i10))) (aE (gD (List.set aA (Int.toNat (wR (a1 + i10))) (gD aA (wR (b2 + i10)))) (wR (b2 + i10)))) (aE (gD aA (wR (a1 + i10)))) (List.map aE (List.set aA (Int.toNat (wR (a1 + i10))) (gD aA (wR (b2 + i10))))) [(lo0p, 3, List.map aE (List.set (List.set aA (Int.toNat (wR (a1 + i10))) (gD aA (wR (b2 + i10)))) (Int.toNat (wR (b2 + i10))) (gD aA (wR (a1 + i10)))))] hO (vS c5 (by simp [])) (by simp only [List.set, nA]) ?_
    intro H hO
    replace hN : List.length (List.set (List.set aA (Int.toNat (wR (a1 + i10))) (gD aA (wR (b2 + i10)))) (Int.toNat (wR (b2 + i10))) (gD aA (wR (a1 + i10)))) = N0 := by simpa using hN
    refine wL (by kernel_rfl) ?_
    refine cS (l := [(0, (.msl 3 lo0p 0 (List.length (List.set (List.set aA (Int.toNat (wR (a1 + i10))) (gD aA (wR (b2 + i10)))) (Int.toNat (wR (b2 + i10))) (gD aA (wR (a1 + i10))))))), (1, (eI a1)), (2, (eI b2)), (3, (eI n3)), (10, (eI i10))]) ⟨[(0, (.msl 3 lo0p 0 (List.length aA))), (1, (eI a1)), (2, (eI b2)), (3, (eI n3)), (10, (eI i10))], by kernel_rfl, rfl, ⟨aX.eq (by simp []), aX.refl _, aX.refl _, aX.refl _, aX.refl _, trivial⟩⟩ ?_
    refine aK (aV (aI (?_)))
    refine aT aH 3 ?_
    refine bD ?_
    exact aK (aI (⟨rfl, _, (oI h1).symm, .eq (by kernel_rfl), hO, hN⟩))
  refine dS 0 ?_
  obtain rfl := oI h1
  obtain rfl : _ = rr0 := ho0
  replace h0 : some aA = some r := h0
  obtain rfl := oI h0
  exact aK (aY (aY (bO (pT (x := (.tup [])) (by kernel_rfl) (aX.refl _) ⟨rfl, hO.ext, hO.at 0 (by kernel_rfl), by simp only [List.length_map]; exact hN.trans hN0⟩))))

theorem vW (lo0p : Nat) (aA : (List aC)) (a1 : Int) (m2 : Int) (b3 : Int) (cmp4_f : Nat) (cmp4_a cmp4_c : List V) (cmp4 : aC → aC → Option Int) (cmp4_h : ∀ a0 a1 r, cmp4 a0 a1 = some r → bS Try.prog cmp4_f (cmp4_a ++ [(aE a0), (aE a1)] ++ cmp4_c) (eI r)) (r : List aC) (h0 : lP aA a1 m2 b3 cmp4 = some r) : kQ Try.prog 137 lo0p 3 (List.map aE aA) (List.map aE r) [(.msl 3 lo0p 0 (List.length aA)), (eI a1), (eI m2), (eI b3), (.fn (.func cmp4_f) cmp4_a cmp4_c)] (.tup []) := by
  intro H0 hl0
  refine cG Try.func137 ?_
  have hO := aO.pE hl0
  clear hl0
  obtain ⟨N0, hN0⟩ : ∃ n, n = List.length aA := ⟨_, rfl⟩
  have hN : List.length aA = N0 := hN0.symm
  unfold lP at h0
  refine aZ aH 4 [1] [(10, (eI (wR (m2 - a1))))] ?_
  refine aZ aH 4 [3] [(11, (eI (wR (b3 - m2))))] ?_
  refine cT (fun T H => ∃ aA : List aC, ∃ i10 : Int, Has T [(0, (.msl 3 lo0p 0 (List.length aA))), (2, (eI m2)), (4, (.fn (.func cmp4_f) cmp4_a cmp4_c)), (10, (eI i10))] ∧ aO ⟨H0, [lo0p], []⟩ H [(lo0p, 3, List.map aE aA)] ∧ List.length aA = N0 ∧ gQ cmp4 aA m2 i10 = some r) ?_ ?_
  · clear hO hN h0
    rintro T H ⟨aA, i10, hT, hO, hN, h0⟩
    refine bB hT ?_
    clear hT
    unfold gQ at h0
    refine aT aH 8 ?_
    refine bK 7 ?_
    obtain ⟨x1, hx2, h0⟩ := aW h0
    refine nN [(lo0p, 3, List.map aE x1)] 0 (kP lo0p aA (wR (m2 - i10)) m2 i10 cmp4_f cmp4_a cmp4_c cmp4 cmp4_h _ hx2) hO ?_
    intro H hO hl3
    simp only [List.length_map] at hl3
    replace hN := hl3.trans hN
    refine cF ?_
    refine cS (l := [(0, (.msl 3 lo0p 0 (List.length x1)))]) ⟨[(0, (.msl 3 lo0p 0 (List.length aA)))], by kernel_rfl, rfl, ⟨aX.eq (by simp [hl3]), trivial⟩⟩ ?_
    obtain rfl := oI h0
    exact aK (pT (x := (.tup [])) (by kernel_rfl) (aX.refl _) ⟨rfl, hO.ext, hO.at 0 (by kernel_rfl), by simp only [List.length_map]; exact hN.trans hN0⟩)
  refine bQ 0 ?_
  refine cO [(0, (.msl 3 lo0p 0 (List.length aA))), (2, (eI m2)), (4, (.fn (.func cmp4_f) cmp4_a cmp4_c)), (10, (eI (wR (m2 - a1)))), (11, (eI (wR (b3 - m2))))] ?_
  refine cK (fun T H => ∃ aA : List aC, ∃ i10 : Int, ∃ j11 : Int, Has T [(0, (.msl 3 lo0p 0 (List.length aA))), (2, (eI m2)), (4, (.fn (.func cmp4_f) cmp4_a cmp4_c)), (10, (eI i10)), (11, (eI j11))] ∧ aO ⟨H0, [lo0p], []⟩ H [(lo0p, 3, List.map aE aA)] ∧ List.length aA = N0 ∧ lA cmp4 aA m2 i10 j11 = some r) ?_ ⟨aA, wR (m2 - a1), wR (b3 - m2), .eq (by kernel_rfl), hO, hN, h0⟩
  clear hO hN h0
  rintro T H ⟨aA, i10, j11, hT, hO, hN, h0⟩
  refine bB hT ?_
  clear hT
  unfold lA at h0
  obtain ⟨rr0, hl0, h0⟩ := aW h0
  refine cA (by kernel_rfl) (fun (s : List aC × Int × Int) T H => Has T [(0, (.msl 3 lo0p 0 (List.length s.1))), (2, (eI m2)), (4, (.fn (.func cmp4_f) cmp4_a cmp4_c)), (10, (eI s.2.1)), (11, (eI s.2.2))] ∧ aO ⟨H0, [lo0p], []⟩ H [(lo0p, 3, List.map aE s.1)] ∧ List.length s.1 = N0) hl0 ⟨.eq (by kernel_rfl), hO, hN⟩ ?_
  clear hO hN
  rintro k0 s out1 T H ⟨hT, hO, hN⟩ h1 ho0
  obtain ⟨aA, i10, j11⟩ := s
  replace h1 : lB cmp4 m2 aA i10 j11 = some out1 := h1
  try dsimp only at hT
  refine bB hT ?_
  clear hT
  unfold lB at h1
  refine aR ?_
  refine aZ aH 3 [] [(20, (aL (!decide (i10 = j11))))] ?_
  refine bM h1 (fun h1 => ?_) (fun h1 => ?_)
  · refine bN ?_
    refine bH [(0, (.msl 3 lo0p 0 (List.length aA))), (2, (eI m2)), (4, (.fn (.func cmp4_f) cmp4_a cmp4_c)), (10, (eI i10)), (11, (eI j11))] ?_
    refine bQ 1 ?_
    refine aZ aH 3 [] [(23, (aL (decide (j11 < i10))))] ?_
    refine bM h1 (fun h1 => ?_) (fun h1 => ?_)
    · refine aR ?_
      refine aT aH 8 ?_
      refine bK 7 ?_
      obtain ⟨x6, hx7, h1⟩ := aW h1
      refine nN [(lo0p, 3, List.map aE x6)] 0 (kP lo0p aA (wR (m2 - i10)) m2 j11 cmp4_f cmp4_a cmp4_c cmp4 cmp4_h _ hx7) hO ?_
      intro H hO hl8
      simp only [List.length_map] at hl8
      replace hN := hl8.trans hN
      refine cF ?_
      refine cS (l := [(0, (.msl 3 lo0p 0 (List.length x6))), (2, (eI m2)), (4, (.fn (.func cmp4_f) cmp4_a cmp4_c)), (10, (eI i10)), (11, (eI j11))]) ⟨[(0, (.msl 3 lo0p 0 (List.length aA))), (2, (eI m2)), (4, (.fn (.func cmp4_f) cmp4_a cmp4_c)), (10, (eI i10)), (11, (eI j11))], by kernel_rfl, rfl, ⟨aX.eq (by simp [hl8]), aX.refl _, aX.refl _, aX.refl _, aX.refl _, trivial⟩⟩ ?_
      refine aK (aI (?_))
      refine aT aH 4 ?_
      refine bD ?_
      exact aK (aV (aI (⟨rfl, _, (oI h1).symm, .eq (by kernel_rfl), hO, hN⟩)))
    refine aR ?_
    refine aT aH 12 ?_
    refine bK 11 ?_
    obtain ⟨x9, hx10, h1⟩ := aW h1
    refine nN [(lo0p, 3, List.map aE x9)] 0 (kP lo0p aA (wR (m2 - i10)) (wR ((wR (m2 + j11)) - i10)) i10 cmp4_f cmp4_a cmp4_c cmp4 cmp4_h _ hx10) hO ?_
    intro H hO hl11
    simp only [List.length_map] at hl11
    replace hN := hl11.trans hN
    refine cF ?_
    refine cS (l := [(0, (.msl 3 lo0p 0 (List.length x9))), (2, (eI m2)), (4, (.fn (.func cmp4_f) cmp4_a cmp4_c)), (10, (eI i10)), (11, (eI j11))]) ⟨[(0, (.msl 3 lo0p 0 (List.length aA))), (2, (eI m2)), (4, (.fn (.func cmp4_f) cmp4_a cmp4_c)), (10, (eI i10)), (11, (eI j11))], by kernel_rfl, rfl, ⟨aX.eq (by simp [hl11]), aX.refl _, aX.refl _, aX.refl _, aX.refl _, trivial⟩⟩ ?_
    refine aK (aI (?_))
    refine aT aH 4 ?_
    refine bD ?_
    exact aK (aV (aI (⟨rfl, _, (oI h1).symm, .eq (by kernel_rfl), hO, hN⟩)))
  refine dS 0 ?_
  obtain rfl := oI h1
  obtain rfl : _ = rr0 := ho0
  replace h0 : gQ cmp4 aA m2 i10 = some r := h0
  exact aK (aY (aY (bO (aI (⟨rfl, _, _, .eq (by kernel_rfl), hO, hN, h0⟩)))))

theorem rU (cmp4_f : Nat) (cmp4_a cmp4_c : List V) (cmp4 : aC → aC → Option Int) (cmp4_h : ∀ a0 a1 r, cmp4 a0 a1 = some r → bS Try.prog cmp4_f (cmp4_a ++ [(aE a0), (aE a1)] ++ cmp4_c) (eI r)) (rec : (List aC) → Int → Int → Int → Option (List aC)) (ih : ∀ (lo0p : Nat) (aA : (List aC)) (a1 : Int) (m2 : Int) (b3 : Int) (r : List aC), rec aA a1 m2 b3 = some r → kQ Try.prog 128 lo0p 3 (List.map aE aA) (List.map aE r) [(.msl 3 lo0p 0 (List.length aA)), (eI a1), (eI m2), (eI b3), (.fn (.func cmp4_f) cmp4_a cmp4_c)] (.tup [])) (lo0p : Nat) (aA : (List aC)) (a1 : Int) (m2 : Int) (b3 : Int) (r : List aC) (h0 : dP cmp4 rec aA a1 m2 b3 = some r) : kQ Try.prog 128 lo0p 3 (List.map aE aA) (List.map aE r) [(.msl 3 lo0p 0 (List.length aA)), (eI a1), (eI m2), (eI b3), (.fn (.func cmp4_f) cmp4_a cmp4_c)] (.tup []) := by
  intro H0 hl0
  refine cG Try.func128 ?_
  have hO := aO.pE hl0
  clear hl0
  obtain ⟨N0, hN0⟩ : ∃ n, n = List.length aA := ⟨_, rfl⟩
  have hN : List.length aA = N0 := hN0.symm
  unfold dP at h0
  refine cT (fun T H => ∃ aA : List aC, Has T [(0, (.msl 3 lo0p 0 (List.length aA))), (1, (eI a1)), (2, (eI m2)), (3, (eI b3)), (4, (.fn (.func cmp4_f) cmp4_a cmp4_c))] ∧ aO ⟨H0, [lo0p], []⟩ H [(lo0p, 3, List.map aE aA)] ∧ List.length aA = N0 ∧ kM cmp4 rec aA a1 m2 b3 = some r) ?_ ?_
  · clear hO hN h0
    rintro T H ⟨aA, hT, hO, hN, h0⟩
    refine bB hT ?_
    clear hT
    unfold kM at h0
    refine cT (fun T H => ∃ aA : List aC, Has T [(0, (.msl 3 lo0p 0 (List.length aA))), (1, (eI a1)), (2, (eI m2)), (3, (eI b3)), (4, (.fn (.func cmp4_f) cmp4_a cmp4_c))] ∧ aO ⟨H0, [lo0p], []⟩ H [(lo0p, 3, List.map aE aA)] ∧ List.length aA = N0 ∧ kO cmp4 rec aA a1 m2 b3 = some r) ?_ ?_
    · clear hO hN h0
      rintro T H ⟨aA, hT, hO, hN, h0⟩
      refine bB hT ?_
      clear hT
      unfold kO at h0
      refine aR ?_
      refine aT aH 7 ?_
      obtain ⟨c1, h0⟩ := bJ h0
      refine wB [0 ≤ (1 : Int)] ⟨c1, trivial⟩ ?_
      refine bR [] [(18, (eI (wR (Int.fdiv (IntKind.u64.wrap (wR (a1 + b3))) (2 ^ (min (Int.toNat (1 : Int)) 64))))))] ?_
      refine aZ aH 4 [] [(19, (eI (wR ((wR (Int.fdiv (IntKind.u64.wrap (wR (a1 + b3))) (2 ^ (min (Int.toNat (1 : Int)) 64)))) + m2))))] ?_
      refine aZ aH 2 [] [] ?_
      refine cT (fun T H => ∃ aA : List aC, ∃ bP : Int, ∃ n19 : Int, ∃ aS : Int, ∃ r21 : Int, Has T [(0, (.msl 3 lo0p 0 (List.length aA))), (1, (eI a1)), (2, (eI m2)), (3, (eI b3)), (4, (.fn (.func cmp4_f) cmp4_a cmp4_c)), (18, (eI bP)), (19, (eI n19)), (20, (eI aS)), (21, (eI r21))] ∧ aO ⟨H0, [lo0p], []⟩ H [(lo0p, 3, List.map aE aA)] ∧ List.length aA = N0 ∧ gG cmp4 rec aA a1 m2 b3 bP n19 aS r21 = some r) ?_ ?_
      · clear hO hN h0
        rintro T H ⟨aA, bP, n19, aS, r21, hT, hO, hN, h0⟩
        refine bB hT ?_
        clear hT
        unfold gG at h0
        refine aZ aH 3 [] [(22, (eI (wR (n19 - (1 : Int)))))] ?_
        refine cT (fun T H => ∃ aA : List aC, ∃ aS : Int, Has T [(0, (.msl 3 lo0p 0 (List.length aA))), (1, (eI a1)), (2, (eI m2)), (3, (eI b3)), (4, (.fn (.func cmp4_f) cmp4_a cmp4_c)), (18, (eI bP)), (19, (eI n19)), (20, (eI aS))] ∧ aO ⟨H0, [lo0p], []⟩ H [(lo0p, 3, List.map aE aA)] ∧ List.length aA = N0 ∧ gE cmp4 rec aA a1 m2 b3 bP n19 aS = some r) ?_ ?_
        · clear hO hN h0
          rintro T H ⟨aA, aS, hT, hO, hN, h0⟩
          refine bB hT ?_
          clear hT
          unfold gE at h0
          refine aZ aH 4 [19] [(24, (eI (wR (n19 - aS))))] ?_
          refine cT (fun T H => ∃ aA : List aC, ∃ dR : Int, Has T [(0, (.msl 3 lo0p 0 (List.length aA))), (1, (eI a1)), (3, (eI b3)), (4, (.fn (.func cmp4_f) cmp4_a cmp4_c)), (18, (eI bP)), (20, (eI aS)), (24, (eI dR))] ∧ aO ⟨H0, [lo0p], []⟩ H [(lo0p, 3, List.map aE aA)] ∧ List.length aA = N0 ∧ gH cmp4 rec aA a1 b3 bP aS dR = some r) ?_ ?_
          · clear hO hN h0
            rintro T H ⟨aA, dR, hT, hO, hN, h0⟩
            refine bB hT ?_
            clear hT
            unfold gH at h0
            refine cT (fun T H => ∃ aA : List aC, Has T [(0, (.msl 3 lo0p 0 (List.length aA))), (3, (eI b3)), (4, (.fn (.func cmp4_f) cmp4_a cmp4_c)), (18, (eI bP)), (24, (eI dR))] ∧ aO ⟨H0, [lo0p], []⟩ H [(lo0p, 3, List.map aE aA)] ∧ List.length aA = N0 ∧ gJ cmp4 rec aA b3 bP dR = some r) ?_ ?_
            · clear hO hN h0
              rintro T H ⟨aA, hT, hO, hN, h0⟩
              refine bB hT ?_
              clear hT
              unfold gJ at h0
              refine aZ aH 8 [] [(213, (aL ((decide (bP < dR)) && (decide (dR < b3)))))] ?_
              refine bM h0 (fun h0 => ?_) (fun h0 => ?_)
              · refine aT aH 6 ?_
                refine bK 5 ?_
                obtain ⟨x3, hx4, h0⟩ := aW h0
                refine nN [(lo0p, 3, List.map aE x3)] 0 (ih lo0p aA bP dR b3 _ hx4) hO ?_
                intro H hO hl5
                simp only [List.length_map] at hl5
                replace hN := hl5.trans hN
                refine cF ?_
                refine cS (l := [(0, (.msl 3 lo0p 0 (List.length x3)))]) ⟨[(0, (.msl 3 lo0p 0 (List.length aA)))], by kernel_rfl, rfl, ⟨aX.eq (by simp [hl5]), trivial⟩⟩ ?_
                obtain rfl := oI h0
                exact aK (pT (x := (.tup [])) (by kernel_rfl) (aX.refl _) ⟨rfl, hO.ext, hO.at 0 (by kernel_rfl), by simp only [List.length_map]; exact hN.trans hN0⟩)
              refine bN ?_
              obtain rfl := oI h0
              exact aK (pT (x := (.tup [])) (by kernel_rfl) (aX.refl _) ⟨rfl, hO.ext, hO.at 0 (by kernel_rfl), by simp only [List.length_map]; exact hN.trans hN0⟩)
            refine aZ aH 8 [] [(199, (aL ((decide (a1 < aS)) && (decide (aS < bP)))))] ?_
            refine bM h0 (fun h0 => ?_) (fun h0 => ?_)
            · refine aT aH 6 ?_
              refine bK 5 ?_
              obtain ⟨x7, hx8, h0⟩ := aW h0
              refine nN [(lo0p, 3, List.map aE x7)] 0 (ih lo0p aA a1 aS bP _ hx8) hO ?_
              intro H hO hl9
              simp only [List.length_map] at hl9
              replace hN := hl9.trans hN
              refine cF ?_
              refine cS (l := [(0, (.msl 3 lo0p 0 (List.length x7))), (3, (eI b3)), (4, (.fn (.func cmp4_f) cmp4_a cmp4_c)), (18, (eI bP)), (24, (eI dR))]) ⟨[(0, (.msl 3 lo0p 0 (List.length aA))), (3, (eI b3)), (4, (.fn (.func cmp4_f) cmp4_a cmp4_c)), (18, (eI bP)), (24, (eI dR))], by kernel_rfl, rfl, ⟨aX.eq (by simp [hl9]), aX.refl _, aX.refl _, aX.refl _, aX.refl _, trivial⟩⟩ ?_
              exact aK (aI (⟨rfl, _, .eq (by kernel_rfl), hO, hN, h0⟩))
            refine bN ?_
            exact aK (aI (⟨rfl, _, .eq (by kernel_rfl), hO, hN, h0⟩))
          refine aZ aH 8 [] [(185, (aL ((decide (aS < m2)) && (decide (m2 < (wR (n19 - aS)))))))] ?_
          refine bM h0 (fun h0 => ?_) (fun h0 => ?_)
          · refine aT aH 6 ?_
            refine bK 5 ?_
            obtain ⟨x11, hx12, h0⟩ := aW h0
            refine nN [(lo0p, 3, List.map aE x11)] 0 (vW lo0p aA aS m2 (wR (n19 - aS)) cmp4_f cmp4_a cmp4_c cmp4 cmp4_h _ hx12) hO ?_
            intro H hO hl13
            simp only [List.length_map] at hl13
            replace hN := hl13.trans hN
            refine cF ?_
            refine cS (l := [(0, (.msl 3 lo0p 0 (List.length x11))), (1, (eI a1)), (3, (eI b3)), (4, (.fn (.func cmp4_f) cmp4_a cmp4_c)), (18, (eI bP)), (20, (eI aS)), (24, (eI (wR (n19 - aS))))]) ⟨[(0, (.msl 3 lo0p 0 (List.length aA))), (1, (eI a1)), (3, (eI b3)), (4, (.fn (.func cmp4_f) cmp4_a cmp4_c)), (18, (eI bP)), (20, (eI aS)), (24, (eI (wR (n19 - aS))))], by kernel_rfl, rfl, ⟨aX.eq (by simp [hl13]), aX.refl _, aX.refl _, aX.refl _, aX.refl _, aX.refl _, aX.refl _, trivial⟩⟩ ?_
            exact aK (aI (⟨rfl, _, _, .eq (by kernel_rfl), hO, hN, h0⟩))
          refine bN ?_
          exact aK (aI (⟨rfl, _, _, .eq (by kernel_rfl), hO, hN, h0⟩))
        refine bQ 8 ?_
        refine cO [(0, (.msl 3 lo0p 0 (List.length aA))), (1, (eI a1)), (2, (eI m2)), (3, (eI b3)), (4, (.fn (.func cmp4_f) cmp4_a cmp4_c)), (18, (eI bP)), (19, (eI n19)), (20, (eI aS)), (21, (eI r21)), (22, (eI (wR (n19 - (1 : Int)))))] ?_
        refine cK (fun T H => ∃ aA : List aC, ∃ aS : Int, ∃ r21 : Int, ∃ p22 : Int, Has T [(0, (.msl 3 lo0p 0 (List.length aA))), (1, (eI a1)), (2, (eI m2)), (3, (eI b3)), (4, (.fn (.func cmp4_f) cmp4_a cmp4_c)), (18, (eI bP)), (19, (eI n19)), (20, (eI aS)), (21, (eI r21)), (22, (eI p22))] ∧ aO ⟨H0, [lo0p], []⟩ H [(lo0p, 3, List.map aE aA)] ∧ List.length aA = N0 ∧ kK cmp4 rec aA a1 m2 b3 bP n19 aS r21 p22 = some r) ?_ ⟨aA, aS, r21, wR (n19 - (1 : Int)), .eq (by kernel_rfl), hO, hN, h0⟩
        clear hO hN h0
        rintro T H ⟨aA, aS, r21, p22, hT, hO, hN, h0⟩
        refine bB hT ?_
        clear hT
        unfold kK at h0
        obtain ⟨rr0, hl0, h0⟩ := aW h0
        refine cA (by kernel_rfl) (fun (s : List aC × Int × Int) T H => Has T [(0, (.msl 3 lo0p 0 (List.length s.1))), (1, (eI a1)), (2, (eI m2)), (3, (eI b3)), (4, (.fn (.func cmp4_f) cmp4_a cmp4_c)), (18, (eI bP)), (19, (eI n19)), (20, (eI s.2.1)), (21, (eI s.2.2)), (22, (eI p22))] ∧ aO ⟨H0, [lo0p], []⟩ H [(lo0p, 3, List.map aE s.1)] ∧ List.length s.1 = N0) hl0 ⟨.eq (by kernel_rfl), hO, hN⟩ ?_
        clear hO hN
        rintro k0 s out1 T H ⟨hT, hO, hN⟩ h1 ho0
        obtain ⟨aA, aS, r21⟩ := s
        replace h1 : kG cmp4 rec a1 m2 b3 bP n19 p22 aA aS r21 = some out1 := h1
        try dsimp only at hT
        refine bB hT ?_
        clear hT
        unfold kG at h1
        refine aR ?_
        refine aZ aH 3 [] [(151, (aL (decide (aS < r21))))] ?_
        refine bM h1 (fun h1 => ?_) (fun h1 => ?_)
        · refine bN ?_
          refine bH [(0, (.msl 3 lo0p 0 (List.length aA))), (1, (eI a1)), (2, (eI m2)), (3, (eI b3)), (4, (.fn (.func cmp4_f) cmp4_a cmp4_c)), (18, (eI bP)), (19, (eI n19)), (20, (eI aS)), (21, (eI r21)), (22, (eI p22))] ?_
          refine bQ 9 ?_
          refine aR ?_
          refine aT aH 7 ?_
          obtain ⟨c15, h1⟩ := bJ h1
          refine wB [0 ≤ (1 : Int)] ⟨c15, trivial⟩ ?_
          refine bR [] [(23, (eI (wR (Int.fdiv (IntKind.u64.wrap (wR (aS + r21))) (2 ^ (min (Int.toNat (1 : Int)) 64))))))] ?_
          refine aR ?_
          refine iV (iU [169]) aH 14 ?_
          obtain ⟨c16, h1⟩ := bJ h1
          refine dG 6 [0 ≤ (wR (p22 - (wR (Int.fdiv (IntKind.u64.wrap (wR (aS + r21))) (2 ^ (min (Int.toNat (1 : Int)) 64)))))) ∧ (wR (p22 - (wR (Int.fdiv (IntKind.u64.wrap (wR (aS + r21))) (2 ^ (min (Int.toNat (1 : Int)) 64)))))) < (lN aA)] ⟨c16, trivial⟩ ?_
          refine kH 0 lo0p 3 (0 + Int.toNat (wR (p22 - (wR (Int.fdiv (IntKind.u64.wrap (wR (aS + r21))) (2 ^ (min (Int.toNat (1 : Int)) 64))))))) (aE (gD aA (wR (p22 - (wR (Int.fdiv (IntKind.u64.wrap (wR (aS + r21))) (2 ^ (min (Int.toNat (1 : Int)) 64)))))))) (aE (gD aA (wR (p22 - (wR (Int.fdiv (IntKind.u64.wrap (wR (aS + r21))) (2 ^ (min (Int.toNat (1 : Int)) 64)))))))) (List.map aE aA) hO (cN c16) ?_
          obtain ⟨c17, h1⟩ := bJ h1
          refine dG 10 [0 ≤ (wR (Int.fdiv (IntKind.u64.wrap (wR (aS + r21))) (2 ^ (min (Int.toNat (1 : Int)) 64)))) ∧ (wR (Int.fdiv (IntKind.u64.wrap (wR (aS + r21))) (2 ^ (min (Int.toNat (1 : Int)) 64)))) < (lN aA)] ⟨c17, trivial⟩ ?_
          refine kH 0 lo0p 3 (0 + Int.toNat (wR (Int.fdiv (IntKind.u64.wrap (wR (aS + r21))) (2 ^ (min (Int.toNat (1 : Int)) 64))))) (aE (gD aA (wR (Int.fdiv (IntKind.u64.wrap (wR (aS + r21))) (2 ^ (min (Int.toNat (1 : Int)) 64)))))) (aE (gD aA (wR (Int.fdiv (IntKind.u64.wrap (wR (aS + r21))) (2 ^ (min (Int.toNat (1 : Int)) 64)))))) (List.map aE aA) hO (cN c17) ?_
          obtain ⟨x18, hx19, h1⟩ := aW h1
          refine vN (cmp4_h (gD aA (wR (p22 - (wR (Int.fdiv (IntKind.u64.wrap (wR (aS + r21))) (2 ^ (min (Int.toNat (1 : Int)) 64))))))) (gD aA (wR (Int.fdiv (IntKind.u64.wrap (wR (aS + r21))) (2 ^ (min (Int.toNat (1 : Int)) 64))))) _ hx19) hO ?_
          intro H hO
          refine nL ?_
          refine bR [] [(171, (aL (!(decide (x18 < (0 : Int))))))] ?_
          refine bM h1 (fun h1 => ?_) (fun h1 => ?_)
          · refine aT aH 3 ?_
            refine bD ?_
            exact aK (aV (aI (⟨rfl, _, (oI h1).symm, .eq (by kernel_rfl), hO, hN⟩)))
          refine aT aH 2 ?_
          refine bD ?_
          exact aK (aV (aI (⟨rfl, _, (oI h1).symm, .eq (by kernel_rfl), hO, hN⟩)))
        refine dS 8 ?_
        obtain rfl := oI h1
        obtain rfl : _ = rr0 := ho0
        replace h0 : gE cmp4 rec aA a1 m2 b3 bP n19 aS = some r := h0
        exact aK (aY (aY (bO (aI (⟨rfl, _, _, .eq (by kernel_rfl), hO, hN, h0⟩)))))
      refine aZ aH 3 [] [(140, (aL (decide ((wR (Int.fdiv (IntKind.u64.wrap (wR (a1 + b3))) (2 ^ (min (Int.toNat (1 : Int)) 64)))) < m2))))] ?_
      refine bM h0 (fun h0 => ?_) (fun h0 => ?_)
      · refine bW aH 4 [(0, (.msl 3 lo0p 0 (List.length aA))), (1, (eI a1)), (2, (eI m2)), (3, (eI b3)), (4, (.fn (.func cmp4_f) cmp4_a cmp4_c)), (18, (eI (wR (Int.fdiv (IntKind.u64.wrap (wR (a1 + b3))) (2 ^ (min (Int.toNat (1 : Int)) 64)))))), (19, (eI (wR ((wR (Int.fdiv (IntKind.u64.wrap (wR (a1 + b3))) (2 ^ (min (Int.toNat (1 : Int)) 64)))) + m2)))), (20, (eI (wR ((wR ((wR (Int.fdiv (IntKind.u64.wrap (wR (a1 + b3))) (2 ^ (min (Int.toNat (1 : Int)) 64)))) + m2)) - b3))))] ?_
        refine aT aH 2 ?_
        refine bD ?_
        exact aK (aI (⟨rfl, _, _, _, _, _, .eq (by kernel_rfl), hO, hN, h0⟩))
      refine bW aH 2 [(0, (.msl 3 lo0p 0 (List.length aA))), (1, (eI a1)), (2, (eI m2)), (3, (eI b3)), (4, (.fn (.func cmp4_f) cmp4_a cmp4_c)), (18, (eI (wR (Int.fdiv (IntKind.u64.wrap (wR (a1 + b3))) (2 ^ (min (Int.toNat (1 : Int)) 64)))))), (19, (eI (wR ((wR (Int.fdiv (IntKind.u64.wrap (wR (a1 + b3))) (2 ^ (min (Int.toNat (1 : Int)) 64)))) + m2)))), (20, (eI a1))] ?_
      refine aT aH 2 ?_
      refine bD ?_
      exact aK (aI (⟨rfl, _, _, _, _, _, .eq (by kernel_rfl), hO, hN, h0⟩))
    refine aZ aH 4 [] [(80, (aL (decide ((wR (b3 - m2)) = (1 : Int)))))] ?_
    refine bM h0 (fun h0 => ?_) (fun h0 => ?_)
    · refine aZ aH 2 [1, 3, 80] [(14, (eI a1))] ?_
      refine aZ aH 2 [] [(15, (eI m2))] ?_
      refine cT (fun T H => ∃ aA : List aC, ∃ i14 : Int, Has T [(0, (.msl 3 lo0p 0 (List.length aA))), (2, (eI m2)), (14, (eI i14))] ∧ aO ⟨H0, [lo0p], []⟩ H [(lo0p, 3, List.map aE aA)] ∧ List.length aA = N0 ∧ fX cmp4 rec aA m2 i14 = some r) ?_ ?_
      · clear hO hN h0
        rintro T H ⟨aA, i14, hT, hO, hN, h0⟩
        refine bB hT ?_
        clear hT
        unfold fX at h0
        refine cT (fun T H => ∃ aA : List aC, Has T [(0, (.msl 3 lo0p 0 (List.length aA)))] ∧ aO ⟨H0, [lo0p], []⟩ H [(lo0p, 3, List.map aE aA)] ∧ List.length aA = N0 ∧ gI cmp4 rec aA = some r) ?_ ?_
        · clear hO hN h0
          rintro T H ⟨aA, hT, hO, hN, h0⟩
          refine bB hT ?_
          clear hT
          unfold gI at h0
          refine bL ?_
          obtain rfl := oI h0
          exact aK (bC (pF (x := (.tup [])) (by kernel_rfl) (aX.refl _) ⟨rfl, hO.ext, hO.at 0 (by kernel_rfl), by simp only [List.length_map]; exact hN.trans hN0⟩))
        refine aZ aH 2 [2] [(17, (eI m2))] ?_
        refine bQ 6 ?_
        refine cO [(0, (.msl 3 lo0p 0 (List.length aA))), (14, (eI i14)), (17, (eI m2))] ?_
        refine cK (fun T H => ∃ aA : List aC, ∃ k17 : Int, Has T [(0, (.msl 3 lo0p 0 (List.length aA))), (14, (eI i14)), (17, (eI k17))] ∧ aO ⟨H0, [lo0p], []⟩ H [(lo0p, 3, List.map aE aA)] ∧ List.length aA = N0 ∧ kD cmp4 rec aA i14 k17 = some r) ?_ ⟨aA, m2, .eq (by kernel_rfl), hO, hN, h0⟩
        clear hO hN h0
        rintro T H ⟨aA, k17, hT, hO, hN, h0⟩
        refine bB hT ?_
        clear hT
        unfold kD at h0
        obtain ⟨rr0, hl0, h0⟩ := aW h0
        refine cA (by kernel_rfl) (fun (s : List aC × Int) T H => Has T [(0, (.msl 3 lo0p 0 (List.length s.1))), (14, (eI i14)), (17, (eI s.2))] ∧ aO ⟨H0, [lo0p], []⟩ H [(lo0p, 3, List.map aE s.1)] ∧ List.length s.1 = N0) hl0 ⟨.eq (by kernel_rfl), hO, hN⟩ ?_
        clear hO hN
        rintro k0 s out1 T H ⟨hT, hO, hN⟩ h1 ho0
        obtain ⟨aA, k17⟩ := s
        replace h1 : jQ cmp4 rec i14 aA k17 = some out1 := h1
        try dsimp only at hT
        refine bB hT ?_
        clear hT
        unfold jQ at h1
        refine aR ?_
        refine aZ aH 3 [] [(110, (aL (decide (i14 < k17))))] ?_
        refine bM h1 (fun h1 => ?_) (fun h1 => ?_)
        · refine bN ?_
          refine bH [(0, (.msl 3 lo0p 0 (List.length aA))), (14, (eI i14)), (17, (eI k17))] ?_
          refine aR ?_
          refine bQ 7 ?_
          refine iV (iU []) aH 18 ?_
          obtain ⟨c25, h1⟩ := bJ h1
          refine dG 9 [0 ≤ (wR (k17 - (1 : Int))) ∧ (wR (k17 - (1 : Int))) < (lN aA)] ⟨c25, trivial⟩ ?_
          refine kH 0 lo0p 3 (0 + Int.toNat (wR (k17 - (1 : Int)))) (aE (gD aA (wR (k17 - (1 : Int))))) (aE (gD aA (wR (k17 - (1 : Int))))) (List.map aE aA) hO (cN c25) ?_
          obtain ⟨c26, h1⟩ := bJ h1
          refine dG 13 [0 ≤ k17 ∧ k17 < (lN aA)] ⟨c26, trivial⟩ ?_
          refine kH 0 lo0p 3 (0 + Int.toNat k17) (aE (gD aA k17)) (aE (gD aA k17)) (List.map aE aA) hO (cN c26) ?_
          obtain ⟨c27, h1⟩ := bJ h1
          refine dG 15 [0 ≤ k17 ∧ k17 < (lN aA)] ⟨c27, trivial⟩ ?_
          refine qJ 0 lo0p 3 (0 + Int.toNat k17) (aE (gD aA k17)) (aE (gD aA (wR (k17 - (1 : Int))))) (List.map aE aA) [(lo0p, 3, List.map aE (List.set aA (Int.toNat k17) (gD aA (wR (k17 - (1 : Int))))))] hO (cN c27) (by simp only [List.set, nA]) ?_
          intro H hO
          replace hN : List.length (List.set aA (Int.toNat k17) (gD aA (wR (k17 - (1 : Int))))) = N0 := by simpa using hN
          obtain ⟨c28, h1⟩ := bJ h1
          refine dG 17 [0 ≤ (wR (k17 - (1 : Int))) ∧ (wR (k17 - (1 : Int))) < (lN aA)] ⟨c28, trivial⟩ ?_
          refine qJ 0 lo0p 3 (0 + Int.toNat (wR (k17 - (1 : Int)))) (aE (gD (List.set aA (Int.toNat k17) (gD aA (wR (k17 - (1 : Int))))) (wR (k17 - (1 : Int))))) (aE (gD aA k17)) (List.map aE (List.set aA (Int.toNat k17) (gD aA (wR (k17 - (1 : Int)))))) [(lo0p, 3, List.map aE (List.set (List.set aA (Int.toNat k17) (gD aA (wR (k17 - (1 : Int))))) (Int.toNat (wR (k17 - (1 : Int)))) (gD aA k17)))] hO (vS c28 (by simp [])) (by simp only [List.set, nA]) ?_
          intro H hO
          replace hN : List.length (List.set (List.set aA (Int.toNat k17) (gD aA (wR (k17 - (1 : Int))))) (Int.toNat (wR (k17 - (1 : Int)))) (gD aA k17)) = N0 := by simpa using hN
          refine wL (by kernel_rfl) ?_
          refine cS (l := [(0, (.msl 3 lo0p 0 (List.length (List.set (List.set aA (Int.toNat k17) (gD aA (wR (k17 - (1 : Int))))) (Int.toNat (wR (k17 - (1 : Int)))) (gD aA k17))))), (14, (eI i14)), (17, (eI k17))]) ⟨[(0, (.msl 3 lo0p 0 (List.length aA))), (14, (eI i14)), (17, (eI k17))], by kernel_rfl, rfl, ⟨aX.eq (by simp []), aX.refl _, aX.refl _, trivial⟩⟩ ?_
          refine aK (aV (aI (?_)))
          refine aT aH 3 ?_
          refine bD ?_
          exact aK (aI (⟨rfl, _, (oI h1).symm, .eq (by kernel_rfl), hO, hN⟩))
        refine dS 6 ?_
        obtain rfl := oI h1
        obtain rfl : _ = rr0 := ho0
        replace h0 : gI cmp4 rec aA = some r := h0
        exact aK (aY (aY (bO (aI (⟨rfl, _, .eq (by kernel_rfl), hO, hN, h0⟩)))))
      refine bQ 4 ?_
      refine cO [(0, (.msl 3 lo0p 0 (List.length aA))), (2, (eI m2)), (4, (.fn (.func cmp4_f) cmp4_a cmp4_c)), (14, (eI a1)), (15, (eI m2))] ?_
      refine cK (fun T H => ∃ aA : List aC, ∃ i14 : Int, ∃ j15 : Int, Has T [(0, (.msl 3 lo0p 0 (List.length aA))), (2, (eI m2)), (4, (.fn (.func cmp4_f) cmp4_a cmp4_c)), (14, (eI i14)), (15, (eI j15))] ∧ aO ⟨H0, [lo0p], []⟩ H [(lo0p, 3, List.map aE aA)] ∧ List.length aA = N0 ∧ jK cmp4 rec aA m2 i14 j15 = some r) ?_ ⟨aA, a1, m2, .eq (by kernel_rfl), hO, hN, h0⟩
      clear hO hN h0
      rintro T H ⟨aA, i14, j15, hT, hO, hN, h0⟩
      refine bB hT ?_
      clear hT
      unfold jK at h0
      obtain ⟨rr0, hl0, h0⟩ := aW h0
      refine cA (by kernel_rfl) (fun (s : List aC × Int × Int) T H => Has T [(0, (.msl 3 lo0p 0 (List.length s.1))), (2, (eI m2)), (4, (.fn (.func cmp4_f) cmp4_a cmp4_c)), (14, (eI s.2.1)), (15, (eI s.2.2))] ∧ aO ⟨H0, [lo0p], []⟩ H [(lo0p, 3, List.map aE s.1)] ∧ List.length s.1 = N0) hl0 ⟨.eq (by kernel_rfl), hO, hN⟩ ?_
      clear hO hN
      rintro k0 s out1 T H ⟨hT, hO, hN⟩ h1 ho0
      obtain ⟨aA, i14, j15⟩ := s
      replace h1 : jY cmp4 rec m2 aA i14 j15 = some out1 := h1
      try dsimp only at hT
      refine bB hT ?_
      clear hT
      unfold jY at h1
      refine aR ?_
      refine aZ aH 3 [] [(85, (aL (decide (i14 < j15))))] ?_
      refine bM h1 (fun h1 => ?_) (fun h1 => ?_)
      · refine bN ?_
        refine bH [(0, (.msl 3 lo0p 0 (List.length aA))), (2, (eI m2)), (4, (.fn (.func cmp4_f) cmp4_a cmp4_c)), (14, (eI i14)), (15, (eI j15))] ?_
        refine bQ 5 ?_
        refine aR ?_
        refine aT aH 7 ?_
        obtain ⟨c30, h1⟩ := bJ h1
        refine wB [0 ≤ (1 : Int)] ⟨c30, trivial⟩ ?_
        refine bR [] [(16, (eI (wR (Int.fdiv (IntKind.u64.wrap (wR (i14 + j15))) (2 ^ (min (Int.toNat (1 : Int)) 64))))))] ?_
        refine aR ?_
        refine iV (iU [101]) aH 12 ?_
        obtain ⟨c31, h1⟩ := bJ h1
        refine dG 4 [0 ≤ m2 ∧ m2 < (lN aA)] ⟨c31, trivial⟩ ?_
        refine kH 0 lo0p 3 (0 + Int.toNat m2) (aE (gD aA m2)) (aE (gD aA m2)) (List.map aE aA) hO (cN c31) ?_
        obtain ⟨c32, h1⟩ := bJ h1
        refine dG 8 [0 ≤ (wR (Int.fdiv (IntKind.u64.wrap (wR (i14 + j15))) (2 ^ (min (Int.toNat (1 : Int)) 64)))) ∧ (wR (Int.fdiv (IntKind.u64.wrap (wR (i14 + j15))) (2 ^ (min (Int.toNat (1 : Int)) 64)))) < (lN aA)] ⟨c32, trivial⟩ ?_
        refine kH 0 lo0p 3 (0 + Int.toNat (wR (Int.fdiv (IntKind.u64.wrap (wR (i14 + j15))) (2 ^ (min (Int.toNat (1 : Int)) 64))))) (aE (gD aA (wR (Int.fdiv (IntKind.u64.wrap (wR (i14 + j15))) (2 ^ (min (Int.toNat (1 : Int)) 64)))))) (aE (gD aA (wR (Int.fdiv (IntKind.u64.wrap (wR (i14 + j15))) (2 ^ (min (Int.toNat (1 : Int)) 64)))))) (List.map aE aA) hO (cN c32) ?_
        obtain ⟨x33, hx34, h1⟩ := aW h1
        refine vN (cmp4_h (gD aA m2) (gD aA (wR (Int.fdiv (IntKind.u64.wrap (wR (i14 + j15))) (2 ^ (min (Int.toNat (1 : Int)) 64))))) _ hx34) hO ?_
        intro H hO
        refine nL ?_
        refine bR [] [(103, (aL (!(decide (x33 < (0 : Int))))))] ?_
        refine bM h1 (fun h1 => ?_) (fun h1 => ?_)
        · refine aT aH 3 ?_
          refine bD ?_
          exact aK (aV (aI (⟨rfl, _, (oI h1).symm, .eq (by kernel_rfl), hO, hN⟩)))
        refine aT aH 2 ?_
        refine bD ?_
        exact aK (aV (aI (⟨rfl, _, (oI h1).symm, .eq (by kernel_rfl), hO, hN⟩)))
      refine dS 4 ?_
      obtain rfl := oI h1
      obtain rfl : _ = rr0 := ho0
      replace h0 : fX cmp4 rec aA m2 i14 = some r := h0
      exact aK (aY (aY (bO (aI (⟨rfl, _, _, .eq (by kernel_rfl), hO, hN, h0⟩)))))
    refine bN ?_
    exact aK (aI (⟨rfl, _, .eq (by kernel_rfl), hO, hN, h0⟩))
  refine aZ aH 4 [] [(28, (aL (decide ((wR (m2 - a1)) = (1 : Int)))))] ?_
  refine bM h0 (fun h0 => ?_) (fun h0 => ?_)
  · refine aZ aH 2 [2, 28] [(10, (eI m2))] ?_
    refine aZ aH 2 [3] [(11, (eI b3))] ?_
    refine cT (fun T H => ∃ aA : List aC, ∃ i10 : Int, Has T [(0, (.msl 3 lo0p 0 (List.length aA))), (1, (eI a1)), (10, (eI i10))] ∧ aO ⟨H0, [lo0p], []⟩ H [(lo0p, 3, List.map aE aA)] ∧ List.length aA = N0 ∧ fP cmp4 rec aA a1 i10 = some r) ?_ ?_
    · clear hO hN h0
      rintro T H ⟨aA, i10, hT, hO, hN, h0⟩
      refine bB hT ?_
      clear hT
      unfold fP at h0
      refine cT (fun T H => ∃ aA : List aC, Has T [(0, (.msl 3 lo0p 0 (List.length aA)))] ∧ aO ⟨H0, [lo0p], []⟩ H [(lo0p, 3, List.map aE aA)] ∧ List.length aA = N0 ∧ fO cmp4 rec aA = some r) ?_ ?_
      · clear hO hN h0
        rintro T H ⟨aA, hT, hO, hN, h0⟩
        refine bB hT ?_
        clear hT
        unfold fO at h0
        refine bL ?_
        obtain rfl := oI h0
        exact aK (bC (pF (x := (.tup [])) (by kernel_rfl) (aX.refl _) ⟨rfl, hO.ext, hO.at 0 (by kernel_rfl), by simp only [List.length_map]; exact hN.trans hN0⟩))
      refine aZ aH 2 [1] [(13, (eI a1))] ?_
      refine bQ 2 ?_
      refine cO [(0, (.msl 3 lo0p 0 (List.length aA))), (10, (eI i10)), (13, (eI a1))] ?_
      refine cK (fun T H => ∃ aA : List aC, ∃ k13 : Int, Has T [(0, (.msl 3 lo0p 0 (List.length aA))), (10, (eI i10)), (13, (eI k13))] ∧ aO ⟨H0, [lo0p], []⟩ H [(lo0p, 3, List.map aE aA)] ∧ List.length aA = N0 ∧ kA cmp4 rec aA i10 k13 = some r) ?_ ⟨aA, a1, .eq (by kernel_rfl), hO, hN, h0⟩
      clear hO hN h0
      rintro T H ⟨aA, k13, hT, hO, hN, h0⟩
      refine bB hT ?_
      clear hT
      unfold kA at h0
      obtain ⟨rr0, hl0, h0⟩ := aW h0
      refine cA (by kernel_rfl) (fun (s : List aC × Int) T H => Has T [(0, (.msl 3 lo0p 0 (List.length s.1))), (10, (eI i10)), (13, (eI s.2))] ∧ aO ⟨H0, [lo0p], []⟩ H [(lo0p, 3, List.map aE s.1)] ∧ List.length s.1 = N0) hl0 ⟨.eq (by kernel_rfl), hO, hN⟩ ?_
      clear hO hN
      rintro k0 s out1 T H ⟨hT, hO, hN⟩ h1 ho0
      obtain ⟨aA, k13⟩ := s
      replace h1 : kC cmp4 rec i10 aA k13 = some out1 := h1
      try dsimp only at hT
      refine bB hT ?_
      clear hT
      unfold kC at h1
      refine aR ?_
      refine aZ aH 4 [] [(58, (aL (decide (k13 < (wR (i10 - (1 : Int)))))))] ?_
      refine bM h1 (fun h1 => ?_) (fun h1 => ?_)
      · refine bN ?_
        refine bH [(0, (.msl 3 lo0p 0 (List.length aA))), (10, (eI i10)), (13, (eI k13))] ?_
        refine aR ?_
        refine bQ 3 ?_
        refine iV (iU []) aH 18 ?_
        obtain ⟨c39, h1⟩ := bJ h1
        refine dG 9 [0 ≤ (wR (k13 + (1 : Int))) ∧ (wR (k13 + (1 : Int))) < (lN aA)] ⟨c39, trivial⟩ ?_
        refine kH 0 lo0p 3 (0 + Int.toNat (wR (k13 + (1 : Int)))) (aE (gD aA (wR (k13 + (1 : Int))))) (aE (gD aA (wR (k13 + (1 : Int))))) (List.map aE aA) hO (cN c39) ?_
        obtain ⟨c40, h1⟩ := bJ h1
        refine dG 13 [0 ≤ k13 ∧ k13 < (lN aA)] ⟨c40, trivial⟩ ?_
        refine kH 0 lo0p 3 (0 + Int.toNat k13) (aE (gD aA k13)) (aE (gD aA k13)) (List.map aE aA) hO (cN c40) ?_
        obtain ⟨c41, h1⟩ := bJ h1
        refine dG 15 [0 ≤ k13 ∧ k13 < (lN aA)] ⟨c41, trivial⟩ ?_
        refine qJ 0 lo0p 3 (0 + Int.toNat k13) (aE (gD aA k13)) (aE (gD aA (wR (k13 + (1 : Int))))) (List.map aE aA) [(lo0p, 3, List.map aE (List.set aA (Int.toNat k13) (gD aA (wR (k13 + (1 : Int))))))] hO (cN c41) (by simp only [List.set, nA]) ?_
        intro H hO
        replace hN : List.length (List.set aA (Int.toNat k13) (gD aA (wR (k13 + (1 : Int))))) = N0 := by simpa using hN
        obtain ⟨c42, h1⟩ := bJ h1
        refine dG 17 [0 ≤ (wR (k13 + (1 : Int))) ∧ (wR (k13 + (1 : Int))) < (lN aA)] ⟨c42, trivial⟩ ?_
        refine qJ 0 lo0p 3 (0 + Int.toNat (wR (k13 + (1 : Int)))) (aE (gD (List.set aA (Int.toNat k13) (gD aA (wR (k13 + (1 : Int))))) (wR (k13 + (1 : Int))))) (aE (gD aA k13)) (List.map aE (List.set aA (Int.toNat k13) (gD aA (wR (k13 + (1 : Int)))))) [(lo0p, 3, List.map aE (List.set (List.set aA (Int.toNat k13) (gD aA (wR (k13 + (1 : Int))))) (Int.toNat (wR (k13 + (1 : Int)))) (gD aA k13)))] hO (vS c42 (by simp [])) (by simp only [List.set, nA]) ?_
        intro H hO
        replace hN : List.length (List.set (List.set aA (Int.toNat k13) (gD aA (wR (k13 + (1 : Int))))) (Int.toNat (wR (k13 + (1 : Int)))) (gD aA k13)) = N0 := by simpa using hN
        refine wL (by kernel_rfl) ?_
        refine cS (l := [(0, (.msl 3 lo0p 0 (List.length (List.set (List.set aA (Int.toNat k13) (gD aA (wR (k13 + (1 : Int))))) (Int.toNat (wR (k13 + (1 : Int)))) (gD aA k13))))), (10, (eI i10)), (13, (eI k13))]) ⟨[(0, (.msl 3 lo0p 0 (List.length aA))), (10, (eI i10)), (13, (eI k13))], by kernel_rfl, rfl, ⟨aX.eq (by simp []), aX.refl _, aX.refl _, trivial⟩⟩ ?_
        refine aK (aV (aI (?_)))
        refine aT aH 3 ?_
        refine bD ?_
        exact aK (aI (⟨rfl, _, (oI h1).symm, .eq (by kernel_rfl), hO, hN⟩))
      refine dS 2 ?_
      obtain rfl := oI h1
      obtain rfl : _ = rr0 := ho0
      replace h0 : fO cmp4 rec aA = some r := h0
      exact aK (aY (aY (bO (aI (⟨rfl, _, .eq (by kernel_rfl), hO, hN, h0⟩)))))
    refine bQ 0 ?_
    refine cO [(0, (.msl 3 lo0p 0 (List.length aA))), (1, (eI a1)), (4, (.fn (.func cmp4_f) cmp4_a cmp4_c)), (10, (eI m2)), (11, (eI b3))] ?_
    refine cK (fun T H => ∃ aA : List aC, ∃ i10 : Int, ∃ j11 : Int, Has T [(0, (.msl 3 lo0p 0 (List.length aA))), (1, (eI a1)), (4, (.fn (.func cmp4_f) cmp4_a cmp4_c)), (10, (eI i10)), (11, (eI j11))] ∧ aO ⟨H0, [lo0p], []⟩ H [(lo0p, 3, List.map aE aA)] ∧ List.length aA = N0 ∧ kE cmp4 rec aA a1 i10 j11 = some r) ?_ ⟨aA, m2, b3, .eq (by kernel_rfl), hO, hN, h0⟩
    clear hO hN h0
    rintro T H ⟨aA, i10, j11, hT, hO, hN, h0⟩
    refine bB hT ?_
    clear hT
    unfold kE at h0
    obtain ⟨rr0, hl0, h0⟩ := aW h0
    refine cA (by kernel_rfl) (fun (s : List aC × Int × Int) T H => Has T [(0, (.msl 3 lo0p 0 (List.length s.1))), (1, (eI a1)), (4, (.fn (.func cmp4_f) cmp4_a cmp4_c)), (10, (eI s.2.1)), (11, (eI s.2.2))] ∧ aO ⟨H0, [lo0p], []⟩ H [(lo0p, 3, List.map aE s.1)] ∧ List.length s.1 = N0) hl0 ⟨.eq (by kernel_rfl), hO, hN⟩ ?_
    clear hO hN
    rintro k0 s out1 T H ⟨hT, hO, hN⟩ h1 ho0
    obtain ⟨aA, i10, j11⟩ := s
    replace h1 : jT cmp4 rec a1 aA i10 j11 = some out1 := h1
    try dsimp only at hT
    refine bB hT ?_
    clear hT
    unfold jT at h1
    refine aR ?_
    refine aZ aH 3 [] [(33, (aL (decide (i10 < j11))))] ?_
    refine bM h1 (fun h1 => ?_) (fun h1 => ?_)
    · refine bN ?_
      refine bH [(0, (.msl 3 lo0p 0 (List.length aA))), (1, (eI a1)), (4, (.fn (.func cmp4_f) cmp4_a cmp4_c)), (10, (eI i10)), (11, (eI j11))] ?_
      refine bQ 1 ?_
      refine aR ?_
      refine aT aH 7 ?_
      obtain ⟨c44, h1⟩ := bJ h1
      refine wB [0 ≤ (1 : Int)] ⟨c44, trivial⟩ ?_
      refine bR [] [(12, (eI (wR (Int.fdiv (IntKind.u64.wrap (wR (i10 + j11))) (2 ^ (min (Int.toNat (1 : Int)) 64))))))] ?_
      refine aR ?_
      refine iV (iU [49]) aH 11 ?_
      obtain ⟨c45, h1⟩ := bJ h1
      refine dG 4 [0 ≤ (wR (Int.fdiv (IntKind.u64.wrap (wR (i10 + j11))) (2 ^ (min (Int.toNat (1 : Int)) 64)))) ∧ (wR (Int.fdiv (IntKind.u64.wrap (wR (i10 + j11))) (2 ^ (min (Int.toNat (1 : Int)) 64)))) < (lN aA)] ⟨c45, trivial⟩ ?_
      refine kH 0 lo0p 3 (0 + Int.toNat (wR (Int.fdiv (IntKind.u64.wrap (wR (i10 + j11))) (2 ^ (min (Int.toNat (1 : Int)) 64))))) (aE (gD aA (wR (Int.fdiv (IntKind.u64.wrap (wR (i10 + j11))) (2 ^ (min (Int.toNat (1 : Int)) 64)))))) (aE (gD aA (wR (Int.fdiv (IntKind.u64.wrap (wR (i10 + j11))) (2 ^ (min (Int.toNat (1 : Int)) 64)))))) (List.map aE aA) hO (cN c45) ?_
      obtain ⟨c46, h1⟩ := bJ h1
      refine dG 8 [0 ≤ a1 ∧ a1 < (lN aA)] ⟨c46, trivial⟩ ?_
      refine kH 0 lo0p 3 (0 + Int.toNat a1) (aE (gD aA a1)) (aE (gD aA a1)) (List.map aE aA) hO (cN c46) ?_
      obtain ⟨x47, hx48, h1⟩ := aW h1
      refine vN (cmp4_h (gD aA (wR (Int.fdiv (IntKind.u64.wrap (wR (i10 + j11))) (2 ^ (min (Int.toNat (1 : Int)) 64))))) (gD aA a1) _ hx48) hO ?_
      intro H hO
      refine nL ?_
      refine bR [] [(50, (aL (decide (x47 < (0 : Int)))))] ?_
      refine bM h1 (fun h1 => ?_) (fun h1 => ?_)
      · refine aT aH 3 ?_
        refine bD ?_
        exact aK (aV (aI (⟨rfl, _, (oI h1).symm, .eq (by kernel_rfl), hO, hN⟩)))
      refine aT aH 2 ?_
      refine bD ?_
      exact aK (aV (aI (⟨rfl, _, (oI h1).symm, .eq (by kernel_rfl), hO, hN⟩)))
    refine dS 0 ?_
    obtain rfl := oI h1
    obtain rfl : _ = rr0 := ho0
    replace h0 : fP cmp4 rec aA a1 i10 = some r := h0
    exact aK (aY (aY (bO (aI (⟨rfl, _, _, .eq (by kernel_rfl), hO, hN, h0⟩)))))
  refine bN ?_
  exact aK (aI (⟨rfl, _, .eq (by kernel_rfl), hO, hN, h0⟩))

theorem nC (cmp4_f : Nat) (cmp4_a cmp4_c : List V) (cmp4 : aC → aC → Option Int) (cmp4_h : ∀ a0 a1 r, cmp4 a0 a1 = some r → bS Try.prog cmp4_f (cmp4_a ++ [(aE a0), (aE a1)] ++ cmp4_c) (eI r)) : ∀ (k : Nat) (lo0p : Nat) (aA : (List aC)) (a1 : Int) (m2 : Int) (b3 : Int) (r : List aC), gC cmp4 k aA a1 m2 b3 = some r → kQ Try.prog 128 lo0p 3 (List.map aE aA) (List.map aE r) [(.msl 3 lo0p 0 (List.length aA)), (eI a1), (eI m2), (eI b3), (.fn (.func cmp4_f) cmp4_a cmp4_c)] (.tup [])
  | 0, _, _, _, _, _, _, h => by cases h
  | k + 1, lo0p, aA, a1, m2, b3, r, h => rU cmp4_f cmp4_a cmp4_c cmp4 cmp4_h _ (nC cmp4_f cmp4_a cmp4_c cmp4 cmp4_h k) lo0p aA a1 m2 b3 r h

theorem nV (lo0p : Nat) (aA : (List aC)) (a1 : Int) (m2 : Int) (b3 : Int) (cmp4_f : Nat) (cmp4_a cmp4_c : List V) (cmp4 : aC → aC → Option Int) (cmp4_h : ∀ a0 a1 r, cmp4 a0 a1 = some r → bS Try.prog cmp4_f (cmp4_a ++ [(aE a0), (aE a1)] ++ cmp4_c) (eI r)) (r : List aC) (h0 : eC aA a1 m2 b3 cmp4 = some r) : kQ Try.prog 128 lo0p 3 (List.map aE aA) (List.map aE r) [(.msl 3 lo0p 0 (List.length aA)), (eI a1), (eI m2), (eI b3), (.fn (.func cmp4_f) cmp4_a cmp4_c)] (.tup []) := by
  obtain ⟨k, hk⟩ := EH h0
  exact nC cmp4_f cmp4_a cmp4_c cmp4 cmp4_h k lo0p aA a1 m2 b3 r hk

theorem vY (lo0p : Nat) (aA : (List aC)) (n1 : Int) (cmp2_f : Nat) (cmp2_a cmp2_c : List V) (cmp2 : aC → aC → Option Int) (cmp2_h : ∀ a0 a1 r, cmp2 a0 a1 = some r → bS Try.prog cmp2_f (cmp2_a ++ [(aE a0), (aE a1)] ++ cmp2_c) (eI r)) (r : List aC) (h0 : eY aA n1 cmp2 = some r) : kQ Try.prog 99 lo0p 3 (List.map aE aA) (List.map aE r) [(.msl 3 lo0p 0 (List.length aA)), (eI n1), (.fn (.func cmp2_f) cmp2_a cmp2_c)] (.tup []) := by
  intro H0 hl0
  refine cG Try.func99 ?_
  have hO := aO.pE hl0
  clear hl0
  obtain ⟨N0, hN0⟩ : ∃ n, n = List.length aA := ⟨_, rfl⟩
  have hN : List.length aA = N0 := hN0.symm
  unfold eY at h0
  refine aZ aH 1 [] [(6, (eI (20 : Int)))] ?_
  refine aZ aH 3 [] [(7, (eI (0 : Int))), (8, (eI (20 : Int)))] ?_
  refine cT (fun T H => ∃ aA : List aC, ∃ aP : Int, ∃ a7 : Int, Has T [(0, (.msl 3 lo0p 0 (List.length aA))), (1, (eI n1)), (2, (.fn (.func cmp2_f) cmp2_a cmp2_c)), (6, (eI aP)), (7, (eI a7))] ∧ aO ⟨H0, [lo0p], []⟩ H [(lo0p, 3, List.map aE aA)] ∧ List.length aA = N0 ∧ eT cmp2 aA n1 aP a7 = some r) ?_ ?_
  · clear hO hN h0
    rintro T H ⟨aA, aP, a7, hT, hO, hN, h0⟩
    refine bB hT ?_
    clear hT
    unfold eT at h0
    refine aR ?_
    refine aT aH 5 ?_
    refine bK 4 ?_
    obtain ⟨x1, hx2, h0⟩ := aW h0
    refine nN [(lo0p, 3, List.map aE x1)] 0 (mN lo0p aA a7 n1 cmp2_f cmp2_a cmp2_c cmp2 cmp2_h _ hx2) hO ?_
    intro H hO hl3
    simp only [List.length_map] at hl3
    replace hN := hl3.trans hN
    refine cF ?_
    refine cS (l := [(0, (.msl 3 lo0p 0 (List.length x1))), (1, (eI n1)), (2, (.fn (.func cmp2_f) cmp2_a cmp2_c)), (6, (eI aP))]) ⟨[(0, (.msl 3 lo0p 0 (List.length aA))), (1, (eI n1)), (2, (.fn (.func cmp2_f) cmp2_a cmp2_c)), (6, (eI aP))], by kernel_rfl, rfl, ⟨aX.eq (by simp [hl3]), aX.refl _, aX.refl _, aX.refl _, trivial⟩⟩ ?_
    refine aK (aI (?_))
    refine bQ 2 ?_
    refine cO [(0, (.msl 3 lo0p 0 (List.length x1))), (1, (eI n1)), (2, (.fn (.func cmp2_f) cmp2_a cmp2_c)), (6, (eI aP))] ?_
    refine cK (fun T H => ∃ aA : List aC, ∃ aP : Int, Has T [(0, (.msl 3 lo0p 0 (List.length aA))), (1, (eI n1)), (2, (.fn (.func cmp2_f) cmp2_a cmp2_c)), (6, (eI aP))] ∧ aO ⟨H0, [lo0p], []⟩ H [(lo0p, 3, List.map aE aA)] ∧ List.length aA = N0 ∧ iD cmp2 aA n1 aP = some r) ?_ ⟨x1, aP, .eq (by kernel_rfl), hO, hN, h0⟩
    clear hO hN h0
    rintro T H ⟨aA, aP, hT, hO, hN, h0⟩
    refine bB hT ?_
    clear hT
    unfold iD at h0
    obtain ⟨rr0, hl0, h0⟩ := aW h0
    refine cA (by kernel_rfl) (fun (s : List aC × Int) T H => Has T [(0, (.msl 3 lo0p 0 (List.length s.1))), (1, (eI n1)), (2, (.fn (.func cmp2_f) cmp2_a cmp2_c)), (6, (eI s.2))] ∧ aO ⟨H0, [lo0p], []⟩ H [(lo0p, 3, List.map aE s.1)] ∧ List.length s.1 = N0) hl0 ⟨.eq (by kernel_rfl), hO, hN⟩ ?_
    clear hO hN
    rintro k0 s out1 T H ⟨hT, hO, hN⟩ h1 ho0
    obtain ⟨aA, aP⟩ := s
    replace h1 : gY cmp2 n1 aA aP = some out1 := h1
    try dsimp only at hT
    refine bB hT ?_
    clear hT
    unfold gY at h1
    refine aR ?_
    refine aZ aH 3 [] [(30, (aL (decide (aP < n1))))] ?_
    refine bM h1 (fun h1 => ?_) (fun h1 => ?_)
    · refine bN ?_
      refine bH [(0, (.msl 3 lo0p 0 (List.length aA))), (1, (eI n1)), (2, (.fn (.func cmp2_f) cmp2_a cmp2_c)), (6, (eI aP))] ?_
      refine bQ 3 ?_
      refine aZ aH 4 [] [(7, (eI (0 : Int))), (8, (eI (wR ((2 : Int) * aP))))] ?_
      refine cT (fun T H => ∃ aA : List aC, ∃ a7 : Int, Has T [(0, (.msl 3 lo0p 0 (List.length aA))), (1, (eI n1)), (2, (.fn (.func cmp2_f) cmp2_a cmp2_c)), (6, (eI aP)), (7, (eI a7))] ∧ aO ⟨H0, [lo0p], []⟩ H [(lo0p, 3, List.map aE aA)] ∧ List.length aA = N0 ∧ eN cmp2 aA n1 aP a7 = some out1) ?_ ?_
      · clear hO hN h1
        rintro T H ⟨aA, a7, hT, hO, hN, h1⟩
        refine bB hT ?_
        clear hT
        unfold eN at h1
        refine cT (fun T H => ∃ aA : List aC, Has T [(0, (.msl 3 lo0p 0 (List.length aA))), (1, (eI n1)), (2, (.fn (.func cmp2_f) cmp2_a cmp2_c)), (6, (eI aP))] ∧ aO ⟨H0, [lo0p], []⟩ H [(lo0p, 3, List.map aE aA)] ∧ List.length aA = N0 ∧ gW cmp2 aA n1 aP = some out1) ?_ ?_
        · clear hO hN h1
          rintro T H ⟨aA, hT, hO, hN, h1⟩
          refine bB hT ?_
          clear hT
          unfold gW at h1
          refine aT aH 3 ?_
          refine bD ?_
          exact aK (aV (aI (⟨rfl, _, (oI h1).symm, .eq (by kernel_rfl), hO, hN⟩)))
        refine aZ aH 4 [] [(9, (eI (wR (a7 + aP))))] ?_
        refine aZ aH 3 [] [(54, (aL (decide ((wR (a7 + aP)) < n1))))] ?_
        refine bM h1 (fun h1 => ?_) (fun h1 => ?_)
        · refine aT aH 6 ?_
          refine bK 5 ?_
          obtain ⟨x6, hx7, h1⟩ := aW h1
          refine nN [(lo0p, 3, List.map aE x6)] 0 (nV lo0p aA a7 (wR (a7 + aP)) n1 cmp2_f cmp2_a cmp2_c cmp2 cmp2_h _ hx7) hO ?_
          intro H hO hl8
          simp only [List.length_map] at hl8
          replace hN := hl8.trans hN
          refine cF ?_
          refine cS (l := [(0, (.msl 3 lo0p 0 (List.length x6))), (1, (eI n1)), (2, (.fn (.func cmp2_f) cmp2_a cmp2_c)), (6, (eI aP))]) ⟨[(0, (.msl 3 lo0p 0 (List.length aA))), (1, (eI n1)), (2, (.fn (.func cmp2_f) cmp2_a cmp2_c)), (6, (eI aP))], by kernel_rfl, rfl, ⟨aX.eq (by simp [hl8]), aX.refl _, aX.refl _, aX.refl _, trivial⟩⟩ ?_
          exact aK (aI (⟨rfl, _, .eq (by kernel_rfl), hO, hN, h1⟩))
        refine bN ?_
        exact aK (aI (⟨rfl, _, .eq (by kernel_rfl), hO, hN, h1⟩))
      refine bQ 4 ?_
      refine cO [(0, (.msl 3 lo0p 0 (List.length aA))), (1, (eI n1)), (2, (.fn (.func cmp2_f) cmp2_a cmp2_c)), (6, (eI aP)), (7, (eI (0 : Int))), (8, (eI (wR ((2 : Int) * aP))))] ?_
      refine cK (fun T H => ∃ aA : List aC, ∃ a7 : Int, ∃ b8 : Int, Has T [(0, (.msl 3 lo0p 0 (List.length aA))), (1, (eI n1)), (2, (.fn (.func cmp2_f) cmp2_a cmp2_c)), (6, (eI aP)), (7, (eI a7)), (8, (eI b8))] ∧ aO ⟨H0, [lo0p], []⟩ H [(lo0p, 3, List.map aE aA)] ∧ List.length aA = N0 ∧ gO cmp2 aA n1 aP a7 b8 = some out1) ?_ ⟨aA, (0 : Int), wR ((2 : Int) * aP), .eq (by kernel_rfl), hO, hN, h1⟩
      clear hO hN h1
      rintro T H ⟨aA, a7, b8, hT, hO, hN, h1⟩
      refine bB hT ?_
      clear hT
      unfold gO at h1
      obtain ⟨rr1, hl1, h1⟩ := aW h1
      refine cA (by kernel_rfl) (fun (s : List aC × Int × Int) T H => Has T [(0, (.msl 3 lo0p 0 (List.length s.1))), (1, (eI n1)), (2, (.fn (.func cmp2_f) cmp2_a cmp2_c)), (6, (eI aP)), (7, (eI s.2.1)), (8, (eI s.2.2))] ∧ aO ⟨H0, [lo0p], []⟩ H [(lo0p, 3, List.map aE s.1)] ∧ List.length s.1 = N0) hl1 ⟨.eq (by kernel_rfl), hO, hN⟩ ?_
      clear hO hN
      rintro k1 s out2 T H ⟨hT, hO, hN⟩ h2 ho1
      obtain ⟨aA, a7, b8⟩ := s
      replace h2 : hU cmp2 n1 aP aA a7 b8 = some out2 := h2
      try dsimp only at hT
      refine bB hT ?_
      clear hT
      unfold hU at h2
      refine aR ?_
      refine aZ aH 3 [] [(35, (aL (decide (b8 ≤ n1))))] ?_
      refine bM h2 (fun h2 => ?_) (fun h2 => ?_)
      · refine bN ?_
        refine bH [(0, (.msl 3 lo0p 0 (List.length aA))), (1, (eI n1)), (2, (.fn (.func cmp2_f) cmp2_a cmp2_c)), (6, (eI aP)), (7, (eI a7)), (8, (eI b8))] ?_
        refine bQ 5 ?_
        refine aR ?_
        refine aT aH 8 ?_
        refine bK 7 ?_
        obtain ⟨x10, hx11, h2⟩ := aW h2
        refine nN [(lo0p, 3, List.map aE x10)] 0 (nV lo0p aA a7 (wR (a7 + aP)) b8 cmp2_f cmp2_a cmp2_c cmp2 cmp2_h _ hx11) hO ?_
        intro H hO hl12
        simp only [List.length_map] at hl12
        replace hN := hl12.trans hN
        refine cF ?_
        refine cS (l := [(0, (.msl 3 lo0p 0 (List.length x10))), (1, (eI n1)), (2, (.fn (.func cmp2_f) cmp2_a cmp2_c)), (6, (eI aP)), (8, (eI b8))]) ⟨[(0, (.msl 3 lo0p 0 (List.length aA))), (1, (eI n1)), (2, (.fn (.func cmp2_f) cmp2_a cmp2_c)), (6, (eI aP)), (8, (eI b8))], by kernel_rfl, rfl, ⟨aX.eq (by simp [hl12]), aX.refl _, aX.refl _, aX.refl _, aX.refl _, trivial⟩⟩ ?_
        refine aK (aI (?_))
        refine aZ aH 2 [] [(7, (eI b8))] ?_
        refine aT aH 5 ?_
        refine bD ?_
        exact aK (aV (aI (⟨rfl, _, (oI h2).symm, .eq (by kernel_rfl), hO, hN⟩)))
      refine dS 4 ?_
      obtain rfl := oI h2
      obtain rfl : _ = rr1 := ho1
      replace h1 : eN cmp2 aA n1 aP a7 = some out1 := h1
      exact aK (aY (aY (bO (aI (⟨rfl, _, _, .eq (by kernel_rfl), hO, hN, h1⟩)))))
    refine dS 2 ?_
    obtain rfl := oI h1
    obtain rfl : _ = rr0 := ho0
    replace h0 : some aA = some r := h0
    obtain rfl := oI h0
    exact aK (aY (aY (bO (pT (x := (.tup [])) (by kernel_rfl) (aX.refl _) ⟨rfl, hO.ext, hO.at 0 (by kernel_rfl), by simp only [List.length_map]; exact hN.trans hN0⟩))))
  refine bQ 0 ?_
  refine cO [(0, (.msl 3 lo0p 0 (List.length aA))), (1, (eI n1)), (2, (.fn (.func cmp2_f) cmp2_a cmp2_c)), (6, (eI (20 : Int))), (7, (eI (0 : Int))), (8, (eI (20 : Int)))] ?_
  refine cK (fun T H => ∃ aA : List aC, ∃ aP : Int, ∃ a7 : Int, ∃ b8 : Int, Has T [(0, (.msl 3 lo0p 0 (List.length aA))), (1, (eI n1)), (2, (.fn (.func cmp2_f) cmp2_a cmp2_c)), (6, (eI aP)), (7, (eI a7)), (8, (eI b8))] ∧ aO ⟨H0, [lo0p], []⟩ H [(lo0p, 3, List.map aE aA)] ∧ List.length aA = N0 ∧ hM cmp2 aA n1 aP a7 b8 = some r) ?_ ⟨aA, (20 : Int), (0 : Int), (20 : Int), .eq (by kernel_rfl), hO, hN, h0⟩
  clear hO hN h0
  rintro T H ⟨aA, aP, a7, b8, hT, hO, hN, h0⟩
  refine bB hT ?_
  clear hT
  unfold hM at h0
  obtain ⟨rr0, hl0, h0⟩ := aW h0
  refine cA (by kernel_rfl) (fun (s : List aC × Int × Int) T H => Has T [(0, (.msl 3 lo0p 0 (List.length s.1))), (1, (eI n1)), (2, (.fn (.func cmp2_f) cmp2_a cmp2_c)), (6, (eI aP)), (7, (eI s.2.1)), (8, (eI s.2.2))] ∧ aO ⟨H0, [lo0p], []⟩ H [(lo0p, 3, List.map aE s.1)] ∧ List.length s.1 = N0) hl0 ⟨.eq (by kernel_rfl), hO, hN⟩ ?_
  clear hO hN
  rintro k0 s out1 T H ⟨hT, hO, hN⟩ h1 ho0
  obtain ⟨aA, a7, b8⟩ := s
  replace h1 : gT cmp2 n1 aP aA a7 b8 = some out1 := h1
  try dsimp only at hT
  refine bB hT ?_
  clear hT
  unfold gT at h1
  refine aR ?_
  refine aZ aH 3 [] [(13, (aL (decide (b8 ≤ n1))))] ?_
  refine bM h1 (fun h1 => ?_) (fun h1 => ?_)
  · refine bN ?_
    refine bH [(0, (.msl 3 lo0p 0 (List.length aA))), (1, (eI n1)), (2, (.fn (.func cmp2_f) cmp2_a cmp2_c)), (6, (eI aP)), (7, (eI a7)), (8, (eI b8))] ?_
    refine bQ 1 ?_
    refine aR ?_
    refine aT aH 5 ?_
    refine bK 4 ?_
    obtain ⟨x14, hx15, h1⟩ := aW h1
    refine nN [(lo0p, 3, List.map aE x14)] 0 (mN lo0p aA a7 b8 cmp2_f cmp2_a cmp2_c cmp2 cmp2_h _ hx15) hO ?_
    intro H hO hl16
    simp only [List.length_map] at hl16
    replace hN := hl16.trans hN
    refine cF ?_
    refine cS (l := [(0, (.msl 3 lo0p 0 (List.length x14))), (1, (eI n1)), (2, (.fn (.func cmp2_f) cmp2_a cmp2_c)), (6, (eI aP)), (8, (eI b8))]) ⟨[(0, (.msl 3 lo0p 0 (List.length aA))), (1, (eI n1)), (2, (.fn (.func cmp2_f) cmp2_a cmp2_c)), (6, (eI aP)), (8, (eI b8))], by kernel_rfl, rfl, ⟨aX.eq (by simp [hl16]), aX.refl _, aX.refl _, aX.refl _, aX.refl _, trivial⟩⟩ ?_
    refine aK (aI (?_))
    refine aZ aH 2 [] [(7, (eI b8))] ?_
    refine aT aH 4 ?_
    refine bD ?_
    exact aK (aV (aI (⟨rfl, _, (oI h1).symm, .eq (by kernel_rfl), hO, hN⟩)))
  refine dS 0 ?_
  obtain rfl := oI h1
  obtain rfl : _ = rr0 := ho0
  replace h0 : eT cmp2 aA n1 aP a7 = some r := h0
  exact aK (aY (aY (bO (aI (⟨rfl, _, _, _, .eq (by kernel_rfl), hO, hN, h0⟩)))))

theorem qF (lo0p : Nat) (x0 : (List aC)) (cmp1_f : Nat) (cmp1_a cmp1_c : List V) (cmp1 : aC → aC → Option Int) (cmp1_h : ∀ a0 a1 r, cmp1 a0 a1 = some r → bS Try.prog cmp1_f (cmp1_a ++ [(aE a0), (aE a1)] ++ cmp1_c) (eI r)) (r : List aC) (h0 : cY x0 cmp1 = some r) : kQ Try.prog 60 lo0p 3 (List.map aE x0) (List.map aE r) [(.msl 3 lo0p 0 (List.length x0)), (.fn (.func cmp1_f) cmp1_a cmp1_c)] (.tup []) := by
  intro H0 hl0
  refine cG Try.func60 ?_
  have hO := aO.pE hl0
  clear hl0
  obtain ⟨N0, hN0⟩ : ∃ n, n = List.length x0 := ⟨_, rfl⟩
  have hN : List.length x0 = N0 := hN0.symm
  unfold cY at h0
  refine aT aH 5 ?_
  refine bK 4 ?_
  obtain ⟨x1, hx2, h0⟩ := aW h0
  refine nN [(lo0p, 3, List.map aE x1)] 0 (vY lo0p x0 (lN x0) cmp1_f cmp1_a cmp1_c cmp1 cmp1_h _ hx2) hO ?_
  intro H hO hl3
  simp only [List.length_map] at hl3
  replace hN := hl3.trans hN
  refine cF ?_
  refine cS (l := [(0, (.msl 3 lo0p 0 (List.length x1)))]) ⟨[(0, (.msl 3 lo0p 0 (List.length x0)))], by kernel_rfl, rfl, ⟨aX.eq (by simp [hl3]), trivial⟩⟩ ?_
  obtain rfl := oI h0
  exact aK (pT (x := (.tup [])) (by kernel_rfl) (aX.refl _) ⟨rfl, hO.ext, hO.at 0 (by kernel_rfl), by simp only [List.length_map]; exact hN.trans hN0⟩)

theorem IL (t0 : (List aJ)) (r : (Int × (List aJ))) (h0 : rX t0 = some r) : yR Try.prog 101 [(.rp (eL aM t0))] (fun lo => (.fn (.func 102) [] [(.lp lo 0 0), (.rp (eL aM r.2))])) 1 [(eI r.1)] := by
  intro H0
  refine cG Try.func101 ?_
  have hO := aO.start H0
  unfold rX at h0
  refine aZ aH 1 [] [] ?_
  refine aR ?_
  refine aT aH 2 ?_
  refine kZ 1 (eI 0) (by kernel_rfl) (by kernel_rfl) hO ?_
  intro lo1 H hO
  refine gM 0 lo1 1 0 (eI 0) (eI (-1 : Int)) [(eI 0)] [(lo1, 1, [(eI (-1 : Int))])] hO rfl (by kernel_rfl) ?_
  intro H hO
  refine cF ?_
  refine bR [] [(2, (.lp lo1 0 0))] ?_
  refine aZ aH 2 [0] [(1, (.fn (.func 102) [] [(.lp lo1 0 0), (.rp (eL aM t0))]))] ?_
  refine bL ?_
  obtain rfl := oI h0
  exact aK (pF (x := (.fn (.func 102) [] [(.lp lo1 0 0), (.rp (eL aM t0))])) (by kernel_rfl) (aX.refl _) ⟨lo1, rfl, hO⟩)

theorem rT {σ : Type} (I : σ → Gs → Prop) (s0 : (List aJ)) (f1_v : V) (f1 : σ → aJ → Option (σ × Bool)) (f1_h : ∀ st a0 st2 r, f1 st a0 = some (st2, r) → FE Try.prog f1_v I st [(aM a0)] st2 (aL r)) (sg0 : σ) (r : (σ × Int)) (h0 : eU s0 f1 sg0 = some r) : yX Try.prog 100 I sg0 [(eL aM s0), f1_v] r.1 (eI r.2) := by
  intro H0 G0 hI hg
  refine cG Try.func100 ?_
  obtain ⟨G, hO, hI⟩ : ∃ G, aO ⟨H0, List.map (fun p : Nat × cU => p.1) G0, G⟩ H0 [] ∧ I sg0 G := ⟨G0, aO.HR hg, hI⟩
  clear hg
  unfold eU at h0
  refine aZ aH 1 [] [] ?_
  refine cT (fun T H => ∃ sg : σ, ∃ G : Gs, Has T [] ∧ aO ⟨H0, List.map (fun p : Nat × cU => p.1) G0, G⟩ H [] ∧ I sg G ∧ dB f1 sg = some r) ?_ ?_
  · clear hO hI h0
    rintro T H ⟨sg, G, hT, hO, hI, h0⟩
    refine bB hT ?_
    clear hT
    unfold dB at h0
    refine bW aH 1 [(4, (eI (-1 : Int)))] ?_
    refine bL ?_
    obtain rfl := oI h0
    exact aK (pF (x := (eI (-1 : Int))) (by kernel_rfl) (aX.refl _) ⟨rfl, G, hI, hO.EV⟩)
  refine aZ aH 3 [] [(7, (eI (lN s0))), (8, (eI (0 : Int)))] ?_
  refine bQ 0 ?_
  refine cO [(0, (eL aM s0)), (1, f1_v), (7, (eI (lN s0))), (8, (eI (0 : Int)))] ?_
  refine cK (fun T H => ∃ sg : σ, ∃ t7 : Int, ∃ t8 : Int, ∃ G : Gs, Has T [(0, (eL aM s0)), (1, f1_v), (7, (eI t7)), (8, (eI t8))] ∧ aO ⟨H0, List.map (fun p : Nat × cU => p.1) G0, G⟩ H [] ∧ I sg G ∧ eJ f1 sg s0 t7 t8 = some r) ?_ ⟨sg0, (lN s0), (0 : Int), G, .eq (by kernel_rfl), hO, hI, h0⟩
  clear hO hI h0
  rintro T H ⟨sg, t7, t8, G, hT, hO, hI, h0⟩
  refine bB hT ?_
  clear hT
  unfold eJ at h0
  obtain ⟨rr0, hl0, h0⟩ := aW h0
  refine cA (by kernel_rfl) (fun (s : σ × Int) T H => ∃ G : Gs, Has T [(0, (eL aM s0)), (1, f1_v), (7, (eI t7)), (8, (eI s.2))] ∧ aO ⟨H0, List.map (fun p : Nat × cU => p.1) G0, G⟩ H [] ∧ I s.1 G) hl0 ⟨G, .eq (by kernel_rfl), hO, hI⟩ ?_
  clear hO hI
  rintro k0 s out1 T H ⟨G, hT, hO, hI⟩ h1 ho0
  obtain ⟨sg, t8⟩ := s
  replace h1 : bU f1 s0 t7 sg t8 = some out1 := h1
  try dsimp only at hT
  refine bB hT ?_
  clear hT
  unfold bU at h1
  refine aZ aH 1 [] [(9, (aL (decide (t8 < t7))))] ?_
  refine aR ?_
  refine bM h1 (fun h1 => ?_) (fun h1 => ?_)
  · refine bN ?_
    refine bH [(0, (eL aM s0)), (1, f1_v), (7, (eI t7)), (8, (eI t8))] ?_
    refine aR ?_
    refine bQ 1 ?_
    refine aZ aH 2 [] [(5, (eI t8))] ?_
    refine aR ?_
    refine aT aH 6 ?_
    obtain ⟨c2, h1⟩ := bJ h1
    refine pS 5 [0 ≤ t8 ∧ t8 < (lN s0)] ⟨c2, trivial⟩ ?_
    obtain ⟨x3, hx4, h1⟩ := aW h1
    refine RM (I := I) f1_v [(aM (gD s0 t8))] (aL x3.2) (by kernel_rfl) (by kernel_rfl) (f1_h _ (gD s0 t8) x3.1 x3.2 hx4) hO hI ?_
    intro G H hO hI
    refine cF ?_
    refine bR [] [(16, (aL x3.2))] ?_
    refine bM h1 (fun h1 => ?_) (fun h1 => ?_)
    · refine bW aH 2 [(4, (eI t8))] ?_
      refine bL ?_
      obtain rfl := oI h1
      obtain rfl : _ = rr0 := ho0
      replace h0 : some (x3.1, t8) = some r := h0
      obtain rfl := oI h0
      exact aK (bY (bC (bC (bY (bC (pF (x := (eI t8)) (by kernel_rfl) (aX.refl _) ⟨rfl, G, hI, hO.EV⟩))))))
    refine bN ?_
    refine dF [(0, (eL aM s0)), (1, f1_v), (7, (eI t7)), (8, (eI t8))] ?_
    refine aK (aV (aI (?_)))
    refine aT aH 2 ?_
    refine bD ?_
    exact aK (aI (⟨rfl, _, (oI h1).symm, _, .eq (by kernel_rfl), hO, hI⟩))
  refine dS 0 ?_
  obtain rfl := oI h1
  obtain rfl : _ = rr0 := ho0
  replace h0 : dB f1 sg = some r := h0
  exact aK (aY (aY (bO (aI (⟨rfl, _, _, .eq (by kernel_rfl), hO, hI, h0⟩)))))

theorem FM (v0 : aJ) (lo1p : Nat) (t1 : Int) (t2 : (List aJ)) (r : (Bool × Int)) (h0 : iS v0 t1 t2 = some r) : kQ Try.prog 102 lo1p 1 [(eI t1)] [(eI r.2)] [(aM v0), (.lp lo1p 0 0), (.rp (eL aM t2))] (aL r.1) := by
  intro H0 hl0
  refine cG Try.func102 ?_
  have hO := aO.pE hl0
  clear hl0
  unfold iS at h0
  refine aR ?_
  refine aT aH 2 ?_
  refine gN 3 (aM v0) (by kernel_rfl) (by kernel_rfl) ?_
  refine bD ?_
  refine bR [0] [(3, (.rp (aM v0)))] ?_
  refine aR ?_
  refine aT aH 3 ?_
  refine jB 0 lo1p 1 0 (eI t1) (eI t1) [(eI t1)] hO rfl ?_
  refine bK 2 ?_
  refine gM 0 lo1p 1 0 (eI t1) (eI (wR (t1 + (1 : Int)))) [(eI t1)] [(lo1p, 1, [(eI (wR (t1 + (1 : Int))))])] hO rfl (by kernel_rfl) ?_
  intro H hO
  refine cF ?_
  refine bR [] [] ?_
  refine aR ?_
  refine iV (iU [7, 8, 11]) aH 7 ?_
  refine nM 2 ?_
  refine kH 0 lo1p 1 0 (eI (wR (t1 + (1 : Int)))) (eI (wR (t1 + (1 : Int)))) [(eI (wR (t1 + (1 : Int))))] hO rfl ?_
  obtain ⟨c1, h0⟩ := bJ h0
  refine MC (Ds := [0 ≤ (wR (t1 + (1 : Int))) ∧ (wR (t1 + (1 : Int))) < (lN t2)]) (by kernel_rfl) ⟨c1, trivial⟩ ?_
  refine bH [(1, (.lp lo1p 0 0)), (4, (aL (!((decide (v0.Kind = ((gD t2 (wR (t1 + (1 : Int)))).Kind))) && ((decide (v0.Num = ((gD t2 (wR (t1 + (1 : Int)))).Num))) && ((nO v0.Text ((gD t2 (wR (t1 + (1 : Int)))).Text)) && true))))))] ?_
  refine bL ?_
  obtain rfl := oI h0
  exact aK (pF (x := (aL (!((decide (v0.Kind = ((gD t2 (wR (t1 + (1 : Int)))).Kind))) && ((decide (v0.Num = ((gD t2 (wR (t1 + (1 : Int)))).Num))) && ((nO v0.Text ((gD t2 (wR (t1 + (1 : Int)))).Text)) && true)))))) (by kernel_rfl) (aX.refl _) ⟨rfl, hO.ext, hO.at 0 (by kernel_rfl), rfl⟩)

theorem rY (x0 : Int) (r : Bool) (h0 : iW x0 = some r) : bS Try.prog 104 [(eI x0)] (aL r) := by
  intro H0
  refine cG Try.func104 ?_
  have hO := aO.start H0
  unfold iW at h0
  refine aZ aH 1 [] [] ?_
  refine bW aH 4 [(2, (aL (!decide (x0 = x0))))] ?_
  refine bL ?_
  obtain rfl := oI h0
  exact aK (Q_r hO)

theorem tU (x0 : Int) (y1 : Int) (r : Int) (h0 : iT x0 y1 = some r) : bS Try.prog 64 [(eI x0), (eI y1)] (eI r) := by
  intro H0
  refine cG Try.func64 ?_
  have hO := aO.start H0
  unfold iT at h0
  refine aZ aH 1 [] [] ?_
  refine aR ?_
  refine aT aH 3 ?_
  refine bK 1 ?_
  obtain ⟨x1, hx2, h0⟩ := aW h0
  refine cM (rY x0 _ hx2) hO ?_
  intro H hO
  refine bD ?_
  refine bR [] [(5, (aL x1))] ?_
  refine aR ?_
  refine aT aH 3 ?_
  refine bK 1 ?_
  obtain ⟨x4, hx5, h0⟩ := aW h0
  refine cM (rY y1 _ hx5) hO ?_
  intro H hO
  refine bD ?_
  refine bR [] [(6, (aL x4))] ?_
  refine aR ?_
  refine aZ aH 1 [5] [(11, (aL x1))] ?_
  refine bM h0 (fun h0 => ?_) (fun h0 => ?_)
  · refine aR ?_
    refine bW aH 1 [(12, (aL x4))] ?_
    refine bM h0 (fun h0 => ?_) (fun h0 => ?_)
    · refine bW aH 1 [(4, (eI (0 : Int)))] ?_
      refine bL ?_
      obtain rfl := oI h0
      exact aK (bC (bC (Q_r hO)))
    refine bN ?_
    refine bH [] ?_
    refine bW aH 1 [(4, (eI (-1 : Int)))] ?_
    refine bL ?_
    obtain rfl := oI h0
    exact aK (bC (Q_r hO))
  refine bN ?_
  refine bH [(0, (eI x0)), (1, (eI y1)), (6, (aL x4))] ?_
  refine aR ?_
  refine aZ aH 1 [6] [(13, (aL x4))] ?_
  refine bM h0 (fun h0 => ?_) (fun h0 => ?_)
  · refine bW aH 1 [(4, (eI (1 : Int)))] ?_
    refine bL ?_
    obtain rfl := oI h0
    exact aK (bC (Q_r hO))
  refine bN ?_
  refine bH [(0, (eI x0)), (1, (eI y1))] ?_
  refine aR ?_
  refine aZ aH 3 [] [(16, (aL (decide (x0 < y1))))] ?_
  refine bM h0 (fun h0 => ?_) (fun h0 => ?_)
  · refine bW aH 1 [(4, (eI (-1 : Int)))] ?_
    refine bL ?_
    obtain rfl := oI h0
    exact aK (bC (Q_r hO))
  refine bN ?_
  refine bH [(0, (eI x0)), (1, (eI y1))] ?_
  refine aR ?_
  refine bW aH 3 [(19, (aL (decide (y1 < x0))))] ?_
  refine bM h0 (fun h0 => ?_) (fun h0 => ?_)
  · refine bW aH 1 [(4, (eI (1 : Int)))] ?_
    refine bL ?_
    obtain rfl := oI h0
    exact aK (bC (Q_r hO))
  refine bN ?_
  refine bH [] ?_
  refine bW aH 1 [(4, (eI (0 : Int)))] ?_
  refine bL ?_
  obtain rfl := oI h0
  exact aK (Q_r hO)

theorem sP (x0 : Int) (r : Bool) (h0 : jC x0 = some r) : bS Try.prog 138 [(eI x0)] (aL r) := by
  intro H0
  refine cG Try.func138 ?_
  have hO := aO.start H0
  unfold jC at h0
  refine aZ aH 1 [] [] ?_
  refine bW aH 4 [(2, (aL (!decide (x0 = x0))))] ?_
  refine bL ?_
  obtain rfl := oI h0
  exact aK (Q_r hO)

theorem yK (x0 : Int) (y1 : Int) (r : Int) (h0 : dX x0 y1 = some r) : bS Try.prog 129 [(eI x0), (eI y1)] (eI r) := by
  intro H0
  refine cG Try.func129 ?_
  have hO := aO.start H0
  unfold dX at h0
  refine aZ aH 1 [] [] ?_
  refine aR ?_
  refine aT aH 3 ?_
  refine bK 1 ?_
  obtain ⟨x1, hx2, h0⟩ := aW h0
  refine cM (sP x0 _ hx2) hO ?_
  intro H hO
  refine bD ?_
  refine bR [] [(5, (aL x1))] ?_
  refine aR ?_
  refine aT aH 3 ?_
  refine bK 1 ?_
  obtain ⟨x4, hx5, h0⟩ := aW h0
  refine cM (sP y1 _ hx5) hO ?_
  intro H hO
  refine bD ?_
  refine bR [] [(6, (aL x4))] ?_
  refine aR ?_
  refine aZ aH 1 [5] [(11, (aL x1))] ?_
  refine bM h0 (fun h0 => ?_) (fun h0 => ?_)
  · refine aR ?_
    refine bW aH 1 [(12, (aL x4))] ?_
    refine bM h0 (fun h0 => ?_) (fun h0 => ?_)
    · refine bW aH 1 [(4, (eI (0 : Int)))] ?_
      refine bL ?_
      obtain rfl := oI h0
      exact aK (bC (bC (Q_r hO)))
    refine bN ?_
    refine bH [] ?_
    refine bW aH 1 [(4, (eI (-1 : Int)))] ?_
    refine bL ?_
    obtain rfl := oI h0
    exact aK (bC (Q_r hO))
  refine bN ?_
  refine bH [(0, (eI x0)), (1, (eI y1)), (6, (aL x4))] ?_
  refine aR ?_
  refine aZ aH 1 [6] [(13, (aL x4))] ?_
  refine bM h0 (fun h0 => ?_) (fun h0 => ?_)
  · refine bW aH 1 [(4, (eI (1 : Int)))] ?_
    refine bL ?_
    obtain rfl := oI h0
    exact aK (bC (Q_r hO))
  refine bN ?_
  refine bH [(0, (eI x0)), (1, (eI y1))] ?_
  refine aR ?_
  refine aZ aH 3 [] [(16, (aL (decide (x0 < y1))))] ?_
  refine bM h0 (fun h0 => ?_) (fun h0 => ?_)
  · refine bW aH 1 [(4, (eI (-1 : Int)))] ?_
    refine bL ?_
    obtain rfl := oI h0
    exact aK (bC (Q_r hO))
  refine bN ?_
  refine bH [(0, (eI x0)), (1, (eI y1))] ?_
  refine aR ?_
  refine bW aH 3 [(19, (aL (decide (y1 < x0))))] ?_
  refine bM h0 (fun h0 => ?_) (fun h0 => ?_)
  · refine bW aH 1 [(4, (eI (1 : Int)))] ?_
    refine bL ?_
    obtain rfl := oI h0
    exact aK (bC (Q_r hO))
  refine bN ?_
  refine bH [] ?_
  refine bW aH 1 [(4, (eI (0 : Int)))] ?_
  refine bL ?_
  obtain rfl := oI h0
  exact aK (Q_r hO)

theorem vM (a0 : ByteArray) (b1 : ByteArray) (r : Int) (h0 : iB a0 b1 = some r) : bS Try.prog 139 [(xE a0), (xE b1)] (eI r) := by
  intro H0
  refine cG Try.func139 ?_
  have hO := aO.start H0
  unfold iB at h0
  refine aZ aH 1 [] [] ?_
  refine aR ?_
  refine aT aH 4 ?_
  refine bK 2 ?_
  refine ZO 143 [(xE a0), (xE b1)] (eI (KF a0 b1)) (by kernel_rfl) (by kernel_rfl) (WW Try.func143 (by kernel_rfl) (by kernel_rfl) (by kernel_rfl) (by kernel_rfl) a0 b1) hO ?_
  intro H hO
  refine bD ?_
  refine bH [(4, (eI (KF a0 b1)))] ?_
  refine bL ?_
  obtain rfl := oI h0
  exact aK (Q_r hO)

theorem FL (a0 : ByteArray) (b1 : ByteArray) (r : Int) (h0 : lY a0 b1 = some r) : bS Try.prog 130 [(xE a0), (xE b1)] (eI r) := by
  intro H0
  refine cG Try.func130 ?_
  have hO := aO.start H0
  unfold lY at h0
  refine aZ aH 1 [] [] ?_
  refine aR ?_
  refine aT aH 4 ?_
  refine bK 2 ?_
  obtain ⟨x1, hx2, h0⟩ := aW h0
  refine cM (vM a0 b1 _ hx2) hO ?_
  intro H hO
  refine bD ?_
  refine bH [(4, (eI x1))] ?_
  refine bL ?_
  obtain rfl := oI h0
  exact aK (Q_r hO)

theorem JB (a0 : aJ) (b1 : aJ) (r : Int) (h0 : pJ a0 b1 = some r) : bS Try.prog 103 [(aM a0), (aM b1)] (eI r) := by
  intro H0
  refine cG Try.func103 ?_
  have hO := aO.start H0
  unfold pJ at h0
  refine aR ?_
  refine aT aH 3 ?_
  refine gN 3 (aM a0) (by kernel_rfl) (by kernel_rfl) ?_
  refine gN 3 (aM b1) (by kernel_rfl) (by kernel_rfl) ?_
  refine bD ?_
  refine bH [(2, (.rp (aM a0))), (3, (.rp (aM b1)))] ?_
  refine aR ?_
  refine aT aH 7 ?_
  refine bK 1 ?_
  obtain ⟨⟨x1_0, x1_1⟩, hx2, h0⟩ := aW h0
  refine cM (wV a0 _ hx2) hO ?_
  intro H hO
  rcases x1_0 with _ | y4 | y5
  · replace h0 : ((kW b1).bind fun (x6_0, x6_1) => match x6_0 with | .none_ => (cond ((!x1_1) || (!x6_1)) (some (0 : Int)) (none)) | .k_number y9 => (cond ((!x1_1) || (!x6_1)) (some (0 : Int)) (some (1 : Int))) | .k_words y10 => (cond ((!x1_1) || (!x6_1)) (some (0 : Int)) (none))) = some r := h0
    refine bD ?_
    refine bR [2] [(5, (bF bG.none_)), (6, (aL x1_1))] ?_
    refine aR ?_
    refine aT aH 7 ?_
    refine bK 1 ?_
    obtain ⟨⟨x6_0, x6_1⟩, hx7, h0⟩ := aW h0
    refine cM (wV b1 _ hx7) hO ?_
    intro H hO
    rcases x6_0 with _ | y9 | y10
    · replace h0 : (cond ((!x1_1) || (!x6_1)) (some (0 : Int)) (none)) = some r := h0
      refine bD ?_
      refine bR [3] [(7, (bF bG.none_)), (8, (aL x6_1))] ?_
      refine aR ?_
      refine aZ aH 6 [6, 8] [(28, (aL ((!x1_1) || (!x6_1))))] ?_
      refine bM h0 (fun h0 => ?_) (fun h0 => ?_)
      · refine bW aH 1 [(4, (eI (0 : Int)))] ?_
        refine bL ?_
        obtain rfl := oI h0
        exact aK (bC (Q_r hO))
      refine bN ?_
      refine bH [(5, (bF bG.none_)), (7, (bF bG.none_))] ?_
      refine aZ aH 7 [] [(9, (eI 0)), (10, (aL false))] ?_
      refine aZ aH 7 [] [(11, (eI 0)), (12, (aL false))] ?_
      refine aR ?_
      refine bQ 0 ?_
      refine aZ aH 5 [] [(39, (aL false))] ?_
      refine nI (false) (fun hc12 => ?_) (fun hc12 => ?_)
      · cases hc12
      · refine aZ aH 2 [9, 10, 11, 39] [(47, (aL false))] ?_
        refine nI (false) (fun hc13 => ?_) (fun hc13 => ?_)
        · cases hc13
        · refine bW aH 2 [(5, (bF bG.none_)), (7, (bF bG.none_)), (49, (aL false))] ?_
          refine nI (false) (fun hc14 => ?_) (fun hc14 => ?_)
          · cases hc14
          · refine bN ?_
            refine dF [(5, (bF bG.none_)), (7, (bF bG.none_))] ?_
            refine aK (aV (aI (?_)))
            refine aR ?_
            refine iV (iU []) aH 6 ?_
            cases h0
    · replace h0 : (cond ((!x1_1) || (!x6_1)) (some (0 : Int)) (some (1 : Int))) = some r := h0
      refine bD ?_
      refine bR [3] [(7, (bF (bG.k_number y9))), (8, (aL x6_1))] ?_
      refine aR ?_
      refine aZ aH 6 [6, 8] [(28, (aL ((!x1_1) || (!x6_1))))] ?_
      refine bM h0 (fun h0 => ?_) (fun h0 => ?_)
      · refine bW aH 1 [(4, (eI (0 : Int)))] ?_
        refine bL ?_
        obtain rfl := oI h0
        exact aK (bC (Q_r hO))
      refine bN ?_
      refine bH [(5, (bF bG.none_)), (7, (bF (bG.k_number y9)))] ?_
      refine aZ aH 7 [] [(9, (eI 0)), (10, (aL false))] ?_
      refine aZ aH 7 [] [(11, (eI y9)), (12, (aL true))] ?_
      refine aR ?_
      refine bQ 0 ?_
      refine aZ aH 5 [] [(39, (aL false))] ?_
      refine nI (false) (fun hc16 => ?_) (fun hc16 => ?_)
      · cases hc16
      · refine aZ aH 2 [9, 10, 11, 39] [(47, (aL false))] ?_
        refine nI (false) (fun hc17 => ?_) (fun hc17 => ?_)
        · cases hc17
        · refine bW aH 2 [(5, (bF bG.none_)), (7, (bF (bG.k_number y9))), (49, (aL true))] ?_
          refine nI (true) (fun hc18 => ?_) (fun hc18 => ?_)
          · refine bW aH 1 [(4, (eI (1 : Int)))] ?_
            refine bL ?_
            obtain rfl := oI h0
            exact aK (bY (bC (Q_r hO)))
          · cases hc18
    · replace h0 : (cond ((!x1_1) || (!x6_1)) (some (0 : Int)) (none)) = some r := h0
      refine bD ?_
      refine bR [3] [(7, (bF (bG.k_words y10))), (8, (aL x6_1))] ?_
      refine aR ?_
      refine aZ aH 6 [6, 8] [(28, (aL ((!x1_1) || (!x6_1))))] ?_
      refine bM h0 (fun h0 => ?_) (fun h0 => ?_)
      · refine bW aH 1 [(4, (eI (0 : Int)))] ?_
        refine bL ?_
        obtain rfl := oI h0
        exact aK (bC (Q_r hO))
      refine bN ?_
      refine bH [(5, (bF bG.none_)), (7, (bF (bG.k_words y10)))] ?_
      refine aZ aH 7 [] [(9, (eI 0)), (10, (aL false))] ?_
      refine aZ aH 7 [] [(11, (eI 0)), (12, (aL false))] ?_
      refine aR ?_
      refine bQ 0 ?_
      refine aZ aH 5 [] [(39, (aL false))] ?_
      refine nI (false) (fun hc20 => ?_) (fun hc20 => ?_)
      · cases hc20
      · refine aZ aH 2 [9, 10, 11, 39] [(47, (aL false))] ?_
        refine nI (false) (fun hc21 => ?_) (fun hc21 => ?_)
        · cases hc21
        · refine bW aH 2 [(5, (bF bG.none_)), (7, (bF (bG.k_words y10))), (49, (aL false))] ?_
          refine nI (false) (fun hc22 => ?_) (fun hc22 => ?_)
          · cases hc22
          · refine bN ?_
            refine dF [(5, (bF bG.none_)), (7, (bF (bG.k_words y10)))] ?_
            refine aK (aV (aI (?_)))
            refine aR ?_
            refine iV (iU []) aH 6 ?_
            cases h0
  · replace h0 : ((kW b1).bind fun (x23_0, x23_1) => match x23_0 with | .none_ => (cond ((!x1_1) || (!x23_1)) (some (0 : Int)) (some (-1 : Int))) | .k_number y26 => (cond ((!x1_1) || (!x23_1)) (some (0 : Int)) ((dX y4 y26).bind fun x33 => some x33)) | .k_words y27 => (cond ((!x1_1) || (!x23_1)) (some (0 : Int)) (some (-1 : Int)))) = some r := h0
    refine bD ?_
    refine bR [2] [(5, (bF (bG.k_number y4))), (6, (aL x1_1))] ?_
    refine aR ?_
    refine aT aH 7 ?_
    refine bK 1 ?_
    obtain ⟨⟨x23_0, x23_1⟩, hx24, h0⟩ := aW h0
    refine cM (wV b1 _ hx24) hO ?_
    intro H hO
    rcases x23_0 with _ | y26 | y27
    · replace h0 : (cond ((!x1_1) || (!x23_1)) (some (0 : Int)) (some (-1 : Int))) = some r := h0
      refine bD ?_
      refine bR [3] [(7, (bF bG.none_)), (8, (aL x23_1))] ?_
      refine aR ?_
      refine aZ aH 6 [6, 8] [(28, (aL ((!x1_1) || (!x23_1))))] ?_
      refine bM h0 (fun h0 => ?_) (fun h0 => ?_)
      · refine bW aH 1 [(4, (eI (0 : Int)))] ?_
        refine bL ?_
        obtain rfl := oI h0
        exact aK (bC (Q_r hO))
      refine bN ?_
      refine bH [(5, (bF (bG.k_number y4))), (7, (bF bG.none_))] ?_
      refine aZ aH 7 [] [(9, (eI y4)), (10, (aL true))] ?_
      refine aZ aH 7 [] [(11, (eI 0)), (12, (aL false))] ?_
      refine aR ?_
      refine bQ 0 ?_
      refine aZ aH 5 [] [(39, (aL false))] ?_
      refine nI (false) (fun hc29 => ?_) (fun hc29 => ?_)
      · cases hc29
      · refine aZ aH 2 [9, 10, 11, 39] [(47, (aL true))] ?_
        refine nI (true) (fun hc30 => ?_) (fun hc30 => ?_)
        · refine bW aH 1 [(4, (eI (-1 : Int)))] ?_
          refine bL ?_
          obtain rfl := oI h0
          exact aK (bY (bC (Q_r hO)))
        · cases hc30
    · replace h0 : (cond ((!x1_1) || (!x23_1)) (some (0 : Int)) ((dX y4 y26).bind fun x33 => some x33)) = some r := h0
      refine bD ?_
      refine bR [3] [(7, (bF (bG.k_number y26))), (8, (aL x23_1))] ?_
      refine aR ?_
      refine aZ aH 6 [6, 8] [(28, (aL ((!x1_1) || (!x23_1))))] ?_
      refine bM h0 (fun h0 => ?_) (fun h0 => ?_)
      · refine bW aH 1 [(4, (eI (0 : Int)))] ?_
        refine bL ?_
        obtain rfl := oI h0
        exact aK (bC (Q_r hO))
      refine bN ?_
      refine bH [(5, (bF (bG.k_number y4))), (7, (bF (bG.k_number y26)))] ?_
      refine aZ aH 7 [] [(9, (eI y4)), (10, (aL true))] ?_
      refine aZ aH 7 [] [(11, (eI y26)), (12, (aL true))] ?_
      refine aR ?_
      refine bQ 0 ?_
      refine aZ aH 5 [] [(39, (aL true))] ?_
      refine nI (true) (fun hc32 => ?_) (fun hc32 => ?_)
      · refine aR ?_
        refine aT aH 4 ?_
        refine bK 2 ?_
        obtain ⟨x33, hx34, h0⟩ := aW h0
        refine cM (yK y4 y26 _ hx34) hO ?_
        intro H hO
        refine bD ?_
        refine bH [(4, (eI x33))] ?_
        refine bL ?_
        obtain rfl := oI h0
        exact aK (bY (bC (Q_r hO)))
      · cases hc32
    · replace h0 : (cond ((!x1_1) || (!x23_1)) (some (0 : Int)) (some (-1 : Int))) = some r := h0
      refine bD ?_
      refine bR [3] [(7, (bF (bG.k_words y27))), (8, (aL x23_1))] ?_
      refine aR ?_
      refine aZ aH 6 [6, 8] [(28, (aL ((!x1_1) || (!x23_1))))] ?_
      refine bM h0 (fun h0 => ?_) (fun h0 => ?_)
      · refine bW aH 1 [(4, (eI (0 : Int)))] ?_
        refine bL ?_
        obtain rfl := oI h0
        exact aK (bC (Q_r hO))
      refine bN ?_
      refine bH [(5, (bF (bG.k_number y4))), (7, (bF (bG.k_words y27)))] ?_
      refine aZ aH 7 [] [(9, (eI y4)), (10, (aL true))] ?_
      refine aZ aH 7 [] [(11, (eI 0)), (12, (aL false))] ?_
      refine aR ?_
      refine bQ 0 ?_
      refine aZ aH 5 [] [(39, (aL false))] ?_
      refine nI (false) (fun hc37 => ?_) (fun hc37 => ?_)
      · cases hc37
      · refine aZ aH 2 [9, 10, 11, 39] [(47, (aL true))] ?_
        refine nI (true) (fun hc38 => ?_) (fun hc38 => ?_)
        · refine bW aH 1 [(4, (eI (-1 : Int)))] ?_
          refine bL ?_
          obtain rfl := oI h0
          exact aK (bY (bC (Q_r hO)))
        · cases hc38
  · replace h0 : ((kW b1).bind fun (x39_0, x39_1) => match x39_0 with | .none_ => (cond ((!x1_1) || (!x39_1)) (some (0 : Int)) (none)) | .k_number y42 => (cond ((!x1_1) || (!x39_1)) (some (0 : Int)) (some (1 : Int))) | .k_words y43 => (cond ((!x1_1) || (!x39_1)) (some (0 : Int)) ((lY y5 y43).bind fun x56 => some x56))) = some r := h0
    refine bD ?_
    refine bR [2] [(5, (bF (bG.k_words y5))), (6, (aL x1_1))] ?_
    refine aR ?_
    refine aT aH 7 ?_
    refine bK 1 ?_
    obtain ⟨⟨x39_0, x39_1⟩, hx40, h0⟩ := aW h0
    refine cM (wV b1 _ hx40) hO ?_
    intro H hO
    rcases x39_0 with _ | y42 | y43
    · replace h0 : (cond ((!x1_1) || (!x39_1)) (some (0 : Int)) (none)) = some r := h0
      refine bD ?_
      refine bR [3] [(7, (bF bG.none_)), (8, (aL x39_1))] ?_
      refine aR ?_
      refine aZ aH 6 [6, 8] [(28, (aL ((!x1_1) || (!x39_1))))] ?_
      refine bM h0 (fun h0 => ?_) (fun h0 => ?_)
      · refine bW aH 1 [(4, (eI (0 : Int)))] ?_
        refine bL ?_
        obtain rfl := oI h0
        exact aK (bC (Q_r hO))
      refine bN ?_
      refine bH [(5, (bF (bG.k_words y5))), (7, (bF bG.none_))] ?_
      refine aZ aH 7 [] [(9, (eI 0)), (10, (aL false))] ?_
      refine aZ aH 7 [] [(11, (eI 0)), (12, (aL false))] ?_
      refine aR ?_
      refine bQ 0 ?_
      refine aZ aH 5 [] [(39, (aL false))] ?_
      refine nI (false) (fun hc45 => ?_) (fun hc45 => ?_)
      · cases hc45
      · refine aZ aH 2 [9, 10, 11, 39] [(47, (aL false))] ?_
        refine nI (false) (fun hc46 => ?_) (fun hc46 => ?_)
        · cases hc46
        · refine bW aH 2 [(5, (bF (bG.k_words y5))), (7, (bF bG.none_)), (49, (aL false))] ?_
          refine nI (false) (fun hc47 => ?_) (fun hc47 => ?_)
          · cases hc47
          · refine bN ?_
            refine dF [(5, (bF (bG.k_words y5))), (7, (bF bG.none_))] ?_
            refine aK (aV (aI (?_)))
            refine aR ?_
            refine iV (iU []) aH 6 ?_
            cases h0
    · replace h0 : (cond ((!x1_1) || (!x39_1)) (some (0 : Int)) (some (1 : Int))) = some r := h0
      refine bD ?_
      refine bR [3] [(7, (bF (bG.k_number y42))), (8, (aL x39_1))] ?_
      refine aR ?_
      refine aZ aH 6 [6, 8] [(28, (aL ((!x1_1) || (!x39_1))))] ?_
      refine bM h0 (fun h0 => ?_) (fun h0 => ?_)
      · refine bW aH 1 [(4, (eI (0 : Int)))] ?_
        refine bL ?_
        obtain rfl := oI h0
        exact aK (bC (Q_r hO))
      refine bN ?_
      refine bH [(5, (bF (bG.k_words y5))), (7, (bF (bG.k_number y42)))] ?_
      refine aZ aH 7 [] [(9, (eI 0)), (10, (aL false))] ?_
      refine aZ aH 7 [] [(11, (eI y42)), (12, (aL true))] ?_
      refine aR ?_
      refine bQ 0 ?_
      refine aZ aH 5 [] [(39, (aL false))] ?_
      refine nI (false) (fun hc49 => ?_) (fun hc49 => ?_)
      · cases hc49
      · refine aZ aH 2 [9, 10, 11, 39] [(47, (aL false))] ?_
        refine nI (false) (fun hc50 => ?_) (fun hc50 => ?_)
        · cases hc50
        · refine bW aH 2 [(5, (bF (bG.k_words y5))), (7, (bF (bG.k_number y42))), (49, (aL true))] ?_
          refine nI (true) (fun hc51 => ?_) (fun hc51 => ?_)
          · refine bW aH 1 [(4, (eI (1 : Int)))] ?_
            refine bL ?_
            obtain rfl := oI h0
            exact aK (bY (bC (Q_r hO)))
          · cases hc51
    · replace h0 : (cond ((!x1_1) || (!x39_1)) (some (0 : Int)) ((lY y5 y43).bind fun x56 => some x56)) = some r := h0
      refine bD ?_
      refine bR [3] [(7, (bF (bG.k_words y43))), (8, (aL x39_1))] ?_
      refine aR ?_
      refine aZ aH 6 [6, 8] [(28, (aL ((!x1_1) || (!x39_1))))] ?_
      refine bM h0 (fun h0 => ?_) (fun h0 => ?_)
      · refine bW aH 1 [(4, (eI (0 : Int)))] ?_
        refine bL ?_
        obtain rfl := oI h0
        exact aK (bC (Q_r hO))
      refine bN ?_
      refine bH [(5, (bF (bG.k_words y5))), (7, (bF (bG.k_words y43)))] ?_
      refine aZ aH 7 [] [(9, (eI 0)), (10, (aL false))] ?_
      refine aZ aH 7 [] [(11, (eI 0)), (12, (aL false))] ?_
      refine aR ?_
      refine bQ 0 ?_
      refine aZ aH 5 [] [(39, (aL false))] ?_
      refine nI (false) (fun hc53 => ?_) (fun hc53 => ?_)
      · cases hc53
      · refine aZ aH 2 [9, 10, 11, 39] [(47, (aL false))] ?_
        refine nI (false) (fun hc54 => ?_) (fun hc54 => ?_)
        · cases hc54
        · refine bW aH 2 [(5, (bF (bG.k_words y5))), (7, (bF (bG.k_words y43))), (49, (aL false))] ?_
          refine nI (false) (fun hc55 => ?_) (fun hc55 => ?_)
          · cases hc55
          · refine bN ?_
            refine dF [(5, (bF (bG.k_words y5))), (7, (bF (bG.k_words y43)))] ?_
            refine aK (aV (aI (?_)))
            refine aR ?_
            refine iV (iU []) aH 6 ?_
            refine nM 4 ?_
            obtain ⟨x56, hx57, h0⟩ := aW h0
            refine vN (FL y5 y43 _ hx57) hO ?_
            intro H hO
            refine nL ?_
            refine bH [(4, (eI x56))] ?_
            refine bL ?_
            obtain rfl := oI h0
            exact aK (Q_r hO)

theorem DN (a0 : (List aJ)) (b1 : (List aJ)) (r : Int) (h0 : oT a0 b1 = some r) : bS Try.prog 63 [(eL aM a0), (eL aM b1)] (eI r) := by
  intro H0
  refine cG Try.func63 ?_
  have hO := aO.start H0
  unfold oT at h0
  refine aR ?_
  refine aT aH 2 ?_
  refine gN 1 (eL aM b1) (by kernel_rfl) (by kernel_rfl) ?_
  refine bD ?_
  refine bR [1] [(3, (.rp (eL aM b1)))] ?_
  refine aR ?_
  refine aR ?_
  refine aT aH 8 ?_
  refine bK 1 ?_
  obtain ⟨x1, hx2, h0⟩ := aW h0
  refine cM (yF a0 _ hx2) hO ?_
  intro H hO
  refine bK 5 ?_
  obtain ⟨x4, hx5, h0⟩ := aW h0
  refine eA [(10, false)] 57 [(eL aM b1)] (aL x4) (!(!x1)) (by kernel_rfl) (by kernel_rfl) (by kernel_rfl) (fun hb6 => (yF b1 _ (fG hx5 hb6))) hO ?_
  intro H hO
  refine bD ?_
  refine bR [] [(14, (aL ((!x1) || (!x4))))] ?_
  refine bM h0 (fun h0 => ?_) (fun h0 => ?_)
  · refine bW aH 1 [(4, (eI (0 : Int)))] ?_
    refine bL ?_
    obtain rfl := oI h0
    exact aK (bC (Q_r hO))
  refine bN ?_
  refine bH [(0, (eL aM a0)), (3, (.rp (eL aM b1)))] ?_
  refine aZ aH 6 [] [(5, (eI (if (lN b1) < (lN a0) then (lN b1) else (lN a0))))] ?_
  refine aR ?_
  refine iV (iU []) aH 7 ?_
  obtain ⟨c8, h0⟩ := bJ h0
  refine dG 4 [0 ≤ (if (lN b1) < (lN a0) then (lN b1) else (lN a0)) ∧ (if (lN b1) < (lN a0) then (lN b1) else (lN a0)) ≤ (lN a0)] ⟨c8, trivial⟩ ?_
  obtain ⟨x9, hx10, h0⟩ := aW h0
  refine ZQ (L' := fun lo11 => [(lo11, 1, [(eI x9.1)])]) 1 [(eI x9.1)] 101 [(.rp (eL aM b1))] (fun lo11 => (.fn (.func 102) [] [(.lp lo11 0 0), (.rp (eL aM x9.2))])) (by kernel_rfl) (by kernel_rfl) (IL b1 _ hx10) hO (fun _ => by kernel_rfl) ?_
  intro lo11 H hO
  obtain ⟨x12, hx13, h0⟩ := aW h0
  refine ZP (fun st G' => G' = up [(lo11, 1, [(eI st)])] ++ []) [(lo11, 1, [(eI x12.1)])] x9.1 x12.1 100 [(.sl false (Int.toNat (if (lN b1) < (lN a0) then (lN b1) else (lN a0))) (fun i => aM (List.getD a0 i default))), (.fn (.func 102) [] [(.lp lo11 0 0), (.rp (eL aM x9.2))])] (eI x12.2) (by kernel_rfl) (by kernel_rfl) (yX.sub (as0' := [(eL aM (List.take (Int.toNat (if (lN b1) < (lN a0) then (lN b1) else (lN a0))) a0)), (.fn (.func 102) [] [(.lp lo11 0 0), (.rp (eL aM x9.2))])]) (rT _ (List.take (Int.toNat (if (lN b1) < (lN a0) then (lN b1) else (lN a0))) a0) (.fn (.func 102) [] [(.lp lo11 0 0), (.rp (eL aM x9.2))]) (fun st y0 => (iS y0 st x9.2).bind fun o => some (o.2, o.1)) (fun st y0 st2 rr hr => (FM y0 lo11 st x9.2 _ (aAH hr)).toV (ys := []) (zs := [(aM y0)]) (cs := [(.lp lo11 0 0), (.rp (eL aM x9.2))]) (fun Gx hG => ⟨up [], up [] ++ [], hG, rfl⟩)) _ _ hx13) ⟨ZR (Int.toNat_le.2 (And.right c8)), aX.refl _, trivial⟩) hO rfl (fun _ h => h) ?_
  intro H hO
  refine nL ?_
  replace hO := hO.pick (L' := []) [] (by decide) (by kernel_rfl)
  refine bR [5] [(6, (eI x12.2))] ?_
  refine aR ?_
  refine aZ aH 2 [] [(27, (aL (decide (x12.2 < (0 : Int)))))] ?_
  refine bM h0 (fun h0 => ?_) (fun h0 => ?_)
  · refine aR ?_
    refine aT aH 6 ?_
    refine bK 4 ?_
    obtain ⟨x15, hx16, h0⟩ := aW h0
    refine cM (tU (lN a0) (lN b1) _ hx16) hO ?_
    intro H hO
    refine bD ?_
    refine bH [(4, (eI x15))] ?_
    refine bL ?_
    obtain rfl := oI h0
    exact aK (bC (Q_r hO))
  refine bN ?_
  refine bH [(0, (eL aM a0)), (3, (.rp (eL aM b1))), (6, (eI x12.2))] ?_
  refine aR ?_
  refine iV (iU [36, 37, 40, 41]) aH 10 ?_
  obtain ⟨c18, h0⟩ := bJ h0
  obtain ⟨c19, h0⟩ := bJ h0
  refine dG 8 [0 ≤ x12.2 ∧ x12.2 < (lN a0), 0 ≤ x12.2 ∧ x12.2 < (lN b1)] ⟨c18, c19, trivial⟩ ?_
  obtain ⟨x20, hx21, h0⟩ := aW h0
  refine vN (JB (gD a0 x12.2) (gD b1 x12.2) _ hx21) hO ?_
  intro H hO
  refine nL ?_
  refine bH [(4, (eI x20))] ?_
  refine bL ?_
  obtain rfl := oI h0
  exact aK (Q_r hO)

theorem NW (wS : (List Int)) (r : Int) (h0 : sW wS = some r) : bS Try.prog 62 [(eL (eI) wS)] (eI r) := by
  intro H0
  refine cG Try.func62 ?_
  have hO := aO.start H0
  unfold sW at h0
  refine aZ aH 1 [] [] ?_
  refine aZ aH 1 [] [(3, (eI (0 : Int)))] ?_
  refine cT (fun T H => ∃ mZ : Int, Has T [(3, (eI mZ))] ∧ aO ⟨H0, [], []⟩ H [] ∧ rM mZ = some r) ?_ ?_
  · clear hO h0
    rintro T H ⟨mZ, hT, hO, h0⟩
    refine bB hT ?_
    clear hT
    unfold rM at h0
    refine bW aH 2 [(2, (eI mZ))] ?_
    refine bL ?_
    obtain rfl := oI h0
    exact aK (Q_r hO)
  refine aZ aH 3 [0] [(6, (eL (eI) wS)), (7, (eI (lN wS))), (8, (eI (0 : Int)))] ?_
  refine bQ 0 ?_
  refine cO [(3, (eI (0 : Int))), (6, (eL (eI) wS)), (7, (eI (lN wS))), (8, (eI (0 : Int)))] ?_
  refine cK (fun T H => ∃ mZ : Int, ∃ t6 : (List Int), ∃ t7 : Int, ∃ t8 : Int, Has T [(3, (eI mZ)), (6, (eL (eI) t6)), (7, (eI t7)), (8, (eI t8))] ∧ aO ⟨H0, [], []⟩ H [] ∧ uQ mZ t6 t7 t8 = some r) ?_ ⟨(0 : Int), wS, (lN wS), (0 : Int), .eq (by kernel_rfl), hO, h0⟩
  clear hO h0
  rintro T H ⟨mZ, t6, t7, t8, hT, hO, h0⟩
  refine bB hT ?_
  clear hT
  unfold uQ at h0
  obtain ⟨rr0, hl0, h0⟩ := aW h0
  refine cA (by kernel_rfl) (fun (s : Int) T H => Has T [(3, (eI mZ)), (6, (eL (eI) t6)), (7, (eI t7)), (8, (eI s))] ∧ aO ⟨H0, [], []⟩ H []) hl0 ⟨.eq (by kernel_rfl), hO⟩ ?_
  clear hO
  rintro k0 s out1 T H ⟨hT, hO⟩ h1 ho0
  obtain ⟨t8, rfl⟩ : ∃ x, x = s := ⟨_, rfl⟩
  replace h1 : gK mZ t6 t7 t8 = some out1 := h1
  refine bB hT ?_
  clear hT
  unfold gK at h1
  refine aZ aH 1 [] [(9, (aL (decide (t8 < t7))))] ?_
  refine aR ?_
  refine bM h1 (fun h1 => ?_) (fun h1 => ?_)
  · refine bN ?_
    refine bH [(3, (eI mZ)), (6, (eL (eI) t6)), (7, (eI t7)), (8, (eI t8))] ?_
    refine aR ?_
    refine bQ 1 ?_
    refine aR ?_
    refine aT aH 3 ?_
    obtain ⟨c2, h1⟩ := bJ h1
    refine wB [0 ≤ t8 ∧ t8 < (lN t6)] ⟨c2, trivial⟩ ?_
    refine bR [] [(5, (eI (gD t6 t8)))] ?_
    refine aZ aH 3 [] [(14, (aL (!decide ((gD t6 t8) = mZ))))] ?_
    refine bM h1 (fun h1 => ?_) (fun h1 => ?_)
    · refine bW aH 2 [(2, (eI (gD t6 t8)))] ?_
      refine bL ?_
      obtain rfl := oI h1
      obtain rfl : _ = rr0 := ho0
      replace h0 : some (gD t6 t8) = some r := h0
      obtain rfl := oI h0
      exact aK (bY (bC (bC (bY (bC (Q_r hO))))))
    refine bN ?_
    refine dF [(3, (eI mZ)), (6, (eL (eI) t6)), (7, (eI t7)), (8, (eI t8))] ?_
    refine aK (aV (aI (?_)))
    refine aT aH 2 ?_
    refine bD ?_
    exact aK (aI (⟨rfl, _, (oI h1).symm, .eq (by kernel_rfl), hO⟩))
  refine dS 0 ?_
  obtain rfl := oI h1
  obtain rfl : _ = rr0 := ho0
  replace h0 : rM mZ = some r := h0
  exact aK (aY (aY (bO (aI (⟨rfl, _, .eq (by kernel_rfl), hO, h0⟩)))))

theorem LQ (x0 : aC) (y1 : aC) (r : Int) (h0 : mF x0 y1 = some r) : bS Try.prog 61 [(aE x0), (aE y1)] (eI r) := by
  intro H0
  refine cG Try.func61 ?_
  have hO := aO.start H0
  unfold mF at h0
  refine aR ?_
  refine aT aH 3 ?_
  refine gN 3 (aE x0) (by kernel_rfl) (by kernel_rfl) ?_
  refine gN 3 (aE y1) (by kernel_rfl) (by kernel_rfl) ?_
  refine bD ?_
  refine bH [(2, (.rp (aE x0))), (3, (.rp (aE y1)))] ?_
  refine aR ?_
  refine iV (iU [6, 8, 9, 11, 13, 14, 15, 16]) aH 13 ?_
  refine nM 4 ?_
  obtain ⟨x1, hx2, h0⟩ := aW h0
  refine vN (DN x0.Row y1.Row _ hx2) hO ?_
  intro H hO
  refine nM 9 ?_
  obtain ⟨x4, hx5, h0⟩ := aW h0
  refine vN (tU x0.At y1.At _ hx5) hO ?_
  intro H hO
  refine xM (xs := [(eI x1), (eI x4)]) (k := 1) (by kernel_rfl) (by kernel_rfl) ?_
  obtain ⟨x7, hx8, h0⟩ := aW h0
  refine SC 62 [(dO [(eI x1), (eI x4)])] (eI x7) (by kernel_rfl) (by kernel_rfl) (bS.sub (NW ([x1, x4]) _ hx8) ⟨BT (l := [x1, x4]), trivial⟩) hO ?_
  intro H hO
  refine nL ?_
  refine bH [(4, (eI x7))] ?_
  refine bL ?_
  obtain rfl := oI h0
  exact aK (Q_r hO)

theorem AZ (l0 : (List aC)) (r : (List aC)) (h0 : nS l0 = some r) : bS Try.prog 105 [(eL aE l0)] (.fn (.func 131) [] [(.rp (eL aE r))]) := by
  intro H0
  refine cG Try.func105 ?_
  have hO := aO.start H0
  unfold nS at h0
  refine aR ?_
  refine aT aH 2 ?_
  refine gN 1 (eL aE l0) (by kernel_rfl) (by kernel_rfl) ?_
  refine bD ?_
  refine bH [(1, (.rp (eL aE l0)))] ?_
  refine bW aH 2 [(2, (.fn (.func 131) [] [(.rp (eL aE l0))]))] ?_
  refine bL ?_
  obtain rfl := oI h0
  exact aK (pF (x := (.fn (.func 131) [] [(.rp (eL aE l0))])) (by kernel_rfl) (aX.refl _) ⟨rfl, hO.out⟩)

theorem vK (s10 : (List aJ)) (s21 : (List aJ)) (r : Bool) (h0 : gV s10 s21 = some r) : bS Try.prog 118 [(eL aM s10), (eL aM s21)] (aL r) := by
  intro H0
  refine cG Try.func118 ?_
  have hO := aO.start H0
  unfold gV at h0
  refine aZ aH 1 [] [] ?_
  refine aR ?_
  refine aZ aH 5 [] [(10, (aL (!decide ((lN s10) = (lN s21)))))] ?_
  refine bM h0 (fun h0 => ?_) (fun h0 => ?_)
  · refine bW aH 1 [(4, (aL false))] ?_
    refine bL ?_
    obtain rfl := oI h0
    exact aK (bC (Q_r hO))
  refine bN ?_
  refine bH [(0, (eL aM s10)), (1, (eL aM s21))] ?_
  refine cT (fun T H => Has T [] ∧ aO ⟨H0, [], []⟩ H [] ∧ eB  = some r) ?_ ?_
  · clear hO h0
    rintro T H ⟨hT, hO, h0⟩
    refine bB hT ?_
    clear hT
    unfold eB at h0
    refine bW aH 1 [(4, (aL true))] ?_
    refine bL ?_
    obtain rfl := oI h0
    exact aK (Q_r hO)
  refine aZ aH 3 [] [(12, (eI (lN s10))), (13, (eI (0 : Int)))] ?_
  refine bQ 0 ?_
  refine cO [(0, (eL aM s10)), (1, (eL aM s21)), (12, (eI (lN s10))), (13, (eI (0 : Int)))] ?_
  refine cK (fun T H => ∃ t12 : Int, ∃ t13 : Int, Has T [(0, (eL aM s10)), (1, (eL aM s21)), (12, (eI t12)), (13, (eI t13))] ∧ aO ⟨H0, [], []⟩ H [] ∧ gL s10 s21 t12 t13 = some r) ?_ ⟨(lN s10), (0 : Int), .eq (by kernel_rfl), hO, h0⟩
  clear hO h0
  rintro T H ⟨t12, t13, hT, hO, h0⟩
  refine bB hT ?_
  clear hT
  unfold gL at h0
  obtain ⟨rr0, hl0, h0⟩ := aW h0
  refine cA (by kernel_rfl) (fun (s : Int) T H => Has T [(0, (eL aM s10)), (1, (eL aM s21)), (12, (eI t12)), (13, (eI s))] ∧ aO ⟨H0, [], []⟩ H []) hl0 ⟨.eq (by kernel_rfl), hO⟩ ?_
  clear hO
  rintro k0 s out1 T H ⟨hT, hO⟩ h1 ho0
  obtain ⟨t13, rfl⟩ : ∃ x, x = s := ⟨_, rfl⟩
  replace h1 : dH s10 s21 t12 t13 = some out1 := h1
  refine bB hT ?_
  clear hT
  unfold dH at h1
  refine aZ aH 1 [] [(14, (aL (decide (t13 < t12))))] ?_
  refine aR ?_
  refine bM h1 (fun h1 => ?_) (fun h1 => ?_)
  · refine bN ?_
    refine bH [(0, (eL aM s10)), (1, (eL aM s21)), (12, (eI t12)), (13, (eI t13))] ?_
    refine aR ?_
    refine bQ 1 ?_
    refine aZ aH 2 [] [(5, (eI t13))] ?_
    refine aR ?_
    refine iV (iU [19, 23]) aH 9 ?_
    obtain ⟨c3, h1⟩ := bJ h1
    obtain ⟨c4, h1⟩ := bJ h1
    refine MC (Ds := [0 ≤ t13 ∧ t13 < (lN s10), 0 ≤ t13 ∧ t13 < (lN s21)]) (by kernel_rfl) ⟨c3, c4, trivial⟩ ?_
    refine bR [5] [(24, (aL (!((decide (((gD s10 t13).Kind) = ((gD s21 t13).Kind))) && ((decide (((gD s10 t13).Num) = ((gD s21 t13).Num))) && ((nO ((gD s10 t13).Text) ((gD s21 t13).Text)) && true))))))] ?_
    refine bM h1 (fun h1 => ?_) (fun h1 => ?_)
    · refine bW aH 1 [(4, (aL false))] ?_
      refine bL ?_
      obtain rfl := oI h1
      obtain rfl : _ = rr0 := ho0
      replace h0 : some false = some r := h0
      obtain rfl := oI h0
      exact aK (bY (bC (bC (bY (bC (Q_r hO))))))
    refine bN ?_
    refine dF [(0, (eL aM s10)), (1, (eL aM s21)), (12, (eI t12)), (13, (eI t13))] ?_
    refine aK (aV (aI (?_)))
    refine aT aH 2 ?_
    refine bD ?_
    exact aK (aI (⟨rfl, _, (oI h1).symm, .eq (by kernel_rfl), hO⟩))
  refine dS 0 ?_
  obtain rfl := oI h1
  obtain rfl : _ = rr0 := ho0
  replace h0 : eB  = some r := h0
  exact aK (aY (aY (bO (aI (⟨rfl, .eq (by kernel_rfl), hO, h0⟩)))))

theorem IZ (a0 : (List aJ)) (b1 : (List aJ)) (r : Bool) (h0 : tS a0 b1 = some r) : bS Try.prog 78 [(eL aM a0), (eL aM b1)] (aL r) := by
  intro H0
  refine cG Try.func78 ?_
  have hO := aO.start H0
  unfold tS at h0
  refine aZ aH 1 [] [] ?_
  refine aR ?_
  refine aT aH 4 ?_
  refine bK 2 ?_
  obtain ⟨x1, hx2, h0⟩ := aW h0
  refine cM (vK a0 b1 _ hx2) hO ?_
  intro H hO
  refine bD ?_
  refine bH [(4, (aL x1))] ?_
  refine bL ?_
  obtain rfl := oI h0
  exact aK (Q_r hO)

theorem wA (r0 : (List aJ)) (r : (List aJ)) (h0 : nR r0 = some r) : bS Try.prog 80 [(eL aM r0)] (eL aM r) := by
  intro H0
  refine cG Try.func80 ?_
  have hO := aO.start H0
  unfold nR at h0
  refine aZ aH 1 [] [] ?_
  refine aR ?_
  refine aT aH 6 ?_
  refine bK 2 ?_
  obtain ⟨c1, h0⟩ := bJ h0
  refine FG 3 32 (lN r0) (by kernel_rfl) (by kernel_rfl) c1 hO ?_
  intro lo2 H hO
  refine bK 4 ?_
  obtain ⟨c4, h0⟩ := bJ h0
  refine FJ (e := aM) ([] : List aJ) r0 0 lo2 3 32 (eL aM r0) (fun lo3 => [(lo3, 3, List.map aM (([] : List aJ) ++ r0))]) (by kernel_rfl) (by kernel_rfl) hO (by kernel_rfl) (BM (fun _ => by kernel_rfl)) c4 (fun _ => by kernel_rfl) ?_
  intro lo3 H hO
  refine bD ?_
  refine bH [(2, (.msl 3 lo3 0 (List.length (([] : List aJ) ++ r0))))] ?_
  refine bL ?_
  refine dF [(2, (.msl 3 lo3 0 (List.length (([] : List aJ) ++ r0))))] ?_
  refine tC (en := aM) (([] : List aJ) ++ r0) 0 0 2 3 lo3 (List.length (([] : List aJ) ++ r0)) hO (by kernel_rfl) (by kernel_rfl) (by kernel_rfl) (L' := []) (by kernel_rfl) ?_
  intro H5 hO
  obtain rfl := oI h0
  exact aK (Q_r hO)

theorem wD {σ : Type} (I : σ → Gs → Prop) (yield0_b : Nat) (eE : σ → (List aJ) → (List aB) → Option (σ × Bool)) (yield0_h : ∀ st a0 a1 st2 r, eE st a0 a1 = some (st2, r) → FE Try.prog (yv yield0_b) I st [(eL aM a0), (eL aD a1)] st2 (aL r)) (t1 : (List aC)) (sg0 : σ) (r : σ) (h0 : lV eE t1 sg0 = some r) : yX Try.prog 131 I sg0 [(yv yield0_b), (.rp (eL aE t1))] r (.tup []) := by
  intro H0 G0 hI hg
  refine cG Try.func131 ?_
  obtain ⟨G, hO, hI⟩ : ∃ G, aO ⟨H0, List.map (fun p : Nat × cU => p.1) G0, G⟩ H0 [] ∧ I sg0 G := ⟨G0, aO.HR hg, hI⟩
  clear hg
  unfold lV at h0
  refine aZ aH 1 [] [(3, (eI (0 : Int)))] ?_
  refine bQ 0 ?_
  refine cO [(0, (yv yield0_b)), (1, (.rp (eL aE t1))), (3, (eI (0 : Int)))] ?_
  refine cK (fun T H => ∃ sg : σ, ∃ i3 : Int, ∃ G : Gs, Has T [(0, (yv yield0_b)), (1, (.rp (eL aE t1))), (3, (eI i3))] ∧ aO ⟨H0, List.map (fun p : Nat × cU => p.1) G0, G⟩ H [] ∧ I sg G ∧ qK eE sg t1 i3 = some r) ?_ ⟨sg0, (0 : Int), G, .eq (by kernel_rfl), hO, hI, h0⟩
  clear hO hI h0
  rintro T H ⟨sg, i3, G, hT, hO, hI, h0⟩
  refine bB hT ?_
  clear hT
  unfold qK at h0
  obtain ⟨rr0, hl0, h0⟩ := aW h0
  refine cA (by kernel_rfl) (fun (s : σ × Int) T H => ∃ G : Gs, Has T [(0, (yv yield0_b)), (1, (.rp (eL aE t1))), (3, (eI s.2))] ∧ aO ⟨H0, List.map (fun p : Nat × cU => p.1) G0, G⟩ H [] ∧ I s.1 G) hl0 ⟨G, .eq (by kernel_rfl), hO, hI⟩ ?_
  clear hO hI
  rintro k0 s out1 T H ⟨G, hT, hO, hI⟩ h1 ho0
  obtain ⟨sg, i3⟩ := s
  replace h1 : fK eE t1 sg i3 = some out1 := h1
  try dsimp only at hT
  refine bB hT ?_
  clear hT
  unfold fK at h1
  refine aR ?_
  refine aZ aH 4 [] [(9, (aL (decide (i3 < (lN t1)))))] ?_
  refine bM h1 (fun h1 => ?_) (fun h1 => ?_)
  · refine bN ?_
    refine bH [(0, (yv yield0_b)), (1, (.rp (eL aE t1))), (3, (eI i3))] ?_
    refine bQ 1 ?_
    refine aR ?_
    refine aT aH 6 ?_
    obtain ⟨c2, h1⟩ := bJ h1
    refine wB [0 ≤ i3 ∧ i3 < (lN t1)] ⟨c2, trivial⟩ ?_
    refine bR [] [(4, (eL aM ((gD t1 i3).Row)))] ?_
    refine aR ?_
    refine aT aH 2 ?_
    refine qL (xs := []) (k := 2) (by kernel_rfl) (by kernel_rfl) ?_
    refine bD ?_
    refine bR [] [(5, (.sl true 0 (fun _ => .bad)))] ?_
    refine cT (fun T H => ∃ sg : σ, ∃ i3 : Int, ∃ r4 : (List aJ), ∃ f5 : List aB, ∃ lo3 : Nat, ∃ G : Gs, Has T [(0, (yv yield0_b)), (1, (.rp (eL aE t1))), (3, (eI i3)), (4, (eL aM r4)), (5, (.msl 2 lo3 0 (List.length f5)))] ∧ aO ⟨H0, List.map (fun p : Nat × cU => p.1) G0, G⟩ H [(lo3, 2, List.map aD f5)] ∧ I sg G ∧ oJ eE sg t1 i3 r4 f5 = some out1) ?_ ?_
    · clear hO hI h1
      rintro T H ⟨sg, i3, r4, f5, lo3, G, hT, hO, hI, h1⟩
      refine bB hT ?_
      clear hT
      unfold oJ at h1
      refine aR ?_
      refine aT aH 6 ?_
      refine AR (e := aD) f5 0 5 2 lo3 (List.length f5) [] (by kernel_rfl) hO (by kernel_rfl) (by kernel_rfl) (by kernel_rfl) (by kernel_rfl) ?_
      intro H hO
      refine bK 2 ?_
      obtain ⟨x7, hx8, h1⟩ := aW h1
      refine cM (wA r4 _ hx8) hO ?_
      intro H hO
      refine bK 4 ?_
      obtain ⟨x10, hx11, h1⟩ := aW h1
      refine RM (I := I) (yv yield0_b) [(eL aM x7), (eL aD f5)] (aL x10.2) (by kernel_rfl) (by kernel_rfl) (yield0_h _ x7 f5 x10.1 x10.2 hx11) hO hI ?_
      intro G H hO hI
      refine bD ?_
      refine bR [4, 5] [(50, (aL (!x10.2)))] ?_
      refine bM h1 (fun h1 => ?_) (fun h1 => ?_)
      · refine bL ?_
        obtain rfl := oI h1
        obtain rfl : _ = rr0 := ho0
        replace h0 : some x10.1 = some r := h0
        obtain rfl := oI h0
        exact aK (bY (bC (bY (pF (x := (.tup [])) (by kernel_rfl) (aX.refl _) ⟨rfl, G, hI, hO.EV⟩))))
      refine bN ?_
      exact aK (aV (aI (⟨rfl, _, (oI h1).symm, _, .eq (by kernel_rfl), hO, hI⟩)))
    refine bQ 2 ?_
    refine cO [(0, (yv yield0_b)), (1, (.rp (eL aE t1))), (3, (eI i3)), (4, (eL aM ((gD t1 i3).Row))), (5, (.sl true 0 (fun _ => .bad)))] ?_
    refine BJ (el := (fun _ => .bad)) 4 5 2 hO (by kernel_rfl) ?_
    intro lo24 H25 hO
    refine cK (fun T H => ∃ sg : σ, ∃ i3 : Int, ∃ r4 : (List aJ), ∃ f5 : List aB, ∃ lo14 : Nat, ∃ G : Gs, Has T [(0, (yv yield0_b)), (1, (.rp (eL aE t1))), (3, (eI i3)), (4, (eL aM r4)), (5, (.msl 2 lo14 0 (List.length f5)))] ∧ aO ⟨H0, List.map (fun p : Nat × cU => p.1) G0, G⟩ H [(lo14, 2, List.map aD f5)] ∧ I sg G ∧ qP eE sg t1 i3 r4 f5 = some out1) ?_ ⟨sg, i3, (gD t1 i3).Row, ([] : List aB), lo24, G, .eq (by kernel_rfl), hO, hI, h1⟩
    clear hO hI h1
    rintro T H ⟨sg, i3, r4, f5, lo14, G, hT, hO, hI, h1⟩
    refine bB hT ?_
    clear hT
    unfold qP at h1
    obtain ⟨rr1, hl1, h1⟩ := aW h1
    refine cA (by kernel_rfl) (fun (s : σ × Int × List aB) T H => ∃ lo14 : Nat, ∃ G : Gs, Has T [(0, (yv yield0_b)), (1, (.rp (eL aE t1))), (3, (eI s.2.1)), (4, (eL aM r4)), (5, (.msl 2 lo14 0 (List.length s.2.2)))] ∧ aO ⟨H0, List.map (fun p : Nat × cU => p.1) G0, G⟩ H [(lo14, 2, List.map aD s.2.2)] ∧ I s.1 G) hl1 ⟨lo14, G, .eq (by kernel_rfl), hO, hI⟩ ?_
    clear hO hI
    rintro k1 s out2 T H ⟨lo14, G, hT, hO, hI⟩ h2 ho1
    obtain ⟨sg, i3, f5⟩ := s
    replace h2 : iA eE t1 r4 sg i3 f5 = some out2 := h2
    try dsimp only at hT
    refine bB hT ?_
    clear hT
    unfold iA at h2
    refine aR ?_
    refine aR ?_
    refine aT aH 13 ?_
    obtain ⟨c15, h2⟩ := bJ h2
    refine pS 11 [(((decide (i3 < (lN t1)))) = true → 0 ≤ i3 ∧ i3 < (lN t1))] ⟨c15, trivial⟩ ?_
    obtain ⟨x16, hx17, h2⟩ := aW h2
    refine eA [(20, true)] 78 [(eL aM ((gD t1 i3).Row)), (eL aM r4)] (aL x16) (decide (i3 < (lN t1))) (by kernel_rfl) (by kernel_rfl) (by kernel_rfl) (fun hb18 => (IZ ((gD t1 i3).Row) r4 _ (fG hx17 hb18))) hO ?_
    intro H hO
    refine bD ?_
    refine bR [] [(28, (aL ((decide (i3 < (lN t1))) && x16)))] ?_
    refine bM h2 (fun h2 => ?_) (fun h2 => ?_)
    · refine bN ?_
      refine bH [(0, (yv yield0_b)), (1, (.rp (eL aE t1))), (3, (eI i3)), (4, (eL aM r4)), (5, (.msl 2 lo14 0 (List.length f5)))] ?_
      refine aR ?_
      refine bQ 3 ?_
      refine iV (iU [32, 36, 37, 41, 43]) aH 15 ?_
      obtain ⟨c20, h2⟩ := bJ h2
      obtain ⟨c21, h2⟩ := bJ h2
      refine dG 12 [0 ≤ i3 ∧ i3 < (lN t1), 0 ≤ i3 ∧ i3 < (lN t1)] ⟨c20, c21, trivial⟩ ?_
      refine xM (xs := [(aD (aB.mk ((gD t1 i3).At) ((gD t1 i3).Net)))]) (k := 2) (by kernel_rfl) (by kernel_rfl) ?_
      obtain ⟨c23, h2⟩ := bJ h2
      refine xB (e := aD) f5 ([aB.mk ((gD t1 i3).At) ((gD t1 i3).Net)]) 0 lo14 2 16 (dO [(aD (aB.mk ((gD t1 i3).At) ((gD t1 i3).Net)))]) (fun lo22 => [(lo22, 2, List.map aD (f5 ++ ([aB.mk ((gD t1 i3).At) ((gD t1 i3).Net)])))]) (by kernel_rfl) (by kernel_rfl) hO (by kernel_rfl) (by kernel_rfl) c23 (fun _ => by kernel_rfl) ?_
      intro lo22 H hO
      refine nL ?_
      refine dF [(0, (yv yield0_b)), (1, (.rp (eL aE t1))), (3, (eI i3)), (4, (eL aM r4)), (5, (.msl 2 lo22 0 (List.length (f5 ++ ([aB.mk ((gD t1 i3).At) ((gD t1 i3).Net)])))))] ?_
      refine aK (aV (aI (?_)))
      refine aT aH 3 ?_
      refine bD ?_
      exact aK (aI (⟨rfl, _, (oI h2).symm, _, _, .eq (by kernel_rfl), hO, hI⟩))
    refine dS 2 ?_
    obtain rfl := oI h2
    obtain rfl : _ = rr1 := ho1
    replace h1 : oJ eE sg t1 i3 r4 f5 = some out1 := h1
    exact aK (aY (aY (bO (aI (⟨rfl, _, _, _, _, _, _, .eq (by kernel_rfl), hO, hI, h1⟩)))))
  refine dS 0 ?_
  obtain rfl := oI h1
  obtain rfl : _ = rr0 := ho0
  replace h0 : some sg = some r := h0
  obtain rfl := oI h0
  exact aK (aY (aY (bO (pT (x := (.tup [])) (by kernel_rfl) (aX.refl _) ⟨rfl, G, hI, hO.EV⟩))))

theorem TL (lo0p : Nat) (l0 : (List aC)) (r1 : (List aJ)) (f2 : (List aB)) (r : (List aC)) (h0 : wU l0 r1 f2 = some r) : CX Try.prog 106 lo0p 3 (List.map aE l0) [(.msl 3 lo0p 0 (List.length l0)), (eL aM r1), (eL aD f2)] (fun lo => .msl 3 lo 0 (List.length r)) (List.map aE r) := by
  intro H0 hl0
  refine cG Try.func106 ?_
  have hO := aO.pE hl0
  clear hl0
  unfold wU at h0
  refine aZ aH 1 [] [] ?_
  refine cT (fun T H => ∃ l0 : List aC, ∃ lo1 : Nat, Has T [(0, (.msl 3 lo1 0 (List.length l0)))] ∧ aO ⟨H0, [lo0p], []⟩ H [(lo1, 3, List.map aE l0)] ∧ xQ l0 = some r) ?_ ?_
  · clear hO h0
    rintro T H ⟨l0, lo1, hT, hO, h0⟩
    refine bB hT ?_
    clear hT
    unfold xQ at h0
    refine bW aH 2 [(6, (.msl 3 lo1 0 (List.length l0)))] ?_
    refine bL ?_
    obtain rfl := oI h0
    exact aK (pF (x := (.msl 3 lo1 0 (List.length l0))) (by kernel_rfl) (aX.refl _) ⟨lo1, rfl, hO⟩)
  refine aZ aH 3 [2] [(9, (eL aD f2)), (10, (eI (lN f2))), (11, (eI (0 : Int)))] ?_
  refine bQ 0 ?_
  refine cO [(0, (.msl 3 lo0p 0 (List.length l0))), (1, (eL aM r1)), (9, (eL aD f2)), (10, (eI (lN f2))), (11, (eI (0 : Int)))] ?_
  refine cK (fun T H => ∃ l0 : List aC, ∃ t9 : (List aB), ∃ t10 : Int, ∃ t11 : Int, ∃ lo3 : Nat, Has T [(0, (.msl 3 lo3 0 (List.length l0))), (1, (eL aM r1)), (9, (eL aD t9)), (10, (eI t10)), (11, (eI t11))] ∧ aO ⟨H0, [lo0p], []⟩ H [(lo3, 3, List.map aE l0)] ∧ xL l0 r1 t9 t10 t11 = some r) ?_ ⟨l0, f2, (lN f2), (0 : Int), lo0p, .eq (by kernel_rfl), hO, h0⟩
  clear hO h0
  rintro T H ⟨l0, t9, t10, t11, lo3, hT, hO, h0⟩
  refine bB hT ?_
  clear hT
  unfold xL at h0
  obtain ⟨rr0, hl0, h0⟩ := aW h0
  refine cA (by kernel_rfl) (fun (s : List aC × Int) T H => ∃ lo3 : Nat, Has T [(0, (.msl 3 lo3 0 (List.length s.1))), (1, (eL aM r1)), (9, (eL aD t9)), (10, (eI t10)), (11, (eI s.2))] ∧ aO ⟨H0, [lo0p], []⟩ H [(lo3, 3, List.map aE s.1)]) hl0 ⟨lo3, .eq (by kernel_rfl), hO⟩ ?_
  clear hO
  rintro k0 s out1 T H ⟨lo3, hT, hO⟩ h1 ho0
  obtain ⟨l0, t11⟩ := s
  replace h1 : nW r1 t9 t10 l0 t11 = some out1 := h1
  try dsimp only at hT
  refine bB hT ?_
  clear hT
  unfold nW at h1
  refine aZ aH 1 [] [(12, (aL (decide (t11 < t10))))] ?_
  refine aR ?_
  refine bM h1 (fun h1 => ?_) (fun h1 => ?_)
  · refine bN ?_
    refine bH [(0, (.msl 3 lo3 0 (List.length l0))), (1, (eL aM r1)), (9, (eL aD t9)), (10, (eI t10)), (11, (eI t11))] ?_
    refine aR ?_
    refine bQ 1 ?_
    refine aR ?_
    refine aT aH 4 ?_
    obtain ⟨c5, h1⟩ := bJ h1
    refine pS 2 [0 ≤ t11 ∧ t11 < (lN t9)] ⟨c5, trivial⟩ ?_
    refine kZ 2 (aD (aB.mk 0 0)) (by kernel_rfl) (by kernel_rfl) hO ?_
    intro lo6 H hO
    refine gM 1 lo6 2 0 (aD (aB.mk 0 0)) (aD (gD t9 t11)) [(aD (aB.mk 0 0))] [(lo3, 3, List.map aE l0), (lo6, 2, [(aD (gD t9 t11))])] hO rfl (by kernel_rfl) ?_
    intro H hO
    refine cF ?_
    refine bR [] [(8, (.lp lo6 0 0))] ?_
    refine cO [(0, (.msl 3 lo3 0 (List.length l0))), (1, (eL aM r1)), (8, (.lp lo6 0 0)), (9, (eL aD t9)), (10, (eI t10)), (11, (eI t11))] ?_
    refine vT 2 1 8 2 lo6 (aD (gD t9 t11)) [(lo3, 3, List.map aE l0)] hO (by kernel_rfl) (by kernel_rfl) (by kernel_rfl) ?_
    intro H hO
    refine iV (iU [19, 21, 23]) aH 11 ?_
    refine nM 2 ?_
    obtain ⟨x7, hx8, h1⟩ := aW h1
    refine vN (wA r1 _ hx8) hO ?_
    intro H hO
    refine nM 8 ?_
    refine xM (xs := [(aE (aC.mk x7 ((gD t9 t11).At) ((gD t9 t11).Net)))]) (k := 3) (by kernel_rfl) (by kernel_rfl) ?_
    obtain ⟨c11, h1⟩ := bJ h1
    refine xB (e := aE) l0 ([aC.mk x7 ((gD t9 t11).At) ((gD t9 t11).Net)]) 0 lo3 3 40 (dO [(aE (aC.mk x7 ((gD t9 t11).At) ((gD t9 t11).Net)))]) (fun lo10 => [(lo10, 3, List.map aE (l0 ++ ([aC.mk x7 ((gD t9 t11).At) ((gD t9 t11).Net)])))]) (by kernel_rfl) (by kernel_rfl) hO (by kernel_rfl) (by kernel_rfl) c11 (fun _ => by kernel_rfl) ?_
    intro lo10 H hO
    refine nL ?_
    refine dF [(0, (.msl 3 lo10 0 (List.length (l0 ++ ([aC.mk x7 ((gD t9 t11).At) ((gD t9 t11).Net)]))))), (1, (eL aM r1)), (9, (eL aD t9)), (10, (eI t10)), (11, (eI t11))] ?_
    refine aK (aV (aI (?_)))
    refine aT aH 2 ?_
    refine bD ?_
    exact aK (aI (⟨rfl, _, (oI h1).symm, _, .eq (by kernel_rfl), hO⟩))
  refine dS 0 ?_
  obtain rfl := oI h1
  obtain rfl : _ = rr0 := ho0
  replace h0 : xQ l0 = some r := h0
  exact aK (aY (aY (bO (aI (⟨rfl, _, _, .eq (by kernel_rfl), hO, h0⟩)))))

theorem LK (l0 : (List aC)) (by1_f : Nat) (by1_a by1_c : List V) (by1 : (List aB) → Option ((List aB) × Int)) (by1_h : ∀ a0 r, by1 a0 = some r → bS Try.prog by1_f (by1_a ++ [(eL aD a0)] ++ by1_c) (.tup [(eL aD r.1), (eI r.2)])) (r : ((List aC) × Int)) (h0 : rF l0 by1 = some r) : bS Try.prog 65 [(eL aE l0), (.fn (.func by1_f) by1_a by1_c)] (.tup [(eL aE r.1), (eI r.2)]) := by
  intro H0
  refine BZ aH Try.func65 (by kernel_rfl) (by kernel_rfl) (by kernel_rfl) ?_
  have hO := aO.start H0
  unfold rF at h0
  refine aR ?_
  refine aT aH 3 ?_
  refine gN 1 (.fn (.func by1_f) by1_a by1_c) (by kernel_rfl) (by kernel_rfl) ?_
  refine oK 1 (.sl true 0 (fun _ => .bad)) (eL aE ([])) (by kernel_rfl) (by kernel_rfl) (by kernel_rfl) (fM) (by kernel_rfl) (by kernel_rfl) hO ?_
  intro lo1 H hO
  refine kZ 1 (eI 0) (by kernel_rfl) (by kernel_rfl) hO ?_
  intro lo2 H hO
  refine cF ?_
  refine bR [1] [(3, (.rp (.fn (.func by1_f) by1_a by1_c))), (4, (.lp lo1 0 0)), (5, (.lp lo2 0 0))] ?_
  refine aR ?_
  refine aT aH 3 ?_
  refine qL (xs := []) (k := 3) (by kernel_rfl) (by kernel_rfl) ?_
  refine oK 1 (.sl true 0 (fun _ => .bad)) (eL aE ([])) (by kernel_rfl) (by kernel_rfl) (by kernel_rfl) (fM) (by kernel_rfl) (by kernel_rfl) hO ?_
  intro lo3 H hO
  refine aAn 11 3 (fun _ => .bad) (by kernel_rfl) hO (by kernel_rfl) ?_
  intro lo4 H hO
  refine gM 2 lo3 1 0 (eL aE ([])) (.msl 3 lo4 0 (List.length ([] : List aC))) [(eL aE ([]))] [(lo1, 1, [(eL aE ([]))]), (lo2, 1, [(eI 0)]), (lo3, 1, [(.msl 3 lo4 0 (List.length ([] : List aC)))]), (lo4, 3, List.map aE ([] : List aC))] hO rfl (by kernel_rfl) ?_
  intro H hO
  refine cF ?_
  refine bR [] [(6, (.lp lo3 0 0))] ?_
  refine aR ?_
  refine aR ?_
  refine aT aH 2 ?_
  refine bK 1 ?_
  obtain ⟨x5, hx6, h0⟩ := aW h0
  refine cM (AZ l0 _ hx6) hO ?_
  intro H hO
  refine cF ?_
  refine bR [0] [(13, (.fn (.func 131) [] [(.rp (eL aE x5))]))] ?_
  refine bQ 0 ?_
  refine cO [(3, (.rp (.fn (.func by1_f) by1_a by1_c))), (4, (.lp lo1 0 0)), (5, (.lp lo2 0 0)), (6, (.lp lo3 0 0)), (13, (.fn (.func 131) [] [(.rp (eL aE x5))]))] ?_
  refine cK (fun T H => ∃ t4 : (List aC), ∃ t5 : Int, ∃ out6 : List aC, ∃ jG : (List aC), ∃ lo7 : Nat, Has T [(3, (.rp (.fn (.func by1_f) by1_a by1_c))), (4, (.lp lo1 0 0)), (5, (.lp lo2 0 0)), (6, (.lp lo3 0 0)), (13, (.fn (.func 131) [] [(.rp (eL aE jG))]))] ∧ aO ⟨H0, [], []⟩ H [(lo1, 1, [(eL aE t4)]), (lo2, 1, [(eI t5)]), (lo3, 1, [(.msl 3 lo7 0 (List.length out6))]), (lo7, 3, List.map aE out6)] ∧ tK by1 t4 t5 out6 jG = some r) ?_ ⟨[], 0, ([] : List aC), x5, lo4, .eq (by kernel_rfl), hO, h0⟩
  clear hO h0
  rintro T H ⟨t4, t5, out6, jG, lo7, hT, hO, h0⟩
  refine bB (l := [(3, (.rp (.fn (.func by1_f) by1_a by1_c))), (4, (.lp lo1 0 0)), (5, (.lp lo2 0 0)), (6, (.lp lo3 0 0)), (13, (.fn (.func 131) [] [(.rp (eL aE jG))]))]) hT ?_
  clear hT
  unfold tK at h0
  obtain ⟨o0, hl0, h0⟩ := aW h0
  refine zV (fid := 131) (ys := []) (cs := [(.rp (eL aE jG))]) #[14, 15] (fun (A : xG) (b lL : Nat) (st : ((List aC) × Int × List aC) ⊕ ((List aC) × Int × List aC)) (G' : Gs) => Sum.elim (fun (s : (List aC) × Int × List aC) => ∃ lo7 : Nat, G' = (lL, .raw (jN b A .ready none)) :: (up [(lo1, 1, [(eL aE s.1)]), (lo2, 1, [(eI s.2.1)]), (lo3, 1, [(.msl 3 lo7 0 (List.length s.2.2))]), (lo7, 3, List.map aE s.2.2)] ++ [])) (fun (s : (List aC) × Int × List aC) => ∃ lo7 : Nat, G' = (lL, .raw (jN b A .done (some .ret))) :: (up [(lo1, 1, [(eL aE s.1)]), (lo2, 1, [(eI s.2.1)]), (lo3, 1, [(.msl 3 lo7 0 (List.length s.2.2))]), (lo7, 3, List.map aE s.2.2)] ++ [])) st) (.inl (t4, t5, out6)) o0 (.tup []) (by kernel_rfl) (by kernel_rfl) (by kernel_rfl) hO (fun _ _ => ⟨lo7, rfl⟩) ?_ ?_
  · intro b lL
    clear hO h0
    refine wD _ b (fun st t14 t15 => rnd (fun (s : (List aC) × Int × List aC) => mT by1 jG s.1 s.2.1 s.2.2 t14 t15) st) ?_ jG _ _ hl0
    intro st t14 t15 out1 rr hr
    obtain ⟨s, rfl, h1, rfl⟩ := MM hr
    clear hr
    intro Hr Gr hi hg
    obtain ⟨t4, t5, out6⟩ := s
    dsimp only [Sum.elim_inl] at hi
    obtain ⟨lo7, rfl⟩ := hi
    replace h1 : mT by1 jG t4 t5 out6 t14 t15 = some out1 := h1
    unfold mT at h1
    obtain ⟨E1, hE, hO⟩ := uD hg
    refine uC (AD (hO.gm 0 _ rfl).2 (by kernel_rfl) (by kernel_rfl) ?_)
    refine cO [(3, (.rp (.fn (.func by1_f) by1_a by1_c))), (4, (.lp lo1 0 0)), (5, (.lp lo2 0 0)), (6, (.lp lo3 0 0)), (13, (.fn (.func 131) [] [(.rp (eL aE jG))])), (14, (eL aM t14)), (15, (eL aD t15))] ?_
    refine aZ aH 1 [13, 14] [(7, (eL aM t14))] ?_
    refine aT aH 1 ?_
    refine bD ?_
    refine dF [(3, (.rp (.fn (.func by1_f) by1_a by1_c))), (4, (.lp lo1 0 0)), (5, (.lp lo2 0 0)), (6, (.lp lo3 0 0)), (7, (eL aM t14)), (8, (eL aD t15))] ?_
    refine aK (⟨rfl, rfl, (hO.gm 0 _ rfl).2, ?_⟩)
    intro o1 ho1
    replace hO := hO.tT o1
    refine bQ 1 ?_
    refine aR ?_
    refine aT aH 8 ?_
    refine bK 2 ?_
    obtain ⟨x8, hx9, h1⟩ := aW h1
    refine cM (by1_h t15 _ hx9) hO ?_
    intro H hO
    refine bD ?_
    refine bR [3, 8] [(9, (eL aD x8.1)), (10, (eI x8.2))] ?_
    refine aR ?_
    refine aZ aH 2 [] [(23, (aL (!decide (x8.2 = (0 : Int)))))] ?_
    refine bM h1 (fun h1 => ?_) (fun h1 => ?_)
    · refine aR ?_
      refine aT aH 3 ?_
      refine bK 1 ?_
      refine gM 0 lo1 1 0 (eL aE t4) (.sl true 0 (fun _ => .bad)) [(eL aE t4)] [(lo1, 1, [(.sl true 0 (fun _ => .bad))]), (lo2, 1, [(eI t5)]), (lo3, 1, [(.msl 3 lo7 0 (List.length out6))]), (lo7, 3, List.map aE out6)] hO rfl (by kernel_rfl) ?_
      intro H hO
      refine gM 1 lo2 1 0 (eI t5) (eI x8.2) [(eI t5)] [(lo1, 1, [(.sl true 0 (fun _ => .bad))]), (lo2, 1, [(eI x8.2)]), (lo3, 1, [(.msl 3 lo7 0 (List.length out6))]), (lo7, 3, List.map aE out6)] hO rfl (by kernel_rfl) ?_
      intro H hO
      refine cF ?_
      refine HA 0 lo1 1 (.sl true 0 (fun _ => .bad)) (eL aE ([])) [(lo1, 1, [(eL aE ([]))]), (lo2, 1, [(eI x8.2)]), (lo3, 1, [(.msl 3 lo7 0 (List.length out6))]), (lo7, 3, List.map aE out6)] hO (by kernel_rfl) (by kernel_rfl) fM (by kernel_rfl) ?_
      intro H hO
      refine bH [(4, (.lp lo1 0 0)), (5, (.lp lo2 0 0)), (6, (.lp lo3 0 0))] ?_
      refine bL ?_
      refine dF [(4, (.lp lo1 0 0)), (5, (.lp lo2 0 0)), (6, (.lp lo3 0 0))] ?_
      obtain rfl := oI h1
      exact aK (bC (bY (⟨(fQ hO hE ho1 .dead).1, rfl, _, ⟨lo7, rfl⟩, (fQ hO hE ho1 _).2⟩)))
    refine bN ?_
    refine bH [(4, (.lp lo1 0 0)), (5, (.lp lo2 0 0)), (6, (.lp lo3 0 0)), (7, (eL aM t14)), (9, (eL aD x8.1))] ?_
    refine aR ?_
    refine aT aH 5 ?_
    refine jB 2 lo3 1 0 (.msl 3 lo7 0 (List.length out6)) (.msl 3 lo7 0 (List.length out6)) [(.msl 3 lo7 0 (List.length out6))] hO rfl ?_
    refine bK 3 ?_
    obtain ⟨x12, hx13, h1⟩ := aW h1
    refine YR (L' := fun lo14 => [(lo1, 1, [(eL aE t4)]), (lo2, 1, [(eI t5)]), (lo3, 1, [(.msl 3 lo7 0 (List.length out6))]), (lo14, 3, List.map aE x12)]) 3 lo7 3 (List.map aE out6) (List.map aE x12) 106 [(.msl 3 lo7 0 (List.length out6)), (eL aM t14), (eL aD x8.1)] (fun lo14 => (.msl 3 lo14 0 (List.length x12))) (by kernel_rfl) (by kernel_rfl) (TL lo7 out6 t14 x8.1 _ hx13) hO (by kernel_rfl) (fun _ => by kernel_rfl) ?_
    intro lo14 H hO
    refine gM 2 lo3 1 0 (.msl 3 lo7 0 (List.length out6)) (.msl 3 lo14 0 (List.length x12)) [(.msl 3 lo7 0 (List.length out6))] [(lo1, 1, [(eL aE t4)]), (lo2, 1, [(eI t5)]), (lo3, 1, [(.msl 3 lo14 0 (List.length x12))]), (lo14, 3, List.map aE x12)] hO rfl (by kernel_rfl) ?_
    intro H hO
    refine cF ?_
    refine bR [7, 9] [] ?_
    refine aR ?_
    refine aT aH 3 ?_
    refine jB 2 lo3 1 0 (.msl 3 lo14 0 (List.length x12)) (.msl 3 lo14 0 (List.length x12)) [(.msl 3 lo14 0 (List.length x12))] hO rfl ?_
    refine bD ?_
    refine bR [] [(31, (aL (decide ((4096 : Int) < (lN x12)))))] ?_
    refine bM h1 (fun h1 => ?_) (fun h1 => ?_)
    · refine aR ?_
      refine aT aH 2 ?_
      refine gM 0 lo1 1 0 (eL aE t4) (.sl true 0 (fun _ => .bad)) [(eL aE t4)] [(lo1, 1, [(.sl true 0 (fun _ => .bad))]), (lo2, 1, [(eI t5)]), (lo3, 1, [(.msl 3 lo14 0 (List.length x12))]), (lo14, 3, List.map aE x12)] hO rfl (by kernel_rfl) ?_
      intro H hO
      refine gM 1 lo2 1 0 (eI t5) (eI (7 : Int)) [(eI t5)] [(lo1, 1, [(.sl true 0 (fun _ => .bad))]), (lo2, 1, [(eI (7 : Int))]), (lo3, 1, [(.msl 3 lo14 0 (List.length x12))]), (lo14, 3, List.map aE x12)] hO rfl (by kernel_rfl) ?_
      intro H hO
      refine cF ?_
      refine HA 0 lo1 1 (.sl true 0 (fun _ => .bad)) (eL aE ([])) [(lo1, 1, [(eL aE ([]))]), (lo2, 1, [(eI (7 : Int))]), (lo3, 1, [(.msl 3 lo14 0 (List.length x12))]), (lo14, 3, List.map aE x12)] hO (by kernel_rfl) (by kernel_rfl) fM (by kernel_rfl) ?_
      intro H hO
      refine bH [(4, (.lp lo1 0 0)), (5, (.lp lo2 0 0)), (6, (.lp lo3 0 0))] ?_
      refine bL ?_
      refine dF [(4, (.lp lo1 0 0)), (5, (.lp lo2 0 0)), (6, (.lp lo3 0 0))] ?_
      obtain rfl := oI h1
      exact aK (bY (⟨(fQ hO hE ho1 .dead).1, rfl, _, ⟨lo14, rfl⟩, (fQ hO hE ho1 _).2⟩))
    refine bN ?_
    refine dF [(4, (.lp lo1 0 0)), (5, (.lp lo2 0 0)), (6, (.lp lo3 0 0))] ?_
    obtain rfl := oI h1
    exact aK (aV (⟨(fQ hO hE ho1 .dead).1, rfl, _, ⟨lo14, rfl⟩, (fQ hO hE ho1 _).2⟩))
  · intro b lD16 lL H' G' hi hO
    rcases o0 with s | s
    · dsimp only [Sum.elim_inl] at hi
      obtain ⟨lo7, rfl⟩ := hi
      replace h0 : (some (s.2.2, (0 : Int))) = some r := h0
      obtain ⟨hlL, hO⟩ := pK hO
      refine ⟨_, _, hlL, (by intro e; cases e), ?_⟩
      refine dF [(4, (.lp lo1 0 0)), (5, (.lp lo2 0 0)), (6, (.lp lo3 0 0))] ?_
      refine aK (aV (aI (?_)))
      refine aR ?_
      refine TP (e := aE) s.2.2 2 3 1 3 lo3 lo7 (List.length s.2.2) [(lo1, 1, [(eL aE s.1)]), (lo2, 1, [(eI s.2.1)]), (lo3, 1, [(eL aE s.2.2)])] hO (by kernel_rfl) (by kernel_rfl) (by kernel_rfl) (.inr (by decide)) (by kernel_rfl) ?_
      intro H hO
      refine aT aH 3 ?_
      refine jB 2 lo3 1 0 (eL aE s.2.2) (eL aE s.2.2) [(eL aE s.2.2)] hO rfl ?_
      refine gM 0 lo1 1 0 (eL aE s.1) (eL aE s.2.2) [(eL aE s.1)] [(lo1, 1, [(eL aE s.2.2)]), (lo2, 1, [(eI s.2.1)]), (lo3, 1, [(eL aE s.2.2)])] hO rfl (by kernel_rfl) ?_
      intro H hO
      refine gM 1 lo2 1 0 (eI s.2.1) (eI (0 : Int)) [(eI s.2.1)] [(lo1, 1, [(eL aE s.2.2)]), (lo2, 1, [(eI (0 : Int))]), (lo3, 1, [(eL aE s.2.2)])] hO rfl (by kernel_rfl) ?_
      intro H hO
      refine cF ?_
      replace hO := hO.pick (L' := [(lo1, 1, [(eL aE s.2.2)]), (lo2, 1, [(eI (0 : Int))])]) [0, 1] (by decide) (by kernel_rfl)
      refine bR [6] [] ?_
      refine bL ?_
      obtain rfl := oI h0
      have hD := (hO.gm 0 _ rfl).2
      replace hO := (hO.tT .dead).tI
      exact aK (QM1 (.inr rfl) hD (rs := [.cell 4 45, .cell 5 24]) (xs := [(eL aE s.2.2), (eI (0 : Int))]) (x := (.tup [(eL aE s.2.2), (eI (0 : Int))])) (by kernel_rfl) (vP (lo := lo1) (k := 1) (y := (eL aE s.2.2)) (x := (eL aE s.2.2)) 0 hO (by kernel_rfl) (by kernel_rfl) (by kernel_rfl) (by kernel_rfl) (vP (lo := lo2) (k := 1) (y := (eI (0 : Int))) (x := (eI (0 : Int))) 1 hO (by kernel_rfl) (by kernel_rfl) (by kernel_rfl) (by kernel_rfl) qC)) (by kernel_rfl) ⟨rfl, hO.out⟩)
    · dsimp only [Sum.elim_inr] at hi
      obtain ⟨lo7, rfl⟩ := hi
      replace h0 : (some (s.1, s.2.1)) = some r := h0
      obtain ⟨hlL, hO⟩ := pK hO
      refine ⟨_, _, hlL, (by intro e; cases e), ?_⟩
      refine bL ?_
      replace hO := hO.pick (L' := [(lo1, 1, [(eL aE s.1)]), (lo2, 1, [(eI s.2.1)])]) [0, 1] (by decide) (by kernel_rfl)
      obtain rfl := oI h0
      have hD := (hO.gm 0 _ rfl).2
      replace hO := (hO.tT .dead).tI
      exact aK (bY (bC (QM1 (.inr rfl) hD (rs := [.cell 4 45, .cell 5 24]) (xs := [(eL aE s.1), (eI s.2.1)]) (x := (.tup [(eL aE s.1), (eI s.2.1)])) (by kernel_rfl) (vP (lo := lo1) (k := 1) (y := (eL aE s.1)) (x := (eL aE s.1)) 0 hO (by kernel_rfl) (by kernel_rfl) (by kernel_rfl) (by kernel_rfl) (vP (lo := lo2) (k := 1) (y := (eI s.2.1)) (x := (eI s.2.1)) 1 hO (by kernel_rfl) (by kernel_rfl) (by kernel_rfl) (by kernel_rfl) qC)) (by kernel_rfl) ⟨rfl, hO.out⟩)))

theorem sR (s0 : (List aB)) (f1_f : Nat) (f1_a f1_c : List V) (f1 : aB → Option Bool) (f1_h : ∀ a0 r, f1 a0 = some r → bS Try.prog f1_f (f1_a ++ [(aD a0)] ++ f1_c) (aL r)) (r : Int) (h0 : fI s0 f1 = some r) : bS Try.prog 132 [(eL aD s0), (.fn (.func f1_f) f1_a f1_c)] (eI r) := by
  intro H0
  refine cG Try.func132 ?_
  have hO := aO.start H0
  unfold fI at h0
  refine aZ aH 1 [] [] ?_
  refine cT (fun T H => Has T [] ∧ aO ⟨H0, [], []⟩ H [] ∧ dM f1  = some r) ?_ ?_
  · clear hO h0
    rintro T H ⟨hT, hO, h0⟩
    refine bB hT ?_
    clear hT
    unfold dM at h0
    refine bW aH 1 [(4, (eI (-1 : Int)))] ?_
    refine bL ?_
    obtain rfl := oI h0
    exact aK (Q_r hO)
  refine aZ aH 3 [] [(7, (eI (lN s0))), (8, (eI (0 : Int)))] ?_
  refine bQ 0 ?_
  refine cO [(0, (eL aD s0)), (1, (.fn (.func f1_f) f1_a f1_c)), (7, (eI (lN s0))), (8, (eI (0 : Int)))] ?_
  refine cK (fun T H => ∃ t7 : Int, ∃ t8 : Int, Has T [(0, (eL aD s0)), (1, (.fn (.func f1_f) f1_a f1_c)), (7, (eI t7)), (8, (eI t8))] ∧ aO ⟨H0, [], []⟩ H [] ∧ fB f1 s0 t7 t8 = some r) ?_ ⟨(lN s0), (0 : Int), .eq (by kernel_rfl), hO, h0⟩
  clear hO h0
  rintro T H ⟨t7, t8, hT, hO, h0⟩
  refine bB hT ?_
  clear hT
  unfold fB at h0
  obtain ⟨rr0, hl0, h0⟩ := aW h0
  refine cA (by kernel_rfl) (fun (s : Int) T H => Has T [(0, (eL aD s0)), (1, (.fn (.func f1_f) f1_a f1_c)), (7, (eI t7)), (8, (eI s))] ∧ aO ⟨H0, [], []⟩ H []) hl0 ⟨.eq (by kernel_rfl), hO⟩ ?_
  clear hO
  rintro k0 s out1 T H ⟨hT, hO⟩ h1 ho0
  obtain ⟨t8, rfl⟩ : ∃ x, x = s := ⟨_, rfl⟩
  replace h1 : fA f1 s0 t7 t8 = some out1 := h1
  refine bB hT ?_
  clear hT
  unfold fA at h1
  refine aZ aH 1 [] [(9, (aL (decide (t8 < t7))))] ?_
  refine aR ?_
  refine bM h1 (fun h1 => ?_) (fun h1 => ?_)
  · refine bN ?_
    refine bH [(0, (eL aD s0)), (1, (.fn (.func f1_f) f1_a f1_c)), (7, (eI t7)), (8, (eI t8))] ?_
    refine aR ?_
    refine bQ 1 ?_
    refine aZ aH 2 [] [(5, (eI t8))] ?_
    refine aR ?_
    refine aT aH 6 ?_
    obtain ⟨c2, h1⟩ := bJ h1
    refine pS 5 [0 ≤ t8 ∧ t8 < (lN s0)] ⟨c2, trivial⟩ ?_
    obtain ⟨x3, hx4, h1⟩ := aW h1
    refine cM (f1_h (gD s0 t8) _ hx4) hO ?_
    intro H hO
    refine cF ?_
    refine bR [] [(16, (aL x3))] ?_
    refine bM h1 (fun h1 => ?_) (fun h1 => ?_)
    · refine bW aH 2 [(4, (eI t8))] ?_
      refine bL ?_
      obtain rfl := oI h1
      obtain rfl : _ = rr0 := ho0
      replace h0 : some t8 = some r := h0
      obtain rfl := oI h0
      exact aK (bY (bC (bC (bY (bC (Q_r hO))))))
    refine bN ?_
    refine dF [(0, (eL aD s0)), (1, (.fn (.func f1_f) f1_a f1_c)), (7, (eI t7)), (8, (eI t8))] ?_
    refine aK (aV (aI (?_)))
    refine aT aH 2 ?_
    refine bD ?_
    exact aK (aI (⟨rfl, _, (oI h1).symm, .eq (by kernel_rfl), hO⟩))
  refine dS 0 ?_
  obtain rfl := oI h1
  obtain rfl : _ = rr0 := ho0
  replace h0 : dM f1  = some r := h0
  exact aK (aY (aY (bO (aI (⟨rfl, .eq (by kernel_rfl), hO, h0⟩)))))

theorem mA (s0 : (List aB)) (f1_f : Nat) (f1_a f1_c : List V) (f1 : aB → Option Bool) (f1_h : ∀ a0 r, f1 a0 = some r → bS Try.prog f1_f (f1_a ++ [(aD a0)] ++ f1_c) (aL r)) (r : Bool) (h0 : cQ s0 f1 = some r) : bS Try.prog 107 [(eL aD s0), (.fn (.func f1_f) f1_a f1_c)] (aL r) := by
  intro H0
  refine cG Try.func107 ?_
  have hO := aO.start H0
  unfold cQ at h0
  refine aZ aH 1 [] [] ?_
  refine aR ?_
  refine aT aH 5 ?_
  refine bK 2 ?_
  obtain ⟨x1, hx2, h0⟩ := aW h0
  refine cM (sR s0 f1_f f1_a f1_c f1 f1_h _ hx2) hO ?_
  intro H hO
  refine bD ?_
  refine bH [(4, (aL (decide ((0 : Int) ≤ x1))))] ?_
  refine bL ?_
  obtain rfl := oI h0
  exact aK (Q_r hO)

theorem GC (n0 : Int) (r : Bool) (h0 : uI n0 = some r) : bS Try.prog 109 [(eI n0)] (aL r) := by
  intro H0
  refine cG Try.func109 ?_
  have hO := aO.start H0
  unfold uI at h0
  refine aZ aH 1 [] [] ?_
  refine bW aH 7 [(2, (aL ((decide (n0 ≤ (1048576 : Int))) && (decide ((-1048576 : Int) ≤ n0)))))] ?_
  refine bL ?_
  obtain rfl := oI h0
  exact aK (Q_r hO)

theorem MB (j0 : aB) (r : Bool) (h0 : rB j0 = some r) : bS Try.prog 108 [(aD j0)] (aL r) := by
  intro H0
  refine cG Try.func108 ?_
  have hO := aO.start H0
  unfold rB at h0
  refine aR ?_
  refine aT aH 2 ?_
  refine gN 2 (aD j0) (by kernel_rfl) (by kernel_rfl) ?_
  refine bD ?_
  refine bH [(1, (.rp (aD j0)))] ?_
  refine aR ?_
  refine aT aH 5 ?_
  refine bK 2 ?_
  obtain ⟨x1, hx2, h0⟩ := aW h0
  refine cM (GC j0.Net _ hx2) hO ?_
  intro H hO
  refine bD ?_
  refine bH [(2, (aL (!x1)))] ?_
  refine bL ?_
  obtain rfl := oI h0
  exact aK (Q_r hO)

theorem MA (j0 : aB) (r : Bool) (h0 : rI j0 = some r) : bS Try.prog 110 [(aD j0)] (aL r) := by
  intro H0
  refine cG Try.func110 ?_
  have hO := aO.start H0
  unfold rI at h0
  refine aR ?_
  refine aT aH 2 ?_
  refine gN 2 (aD j0) (by kernel_rfl) (by kernel_rfl) ?_
  refine bD ?_
  refine bH [(1, (.rp (aD j0)))] ?_
  refine bW aH 9 [(2, (aL ((decide (j0.At < (-1 : Int))) || (decide ((1125899906842624 : Int) < j0.At)))))] ?_
  refine bL ?_
  obtain rfl := oI h0
  exact aK (Q_r hO)

theorem vI (s0 : (List aB)) (r : (List aB)) (h0 : eO s0 = some r) : yR Try.prog 111 [(eL aD s0)] (fun lo => (.msl 2 lo 0 (List.length r))) 2 (List.map aD r) := by
  intro H0
  refine cG Try.func111 ?_
  have hO := aO.start H0
  unfold eO at h0
  refine aZ aH 1 [] [] ?_
  refine aR ?_
  refine aR ?_
  refine aT aH 2 ?_
  refine bK 1 ?_
  refine YJ false (List.length s0) (fun i => aD (List.getD s0 i default)) (by kernel_rfl) (by kernel_rfl) ?_
  intro b1 hn2
  refine cF ?_
  refine bR [] [(4, (aL b1))] ?_
  refine nI (b1) (fun hc3 => ?_) (fun hc3 => ?_)
  · replace h0 : some ([] : List aB) = some r := by
      have hl := List.eq_nil_of_length_eq_zero (hn2 hc3)
      rw [hl] at h0
      exact (bJ h0).2
    refine bW aH 1 [(2, (.sl true 0 (fun _ => .bad)))] ?_
    refine bL ?_
    refine dF [(2, (.sl true 0 (fun _ => .bad)))] ?_
    refine VF (el := (fun _ => .bad)) 0 2 2 hO (by kernel_rfl) ?_
    intro lo4 H5 hO
    obtain rfl := oI h0
    exact aK (bC (pF (x := (.msl 2 lo4 0 (List.length ([] : List aB)))) (by kernel_rfl) (aX.refl _) ⟨lo4, rfl, hO⟩))
  · refine bN ?_
    refine bH [(0, (eL aD s0))] ?_
    refine aR ?_
    refine aT aH 4 ?_
    refine qL (xs := []) (k := 2) (by kernel_rfl) (by kernel_rfl) ?_
    refine bK 2 ?_
    obtain ⟨c7, h0⟩ := bJ h0
    refine RV (e := aD) s0 (fun _ => .bad) 2 16 (eL aD s0) (fun lo6 => [(lo6, 2, List.map aD s0)]) (by kernel_rfl) (by kernel_rfl) hO (BM (fun _ => by kernel_rfl)) c7 (fun _ => by kernel_rfl) ?_
    intro lo6 H hO
    refine bD ?_
    refine bH [(2, (.msl 2 lo6 0 (List.length s0)))] ?_
    refine bL ?_
    obtain rfl := oI h0
    exact aK (pF (x := (.msl 2 lo6 0 (List.length s0))) (by kernel_rfl) (aX.refl _) ⟨lo6, rfl, hO⟩)

theorem mO (lo0p : Nat) (aA : (List aB)) (a1 : Int) (b2 : Int) (cmp3_f : Nat) (cmp3_a cmp3_c : List V) (cmp3 : aB → aB → Option Int) (cmp3_h : ∀ a0 a1 r, cmp3 a0 a1 = some r → bS Try.prog cmp3_f (cmp3_a ++ [(aD a0), (aD a1)] ++ cmp3_c) (eI r)) (r : List aB) (h0 : dI aA a1 b2 cmp3 = some r) : kQ Try.prog 140 lo0p 2 (List.map aD aA) (List.map aD r) [(.msl 2 lo0p 0 (List.length aA)), (eI a1), (eI b2), (.fn (.func cmp3_f) cmp3_a cmp3_c)] (.tup []) := by
  intro H0 hl0
  refine cG Try.func140 ?_
  have hO := aO.pE hl0
  clear hl0
  obtain ⟨N0, hN0⟩ : ∃ n, n = List.length aA := ⟨_, rfl⟩
  have hN : List.length aA = N0 := hN0.symm
  unfold dI at h0
  refine aZ aH 3 [] [(8, (eI (wR (a1 + (1 : Int)))))] ?_
  refine bQ 0 ?_
  refine cO [(0, (.msl 2 lo0p 0 (List.length aA))), (1, (eI a1)), (2, (eI b2)), (3, (.fn (.func cmp3_f) cmp3_a cmp3_c)), (8, (eI (wR (a1 + (1 : Int)))))] ?_
  refine cK (fun T H => ∃ aA : List aB, ∃ i8 : Int, Has T [(0, (.msl 2 lo0p 0 (List.length aA))), (1, (eI a1)), (2, (eI b2)), (3, (.fn (.func cmp3_f) cmp3_a cmp3_c)), (8, (eI i8))] ∧ aO ⟨H0, [lo0p], []⟩ H [(lo0p, 2, List.map aD aA)] ∧ List.length aA = N0 ∧ iJ cmp3 aA a1 b2 i8 = some r) ?_ ⟨aA, wR (a1 + (1 : Int)), .eq (by kernel_rfl), hO, hN, h0⟩
  clear hO hN h0
  rintro T H ⟨aA, i8, hT, hO, hN, h0⟩
  refine bB hT ?_
  clear hT
  unfold iJ at h0
  obtain ⟨rr0, hl0, h0⟩ := aW h0
  refine cA (by kernel_rfl) (fun (s : List aB × Int) T H => Has T [(0, (.msl 2 lo0p 0 (List.length s.1))), (1, (eI a1)), (2, (eI b2)), (3, (.fn (.func cmp3_f) cmp3_a cmp3_c)), (8, (eI s.2))] ∧ aO ⟨H0, [lo0p], []⟩ H [(lo0p, 2, List.map aD s.1)] ∧ List.length s.1 = N0) hl0 ⟨.eq (by kernel_rfl), hO, hN⟩ ?_
  clear hO hN
  rintro k0 s out1 T H ⟨hT, hO, hN⟩ h1 ho0
  obtain ⟨aA, i8⟩ := s
  replace h1 : iH cmp3 a1 b2 aA i8 = some out1 := h1
  try dsimp only at hT
  refine bB hT ?_
  clear hT
  unfold iH at h1
  refine aR ?_
  refine aZ aH 3 [] [(14, (aL (decide (i8 < b2))))] ?_
  refine bM h1 (fun h1 => ?_) (fun h1 => ?_)
  · refine bN ?_
    refine bH [(0, (.msl 2 lo0p 0 (List.length aA))), (1, (eI a1)), (2, (eI b2)), (3, (.fn (.func cmp3_f) cmp3_a cmp3_c)), (8, (eI i8))] ?_
    refine cT (fun T H => ∃ aA : List aB, Has T [(0, (.msl 2 lo0p 0 (List.length aA))), (1, (eI a1)), (2, (eI b2)), (3, (.fn (.func cmp3_f) cmp3_a cmp3_c)), (8, (eI i8))] ∧ aO ⟨H0, [lo0p], []⟩ H [(lo0p, 2, List.map aD aA)] ∧ List.length aA = N0 ∧ eM cmp3 aA a1 b2 i8 = some out1) ?_ ?_
    · clear hO hN h1
      rintro T H ⟨aA, hT, hO, hN, h1⟩
      refine bB hT ?_
      clear hT
      unfold eM at h1
      refine aT aH 3 ?_
      refine bD ?_
      exact aK (aI (⟨rfl, _, (oI h1).symm, .eq (by kernel_rfl), hO, hN⟩))
    refine bQ 1 ?_
    refine aZ aH 2 [] [(9, (eI i8))] ?_
    refine bQ 2 ?_
    refine cO [(0, (.msl 2 lo0p 0 (List.length aA))), (1, (eI a1)), (2, (eI b2)), (3, (.fn (.func cmp3_f) cmp3_a cmp3_c)), (8, (eI i8)), (9, (eI i8))] ?_
    refine cK (fun T H => ∃ aA : List aB, ∃ j9 : Int, Has T [(0, (.msl 2 lo0p 0 (List.length aA))), (1, (eI a1)), (2, (eI b2)), (3, (.fn (.func cmp3_f) cmp3_a cmp3_c)), (8, (eI i8)), (9, (eI j9))] ∧ aO ⟨H0, [lo0p], []⟩ H [(lo0p, 2, List.map aD aA)] ∧ List.length aA = N0 ∧ iO cmp3 aA a1 b2 i8 j9 = some out1) ?_ ⟨aA, i8, .eq (by kernel_rfl), hO, hN, h1⟩
    clear hO hN h1
    rintro T H ⟨aA, j9, hT, hO, hN, h1⟩
    refine bB hT ?_
    clear hT
    unfold iO at h1
    obtain ⟨rr1, hl1, h1⟩ := aW h1
    refine cA (by kernel_rfl) (fun (s : List aB × Int) T H => Has T [(0, (.msl 2 lo0p 0 (List.length s.1))), (1, (eI a1)), (2, (eI b2)), (3, (.fn (.func cmp3_f) cmp3_a cmp3_c)), (8, (eI i8)), (9, (eI s.2))] ∧ aO ⟨H0, [lo0p], []⟩ H [(lo0p, 2, List.map aD s.1)] ∧ List.length s.1 = N0) hl1 ⟨.eq (by kernel_rfl), hO, hN⟩ ?_
    clear hO hN
    rintro k1 s out2 T H ⟨hT, hO, hN⟩ h2 ho1
    obtain ⟨aA, j9⟩ := s
    replace h2 : iL cmp3 a1 b2 i8 aA j9 = some out2 := h2
    try dsimp only at hT
    refine bB hT ?_
    clear hT
    unfold iL at h2
    refine aR ?_
    refine aR ?_
    obtain ⟨c2, h2⟩ := bJ h2
    obtain ⟨c3, h2⟩ := bJ h2
    obtain ⟨x4, hx5, h2⟩ := aW h2
    refine iV (iU []) aH 17 ?_
    refine EO (K := fun T H => Has (lift T) [(0, (.msl 2 lo0p 0 (List.length aA))), (1, (eI a1)), (2, (eI b2)), (3, (.fn (.func cmp3_f) cmp3_a cmp3_c)), (8, (eI i8)), (9, (eI j9)), (34, (aL ((decide (a1 < j9)) && (decide (x4 < (0 : Int))))))] ∧ aO ⟨H0, [lo0p], []⟩ H [(lo0p, 2, List.map aD aA)]) ?_ ?_
    · refine nM 4 ?_
      refine FB (t := 21) (e := decide (a1 < j9)) (by kernel_rfl) (fun hg6 => ?_) (fun hg6 => ?_)
      · refine dG 8 [0 ≤ j9 ∧ j9 < (lN aA)] ⟨(c2 hg6), trivial⟩ ?_
        refine zC 0 lo0p 2 (0 + Int.toNat j9) (aD (gD aA j9)) (aD (gD aA j9)) (List.map aD aA) (by kernel_rfl) (by kernel_rfl) (by kernel_rfl) hO (by kernel_rfl) (cN (c2 hg6)) ?_
        refine dG 13 [0 ≤ (wR (j9 - (1 : Int))) ∧ (wR (j9 - (1 : Int))) < (lN aA)] ⟨(c3 hg6), trivial⟩ ?_
        refine zC 0 lo0p 2 (0 + Int.toNat (wR (j9 - (1 : Int)))) (aD (gD aA (wR (j9 - (1 : Int))))) (aD (gD aA (wR (j9 - (1 : Int))))) (List.map aD aA) (by kernel_rfl) (by kernel_rfl) (by kernel_rfl) hO (by kernel_rfl) (cN (c3 hg6)) ?_
        refine JH cmp3_f (cmp3_a ++ [(aD (gD aA j9)), (aD (gD aA (wR (j9 - (1 : Int)))))] ++ cmp3_c) (eI x4) (by kernel_rfl) (by kernel_rfl) (cmp3_h (gD aA j9) (gD aA (wR (j9 - (1 : Int)))) _ (fG hx5 hg6)) hO ?_
        intro H hO
        refine nL ?_
        exact ⟨⟨[(0, (.msl 2 lo0p 0 (List.length aA))), (1, (eI a1)), (2, (eI b2)), (3, (.fn (.func cmp3_f) cmp3_a cmp3_c)), (8, (eI i8)), (9, (eI j9)), (34, (aL (decide (x4 < (0 : Int)))))], by kernel_rfl, rfl, ⟨aX.refl _, aX.refl _, aX.refl _, aX.refl _, aX.refl _, aX.refl _, aX.eq (congrArg aL (FI hg6 rfl).symm), trivial⟩⟩, hO⟩
      refine nL ?_
      exact ⟨⟨[(0, (.msl 2 lo0p 0 (List.length aA))), (1, (eI a1)), (2, (eI b2)), (3, (.fn (.func cmp3_f) cmp3_a cmp3_c)), (8, (eI i8)), (9, (eI j9)), (34, (aL false))], by kernel_rfl, rfl, ⟨aX.refl _, aX.refl _, aX.refl _, aX.refl _, aX.refl _, aX.refl _, aX.eq (congrArg aL (FI hg6 rfl).symm), trivial⟩⟩, hO⟩
    · rintro T H ⟨hT, hO⟩
      refine cS hT ?_
      clear hT
      refine aK (aI ?_)
      refine bM h2 (fun h2 => ?_) (fun h2 => ?_)
      · refine bN ?_
        refine bH [(0, (.msl 2 lo0p 0 (List.length aA))), (1, (eI a1)), (2, (eI b2)), (3, (.fn (.func cmp3_f) cmp3_a cmp3_c)), (8, (eI i8)), (9, (eI j9))] ?_
        refine aR ?_
        refine bQ 3 ?_
        refine iV (iU []) aH 18 ?_
        obtain ⟨c8, h2⟩ := bJ h2
        refine dG 9 [0 ≤ (wR (j9 - (1 : Int))) ∧ (wR (j9 - (1 : Int))) < (lN aA)] ⟨c8, trivial⟩ ?_
        refine kH 0 lo0p 2 (0 + Int.toNat (wR (j9 - (1 : Int)))) (aD (gD aA (wR (j9 - (1 : Int))))) (aD (gD aA (wR (j9 - (1 : Int))))) (List.map aD aA) hO (cN c8) ?_
        obtain ⟨c9, h2⟩ := bJ h2
        refine dG 13 [0 ≤ j9 ∧ j9 < (lN aA)] ⟨c9, trivial⟩ ?_
        refine kH 0 lo0p 2 (0 + Int.toNat j9) (aD (gD aA j9)) (aD (gD aA j9)) (List.map aD aA) hO (cN c9) ?_
        obtain ⟨c10, h2⟩ := bJ h2
        refine dG 15 [0 ≤ j9 ∧ j9 < (lN aA)] ⟨c10, trivial⟩ ?_
        refine qJ 0 lo0p 2 (0 + Int.toNat j9) (aD (gD aA j9)) (aD (gD aA (wR (j9 - (1 : Int))))) (List.map aD aA) [(lo0p, 2, List.map aD (List.set aA (Int.toNat j9) (gD aA (wR (j9 - (1 : Int))))))] hO (cN c10) (by simp only [List.set, nA]) ?_
        intro H hO
        replace hN : List.length (List.set aA (Int.toNat j9) (gD aA (wR (j9 - (1 : Int))))) = N0 := by simpa using hN
        obtain ⟨c11, h2⟩ := bJ h2
        refine dG 17 [0 ≤ (wR (j9 - (1 : Int))) ∧ (wR (j9 - (1 : Int))) < (lN aA)] ⟨c11, trivial⟩ ?_
        refine qJ 0 lo0p 2 (0 + Int.toNat (wR (j9 - (1 : Int)))) (aD (gD (List.set aA (Int.toNat j9) (gD aA (wR (j9 - (1 : Int))))) (wR (j9 - (1 : Int))))) (aD (gD aA j9)) (List.map aD (List.set aA (Int.toNat j9) (gD aA (wR (j9 - (1 : Int)))))) [(lo0p, 2, List.map aD (List.set (List.set aA (Int.toNat j9) (gD aA (wR (j9 - (1 : Int))))) (Int.toNat (wR (j9 - (1 : Int)))) (gD aA j9)))] hO (vS c11 (by simp [])) (by simp only [List.set, nA]) ?_
        intro H hO
        replace hN : List.length (List.set (List.set aA (Int.toNat j9) (gD aA (wR (j9 - (1 : Int))))) (Int.toNat (wR (j9 - (1 : Int)))) (gD aA j9)) = N0 := by simpa using hN
        refine wL (by kernel_rfl) ?_
        refine cS (l := [(0, (.msl 2 lo0p 0 (List.length (List.set (List.set aA (Int.toNat j9) (gD aA (wR (j9 - (1 : Int))))) (Int.toNat (wR (j9 - (1 : Int)))) (gD aA j9))))), (1, (eI a1)), (2, (eI b2)), (3, (.fn (.func cmp3_f) cmp3_a cmp3_c)), (8, (eI i8)), (9, (eI j9))]) ⟨[(0, (.msl 2 lo0p 0 (List.length aA))), (1, (eI a1)), (2, (eI b2)), (3, (.fn (.func cmp3_f) cmp3_a cmp3_c)), (8, (eI i8)), (9, (eI j9))], by kernel_rfl, rfl, ⟨aX.eq (by simp []), aX.refl _, aX.refl _, aX.refl _, aX.refl _, aX.refl _, trivial⟩⟩ ?_
        refine aK (aV (aI (?_)))
        refine aT aH 3 ?_
        refine bD ?_
        exact aK (aI (⟨rfl, _, (oI h2).symm, .eq (by kernel_rfl), hO, hN⟩))
      refine dS 2 ?_
      obtain rfl := oI h2
      obtain rfl : _ = rr1 := ho1
      replace h1 : eM cmp3 aA a1 b2 i8 = some out1 := h1
      exact aK (aY (aY (bO (aV (aI (⟨rfl, _, .eq (by kernel_rfl), hO, hN, h1⟩))))))
  refine dS 0 ?_
  obtain rfl := oI h1
  obtain rfl : _ = rr0 := ho0
  replace h0 : some aA = some r := h0
  obtain rfl := oI h0
  exact aK (aY (aY (bO (pT (x := (.tup [])) (by kernel_rfl) (aX.refl _) ⟨rfl, hO.ext, hO.at 0 (by kernel_rfl), by simp only [List.length_map]; exact hN.trans hN0⟩))))

theorem kL (lo0p : Nat) (aA : (List aB)) (a1 : Int) (b2 : Int) (n3 : Int) (cmp4_f : Nat) (cmp4_a cmp4_c : List V) (cmp4 : aB → aB → Option Int) (cmp4_h : ∀ a0 a1 r, cmp4 a0 a1 = some r → bS Try.prog cmp4_f (cmp4_a ++ [(aD a0), (aD a1)] ++ cmp4_c) (eI r)) (r : List aB) (h0 : dY aA a1 b2 n3 cmp4 = some r) : kQ Try.prog 145 lo0p 2 (List.map aD aA) (List.map aD r) [(.msl 2 lo0p 0 (List.length aA)), (eI a1), (eI b2), (eI n3), (.fn (.func cmp4_f) cmp4_a cmp4_c)] (.tup []) := by
  intro H0 hl0
  refine cG Try.func145 ?_
  have hO := aO.pE hl0
  clear hl0
  obtain ⟨N0, hN0⟩ : ∃ n, n = List.length aA := ⟨_, rfl⟩
  have hN : List.length aA = N0 := hN0.symm
  unfold dY at h0
  refine aZ aH 1 [4] [(10, (eI (0 : Int)))] ?_
  refine bQ 0 ?_
  refine cO [(0, (.msl 2 lo0p 0 (List.length aA))), (1, (eI a1)), (2, (eI b2)), (3, (eI n3)), (10, (eI (0 : Int)))] ?_
  refine cK (fun T H => ∃ aA : List aB, ∃ i10 : Int, Has T [(0, (.msl 2 lo0p 0 (List.length aA))), (1, (eI a1)), (2, (eI b2)), (3, (eI n3)), (10, (eI i10))] ∧ aO ⟨H0, [lo0p], []⟩ H [(lo0p, 2, List.map aD aA)] ∧ List.length aA = N0 ∧ jH cmp4 aA a1 b2 n3 i10 = some r) ?_ ⟨aA, (0 : Int), .eq (by kernel_rfl), hO, hN, h0⟩
  clear hO hN h0
  rintro T H ⟨aA, i10, hT, hO, hN, h0⟩
  refine bB hT ?_
  clear hT
  unfold jH at h0
  obtain ⟨rr0, hl0, h0⟩ := aW h0
  refine cA (by kernel_rfl) (fun (s : List aB × Int) T H => Has T [(0, (.msl 2 lo0p 0 (List.length s.1))), (1, (eI a1)), (2, (eI b2)), (3, (eI n3)), (10, (eI s.2))] ∧ aO ⟨H0, [lo0p], []⟩ H [(lo0p, 2, List.map aD s.1)] ∧ List.length s.1 = N0) hl0 ⟨.eq (by kernel_rfl), hO, hN⟩ ?_
  clear hO hN
  rintro k0 s out1 T H ⟨hT, hO, hN⟩ h1 ho0
  obtain ⟨aA, i10⟩ := s
  replace h1 : jJ cmp4 a1 b2 n3 aA i10 = some out1 := h1
  try dsimp only at hT
  refine bB hT ?_
  clear hT
  unfold jJ at h1
  refine aR ?_
  refine aZ aH 3 [] [(13, (aL (decide (i10 < n3))))] ?_
  refine bM h1 (fun h1 => ?_) (fun h1 => ?_)
  · refine bN ?_
    refine bH [(0, (.msl 2 lo0p 0 (List.length aA))), (1, (eI a1)), (2, (eI b2)), (3, (eI n3)), (10, (eI i10))] ?_
    refine aR ?_
    refine bQ 1 ?_
    refine iV (iU []) aH 24 ?_
    obtain ⟨c2, h1⟩ := bJ h1
    refine dG 13 [0 ≤ (wR (b2 + i10)) ∧ (wR (b2 + i10)) < (lN aA)] ⟨c2, trivial⟩ ?_
    refine kH 0 lo0p 2 (0 + Int.toNat (wR (b2 + i10))) (aD (gD aA (wR (b2 + i10)))) (aD (gD aA (wR (b2 + i10)))) (List.map aD aA) hO (cN c2) ?_
    obtain ⟨c3, h1⟩ := bJ h1
    refine dG 19 [0 ≤ (wR (a1 + i10)) ∧ (wR (a1 + i10)) < (lN aA)] ⟨c3, trivial⟩ ?_
    refine kH 0 lo0p 2 (0 + Int.toNat (wR (a1 + i10))) (aD (gD aA (wR (a1 + i10)))) (aD (gD aA (wR (a1 + i10)))) (List.map aD aA) hO (cN c3) ?_
    obtain ⟨c4, h1⟩ := bJ h1
    refine dG 21 [0 ≤ (wR (a1 + i10)) ∧ (wR (a1 + i10)) < (lN aA)] ⟨c4, trivial⟩ ?_
    refine qJ 0 lo0p 2 (0 + Int.toNat (wR (a1 + i10))) (aD (gD aA (wR (a1 + i10)))) (aD (gD aA (wR (b2 + i10)))) (List.map aD aA) [(lo0p, 2, List.map aD (List.set aA (Int.toNat (wR (a1 + i10))) (gD aA (wR (b2 + i10)))))] hO (cN c4) (by simp only [List.set, nA]) ?_
    intro H hO
    replace hN : List.length (List.set aA (Int.toNat (wR (a1 + i10))) (gD aA (wR (b2 + i10)))) = N0 := by simpa using hN
    obtain ⟨c5, h1⟩ := bJ h1
    refine dG 23 [0 ≤ (wR (b2 + i10)) ∧ (wR (b2 + i10)) < (lN aA)] ⟨c5, trivial⟩ ?_
    refine qJ 0 lo0p 2 (0 + Int.toNat (wR (b2 + i10))) (aD (gD (List.set aA (Int.toNat (wR (a1 + i10))) (gD aA (wR (b2 + i10)))) (wR (b2 + i10)))) (aD (gD aA (wR (a1 + i10)))) (List.map aD (List.set aA (Int.toNat (wR (a1 + i10))) (gD aA (wR (b2 + i10))))) [(lo0p, 2, List.map aD (List.set (List.set aA (Int.toNat (wR (a1 + i10))) (gD aA (wR (b2 + i10)))) (Int.toNat (wR (b2 + i10))) (gD aA (wR (a1 + i10)))))] hO (vS c5 (by simp [])) (by simp only [List.set, nA]) ?_
    intro H hO
    replace hN : List.length (List.set (List.set aA (Int.toNat (wR (a1 + i10))) (gD aA (wR (b2 + i10)))) (Int.toNat (wR (b2 + i10))) (gD aA (wR (a1 + i10)))) = N0 := by simpa using hN
    refine wL (by kernel_rfl) ?_
    refine cS (l := [(0, (.msl 2 lo0p 0 (List.length (List.set (List.set aA (Int.toNat (wR (a1 + i10))) (gD aA (wR (b2 + i10)))) (Int.toNat (wR (b2 + i10))) (gD aA (wR (a1 + i10))))))), (1, (eI a1)), (2, (eI b2)), (3, (eI n3)), (10, (eI i10))]) ⟨[(0, (.msl 2 lo0p 0 (List.length aA))), (1, (eI a1)), (2, (eI b2)), (3, (eI n3)), (10, (eI i10))], by kernel_rfl, rfl, ⟨aX.eq (by simp []), aX.refl _, aX.refl _, aX.refl _, aX.refl _, trivial⟩⟩ ?_
    refine aK (aV (aI (?_)))
    refine aT aH 3 ?_
    refine bD ?_
    exact aK (aI (⟨rfl, _, (oI h1).symm, .eq (by kernel_rfl), hO, hN⟩))
  refine dS 0 ?_
  obtain rfl := oI h1
  obtain rfl : _ = rr0 := ho0
  replace h0 : some aA = some r := h0
  obtain rfl := oI h0
  exact aK (aY (aY (bO (pT (x := (.tup [])) (by kernel_rfl) (aX.refl _) ⟨rfl, hO.ext, hO.at 0 (by kernel_rfl), by simp only [List.length_map]; exact hN.trans hN0⟩))))

theorem vX (lo0p : Nat) (aA : (List aB)) (a1 : Int) (m2 : Int) (b3 : Int) (cmp4_f : Nat) (cmp4_a cmp4_c : List V) (cmp4 : aB → aB → Option Int) (cmp4_h : ∀ a0 a1 r, cmp4 a0 a1 = some r → bS Try.prog cmp4_f (cmp4_a ++ [(aD a0), (aD a1)] ++ cmp4_c) (eI r)) (r : List aB) (h0 : lO aA a1 m2 b3 cmp4 = some r) : kQ Try.prog 144 lo0p 2 (List.map aD aA) (List.map aD r) [(.msl 2 lo0p 0 (List.length aA)), (eI a1), (eI m2), (eI b3), (.fn (.func cmp4_f) cmp4_a cmp4_c)] (.tup []) := by
  intro H0 hl0
  refine cG Try.func144 ?_
  have hO := aO.pE hl0
  clear hl0
  obtain ⟨N0, hN0⟩ : ∃ n, n = List.length aA := ⟨_, rfl⟩
  have hN : List.length aA = N0 := hN0.symm
  unfold lO at h0
  refine aZ aH 4 [1] [(10, (eI (wR (m2 - a1))))] ?_
  refine aZ aH 4 [3] [(11, (eI (wR (b3 - m2))))] ?_
  refine cT (fun T H => ∃ aA : List aB, ∃ i10 : Int, Has T [(0, (.msl 2 lo0p 0 (List.length aA))), (2, (eI m2)), (4, (.fn (.func cmp4_f) cmp4_a cmp4_c)), (10, (eI i10))] ∧ aO ⟨H0, [lo0p], []⟩ H [(lo0p, 2, List.map aD aA)] ∧ List.length aA = N0 ∧ gX cmp4 aA m2 i10 = some r) ?_ ?_
  · clear hO hN h0
    rintro T H ⟨aA, i10, hT, hO, hN, h0⟩
    refine bB hT ?_
    clear hT
    unfold gX at h0
    refine aT aH 8 ?_
    refine bK 7 ?_
    obtain ⟨x1, hx2, h0⟩ := aW h0
    refine nN [(lo0p, 2, List.map aD x1)] 0 (kL lo0p aA (wR (m2 - i10)) m2 i10 cmp4_f cmp4_a cmp4_c cmp4 cmp4_h _ hx2) hO ?_
    intro H hO hl3
    simp only [List.length_map] at hl3
    replace hN := hl3.trans hN
    refine cF ?_
    refine cS (l := [(0, (.msl 2 lo0p 0 (List.length x1)))]) ⟨[(0, (.msl 2 lo0p 0 (List.length aA)))], by kernel_rfl, rfl, ⟨aX.eq (by simp [hl3]), trivial⟩⟩ ?_
    obtain rfl := oI h0
    exact aK (pT (x := (.tup [])) (by kernel_rfl) (aX.refl _) ⟨rfl, hO.ext, hO.at 0 (by kernel_rfl), by simp only [List.length_map]; exact hN.trans hN0⟩)
  refine bQ 0 ?_
  refine cO [(0, (.msl 2 lo0p 0 (List.length aA))), (2, (eI m2)), (4, (.fn (.func cmp4_f) cmp4_a cmp4_c)), (10, (eI (wR (m2 - a1)))), (11, (eI (wR (b3 - m2))))] ?_
  refine cK (fun T H => ∃ aA : List aB, ∃ i10 : Int, ∃ j11 : Int, Has T [(0, (.msl 2 lo0p 0 (List.length aA))), (2, (eI m2)), (4, (.fn (.func cmp4_f) cmp4_a cmp4_c)), (10, (eI i10)), (11, (eI j11))] ∧ aO ⟨H0, [lo0p], []⟩ H [(lo0p, 2, List.map aD aA)] ∧ List.length aA = N0 ∧ kY cmp4 aA m2 i10 j11 = some r) ?_ ⟨aA, wR (m2 - a1), wR (b3 - m2), .eq (by kernel_rfl), hO, hN, h0⟩
  clear hO hN h0
  rintro T H ⟨aA, i10, j11, hT, hO, hN, h0⟩
  refine bB hT ?_
  clear hT
  unfold kY at h0
  obtain ⟨rr0, hl0, h0⟩ := aW h0
  refine cA (by kernel_rfl) (fun (s : List aB × Int × Int) T H => Has T [(0, (.msl 2 lo0p 0 (List.length s.1))), (2, (eI m2)), (4, (.fn (.func cmp4_f) cmp4_a cmp4_c)), (10, (eI s.2.1)), (11, (eI s.2.2))] ∧ aO ⟨H0, [lo0p], []⟩ H [(lo0p, 2, List.map aD s.1)] ∧ List.length s.1 = N0) hl0 ⟨.eq (by kernel_rfl), hO, hN⟩ ?_
  clear hO hN
  rintro k0 s out1 T H ⟨hT, hO, hN⟩ h1 ho0
  obtain ⟨aA, i10, j11⟩ := s
  replace h1 : lC cmp4 m2 aA i10 j11 = some out1 := h1
  try dsimp only at hT
  refine bB hT ?_
  clear hT
  unfold lC at h1
  refine aR ?_
  refine aZ aH 3 [] [(20, (aL (!decide (i10 = j11))))] ?_
  refine bM h1 (fun h1 => ?_) (fun h1 => ?_)
  · refine bN ?_
    refine bH [(0, (.msl 2 lo0p 0 (List.length aA))), (2, (eI m2)), (4, (.fn (.func cmp4_f) cmp4_a cmp4_c)), (10, (eI i10)), (11, (eI j11))] ?_
    refine bQ 1 ?_
    refine aZ aH 3 [] [(23, (aL (decide (j11 < i10))))] ?_
    refine bM h1 (fun h1 => ?_) (fun h1 => ?_)
    · refine aR ?_
      refine aT aH 8 ?_
      refine bK 7 ?_
      obtain ⟨x6, hx7, h1⟩ := aW h1
      refine nN [(lo0p, 2, List.map aD x6)] 0 (kL lo0p aA (wR (m2 - i10)) m2 j11 cmp4_f cmp4_a cmp4_c cmp4 cmp4_h _ hx7) hO ?_
      intro H hO hl8
      simp only [List.length_map] at hl8
      replace hN := hl8.trans hN
      refine cF ?_
      refine cS (l := [(0, (.msl 2 lo0p 0 (List.length x6))), (2, (eI m2)), (4, (.fn (.func cmp4_f) cmp4_a cmp4_c)), (10, (eI i10)), (11, (eI j11))]) ⟨[(0, (.msl 2 lo0p 0 (List.length aA))), (2, (eI m2)), (4, (.fn (.func cmp4_f) cmp4_a cmp4_c)), (10, (eI i10)), (11, (eI j11))], by kernel_rfl, rfl, ⟨aX.eq (by simp [hl8]), aX.refl _, aX.refl _, aX.refl _, aX.refl _, trivial⟩⟩ ?_
      refine aK (aI (?_))
      refine aT aH 4 ?_
      refine bD ?_
      exact aK (aV (aI (⟨rfl, _, (oI h1).symm, .eq (by kernel_rfl), hO, hN⟩)))
    refine aR ?_
    refine aT aH 12 ?_
    refine bK 11 ?_
    obtain ⟨x9, hx10, h1⟩ := aW h1
    refine nN [(lo0p, 2, List.map aD x9)] 0 (kL lo0p aA (wR (m2 - i10)) (wR ((wR (m2 + j11)) - i10)) i10 cmp4_f cmp4_a cmp4_c cmp4 cmp4_h _ hx10) hO ?_
    intro H hO hl11
    simp only [List.length_map] at hl11
    replace hN := hl11.trans hN
    refine cF ?_
    refine cS (l := [(0, (.msl 2 lo0p 0 (List.length x9))), (2, (eI m2)), (4, (.fn (.func cmp4_f) cmp4_a cmp4_c)), (10, (eI i10)), (11, (eI j11))]) ⟨[(0, (.msl 2 lo0p 0 (List.length aA))), (2, (eI m2)), (4, (.fn (.func cmp4_f) cmp4_a cmp4_c)), (10, (eI i10)), (11, (eI j11))], by kernel_rfl, rfl, ⟨aX.eq (by simp [hl11]), aX.refl _, aX.refl _, aX.refl _, aX.refl _, trivial⟩⟩ ?_
    refine aK (aI (?_))
    refine aT aH 4 ?_
    refine bD ?_
    exact aK (aV (aI (⟨rfl, _, (oI h1).symm, .eq (by kernel_rfl), hO, hN⟩)))
  refine dS 0 ?_
  obtain rfl := oI h1
  obtain rfl : _ = rr0 := ho0
  replace h0 : gX cmp4 aA m2 i10 = some r := h0
  exact aK (aY (aY (bO (aI (⟨rfl, _, _, .eq (by kernel_rfl), hO, hN, h0⟩)))))

end Go.Abs
namespace Go.Abs
open Go Go.RowKit Go.Proofs
theorem rV (cmp4_f : Nat) (cmp4_a cmp4_c : List V) (cmp4 : aB → aB → Option Int) (cmp4_h : ∀ a0 a1 r, cmp4 a0 a1 = some r → bS Try.prog cmp4_f (cmp4_a ++ [(aD a0), (aD a1)] ++ cmp4_c) (eI r)) (rec : (List aB) → Int → Int → Int → Option (List aB)) (ih : ∀ (lo0p : Nat) (aA : (List aB)) (a1 : Int) (m2 : Int) (b3 : Int) (r : List aB), rec aA a1 m2 b3 = some r → kQ Try.prog 141 lo0p 2 (List.map aD aA) (List.map aD r) [(.msl 2 lo0p 0 (List.length aA)), (eI a1), (eI m2), (eI b3), (.fn (.func cmp4_f) cmp4_a cmp4_c)] (.tup [])) (lo0p : Nat) (aA : (List aB)) (a1 : Int) (m2 : Int) (b3 : Int) (r : List aB) (h0 : dQ cmp4 rec aA a1 m2 b3 = some r) : kQ Try.prog 141 lo0p 2 (List.map aD aA) (List.map aD r) [(.msl 2 lo0p 0 (List.length aA)), (eI a1), (eI m2), (eI b3), (.fn (.func cmp4_f) cmp4_a cmp4_c)] (.tup []) := by
  intro H0 hl0
  refine cG Try.func141 ?_
  have hO := aO.pE hl0
  clear hl0
  obtain ⟨N0, hN0⟩ : ∃ n, n = List.length aA := ⟨_, rfl⟩
  have hN : List.length aA = N0 := hN0.symm
  unfold dQ at h0
  refine cT (fun T H => ∃ aA : List aB, Has T [(0, (.msl 2 lo0p 0 (List.length aA))), (1, (eI a1)), (2, (eI m2)), (3, (eI b3)), (4, (.fn (.func cmp4_f) cmp4_a cmp4_c))] ∧ aO ⟨H0, [lo0p], []⟩ H [(lo0p, 2, List.map aD aA)] ∧ List.length aA = N0 ∧ kF cmp4 rec aA a1 m2 b3 = some r) ?_ ?_
  · clear hO hN h0
    rintro T H ⟨aA, hT, hO, hN, h0⟩
    refine bB hT ?_
    clear hT
    unfold kF at h0
    refine cT (fun T H => ∃ aA : List aB, Has T [(0, (.msl 2 lo0p 0 (List.length aA))), (1, (eI a1)), (2, (eI m2)), (3, (eI b3)), (4, (.fn (.func cmp4_f) cmp4_a cmp4_c))] ∧ aO ⟨H0, [lo0p], []⟩ H [(lo0p, 2, List.map aD aA)] ∧ List.length aA = N0 ∧ kI cmp4 rec aA a1 m2 b3 = some r) ?_ ?_
    · clear hO hN h0
      rintro T H ⟨aA, hT, hO, hN, h0⟩
      refine bB hT ?_
      clear hT
      unfold kI at h0
      refine aR ?_
      refine aT aH 7 ?_
      obtain ⟨c1, h0⟩ := bJ h0
      refine wB [0 ≤ (1 : Int)] ⟨c1, trivial⟩ ?_
      refine bR [] [(18, (eI (wR (Int.fdiv (IntKind.u64.wrap (wR (a1 + b3))) (2 ^ (min (Int.toNat (1 : Int)) 64))))))] ?_
      refine aZ aH 4 [] [(19, (eI (wR ((wR (Int.fdiv (IntKind.u64.wrap (wR (a1 + b3))) (2 ^ (min (Int.toNat (1 : Int)) 64)))) + m2))))] ?_
      refine aZ aH 2 [] [] ?_
      refine cT (fun T H => ∃ aA : List aB, ∃ bP : Int, ∃ n19 : Int, ∃ aS : Int, ∃ r21 : Int, Has T [(0, (.msl 2 lo0p 0 (List.length aA))), (1, (eI a1)), (2, (eI m2)), (3, (eI b3)), (4, (.fn (.func cmp4_f) cmp4_a cmp4_c)), (18, (eI bP)), (19, (eI n19)), (20, (eI aS)), (21, (eI r21))] ∧ aO ⟨H0, [lo0p], []⟩ H [(lo0p, 2, List.map aD aA)] ∧ List.length aA = N0 ∧ fU cmp4 rec aA a1 m2 b3 bP n19 aS r21 = some r) ?_ ?_
      · clear hO hN h0
        rintro T H ⟨aA, bP, n19, aS, r21, hT, hO, hN, h0⟩
        refine bB hT ?_
        clear hT
        unfold fU at h0
        refine aZ aH 3 [] [(22, (eI (wR (n19 - (1 : Int)))))] ?_
        refine cT (fun T H => ∃ aA : List aB, ∃ aS : Int, Has T [(0, (.msl 2 lo0p 0 (List.length aA))), (1, (eI a1)), (2, (eI m2)), (3, (eI b3)), (4, (.fn (.func cmp4_f) cmp4_a cmp4_c)), (18, (eI bP)), (19, (eI n19)), (20, (eI aS))] ∧ aO ⟨H0, [lo0p], []⟩ H [(lo0p, 2, List.map aD aA)] ∧ List.length aA = N0 ∧ fW cmp4 rec aA a1 m2 b3 bP n19 aS = some r) ?_ ?_
        · clear hO hN h0
          rintro T H ⟨aA, aS, hT, hO, hN, h0⟩
          refine bB hT ?_
          clear hT
          unfold fW at h0
          refine aZ aH 4 [19] [(24, (eI (wR (n19 - aS))))] ?_
          refine cT (fun T H => ∃ aA : List aB, ∃ dR : Int, Has T [(0, (.msl 2 lo0p 0 (List.length aA))), (1, (eI a1)), (3, (eI b3)), (4, (.fn (.func cmp4_f) cmp4_a cmp4_c)), (18, (eI bP)), (20, (eI aS)), (24, (eI dR))] ∧ aO ⟨H0, [lo0p], []⟩ H [(lo0p, 2, List.map aD aA)] ∧ List.length aA = N0 ∧ fS cmp4 rec aA a1 b3 bP aS dR = some r) ?_ ?_
          · clear hO hN h0
            rintro T H ⟨aA, dR, hT, hO, hN, h0⟩
            refine bB hT ?_
            clear hT
            unfold fS at h0
            refine cT (fun T H => ∃ aA : List aB, Has T [(0, (.msl 2 lo0p 0 (List.length aA))), (3, (eI b3)), (4, (.fn (.func cmp4_f) cmp4_a cmp4_c)), (18, (eI bP)), (24, (eI dR))] ∧ aO ⟨H0, [lo0p], []⟩ H [(lo0p, 2, List.map aD aA)] ∧ List.length aA = N0 ∧ fT cmp4 rec aA b3 bP dR = some r) ?_ ?_
            · clear hO hN h0
              rintro T H ⟨aA, hT, hO, hN, h0⟩
              refine bB hT ?_
              clear hT
              unfold fT at h0
              refine aZ aH 8 [] [(213, (aL ((decide (bP < dR)) && (decide (dR < b3)))))] ?_
              refine bM h0 (fun h0 => ?_) (fun h0 => ?_)
              · refine aT aH 6 ?_
                refine bK 5 ?_
                obtain ⟨x3, hx4, h0⟩ := aW h0
                refine nN [(lo0p, 2, List.map aD x3)] 0 (ih lo0p aA bP dR b3 _ hx4) hO ?_
                intro H hO hl5
                simp only [List.length_map] at hl5
                replace hN := hl5.trans hN
                refine cF ?_
                refine cS (l := [(0, (.msl 2 lo0p 0 (List.length x3)))]) ⟨[(0, (.msl 2 lo0p 0 (List.length aA)))], by kernel_rfl, rfl, ⟨aX.eq (by simp [hl5]), trivial⟩⟩ ?_
                obtain rfl := oI h0
                exact aK (pT (x := (.tup [])) (by kernel_rfl) (aX.refl _) ⟨rfl, hO.ext, hO.at 0 (by kernel_rfl), by simp only [List.length_map]; exact hN.trans hN0⟩)
              refine bN ?_
              obtain rfl := oI h0
              exact aK (pT (x := (.tup [])) (by kernel_rfl) (aX.refl _) ⟨rfl, hO.ext, hO.at 0 (by kernel_rfl), by simp only [List.length_map]; exact hN.trans hN0⟩)
            refine aZ aH 8 [] [(199, (aL ((decide (a1 < aS)) && (decide (aS < bP)))))] ?_
            refine bM h0 (fun h0 => ?_) (fun h0 => ?_)
            · refine aT aH 6 ?_
              refine bK 5 ?_
              obtain ⟨x7, hx8, h0⟩ := aW h0
              refine nN [(lo0p, 2, List.map aD x7)] 0 (ih lo0p aA a1 aS bP _ hx8) hO ?_
              intro H hO hl9
              simp only [List.length_map] at hl9
              replace hN := hl9.trans hN
              refine cF ?_
              refine cS (l := [(0, (.msl 2 lo0p 0 (List.length x7))), (3, (eI b3)), (4, (.fn (.func cmp4_f) cmp4_a cmp4_c)), (18, (eI bP)), (24, (eI dR))]) ⟨[(0, (.msl 2 lo0p 0 (List.length aA))), (3, (eI b3)), (4, (.fn (.func cmp4_f) cmp4_a cmp4_c)), (18, (eI bP)), (24, (eI dR))], by kernel_rfl, rfl, ⟨aX.eq (by simp [hl9]), aX.refl _, aX.refl _, aX.refl _, aX.refl _, trivial⟩⟩ ?_
              exact aK (aI (⟨rfl, _, .eq (by kernel_rfl), hO, hN, h0⟩))
            refine bN ?_
            exact aK (aI (⟨rfl, _, .eq (by kernel_rfl), hO, hN, h0⟩))
          refine aZ aH 8 [] [(185, (aL ((decide (aS < m2)) && (decide (m2 < (wR (n19 - aS)))))))] ?_
          refine bM h0 (fun h0 => ?_) (fun h0 => ?_)
          · refine aT aH 6 ?_
            refine bK 5 ?_
            obtain ⟨x11, hx12, h0⟩ := aW h0
            refine nN [(lo0p, 2, List.map aD x11)] 0 (vX lo0p aA aS m2 (wR (n19 - aS)) cmp4_f cmp4_a cmp4_c cmp4 cmp4_h _ hx12) hO ?_
            intro H hO hl13
            simp only [List.length_map] at hl13
            replace hN := hl13.trans hN
            refine cF ?_
            refine cS (l := [(0, (.msl 2 lo0p 0 (List.length x11))), (1, (eI a1)), (3, (eI b3)), (4, (.fn (.func cmp4_f) cmp4_a cmp4_c)), (18, (eI bP)), (20, (eI aS)), (24, (eI (wR (n19 - aS))))]) ⟨[(0, (.msl 2 lo0p 0 (List.length aA))), (1, (eI a1)), (3, (eI b3)), (4, (.fn (.func cmp4_f) cmp4_a cmp4_c)), (18, (eI bP)), (20, (eI aS)), (24, (eI (wR (n19 - aS))))], by kernel_rfl, rfl, ⟨aX.eq (by simp [hl13]), aX.refl _, aX.refl _, aX.refl _, aX.refl _, aX.refl _, aX.refl _, trivial⟩⟩ ?_
            exact aK (aI (⟨rfl, _, _, .eq (by kernel_rfl), hO, hN, h0⟩))
          refine bN ?_
          exact aK (aI (⟨rfl, _, _, .eq (by kernel_rfl), hO, hN, h0⟩))
        refine bQ 8 ?_
        refine cO [(0, (.msl 2 lo0p 0 (List.length aA))), (1, (eI a1)), (2, (eI m2)), (3, (eI b3)), (4, (.fn (.func cmp4_f) cmp4_a cmp4_c)), (18, (eI bP)), (19, (eI n19)), (20, (eI aS)), (21, (eI r21)), (22, (eI (wR (n19 - (1 : Int)))))] ?_
        refine cK (fun T H => ∃ aA : List aB, ∃ aS : Int, ∃ r21 : Int, ∃ p22 : Int, Has T [(0, (.msl 2 lo0p 0 (List.length aA))), (1, (eI a1)), (2, (eI m2)), (3, (eI b3)), (4, (.fn (.func cmp4_f) cmp4_a cmp4_c)), (18, (eI bP)), (19, (eI n19)), (20, (eI aS)), (21, (eI r21)), (22, (eI p22))] ∧ aO ⟨H0, [lo0p], []⟩ H [(lo0p, 2, List.map aD aA)] ∧ List.length aA = N0 ∧ kJ cmp4 rec aA a1 m2 b3 bP n19 aS r21 p22 = some r) ?_ ⟨aA, aS, r21, wR (n19 - (1 : Int)), .eq (by kernel_rfl), hO, hN, h0⟩
        clear hO hN h0
        rintro T H ⟨aA, aS, r21, p22, hT, hO, hN, h0⟩
        refine bB hT ?_
        clear hT
        unfold kJ at h0
        obtain ⟨rr0, hl0, h0⟩ := aW h0
        refine cA (by kernel_rfl) (fun (s : List aB × Int × Int) T H => Has T [(0, (.msl 2 lo0p 0 (List.length s.1))), (1, (eI a1)), (2, (eI m2)), (3, (eI b3)), (4, (.fn (.func cmp4_f) cmp4_a cmp4_c)), (18, (eI bP)), (19, (eI n19)), (20, (eI s.2.1)), (21, (eI s.2.2)), (22, (eI p22))] ∧ aO ⟨H0, [lo0p], []⟩ H [(lo0p, 2, List.map aD s.1)] ∧ List.length s.1 = N0) hl0 ⟨.eq (by kernel_rfl), hO, hN⟩ ?_
        clear hO hN
        rintro k0 s out1 T H ⟨hT, hO, hN⟩ h1 ho0
        obtain ⟨aA, aS, r21⟩ := s
        replace h1 : kN cmp4 rec a1 m2 b3 bP n19 p22 aA aS r21 = some out1 := h1
        try dsimp only at hT
        refine bB hT ?_
        clear hT
        unfold kN at h1
        refine aR ?_
        refine aZ aH 3 [] [(151, (aL (decide (aS < r21))))] ?_
        refine bM h1 (fun h1 => ?_) (fun h1 => ?_)
        · refine bN ?_
          refine bH [(0, (.msl 2 lo0p 0 (List.length aA))), (1, (eI a1)), (2, (eI m2)), (3, (eI b3)), (4, (.fn (.func cmp4_f) cmp4_a cmp4_c)), (18, (eI bP)), (19, (eI n19)), (20, (eI aS)), (21, (eI r21)), (22, (eI p22))] ?_
          refine bQ 9 ?_
          refine aR ?_
          refine aT aH 7 ?_
          obtain ⟨c15, h1⟩ := bJ h1
          refine wB [0 ≤ (1 : Int)] ⟨c15, trivial⟩ ?_
          refine bR [] [(23, (eI (wR (Int.fdiv (IntKind.u64.wrap (wR (aS + r21))) (2 ^ (min (Int.toNat (1 : Int)) 64))))))] ?_
          refine aR ?_
          refine iV (iU [169]) aH 14 ?_
          obtain ⟨c16, h1⟩ := bJ h1
          refine dG 6 [0 ≤ (wR (p22 - (wR (Int.fdiv (IntKind.u64.wrap (wR (aS + r21))) (2 ^ (min (Int.toNat (1 : Int)) 64)))))) ∧ (wR (p22 - (wR (Int.fdiv (IntKind.u64.wrap (wR (aS + r21))) (2 ^ (min (Int.toNat (1 : Int)) 64)))))) < (lN aA)] ⟨c16, trivial⟩ ?_
          refine kH 0 lo0p 2 (0 + Int.toNat (wR (p22 - (wR (Int.fdiv (IntKind.u64.wrap (wR (aS + r21))) (2 ^ (min (Int.toNat (1 : Int)) 64))))))) (aD (gD aA (wR (p22 - (wR (Int.fdiv (IntKind.u64.wrap (wR (aS + r21))) (2 ^ (min (Int.toNat (1 : Int)) 64)))))))) (aD (gD aA (wR (p22 - (wR (Int.fdiv (IntKind.u64.wrap (wR (aS + r21))) (2 ^ (min (Int.toNat (1 : Int)) 64)))))))) (List.map aD aA) hO (cN c16) ?_
          obtain ⟨c17, h1⟩ := bJ h1
          refine dG 10 [0 ≤ (wR (Int.fdiv (IntKind.u64.wrap (wR (aS + r21))) (2 ^ (min (Int.toNat (1 : Int)) 64)))) ∧ (wR (Int.fdiv (IntKind.u64.wrap (wR (aS + r21))) (2 ^ (min (Int.toNat (1 : Int)) 64)))) < (lN aA)] ⟨c17, trivial⟩ ?_
          refine kH 0 lo0p 2 (0 + Int.toNat (wR (Int.fdiv (IntKind.u64.wrap (wR (aS + r21))) (2 ^ (min (Int.toNat (1 : Int)) 64))))) (aD (gD aA (wR (Int.fdiv (IntKind.u64.wrap (wR (aS + r21))) (2 ^ (min (Int.toNat (1 : Int)) 64)))))) (aD (gD aA (wR (Int.fdiv (IntKind.u64.wrap (wR (aS + r21))) (2 ^ (min (Int.toNat (1 : Int)) 64)))))) (List.map aD aA) hO (cN c17) ?_
          obtain ⟨x18, hx19, h1⟩ := aW h1
          refine vN (cmp4_h (gD aA (wR (p22 - (wR (Int.fdiv (IntKind.u64.wrap (wR (aS + r21))) (2 ^ (min (Int.toNat (1 : Int)) 64))))))) (gD aA (wR (Int.fdiv (IntKind.u64.wrap (wR (aS + r21))) (2 ^ (min (Int.toNat (1 : Int)) 64))))) _ hx19) hO ?_
          intro H hO
          refine nL ?_
          refine bR [] [(171, (aL (!(decide (x18 < (0 : Int))))))] ?_
          refine bM h1 (fun h1 => ?_) (fun h1 => ?_)
          · refine aT aH 3 ?_
            refine bD ?_
            exact aK (aV (aI (⟨rfl, _, (oI h1).symm, .eq (by kernel_rfl), hO, hN⟩)))
          refine aT aH 2 ?_
          refine bD ?_
          exact aK (aV (aI (⟨rfl, _, (oI h1).symm, .eq (by kernel_rfl), hO, hN⟩)))
        refine dS 8 ?_
        obtain rfl := oI h1
        obtain rfl : _ = rr0 := ho0
        replace h0 : fW cmp4 rec aA a1 m2 b3 bP n19 aS = some r := h0
        exact aK (aY (aY (bO (aI (⟨rfl, _, _, .eq (by kernel_rfl), hO, hN, h0⟩)))))
      refine aZ aH 3 [] [(140, (aL (decide ((wR (Int.fdiv (IntKind.u64.wrap (wR (a1 + b3))) (2 ^ (min (Int.toNat (1 : Int)) 64)))) < m2))))] ?_
      refine bM h0 (fun h0 => ?_) (fun h0 => ?_)
      · refine bW aH 4 [(0, (.msl 2 lo0p 0 (List.length aA))), (1, (eI a1)), (2, (eI m2)), (3, (eI b3)), (4, (.fn (.func cmp4_f) cmp4_a cmp4_c)), (18, (eI (wR (Int.fdiv (IntKind.u64.wrap (wR (a1 + b3))) (2 ^ (min (Int.toNat (1 : Int)) 64)))))), (19, (eI (wR ((wR (Int.fdiv (IntKind.u64.wrap (wR (a1 + b3))) (2 ^ (min (Int.toNat (1 : Int)) 64)))) + m2)))), (20, (eI (wR ((wR ((wR (Int.fdiv (IntKind.u64.wrap (wR (a1 + b3))) (2 ^ (min (Int.toNat (1 : Int)) 64)))) + m2)) - b3))))] ?_
        refine aT aH 2 ?_
        refine bD ?_
        exact aK (aI (⟨rfl, _, _, _, _, _, .eq (by kernel_rfl), hO, hN, h0⟩))
      refine bW aH 2 [(0, (.msl 2 lo0p 0 (List.length aA))), (1, (eI a1)), (2, (eI m2)), (3, (eI b3)), (4, (.fn (.func cmp4_f) cmp4_a cmp4_c)), (18, (eI (wR (Int.fdiv (IntKind.u64.wrap (wR (a1 + b3))) (2 ^ (min (Int.toNat (1 : Int)) 64)))))), (19, (eI (wR ((wR (Int.fdiv (IntKind.u64.wrap (wR (a1 + b3))) (2 ^ (min (Int.toNat (1 : Int)) 64)))) + m2)))), (20, (eI a1))] ?_
      refine aT aH 2 ?_
      refine bD ?_
      exact aK (aI (⟨rfl, _, _, _, _, _, .eq (by kernel_rfl), hO, hN, h0⟩))
    refine aZ aH 4 [] [(80, (aL (decide ((wR (b3 - m2)) = (1 : Int)))))] ?_
    refine bM h0 (fun h0 => ?_) (fun h0 => ?_)
    · refine aZ aH 2 [1, 3, 80] [(14, (eI a1))] ?_
      refine aZ aH 2 [] [(15, (eI m2))] ?_
      refine cT (fun T H => ∃ aA : List aB, ∃ i14 : Int, Has T [(0, (.msl 2 lo0p 0 (List.length aA))), (2, (eI m2)), (14, (eI i14))] ∧ aO ⟨H0, [lo0p], []⟩ H [(lo0p, 2, List.map aD aA)] ∧ List.length aA = N0 ∧ fZ cmp4 rec aA m2 i14 = some r) ?_ ?_
      · clear hO hN h0
        rintro T H ⟨aA, i14, hT, hO, hN, h0⟩
        refine bB hT ?_
        clear hT
        unfold fZ at h0
        refine cT (fun T H => ∃ aA : List aB, Has T [(0, (.msl 2 lo0p 0 (List.length aA)))] ∧ aO ⟨H0, [lo0p], []⟩ H [(lo0p, 2, List.map aD aA)] ∧ List.length aA = N0 ∧ fY cmp4 rec aA = some r) ?_ ?_
        · clear hO hN h0
          rintro T H ⟨aA, hT, hO, hN, h0⟩
          refine bB hT ?_
          clear hT
          unfold fY at h0
          refine bL ?_
          obtain rfl := oI h0
          exact aK (bC (pF (x := (.tup [])) (by kernel_rfl) (aX.refl _) ⟨rfl, hO.ext, hO.at 0 (by kernel_rfl), by simp only [List.length_map]; exact hN.trans hN0⟩))
        refine aZ aH 2 [2] [(17, (eI m2))] ?_
        refine bQ 6 ?_
        refine cO [(0, (.msl 2 lo0p 0 (List.length aA))), (14, (eI i14)), (17, (eI m2))] ?_
        refine cK (fun T H => ∃ aA : List aB, ∃ k17 : Int, Has T [(0, (.msl 2 lo0p 0 (List.length aA))), (14, (eI i14)), (17, (eI k17))] ∧ aO ⟨H0, [lo0p], []⟩ H [(lo0p, 2, List.map aD aA)] ∧ List.length aA = N0 ∧ jZ cmp4 rec aA i14 k17 = some r) ?_ ⟨aA, m2, .eq (by kernel_rfl), hO, hN, h0⟩
        clear hO hN h0
        rintro T H ⟨aA, k17, hT, hO, hN, h0⟩
        refine bB hT ?_
        clear hT
        unfold jZ at h0
        obtain ⟨rr0, hl0, h0⟩ := aW h0
        refine cA (by kernel_rfl) (fun (s : List aB × Int) T H => Has T [(0, (.msl 2 lo0p 0 (List.length s.1))), (14, (eI i14)), (17, (eI s.2))] ∧ aO ⟨H0, [lo0p], []⟩ H [(lo0p, 2, List.map aD s.1)] ∧ List.length s.1 = N0) hl0 ⟨.eq (by kernel_rfl), hO, hN⟩ ?_
        clear hO hN
        rintro k0 s out1 T H ⟨hT, hO, hN⟩ h1 ho0
        obtain ⟨aA, k17⟩ := s
        replace h1 : jU cmp4 rec i14 aA k17 = some out1 := h1
        try dsimp only at hT
        refine bB hT ?_
        clear hT
        unfold jU at h1
        refine aR ?_
        refine aZ aH 3 [] [(110, (aL (decide (i14 < k17))))] ?_
        refine bM h1 (fun h1 => ?_) (fun h1 => ?_)
        · refine bN ?_
          refine bH [(0, (.msl 2 lo0p 0 (List.length aA))), (14, (eI i14)), (17, (eI k17))] ?_
          refine aR ?_
          refine bQ 7 ?_
          refine iV (iU []) aH 18 ?_
          obtain ⟨c25, h1⟩ := bJ h1
          refine dG 9 [0 ≤ (wR (k17 - (1 : Int))) ∧ (wR (k17 - (1 : Int))) < (lN aA)] ⟨c25, trivial⟩ ?_
          refine kH 0 lo0p 2 (0 + Int.toNat (wR (k17 - (1 : Int)))) (aD (gD aA (wR (k17 - (1 : Int))))) (aD (gD aA (wR (k17 - (1 : Int))))) (List.map aD aA) hO (cN c25) ?_
          obtain ⟨c26, h1⟩ := bJ h1
          refine dG 13 [0 ≤ k17 ∧ k17 < (lN aA)] ⟨c26, trivial⟩ ?_
          refine kH 0 lo0p 2 (0 + Int.toNat k17) (aD (gD aA k17)) (aD (gD aA k17)) (List.map aD aA) hO (cN c26) ?_
          obtain ⟨c27, h1⟩ := bJ h1
          refine dG 15 [0 ≤ k17 ∧ k17 < (lN aA)] ⟨c27, trivial⟩ ?_
          refine qJ 0 lo0p 2 (0 + Int.toNat k17) (aD (gD aA k17)) (aD (gD aA (wR (k17 - (1 : Int))))) (List.map aD aA) [(lo0p, 2, List.map aD (List.set aA (Int.toNat k17) (gD aA (wR (k17 - (1 : Int))))))] hO (cN c27) (by simp only [List.set, nA]) ?_
          intro H hO
          replace hN : List.length (List.set aA (Int.toNat k17) (gD aA (wR (k17 - (1 : Int))))) = N0 := by simpa using hN
          obtain ⟨c28, h1⟩ := bJ h1
          refine dG 17 [0 ≤ (wR (k17 - (1 : Int))) ∧ (wR (k17 - (1 : Int))) < (lN aA)] ⟨c28, trivial⟩ ?_
          refine qJ 0 lo0p 2 (0 + Int.toNat (wR (k17 - (1 : Int)))) (aD (gD (List.set aA (Int.toNat k17) (gD aA (wR (k17 - (1 : Int))))) (wR (k17 - (1 : Int))))) (aD (gD aA k17)) (List.map aD (List.set aA (Int.toNat k17) (gD aA (wR (k17 - (1 : Int)))))) [(lo0p, 2, List.map aD (List.set (List.set aA (Int.toNat k17) (gD aA (wR (k17 - (1 : Int))))) (Int.toNat (wR (k17 - (1 : Int)))) (gD aA k17)))] hO (vS c28 (by simp [])) (by simp only [List.set, nA]) ?_
          intro H hO
          replace hN : List.length (List.set (List.set aA (Int.toNat k17) (gD aA (wR (k17 - (1 : Int))))) (Int.toNat (wR (k17 - (1 : Int)))) (gD aA k17)) = N0 := by simpa using hN
          refine wL (by kernel_rfl) ?_
          refine cS (l := [(0, (.msl 2 lo0p 0 (List.length (List.set (List.set aA (Int.toNat k17) (gD aA (wR (k17 - (1 : Int))))) (Int.toNat (wR (k17 - (1 : Int)))) (gD aA k17))))), (14, (eI i14)), (17, (eI k17))]) ⟨[(0, (.msl 2 lo0p 0 (List.length aA))), (14, (eI i14)), (17, (eI k17))], by kernel_rfl, rfl, ⟨aX.eq (by simp []), aX.refl _, aX.refl _, trivial⟩⟩ ?_
          refine aK (aV (aI (?_)))
          refine aT aH 3 ?_
          refine bD ?_
          exact aK (aI (⟨rfl, _, (oI h1).symm, .eq (by kernel_rfl), hO, hN⟩))
        refine dS 6 ?_
        obtain rfl := oI h1
        obtain rfl : _ = rr0 := ho0
        replace h0 : fY cmp4 rec aA = some r := h0
        exact aK (aY (aY (bO (aI (⟨rfl, _, .eq (by kernel_rfl), hO, hN, h0⟩)))))
      refine bQ 4 ?_
      refine cO [(0, (.msl 2 lo0p 0 (List.length aA))), (2, (eI m2)), (4, (.fn (.func cmp4_f) cmp4_a cmp4_c)), (14, (eI a1)), (15, (eI m2))] ?_
      refine cK (fun T H => ∃ aA : List aB, ∃ i14 : Int, ∃ j15 : Int, Has T [(0, (.msl 2 lo0p 0 (List.length aA))), (2, (eI m2)), (4, (.fn (.func cmp4_f) cmp4_a cmp4_c)), (14, (eI i14)), (15, (eI j15))] ∧ aO ⟨H0, [lo0p], []⟩ H [(lo0p, 2, List.map aD aA)] ∧ List.length aA = N0 ∧ jS cmp4 rec aA m2 i14 j15 = some r) ?_ ⟨aA, a1, m2, .eq (by kernel_rfl), hO, hN, h0⟩
      clear hO hN h0
      rintro T H ⟨aA, i14, j15, hT, hO, hN, h0⟩
      refine bB hT ?_
      clear hT
      unfold jS at h0
      obtain ⟨rr0, hl0, h0⟩ := aW h0
      refine cA (by kernel_rfl) (fun (s : List aB × Int × Int) T H => Has T [(0, (.msl 2 lo0p 0 (List.length s.1))), (2, (eI m2)), (4, (.fn (.func cmp4_f) cmp4_a cmp4_c)), (14, (eI s.2.1)), (15, (eI s.2.2))] ∧ aO ⟨H0, [lo0p], []⟩ H [(lo0p, 2, List.map aD s.1)] ∧ List.length s.1 = N0) hl0 ⟨.eq (by kernel_rfl), hO, hN⟩ ?_
      clear hO hN
      rintro k0 s out1 T H ⟨hT, hO, hN⟩ h1 ho0
      obtain ⟨aA, i14, j15⟩ := s
      replace h1 : jR cmp4 rec m2 aA i14 j15 = some out1 := h1
      try dsimp only at hT
      refine bB hT ?_
      clear hT
      unfold jR at h1
      refine aR ?_
      refine aZ aH 3 [] [(85, (aL (decide (i14 < j15))))] ?_
      refine bM h1 (fun h1 => ?_) (fun h1 => ?_)
      · refine bN ?_
        refine bH [(0, (.msl 2 lo0p 0 (List.length aA))), (2, (eI m2)), (4, (.fn (.func cmp4_f) cmp4_a cmp4_c)), (14, (eI i14)), (15, (eI j15))] ?_
        refine bQ 5 ?_
        refine aR ?_
        refine aT aH 7 ?_
        obtain ⟨c30, h1⟩ := bJ h1
        refine wB [0 ≤ (1 : Int)] ⟨c30, trivial⟩ ?_
        refine bR [] [(16, (eI (wR (Int.fdiv (IntKind.u64.wrap (wR (i14 + j15))) (2 ^ (min (Int.toNat (1 : Int)) 64))))))] ?_
        refine aR ?_
        refine iV (iU [101]) aH 12 ?_
        obtain ⟨c31, h1⟩ := bJ h1
        refine dG 4 [0 ≤ m2 ∧ m2 < (lN aA)] ⟨c31, trivial⟩ ?_
        refine kH 0 lo0p 2 (0 + Int.toNat m2) (aD (gD aA m2)) (aD (gD aA m2)) (List.map aD aA) hO (cN c31) ?_
        obtain ⟨c32, h1⟩ := bJ h1
        refine dG 8 [0 ≤ (wR (Int.fdiv (IntKind.u64.wrap (wR (i14 + j15))) (2 ^ (min (Int.toNat (1 : Int)) 64)))) ∧ (wR (Int.fdiv (IntKind.u64.wrap (wR (i14 + j15))) (2 ^ (min (Int.toNat (1 : Int)) 64)))) < (lN aA)] ⟨c32, trivial⟩ ?_
        refine kH 0 lo0p 2 (0 + Int.toNat (wR (Int.fdiv (IntKind.u64.wrap (wR (i14 + j15))) (2 ^ (min (Int.toNat (1 : Int)) 64))))) (aD (gD aA (wR (Int.fdiv (IntKind.u64.wrap (wR (i14 + j15))) (2 ^ (min (Int.toNat (1 : Int)) 64)))))) (aD (gD aA (wR (Int.fdiv (IntKind.u64.wrap (wR (i14 + j15))) (2 ^ (min (Int.toNat (1 : Int)) 64)))))) (List.map aD aA) hO (cN c32) ?_
        obtain ⟨x33, hx34, h1⟩ := aW h1
        refine vN (cmp4_h (gD aA m2) (gD aA (wR (Int.fdiv (IntKind.u64.wrap (wR (i14 + j15))) (2 ^ (min (Int.toNat (1 : Int)) 64))))) _ hx34) hO ?_
        intro H hO
        refine nL ?_
        refine bR [] [(103, (aL (!(decide (x33 < (0 : Int))))))] ?_
        refine bM h1 (fun h1 => ?_) (fun h1 => ?_)
        · refine aT aH 3 ?_
          refine bD ?_
          exact aK (aV (aI (⟨rfl, _, (oI h1).symm, .eq (by kernel_rfl), hO, hN⟩)))
        refine aT aH 2 ?_
        refine bD ?_
        exact aK (aV (aI (⟨rfl, _, (oI h1).symm, .eq (by kernel_rfl), hO, hN⟩)))
      refine dS 4 ?_
      obtain rfl := oI h1
      obtain rfl : _ = rr0 := ho0
      replace h0 : fZ cmp4 rec aA m2 i14 = some r := h0
      exact aK (aY (aY (bO (aI (⟨rfl, _, _, .eq (by kernel_rfl), hO, hN, h0⟩)))))
    refine bN ?_
    exact aK (aI (⟨rfl, _, .eq (by kernel_rfl), hO, hN, h0⟩))
  refine aZ aH 4 [] [(28, (aL (decide ((wR (m2 - a1)) = (1 : Int)))))] ?_
  refine bM h0 (fun h0 => ?_) (fun h0 => ?_)
  · refine aZ aH 2 [2, 28] [(10, (eI m2))] ?_
    refine aZ aH 2 [3] [(11, (eI b3))] ?_
    refine cT (fun T H => ∃ aA : List aB, ∃ i10 : Int, Has T [(0, (.msl 2 lo0p 0 (List.length aA))), (1, (eI a1)), (10, (eI i10))] ∧ aO ⟨H0, [lo0p], []⟩ H [(lo0p, 2, List.map aD aA)] ∧ List.length aA = N0 ∧ fL cmp4 rec aA a1 i10 = some r) ?_ ?_
    · clear hO hN h0
      rintro T H ⟨aA, i10, hT, hO, hN, h0⟩
      refine bB hT ?_
      clear hT
      unfold fL at h0
      refine cT (fun T H => ∃ aA : List aB, Has T [(0, (.msl 2 lo0p 0 (List.length aA)))] ∧ aO ⟨H0, [lo0p], []⟩ H [(lo0p, 2, List.map aD aA)] ∧ List.length aA = N0 ∧ fN cmp4 rec aA = some r) ?_ ?_
      · clear hO hN h0
        rintro T H ⟨aA, hT, hO, hN, h0⟩
        refine bB hT ?_
        clear hT
        unfold fN at h0
        refine bL ?_
        obtain rfl := oI h0
        exact aK (bC (pF (x := (.tup [])) (by kernel_rfl) (aX.refl _) ⟨rfl, hO.ext, hO.at 0 (by kernel_rfl), by simp only [List.length_map]; exact hN.trans hN0⟩))
      refine aZ aH 2 [1] [(13, (eI a1))] ?_
      refine bQ 2 ?_
      refine cO [(0, (.msl 2 lo0p 0 (List.length aA))), (10, (eI i10)), (13, (eI a1))] ?_
      refine cK (fun T H => ∃ aA : List aB, ∃ k13 : Int, Has T [(0, (.msl 2 lo0p 0 (List.length aA))), (10, (eI i10)), (13, (eI k13))] ∧ aO ⟨H0, [lo0p], []⟩ H [(lo0p, 2, List.map aD aA)] ∧ List.length aA = N0 ∧ jL cmp4 rec aA i10 k13 = some r) ?_ ⟨aA, a1, .eq (by kernel_rfl), hO, hN, h0⟩
      clear hO hN h0
      rintro T H ⟨aA, k13, hT, hO, hN, h0⟩
      refine bB hT ?_
      clear hT
      unfold jL at h0
      obtain ⟨rr0, hl0, h0⟩ := aW h0
      refine cA (by kernel_rfl) (fun (s : List aB × Int) T H => Has T [(0, (.msl 2 lo0p 0 (List.length s.1))), (10, (eI i10)), (13, (eI s.2))] ∧ aO ⟨H0, [lo0p], []⟩ H [(lo0p, 2, List.map aD s.1)] ∧ List.length s.1 = N0) hl0 ⟨.eq (by kernel_rfl), hO, hN⟩ ?_
      clear hO hN
      rintro k0 s out1 T H ⟨hT, hO, hN⟩ h1 ho0
      obtain ⟨aA, k13⟩ := s
      replace h1 : jX cmp4 rec i10 aA k13 = some out1 := h1
      try dsimp only at hT
      refine bB hT ?_
      clear hT
      unfold jX at h1
      refine aR ?_
      refine aZ aH 4 [] [(58, (aL (decide (k13 < (wR (i10 - (1 : Int)))))))] ?_
      refine bM h1 (fun h1 => ?_) (fun h1 => ?_)
      · refine bN ?_
        refine bH [(0, (.msl 2 lo0p 0 (List.length aA))), (10, (eI i10)), (13, (eI k13))] ?_
        refine aR ?_
        refine bQ 3 ?_
        refine iV (iU []) aH 18 ?_
        obtain ⟨c39, h1⟩ := bJ h1
        refine dG 9 [0 ≤ (wR (k13 + (1 : Int))) ∧ (wR (k13 + (1 : Int))) < (lN aA)] ⟨c39, trivial⟩ ?_
        refine kH 0 lo0p 2 (0 + Int.toNat (wR (k13 + (1 : Int)))) (aD (gD aA (wR (k13 + (1 : Int))))) (aD (gD aA (wR (k13 + (1 : Int))))) (List.map aD aA) hO (cN c39) ?_
        obtain ⟨c40, h1⟩ := bJ h1
        refine dG 13 [0 ≤ k13 ∧ k13 < (lN aA)] ⟨c40, trivial⟩ ?_
        refine kH 0 lo0p 2 (0 + Int.toNat k13) (aD (gD aA k13)) (aD (gD aA k13)) (List.map aD aA) hO (cN c40) ?_
        obtain ⟨c41, h1⟩ := bJ h1
        refine dG 15 [0 ≤ k13 ∧ k13 < (lN aA)] ⟨c41, trivial⟩ ?_
        refine qJ 0 lo0p 2 (0 + Int.toNat k13) (aD (gD aA k13)) (aD (gD aA (wR (k13 + (1 : Int))))) (List.map aD aA) [(lo0p, 2, List.map aD (List.set aA (Int.toNat k13) (gD aA (wR (k13 + (1 : Int))))))] hO (cN c41) (by simp only [List.set, nA]) ?_
        intro H hO
        replace hN : List.length (List.set aA (Int.toNat k13) (gD aA (wR (k13 + (1 : Int))))) = N0 := by simpa using hN
        obtain ⟨c42, h1⟩ := bJ h1
        refine dG 17 [0 ≤ (wR (k13 + (1 : Int))) ∧ (wR (k13 + (1 : Int))) < (lN aA)] ⟨c42, trivial⟩ ?_
        refine qJ 0 lo0p 2 (0 + Int.toNat (wR (k13 + (1 : Int)))) (aD (gD (List.set aA (Int.toNat k13) (gD aA (wR (k13 + (1 : Int))))) (wR (k13 + (1 : Int))))) (aD (gD aA k13)) (List.map aD (List.set aA (Int.toNat k13) (gD aA (wR (k13 + (1 : Int)))))) [(lo0p, 2, List.map aD (List.set (List.set aA (Int.toNat k13) (gD aA (wR (k13 + (1 : Int))))) (Int.toNat (wR (k13 + (1 : Int)))) (gD aA k13)))] hO (vS c42 (by simp [])) (by simp only [List.set, nA]) ?_
        intro H hO
        replace hN : List.length (List.set (List.set aA (Int.toNat k13) (gD aA (wR (k13 + (1 : Int))))) (Int.toNat (wR (k13 + (1 : Int)))) (gD aA k13)) = N0 := by simpa using hN
        refine wL (by kernel_rfl) ?_
        refine cS (l := [(0, (.msl 2 lo0p 0 (List.length (List.set (List.set aA (Int.toNat k13) (gD aA (wR (k13 + (1 : Int))))) (Int.toNat (wR (k13 + (1 : Int)))) (gD aA k13))))), (10, (eI i10)), (13, (eI k13))]) ⟨[(0, (.msl 2 lo0p 0 (List.length aA))), (10, (eI i10)), (13, (eI k13))], by kernel_rfl, rfl, ⟨aX.eq (by simp []), aX.refl _, aX.refl _, trivial⟩⟩ ?_
        refine aK (aV (aI (?_)))
        refine aT aH 3 ?_
        refine bD ?_
        exact aK (aI (⟨rfl, _, (oI h1).symm, .eq (by kernel_rfl), hO, hN⟩))
      refine dS 2 ?_
      obtain rfl := oI h1
      obtain rfl : _ = rr0 := ho0
      replace h0 : fN cmp4 rec aA = some r := h0
      exact aK (aY (aY (bO (aI (⟨rfl, _, .eq (by kernel_rfl), hO, hN, h0⟩)))))
    refine bQ 0 ?_
    refine cO [(0, (.msl 2 lo0p 0 (List.length aA))), (1, (eI a1)), (4, (.fn (.func cmp4_f) cmp4_a cmp4_c)), (10, (eI m2)), (11, (eI b3))] ?_
    refine cK (fun T H => ∃ aA : List aB, ∃ i10 : Int, ∃ j11 : Int, Has T [(0, (.msl 2 lo0p 0 (List.length aA))), (1, (eI a1)), (4, (.fn (.func cmp4_f) cmp4_a cmp4_c)), (10, (eI i10)), (11, (eI j11))] ∧ aO ⟨H0, [lo0p], []⟩ H [(lo0p, 2, List.map aD aA)] ∧ List.length aA = N0 ∧ jM cmp4 rec aA a1 i10 j11 = some r) ?_ ⟨aA, m2, b3, .eq (by kernel_rfl), hO, hN, h0⟩
    clear hO hN h0
    rintro T H ⟨aA, i10, j11, hT, hO, hN, h0⟩
    refine bB hT ?_
    clear hT
    unfold jM at h0
    obtain ⟨rr0, hl0, h0⟩ := aW h0
    refine cA (by kernel_rfl) (fun (s : List aB × Int × Int) T H => Has T [(0, (.msl 2 lo0p 0 (List.length s.1))), (1, (eI a1)), (4, (.fn (.func cmp4_f) cmp4_a cmp4_c)), (10, (eI s.2.1)), (11, (eI s.2.2))] ∧ aO ⟨H0, [lo0p], []⟩ H [(lo0p, 2, List.map aD s.1)] ∧ List.length s.1 = N0) hl0 ⟨.eq (by kernel_rfl), hO, hN⟩ ?_
    clear hO hN
    rintro k0 s out1 T H ⟨hT, hO, hN⟩ h1 ho0
    obtain ⟨aA, i10, j11⟩ := s
    replace h1 : kB cmp4 rec a1 aA i10 j11 = some out1 := h1
    try dsimp only at hT
    refine bB hT ?_
    clear hT
    unfold kB at h1
    refine aR ?_
    refine aZ aH 3 [] [(33, (aL (decide (i10 < j11))))] ?_
    refine bM h1 (fun h1 => ?_) (fun h1 => ?_)
    · refine bN ?_
      refine bH [(0, (.msl 2 lo0p 0 (List.length aA))), (1, (eI a1)), (4, (.fn (.func cmp4_f) cmp4_a cmp4_c)), (10, (eI i10)), (11, (eI j11))] ?_
      refine bQ 1 ?_
      refine aR ?_
      refine aT aH 7 ?_
      obtain ⟨c44, h1⟩ := bJ h1
      refine wB [0 ≤ (1 : Int)] ⟨c44, trivial⟩ ?_
      refine bR [] [(12, (eI (wR (Int.fdiv (IntKind.u64.wrap (wR (i10 + j11))) (2 ^ (min (Int.toNat (1 : Int)) 64))))))] ?_
      refine aR ?_
      refine iV (iU [49]) aH 11 ?_
      obtain ⟨c45, h1⟩ := bJ h1
      refine dG 4 [0 ≤ (wR (Int.fdiv (IntKind.u64.wrap (wR (i10 + j11))) (2 ^ (min (Int.toNat (1 : Int)) 64)))) ∧ (wR (Int.fdiv (IntKind.u64.wrap (wR (i10 + j11))) (2 ^ (min (Int.toNat (1 : Int)) 64)))) < (lN aA)] ⟨c45, trivial⟩ ?_
      refine kH 0 lo0p 2 (0 + Int.toNat (wR (Int.fdiv (IntKind.u64.wrap (wR (i10 + j11))) (2 ^ (min (Int.toNat (1 : Int)) 64))))) (aD (gD aA (wR (Int.fdiv (IntKind.u64.wrap (wR (i10 + j11))) (2 ^ (min (Int.toNat (1 : Int)) 64)))))) (aD (gD aA (wR (Int.fdiv (IntKind.u64.wrap (wR (i10 + j11))) (2 ^ (min (Int.toNat (1 : Int)) 64)))))) (List.map aD aA) hO (cN c45) ?_
      obtain ⟨c46, h1⟩ := bJ h1
      refine dG 8 [0 ≤ a1 ∧ a1 < (lN aA)] ⟨c46, trivial⟩ ?_
      refine kH 0 lo0p 2 (0 + Int.toNat a1) (aD (gD aA a1)) (aD (gD aA a1)) (List.map aD aA) hO (cN c46) ?_
      obtain ⟨x47, hx48, h1⟩ := aW h1
      refine vN (cmp4_h (gD aA (wR (Int.fdiv (IntKind.u64.wrap (wR (i10 + j11))) (2 ^ (min (Int.toNat (1 : Int)) 64))))) (gD aA a1) _ hx48) hO ?_
      intro H hO
      refine nL ?_
      refine bR [] [(50, (aL (decide (x47 < (0 : Int)))))] ?_
      refine bM h1 (fun h1 => ?_) (fun h1 => ?_)
      · refine aT aH 3 ?_
        refine bD ?_
        exact aK (aV (aI (⟨rfl, _, (oI h1).symm, .eq (by kernel_rfl), hO, hN⟩)))
      refine aT aH 2 ?_
      refine bD ?_
      exact aK (aV (aI (⟨rfl, _, (oI h1).symm, .eq (by kernel_rfl), hO, hN⟩)))
    refine dS 0 ?_
    obtain rfl := oI h1
    obtain rfl : _ = rr0 := ho0
    replace h0 : fL cmp4 rec aA a1 i10 = some r := h0
    exact aK (aY (aY (bO (aI (⟨rfl, _, _, .eq (by kernel_rfl), hO, hN, h0⟩)))))
  refine bN ?_
  exact aK (aI (⟨rfl, _, .eq (by kernel_rfl), hO, hN, h0⟩))

theorem nB (cmp4_f : Nat) (cmp4_a cmp4_c : List V) (cmp4 : aB → aB → Option Int) (cmp4_h : ∀ a0 a1 r, cmp4 a0 a1 = some r → bS Try.prog cmp4_f (cmp4_a ++ [(aD a0), (aD a1)] ++ cmp4_c) (eI r)) : ∀ (k : Nat) (lo0p : Nat) (aA : (List aB)) (a1 : Int) (m2 : Int) (b3 : Int) (r : List aB), fR cmp4 k aA a1 m2 b3 = some r → kQ Try.prog 141 lo0p 2 (List.map aD aA) (List.map aD r) [(.msl 2 lo0p 0 (List.length aA)), (eI a1), (eI m2), (eI b3), (.fn (.func cmp4_f) cmp4_a cmp4_c)] (.tup [])
  | 0, _, _, _, _, _, _, h => by cases h
  | k + 1, lo0p, aA, a1, m2, b3, r, h => rV cmp4_f cmp4_a cmp4_c cmp4 cmp4_h _ (nB cmp4_f cmp4_a cmp4_c cmp4 cmp4_h k) lo0p aA a1 m2 b3 r h

theorem nU (lo0p : Nat) (aA : (List aB)) (a1 : Int) (m2 : Int) (b3 : Int) (cmp4_f : Nat) (cmp4_a cmp4_c : List V) (cmp4 : aB → aB → Option Int) (cmp4_h : ∀ a0 a1 r, cmp4 a0 a1 = some r → bS Try.prog cmp4_f (cmp4_a ++ [(aD a0), (aD a1)] ++ cmp4_c) (eI r)) (r : List aB) (h0 : eD aA a1 m2 b3 cmp4 = some r) : kQ Try.prog 141 lo0p 2 (List.map aD aA) (List.map aD r) [(.msl 2 lo0p 0 (List.length aA)), (eI a1), (eI m2), (eI b3), (.fn (.func cmp4_f) cmp4_a cmp4_c)] (.tup []) := by
  obtain ⟨k, hk⟩ := EH h0
  exact nB cmp4_f cmp4_a cmp4_c cmp4 cmp4_h k lo0p aA a1 m2 b3 r hk

end Go.Abs
