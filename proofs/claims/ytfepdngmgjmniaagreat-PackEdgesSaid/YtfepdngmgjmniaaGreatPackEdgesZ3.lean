/- What the law PackEdges stands on: the framework, the given functions as plain functions, their walks, and the plain laws; part 3. -/
import Derived.Test.YtfepdngmgjmniaaGreatPackEdgesZ2
set_option linter.unusedSimpArgs false
set_option linter.unusedVariables false
namespace Go.Abs
open Go
noncomputable def DQ (all4 : List aA) (out5 : List aA) (i6 : Int) (j7 : aA) : Option ((List aA × List aA × Int) ⊕ ((List aA))) :=
  (lp (fun s => kD s.1 s.2.1 s.2.2.1 s.2.2.2) (all4, out5, i6, j7)).bind (fun rr => xS rr.1 rr.2.1 rr.2.2.1 rr.2.2.2)

noncomputable def mE  (all4 : List aA) (out5 : List aA) (i6 : Int) : Option ((List aA × List aA × Int) ⊕ ((List aA))) :=
  cond (decide (i6 < ((List.length all4 : Nat) : Int)))
  (bI (0 ≤ i6 ∧ i6 < ((List.length all4 : Nat) : Int)) <|
  DQ all4 out5 i6 (aA.mk ((List.getD all4 (Int.toNat i6) default).At) 0))
  (some (.inr out5))

noncomputable def DG (all4 : List aA) (out5 : List aA) (i6 : Int) : Option ((List aA) × Int) :=
  (lp (fun s => mE s.1 s.2.1 s.2.2) (all4, out5, i6)).bind (fun rr => yN rr)

noncomputable def AF (l0 : (List aA)) : Option ((List aA) × Int) :=
  (dH l0 (fun y0 => wB y0)).bind fun x1 =>
  cond x1
  (some ([], (2 : Int)))
  ((dH l0 (fun y0 => wK y0)).bind fun x5 =>
  cond x5
  (some ([], (13 : Int)))
  ((fO l0).bind fun x9 =>
  (dP x9 (fun y0 y1 => oD y0 y1)).bind fun x12 =>
  DG x12 ([] : List aA) (0 : Int)))

noncomputable def wH (f0 : (List aA)) : Option ((List aA) × Int) :=
  (AF f0).bind fun x1 =>
  some (x1.1, x1.2)

noncomputable def AM (l0 : (List aC)) : Option ((List aC) × Int) :=
  (dI l0 (fun y0 => wF y0)).bind fun x1 =>
  cond x1
  (some ([], (2 : Int)))
  ((dI l0 (fun y0 => wA y0)).bind fun x5 =>
  cond x5
  (some ([], (13 : Int)))
  ((fK l0).bind fun x9 =>
  (dO x9 (fun y0 y1 => nT y0 y1)).bind fun x12 =>
  (wD x12 (fun y0 => wH y0)).bind fun x15 =>
  some (x15.1, x15.2)))

noncomputable def vW (out4 : List aC) : Option ((List aC) × Int) :=
  (AM out4).bind fun x9 =>
  some (x9.1, x9.2)

noncomputable def nY (t16 : (List aM)) (t17 : Int) (out4 : List aC) (t18 : Int) : Option ((List aC × Int) ⊕ ((List aC))) :=
  cond (decide (t18 < t17))
  (bI (0 ≤ t18 ∧ t18 < ((List.length t16 : Nat) : Int)) <|
  bI ((List.length out4 + List.length ([aC.mk ((List.getD t16 (Int.toNat t18) default).Row) (((List.getD t16 (Int.toNat t18) default).Span).From) (1 : Int), aC.mk ((List.getD t16 (Int.toNat t18) default).Row) (((List.getD t16 (Int.toNat t18) default).Span).To) (-1 : Int)])) * 40 ≤ 140737488355328 ∧ List.length out4 + List.length ([aC.mk ((List.getD t16 (Int.toNat t18) default).Row) (((List.getD t16 (Int.toNat t18) default).Span).From) (1 : Int), aC.mk ((List.getD t16 (Int.toNat t18) default).Row) (((List.getD t16 (Int.toNat t18) default).Span).To) (-1 : Int)]) ≤ 9223372036854775807) <|
  some (.inl (out4 ++ ([aC.mk ((List.getD t16 (Int.toNat t18) default).Row) (((List.getD t16 (Int.toNat t18) default).Span).From) (1 : Int), aC.mk ((List.getD t16 (Int.toNat t18) default).Row) (((List.getD t16 (Int.toNat t18) default).Span).To) (-1 : Int)]), IntKind.i64.wrap (t18 + (1 : Int)))))
  (some (.inr out4))

noncomputable def BI (out4 : List aC) (t16 : (List aM)) (t17 : Int) (t18 : Int) : Option ((List aC) × Int) :=
  (lp (fun s => nY t16 t17 s.1 s.2) (out4, t18)).bind (fun rr => vW rr)

noncomputable def uU (l0 : (List aM)) : Option ((List aC) × Int) :=
  (dN l0 (fun y0 => tV y0)).bind fun x1 =>
  cond x1
  (some ([], (2 : Int)))
  (cond (decide ((4096 : Int) < ((List.length l0 : Nat) : Int)))
  (some ([], (7 : Int)))
  (bI (0 ≤ (IntKind.i64.wrap ((2 : Int) * ((List.length l0 : Nat) : Int))) ∧ (40 : Int) * (IntKind.i64.wrap ((2 : Int) * ((List.length l0 : Nat) : Int))) ≤ 281474976710656 ∧ (IntKind.i64.wrap ((2 : Int) * ((List.length l0 : Nat) : Int))) ≤ 9223372036854775807) <|
  BI ([] : List aC) l0 ((List.length l0 : Nat) : Int) (0 : Int)))

noncomputable def rQ (yF : (List aA) → Option Bool) (lJ : (List aC)) (t4 : Bool) (qO : (List aG)) (kA : Bool) (t14 : (List aG)) (t15 : (List aA)) : Option ((Bool × (List aG) × Bool) ⊕ (Bool × (List aG) × Bool)) :=
  (tD t14).bind fun x7 =>
  (cP (kA && (!(!x7))) (sL qO t14)).bind fun x12 =>
  (cP (!((!x7) || (kA && (decide ((0 : Int) ≤ x12))))) (yF t15)).bind fun x15 =>
  cond (((!x7) || (kA && (decide ((0 : Int) ≤ x12)))) || (!x15))
  (some (.inr (false, qO, kA)))
  (some (.inl (t4, t14, true)))

noncomputable def ED (yF : (List aA) → Option Bool) (t4 : Bool) (qO : (List aG)) (kA : Bool) (lJ : (List aC)) : Option Bool :=
  (nJ (fun st t14 t15 => rnd (fun (s : Bool × (List aG) × Bool) => rQ yF lJ s.1 s.2.1 s.2.2 t14 t15) st) lJ (.inl (t4, qO, kA))).bind (Sum.elim (fun (s : Bool × (List aG) × Bool) =>
  (some true))
  (fun (s : Bool × (List aG) × Bool) =>
  (some s.1)))

noncomputable def wW (l0 : (List aC)) (yF : (List aA) → Option Bool) : Option Bool :=
  cond (decide ((4096 : Int) < ((List.length l0 : Nat) : Int)))
  (some false)
  ((qT l0).bind fun x5 =>
  ED yF false ([]) false x5)

noncomputable def zF (l0 : (List aC)) : Option Bool :=
  (wW l0 (fun y0 => qN y0)).bind fun x1 =>
  some x1

noncomputable def wE (fX : Int) : Option Int :=
  some fX

noncomputable def nU (t24 : (List aA)) (t25 : Int) (v3 : Int) (fX : Int) (t26 : Int) : Option ((Int × Int × Int) ⊕ (Int)) :=
  cond (decide (t26 < t25))
  (bI (0 ≤ t26 ∧ t26 < ((List.length t24 : Nat) : Int)) <|
  some (.inl (IntKind.i64.wrap (v3 + ((List.getD t24 (Int.toNat t26) default).Net)), if (IntKind.i64.wrap (v3 + ((List.getD t24 (Int.toNat t26) default).Net))) < fX then (IntKind.i64.wrap (v3 + ((List.getD t24 (Int.toNat t26) default).Net))) else fX, IntKind.i64.wrap (t26 + (1 : Int)))))
  (some (.inr fX))

noncomputable def vR (v3 : Int) (fX : Int) (t24 : (List aA)) (t25 : Int) (t26 : Int) : Option Int :=
  (lp (fun s => nU t24 t25 s.1 s.2.1 s.2.2) (v3, fX, t26)).bind (fun rr => wE rr)

noncomputable def sH (f0 : (List aA)) (v3 : Int) (fX : Int) : Option Int :=
  vR v3 fX f0 ((List.length f0 : Nat) : Int) (0 : Int)

noncomputable def xV (f0 : (List aA)) : Option Int :=
  (qN f0).bind fun x1 =>
  cond ((!x1) || (decide (((List.length f0 : Nat) : Int) = (0 : Int))))
  (some (0 : Int))
  (bI (0 ≤ (0 : Int) ∧ (0 : Int) < ((List.length f0 : Nat) : Int)) <|
  cond (decide (((List.getD f0 (Int.toNat (0 : Int)) default).At) = (-1 : Int)))
  (bI (0 ≤ (0 : Int) ∧ (0 : Int) < ((List.length f0 : Nat) : Int)) <|
  sH f0 (0 : Int) ((List.getD f0 (Int.toNat (0 : Int)) default).Net))
  (sH f0 (0 : Int) (0 : Int)))

noncomputable def uQ (f0 : (List aA)) : Option Bool :=
  (qN f0).bind fun x1 =>
  (cP x1 (xV f0)).bind fun x4 =>
  some (x1 && (decide ((0 : Int) ≤ x4)))

noncomputable def yI (l0 : (List aC)) : Option Bool :=
  (wW l0 (fun y0 => uQ y0)).bind fun x1 =>
  some x1

noncomputable def rZ (l0 : (List aC)) : Option ((List aC)) :=
  some l0

noncomputable def kF {σ : Type} (eZ : σ → (List aG) → (List aA) → Option (σ × Bool)) (t9c0 : (List aC)) (sg : σ) (t10 : (List aG)) (t11 : (List aA)) : Option ((σ) ⊕ (σ)) :=
  (eZ sg t10 t11).bind fun x7 =>
  cond (!x7.2)
  (some (.inr x7.1))
  (some (.inl x7.1))

noncomputable def tC {σ : Type} (eZ : σ → (List aG) → (List aA) → Option (σ × Bool)) (sg : σ) (t9c0 : (List aC)) : Option σ :=
  (nJ (fun st t10 t11 => rnd (fun (s : σ) => kF eZ t9c0 s t10 t11) st) t9c0 (.inl sg)).bind (Sum.elim (fun (s : σ) =>
  (some s))
  (fun (s : σ) =>
  (some s)))

noncomputable def nR {σ : Type} (eZ : σ → (List aG) → (List aA) → Option (σ × Bool)) (t1 : (List aC)) (sg0 : σ) : Option σ :=
  (zF t1).bind fun x1 =>
  cond (!x1)
  (some sg0)
  ((qT t1).bind fun x5 =>
  tC eZ sg0 x5)

noncomputable def yK (n3 : Int) : Option Int :=
  some n3

noncomputable def pW (t6 : (List aA)) (t7 : Int) (n3 : Int) (t8 : Int) : Option ((Int × Int) ⊕ (Int)) :=
  cond (decide (t8 < t7))
  (bI (0 ≤ t8 ∧ t8 < ((List.length t6 : Nat) : Int)) <|
  some (.inl (IntKind.i64.wrap (n3 + (if (0 : Int) > ((List.getD t6 (Int.toNat t8) default).Net) then (0 : Int) else ((List.getD t6 (Int.toNat t8) default).Net))), IntKind.i64.wrap (t8 + (1 : Int)))))
  (some (.inr n3))

noncomputable def DB (n3 : Int) (t6 : (List aA)) (t7 : Int) (t8 : Int) : Option Int :=
  (lp (fun s => pW t6 t7 s.1 s.2) (n3, t8)).bind (fun rr => yK rr)

noncomputable def tO (f0 : (List aA)) : Option Int :=
  DB (0 : Int) f0 ((List.length f0 : Nat) : Int) (0 : Int)

noncomputable def mT (t0 : Int) (t1 : (List aT)) (t2 : Int) : Option ((List aT) × Int) :=
  bI (0 ≤ t2 ∧ t2 < ((List.length t1 : Nat) : Int)) <|
  some (List.set t1 (Int.toNat t2) (aT.mk (List.getD t1 (Int.toNat t2) default).From t0), IntKind.i64.wrap (t2 + (1 : Int)))

noncomputable def BN (out3 : List aT) : Option (List aT) :=
  some out3

noncomputable def mM  (out3 : List aT) (cI : Int) : Option ((List aT × Int) ⊕ ((List aT))) :=
  cond (decide (cI < ((List.length out3 : Nat) : Int)))
  ((mT (1125899906842624 : Int) out3 cI).bind fun x14 =>
  some (.inl (x14.1, x14.2)))
  (some (.inr out3))

noncomputable def BO (out3 : List aT) (cI : Int) : Option (List aT) :=
  (lp (fun s => mM s.1 s.2) (out3, cI)).bind (fun rr => BN rr)

noncomputable def vV (out3 : List aT) (cI : Int) : Option (List aT) :=
  BO out3 cI

noncomputable def vN (out3 : List aT) (cI : Int) (t12 : (List aA)) (t13 : Int) (t14 : Int) : Option ((List aT × Int × Int) ⊕ ((List aT × Int))) :=
  some (.inl (out3, cI, IntKind.i64.wrap (t14 + (1 : Int))))

noncomputable def mG (t12 : (List aA)) (t13 : Int) (t14 : Int) (t31 : Int) (out3 : List aT) (cI : Int) (j7 : aA) (t32 : Int) : Option ((List aT × Int × aA × Int) ⊕ ((List aT × Int))) :=
  cond (decide (t32 < t31))
  ((mT j7.At out3 cI).bind fun x30 =>
  some (.inl (x30.1, x30.2, j7, IntKind.i64.wrap (t32 + (1 : Int)))))
  (some (.inr (out3, cI)))

noncomputable def BR (out3 : List aT) (cI : Int) (j7 : aA) (t12 : (List aA)) (t13 : Int) (t14 : Int) (t31 : Int) (t32 : Int) : Option ((List aT × Int × Int) ⊕ ((List aT × Int))) :=
  (lp (fun s => mG t12 t13 t14 t31 s.1 s.2.1 s.2.2.1 s.2.2.2) (out3, cI, j7, t32)).bind (fun rr => vN rr.1 rr.2 t12 t13 t14)

noncomputable def wL (out3 : List aT) (cI : Int) (j7 : aA) (t12 : (List aA)) (t13 : Int) (t14 : Int) : Option ((List aT × Int × Int) ⊕ ((List aT × Int))) :=
  BR out3 cI j7 t12 t13 t14 (IntKind.i64.wrap (0 - j7.Net)) (0 : Int)

noncomputable def mK (t12 : (List aA)) (t13 : Int) (t14 : Int) (t19 : Int) (out3 : List aT) (cI : Int) (j7 : aA) (t20 : Int) : Option ((List aT × Int × aA × Int) ⊕ ((List aT × Int × aA))) :=
  cond (decide (t20 < t19))
  (bI ((List.length out3 + List.length ([aT.mk j7.At 0])) * 16 ≤ 140737488355328 ∧ List.length out3 + List.length ([aT.mk j7.At 0]) ≤ 9223372036854775807) <|
  some (.inl (out3 ++ ([aT.mk j7.At 0]), cI, j7, IntKind.i64.wrap (t20 + (1 : Int)))))
  (some (.inr (out3, cI, j7)))

noncomputable def BD (out3 : List aT) (cI : Int) (j7 : aA) (t12 : (List aA)) (t13 : Int) (t14 : Int) (t19 : Int) (t20 : Int) : Option ((List aT × Int × Int) ⊕ ((List aT × Int))) :=
  (lp (fun s => mK t12 t13 t14 t19 s.1 s.2.1 s.2.2.1 s.2.2.2) (out3, cI, j7, t20)).bind (fun rr => wL rr.1 rr.2.1 rr.2.2 t12 t13 t14)

noncomputable def oG (t12 : (List aA)) (t13 : Int) (out3 : List aT) (cI : Int) (t14 : Int) : Option ((List aT × Int × Int) ⊕ ((List aT × Int))) :=
  cond (decide (t14 < t13))
  (bI (0 ≤ t14 ∧ t14 < ((List.length t12 : Nat) : Int)) <|
  BD out3 cI (List.getD t12 (Int.toNat t14) default) t12 t13 t14 ((List.getD t12 (Int.toNat t14) default).Net) (0 : Int))
  (some (.inr (out3, cI)))

noncomputable def BA (out3 : List aT) (cI : Int) (t12 : (List aA)) (t13 : Int) (t14 : Int) : Option (List aT) :=
  (lp (fun s => oG t12 t13 s.1 s.2.1 s.2.2) (out3, cI, t14)).bind (fun rr => vV rr.1 rr.2)

noncomputable def xT (f0 : (List aA)) : Option (List aT) :=
  (tO f0).bind fun x1 =>
  bI (0 ≤ x1 ∧ (16 : Int) * x1 ≤ 281474976710656 ∧ x1 ≤ 9223372036854775807) <|
  BA ([] : List aT) (0 : Int) f0 ((List.length f0 : Nat) : Int) (0 : Int)

noncomputable def oY (l0 : (List aC)) (zO : (List aC)) (n4 : Int) (t22 : (List aG)) (t23 : (List aA)) : Option ((Int) ⊕ (Int)) :=
  (tO t23).bind fun x12 =>
  some (.inl (IntKind.i64.wrap (n4 + x12)))

noncomputable def mR (r8 : (List aG)) (t37 : (List aT)) (t38 : Int) (out7 : List aM) (t39 : Int) : Option ((List aM × Int) ⊕ ((List aM))) :=
  cond (decide (t39 < t38))
  (bI (0 ≤ t39 ∧ t39 < ((List.length t37 : Nat) : Int)) <|
  (vJ r8).bind fun x31 =>
  bI ((List.length out7 + List.length ([aM.mk x31 (List.getD t37 (Int.toNat t39) default)])) * 40 ≤ 140737488355328 ∧ List.length out7 + List.length ([aM.mk x31 (List.getD t37 (Int.toNat t39) default)]) ≤ 9223372036854775807) <|
  some (.inl (out7 ++ ([aM.mk x31 (List.getD t37 (Int.toNat t39) default)]), IntKind.i64.wrap (t39 + (1 : Int)))))
  (some (.inr out7))

noncomputable def uL (out7 : List aM) (r8 : (List aG)) (t37 : (List aT)) (t38 : Int) (t39 : Int) : Option ((List aM) ⊕ (List aM)) :=
  (lp (fun s => mR r8 t37 t38 s.1 s.2) (out7, t39)).bind (fun rr => some (.inl rr))

noncomputable def oZ (zP : (List aC)) (out7 : List aM) (t34 : (List aG)) (t35 : (List aA)) : Option ((List aM) ⊕ (List aM)) :=
  (xT t35).bind fun x23 =>
  uL out7 t34 x23 ((List.length x23 : Nat) : Int) (0 : Int)

noncomputable def uB (out7 : List aM) (zP : (List aC)) : Option ((List aM) × Int) :=
  (nR (fun st t34 t35 => rnd (fun (s : List aM) => oZ zP s t34 t35) st) zP (.inl out7)).bind (Sum.elim (fun (s : List aM) =>
  (some (s, (0 : Int))))
  (fun (s : List aM) =>
  (none)))

noncomputable def zN (l0 : (List aC)) (n4 : Int) (zO : (List aC)) : Option ((List aM) × Int) :=
  (nR (fun st t22 t23 => rnd (fun (s : Int) => oY l0 zO s t22 t23) st) zO (.inl n4)).bind (Sum.elim (fun (s : Int) =>
  (cond (decide ((4096 : Int) < s))
  (some ([], (7 : Int)))
  (bI (0 ≤ s ∧ (40 : Int) * s ≤ 281474976710656 ∧ s ≤ 9223372036854775807) <|
  (rZ l0).bind fun x20 =>
  uB ([] : List aM) x20)))
  (fun (s : Int) =>
  (none)))

noncomputable def wG (l0 : (List aC)) : Option ((List aM) × Int) :=
  (zF l0).bind fun x1 =>
  cond (!x1)
  (some ([], (2 : Int)))
  ((yI l0).bind fun x5 =>
  cond (!x5)
  (some ([], (20 : Int)))
  ((rZ l0).bind fun x10 =>
  zN l0 (0 : Int) x10))

noncomputable def tK (l0 : (List aM)) : Option ((List aM) × Int) :=
  (uU l0).bind fun x1 =>
  cond (!decide (x1.2 = (0 : Int)))
  (some ([], x1.2))
  ((wG x1.1).bind fun x5 =>
  some (x5.1, x5.2))

noncomputable def cR (eq2 : aM → aM → Option Bool)  : Option Bool :=
  some true

noncomputable def cG (eq2 : aM → aM → Option Bool) (s21 : (List aM)) (t15 : (List aM)) (t16 : Int) (t17 : Int) : Option ((Int) ⊕ (Unit ⊕ Bool)) :=
  cond (decide (t17 < t16))
  (bI (0 ≤ t17 ∧ t17 < ((List.length t15 : Nat) : Int)) <|
  bI (0 ≤ t17 ∧ t17 < ((List.length s21 : Nat) : Int)) <|
  (eq2 (List.getD t15 (Int.toNat t17) default) (List.getD s21 (Int.toNat t17) default)).bind fun x7 =>
  cond (!x7)
  (some (.inr (.inr false)))
  (some (.inl (IntKind.i64.wrap (t17 + (1 : Int))))))
  (some (.inr (.inl ())))

noncomputable def dD (eq2 : aM → aM → Option Bool) (s21 : (List aM)) (t15 : (List aM)) (t16 : Int) (t17 : Int) : Option Bool :=
  (lp (fun s => cG eq2 s21 t15 t16 s) t17).bind (Sum.elim (fun rr => cR eq2 ) (fun rr => some rr))

noncomputable def dF (s10 : (List aM)) (s21 : (List aM)) (eq2 : aM → aM → Option Bool) : Option Bool :=
  cond (!decide (((List.length s10 : Nat) : Int) = ((List.length s21 : Nat) : Int)))
  (some false)
  (dD eq2 s21 s10 ((List.length s10 : Nat) : Int) (0 : Int))

noncomputable def qF (x0 : aM) (y1 : aM) : Option Bool :=
  (cP ((decide (x0.Span.From = y1.Span.From)) && ((decide (x0.Span.To = y1.Span.To)) && true)) (yX x0.Row y1.Row)).bind fun x1 =>
  some (((decide (x0.Span.From = y1.Span.From)) && ((decide (x0.Span.To = y1.Span.To)) && true)) && x1)

noncomputable def tN (a0 : (List aM)) (b1 : (List aM)) : Option Bool :=
  (dF a0 b1 (fun y0 y1 => qF y0 y1)).bind fun x1 =>
  some x1

noncomputable def wP  : Option Bool :=
  some true

noncomputable def sC (a0 : (List aG)) (b1 : (List aG)) (i5 : Int) : Option ((Int) ⊕ (Unit ⊕ Bool)) :=
  cond (decide (i5 < ((List.length a0 : Nat) : Int)))
  (bI (0 ≤ i5 ∧ i5 < ((List.length a0 : Nat) : Int)) <|
  bI (0 ≤ i5 ∧ i5 < ((List.length b1 : Nat) : Int)) <|
  cond (!((decide (((List.getD a0 (Int.toNat i5) default).Kind) = ((List.getD b1 (Int.toNat i5) default).Kind))) && ((decide (((List.getD a0 (Int.toNat i5) default).Num) = ((List.getD b1 (Int.toNat i5) default).Num))) && ((pK ((List.getD a0 (Int.toNat i5) default).Text) ((List.getD b1 (Int.toNat i5) default).Text)) && true))))
  (some (.inr (.inr false)))
  (some (.inl (IntKind.i64.wrap (i5 + (1 : Int))))))
  (some (.inr (.inl ())))

noncomputable def BC (a0 : (List aG)) (b1 : (List aG)) (i5 : Int) : Option Bool :=
  (lp (fun s => sC a0 b1 s) i5).bind (Sum.elim (fun rr => wP ) (fun rr => some rr))

noncomputable def pQ (a0 : (List aG)) (b1 : (List aG)) : Option Bool :=
  cond (!decide (((List.length a0 : Nat) : Int) = ((List.length b1 : Nat) : Int)))
  (some false)
  (BC a0 b1 (0 : Int))

noncomputable def wT  : Option Bool :=
  some true

noncomputable def sO (a0 : (List aM)) (b1 : (List aM)) (i5 : Int) : Option ((Int) ⊕ (Unit ⊕ Bool)) :=
  cond (decide (i5 < ((List.length a0 : Nat) : Int)))
  (bI (0 ≤ i5 ∧ i5 < ((List.length a0 : Nat) : Int)) <|
  bI (0 ≤ i5 ∧ i5 < ((List.length b1 : Nat) : Int)) <|
  bI ((((!(!((decide ((((List.getD a0 (Int.toNat i5) default).Span).From) = (((List.getD b1 (Int.toNat i5) default).Span).From))) && ((decide ((((List.getD a0 (Int.toNat i5) default).Span).To) = (((List.getD b1 (Int.toNat i5) default).Span).To))) && true))))) = true → 0 ≤ i5 ∧ i5 < ((List.length a0 : Nat) : Int))) <|
  bI ((((!(!((decide ((((List.getD a0 (Int.toNat i5) default).Span).From) = (((List.getD b1 (Int.toNat i5) default).Span).From))) && ((decide ((((List.getD a0 (Int.toNat i5) default).Span).To) = (((List.getD b1 (Int.toNat i5) default).Span).To))) && true))))) = true → 0 ≤ i5 ∧ i5 < ((List.length b1 : Nat) : Int))) <|
  (cP (!(!((decide ((((List.getD a0 (Int.toNat i5) default).Span).From) = (((List.getD b1 (Int.toNat i5) default).Span).From))) && ((decide ((((List.getD a0 (Int.toNat i5) default).Span).To) = (((List.getD b1 (Int.toNat i5) default).Span).To))) && true)))) (pQ ((List.getD a0 (Int.toNat i5) default).Row) ((List.getD b1 (Int.toNat i5) default).Row))).bind fun x7 =>
  cond ((!((decide ((((List.getD a0 (Int.toNat i5) default).Span).From) = (((List.getD b1 (Int.toNat i5) default).Span).From))) && ((decide ((((List.getD a0 (Int.toNat i5) default).Span).To) = (((List.getD b1 (Int.toNat i5) default).Span).To))) && true))) || (!x7))
  (some (.inr (.inr false)))
  (some (.inl (IntKind.i64.wrap (i5 + (1 : Int))))))
  (some (.inr (.inl ())))

noncomputable def AT (a0 : (List aM)) (b1 : (List aM)) (i5 : Int) : Option Bool :=
  (lp (fun s => sO a0 b1 s) i5).bind (Sum.elim (fun rr => wT ) (fun rr => some rr))

noncomputable def rL (a0 : (List aM)) (b1 : (List aM)) : Option Bool :=
  cond (!decide (((List.length a0 : Nat) : Int) = ((List.length b1 : Nat) : Int)))
  (some false)
  (AT a0 b1 (0 : Int))

noncomputable def uV  : Option Bool :=
  (kI (5 : Int) (9 : Int)).bind fun x1 =>
  (kI (2 : Int) (5 : Int)).bind fun x4 =>
  (tK ([x1, x4])).bind fun x7 =>
  (kI (1 : Int) (10 : Int)).bind fun x10 =>
  (kI (3 : Int) (5 : Int)).bind fun x13 =>
  (tK ([x10, x13])).bind fun x16 =>
  (cP ((decide (x7.2 = (0 : Int))) && (decide (x16.2 = (0 : Int)))) (kI (2 : Int) (9 : Int))).bind fun x19 =>
  (cP ((decide (x7.2 = (0 : Int))) && (decide (x16.2 = (0 : Int)))) (tN x7.1 ([x19]))).bind fun x22 =>
  (cP (((decide (x7.2 = (0 : Int))) && (decide (x16.2 = (0 : Int)))) && x22) (kI (1 : Int) (5 : Int))).bind fun x25 =>
  (cP (((decide (x7.2 = (0 : Int))) && (decide (x16.2 = (0 : Int)))) && x22) (kI (3 : Int) (10 : Int))).bind fun x28 =>
  (cP (((decide (x7.2 = (0 : Int))) && (decide (x16.2 = (0 : Int)))) && x22) (rL x16.1 ([x25, x28]))).bind fun x31 =>
  (cP ((((decide (x7.2 = (0 : Int))) && (decide (x16.2 = (0 : Int)))) && x22) && x31) (kI (-1 : Int) (0 : Int))).bind fun x34 =>
  (cP ((((decide (x7.2 = (0 : Int))) && (decide (x16.2 = (0 : Int)))) && x22) && x31) (sS x34)).bind fun x37 =>
  (cP (((((decide (x7.2 = (0 : Int))) && (decide (x16.2 = (0 : Int)))) && x22) && x31) && x37) (kI (3 : Int) (3 : Int))).bind fun x40 =>
  (cP (((((decide (x7.2 = (0 : Int))) && (decide (x16.2 = (0 : Int)))) && x22) && x31) && x37) (sS x40)).bind fun x43 =>
  some ((((((decide (x7.2 = (0 : Int))) && (decide (x16.2 = (0 : Int)))) && x22) && x31) && x37) && (!x43))

noncomputable def tL (v0 : aG) : Option Bool :=
  cond (decide (v0.Kind = (1 : Int)))
  (some (pK v0.Text (⟨#[]⟩ : ByteArray)))
  (some (((decide (v0.Kind = (2 : Int))) && (decide (v0.Num = (0 : Int)))) && (decide (((ByteArray.size v0.Text : Nat) : Int) ≤ (64 : Int)))))

noncomputable def uN (r0 : (List aG)) : Option Bool :=
  some (decide (((List.length r0 : Nat) : Int) ≤ (8 : Int)))

noncomputable def rM (r0 : (List aG)) (i3 : Int) : Option ((Int) ⊕ (Unit ⊕ Bool)) :=
  cond ((decide (i3 < ((List.length r0 : Nat) : Int))) && (decide (i3 < (9 : Int))))
  (bI (0 ≤ i3 ∧ i3 < ((List.length r0 : Nat) : Int)) <|
  (tL (List.getD r0 (Int.toNat i3) default)).bind fun x3 =>
  cond (!x3)
  (some (.inr (.inr false)))
  (some (.inl (IntKind.i64.wrap (i3 + (1 : Int))))))
  (some (.inr (.inl ())))

noncomputable def DP (r0 : (List aG)) (i3 : Int) : Option Bool :=
  (lp (fun s => rM r0 s) i3).bind (Sum.elim (fun rr => uN r0) (fun rr => some rr))

noncomputable def pJ (r0 : (List aG)) : Option Bool :=
  DP r0 (0 : Int)

noncomputable def xN  : Option Bool :=
  some true

noncomputable def mF (f0 : (List aA)) (i3 : Int) : Option ((Int) ⊕ (Unit ⊕ Bool)) :=
  cond (decide (i3 < ((List.length f0 : Nat) : Int)))
  (bI (0 ≤ i3 ∧ i3 < ((List.length f0 : Nat) : Int)) <|
  bI ((((!(decide (((List.getD f0 (Int.toNat i3) default).At) < (-1 : Int))))) = true → 0 ≤ i3 ∧ i3 < ((List.length f0 : Nat) : Int))) <|
  bI ((((!((decide (((List.getD f0 (Int.toNat i3) default).At) < (-1 : Int))) || (decide ((1125899906842624 : Int) ≤ ((List.getD f0 (Int.toNat i3) default).At)))))) = true → 0 ≤ i3 ∧ i3 < ((List.length f0 : Nat) : Int))) <|
  bI ((((!(((decide (((List.getD f0 (Int.toNat i3) default).At) < (-1 : Int))) || (decide ((1125899906842624 : Int) ≤ ((List.getD f0 (Int.toNat i3) default).At)))) || (decide (((List.getD f0 (Int.toNat i3) default).Net) = (0 : Int)))))) = true → 0 ≤ i3 ∧ i3 < ((List.length f0 : Nat) : Int))) <|
  bI ((((!((((decide (((List.getD f0 (Int.toNat i3) default).At) < (-1 : Int))) || (decide ((1125899906842624 : Int) ≤ ((List.getD f0 (Int.toNat i3) default).At)))) || (decide (((List.getD f0 (Int.toNat i3) default).Net) = (0 : Int)))) || (decide ((1048576 : Int) < ((List.getD f0 (Int.toNat i3) default).Net)))))) = true → 0 ≤ i3 ∧ i3 < ((List.length f0 : Nat) : Int))) <|
  cond (((((decide (((List.getD f0 (Int.toNat i3) default).At) < (-1 : Int))) || (decide ((1125899906842624 : Int) ≤ ((List.getD f0 (Int.toNat i3) default).At)))) || (decide (((List.getD f0 (Int.toNat i3) default).Net) = (0 : Int)))) || (decide ((1048576 : Int) < ((List.getD f0 (Int.toNat i3) default).Net)))) || (decide (((List.getD f0 (Int.toNat i3) default).Net) < (-1048576 : Int))))
  (some (.inr (.inr false)))
  (bI ((((decide ((0 : Int) < i3))) = true → 0 ≤ i3 ∧ i3 < ((List.length f0 : Nat) : Int))) <|
  bI ((((decide ((0 : Int) < i3))) = true → 0 ≤ (IntKind.i64.wrap (i3 - (1 : Int))) ∧ (IntKind.i64.wrap (i3 - (1 : Int))) < ((List.length f0 : Nat) : Int))) <|
  cond ((decide ((0 : Int) < i3)) && (decide (((List.getD f0 (Int.toNat i3) default).At) ≤ ((List.getD f0 (Int.toNat (IntKind.i64.wrap (i3 - (1 : Int)))) default).At))))
  (some (.inr (.inr false)))
  (some (.inl (IntKind.i64.wrap (i3 + (1 : Int)))))))
  (some (.inr (.inl ())))

noncomputable def CZ (f0 : (List aA)) (i3 : Int) : Option Bool :=
  (lp (fun s => mF f0 s) i3).bind (Sum.elim (fun rr => xN ) (fun rr => some rr))

noncomputable def pL (f0 : (List aA)) : Option Bool :=
  cond (decide ((1024 : Int) < ((List.length f0 : Nat) : Int)))
  (some false)
  (CZ f0 (0 : Int))

noncomputable def rR (a2 : aG) (b3 : aG) : Option Int :=
  cond (!decide (((ByteArray.size a2.Text : Nat) : Int) = ((ByteArray.size b3.Text : Nat) : Int)))
  (cond (decide (((ByteArray.size a2.Text : Nat) : Int) < ((ByteArray.size b3.Text : Nat) : Int)))
  (some (-1 : Int))
  (some (1 : Int)))
  (some (0 : Int))

noncomputable def gN (a2 : aG) (b3 : aG) (i5 : Int) : Option ((Int) ⊕ (Unit ⊕ Int)) :=
  cond ((decide (i5 < ((ByteArray.size a2.Text : Nat) : Int))) && (decide (i5 < ((ByteArray.size b3.Text : Nat) : Int))))
  (bI (0 ≤ i5 ∧ i5 < ((ByteArray.size a2.Text : Nat) : Int)) <|
  bI (0 ≤ i5 ∧ i5 < ((ByteArray.size b3.Text : Nat) : Int)) <|
  cond (!decide ((bt a2.Text i5) = (bt b3.Text i5)))
  (bI (0 ≤ i5 ∧ i5 < ((ByteArray.size a2.Text : Nat) : Int)) <|
  bI (0 ≤ i5 ∧ i5 < ((ByteArray.size b3.Text : Nat) : Int)) <|
  cond (decide ((bt a2.Text i5) < (bt b3.Text i5)))
  (some (.inr (.inr (-1 : Int))))
  (some (.inr (.inr (1 : Int)))))
  (some (.inl (IntKind.i64.wrap (i5 + (1 : Int))))))
  (some (.inr (.inl ())))

noncomputable def vA (a2 : aG) (b3 : aG) (i5 : Int) : Option Int :=
  (lp (fun s => gN a2 b3 s) i5).bind (Sum.elim (fun rr => rR a2 b3) (fun rr => some rr))

noncomputable def sY (a0 : aG) (b1 : aG) : Option Int :=
  (tL a0).bind fun x1 =>
  (cP (!(!x1)) (tL b1)).bind fun x4 =>
  cond ((!x1) || (!x4))
  (some (0 : Int))
  (cond (!decide (a0.Kind = b1.Kind))
  (cond (decide (a0.Kind = (1 : Int)))
  (some (-1 : Int))
  (some (1 : Int)))
  (cond (!decide (a0.Num = b1.Num))
  (cond (decide (a0.Num < b1.Num))
  (some (-1 : Int))
  (some (1 : Int)))
  (vA a0 b1 (0 : Int))))

noncomputable def rI (a0 : (List aG)) (b1 : (List aG)) : Option Int :=
  cond (decide (((List.length a0 : Nat) : Int) < ((List.length b1 : Nat) : Int)))
  (some (-1 : Int))
  (cond (decide (((List.length b1 : Nat) : Int) < ((List.length a0 : Nat) : Int)))
  (some (1 : Int))
  (some (0 : Int)))

noncomputable def gM (a0 : (List aG)) (b1 : (List aG)) (i5 : Int) : Option ((Int) ⊕ (Unit ⊕ Int)) :=
  cond ((decide (i5 < ((List.length a0 : Nat) : Int))) && (decide (i5 < ((List.length b1 : Nat) : Int))))
  (bI (0 ≤ i5 ∧ i5 < ((List.length a0 : Nat) : Int)) <|
  bI (0 ≤ i5 ∧ i5 < ((List.length b1 : Nat) : Int)) <|
  (sY (List.getD a0 (Int.toNat i5) default) (List.getD b1 (Int.toNat i5) default)).bind fun x13 =>
  cond (!decide (x13 = (0 : Int)))
  (some (.inr (.inr x13)))
  (some (.inl (IntKind.i64.wrap (i5 + (1 : Int))))))
  (some (.inr (.inl ())))

noncomputable def uZ (a0 : (List aG)) (b1 : (List aG)) (i5 : Int) : Option Int :=
  (lp (fun s => gM a0 b1 s) i5).bind (Sum.elim (fun rr => rI a0 b1) (fun rr => some rr))

noncomputable def pX (a0 : (List aG)) (b1 : (List aG)) : Option Int :=
  (pJ a0).bind fun x1 =>
  (cP (!(!x1)) (pJ b1)).bind fun x4 =>
  cond ((!x1) || (!x4))
  (some (0 : Int))
  (uZ a0 b1 (0 : Int))

noncomputable def BP (bS : List (List aG)) : Option (List (List aG)) :=
  some bS

noncomputable def vS (l0 : (List aC)) (bS : List (List aG)) (i4 : Int) : Option ((List (List aG) × Int) ⊕ ((List (List aG)))) :=
  some (.inl (bS, IntKind.i64.wrap (i4 + (1 : Int))))

noncomputable def vZ (l0 : (List aC)) (bS : List (List aG)) (i4 : Int) (at5 : Int) : Option ((List (List aG) × Int) ⊕ ((List (List aG)))) :=
  bI ((((decide (at5 < ((List.length bS : Nat) : Int)))) = true → 0 ≤ at5 ∧ at5 < ((List.length bS : Nat) : Int))) <|
  bI ((((decide (at5 < ((List.length bS : Nat) : Int)))) = true → 0 ≤ i4 ∧ i4 < ((List.length l0 : Nat) : Int))) <|
  (cP (decide (at5 < ((List.length bS : Nat) : Int))) (pQ (List.getD bS (Int.toNat at5) default) ((List.getD l0 (Int.toNat i4) default).Row))).bind fun x10 =>
  cond ((decide (at5 < ((List.length bS : Nat) : Int))) && x10)
  (vS l0 bS i4)
  (bI (0 ≤ at5 ∧ at5 ≤ ((List.length bS : Nat) : Int)) <|
  bI (List.length (List.take (Int.toNat at5) bS) * 24 ≤ 140737488355328 ∧ List.length (List.take (Int.toNat at5) bS) ≤ 9223372036854775807) <|
  bI (0 ≤ i4 ∧ i4 < ((List.length l0 : Nat) : Int)) <|
  bI ((List.length (List.take (Int.toNat at5) bS) + List.length ([(List.getD l0 (Int.toNat i4) default).Row])) * 24 ≤ 140737488355328 ∧ List.length (List.take (Int.toNat at5) bS) + List.length ([(List.getD l0 (Int.toNat i4) default).Row]) ≤ 9223372036854775807) <|
  bI (0 ≤ at5 ∧ at5 ≤ ((List.length bS : Nat) : Int)) <|
  bI ((List.length ((List.take (Int.toNat at5) bS) ++ ([(List.getD l0 (Int.toNat i4) default).Row])) + List.length (List.drop (Int.toNat at5) bS)) * 24 ≤ 140737488355328 ∧ List.length ((List.take (Int.toNat at5) bS) ++ ([(List.getD l0 (Int.toNat i4) default).Row])) + List.length (List.drop (Int.toNat at5) bS) ≤ 9223372036854775807) <|
  vS l0 (((List.take (Int.toNat at5) bS) ++ ([(List.getD l0 (Int.toNat i4) default).Row])) ++ (List.drop (Int.toNat at5) bS)) i4)

noncomputable def mI (l0 : (List aC)) (i4 : Int) (bS : List (List aG)) (at5 : Int) : Option ((List (List aG) × Int) ⊕ ((List (List aG) × Int))) :=
  bI ((((decide (at5 < ((List.length bS : Nat) : Int)))) = true → 0 ≤ at5 ∧ at5 < ((List.length bS : Nat) : Int))) <|
  bI ((((decide (at5 < ((List.length bS : Nat) : Int)))) = true → 0 ≤ i4 ∧ i4 < ((List.length l0 : Nat) : Int))) <|
  (cP (decide (at5 < ((List.length bS : Nat) : Int))) (pX (List.getD bS (Int.toNat at5) default) ((List.getD l0 (Int.toNat i4) default).Row))).bind fun x27 =>
  cond ((decide (at5 < ((List.length bS : Nat) : Int))) && (decide (x27 < (0 : Int))))
  (some (.inl (bS, IntKind.i64.wrap (at5 + (1 : Int)))))
  (some (.inr (bS, at5)))

noncomputable def BL (l0 : (List aC)) (bS : List (List aG)) (i4 : Int) (at5 : Int) : Option ((List (List aG) × Int) ⊕ ((List (List aG)))) :=
  (lp (fun s => mI l0 i4 s.1 s.2) (bS, at5)).bind (fun rr => vZ l0 rr.1 i4 rr.2)

noncomputable def oE (l0 : (List aC)) (bS : List (List aG)) (i4 : Int) : Option ((List (List aG) × Int) ⊕ ((List (List aG)))) :=
  cond (decide (i4 < ((List.length l0 : Nat) : Int)))
  (BL l0 bS i4 (0 : Int))
  (some (.inr bS))

noncomputable def AV (l0 : (List aC)) (bS : List (List aG)) (i4 : Int) : Option (List (List aG)) :=
  (lp (fun s => oE l0 s.1 s.2) (bS, i4)).bind (fun rr => BP rr)

noncomputable def pS (l0 : (List aC)) : Option (List (List aG)) :=
  AV l0 ([] : List (List aG)) (0 : Int)

noncomputable def zK (f5 : List aA) : Option (List aA) :=
  some f5

noncomputable def uG (l0 : (List aC)) (r1 : (List aG)) (f5 : List aA) (i6 : Int) : Option ((List aA × Int) ⊕ ((List aA))) :=
  some (.inl (f5, IntKind.i64.wrap (i6 + (1 : Int))))

noncomputable def mY (l0 : (List aC)) (r1 : (List aG)) (f5 : List aA) (i6 : Int) : Option ((List aA × Int) ⊕ ((List aA))) :=
  cond (decide (i6 < ((List.length l0 : Nat) : Int)))
  (bI (0 ≤ i6 ∧ i6 < ((List.length l0 : Nat) : Int)) <|
  (pQ ((List.getD l0 (Int.toNat i6) default).Row) r1).bind fun x8 =>
  cond x8
  (bI (0 ≤ i6 ∧ i6 < ((List.length l0 : Nat) : Int)) <|
  bI (0 ≤ i6 ∧ i6 < ((List.length l0 : Nat) : Int)) <|
  bI ((List.length f5 + List.length ([aA.mk ((List.getD l0 (Int.toNat i6) default).At) ((List.getD l0 (Int.toNat i6) default).Net)])) * 16 ≤ 140737488355328 ∧ List.length f5 + List.length ([aA.mk ((List.getD l0 (Int.toNat i6) default).At) ((List.getD l0 (Int.toNat i6) default).Net)]) ≤ 9223372036854775807) <|
  uG l0 r1 (f5 ++ ([aA.mk ((List.getD l0 (Int.toNat i6) default).At) ((List.getD l0 (Int.toNat i6) default).Net)])) i6)
  (uG l0 r1 f5 i6))
  (some (.inr f5))

noncomputable def yZ (l0 : (List aC)) (r1 : (List aG)) (f5 : List aA) (i6 : Int) : Option (List aA) :=
  (lp (fun s => mY l0 r1 s.1 s.2) (f5, i6)).bind (fun rr => zK rr)

noncomputable def oF (l0 : (List aC)) (r1 : (List aG)) : Option (List aA) :=
  yZ l0 r1 ([] : List aA) (0 : Int)

noncomputable def DL  : Option Bool :=
  some true

noncomputable def rK (l0 : (List aC)) (cU : (List (List aG))) (i6 : Int) : Option ((Int) ⊕ (Unit ⊕ Bool)) :=
  cond (decide (i6 < ((List.length cU : Nat) : Int)))
  (bI (0 ≤ i6 ∧ i6 < ((List.length cU : Nat) : Int)) <|
  (oF l0 (List.getD cU (Int.toNat i6) default)).bind fun x7 =>
  cond (decide ((1024 : Int) < ((List.length x7 : Nat) : Int)))
  (some (.inr (.inr false)))
  (some (.inl (IntKind.i64.wrap (i6 + (1 : Int))))))
  (some (.inr (.inl ())))

noncomputable def DY (l0 : (List aC)) (cU : (List (List aG))) (i6 : Int) : Option Bool :=
  (lp (fun s => rK l0 cU s) i6).bind (Sum.elim (fun rr => DL ) (fun rr => some rr))

noncomputable def xY (l0 : (List aC)) : Option Bool :=
  (pS l0).bind fun x2 =>
  DY l0 x2 (0 : Int)

noncomputable def uR (l0 : (List aC)) (i3 : Int) : Option ((Int) ⊕ (Unit ⊕ Bool)) :=
  some (.inl (IntKind.i64.wrap (i3 + (1 : Int))))

noncomputable def pV (l0 : (List aC)) (i3 : Int) : Option ((Int) ⊕ (Unit ⊕ Bool)) :=
  cond (decide (i3 < ((List.length l0 : Nat) : Int)))
  (bI (0 ≤ i3 ∧ i3 < ((List.length l0 : Nat) : Int)) <|
  (pJ ((List.getD l0 (Int.toNat i3) default).Row)).bind fun x13 =>
  bI ((((!(!x13))) = true → 0 ≤ i3 ∧ i3 < ((List.length l0 : Nat) : Int))) <|
  bI ((((!(!x13))) = true → 0 ≤ i3 ∧ i3 < ((List.length l0 : Nat) : Int))) <|
  (cP (!(!x13)) (pL ([aA.mk ((List.getD l0 (Int.toNat i3) default).At) ((List.getD l0 (Int.toNat i3) default).Net)]))).bind fun x17 =>
  cond ((!x13) || (!x17))
  (some (.inr (.inr false)))
  (cond (decide (i3 = (0 : Int)))
  (uR l0 i3)
  (bI (0 ≤ (IntKind.i64.wrap (i3 - (1 : Int))) ∧ (IntKind.i64.wrap (i3 - (1 : Int))) < ((List.length l0 : Nat) : Int)) <|
  bI (0 ≤ i3 ∧ i3 < ((List.length l0 : Nat) : Int)) <|
  (pX ((List.getD l0 (Int.toNat (IntKind.i64.wrap (i3 - (1 : Int)))) default).Row) ((List.getD l0 (Int.toNat i3) default).Row)).bind fun x24 =>
  bI ((((decide (x24 = (0 : Int))) && (!(decide ((0 : Int) < x24)))) = true → 0 ≤ (IntKind.i64.wrap (i3 - (1 : Int))) ∧ (IntKind.i64.wrap (i3 - (1 : Int))) < ((List.length l0 : Nat) : Int))) <|
  bI ((((decide (x24 = (0 : Int))) && (!(decide ((0 : Int) < x24)))) = true → 0 ≤ i3 ∧ i3 < ((List.length l0 : Nat) : Int))) <|
  cond ((decide ((0 : Int) < x24)) || ((decide (x24 = (0 : Int))) && (decide (((List.getD l0 (Int.toNat i3) default).At) ≤ ((List.getD l0 (Int.toNat (IntKind.i64.wrap (i3 - (1 : Int)))) default).At)))))
  (some (.inr (.inr false)))
  (uR l0 i3))))
  (some (.inr (.inl ())))

noncomputable def DX (l0 : (List aC)) (i3 : Int) : Option Bool :=
  (lp (fun s => pV l0 s) i3).bind (Sum.elim (fun rr => xY l0) (fun rr => some rr))

noncomputable def xB (l0 : (List aC)) : Option Bool :=
  cond (decide ((4096 : Int) < ((List.length l0 : Nat) : Int)))
  (some false)
  (DX l0 (0 : Int))

noncomputable def uT (v5 : Int) : Option Int :=
  some v5

noncomputable def rA (f0 : (List aA)) (t1 : Int) (v5 : Int) (i6 : Int) : Option ((Int × Int) ⊕ (Int)) :=
  some (.inl (v5, IntKind.i64.wrap (i6 + (1 : Int))))

noncomputable def jW (f0 : (List aA)) (t1 : Int) (v5 : Int) (i6 : Int) : Option ((Int × Int) ⊕ (Int)) :=
  cond (decide (i6 < ((List.length f0 : Nat) : Int)))
  (bI (0 ≤ i6 ∧ i6 < ((List.length f0 : Nat) : Int)) <|
  cond (decide (((List.getD f0 (Int.toNat i6) default).At) ≤ t1))
  (bI (0 ≤ i6 ∧ i6 < ((List.length f0 : Nat) : Int)) <|
  rA f0 t1 (IntKind.i64.wrap (v5 + ((List.getD f0 (Int.toNat i6) default).Net))) i6)
  (rA f0 t1 v5 i6))
  (some (.inr v5))

noncomputable def zE (f0 : (List aA)) (t1 : Int) (v5 : Int) (i6 : Int) : Option Int :=
  (lp (fun s => jW f0 t1 s.1 s.2) (v5, i6)).bind (fun rr => uT rr)

noncomputable def mH (f0 : (List aA)) (t1 : Int) : Option Int :=
  zE f0 t1 (0 : Int) (0 : Int)

noncomputable def uF (m3 : Int) : Option Int :=
  some m3

noncomputable def uK (f0 : (List aA)) (m3 : Int) (i4 : Int) : Option ((Int × Int) ⊕ (Int)) :=
  some (.inl (m3, IntKind.i64.wrap (i4 + (1 : Int))))

noncomputable def mZ (f0 : (List aA)) (m3 : Int) (i4 : Int) : Option ((Int × Int) ⊕ (Int)) :=
  cond (decide (i4 < ((List.length f0 : Nat) : Int)))
  (bI (0 ≤ i4 ∧ i4 < ((List.length f0 : Nat) : Int)) <|
  (mH f0 ((List.getD f0 (Int.toNat i4) default).At)).bind fun x10 =>
  cond (decide (x10 < m3))
  (bI (0 ≤ i4 ∧ i4 < ((List.length f0 : Nat) : Int)) <|
  (mH f0 ((List.getD f0 (Int.toNat i4) default).At)).bind fun x15 =>
  uK f0 x15 i4)
  (uK f0 m3 i4))
  (some (.inr m3))

noncomputable def zG (f0 : (List aA)) (m3 : Int) (i4 : Int) : Option Int :=
  (lp (fun s => mZ f0 s.1 s.2) (m3, i4)).bind (fun rr => uF rr)

noncomputable def sI (f0 : (List aA)) : Option Int :=
  (pL f0).bind fun x1 =>
  cond (!x1)
  (some (0 : Int))
  ((mH f0 (-1 : Int)).bind fun x5 =>
  zG f0 x5 (0 : Int))

noncomputable def zR  : Option Bool :=
  some true

noncomputable def oX (l0 : (List aC)) (bS : (List (List aG))) (i4 : Int) : Option ((Int) ⊕ (Unit ⊕ Bool)) :=
  cond (decide (i4 < ((List.length bS : Nat) : Int)))
  (bI (0 ≤ i4 ∧ i4 < ((List.length bS : Nat) : Int)) <|
  (oF l0 (List.getD bS (Int.toNat i4) default)).bind fun x10 =>
  (sI x10).bind fun x13 =>
  cond (decide (x13 < (0 : Int)))
  (some (.inr (.inr false)))
  (some (.inl (IntKind.i64.wrap (i4 + (1 : Int))))))
  (some (.inr (.inl ())))

noncomputable def yY (l0 : (List aC)) (bS : (List (List aG))) (i4 : Int) : Option Bool :=
  (lp (fun s => oX l0 bS s) i4).bind (Sum.elim (fun rr => zR ) (fun rr => some rr))

noncomputable def vU (l0 : (List aC)) : Option Bool :=
  (xB l0).bind fun x1 =>
  cond (!x1)
  (some false)
  ((pS l0).bind fun x5 =>
  yY l0 x5 (0 : Int))

noncomputable def zD (eM : List aT) : Option ((List aT) × Int) :=
  some (eM, (0 : Int))

noncomputable def rE (bF : List Int) (bQ : List Int) (eM : List aT) (i12 : Int) (s13 : aT) : Option ((List Int × List Int × List aT × Int) ⊕ ((List aT))) :=
  bI ((List.length eM + List.length ([s13])) * 16 ≤ 140737488355328 ∧ List.length eM + List.length ([s13]) ≤ 9223372036854775807) <|
  some (.inl (bF, bQ, eM ++ ([s13]), IntKind.i64.wrap (i12 + (1 : Int))))

noncomputable def jV  (bF : List Int) (bQ : List Int) (eM : List aT) (i12 : Int) : Option ((List Int × List Int × List aT × Int) ⊕ ((List aT))) :=
  cond (decide (i12 < ((List.length bF : Nat) : Int)))
  (bI (0 ≤ i12 ∧ i12 < ((List.length bF : Nat) : Int)) <|
  cond (decide (i12 < ((List.length bQ : Nat) : Int)))
  (bI (0 ≤ i12 ∧ i12 < ((List.length bQ : Nat) : Int)) <|
  rE bF bQ eM i12 (aT.mk (aT.mk (List.getD bF (Int.toNat i12) default) (1125899906842624 : Int)).From (List.getD bQ (Int.toNat i12) default)))
  (rE bF bQ eM i12 (aT.mk (List.getD bF (Int.toNat i12) default) (1125899906842624 : Int))))
  (some (.inr eM))

noncomputable def tW (bF : List Int) (bQ : List Int) (eM : List aT) (i12 : Int) : Option ((List aT) × Int) :=
  (lp (fun s => jV s.1 s.2.1 s.2.2.1 s.2.2.2) (bF, bQ, eM, i12)).bind (fun rr => zD rr)

noncomputable def uO (bF : List Int) (bQ : List Int) : Option ((List aT) × Int) :=
  tW bF bQ ([] : List aT) (0 : Int)

noncomputable def tY (f0 : (List aA)) (bF : List Int) (bQ : List Int) (i8 : Int) : Option ((List Int × List Int × Int) ⊕ ((List Int × List Int))) :=
  some (.inl (bF, bQ, IntKind.i64.wrap (i8 + (1 : Int))))

noncomputable def mS (f0 : (List aA)) (i8 : Int) (bF : List Int) (bQ : List Int) (k10 : Int) : Option ((List Int × List Int × Int) ⊕ ((List Int × List Int))) :=
  bI (0 ≤ i8 ∧ i8 < ((List.length f0 : Nat) : Int)) <|
  cond (decide (k10 < (IntKind.i64.wrap (0 - ((List.getD f0 (Int.toNat i8) default).Net)))))
  (bI (0 ≤ i8 ∧ i8 < ((List.length f0 : Nat) : Int)) <|
  bI ((List.length bQ + List.length ([(List.getD f0 (Int.toNat i8) default).At])) * 8 ≤ 140737488355328 ∧ List.length bQ + List.length ([(List.getD f0 (Int.toNat i8) default).At]) ≤ 9223372036854775807) <|
  some (.inl (bF, bQ ++ ([(List.getD f0 (Int.toNat i8) default).At]), IntKind.i64.wrap (k10 + (1 : Int)))))
  (some (.inr (bF, bQ)))

noncomputable def zB (f0 : (List aA)) (bF : List Int) (bQ : List Int) (i8 : Int) (k10 : Int) : Option ((List Int × List Int × Int) ⊕ ((List Int × List Int))) :=
  (lp (fun s => mS f0 i8 s.1 s.2.1 s.2.2) (bF, bQ, k10)).bind (fun rr => tY f0 rr.1 rr.2 i8)

noncomputable def uD (f0 : (List aA)) (bF : List Int) (bQ : List Int) (i8 : Int) : Option ((List Int × List Int × Int) ⊕ ((List Int × List Int))) :=
  zB f0 bF bQ i8 (0 : Int)

noncomputable def lZ (f0 : (List aA)) (i8 : Int) (bF : List Int) (bQ : List Int) (k9 : Int) : Option ((List Int × List Int × Int) ⊕ ((List Int × List Int))) :=
  bI (0 ≤ i8 ∧ i8 < ((List.length f0 : Nat) : Int)) <|
  cond (decide (k9 < ((List.getD f0 (Int.toNat i8) default).Net)))
  (bI (0 ≤ i8 ∧ i8 < ((List.length f0 : Nat) : Int)) <|
  bI ((List.length bF + List.length ([(List.getD f0 (Int.toNat i8) default).At])) * 8 ≤ 140737488355328 ∧ List.length bF + List.length ([(List.getD f0 (Int.toNat i8) default).At]) ≤ 9223372036854775807) <|
  some (.inl (bF ++ ([(List.getD f0 (Int.toNat i8) default).At]), bQ, IntKind.i64.wrap (k9 + (1 : Int)))))
  (some (.inr (bF, bQ)))

noncomputable def xK (f0 : (List aA)) (bF : List Int) (bQ : List Int) (i8 : Int) (k9 : Int) : Option ((List Int × List Int × Int) ⊕ ((List Int × List Int))) :=
  (lp (fun s => lZ f0 i8 s.1 s.2.1 s.2.2) (bF, bQ, k9)).bind (fun rr => uD f0 rr.1 rr.2 i8)

noncomputable def mV (f0 : (List aA)) (bF : List Int) (bQ : List Int) (i8 : Int) : Option ((List Int × List Int × Int) ⊕ ((List Int × List Int))) :=
  cond (decide (i8 < ((List.length f0 : Nat) : Int)))
  (xK f0 bF bQ i8 (0 : Int))
  (some (.inr (bF, bQ)))

noncomputable def tZ (f0 : (List aA)) (bF : List Int) (bQ : List Int) (i8 : Int) : Option ((List aT) × Int) :=
  (lp (fun s => mV f0 s.1 s.2.1 s.2.2) (bF, bQ, i8)).bind (fun rr => uO rr.1 rr.2)

noncomputable def rB (f0 : (List aA)) (bF : List Int) (bQ : List Int) (n6 : Int) : Option ((List aT) × Int) :=
  cond (decide ((4096 : Int) < n6))
  (some ([], (7 : Int)))
  (tZ f0 bF bQ (0 : Int))

noncomputable def pZ (f0 : (List aA)) (bF : List Int) (bQ : List Int) (n6 : Int) (i7 : Int) : Option ((List Int × List Int × Int × Int) ⊕ ((List Int × List Int × Int))) :=
  some (.inl (bF, bQ, n6, IntKind.i64.wrap (i7 + (1 : Int))))

noncomputable def mA (f0 : (List aA)) (bF : List Int) (bQ : List Int) (n6 : Int) (i7 : Int) : Option ((List Int × List Int × Int × Int) ⊕ ((List Int × List Int × Int))) :=
  cond (decide (i7 < ((List.length f0 : Nat) : Int)))
  (bI (0 ≤ i7 ∧ i7 < ((List.length f0 : Nat) : Int)) <|
  cond (decide ((0 : Int) < ((List.getD f0 (Int.toNat i7) default).Net)))
  (bI (0 ≤ i7 ∧ i7 < ((List.length f0 : Nat) : Int)) <|
  pZ f0 bF bQ (IntKind.i64.wrap (n6 + ((List.getD f0 (Int.toNat i7) default).Net))) i7)
  (pZ f0 bF bQ n6 i7))
  (some (.inr (bF, bQ, n6)))

noncomputable def sX (f0 : (List aA)) (bF : List Int) (bQ : List Int) (n6 : Int) (i7 : Int) : Option ((List aT) × Int) :=
  (lp (fun s => mA f0 s.1 s.2.1 s.2.2.1 s.2.2.2) (bF, bQ, n6, i7)).bind (fun rr => rB f0 rr.1 rr.2.1 rr.2.2)

noncomputable def vO (f0 : (List aA)) : Option ((List aT) × Int) :=
  (pL f0).bind fun x1 =>
  cond (!x1)
  (some ([], (2 : Int)))
  ((sI f0).bind fun x5 =>
  cond (decide (x5 < (0 : Int)))
  (some ([], (20 : Int)))
  (sX f0 ([] : List Int) ([] : List Int) (0 : Int) (0 : Int)))

noncomputable def sQ (out4 : List aM) : Option ((List aM) × Int) :=
  some (out4, (0 : Int))

noncomputable def xL (l0 : (List aC)) (out4 : List aM) (cU : (List (List aG))) (i6 : Int) : Option ((List aM × Int) ⊕ ((List aM) ⊕ ((List aM) × Int))) :=
  some (.inl (out4, IntKind.i64.wrap (i6 + (1 : Int))))

noncomputable def pY (l0 : (List aC)) (out4 : List aM) (cU : (List (List aG))) (i6 : Int) : Option ((List aM × Int) ⊕ ((List aM) ⊕ ((List aM) × Int))) :=
  cond (decide ((4096 : Int) < ((List.length out4 : Nat) : Int)))
  (some (.inr (.inr ([], (7 : Int)))))
  (xL l0 out4 cU i6)

noncomputable def mC (l0 : (List aC)) (cU : (List (List aG))) (i6 : Int) (s7 : (List aT)) (out4 : List aM) (k9 : Int) : Option ((List aM × Int) ⊕ ((List aM))) :=
  cond (decide (k9 < ((List.length s7 : Nat) : Int)))
  (bI (0 ≤ i6 ∧ i6 < ((List.length cU : Nat) : Int)) <|
  bI (List.length (List.getD cU (Int.toNat i6) default) * 32 ≤ 140737488355328 ∧ List.length (List.getD cU (Int.toNat i6) default) ≤ 9223372036854775807) <|
  bI (0 ≤ k9 ∧ k9 < ((List.length s7 : Nat) : Int)) <|
  bI ((List.length out4 + List.length ([aM.mk (List.getD cU (Int.toNat i6) default) (List.getD s7 (Int.toNat k9) default)])) * 40 ≤ 140737488355328 ∧ List.length out4 + List.length ([aM.mk (List.getD cU (Int.toNat i6) default) (List.getD s7 (Int.toNat k9) default)]) ≤ 9223372036854775807) <|
  some (.inl (out4 ++ ([aM.mk (List.getD cU (Int.toNat i6) default) (List.getD s7 (Int.toNat k9) default)]), IntKind.i64.wrap (k9 + (1 : Int)))))
  (some (.inr out4))

noncomputable def tF (l0 : (List aC)) (out4 : List aM) (cU : (List (List aG))) (i6 : Int) (s7 : (List aT)) (k9 : Int) : Option ((List aM × Int) ⊕ ((List aM) ⊕ ((List aM) × Int))) :=
  (lp (fun s => mC l0 cU i6 s7 s.1 s.2) (out4, k9)).bind (fun rr => pY l0 rr cU i6)

noncomputable def jZ (l0 : (List aC)) (cU : (List (List aG))) (out4 : List aM) (i6 : Int) : Option ((List aM × Int) ⊕ ((List aM) ⊕ ((List aM) × Int))) :=
  cond (decide (i6 < ((List.length cU : Nat) : Int)))
  (bI (0 ≤ i6 ∧ i6 < ((List.length cU : Nat) : Int)) <|
  (oF l0 (List.getD cU (Int.toNat i6) default)).bind fun x19 =>
  (vO x19).bind fun x22 =>
  cond (!decide (x22.2 = (0 : Int)))
  (some (.inr (.inr ([], x22.2))))
  (tF l0 out4 cU i6 x22.1 (0 : Int)))
  (some (.inr (.inl out4)))

noncomputable def xJ (l0 : (List aC)) (out4 : List aM) (cU : (List (List aG))) (i6 : Int) : Option ((List aM) × Int) :=
  (lp (fun s => jZ l0 cU s.1 s.2) (out4, i6)).bind (Sum.elim (fun rr => sQ rr) (fun rr => some (rr.1, rr.2)))

noncomputable def uH (l0 : (List aC)) : Option ((List aM) × Int) :=
  (xB l0).bind fun x1 =>
  cond (!x1)
  (some ([], (2 : Int)))
  ((vU l0).bind fun x5 =>
  cond (!x5)
  (some ([], (20 : Int)))
  ((pS l0).bind fun x9 =>
  xJ l0 ([] : List aM) x9 (0 : Int)))

noncomputable def wJ  : Option Bool :=
  some true

noncomputable def sF (a0 : (List aC)) (b1 : (List aC)) (i5 : Int) : Option ((Int) ⊕ (Unit ⊕ Bool)) :=
  cond (decide (i5 < ((List.length a0 : Nat) : Int)))
  (bI (0 ≤ i5 ∧ i5 < ((List.length a0 : Nat) : Int)) <|
  bI (0 ≤ i5 ∧ i5 < ((List.length b1 : Nat) : Int)) <|
  bI ((((!(!decide (((List.getD a0 (Int.toNat i5) default).At) = ((List.getD b1 (Int.toNat i5) default).At))))) = true → 0 ≤ i5 ∧ i5 < ((List.length a0 : Nat) : Int))) <|
  bI ((((!(!decide (((List.getD a0 (Int.toNat i5) default).At) = ((List.getD b1 (Int.toNat i5) default).At))))) = true → 0 ≤ i5 ∧ i5 < ((List.length b1 : Nat) : Int))) <|
  bI ((((!((!decide (((List.getD a0 (Int.toNat i5) default).At) = ((List.getD b1 (Int.toNat i5) default).At))) || (!decide (((List.getD a0 (Int.toNat i5) default).Net) = ((List.getD b1 (Int.toNat i5) default).Net)))))) = true → 0 ≤ i5 ∧ i5 < ((List.length a0 : Nat) : Int))) <|
  bI ((((!((!decide (((List.getD a0 (Int.toNat i5) default).At) = ((List.getD b1 (Int.toNat i5) default).At))) || (!decide (((List.getD a0 (Int.toNat i5) default).Net) = ((List.getD b1 (Int.toNat i5) default).Net)))))) = true → 0 ≤ i5 ∧ i5 < ((List.length b1 : Nat) : Int))) <|
  (cP (!((!decide (((List.getD a0 (Int.toNat i5) default).At) = ((List.getD b1 (Int.toNat i5) default).At))) || (!decide (((List.getD a0 (Int.toNat i5) default).Net) = ((List.getD b1 (Int.toNat i5) default).Net))))) (pQ ((List.getD a0 (Int.toNat i5) default).Row) ((List.getD b1 (Int.toNat i5) default).Row))).bind fun x9 =>
  cond (((!decide (((List.getD a0 (Int.toNat i5) default).At) = ((List.getD b1 (Int.toNat i5) default).At))) || (!decide (((List.getD a0 (Int.toNat i5) default).Net) = ((List.getD b1 (Int.toNat i5) default).Net)))) || (!x9))
  (some (.inr (.inr false)))
  (some (.inl (IntKind.i64.wrap (i5 + (1 : Int))))))
  (some (.inr (.inl ())))

noncomputable def BX (a0 : (List aC)) (b1 : (List aC)) (i5 : Int) : Option Bool :=
  (lp (fun s => sF a0 b1 s) i5).bind (Sum.elim (fun rr => wJ ) (fun rr => some rr))

noncomputable def xQ (a0 : (List aC)) (b1 : (List aC)) : Option Bool :=
  cond (!decide (((List.length a0 : Nat) : Int) = ((List.length b1 : Nat) : Int)))
  (some false)
  (BX a0 b1 (0 : Int))

noncomputable def rS (t0 : Int) : Option Bool :=
  some ((decide ((0 : Int) ≤ t0)) && (decide (t0 ≤ (1125899906842624 : Int))))

noncomputable def FJ (s0 : aT) : Option Bool :=
  (rS s0.From).bind fun x1 =>
  (cP x1 (rS s0.To)).bind fun x4 =>
  some ((x1 && x4) && (decide (s0.From < s0.To)))

noncomputable def wV (p0 : aM) : Option Bool :=
  (pJ p0.Row).bind fun x1 =>
  cond (!x1)
  (some false)
  (cond (decide (p0.Span.From = (-1 : Int)))
  ((rS p0.Span.To).bind fun x6 =>
  some x6)
  ((FJ p0.Span).bind fun x9 =>
  some x9))

noncomputable def sG (out5 : List Int) : Option (List Int) :=
  some out5

noncomputable def sJ (t1 : Int) (out5 : List Int) (put6 : Bool) : Option (List Int) :=
  cond (!put6)
  (bI ((List.length out5 + List.length ([t1])) * 8 ≤ 140737488355328 ∧ List.length out5 + List.length ([t1]) ≤ 9223372036854775807) <|
  sG (out5 ++ ([t1])))
  (sG out5)

noncomputable def wU (l0 : (List Int)) (t1 : Int) (out5 : List Int) (put6 : Bool) (i7 : Int) : Option ((List Int × Bool × Int) ⊕ ((List Int × Bool) ⊕ (List Int))) :=
  bI (0 ≤ i7 ∧ i7 < ((List.length l0 : Nat) : Int)) <|
  bI ((List.length out5 + List.length ([List.getD l0 (Int.toNat i7) default])) * 8 ≤ 140737488355328 ∧ List.length out5 + List.length ([List.getD l0 (Int.toNat i7) default]) ≤ 9223372036854775807) <|
  some (.inl (out5 ++ ([List.getD l0 (Int.toNat i7) default]), put6, IntKind.i64.wrap (i7 + (1 : Int))))

noncomputable def iI (l0 : (List Int)) (t1 : Int) (out5 : List Int) (put6 : Bool) (i7 : Int) : Option ((List Int × Bool × Int) ⊕ ((List Int × Bool) ⊕ (List Int))) :=
  cond (decide (i7 < ((List.length l0 : Nat) : Int)))
  (bI (0 ≤ i7 ∧ i7 < ((List.length l0 : Nat) : Int)) <|
  cond (decide ((List.getD l0 (Int.toNat i7) default) = t1))
  (some (.inr (.inr l0)))
  (bI (0 ≤ i7 ∧ i7 < ((List.length l0 : Nat) : Int)) <|
  cond ((decide (t1 < (List.getD l0 (Int.toNat i7) default))) && (!put6))
  (bI ((List.length out5 + List.length ([t1])) * 8 ≤ 140737488355328 ∧ List.length out5 + List.length ([t1]) ≤ 9223372036854775807) <|
  wU l0 t1 (out5 ++ ([t1])) true i7)
  (wU l0 t1 out5 put6 i7)))
  (some (.inr (.inl (out5, put6))))

noncomputable def AX (l0 : (List Int)) (t1 : Int) (out5 : List Int) (put6 : Bool) (i7 : Int) : Option (List Int) :=
  (lp (fun s => iI l0 t1 s.1 s.2.1 s.2.2) (out5, put6, i7)).bind (Sum.elim (fun rr => sJ t1 rr.1 rr.2) (fun rr => some rr))

noncomputable def uE (l0 : (List Int)) (t1 : Int) : Option (List Int) :=
  AX l0 t1 ([] : List Int) false (0 : Int)

noncomputable def wS (f6 : List aA) : Option ((List aA) × Int) :=
  (pL f6).bind fun x2 =>
  cond (!x2)
  (some ([], (7 : Int)))
  (some (f6, (0 : Int)))

noncomputable def wQ (eF : (List Int)) (dJ : (List Int)) (f6 : List aA) (i8 : Int) : Option ((List aA × Int × Int) ⊕ ((List aA))) :=
  bI (0 ≤ i8 ∧ i8 < ((List.length dJ : Nat) : Int)) <|
  some (.inl (f6, List.getD dJ (Int.toNat i8) default, IntKind.i64.wrap (i8 + (1 : Int))))

noncomputable def nX (eF : (List Int)) (dJ : (List Int)) (f6 : List aA) (was7 : Int) (i8 : Int) : Option ((List aA × Int × Int) ⊕ ((List aA))) :=
  cond (decide (i8 < ((List.length eF : Nat) : Int)))
  (bI (0 ≤ i8 ∧ i8 < ((List.length dJ : Nat) : Int)) <|
  cond (!decide ((List.getD dJ (Int.toNat i8) default) = was7))
  (bI (0 ≤ i8 ∧ i8 < ((List.length eF : Nat) : Int)) <|
  bI (0 ≤ i8 ∧ i8 < ((List.length dJ : Nat) : Int)) <|
  bI ((List.length f6 + List.length ([aA.mk (List.getD eF (Int.toNat i8) default) (IntKind.i64.wrap ((List.getD dJ (Int.toNat i8) default) - was7))])) * 16 ≤ 140737488355328 ∧ List.length f6 + List.length ([aA.mk (List.getD eF (Int.toNat i8) default) (IntKind.i64.wrap ((List.getD dJ (Int.toNat i8) default) - was7))]) ≤ 9223372036854775807) <|
  wQ eF dJ (f6 ++ ([aA.mk (List.getD eF (Int.toNat i8) default) (IntKind.i64.wrap ((List.getD dJ (Int.toNat i8) default) - was7))])) i8)
  (wQ eF dJ f6 i8))
  (some (.inr f6))

noncomputable def BJ (eF : (List Int)) (dJ : (List Int)) (f6 : List aA) (was7 : Int) (i8 : Int) : Option ((List aA) × Int) :=
  (lp (fun s => nX eF dJ s.1 s.2.1 s.2.2) (f6, was7, i8)).bind (fun rr => wS rr)

noncomputable def yR (eF : (List Int)) (dJ : (List Int)) : Option ((List aA) × Int) :=
  BJ eF dJ ([] : List aA) (0 : Int) (0 : Int)

noncomputable def vP (cO : (List Int)) (eW : List Int) : Option ((List aA) × Int) :=
  (yR cO eW).bind fun x2 =>
  some (x2.1, x2.2)

noncomputable def nV (l0 : (List aA)) (cO : (List Int)) (eW : List Int) (i8 : Int) : Option ((List Int × Int) ⊕ ((List Int))) :=
  cond (decide (i8 < ((List.length cO : Nat) : Int)))
  (bI (0 ≤ i8 ∧ i8 < ((List.length cO : Nat) : Int)) <|
  (mH l0 (List.getD cO (Int.toNat i8) default)).bind fun x9 =>
  bI ((List.length eW + List.length ([x9])) * 8 ≤ 140737488355328 ∧ List.length eW + List.length ([x9]) ≤ 9223372036854775807) <|
  some (.inl (eW ++ ([x9]), IntKind.i64.wrap (i8 + (1 : Int)))))
  (some (.inr eW))

noncomputable def BY (l0 : (List aA)) (cO : (List Int)) (eW : List Int) (i8 : Int) : Option ((List aA) × Int) :=
  (lp (fun s => nV l0 cO s.1 s.2) (eW, i8)).bind (fun rr => vP cO rr)

noncomputable def wO (l0 : (List aA)) (cO : (List Int)) : Option ((List aA) × Int) :=
  BY l0 cO ([] : List Int) (0 : Int)

noncomputable def vY (l0 : (List aA)) (cO : (List Int)) (i6 : Int) : Option (((List Int) × Int) ⊕ ((List Int) ⊕ ((List aA) × Int))) :=
  some (.inl (cO, IntKind.i64.wrap (i6 + (1 : Int))))

noncomputable def jN (l0 : (List aA)) (cO : (List Int)) (i6 : Int) : Option (((List Int) × Int) ⊕ ((List Int) ⊕ ((List aA) × Int))) :=
  cond (decide (i6 < ((List.length l0 : Nat) : Int)))
  (bI (0 ≤ i6 ∧ i6 < ((List.length l0 : Nat) : Int)) <|
  bI ((((!(decide (((List.getD l0 (Int.toNat i6) default).At) < (-1 : Int))))) = true → 0 ≤ i6 ∧ i6 < ((List.length l0 : Nat) : Int))) <|
  cond ((decide (((List.getD l0 (Int.toNat i6) default).At) < (-1 : Int))) || (decide ((1125899906842624 : Int) < ((List.getD l0 (Int.toNat i6) default).At))))
  (some (.inr (.inr ([], (13 : Int)))))
  (bI (0 ≤ i6 ∧ i6 < ((List.length l0 : Nat) : Int)) <|
  cond (decide (((List.getD l0 (Int.toNat i6) default).At) < (1125899906842624 : Int)))
  (bI (0 ≤ i6 ∧ i6 < ((List.length l0 : Nat) : Int)) <|
  (uE cO ((List.getD l0 (Int.toNat i6) default).At)).bind fun x24 =>
  vY l0 x24 i6)
  (vY l0 cO i6)))
  (some (.inr (.inl cO)))

noncomputable def BT (l0 : (List aA)) (cO : (List Int)) (i6 : Int) : Option ((List aA) × Int) :=
  (lp (fun s => jN l0 s.1 s.2) (cO, i6)).bind (Sum.elim (fun rr => wO l0 rr) (fun rr => some (rr.1, rr.2)))

noncomputable def vM (l0 : (List aA)) : Option ((List aA) × Int) :=
  BT l0 ([]) (0 : Int)

noncomputable def qI (l0 : (List aA)) (i4 : Int) : Option ((Int) ⊕ (Unit ⊕ ((List aA) × Int))) :=
  cond (decide (i4 < ((List.length l0 : Nat) : Int)))
  (bI (0 ≤ i4 ∧ i4 < ((List.length l0 : Nat) : Int)) <|
  bI ((((!(decide ((1048576 : Int) < ((List.getD l0 (Int.toNat i4) default).Net))))) = true → 0 ≤ i4 ∧ i4 < ((List.length l0 : Nat) : Int))) <|
  cond ((decide ((1048576 : Int) < ((List.getD l0 (Int.toNat i4) default).Net))) || (decide (((List.getD l0 (Int.toNat i4) default).Net) < (-1048576 : Int))))
  (some (.inr (.inr ([], (2 : Int)))))
  (some (.inl (IntKind.i64.wrap (i4 + (1 : Int))))))
  (some (.inr (.inl ())))

noncomputable def BM (l0 : (List aA)) (i4 : Int) : Option ((List aA) × Int) :=
  (lp (fun s => qI l0 s) i4).bind (Sum.elim (fun rr => vM l0) (fun rr => some (rr.1, rr.2)))

noncomputable def xU (l0 : (List aA)) : Option ((List aA) × Int) :=
  BM l0 (0 : Int)

noncomputable def DH (l0 : List aC) : Option (List aC) :=
  some l0

noncomputable def pN (r1 : (List aG)) (f2 : (List aA)) (l0 : List aC) (i7 : Int) : Option ((List aC × Int) ⊕ ((List aC))) :=
  cond (decide (i7 < ((List.length f2 : Nat) : Int)))
  (bI (List.length r1 * 32 ≤ 140737488355328 ∧ List.length r1 ≤ 9223372036854775807) <|
  bI (0 ≤ i7 ∧ i7 < ((List.length f2 : Nat) : Int)) <|
  bI (0 ≤ i7 ∧ i7 < ((List.length f2 : Nat) : Int)) <|
  bI ((List.length l0 + List.length ([aC.mk r1 ((List.getD f2 (Int.toNat i7) default).At) ((List.getD f2 (Int.toNat i7) default).Net)])) * 40 ≤ 140737488355328 ∧ List.length l0 + List.length ([aC.mk r1 ((List.getD f2 (Int.toNat i7) default).At) ((List.getD f2 (Int.toNat i7) default).Net)]) ≤ 9223372036854775807) <|
  some (.inl (l0 ++ ([aC.mk r1 ((List.getD f2 (Int.toNat i7) default).At) ((List.getD f2 (Int.toNat i7) default).Net)]), IntKind.i64.wrap (i7 + (1 : Int)))))
  (some (.inr l0))

noncomputable def DF (l0 : List aC) (r1 : (List aG)) (f2 : (List aA)) (i7 : Int) : Option (List aC) :=
  (lp (fun s => pN r1 f2 s.1 s.2) (l0, i7)).bind (fun rr => DH rr)

noncomputable def AH (l0 : (List aC)) (r1 : (List aG)) (f2 : (List aA)) : Option (List aC) :=
  DF l0 r1 f2 (0 : Int)

noncomputable def sP (out6 : List aC) : Option ((List aC) × Int) :=
  cond (decide ((4096 : Int) < ((List.length out6 : Nat) : Int)))
  (some ([], (7 : Int)))
  (some (out6, (0 : Int)))

noncomputable def oC (l0 : (List aC)) (oP : (List (List aG))) (out6 : List aC) (i8 : Int) : Option ((List aC × Int) ⊕ ((List aC) ⊕ ((List aC) × Int))) :=
  cond (decide (i8 < ((List.length oP : Nat) : Int)))
  (bI (0 ≤ i8 ∧ i8 < ((List.length oP : Nat) : Int)) <|
  (oF l0 (List.getD oP (Int.toNat i8) default)).bind fun x11 =>
  (xU x11).bind fun x14 =>
  cond (!decide (x14.2 = (0 : Int)))
  (some (.inr (.inr ([], x14.2))))
  (bI (0 ≤ i8 ∧ i8 < ((List.length oP : Nat) : Int)) <|
  (AH out6 (List.getD oP (Int.toNat i8) default) x14.1).bind fun x19 =>
  some (.inl (x19, IntKind.i64.wrap (i8 + (1 : Int))))))
  (some (.inr (.inl out6)))

noncomputable def BH (l0 : (List aC)) (out6 : List aC) (oP : (List (List aG))) (i8 : Int) : Option ((List aC) × Int) :=
  (lp (fun s => oC l0 oP s.1 s.2) (out6, i8)).bind (Sum.elim (fun rr => sP rr) (fun rr => some (rr.1, rr.2)))

noncomputable def wM (l0 : (List aC)) : Option ((List aC) × Int) :=
  (pS l0).bind fun x1 =>
  BH l0 ([] : List aC) x1 (0 : Int)

noncomputable def qE (l0 : (List aC)) (i5 : Int) : Option ((Int) ⊕ (Unit ⊕ ((List aC) × Int))) :=
  cond (decide (i5 < ((List.length l0 : Nat) : Int)))
  (bI (0 ≤ i5 ∧ i5 < ((List.length l0 : Nat) : Int)) <|
  bI ((((!(decide (((List.getD l0 (Int.toNat i5) default).At) < (-1 : Int))))) = true → 0 ≤ i5 ∧ i5 < ((List.length l0 : Nat) : Int))) <|
  cond ((decide (((List.getD l0 (Int.toNat i5) default).At) < (-1 : Int))) || (decide ((1125899906842624 : Int) < ((List.getD l0 (Int.toNat i5) default).At))))
  (some (.inr (.inr ([], (13 : Int)))))
  (some (.inl (IntKind.i64.wrap (i5 + (1 : Int))))))
  (some (.inr (.inl ())))

noncomputable def CA (l0 : (List aC)) (i5 : Int) : Option ((List aC) × Int) :=
  (lp (fun s => qE l0 s) i5).bind (Sum.elim (fun rr => wM l0) (fun rr => some (rr.1, rr.2)))

noncomputable def wI (l0 : (List aC)) : Option ((List aC) × Int) :=
  CA l0 (0 : Int)

noncomputable def qG (l0 : (List aC)) (i4 : Int) : Option ((Int) ⊕ (Unit ⊕ ((List aC) × Int))) :=
  cond (decide (i4 < ((List.length l0 : Nat) : Int)))
  (bI (0 ≤ i4 ∧ i4 < ((List.length l0 : Nat) : Int)) <|
  (pJ ((List.getD l0 (Int.toNat i4) default).Row)).bind fun x30 =>
  bI ((((!(!x30))) = true → 0 ≤ i4 ∧ i4 < ((List.length l0 : Nat) : Int))) <|
  bI ((((!((!x30) || (decide ((1048576 : Int) < ((List.getD l0 (Int.toNat i4) default).Net)))))) = true → 0 ≤ i4 ∧ i4 < ((List.length l0 : Nat) : Int))) <|
  cond (((!x30) || (decide ((1048576 : Int) < ((List.getD l0 (Int.toNat i4) default).Net)))) || (decide (((List.getD l0 (Int.toNat i4) default).Net) < (-1048576 : Int))))
  (some (.inr (.inr ([], (2 : Int)))))
  (some (.inl (IntKind.i64.wrap (i4 + (1 : Int))))))
  (some (.inr (.inl ())))

noncomputable def BB (l0 : (List aC)) (i4 : Int) : Option ((List aC) × Int) :=
  (lp (fun s => qG l0 s) i4).bind (Sum.elim (fun rr => wI l0) (fun rr => some (rr.1, rr.2)))

noncomputable def yS (l0 : (List aC)) : Option ((List aC) × Int) :=
  BB l0 (0 : Int)

noncomputable def tX (all4 : List aC) : Option ((List aC) × Int) :=
  (yS all4).bind fun x4 =>
  some (x4.1, x4.2)

noncomputable def mX (l0 : (List aM)) (all4 : List aC) (i6 : Int) : Option ((List aC × Int) ⊕ ((List aC))) :=
  cond (decide (i6 < ((List.length l0 : Nat) : Int)))
  (bI (0 ≤ i6 ∧ i6 < ((List.length l0 : Nat) : Int)) <|
  bI (0 ≤ i6 ∧ i6 < ((List.length l0 : Nat) : Int)) <|
  bI ((List.length all4 + List.length ([aC.mk ((List.getD l0 (Int.toNat i6) default).Row) (((List.getD l0 (Int.toNat i6) default).Span).From) (1 : Int)])) * 40 ≤ 140737488355328 ∧ List.length all4 + List.length ([aC.mk ((List.getD l0 (Int.toNat i6) default).Row) (((List.getD l0 (Int.toNat i6) default).Span).From) (1 : Int)]) ≤ 9223372036854775807) <|
  bI (0 ≤ i6 ∧ i6 < ((List.length l0 : Nat) : Int)) <|
  bI (0 ≤ i6 ∧ i6 < ((List.length l0 : Nat) : Int)) <|
  bI ((List.length (all4 ++ ([aC.mk ((List.getD l0 (Int.toNat i6) default).Row) (((List.getD l0 (Int.toNat i6) default).Span).From) (1 : Int)])) + List.length ([aC.mk ((List.getD l0 (Int.toNat i6) default).Row) (((List.getD l0 (Int.toNat i6) default).Span).To) (-1 : Int)])) * 40 ≤ 140737488355328 ∧ List.length (all4 ++ ([aC.mk ((List.getD l0 (Int.toNat i6) default).Row) (((List.getD l0 (Int.toNat i6) default).Span).From) (1 : Int)])) + List.length ([aC.mk ((List.getD l0 (Int.toNat i6) default).Row) (((List.getD l0 (Int.toNat i6) default).Span).To) (-1 : Int)]) ≤ 9223372036854775807) <|
  some (.inl ((all4 ++ ([aC.mk ((List.getD l0 (Int.toNat i6) default).Row) (((List.getD l0 (Int.toNat i6) default).Span).From) (1 : Int)])) ++ ([aC.mk ((List.getD l0 (Int.toNat i6) default).Row) (((List.getD l0 (Int.toNat i6) default).Span).To) (-1 : Int)]), IntKind.i64.wrap (i6 + (1 : Int)))))
  (some (.inr all4))

noncomputable def zC (l0 : (List aM)) (all4 : List aC) (i6 : Int) : Option ((List aC) × Int) :=
  (lp (fun s => mX l0 s.1 s.2) (all4, i6)).bind (fun rr => tX rr)

noncomputable def uJ (l0 : (List aM)) (all4 : List aC) : Option ((List aC) × Int) :=
  cond (decide ((4096 : Int) < ((List.length l0 : Nat) : Int)))
  (some ([], (7 : Int)))
  (zC l0 all4 (0 : Int))

noncomputable def oV (l0 : (List aM)) (all4 : List aC) (i5 : Int) : Option ((List aC × Int) ⊕ ((List aC) ⊕ ((List aC) × Int))) :=
  cond (decide (i5 < ((List.length l0 : Nat) : Int)))
  (bI (0 ≤ i5 ∧ i5 < ((List.length l0 : Nat) : Int)) <|
  (wV (List.getD l0 (Int.toNat i5) default)).bind fun x22 =>
  cond (!x22)
  (some (.inr (.inr ([], (2 : Int)))))
  (some (.inl (all4, IntKind.i64.wrap (i5 + (1 : Int))))))
  (some (.inr (.inl all4)))

noncomputable def zL (l0 : (List aM)) (all4 : List aC) (i5 : Int) : Option ((List aC) × Int) :=
  (lp (fun s => oV l0 s.1 s.2) (all4, i5)).bind (Sum.elim (fun rr => uJ l0 rr) (fun rr => some (rr.1, rr.2)))

noncomputable def sM (l0 : (List aM)) : Option ((List aC) × Int) :=
  zL l0 ([] : List aC) (0 : Int)

noncomputable def yU (l0 : (List aM)) : Option ((List aM) × Int) :=
  (sM l0).bind fun x1 =>
  cond (!decide (x1.2 = (0 : Int)))
  (some ([], x1.2))
  ((uH x1.1).bind fun x5 =>
  some (x5.1, x5.2))

noncomputable def pO (a3 : (List aC)) (e4 : Int) (b5 : (List aC)) (f6 : Int) (c7 : (List aM)) (g8 : Int) (d9 : (List aM)) (h10 : Int) : Option Bool :=
  (uV ).bind fun x20 =>
  (cP (x20 && (decide (e4 = f6))) (xQ a3 b5)).bind fun x23 =>
  (cP (((x20 && (decide (e4 = f6))) && x23) && (decide (g8 = h10))) (rL c7 d9)).bind fun x26 =>
  (cP ((((x20 && (decide (e4 = f6))) && x23) && (decide (g8 = h10))) && x26) (tN c7 d9)).bind fun x29 =>
  some (((((x20 && (decide (e4 = f6))) && x23) && (decide (g8 = h10))) && x26) && x29)

noncomputable def kH (l0 : (List aM)) (a3 : (List aC)) (e4 : Int) (b5 : (List aC)) (f6 : Int) (c7 : (List aM)) (g8 : Int) (d9 : (List aM)) (h10 : Int) (i11 : Int) : Option ((Int) ⊕ (Unit ⊕ Bool)) :=
  cond (decide (i11 < ((List.length l0 : Nat) : Int)))
  (bI (0 ≤ i11 ∧ i11 < ((List.length l0 : Nat) : Int)) <|
  (sS (List.getD l0 (Int.toNat i11) default)).bind fun x34 =>
  bI (0 ≤ i11 ∧ i11 < ((List.length l0 : Nat) : Int)) <|
  (wV (List.getD l0 (Int.toNat i11) default)).bind fun x38 =>
  cond (!(x34 == x38))
  (some (.inr (.inr false)))
  (some (.inl (IntKind.i64.wrap (i11 + (1 : Int))))))
  (some (.inr (.inl ())))

noncomputable def sZ (l0 : (List aM)) (a3 : (List aC)) (e4 : Int) (b5 : (List aC)) (f6 : Int) (c7 : (List aM)) (g8 : Int) (d9 : (List aM)) (h10 : Int) (i11 : Int) : Option Bool :=
  (lp (fun s => kH l0 a3 e4 b5 f6 c7 g8 d9 h10 s) i11).bind (Sum.elim (fun rr => pO a3 e4 b5 f6 c7 g8 d9 h10) (fun rr => some rr))

noncomputable def tS (l0 : (List aM)) : Option Bool :=
  (FC ((List.length l0 : Nat) : Int)).bind fun x1 =>
  cond (!x1)
  ((uV ).bind fun x5 =>
  some x5)
  ((uU l0).bind fun x8 =>
  (sM l0).bind fun x11 =>
  (tK l0).bind fun x14 =>
  (yU l0).bind fun x17 =>
  sZ l0 x8.1 x8.2 x11.1 x11.2 x14.1 x14.2 x17.1 x17.2 (0 : Int))

end Go.Abs
namespace Go.Abs
open Go Go.RowKit
def HO (x : aG) : Prop := KV x.Kind ∧ KV x.Num ∧ (fun s => s.size ≤ maxLen) x.Text ∧ True

def EU (x : aT) : Prop := KV x.From ∧ KV x.To ∧ True

def yH (x : aM) : Prop := (fun l => (∀ a ∈ l, HO a) ∧ l.length * 32 ≤ 140737488351232) x.Row ∧ EU x.Span ∧ True

end Go.Abs
namespace Go.Abs
open Go Go.RowKit Go.Proofs
noncomputable def tt : TT := ⟨aBW Tryz.prog, YR Tryz.prog⟩

theorem aF : fB Tryz.prog tt := fB.of Tryz.prog

theorem aAF (n0 : Int) (r : Bool) (h0 : FC n0 = some r) : bY Tryz.prog 5 [(eI n0)] (aK r) := by
  intro H0
  refine cF Tryz.func5 ?_
  have hO := aN.start H0
  unfold FC at h0
  refine aY aF 1 [] [] ?_
  refine bV aF 3 [(2, (aK (decide (n0 ≤ (60 : Int)))))] ?_
  refine bK ?_
  obtain rfl := oI h0
  exact aJ (Q_r hO)

theorem pI (qB : Int) (to1 : Int) (r : aM) (h0 : kI qB to1 = some r) : bY Tryz.prog 18 [(eI qB), (eI to1)] (aL r) := by
  intro H0
  refine JM aF Tryz.func18 (by kernel_rfl) (by kernel_rfl) (by kernel_rfl) ?_
  have hO := aN.start H0
  unfold kI at h0
  refine aO ?_
  refine aU aF 1 ?_
  refine vG 3 (.agg [(.sl true 0 (fun _ => .bad)), (eI 0), (eI 0)]) (aL (aM.mk ([]) (aT.mk 0 0))) (by kernel_rfl) (by kernel_rfl) (by kernel_rfl) (LX (xs := [(.sl true 0 (fun _ => .bad)), (eI 0), (eI 0)]) (ys := [(eL aI ([])), (eI 0), (eI 0)]) ⟨dG, aZ.refl _, aZ.refl _, trivial⟩) (by kernel_rfl) (by kernel_rfl) hO ?_
  intro lo1 H hO
  refine cW ?_
  refine bT [] [(4, (.lp lo1 0 0))] ?_
  refine aO ?_
  refine aU aF 7 ?_
  refine bR 1 ?_
  refine iM (xs := [(aI (aG.mk (1 : Int) (1 : Int) ByteArray.empty))]) (k := 3) (by kernel_rfl) (by kernel_rfl) ?_
  refine bR 6 ?_
  refine kB 0 lo1 3 0 (aL (aM.mk ([]) (aT.mk 0 0))) (.agg [(cZ [(aI (aG.mk (1 : Int) (1 : Int) ByteArray.empty))]), (eI ((aT.mk qB to1).From)), (eI ((aT.mk qB to1).To))]) [(aL (aM.mk ([]) (aT.mk 0 0)))] [(lo1, 3, [(.agg [(cZ [(aI (aG.mk (1 : Int) (1 : Int) ByteArray.empty))]), (eI ((aT.mk qB to1).From)), (eI ((aT.mk qB to1).To))])])] hO rfl (by kernel_rfl) ?_
  intro H hO
  refine cW ?_
  refine QC 0 lo1 3 (.agg [(cZ [(aI (aG.mk (1 : Int) (1 : Int) ByteArray.empty))]), (eI ((aT.mk qB to1).From)), (eI ((aT.mk qB to1).To))]) (aL (aM.mk ([aG.mk (1 : Int) (1 : Int) ByteArray.empty]) (aT.mk qB to1))) [(lo1, 3, [(aL (aM.mk ([aG.mk (1 : Int) (1 : Int) ByteArray.empty]) (aT.mk qB to1)))])] hO (by kernel_rfl) (by kernel_rfl) (LX (xs := [(cZ [(aI (aG.mk (1 : Int) (1 : Int) ByteArray.empty))]), (eI ((aT.mk qB to1).From)), (eI ((aT.mk qB to1).To))]) (ys := [(eL aI ([aG.mk (1 : Int) (1 : Int) ByteArray.empty])), (eI ((aT.mk qB to1).From)), (eI ((aT.mk qB to1).To))]) ⟨HN (l := [aG.mk (1 : Int) (1 : Int) ByteArray.empty]), aZ.refl _, aZ.refl _, trivial⟩) (by kernel_rfl) ?_
  intro H hO
  refine bH [(4, (.lp lo1 0 0))] ?_
  refine bK ?_
  obtain rfl := oI h0
  exact aJ (QM0 (.inr rfl) (rs := [.cell 4 43]) (xs := [(aL (aM.mk ([aG.mk (1 : Int) (1 : Int) ByteArray.empty]) (aT.mk qB to1)))]) (x := (aL (aM.mk ([aG.mk (1 : Int) (1 : Int) ByteArray.empty]) (aT.mk qB to1)))) (by kernel_rfl) (CK (lo := lo1) (k := 3) (y := (aL (aM.mk ([aG.mk (1 : Int) (1 : Int) ByteArray.empty]) (aT.mk qB to1)))) (x := (aL (aM.mk ([aG.mk (1 : Int) (1 : Int) ByteArray.empty]) (aT.mk qB to1)))) 0 hO (by kernel_rfl) (by kernel_rfl) (by kernel_rfl) (by kernel_rfl) uC) (by kernel_rfl) ⟨rfl, hO.out⟩)

theorem xE (s0 : (List aM)) (f1_f : Nat) (f1_a f1_c : List V) (f1 : aM → Option Bool) (f1_h : ∀ a0 r, f1 a0 = some r → bY Tryz.prog f1_f (f1_a ++ [(aL a0)] ++ f1_c) (aK r)) (r : Int) (h0 : fT s0 f1 = some r) : bY Tryz.prog 53 [(eL aL s0), (.fn (.func f1_f) f1_a f1_c)] (eI r) := by
  intro H0
  refine cF Tryz.func53 ?_
  have hO := aN.start H0
  unfold fT at h0
  refine aY aF 1 [] [] ?_
  refine cH (fun T H => Has T [] ∧ aN ⟨H0, [], []⟩ H [] ∧ dS f1  = some r) ?_ ?_
  · clear hO h0
    rintro T H ⟨hT, hO, h0⟩
    refine bA hT ?_
    clear hT
    unfold dS at h0
    refine bV aF 1 [(4, (eI (-1 : Int)))] ?_
    refine bK ?_
    obtain rfl := oI h0
    exact aJ (Q_r hO)
  refine aY aF 3 [] [(7, (eI (lN s0))), (8, (eI (0 : Int)))] ?_
  refine bO 0 ?_
  refine cL [(0, (eL aL s0)), (1, (.fn (.func f1_f) f1_a f1_c)), (7, (eI (lN s0))), (8, (eI (0 : Int)))] ?_
  refine cC (fun T H => ∃ t7 : Int, ∃ t8 : Int, Has T [(0, (eL aL s0)), (1, (.fn (.func f1_f) f1_a f1_c)), (7, (eI t7)), (8, (eI t8))] ∧ aN ⟨H0, [], []⟩ H [] ∧ fE f1 s0 t7 t8 = some r) ?_ ⟨(lN s0), (0 : Int), .eq (by kernel_rfl), hO, h0⟩
  clear hO h0
  rintro T H ⟨t7, t8, hT, hO, h0⟩
  refine bA hT ?_
  clear hT
  unfold fE at h0
  obtain ⟨rr0, hl0, h0⟩ := aW h0
  refine bX (by kernel_rfl) (fun (s : Int) T H => Has T [(0, (eL aL s0)), (1, (.fn (.func f1_f) f1_a f1_c)), (7, (eI t7)), (8, (eI s))] ∧ aN ⟨H0, [], []⟩ H []) hl0 ⟨.eq (by kernel_rfl), hO⟩ ?_
  clear hO
  rintro k0 s out1 T H ⟨hT, hO⟩ h1 ho0
  obtain ⟨t8, rfl⟩ : ∃ x, x = s := ⟨_, rfl⟩
  replace h1 : fH f1 s0 t7 t8 = some out1 := h1
  refine bA hT ?_
  clear hT
  unfold fH at h1
  refine aY aF 1 [] [(9, (aK (decide (t8 < t7))))] ?_
  refine aO ?_
  refine bJ h1 (fun h1 => ?_) (fun h1 => ?_)
  · refine bL ?_
    refine bH [(0, (eL aL s0)), (1, (.fn (.func f1_f) f1_a f1_c)), (7, (eI t7)), (8, (eI t8))] ?_
    refine aO ?_
    refine bO 1 ?_
    refine aY aF 2 [] [(5, (eI t8))] ?_
    refine aO ?_
    refine aU aF 6 ?_
    obtain ⟨c2, h1⟩ := bE h1
    refine jT 5 [0 ≤ t8 ∧ t8 < (lN s0)] ⟨c2, trivial⟩ ?_
    obtain ⟨x3, hx4, h1⟩ := aW h1
    refine cA (f1_h (gD s0 t8) _ hx4) hO ?_
    intro H hO
    refine cW ?_
    refine bT [] [(16, (aK x3))] ?_
    refine bJ h1 (fun h1 => ?_) (fun h1 => ?_)
    · refine bV aF 2 [(4, (eI t8))] ?_
      refine bK ?_
      obtain rfl := oI h1
      obtain rfl : _ = rr0 := ho0
      replace h0 : some t8 = some r := h0
      obtain rfl := oI h0
      exact aJ (bN (aQ (aQ (bN (aQ (Q_r hO))))))
    refine bL ?_
    refine cN [(0, (eL aL s0)), (1, (.fn (.func f1_f) f1_a f1_c)), (7, (eI t7)), (8, (eI t8))] ?_
    refine aJ (aV (aH (?_)))
    refine aU aF 2 ?_
    refine bC ?_
    exact aJ (aH (⟨rfl, _, (oI h1).symm, .eq (by kernel_rfl), hO⟩))
  refine cV 0 ?_
  obtain rfl := oI h1
  obtain rfl : _ = rr0 := ho0
  replace h0 : dS f1  = some r := h0
  exact aJ (aS (aS (bM (aH (⟨rfl, .eq (by kernel_rfl), hO, h0⟩)))))

theorem uX (s0 : (List aM)) (f1_f : Nat) (f1_a f1_c : List V) (f1 : aM → Option Bool) (f1_h : ∀ a0 r, f1 a0 = some r → bY Tryz.prog f1_f (f1_a ++ [(aL a0)] ++ f1_c) (aK r)) (r : Bool) (h0 : dN s0 f1 = some r) : bY Tryz.prog 31 [(eL aL s0), (.fn (.func f1_f) f1_a f1_c)] (aK r) := by
  intro H0
  refine cF Tryz.func31 ?_
  have hO := aN.start H0
  unfold dN at h0
  refine aY aF 1 [] [] ?_
  refine aO ?_
  refine aU aF 5 ?_
  refine bR 2 ?_
  obtain ⟨x1, hx2, h0⟩ := aW h0
  refine cA (xE s0 f1_f f1_a f1_c f1 f1_h _ hx2) hO ?_
  intro H hO
  refine bC ?_
  refine bH [(4, (aK (decide ((0 : Int) ≤ x1))))] ?_
  refine bK ?_
  obtain rfl := oI h0
  exact aJ (Q_r hO)

theorem yE (s0 : (List aG)) (f1_f : Nat) (f1_a f1_c : List V) (f1 : aG → Option Bool) (f1_h : ∀ a0 r, f1 a0 = some r → bY Tryz.prog f1_f (f1_a ++ [(aI a0)] ++ f1_c) (aK r)) (r : Int) (h0 : gJ s0 f1 = some r) : bY Tryz.prog 80 [(eL aI s0), (.fn (.func f1_f) f1_a f1_c)] (eI r) := by
  intro H0
  refine cF Tryz.func80 ?_
  have hO := aN.start H0
  unfold gJ at h0
  refine aY aF 1 [] [] ?_
  refine cH (fun T H => Has T [] ∧ aN ⟨H0, [], []⟩ H [] ∧ eE f1  = some r) ?_ ?_
  · clear hO h0
    rintro T H ⟨hT, hO, h0⟩
    refine bA hT ?_
    clear hT
    unfold eE at h0
    refine bV aF 1 [(4, (eI (-1 : Int)))] ?_
    refine bK ?_
    obtain rfl := oI h0
    exact aJ (Q_r hO)
  refine aY aF 3 [] [(7, (eI (lN s0))), (8, (eI (0 : Int)))] ?_
  refine bO 0 ?_
  refine cL [(0, (eL aI s0)), (1, (.fn (.func f1_f) f1_a f1_c)), (7, (eI (lN s0))), (8, (eI (0 : Int)))] ?_
  refine cC (fun T H => ∃ t7 : Int, ∃ t8 : Int, Has T [(0, (eL aI s0)), (1, (.fn (.func f1_f) f1_a f1_c)), (7, (eI t7)), (8, (eI t8))] ∧ aN ⟨H0, [], []⟩ H [] ∧ gC f1 s0 t7 t8 = some r) ?_ ⟨(lN s0), (0 : Int), .eq (by kernel_rfl), hO, h0⟩
  clear hO h0
  rintro T H ⟨t7, t8, hT, hO, h0⟩
  refine bA hT ?_
  clear hT
  unfold gC at h0
  obtain ⟨rr0, hl0, h0⟩ := aW h0
  refine bX (by kernel_rfl) (fun (s : Int) T H => Has T [(0, (eL aI s0)), (1, (.fn (.func f1_f) f1_a f1_c)), (7, (eI t7)), (8, (eI s))] ∧ aN ⟨H0, [], []⟩ H []) hl0 ⟨.eq (by kernel_rfl), hO⟩ ?_
  clear hO
  rintro k0 s out1 T H ⟨hT, hO⟩ h1 ho0
  obtain ⟨t8, rfl⟩ : ∃ x, x = s := ⟨_, rfl⟩
  replace h1 : fY f1 s0 t7 t8 = some out1 := h1
  refine bA hT ?_
  clear hT
  unfold fY at h1
  refine aY aF 1 [] [(9, (aK (decide (t8 < t7))))] ?_
  refine aO ?_
  refine bJ h1 (fun h1 => ?_) (fun h1 => ?_)
  · refine bL ?_
    refine bH [(0, (eL aI s0)), (1, (.fn (.func f1_f) f1_a f1_c)), (7, (eI t7)), (8, (eI t8))] ?_
    refine aO ?_
    refine bO 1 ?_
    refine aY aF 2 [] [(5, (eI t8))] ?_
    refine aO ?_
    refine aU aF 6 ?_
    obtain ⟨c2, h1⟩ := bE h1
    refine jT 5 [0 ≤ t8 ∧ t8 < (lN s0)] ⟨c2, trivial⟩ ?_
    obtain ⟨x3, hx4, h1⟩ := aW h1
    refine cA (f1_h (gD s0 t8) _ hx4) hO ?_
    intro H hO
    refine cW ?_
    refine bT [] [(16, (aK x3))] ?_
    refine bJ h1 (fun h1 => ?_) (fun h1 => ?_)
    · refine bV aF 2 [(4, (eI t8))] ?_
      refine bK ?_
      obtain rfl := oI h1
      obtain rfl : _ = rr0 := ho0
      replace h0 : some t8 = some r := h0
      obtain rfl := oI h0
      exact aJ (bN (aQ (aQ (bN (aQ (Q_r hO))))))
    refine bL ?_
    refine cN [(0, (eL aI s0)), (1, (.fn (.func f1_f) f1_a f1_c)), (7, (eI t7)), (8, (eI t8))] ?_
    refine aJ (aV (aH (?_)))
    refine aU aF 2 ?_
    refine bC ?_
    exact aJ (aH (⟨rfl, _, (oI h1).symm, .eq (by kernel_rfl), hO⟩))
  refine cV 0 ?_
  obtain rfl := oI h1
  obtain rfl : _ = rr0 := ho0
  replace h0 : eE f1  = some r := h0
  exact aJ (aS (aS (bM (aH (⟨rfl, .eq (by kernel_rfl), hO, h0⟩)))))

theorem wC (s0 : (List aG)) (f1_f : Nat) (f1_a f1_c : List V) (f1 : aG → Option Bool) (f1_h : ∀ a0 r, f1 a0 = some r → bY Tryz.prog f1_f (f1_a ++ [(aI a0)] ++ f1_c) (aK r)) (r : Bool) (h0 : dU s0 f1 = some r) : bY Tryz.prog 68 [(eL aI s0), (.fn (.func f1_f) f1_a f1_c)] (aK r) := by
  intro H0
  refine cF Tryz.func68 ?_
  have hO := aN.start H0
  unfold dU at h0
  refine aY aF 1 [] [] ?_
  refine aO ?_
  refine aU aF 5 ?_
  refine bR 2 ?_
  obtain ⟨x1, hx2, h0⟩ := aW h0
  refine cA (yE s0 f1_f f1_a f1_c f1 f1_h _ hx2) hO ?_
  intro H hO
  refine bC ?_
  refine bH [(4, (aK (decide ((0 : Int) ≤ x1))))] ?_
  refine bK ?_
  obtain rfl := oI h0
  exact aJ (Q_r hO)

theorem DK (v0 : aG) (r : (bU × Bool)) (h0 : mJ v0 = some r) : bY Tryz.prog 95 [(aI v0)] (.tup [(bP r.1), (aK r.2)]) := by
  intro H0
  refine cF Tryz.func95 ?_
  have hO := aN.start H0
  unfold mJ at h0
  refine aO ?_
  refine aU aF 3 ?_
  refine fQ 3 (aI v0) (by kernel_rfl) (by kernel_rfl) ?_
  refine bC ?_
  refine bH [(1, (.rp (aI v0)))] ?_
  refine aO ?_
  refine bO 0 ?_
  refine aY aF 9 [] [(4, (aK ((decide (v0.Kind = (1 : Int))) && (pK v0.Text (⟨#[]⟩ : ByteArray)))))] ?_
  refine bJ h0 (fun h0 => ?_) (fun h0 => ?_)
  · refine bV aF 5 [(2, (bP (bU.k_number v0.Num))), (3, (aK true))] ?_
    refine bK ?_
    obtain rfl := oI h0
    exact aJ (bN (aQ (Q_r hO)))
  refine aY aF 15 [4] [(16, (aK (((decide (v0.Kind = (2 : Int))) && (decide (v0.Num = (0 : Int)))) && (decide (((ByteArray.size v0.Text : Nat) : Int) ≤ (64 : Int))))))] ?_
  refine bJ h0 (fun h0 => ?_) (fun h0 => ?_)
  · refine bV aF 5 [(2, (bP (bU.k_words v0.Text))), (3, (aK true))] ?_
    refine bK ?_
    obtain rfl := oI h0
    exact aJ (bN (aQ (Q_r hO)))
  refine bL ?_
  refine cN [] ?_
  refine aJ (aV (aH (?_)))
  refine bV aF 2 [(2, (bP bU.none_)), (3, (aK false))] ?_
  refine bK ?_
  obtain rfl := oI h0
  exact aJ (Q_r hO)

theorem aAf (v0 : aG) (r : Bool) (h0 : AD v0 = some r) : bY Tryz.prog 70 [(aI v0)] (aK r) := by
  intro H0
  refine cF Tryz.func70 ?_
  have hO := aN.start H0
  unfold AD at h0
  refine aO ?_
  refine aU aF 2 ?_
  refine fQ 3 (aI v0) (by kernel_rfl) (by kernel_rfl) ?_
  refine bC ?_
  refine bH [(1, (.rp (aI v0)))] ?_
  refine aO ?_
  refine aU aF 7 ?_
  refine bR 1 ?_
  obtain ⟨⟨x1_0, x1_1⟩, hx2, h0⟩ := aW h0
  refine cA (DK v0 _ hx2) hO ?_
  intro H hO
  rcases x1_0 with _ | y4 | y5
  · replace h0 : (some x1_1) = some r := h0
    refine bC ?_
    refine bH [(4, (aK x1_1))] ?_
    refine bV aF 2 [(2, (aK x1_1))] ?_
    refine bK ?_
    obtain rfl := oI h0
    exact aJ (Q_r hO)
  · replace h0 : (some x1_1) = some r := h0
    refine bC ?_
    refine bH [(4, (aK x1_1))] ?_
    refine bV aF 2 [(2, (aK x1_1))] ?_
    refine bK ?_
    obtain rfl := oI h0
    exact aJ (Q_r hO)
  · replace h0 : (some x1_1) = some r := h0
    refine bC ?_
    refine bH [(4, (aK x1_1))] ?_
    refine bV aF 2 [(2, (aK x1_1))] ?_
    refine bK ?_
    obtain rfl := oI h0
    exact aJ (Q_r hO)

theorem aAi (v0 : aG) (r : Bool) (h0 : AN v0 = some r) : bY Tryz.prog 69 [(aI v0)] (aK r) := by
  intro H0
  refine cF Tryz.func69 ?_
  have hO := aN.start H0
  unfold AN at h0
  refine aO ?_
  refine aU aF 2 ?_
  refine fQ 3 (aI v0) (by kernel_rfl) (by kernel_rfl) ?_
  refine bC ?_
  refine bH [(1, (.rp (aI v0)))] ?_
  refine aO ?_
  refine aU aF 4 ?_
  refine bR 1 ?_
  obtain ⟨x1, hx2, h0⟩ := aW h0
  refine cA (aAf v0 _ hx2) hO ?_
  intro H hO
  refine bC ?_
  refine bH [(2, (aK (!x1)))] ?_
  refine bK ?_
  obtain rfl := oI h0
  exact aJ (Q_r hO)

theorem FU (r0 : (List aG)) (r : Bool) (h0 : tD r0 = some r) : bY Tryz.prog 35 [(eL aI r0)] (aK r) := by
  intro H0
  refine cF Tryz.func35 ?_
  have hO := aN.start H0
  unfold tD at h0
  refine aY aF 1 [] [] ?_
  refine aO ?_
  refine aY aF 3 [] [(5, (aK (decide ((8 : Int) < (lN r0)))))] ?_
  refine bJ h0 (fun h0 => ?_) (fun h0 => ?_)
  · refine bV aF 1 [(2, (aK false))] ?_
    refine bK ?_
    obtain rfl := oI h0
    exact aJ (aQ (Q_r hO))
  refine bL ?_
  refine bH [(0, (eL aI r0))] ?_
  refine aO ?_
  refine aU aF 4 ?_
  refine bR 1 ?_
  obtain ⟨x2, hx3, h0⟩ := aW h0
  refine cA (wC r0 69 [] [] (fun y0 => AN y0) (fun y0 r h => aAi y0 r h) _ hx3) hO ?_
  intro H hO
  refine bC ?_
  refine bH [(2, (aK (!x2)))] ?_
  refine bK ?_
  obtain rfl := oI h0
  exact aJ (Q_r hO)

theorem OM (t0 : Int) (r : Bool) (h0 : AK t0 = some r) : bY Tryz.prog 96 [(eI t0)] (aK r) := by
  intro H0
  refine cF Tryz.func96 ?_
  have hO := aN.start H0
  unfold AK at h0
  refine aY aF 1 [] [] ?_
  refine bV aF 7 [(2, (aK ((decide ((0 : Int) ≤ t0)) && (decide (t0 ≤ (1125899906842624 : Int))))))] ?_
  refine bK ?_
  obtain rfl := oI h0
  exact aJ (Q_r hO)

theorem aBK (s0 : aT) (r : Bool) (h0 : DM s0 = some r) : bY Tryz.prog 71 [(bG s0)] (aK r) := by
  intro H0
  refine cF Tryz.func71 ?_
  have hO := aN.start H0
  unfold DM at h0
  refine aO ?_
  refine aU aF 2 ?_
  refine fQ 2 (bG s0) (by kernel_rfl) (by kernel_rfl) ?_
  refine bC ?_
  refine bH [(1, (.rp (bG s0)))] ?_
  refine aO ?_
  refine aU aF 16 ?_
  refine bR 2 ?_
  obtain ⟨x1, hx2, h0⟩ := aW h0
  refine cA (OM s0.From _ hx2) hO ?_
  intro H hO
  refine bR 6 ?_
  obtain ⟨x4, hx5, h0⟩ := aW h0
  refine fU [(6, true)] 96 [(eI s0.To)] (aK x4) x1 (by kernel_rfl) (by kernel_rfl) (by kernel_rfl) (fun hb6 => (OM s0.To _ (fP hx5 hb6))) hO ?_
  intro H hO
  refine bC ?_
  refine bH [(2, (aK ((x1 && x4) && (decide (s0.From < s0.To)))))] ?_
  refine bK ?_
  obtain rfl := oI h0
  exact aJ (Q_r hO)

theorem aAz (s0 : aT) (r : Bool) (h0 : FH s0 = some r) : bY Tryz.prog 36 [(bG s0)] (aK r) := by
  intro H0
  refine cF Tryz.func36 ?_
  have hO := aN.start H0
  unfold FH at h0
  refine aO ?_
  refine aU aF 2 ?_
  refine fQ 2 (bG s0) (by kernel_rfl) (by kernel_rfl) ?_
  refine bC ?_
  refine bH [(1, (.rp (bG s0)))] ?_
  refine aO ?_
  refine aU aF 18 ?_
  refine bR 1 ?_
  obtain ⟨x1, hx2, h0⟩ := aW h0
  refine cA (aBK s0 _ hx2) hO ?_
  intro H hO
  refine bC ?_
  refine bH [(2, (aK (x1 || (((decide (s0.From = (-1 : Int))) && (decide ((0 : Int) ≤ s0.To))) && (decide (s0.To ≤ (1125899906842624 : Int)))))))] ?_
  refine bK ?_
  obtain rfl := oI h0
  exact aJ (Q_r hO)

theorem GJ (p0 : aM) (r : Bool) (h0 : sS p0 = some r) : bY Tryz.prog 15 [(aL p0)] (aK r) := by
  intro H0
  refine cF Tryz.func15 ?_
  have hO := aN.start H0
  unfold sS at h0
  refine aO ?_
  refine aU aF 2 ?_
  refine fQ 3 (aL p0) (by kernel_rfl) (by kernel_rfl) ?_
  refine bC ?_
  refine bH [(1, (.rp (aL p0)))] ?_
  refine aO ?_
  refine aU aF 9 ?_
  refine bR 2 ?_
  obtain ⟨x1, hx2, h0⟩ := aW h0
  refine cA (FU p0.Row _ hx2) hO ?_
  intro H hO
  refine bR 6 ?_
  obtain ⟨x4, hx5, h0⟩ := aW h0
  refine fU [(6, true)] 36 [(bG p0.Span)] (aK x4) x1 (by kernel_rfl) (by kernel_rfl) (by kernel_rfl) (fun hb6 => (aAz p0.Span _ (fP hx5 hb6))) hO ?_
  intro H hO
  refine bC ?_
  refine bH [(2, (aK (x1 && x4)))] ?_
  refine bK ?_
  obtain rfl := oI h0
  exact aJ (Q_r hO)

theorem UA (p0 : aM) (r : Bool) (h0 : tV p0 = some r) : bY Tryz.prog 32 [(aL p0)] (aK r) := by
  intro H0
  refine cF Tryz.func32 ?_
  have hO := aN.start H0
  unfold tV at h0
  refine aO ?_
  refine aU aF 2 ?_
  refine fQ 3 (aL p0) (by kernel_rfl) (by kernel_rfl) ?_
  refine bC ?_
  refine bH [(1, (.rp (aL p0)))] ?_
  refine aO ?_
  refine aU aF 4 ?_
  refine bR 1 ?_
  obtain ⟨x1, hx2, h0⟩ := aW h0
  refine cA (GJ p0 _ hx2) hO ?_
  intro H hO
  refine bC ?_
  refine bH [(2, (aK (!x1)))] ?_
  refine bK ?_
  obtain rfl := oI h0
  exact aJ (Q_r hO)

theorem xR (s0 : (List aC)) (f1_f : Nat) (f1_a f1_c : List V) (f1 : aC → Option Bool) (f1_h : ∀ a0 r, f1 a0 = some r → bY Tryz.prog f1_f (f1_a ++ [(aD a0)] ++ f1_c) (aK r)) (r : Int) (h0 : gI s0 f1 = some r) : bY Tryz.prog 78 [(eL aD s0), (.fn (.func f1_f) f1_a f1_c)] (eI r) := by
  intro H0
  refine cF Tryz.func78 ?_
  have hO := aN.start H0
  unfold gI at h0
  refine aY aF 1 [] [] ?_
  refine cH (fun T H => Has T [] ∧ aN ⟨H0, [], []⟩ H [] ∧ eD f1  = some r) ?_ ?_
  · clear hO h0
    rintro T H ⟨hT, hO, h0⟩
    refine bA hT ?_
    clear hT
    unfold eD at h0
    refine bV aF 1 [(4, (eI (-1 : Int)))] ?_
    refine bK ?_
    obtain rfl := oI h0
    exact aJ (Q_r hO)
  refine aY aF 3 [] [(7, (eI (lN s0))), (8, (eI (0 : Int)))] ?_
  refine bO 0 ?_
  refine cL [(0, (eL aD s0)), (1, (.fn (.func f1_f) f1_a f1_c)), (7, (eI (lN s0))), (8, (eI (0 : Int)))] ?_
  refine cC (fun T H => ∃ t7 : Int, ∃ t8 : Int, Has T [(0, (eL aD s0)), (1, (.fn (.func f1_f) f1_a f1_c)), (7, (eI t7)), (8, (eI t8))] ∧ aN ⟨H0, [], []⟩ H [] ∧ gE f1 s0 t7 t8 = some r) ?_ ⟨(lN s0), (0 : Int), .eq (by kernel_rfl), hO, h0⟩
  clear hO h0
  rintro T H ⟨t7, t8, hT, hO, h0⟩
  refine bA hT ?_
  clear hT
  unfold gE at h0
  obtain ⟨rr0, hl0, h0⟩ := aW h0
  refine bX (by kernel_rfl) (fun (s : Int) T H => Has T [(0, (eL aD s0)), (1, (.fn (.func f1_f) f1_a f1_c)), (7, (eI t7)), (8, (eI s))] ∧ aN ⟨H0, [], []⟩ H []) hl0 ⟨.eq (by kernel_rfl), hO⟩ ?_
  clear hO
  rintro k0 s out1 T H ⟨hT, hO⟩ h1 ho0
  obtain ⟨t8, rfl⟩ : ∃ x, x = s := ⟨_, rfl⟩
  replace h1 : gF f1 s0 t7 t8 = some out1 := h1
  refine bA hT ?_
  clear hT
  unfold gF at h1
  refine aY aF 1 [] [(9, (aK (decide (t8 < t7))))] ?_
  refine aO ?_
  refine bJ h1 (fun h1 => ?_) (fun h1 => ?_)
  · refine bL ?_
    refine bH [(0, (eL aD s0)), (1, (.fn (.func f1_f) f1_a f1_c)), (7, (eI t7)), (8, (eI t8))] ?_
    refine aO ?_
    refine bO 1 ?_
    refine aY aF 2 [] [(5, (eI t8))] ?_
    refine aO ?_
    refine aU aF 6 ?_
    obtain ⟨c2, h1⟩ := bE h1
    refine jT 5 [0 ≤ t8 ∧ t8 < (lN s0)] ⟨c2, trivial⟩ ?_
    obtain ⟨x3, hx4, h1⟩ := aW h1
    refine cA (f1_h (gD s0 t8) _ hx4) hO ?_
    intro H hO
    refine cW ?_
    refine bT [] [(16, (aK x3))] ?_
    refine bJ h1 (fun h1 => ?_) (fun h1 => ?_)
    · refine bV aF 2 [(4, (eI t8))] ?_
      refine bK ?_
      obtain rfl := oI h1
      obtain rfl : _ = rr0 := ho0
      replace h0 : some t8 = some r := h0
      obtain rfl := oI h0
      exact aJ (bN (aQ (aQ (bN (aQ (Q_r hO))))))
    refine bL ?_
    refine cN [(0, (eL aD s0)), (1, (.fn (.func f1_f) f1_a f1_c)), (7, (eI t7)), (8, (eI t8))] ?_
    refine aJ (aV (aH (?_)))
    refine aU aF 2 ?_
    refine bC ?_
    exact aJ (aH (⟨rfl, _, (oI h1).symm, .eq (by kernel_rfl), hO⟩))
  refine cV 0 ?_
  obtain rfl := oI h1
  obtain rfl : _ = rr0 := ho0
  replace h0 : eD f1  = some r := h0
  exact aJ (aS (aS (bM (aH (⟨rfl, .eq (by kernel_rfl), hO, h0⟩)))))

theorem nW (s0 : (List aC)) (f1_f : Nat) (f1_a f1_c : List V) (f1 : aC → Option Bool) (f1_h : ∀ a0 r, f1 a0 = some r → bY Tryz.prog f1_f (f1_a ++ [(aD a0)] ++ f1_c) (aK r)) (r : Bool) (h0 : dI s0 f1 = some r) : bY Tryz.prog 54 [(eL aD s0), (.fn (.func f1_f) f1_a f1_c)] (aK r) := by
  intro H0
  refine cF Tryz.func54 ?_
  have hO := aN.start H0
  unfold dI at h0
  refine aY aF 1 [] [] ?_
  refine aO ?_
  refine aU aF 5 ?_
  refine bR 2 ?_
  obtain ⟨x1, hx2, h0⟩ := aW h0
  refine cA (xR s0 f1_f f1_a f1_c f1 f1_h _ hx2) hO ?_
  intro H hO
  refine bC ?_
  refine bH [(4, (aK (decide ((0 : Int) ≤ x1))))] ?_
  refine bK ?_
  obtain rfl := oI h0
  exact aJ (Q_r hO)

theorem WJ (x0 : aC) (r : Bool) (h0 : wF x0 = some r) : bY Tryz.prog 55 [(aD x0)] (aK r) := by
  intro H0
  refine cF Tryz.func55 ?_
  have hO := aN.start H0
  unfold wF at h0
  refine aO ?_
  refine aU aF 2 ?_
  refine fQ 3 (aD x0) (by kernel_rfl) (by kernel_rfl) ?_
  refine bC ?_
  refine bH [(1, (.rp (aD x0)))] ?_
  refine aO ?_
  refine aU aF 15 ?_
  refine bR 2 ?_
  obtain ⟨x1, hx2, h0⟩ := aW h0
  refine cA (FU x0.Row _ hx2) hO ?_
  intro H hO
  refine bC ?_
  refine bH [(2, (aK (((!x1) || (decide ((1048576 : Int) < x0.Net))) || (decide (x0.Net < (-1048576 : Int))))))] ?_
  refine bK ?_
  obtain rfl := oI h0
  exact aJ (Q_r hO)

theorem VU (x0 : aC) (r : Bool) (h0 : wA x0 = some r) : bY Tryz.prog 56 [(aD x0)] (aK r) := by
  intro H0
  refine cF Tryz.func56 ?_
  have hO := aN.start H0
  unfold wA at h0
  refine aO ?_
  refine aU aF 2 ?_
  refine fQ 3 (aD x0) (by kernel_rfl) (by kernel_rfl) ?_
  refine bC ?_
  refine bH [(1, (.rp (aD x0)))] ?_
  refine bV aF 9 [(2, (aK ((decide (x0.At < (-1 : Int))) || (decide ((1125899906842624 : Int) < x0.At)))))] ?_
  refine bK ?_
  obtain rfl := oI h0
  exact aJ (Q_r hO)

theorem CI (s0 : (List aC)) (r : (List aC)) (h0 : fK s0 = some r) : GK Tryz.prog 57 [(eL aD s0)] (fun lo => (.msl 3 lo 0 (List.length r))) 3 (List.map aD r) := by
  intro H0
  refine cF Tryz.func57 ?_
  have hO := aN.start H0
  unfold fK at h0
  refine aY aF 1 [] [] ?_
  refine aO ?_
  refine aO ?_
  refine aU aF 2 ?_
  refine bR 1 ?_
  refine aDQ false (List.length s0) (fun i => aD (List.getD s0 i default)) (by kernel_rfl) (by kernel_rfl) ?_
  intro b1 hn2
  refine cW ?_
  refine bT [] [(4, (aK b1))] ?_
  refine qD (b1) (fun hc3 => ?_) (fun hc3 => ?_)
  · replace h0 : some ([] : List aC) = some r := by
      have hl := List.eq_nil_of_length_eq_zero (hn2 hc3)
      rw [hl] at h0
      exact (bE h0).2
    refine bV aF 1 [(2, (.sl true 0 (fun _ => .bad)))] ?_
    refine bK ?_
    refine cN [(2, (.sl true 0 (fun _ => .bad)))] ?_
    refine aCe (el := (fun _ => .bad)) 0 2 3 hO (by kernel_rfl) ?_
    intro lo4 H5 hO
    obtain rfl := oI h0
    exact aJ (aQ (rV (x := (.msl 3 lo4 0 (List.length ([] : List aC)))) (by kernel_rfl) (aZ.refl _) ⟨lo4, rfl, hO⟩))
  · refine bL ?_
    refine bH [(0, (eL aD s0))] ?_
    refine aO ?_
    refine aU aF 4 ?_
    refine iM (xs := []) (k := 3) (by kernel_rfl) (by kernel_rfl) ?_
    refine bR 2 ?_
    obtain ⟨c7, h0⟩ := bE h0
    refine TX (e := aD) s0 (fun _ => .bad) 3 40 (eL aD s0) (fun lo6 => [(lo6, 3, List.map aD s0)]) (by kernel_rfl) (by kernel_rfl) hO (JH (fun _ => by kernel_rfl)) c7 (fun _ => by kernel_rfl) ?_
    intro lo6 H hO
    refine bC ?_
    refine bH [(2, (.msl 3 lo6 0 (List.length s0)))] ?_
    refine bK ?_
    obtain rfl := oI h0
    exact aJ (rV (x := (.msl 3 lo6 0 (List.length s0))) (by kernel_rfl) (aZ.refl _) ⟨lo6, rfl, hO⟩)

theorem oR (lo0p : Nat) (aB : (List aC)) (a1 : Int) (b2 : Int) (cmp3_f : Nat) (cmp3_a cmp3_c : List V) (cmp3 : aC → aC → Option Int) (cmp3_h : ∀ a0 a1 r, cmp3 a0 a1 = some r → bY Tryz.prog cmp3_f (cmp3_a ++ [(aD a0), (aD a1)] ++ cmp3_c) (eI r)) (r : List aC) (h0 : dY aB a1 b2 cmp3 = some r) : mB Tryz.prog 97 lo0p 3 (List.map aD aB) (List.map aD r) [(.msl 3 lo0p 0 (List.length aB)), (eI a1), (eI b2), (.fn (.func cmp3_f) cmp3_a cmp3_c)] (.tup []) := by
  intro H0 hl0
  refine cF Tryz.func97 ?_
  have hO := aN.rO hl0
  clear hl0
  obtain ⟨N0, hN0⟩ : ∃ n, n = List.length aB := ⟨_, rfl⟩
  have hN : List.length aB = N0 := hN0.symm
  unfold dY at h0
  refine aY aF 3 [] [(8, (eI (wR (a1 + (1 : Int)))))] ?_
  refine bO 0 ?_
  refine cL [(0, (.msl 3 lo0p 0 (List.length aB))), (1, (eI a1)), (2, (eI b2)), (3, (.fn (.func cmp3_f) cmp3_a cmp3_c)), (8, (eI (wR (a1 + (1 : Int)))))] ?_
  refine cC (fun T H => ∃ aB : List aC, ∃ i8 : Int, Has T [(0, (.msl 3 lo0p 0 (List.length aB))), (1, (eI a1)), (2, (eI b2)), (3, (.fn (.func cmp3_f) cmp3_a cmp3_c)), (8, (eI i8))] ∧ aN ⟨H0, [lo0p], []⟩ H [(lo0p, 3, List.map aD aB)] ∧ List.length aB = N0 ∧ jO cmp3 aB a1 b2 i8 = some r) ?_ ⟨aB, wR (a1 + (1 : Int)), .eq (by kernel_rfl), hO, hN, h0⟩
  clear hO hN h0
  rintro T H ⟨aB, i8, hT, hO, hN, h0⟩
  refine bA hT ?_
  clear hT
  unfold jO at h0
  obtain ⟨rr0, hl0, h0⟩ := aW h0
  refine bX (by kernel_rfl) (fun (s : List aC × Int) T H => Has T [(0, (.msl 3 lo0p 0 (List.length s.1))), (1, (eI a1)), (2, (eI b2)), (3, (.fn (.func cmp3_f) cmp3_a cmp3_c)), (8, (eI s.2))] ∧ aN ⟨H0, [lo0p], []⟩ H [(lo0p, 3, List.map aD s.1)] ∧ List.length s.1 = N0) hl0 ⟨.eq (by kernel_rfl), hO, hN⟩ ?_
  clear hO hN
  rintro k0 s out1 T H ⟨hT, hO, hN⟩ h1 ho0
  obtain ⟨aB, i8⟩ := s
  replace h1 : jR cmp3 a1 b2 aB i8 = some out1 := h1
  try dsimp only at hT
  refine bA hT ?_
  clear hT
  unfold jR at h1
  refine aO ?_
  refine aY aF 3 [] [(14, (aK (decide (i8 < b2))))] ?_
  refine bJ h1 (fun h1 => ?_) (fun h1 => ?_)
  · refine bL ?_
    refine bH [(0, (.msl 3 lo0p 0 (List.length aB))), (1, (eI a1)), (2, (eI b2)), (3, (.fn (.func cmp3_f) cmp3_a cmp3_c)), (8, (eI i8))] ?_
    refine cH (fun T H => ∃ aB : List aC, Has T [(0, (.msl 3 lo0p 0 (List.length aB))), (1, (eI a1)), (2, (eI b2)), (3, (.fn (.func cmp3_f) cmp3_a cmp3_c)), (8, (eI i8))] ∧ aN ⟨H0, [lo0p], []⟩ H [(lo0p, 3, List.map aD aB)] ∧ List.length aB = N0 ∧ fF cmp3 aB a1 b2 i8 = some out1) ?_ ?_
    · clear hO hN h1
      rintro T H ⟨aB, hT, hO, hN, h1⟩
      refine bA hT ?_
      clear hT
      unfold fF at h1
      refine aU aF 3 ?_
      refine bC ?_
      exact aJ (aH (⟨rfl, _, (oI h1).symm, .eq (by kernel_rfl), hO, hN⟩))
    refine bO 1 ?_
    refine aY aF 2 [] [(9, (eI i8))] ?_
    refine bO 2 ?_
    refine cL [(0, (.msl 3 lo0p 0 (List.length aB))), (1, (eI a1)), (2, (eI b2)), (3, (.fn (.func cmp3_f) cmp3_a cmp3_c)), (8, (eI i8)), (9, (eI i8))] ?_
    refine cC (fun T H => ∃ aB : List aC, ∃ j9 : Int, Has T [(0, (.msl 3 lo0p 0 (List.length aB))), (1, (eI a1)), (2, (eI b2)), (3, (.fn (.func cmp3_f) cmp3_a cmp3_c)), (8, (eI i8)), (9, (eI j9))] ∧ aN ⟨H0, [lo0p], []⟩ H [(lo0p, 3, List.map aD aB)] ∧ List.length aB = N0 ∧ jP cmp3 aB a1 b2 i8 j9 = some out1) ?_ ⟨aB, i8, .eq (by kernel_rfl), hO, hN, h1⟩
    clear hO hN h1
    rintro T H ⟨aB, j9, hT, hO, hN, h1⟩
    refine bA hT ?_
    clear hT
    unfold jP at h1
    obtain ⟨rr1, hl1, h1⟩ := aW h1
    refine bX (by kernel_rfl) (fun (s : List aC × Int) T H => Has T [(0, (.msl 3 lo0p 0 (List.length s.1))), (1, (eI a1)), (2, (eI b2)), (3, (.fn (.func cmp3_f) cmp3_a cmp3_c)), (8, (eI i8)), (9, (eI s.2))] ∧ aN ⟨H0, [lo0p], []⟩ H [(lo0p, 3, List.map aD s.1)] ∧ List.length s.1 = N0) hl1 ⟨.eq (by kernel_rfl), hO, hN⟩ ?_
    clear hO hN
    rintro k1 s out2 T H ⟨hT, hO, hN⟩ h2 ho1
    obtain ⟨aB, j9⟩ := s
    replace h2 : jL cmp3 a1 b2 i8 aB j9 = some out2 := h2
    try dsimp only at hT
    refine bA hT ?_
    clear hT
    unfold jL at h2
    refine aO ?_
    refine aO ?_
    obtain ⟨c2, h2⟩ := bE h2
    obtain ⟨c3, h2⟩ := bE h2
    obtain ⟨x4, hx5, h2⟩ := aW h2
    refine eS (eV []) aF 17 ?_
    refine yB (K := fun T H => Has (lift T) [(0, (.msl 3 lo0p 0 (List.length aB))), (1, (eI a1)), (2, (eI b2)), (3, (.fn (.func cmp3_f) cmp3_a cmp3_c)), (8, (eI i8)), (9, (eI j9)), (34, (aK ((decide (a1 < j9)) && (decide (x4 < (0 : Int))))))] ∧ aN ⟨H0, [lo0p], []⟩ H [(lo0p, 3, List.map aD aB)]) ?_ ?_
    · refine qH 4 ?_
      refine sE (t := 21) (e := decide (a1 < j9)) (by kernel_rfl) (fun hg6 => ?_) (fun hg6 => ?_)
      · refine dA 8 [0 ≤ j9 ∧ j9 < (lN aB)] ⟨(c2 hg6), trivial⟩ ?_
        refine CQ 0 lo0p 3 (0 + Int.toNat j9) (aD (gD aB j9)) (aD (gD aB j9)) (List.map aD aB) (by kernel_rfl) (by kernel_rfl) (by kernel_rfl) hO (by kernel_rfl) (dB (c2 hg6)) ?_
        refine dA 13 [0 ≤ (wR (j9 - (1 : Int))) ∧ (wR (j9 - (1 : Int))) < (lN aB)] ⟨(c3 hg6), trivial⟩ ?_
        refine CQ 0 lo0p 3 (0 + Int.toNat (wR (j9 - (1 : Int)))) (aD (gD aB (wR (j9 - (1 : Int))))) (aD (gD aB (wR (j9 - (1 : Int))))) (List.map aD aB) (by kernel_rfl) (by kernel_rfl) (by kernel_rfl) hO (by kernel_rfl) (dB (c3 hg6)) ?_
        refine CN cmp3_f (cmp3_a ++ [(aD (gD aB j9)), (aD (gD aB (wR (j9 - (1 : Int)))))] ++ cmp3_c) (eI x4) (by kernel_rfl) (by kernel_rfl) (cmp3_h (gD aB j9) (gD aB (wR (j9 - (1 : Int)))) _ (fP hx5 hg6)) hO ?_
        intro H hO
        refine iJ ?_
        exact ⟨⟨[(0, (.msl 3 lo0p 0 (List.length aB))), (1, (eI a1)), (2, (eI b2)), (3, (.fn (.func cmp3_f) cmp3_a cmp3_c)), (8, (eI i8)), (9, (eI j9)), (34, (aK (decide (x4 < (0 : Int)))))], by kernel_rfl, rfl, ⟨aZ.refl _, aZ.refl _, aZ.refl _, aZ.refl _, aZ.refl _, aZ.refl _, aZ.eq (congrArg aK (tT hg6 rfl).symm), trivial⟩⟩, hO⟩
      refine iJ ?_
      exact ⟨⟨[(0, (.msl 3 lo0p 0 (List.length aB))), (1, (eI a1)), (2, (eI b2)), (3, (.fn (.func cmp3_f) cmp3_a cmp3_c)), (8, (eI i8)), (9, (eI j9)), (34, (aK false))], by kernel_rfl, rfl, ⟨aZ.refl _, aZ.refl _, aZ.refl _, aZ.refl _, aZ.refl _, aZ.refl _, aZ.eq (congrArg aK (tT hg6 rfl).symm), trivial⟩⟩, hO⟩
    · rintro T H ⟨hT, hO⟩
      refine cJ hT ?_
      clear hT
      refine aJ (aH ?_)
      refine bJ h2 (fun h2 => ?_) (fun h2 => ?_)
      · refine bL ?_
        refine bH [(0, (.msl 3 lo0p 0 (List.length aB))), (1, (eI a1)), (2, (eI b2)), (3, (.fn (.func cmp3_f) cmp3_a cmp3_c)), (8, (eI i8)), (9, (eI j9))] ?_
        refine aO ?_
        refine bO 3 ?_
        refine eS (eV []) aF 18 ?_
        obtain ⟨c8, h2⟩ := bE h2
        refine dA 9 [0 ≤ (wR (j9 - (1 : Int))) ∧ (wR (j9 - (1 : Int))) < (lN aB)] ⟨c8, trivial⟩ ?_
        refine lT 0 lo0p 3 (0 + Int.toNat (wR (j9 - (1 : Int)))) (aD (gD aB (wR (j9 - (1 : Int))))) (aD (gD aB (wR (j9 - (1 : Int))))) (List.map aD aB) hO (dB c8) ?_
        obtain ⟨c9, h2⟩ := bE h2
        refine dA 13 [0 ≤ j9 ∧ j9 < (lN aB)] ⟨c9, trivial⟩ ?_
        refine lT 0 lo0p 3 (0 + Int.toNat j9) (aD (gD aB j9)) (aD (gD aB j9)) (List.map aD aB) hO (dB c9) ?_
        obtain ⟨c10, h2⟩ := bE h2
        refine dA 15 [0 ≤ j9 ∧ j9 < (lN aB)] ⟨c10, trivial⟩ ?_
        refine vH 0 lo0p 3 (0 + Int.toNat j9) (aD (gD aB j9)) (aD (gD aB (wR (j9 - (1 : Int))))) (List.map aD aB) [(lo0p, 3, List.map aD (List.set aB (Int.toNat j9) (gD aB (wR (j9 - (1 : Int))))))] hO (dB c10) (by simp only [List.set, pR]) ?_
        intro H hO
        replace hN : List.length (List.set aB (Int.toNat j9) (gD aB (wR (j9 - (1 : Int))))) = N0 := by simpa using hN
        obtain ⟨c11, h2⟩ := bE h2
        refine dA 17 [0 ≤ (wR (j9 - (1 : Int))) ∧ (wR (j9 - (1 : Int))) < (lN aB)] ⟨c11, trivial⟩ ?_
        refine vH 0 lo0p 3 (0 + Int.toNat (wR (j9 - (1 : Int)))) (aD (gD (List.set aB (Int.toNat j9) (gD aB (wR (j9 - (1 : Int))))) (wR (j9 - (1 : Int))))) (aD (gD aB j9)) (List.map aD (List.set aB (Int.toNat j9) (gD aB (wR (j9 - (1 : Int)))))) [(lo0p, 3, List.map aD (List.set (List.set aB (Int.toNat j9) (gD aB (wR (j9 - (1 : Int))))) (Int.toNat (wR (j9 - (1 : Int)))) (gD aB j9)))] hO (CO c11 (by simp [])) (by simp only [List.set, pR]) ?_
        intro H hO
        replace hN : List.length (List.set (List.set aB (Int.toNat j9) (gD aB (wR (j9 - (1 : Int))))) (Int.toNat (wR (j9 - (1 : Int)))) (gD aB j9)) = N0 := by simpa using hN
        refine DV (by kernel_rfl) ?_
        refine cJ (l := [(0, (.msl 3 lo0p 0 (List.length (List.set (List.set aB (Int.toNat j9) (gD aB (wR (j9 - (1 : Int))))) (Int.toNat (wR (j9 - (1 : Int)))) (gD aB j9))))), (1, (eI a1)), (2, (eI b2)), (3, (.fn (.func cmp3_f) cmp3_a cmp3_c)), (8, (eI i8)), (9, (eI j9))]) ⟨[(0, (.msl 3 lo0p 0 (List.length aB))), (1, (eI a1)), (2, (eI b2)), (3, (.fn (.func cmp3_f) cmp3_a cmp3_c)), (8, (eI i8)), (9, (eI j9))], by kernel_rfl, rfl, ⟨aZ.eq (by simp []), aZ.refl _, aZ.refl _, aZ.refl _, aZ.refl _, aZ.refl _, trivial⟩⟩ ?_
        refine aJ (aV (aH (?_)))
        refine aU aF 3 ?_
        refine bC ?_
        exact aJ (aH (⟨rfl, _, (oI h2).symm, .eq (by kernel_rfl), hO, hN⟩))
      refine cV 2 ?_
      obtain rfl := oI h2
      obtain rfl : _ = rr1 := ho1
      replace h1 : fF cmp3 aB a1 b2 i8 = some out1 := h1
      exact aJ (aS (aS (bM (aV (aH (⟨rfl, _, .eq (by kernel_rfl), hO, hN, h1⟩))))))
  refine cV 0 ?_
  obtain rfl := oI h1
  obtain rfl : _ = rr0 := ho0
  replace h0 : some aB = some r := h0
  obtain rfl := oI h0
  exact aJ (aS (aS (bM (tQ (x := (.tup [])) (by kernel_rfl) (aZ.refl _) ⟨rfl, hO.ext, hO.at 0 (by kernel_rfl), by simp only [List.length_map]; exact hN.trans hN0⟩))))

theorem lS (lo0p : Nat) (aB : (List aC)) (a1 : Int) (b2 : Int) (n3 : Int) (cmp4_f : Nat) (cmp4_a cmp4_c : List V) (cmp4 : aC → aC → Option Int) (cmp4_h : ∀ a0 a1 r, cmp4 a0 a1 = some r → bY Tryz.prog cmp4_f (cmp4_a ++ [(aD a0), (aD a1)] ++ cmp4_c) (eI r)) (r : List aC) (h0 : eU aB a1 b2 n3 cmp4 = some r) : mB Tryz.prog 108 lo0p 3 (List.map aD aB) (List.map aD r) [(.msl 3 lo0p 0 (List.length aB)), (eI a1), (eI b2), (eI n3), (.fn (.func cmp4_f) cmp4_a cmp4_c)] (.tup []) := by
  intro H0 hl0
  refine cF Tryz.func108 ?_
  have hO := aN.rO hl0
  clear hl0
  obtain ⟨N0, hN0⟩ : ∃ n, n = List.length aB := ⟨_, rfl⟩
  have hN : List.length aB = N0 := hN0.symm
  unfold eU at h0
  refine aY aF 1 [4] [(10, (eI (0 : Int)))] ?_
  refine bO 0 ?_
  refine cL [(0, (.msl 3 lo0p 0 (List.length aB))), (1, (eI a1)), (2, (eI b2)), (3, (eI n3)), (10, (eI (0 : Int)))] ?_
  refine cC (fun T H => ∃ aB : List aC, ∃ i10 : Int, Has T [(0, (.msl 3 lo0p 0 (List.length aB))), (1, (eI a1)), (2, (eI b2)), (3, (eI n3)), (10, (eI i10))] ∧ aN ⟨H0, [lo0p], []⟩ H [(lo0p, 3, List.map aD aB)] ∧ List.length aB = N0 ∧ kP cmp4 aB a1 b2 n3 i10 = some r) ?_ ⟨aB, (0 : Int), .eq (by kernel_rfl), hO, hN, h0⟩
  clear hO hN h0
  rintro T H ⟨aB, i10, hT, hO, hN, h0⟩
  refine bA hT ?_
  clear hT
  unfold kP at h0
  obtain ⟨rr0, hl0, h0⟩ := aW h0
  refine bX (by kernel_rfl) (fun (s : List aC × Int) T H => Has T [(0, (.msl 3 lo0p 0 (List.length s.1))), (1, (eI a1)), (2, (eI b2)), (3, (eI n3)), (10, (eI s.2))] ∧ aN ⟨H0, [lo0p], []⟩ H [(lo0p, 3, List.map aD s.1)] ∧ List.length s.1 = N0) hl0 ⟨.eq (by kernel_rfl), hO, hN⟩ ?_
  clear hO hN
  rintro k0 s out1 T H ⟨hT, hO, hN⟩ h1 ho0
  obtain ⟨aB, i10⟩ := s
  replace h1 : kL cmp4 a1 b2 n3 aB i10 = some out1 := h1
  try dsimp only at hT
  refine bA hT ?_
  clear hT
  unfold kL at h1
  refine aO ?_
  refine aY aF 3 [] [(13, (aK (decide (i10 < n3))))] ?_
  refine bJ h1 (fun h1 => ?_) (fun h1 => ?_)
  · refine bL ?_
    refine bH [(0, (.msl 3 lo0p 0 (List.length aB))), (1, (eI a1)), (2, (eI b2)), (3, (eI n3)), (10, (eI i10))] ?_
    refine aO ?_
    refine bO 1 ?_
    refine eS (eV []) aF 24 ?_
    obtain ⟨c2, h1⟩ := bE h1
    refine dA 13 [0 ≤ (wR (b2 + i10)) ∧ (wR (b2 + i10)) < (lN aB)] ⟨c2, trivial⟩ ?_
    refine lT 0 lo0p 3 (0 + Int.toNat (wR (b2 + i10))) (aD (gD aB (wR (b2 + i10)))) (aD (gD aB (wR (b2 + i10)))) (List.map aD aB) hO (dB c2) ?_
    obtain ⟨c3, h1⟩ := bE h1
    refine dA 19 [0 ≤ (wR (a1 + i10)) ∧ (wR (a1 + i10)) < (lN aB)] ⟨c3, trivial⟩ ?_
    refine lT 0 lo0p 3 (0 + Int.toNat (wR (a1 + i10))) (aD (gD aB (wR (a1 + i10)))) (aD (gD aB (wR (a1 + i10)))) (List.map aD aB) hO (dB c3) ?_
    obtain ⟨c4, h1⟩ := bE h1
    refine dA 21 [0 ≤ (wR (a1 + i10)) ∧ (wR (a1 + i10)) < (lN aB)] ⟨c4, trivial⟩ ?_
    refine vH 0 lo0p 3 (0 + Int.toNat (wR (a1 + i10))) (aD (gD aB (wR (a1 + i10)))) (aD (gD aB (wR (b2 + i10)))) (List.map aD aB) [(lo0p, 3, List.map aD (List.set aB (Int.toNat (wR (a1 + i10))) (gD aB (wR (b2 + i10)))))] hO (dB c4) (by simp only [List.set, pR]) ?_
    intro H hO
    replace hN : List.length (List.set aB (Int.toNat (wR (a1 + i10))) (gD aB (wR (b2 + i10)))) = N0 := by simpa using hN
    obtain ⟨c5, h1⟩ := bE h1
    refine dA 23 [0 ≤ (wR (b2 + i10)) ∧ (wR (b2 + i10)) < (lN aB)] ⟨c5, trivial⟩ ?_
    refine vH 0 lo0p 3 (0 + Int.toNat (wR (b2 + i10))) (aD (gD (List.set aB (Int.toNat (wR (a1 + i10))) (gD aB (wR (b2 + i10)))) (wR (b2 + i10)))) (aD (gD aB (wR (a1 + i10)))) (List.map aD (List.set aB (Int.toNat (wR (a1 + i10))) (gD aB (wR (b2 + i10))))) [(lo0p, 3, List.map aD (List.set (List.set aB (Int.toNat (wR (a1 + i10))) (gD aB (wR (b2 + i10)))) (Int.toNat (wR (b2 + i10))) (gD aB (wR (a1 + i10)))))] hO (CO c5 (by simp [])) (by simp only [List.set, pR]) ?_
    intro H hO
    replace hN : List.length (List.set (List.set aB (Int.toNat (wR (a1 + i10))) (gD aB (wR (b2 + i10)))) (Int.toNat (wR (b2 + i10))) (gD aB (wR (a1 + i10)))) = N0 := by simpa using hN
    refine DV (by kernel_rfl) ?_
    refine cJ (l := [(0, (.msl 3 lo0p 0 (List.length (List.set (List.set aB (Int.toNat (wR (a1 + i10))) (gD aB (wR (b2 + i10)))) (Int.toNat (wR (b2 + i10))) (gD aB (wR (a1 + i10))))))), (1, (eI a1)), (2, (eI b2)), (3, (eI n3)), (10, (eI i10))]) ⟨[(0, (.msl 3 lo0p 0 (List.length aB))), (1, (eI a1)), (2, (eI b2)), (3, (eI n3)), (10, (eI i10))], by kernel_rfl, rfl, ⟨aZ.eq (by simp []), aZ.refl _, aZ.refl _, aZ.refl _, aZ.refl _, trivial⟩⟩ ?_
    refine aJ (aV (aH (?_)))
    refine aU aF 3 ?_
    refine bC ?_
    exact aJ (aH (⟨rfl, _, (oI h1).symm, .eq (by kernel_rfl), hO, hN⟩))
  refine cV 0 ?_
  obtain rfl := oI h1
  obtain rfl : _ = rr0 := ho0
  replace h0 : some aB = some r := h0
  obtain rfl := oI h0
  exact aJ (aS (aS (bM (tQ (x := (.tup [])) (by kernel_rfl) (aZ.refl _) ⟨rfl, hO.ext, hO.at 0 (by kernel_rfl), by simp only [List.length_map]; exact hN.trans hN0⟩))))

theorem CT (lo0p : Nat) (aB : (List aC)) (a1 : Int) (m2 : Int) (b3 : Int) (cmp4_f : Nat) (cmp4_a cmp4_c : List V) (cmp4 : aC → aC → Option Int) (cmp4_h : ∀ a0 a1 r, cmp4 a0 a1 = some r → bY Tryz.prog cmp4_f (cmp4_a ++ [(aD a0), (aD a1)] ++ cmp4_c) (eI r)) (r : List aC) (h0 : nE aB a1 m2 b3 cmp4 = some r) : mB Tryz.prog 103 lo0p 3 (List.map aD aB) (List.map aD r) [(.msl 3 lo0p 0 (List.length aB)), (eI a1), (eI m2), (eI b3), (.fn (.func cmp4_f) cmp4_a cmp4_c)] (.tup []) := by
  intro H0 hl0
  refine cF Tryz.func103 ?_
  have hO := aN.rO hl0
  clear hl0
  obtain ⟨N0, hN0⟩ : ∃ n, n = List.length aB := ⟨_, rfl⟩
  have hN : List.length aB = N0 := hN0.symm
  unfold nE at h0
  refine aY aF 4 [1] [(10, (eI (wR (m2 - a1))))] ?_
  refine aY aF 4 [3] [(11, (eI (wR (b3 - m2))))] ?_
  refine cH (fun T H => ∃ aB : List aC, ∃ i10 : Int, Has T [(0, (.msl 3 lo0p 0 (List.length aB))), (2, (eI m2)), (4, (.fn (.func cmp4_f) cmp4_a cmp4_c)), (10, (eI i10))] ∧ aN ⟨H0, [lo0p], []⟩ H [(lo0p, 3, List.map aD aB)] ∧ List.length aB = N0 ∧ iW cmp4 aB m2 i10 = some r) ?_ ?_
  · clear hO hN h0
    rintro T H ⟨aB, i10, hT, hO, hN, h0⟩
    refine bA hT ?_
    clear hT
    unfold iW at h0
    refine aU aF 8 ?_
    refine bR 7 ?_
    obtain ⟨x1, hx2, h0⟩ := aW h0
    refine qL [(lo0p, 3, List.map aD x1)] 0 (lS lo0p aB (wR (m2 - i10)) m2 i10 cmp4_f cmp4_a cmp4_c cmp4 cmp4_h _ hx2) hO ?_
    intro H hO hl3
    simp only [List.length_map] at hl3
    replace hN := hl3.trans hN
    refine cW ?_
    refine cJ (l := [(0, (.msl 3 lo0p 0 (List.length x1)))]) ⟨[(0, (.msl 3 lo0p 0 (List.length aB)))], by kernel_rfl, rfl, ⟨aZ.eq (by simp [hl3]), trivial⟩⟩ ?_
    obtain rfl := oI h0
    exact aJ (tQ (x := (.tup [])) (by kernel_rfl) (aZ.refl _) ⟨rfl, hO.ext, hO.at 0 (by kernel_rfl), by simp only [List.length_map]; exact hN.trans hN0⟩)
  refine bO 0 ?_
  refine cL [(0, (.msl 3 lo0p 0 (List.length aB))), (2, (eI m2)), (4, (.fn (.func cmp4_f) cmp4_a cmp4_c)), (10, (eI (wR (m2 - a1)))), (11, (eI (wR (b3 - m2))))] ?_
  refine cC (fun T H => ∃ aB : List aC, ∃ i10 : Int, ∃ j11 : Int, Has T [(0, (.msl 3 lo0p 0 (List.length aB))), (2, (eI m2)), (4, (.fn (.func cmp4_f) cmp4_a cmp4_c)), (10, (eI i10)), (11, (eI j11))] ∧ aN ⟨H0, [lo0p], []⟩ H [(lo0p, 3, List.map aD aB)] ∧ List.length aB = N0 ∧ mO cmp4 aB m2 i10 j11 = some r) ?_ ⟨aB, wR (m2 - a1), wR (b3 - m2), .eq (by kernel_rfl), hO, hN, h0⟩
  clear hO hN h0
  rintro T H ⟨aB, i10, j11, hT, hO, hN, h0⟩
  refine bA hT ?_
  clear hT
  unfold mO at h0
  obtain ⟨rr0, hl0, h0⟩ := aW h0
  refine bX (by kernel_rfl) (fun (s : List aC × Int × Int) T H => Has T [(0, (.msl 3 lo0p 0 (List.length s.1))), (2, (eI m2)), (4, (.fn (.func cmp4_f) cmp4_a cmp4_c)), (10, (eI s.2.1)), (11, (eI s.2.2))] ∧ aN ⟨H0, [lo0p], []⟩ H [(lo0p, 3, List.map aD s.1)] ∧ List.length s.1 = N0) hl0 ⟨.eq (by kernel_rfl), hO, hN⟩ ?_
  clear hO hN
  rintro k0 s out1 T H ⟨hT, hO, hN⟩ h1 ho0
  obtain ⟨aB, i10, j11⟩ := s
  replace h1 : mP cmp4 m2 aB i10 j11 = some out1 := h1
  try dsimp only at hT
  refine bA hT ?_
  clear hT
  unfold mP at h1
  refine aO ?_
  refine aY aF 3 [] [(20, (aK (!decide (i10 = j11))))] ?_
  refine bJ h1 (fun h1 => ?_) (fun h1 => ?_)
  · refine bL ?_
    refine bH [(0, (.msl 3 lo0p 0 (List.length aB))), (2, (eI m2)), (4, (.fn (.func cmp4_f) cmp4_a cmp4_c)), (10, (eI i10)), (11, (eI j11))] ?_
    refine bO 1 ?_
    refine aY aF 3 [] [(23, (aK (decide (j11 < i10))))] ?_
    refine bJ h1 (fun h1 => ?_) (fun h1 => ?_)
    · refine aO ?_
      refine aU aF 8 ?_
      refine bR 7 ?_
      obtain ⟨x6, hx7, h1⟩ := aW h1
      refine qL [(lo0p, 3, List.map aD x6)] 0 (lS lo0p aB (wR (m2 - i10)) m2 j11 cmp4_f cmp4_a cmp4_c cmp4 cmp4_h _ hx7) hO ?_
      intro H hO hl8
      simp only [List.length_map] at hl8
      replace hN := hl8.trans hN
      refine cW ?_
      refine cJ (l := [(0, (.msl 3 lo0p 0 (List.length x6))), (2, (eI m2)), (4, (.fn (.func cmp4_f) cmp4_a cmp4_c)), (10, (eI i10)), (11, (eI j11))]) ⟨[(0, (.msl 3 lo0p 0 (List.length aB))), (2, (eI m2)), (4, (.fn (.func cmp4_f) cmp4_a cmp4_c)), (10, (eI i10)), (11, (eI j11))], by kernel_rfl, rfl, ⟨aZ.eq (by simp [hl8]), aZ.refl _, aZ.refl _, aZ.refl _, aZ.refl _, trivial⟩⟩ ?_
      refine aJ (aH (?_))
      refine aU aF 4 ?_
      refine bC ?_
      exact aJ (aV (aH (⟨rfl, _, (oI h1).symm, .eq (by kernel_rfl), hO, hN⟩)))
    refine aO ?_
    refine aU aF 12 ?_
    refine bR 11 ?_
    obtain ⟨x9, hx10, h1⟩ := aW h1
    refine qL [(lo0p, 3, List.map aD x9)] 0 (lS lo0p aB (wR (m2 - i10)) (wR ((wR (m2 + j11)) - i10)) i10 cmp4_f cmp4_a cmp4_c cmp4 cmp4_h _ hx10) hO ?_
    intro H hO hl11
    simp only [List.length_map] at hl11
    replace hN := hl11.trans hN
    refine cW ?_
    refine cJ (l := [(0, (.msl 3 lo0p 0 (List.length x9))), (2, (eI m2)), (4, (.fn (.func cmp4_f) cmp4_a cmp4_c)), (10, (eI i10)), (11, (eI j11))]) ⟨[(0, (.msl 3 lo0p 0 (List.length aB))), (2, (eI m2)), (4, (.fn (.func cmp4_f) cmp4_a cmp4_c)), (10, (eI i10)), (11, (eI j11))], by kernel_rfl, rfl, ⟨aZ.eq (by simp [hl11]), aZ.refl _, aZ.refl _, aZ.refl _, aZ.refl _, trivial⟩⟩ ?_
    refine aJ (aH (?_))
    refine aU aF 4 ?_
    refine bC ?_
    exact aJ (aV (aH (⟨rfl, _, (oI h1).symm, .eq (by kernel_rfl), hO, hN⟩)))
  refine cV 0 ?_
  obtain rfl := oI h1
  obtain rfl : _ = rr0 := ho0
  replace h0 : iW cmp4 aB m2 i10 = some r := h0
  exact aJ (aS (aS (bM (aH (⟨rfl, _, _, .eq (by kernel_rfl), hO, hN, h0⟩)))))

theorem xD (cmp4_f : Nat) (cmp4_a cmp4_c : List V) (cmp4 : aC → aC → Option Int) (cmp4_h : ∀ a0 a1 r, cmp4 a0 a1 = some r → bY Tryz.prog cmp4_f (cmp4_a ++ [(aD a0), (aD a1)] ++ cmp4_c) (eI r)) (rec : (List aC) → Int → Int → Int → Option (List aC)) (ih : ∀ (lo0p : Nat) (aB : (List aC)) (a1 : Int) (m2 : Int) (b3 : Int) (r : List aC), rec aB a1 m2 b3 = some r → mB Tryz.prog 98 lo0p 3 (List.map aD aB) (List.map aD r) [(.msl 3 lo0p 0 (List.length aB)), (eI a1), (eI m2), (eI b3), (.fn (.func cmp4_f) cmp4_a cmp4_c)] (.tup [])) (lo0p : Nat) (aB : (List aC)) (a1 : Int) (m2 : Int) (b3 : Int) (r : List aC) (h0 : eG cmp4 rec aB a1 m2 b3 = some r) : mB Tryz.prog 98 lo0p 3 (List.map aD aB) (List.map aD r) [(.msl 3 lo0p 0 (List.length aB)), (eI a1), (eI m2), (eI b3), (.fn (.func cmp4_f) cmp4_a cmp4_c)] (.tup []) := by
  intro H0 hl0
  refine cF Tryz.func98 ?_
  have hO := aN.rO hl0
  clear hl0
  obtain ⟨N0, hN0⟩ : ∃ n, n = List.length aB := ⟨_, rfl⟩
  have hN : List.length aB = N0 := hN0.symm
  unfold eG at h0
  refine cH (fun T H => ∃ aB : List aC, Has T [(0, (.msl 3 lo0p 0 (List.length aB))), (1, (eI a1)), (2, (eI m2)), (3, (eI b3)), (4, (.fn (.func cmp4_f) cmp4_a cmp4_c))] ∧ aN ⟨H0, [lo0p], []⟩ H [(lo0p, 3, List.map aD aB)] ∧ List.length aB = N0 ∧ lR cmp4 rec aB a1 m2 b3 = some r) ?_ ?_
  · clear hO hN h0
    rintro T H ⟨aB, hT, hO, hN, h0⟩
    refine bA hT ?_
    clear hT
    unfold lR at h0
    refine cH (fun T H => ∃ aB : List aC, Has T [(0, (.msl 3 lo0p 0 (List.length aB))), (1, (eI a1)), (2, (eI m2)), (3, (eI b3)), (4, (.fn (.func cmp4_f) cmp4_a cmp4_c))] ∧ aN ⟨H0, [lo0p], []⟩ H [(lo0p, 3, List.map aD aB)] ∧ List.length aB = N0 ∧ lU cmp4 rec aB a1 m2 b3 = some r) ?_ ?_
    · clear hO hN h0
      rintro T H ⟨aB, hT, hO, hN, h0⟩
      refine bA hT ?_
      clear hT
      unfold lU at h0
      refine aO ?_
      refine aU aF 7 ?_
      obtain ⟨c1, h0⟩ := bE h0
      refine oN [0 ≤ (1 : Int)] ⟨c1, trivial⟩ ?_
      refine bT [] [(18, (eI (wR (Int.fdiv (IntKind.u64.wrap (wR (a1 + b3))) (2 ^ (min (Int.toNat (1 : Int)) 64))))))] ?_
      refine aY aF 4 [] [(19, (eI (wR ((wR (Int.fdiv (IntKind.u64.wrap (wR (a1 + b3))) (2 ^ (min (Int.toNat (1 : Int)) 64)))) + m2))))] ?_
      refine aY aF 2 [] [] ?_
      refine cH (fun T H => ∃ aB : List aC, ∃ bZ : Int, ∃ n19 : Int, ∃ bB : Int, ∃ r21 : Int, Has T [(0, (.msl 3 lo0p 0 (List.length aB))), (1, (eI a1)), (2, (eI m2)), (3, (eI b3)), (4, (.fn (.func cmp4_f) cmp4_a cmp4_c)), (18, (eI bZ)), (19, (eI n19)), (20, (eI bB)), (21, (eI r21))] ∧ aN ⟨H0, [lo0p], []⟩ H [(lo0p, 3, List.map aD aB)] ∧ List.length aB = N0 ∧ hM cmp4 rec aB a1 m2 b3 bZ n19 bB r21 = some r) ?_ ?_
      · clear hO hN h0
        rintro T H ⟨aB, bZ, n19, bB, r21, hT, hO, hN, h0⟩
        refine bA hT ?_
        clear hT
        unfold hM at h0
        refine aY aF 3 [] [(22, (eI (wR (n19 - (1 : Int)))))] ?_
        refine cH (fun T H => ∃ aB : List aC, ∃ bB : Int, Has T [(0, (.msl 3 lo0p 0 (List.length aB))), (1, (eI a1)), (2, (eI m2)), (3, (eI b3)), (4, (.fn (.func cmp4_f) cmp4_a cmp4_c)), (18, (eI bZ)), (19, (eI n19)), (20, (eI bB))] ∧ aN ⟨H0, [lo0p], []⟩ H [(lo0p, 3, List.map aD aB)] ∧ List.length aB = N0 ∧ gY cmp4 rec aB a1 m2 b3 bZ n19 bB = some r) ?_ ?_
        · clear hO hN h0
          rintro T H ⟨aB, bB, hT, hO, hN, h0⟩
          refine bA hT ?_
          clear hT
          unfold gY at h0
          refine aY aF 4 [19] [(24, (eI (wR (n19 - bB))))] ?_
          refine cH (fun T H => ∃ aB : List aC, ∃ eJ : Int, Has T [(0, (.msl 3 lo0p 0 (List.length aB))), (1, (eI a1)), (3, (eI b3)), (4, (.fn (.func cmp4_f) cmp4_a cmp4_c)), (18, (eI bZ)), (20, (eI bB)), (24, (eI eJ))] ∧ aN ⟨H0, [lo0p], []⟩ H [(lo0p, 3, List.map aD aB)] ∧ List.length aB = N0 ∧ gU cmp4 rec aB a1 b3 bZ bB eJ = some r) ?_ ?_
          · clear hO hN h0
            rintro T H ⟨aB, eJ, hT, hO, hN, h0⟩
            refine bA hT ?_
            clear hT
            unfold gU at h0
            refine cH (fun T H => ∃ aB : List aC, Has T [(0, (.msl 3 lo0p 0 (List.length aB))), (3, (eI b3)), (4, (.fn (.func cmp4_f) cmp4_a cmp4_c)), (18, (eI bZ)), (24, (eI eJ))] ∧ aN ⟨H0, [lo0p], []⟩ H [(lo0p, 3, List.map aD aB)] ∧ List.length aB = N0 ∧ hU cmp4 rec aB b3 bZ eJ = some r) ?_ ?_
            · clear hO hN h0
              rintro T H ⟨aB, hT, hO, hN, h0⟩
              refine bA hT ?_
              clear hT
              unfold hU at h0
              refine aY aF 8 [] [(213, (aK ((decide (bZ < eJ)) && (decide (eJ < b3)))))] ?_
              refine bJ h0 (fun h0 => ?_) (fun h0 => ?_)
              · refine aU aF 6 ?_
                refine bR 5 ?_
                obtain ⟨x3, hx4, h0⟩ := aW h0
                refine qL [(lo0p, 3, List.map aD x3)] 0 (ih lo0p aB bZ eJ b3 _ hx4) hO ?_
                intro H hO hl5
                simp only [List.length_map] at hl5
                replace hN := hl5.trans hN
                refine cW ?_
                refine cJ (l := [(0, (.msl 3 lo0p 0 (List.length x3)))]) ⟨[(0, (.msl 3 lo0p 0 (List.length aB)))], by kernel_rfl, rfl, ⟨aZ.eq (by simp [hl5]), trivial⟩⟩ ?_
                obtain rfl := oI h0
                exact aJ (tQ (x := (.tup [])) (by kernel_rfl) (aZ.refl _) ⟨rfl, hO.ext, hO.at 0 (by kernel_rfl), by simp only [List.length_map]; exact hN.trans hN0⟩)
              refine bL ?_
              obtain rfl := oI h0
              exact aJ (tQ (x := (.tup [])) (by kernel_rfl) (aZ.refl _) ⟨rfl, hO.ext, hO.at 0 (by kernel_rfl), by simp only [List.length_map]; exact hN.trans hN0⟩)
            refine aY aF 8 [] [(199, (aK ((decide (a1 < bB)) && (decide (bB < bZ)))))] ?_
            refine bJ h0 (fun h0 => ?_) (fun h0 => ?_)
            · refine aU aF 6 ?_
              refine bR 5 ?_
              obtain ⟨x7, hx8, h0⟩ := aW h0
              refine qL [(lo0p, 3, List.map aD x7)] 0 (ih lo0p aB a1 bB bZ _ hx8) hO ?_
              intro H hO hl9
              simp only [List.length_map] at hl9
              replace hN := hl9.trans hN
              refine cW ?_
              refine cJ (l := [(0, (.msl 3 lo0p 0 (List.length x7))), (3, (eI b3)), (4, (.fn (.func cmp4_f) cmp4_a cmp4_c)), (18, (eI bZ)), (24, (eI eJ))]) ⟨[(0, (.msl 3 lo0p 0 (List.length aB))), (3, (eI b3)), (4, (.fn (.func cmp4_f) cmp4_a cmp4_c)), (18, (eI bZ)), (24, (eI eJ))], by kernel_rfl, rfl, ⟨aZ.eq (by simp [hl9]), aZ.refl _, aZ.refl _, aZ.refl _, aZ.refl _, trivial⟩⟩ ?_
              exact aJ (aH (⟨rfl, _, .eq (by kernel_rfl), hO, hN, h0⟩))
            refine bL ?_
            exact aJ (aH (⟨rfl, _, .eq (by kernel_rfl), hO, hN, h0⟩))
          refine aY aF 8 [] [(185, (aK ((decide (bB < m2)) && (decide (m2 < (wR (n19 - bB)))))))] ?_
          refine bJ h0 (fun h0 => ?_) (fun h0 => ?_)
          · refine aU aF 6 ?_
            refine bR 5 ?_
            obtain ⟨x11, hx12, h0⟩ := aW h0
            refine qL [(lo0p, 3, List.map aD x11)] 0 (CT lo0p aB bB m2 (wR (n19 - bB)) cmp4_f cmp4_a cmp4_c cmp4 cmp4_h _ hx12) hO ?_
            intro H hO hl13
            simp only [List.length_map] at hl13
            replace hN := hl13.trans hN
            refine cW ?_
            refine cJ (l := [(0, (.msl 3 lo0p 0 (List.length x11))), (1, (eI a1)), (3, (eI b3)), (4, (.fn (.func cmp4_f) cmp4_a cmp4_c)), (18, (eI bZ)), (20, (eI bB)), (24, (eI (wR (n19 - bB))))]) ⟨[(0, (.msl 3 lo0p 0 (List.length aB))), (1, (eI a1)), (3, (eI b3)), (4, (.fn (.func cmp4_f) cmp4_a cmp4_c)), (18, (eI bZ)), (20, (eI bB)), (24, (eI (wR (n19 - bB))))], by kernel_rfl, rfl, ⟨aZ.eq (by simp [hl13]), aZ.refl _, aZ.refl _, aZ.refl _, aZ.refl _, aZ.refl _, aZ.refl _, trivial⟩⟩ ?_
            exact aJ (aH (⟨rfl, _, _, .eq (by kernel_rfl), hO, hN, h0⟩))
          refine bL ?_
          exact aJ (aH (⟨rfl, _, _, .eq (by kernel_rfl), hO, hN, h0⟩))
        refine bO 8 ?_
        refine cL [(0, (.msl 3 lo0p 0 (List.length aB))), (1, (eI a1)), (2, (eI m2)), (3, (eI b3)), (4, (.fn (.func cmp4_f) cmp4_a cmp4_c)), (18, (eI bZ)), (19, (eI n19)), (20, (eI bB)), (21, (eI r21)), (22, (eI (wR (n19 - (1 : Int)))))] ?_
        refine cC (fun T H => ∃ aB : List aC, ∃ bB : Int, ∃ r21 : Int, ∃ p22 : Int, Has T [(0, (.msl 3 lo0p 0 (List.length aB))), (1, (eI a1)), (2, (eI m2)), (3, (eI b3)), (4, (.fn (.func cmp4_f) cmp4_a cmp4_c)), (18, (eI bZ)), (19, (eI n19)), (20, (eI bB)), (21, (eI r21)), (22, (eI p22))] ∧ aN ⟨H0, [lo0p], []⟩ H [(lo0p, 3, List.map aD aB)] ∧ List.length aB = N0 ∧ lY cmp4 rec aB a1 m2 b3 bZ n19 bB r21 p22 = some r) ?_ ⟨aB, bB, r21, wR (n19 - (1 : Int)), .eq (by kernel_rfl), hO, hN, h0⟩
        clear hO hN h0
        rintro T H ⟨aB, bB, r21, p22, hT, hO, hN, h0⟩
        refine bA hT ?_
        clear hT
        unfold lY at h0
        obtain ⟨rr0, hl0, h0⟩ := aW h0
        refine bX (by kernel_rfl) (fun (s : List aC × Int × Int) T H => Has T [(0, (.msl 3 lo0p 0 (List.length s.1))), (1, (eI a1)), (2, (eI m2)), (3, (eI b3)), (4, (.fn (.func cmp4_f) cmp4_a cmp4_c)), (18, (eI bZ)), (19, (eI n19)), (20, (eI s.2.1)), (21, (eI s.2.2)), (22, (eI p22))] ∧ aN ⟨H0, [lo0p], []⟩ H [(lo0p, 3, List.map aD s.1)] ∧ List.length s.1 = N0) hl0 ⟨.eq (by kernel_rfl), hO, hN⟩ ?_
        clear hO hN
        rintro k0 s out1 T H ⟨hT, hO, hN⟩ h1 ho0
        obtain ⟨aB, bB, r21⟩ := s
        replace h1 : lO cmp4 rec a1 m2 b3 bZ n19 p22 aB bB r21 = some out1 := h1
        try dsimp only at hT
        refine bA hT ?_
        clear hT
        unfold lO at h1
        refine aO ?_
        refine aY aF 3 [] [(151, (aK (decide (bB < r21))))] ?_
        refine bJ h1 (fun h1 => ?_) (fun h1 => ?_)
        · refine bL ?_
          refine bH [(0, (.msl 3 lo0p 0 (List.length aB))), (1, (eI a1)), (2, (eI m2)), (3, (eI b3)), (4, (.fn (.func cmp4_f) cmp4_a cmp4_c)), (18, (eI bZ)), (19, (eI n19)), (20, (eI bB)), (21, (eI r21)), (22, (eI p22))] ?_
          refine bO 9 ?_
          refine aO ?_
          refine aU aF 7 ?_
          obtain ⟨c15, h1⟩ := bE h1
          refine oN [0 ≤ (1 : Int)] ⟨c15, trivial⟩ ?_
          refine bT [] [(23, (eI (wR (Int.fdiv (IntKind.u64.wrap (wR (bB + r21))) (2 ^ (min (Int.toNat (1 : Int)) 64))))))] ?_
          refine aO ?_
          refine eS (eV [169]) aF 14 ?_
          obtain ⟨c16, h1⟩ := bE h1
          refine dA 6 [0 ≤ (wR (p22 - (wR (Int.fdiv (IntKind.u64.wrap (wR (bB + r21))) (2 ^ (min (Int.toNat (1 : Int)) 64)))))) ∧ (wR (p22 - (wR (Int.fdiv (IntKind.u64.wrap (wR (bB + r21))) (2 ^ (min (Int.toNat (1 : Int)) 64)))))) < (lN aB)] ⟨c16, trivial⟩ ?_
          refine lT 0 lo0p 3 (0 + Int.toNat (wR (p22 - (wR (Int.fdiv (IntKind.u64.wrap (wR (bB + r21))) (2 ^ (min (Int.toNat (1 : Int)) 64))))))) (aD (gD aB (wR (p22 - (wR (Int.fdiv (IntKind.u64.wrap (wR (bB + r21))) (2 ^ (min (Int.toNat (1 : Int)) 64)))))))) (aD (gD aB (wR (p22 - (wR (Int.fdiv (IntKind.u64.wrap (wR (bB + r21))) (2 ^ (min (Int.toNat (1 : Int)) 64)))))))) (List.map aD aB) hO (dB c16) ?_
          obtain ⟨c17, h1⟩ := bE h1
          refine dA 10 [0 ≤ (wR (Int.fdiv (IntKind.u64.wrap (wR (bB + r21))) (2 ^ (min (Int.toNat (1 : Int)) 64)))) ∧ (wR (Int.fdiv (IntKind.u64.wrap (wR (bB + r21))) (2 ^ (min (Int.toNat (1 : Int)) 64)))) < (lN aB)] ⟨c17, trivial⟩ ?_
          refine lT 0 lo0p 3 (0 + Int.toNat (wR (Int.fdiv (IntKind.u64.wrap (wR (bB + r21))) (2 ^ (min (Int.toNat (1 : Int)) 64))))) (aD (gD aB (wR (Int.fdiv (IntKind.u64.wrap (wR (bB + r21))) (2 ^ (min (Int.toNat (1 : Int)) 64)))))) (aD (gD aB (wR (Int.fdiv (IntKind.u64.wrap (wR (bB + r21))) (2 ^ (min (Int.toNat (1 : Int)) 64)))))) (List.map aD aB) hO (dB c17) ?_
          obtain ⟨x18, hx19, h1⟩ := aW h1
          refine yA (cmp4_h (gD aB (wR (p22 - (wR (Int.fdiv (IntKind.u64.wrap (wR (bB + r21))) (2 ^ (min (Int.toNat (1 : Int)) 64))))))) (gD aB (wR (Int.fdiv (IntKind.u64.wrap (wR (bB + r21))) (2 ^ (min (Int.toNat (1 : Int)) 64))))) _ hx19) hO ?_
          intro H hO
          refine iJ ?_
          refine bT [] [(171, (aK (!(decide (x18 < (0 : Int))))))] ?_
          refine bJ h1 (fun h1 => ?_) (fun h1 => ?_)
          · refine aU aF 3 ?_
            refine bC ?_
            exact aJ (aV (aH (⟨rfl, _, (oI h1).symm, .eq (by kernel_rfl), hO, hN⟩)))
          refine aU aF 2 ?_
          refine bC ?_
          exact aJ (aV (aH (⟨rfl, _, (oI h1).symm, .eq (by kernel_rfl), hO, hN⟩)))
        refine cV 8 ?_
        obtain rfl := oI h1
        obtain rfl : _ = rr0 := ho0
        replace h0 : gY cmp4 rec aB a1 m2 b3 bZ n19 bB = some r := h0
        exact aJ (aS (aS (bM (aH (⟨rfl, _, _, .eq (by kernel_rfl), hO, hN, h0⟩)))))
      refine aY aF 3 [] [(140, (aK (decide ((wR (Int.fdiv (IntKind.u64.wrap (wR (a1 + b3))) (2 ^ (min (Int.toNat (1 : Int)) 64)))) < m2))))] ?_
      refine bJ h0 (fun h0 => ?_) (fun h0 => ?_)
      · refine bV aF 4 [(0, (.msl 3 lo0p 0 (List.length aB))), (1, (eI a1)), (2, (eI m2)), (3, (eI b3)), (4, (.fn (.func cmp4_f) cmp4_a cmp4_c)), (18, (eI (wR (Int.fdiv (IntKind.u64.wrap (wR (a1 + b3))) (2 ^ (min (Int.toNat (1 : Int)) 64)))))), (19, (eI (wR ((wR (Int.fdiv (IntKind.u64.wrap (wR (a1 + b3))) (2 ^ (min (Int.toNat (1 : Int)) 64)))) + m2)))), (20, (eI (wR ((wR ((wR (Int.fdiv (IntKind.u64.wrap (wR (a1 + b3))) (2 ^ (min (Int.toNat (1 : Int)) 64)))) + m2)) - b3))))] ?_
        refine aU aF 2 ?_
        refine bC ?_
        exact aJ (aH (⟨rfl, _, _, _, _, _, .eq (by kernel_rfl), hO, hN, h0⟩))
      refine bV aF 2 [(0, (.msl 3 lo0p 0 (List.length aB))), (1, (eI a1)), (2, (eI m2)), (3, (eI b3)), (4, (.fn (.func cmp4_f) cmp4_a cmp4_c)), (18, (eI (wR (Int.fdiv (IntKind.u64.wrap (wR (a1 + b3))) (2 ^ (min (Int.toNat (1 : Int)) 64)))))), (19, (eI (wR ((wR (Int.fdiv (IntKind.u64.wrap (wR (a1 + b3))) (2 ^ (min (Int.toNat (1 : Int)) 64)))) + m2)))), (20, (eI a1))] ?_
      refine aU aF 2 ?_
      refine bC ?_
      exact aJ (aH (⟨rfl, _, _, _, _, _, .eq (by kernel_rfl), hO, hN, h0⟩))
    refine aY aF 4 [] [(80, (aK (decide ((wR (b3 - m2)) = (1 : Int)))))] ?_
    refine bJ h0 (fun h0 => ?_) (fun h0 => ?_)
    · refine aY aF 2 [1, 3, 80] [(14, (eI a1))] ?_
      refine aY aF 2 [] [(15, (eI m2))] ?_
      refine cH (fun T H => ∃ aB : List aC, ∃ i14 : Int, Has T [(0, (.msl 3 lo0p 0 (List.length aB))), (2, (eI m2)), (14, (eI i14))] ∧ aN ⟨H0, [lo0p], []⟩ H [(lo0p, 3, List.map aD aB)] ∧ List.length aB = N0 ∧ iD cmp4 rec aB m2 i14 = some r) ?_ ?_
      · clear hO hN h0
        rintro T H ⟨aB, i14, hT, hO, hN, h0⟩
        refine bA hT ?_
        clear hT
        unfold iD at h0
        refine cH (fun T H => ∃ aB : List aC, Has T [(0, (.msl 3 lo0p 0 (List.length aB)))] ∧ aN ⟨H0, [lo0p], []⟩ H [(lo0p, 3, List.map aD aB)] ∧ List.length aB = N0 ∧ gX cmp4 rec aB = some r) ?_ ?_
        · clear hO hN h0
          rintro T H ⟨aB, hT, hO, hN, h0⟩
          refine bA hT ?_
          clear hT
          unfold gX at h0
          refine bK ?_
          obtain rfl := oI h0
          exact aJ (aQ (rV (x := (.tup [])) (by kernel_rfl) (aZ.refl _) ⟨rfl, hO.ext, hO.at 0 (by kernel_rfl), by simp only [List.length_map]; exact hN.trans hN0⟩))
        refine aY aF 2 [2] [(17, (eI m2))] ?_
        refine bO 6 ?_
        refine cL [(0, (.msl 3 lo0p 0 (List.length aB))), (14, (eI i14)), (17, (eI m2))] ?_
        refine cC (fun T H => ∃ aB : List aC, ∃ k17 : Int, Has T [(0, (.msl 3 lo0p 0 (List.length aB))), (14, (eI i14)), (17, (eI k17))] ∧ aN ⟨H0, [lo0p], []⟩ H [(lo0p, 3, List.map aD aB)] ∧ List.length aB = N0 ∧ kR cmp4 rec aB i14 k17 = some r) ?_ ⟨aB, m2, .eq (by kernel_rfl), hO, hN, h0⟩
        clear hO hN h0
        rintro T H ⟨aB, k17, hT, hO, hN, h0⟩
        refine bA hT ?_
        clear hT
        unfold kR at h0
        obtain ⟨rr0, hl0, h0⟩ := aW h0
        refine bX (by kernel_rfl) (fun (s : List aC × Int) T H => Has T [(0, (.msl 3 lo0p 0 (List.length s.1))), (14, (eI i14)), (17, (eI s.2))] ∧ aN ⟨H0, [lo0p], []⟩ H [(lo0p, 3, List.map aD s.1)] ∧ List.length s.1 = N0) hl0 ⟨.eq (by kernel_rfl), hO, hN⟩ ?_
        clear hO hN
        rintro k0 s out1 T H ⟨hT, hO, hN⟩ h1 ho0
        obtain ⟨aB, k17⟩ := s
        replace h1 : kN cmp4 rec i14 aB k17 = some out1 := h1
        try dsimp only at hT
        refine bA hT ?_
        clear hT
        unfold kN at h1
        refine aO ?_
        refine aY aF 3 [] [(110, (aK (decide (i14 < k17))))] ?_
        refine bJ h1 (fun h1 => ?_) (fun h1 => ?_)
        · refine bL ?_
          refine bH [(0, (.msl 3 lo0p 0 (List.length aB))), (14, (eI i14)), (17, (eI k17))] ?_
          refine aO ?_
          refine bO 7 ?_
          refine eS (eV []) aF 18 ?_
          obtain ⟨c25, h1⟩ := bE h1
          refine dA 9 [0 ≤ (wR (k17 - (1 : Int))) ∧ (wR (k17 - (1 : Int))) < (lN aB)] ⟨c25, trivial⟩ ?_
          refine lT 0 lo0p 3 (0 + Int.toNat (wR (k17 - (1 : Int)))) (aD (gD aB (wR (k17 - (1 : Int))))) (aD (gD aB (wR (k17 - (1 : Int))))) (List.map aD aB) hO (dB c25) ?_
          obtain ⟨c26, h1⟩ := bE h1
          refine dA 13 [0 ≤ k17 ∧ k17 < (lN aB)] ⟨c26, trivial⟩ ?_
          refine lT 0 lo0p 3 (0 + Int.toNat k17) (aD (gD aB k17)) (aD (gD aB k17)) (List.map aD aB) hO (dB c26) ?_
          obtain ⟨c27, h1⟩ := bE h1
          refine dA 15 [0 ≤ k17 ∧ k17 < (lN aB)] ⟨c27, trivial⟩ ?_
          refine vH 0 lo0p 3 (0 + Int.toNat k17) (aD (gD aB k17)) (aD (gD aB (wR (k17 - (1 : Int))))) (List.map aD aB) [(lo0p, 3, List.map aD (List.set aB (Int.toNat k17) (gD aB (wR (k17 - (1 : Int))))))] hO (dB c27) (by simp only [List.set, pR]) ?_
          intro H hO
          replace hN : List.length (List.set aB (Int.toNat k17) (gD aB (wR (k17 - (1 : Int))))) = N0 := by simpa using hN
          obtain ⟨c28, h1⟩ := bE h1
          refine dA 17 [0 ≤ (wR (k17 - (1 : Int))) ∧ (wR (k17 - (1 : Int))) < (lN aB)] ⟨c28, trivial⟩ ?_
          refine vH 0 lo0p 3 (0 + Int.toNat (wR (k17 - (1 : Int)))) (aD (gD (List.set aB (Int.toNat k17) (gD aB (wR (k17 - (1 : Int))))) (wR (k17 - (1 : Int))))) (aD (gD aB k17)) (List.map aD (List.set aB (Int.toNat k17) (gD aB (wR (k17 - (1 : Int)))))) [(lo0p, 3, List.map aD (List.set (List.set aB (Int.toNat k17) (gD aB (wR (k17 - (1 : Int))))) (Int.toNat (wR (k17 - (1 : Int)))) (gD aB k17)))] hO (CO c28 (by simp [])) (by simp only [List.set, pR]) ?_
          intro H hO
          replace hN : List.length (List.set (List.set aB (Int.toNat k17) (gD aB (wR (k17 - (1 : Int))))) (Int.toNat (wR (k17 - (1 : Int)))) (gD aB k17)) = N0 := by simpa using hN
          refine DV (by kernel_rfl) ?_
          refine cJ (l := [(0, (.msl 3 lo0p 0 (List.length (List.set (List.set aB (Int.toNat k17) (gD aB (wR (k17 - (1 : Int))))) (Int.toNat (wR (k17 - (1 : Int)))) (gD aB k17))))), (14, (eI i14)), (17, (eI k17))]) ⟨[(0, (.msl 3 lo0p 0 (List.length aB))), (14, (eI i14)), (17, (eI k17))], by kernel_rfl, rfl, ⟨aZ.eq (by simp []), aZ.refl _, aZ.refl _, trivial⟩⟩ ?_
          refine aJ (aV (aH (?_)))
          refine aU aF 3 ?_
          refine bC ?_
          exact aJ (aH (⟨rfl, _, (oI h1).symm, .eq (by kernel_rfl), hO, hN⟩))
        refine cV 6 ?_
        obtain rfl := oI h1
        obtain rfl : _ = rr0 := ho0
        replace h0 : gX cmp4 rec aB = some r := h0
        exact aJ (aS (aS (bM (aH (⟨rfl, _, .eq (by kernel_rfl), hO, hN, h0⟩)))))
      refine bO 4 ?_
      refine cL [(0, (.msl 3 lo0p 0 (List.length aB))), (2, (eI m2)), (4, (.fn (.func cmp4_f) cmp4_a cmp4_c)), (14, (eI a1)), (15, (eI m2))] ?_
      refine cC (fun T H => ∃ aB : List aC, ∃ i14 : Int, ∃ j15 : Int, Has T [(0, (.msl 3 lo0p 0 (List.length aB))), (2, (eI m2)), (4, (.fn (.func cmp4_f) cmp4_a cmp4_c)), (14, (eI i14)), (15, (eI j15))] ∧ aN ⟨H0, [lo0p], []⟩ H [(lo0p, 3, List.map aD aB)] ∧ List.length aB = N0 ∧ lA cmp4 rec aB m2 i14 j15 = some r) ?_ ⟨aB, a1, m2, .eq (by kernel_rfl), hO, hN, h0⟩
      clear hO hN h0
      rintro T H ⟨aB, i14, j15, hT, hO, hN, h0⟩
      refine bA hT ?_
      clear hT
      unfold lA at h0
      obtain ⟨rr0, hl0, h0⟩ := aW h0
      refine bX (by kernel_rfl) (fun (s : List aC × Int × Int) T H => Has T [(0, (.msl 3 lo0p 0 (List.length s.1))), (2, (eI m2)), (4, (.fn (.func cmp4_f) cmp4_a cmp4_c)), (14, (eI s.2.1)), (15, (eI s.2.2))] ∧ aN ⟨H0, [lo0p], []⟩ H [(lo0p, 3, List.map aD s.1)] ∧ List.length s.1 = N0) hl0 ⟨.eq (by kernel_rfl), hO, hN⟩ ?_
      clear hO hN
      rintro k0 s out1 T H ⟨hT, hO, hN⟩ h1 ho0
      obtain ⟨aB, i14, j15⟩ := s
      replace h1 : lK cmp4 rec m2 aB i14 j15 = some out1 := h1
      try dsimp only at hT
      refine bA hT ?_
      clear hT
      unfold lK at h1
      refine aO ?_
      refine aY aF 3 [] [(85, (aK (decide (i14 < j15))))] ?_
      refine bJ h1 (fun h1 => ?_) (fun h1 => ?_)
      · refine bL ?_
        refine bH [(0, (.msl 3 lo0p 0 (List.length aB))), (2, (eI m2)), (4, (.fn (.func cmp4_f) cmp4_a cmp4_c)), (14, (eI i14)), (15, (eI j15))] ?_
        refine bO 5 ?_
        refine aO ?_
        refine aU aF 7 ?_
        obtain ⟨c30, h1⟩ := bE h1
        refine oN [0 ≤ (1 : Int)] ⟨c30, trivial⟩ ?_
        refine bT [] [(16, (eI (wR (Int.fdiv (IntKind.u64.wrap (wR (i14 + j15))) (2 ^ (min (Int.toNat (1 : Int)) 64))))))] ?_
        refine aO ?_
        refine eS (eV [101]) aF 12 ?_
        obtain ⟨c31, h1⟩ := bE h1
        refine dA 4 [0 ≤ m2 ∧ m2 < (lN aB)] ⟨c31, trivial⟩ ?_
        refine lT 0 lo0p 3 (0 + Int.toNat m2) (aD (gD aB m2)) (aD (gD aB m2)) (List.map aD aB) hO (dB c31) ?_
        obtain ⟨c32, h1⟩ := bE h1
        refine dA 8 [0 ≤ (wR (Int.fdiv (IntKind.u64.wrap (wR (i14 + j15))) (2 ^ (min (Int.toNat (1 : Int)) 64)))) ∧ (wR (Int.fdiv (IntKind.u64.wrap (wR (i14 + j15))) (2 ^ (min (Int.toNat (1 : Int)) 64)))) < (lN aB)] ⟨c32, trivial⟩ ?_
        refine lT 0 lo0p 3 (0 + Int.toNat (wR (Int.fdiv (IntKind.u64.wrap (wR (i14 + j15))) (2 ^ (min (Int.toNat (1 : Int)) 64))))) (aD (gD aB (wR (Int.fdiv (IntKind.u64.wrap (wR (i14 + j15))) (2 ^ (min (Int.toNat (1 : Int)) 64)))))) (aD (gD aB (wR (Int.fdiv (IntKind.u64.wrap (wR (i14 + j15))) (2 ^ (min (Int.toNat (1 : Int)) 64)))))) (List.map aD aB) hO (dB c32) ?_
        obtain ⟨x33, hx34, h1⟩ := aW h1
        refine yA (cmp4_h (gD aB m2) (gD aB (wR (Int.fdiv (IntKind.u64.wrap (wR (i14 + j15))) (2 ^ (min (Int.toNat (1 : Int)) 64))))) _ hx34) hO ?_
        intro H hO
        refine iJ ?_
        refine bT [] [(103, (aK (!(decide (x33 < (0 : Int))))))] ?_
        refine bJ h1 (fun h1 => ?_) (fun h1 => ?_)
        · refine aU aF 3 ?_
          refine bC ?_
          exact aJ (aV (aH (⟨rfl, _, (oI h1).symm, .eq (by kernel_rfl), hO, hN⟩)))
        refine aU aF 2 ?_
        refine bC ?_
        exact aJ (aV (aH (⟨rfl, _, (oI h1).symm, .eq (by kernel_rfl), hO, hN⟩)))
      refine cV 4 ?_
      obtain rfl := oI h1
      obtain rfl : _ = rr0 := ho0
      replace h0 : iD cmp4 rec aB m2 i14 = some r := h0
      exact aJ (aS (aS (bM (aH (⟨rfl, _, _, .eq (by kernel_rfl), hO, hN, h0⟩)))))
    refine bL ?_
    exact aJ (aH (⟨rfl, _, .eq (by kernel_rfl), hO, hN, h0⟩))
  refine aY aF 4 [] [(28, (aK (decide ((wR (m2 - a1)) = (1 : Int)))))] ?_
  refine bJ h0 (fun h0 => ?_) (fun h0 => ?_)
  · refine aY aF 2 [2, 28] [(10, (eI m2))] ?_
    refine aY aF 2 [3] [(11, (eI b3))] ?_
    refine cH (fun T H => ∃ aB : List aC, ∃ i10 : Int, Has T [(0, (.msl 3 lo0p 0 (List.length aB))), (1, (eI a1)), (10, (eI i10))] ∧ aN ⟨H0, [lo0p], []⟩ H [(lo0p, 3, List.map aD aB)] ∧ List.length aB = N0 ∧ gO cmp4 rec aB a1 i10 = some r) ?_ ?_
    · clear hO hN h0
      rintro T H ⟨aB, i10, hT, hO, hN, h0⟩
      refine bA hT ?_
      clear hT
      unfold gO at h0
      refine cH (fun T H => ∃ aB : List aC, Has T [(0, (.msl 3 lo0p 0 (List.length aB)))] ∧ aN ⟨H0, [lo0p], []⟩ H [(lo0p, 3, List.map aD aB)] ∧ List.length aB = N0 ∧ gR cmp4 rec aB = some r) ?_ ?_
      · clear hO hN h0
        rintro T H ⟨aB, hT, hO, hN, h0⟩
        refine bA hT ?_
        clear hT
        unfold gR at h0
        refine bK ?_
        obtain rfl := oI h0
        exact aJ (aQ (rV (x := (.tup [])) (by kernel_rfl) (aZ.refl _) ⟨rfl, hO.ext, hO.at 0 (by kernel_rfl), by simp only [List.length_map]; exact hN.trans hN0⟩))
      refine aY aF 2 [1] [(13, (eI a1))] ?_
      refine bO 2 ?_
      refine cL [(0, (.msl 3 lo0p 0 (List.length aB))), (10, (eI i10)), (13, (eI a1))] ?_
      refine cC (fun T H => ∃ aB : List aC, ∃ k13 : Int, Has T [(0, (.msl 3 lo0p 0 (List.length aB))), (10, (eI i10)), (13, (eI k13))] ∧ aN ⟨H0, [lo0p], []⟩ H [(lo0p, 3, List.map aD aB)] ∧ List.length aB = N0 ∧ kZ cmp4 rec aB i10 k13 = some r) ?_ ⟨aB, a1, .eq (by kernel_rfl), hO, hN, h0⟩
      clear hO hN h0
      rintro T H ⟨aB, k13, hT, hO, hN, h0⟩
      refine bA hT ?_
      clear hT
      unfold kZ at h0
      obtain ⟨rr0, hl0, h0⟩ := aW h0
      refine bX (by kernel_rfl) (fun (s : List aC × Int) T H => Has T [(0, (.msl 3 lo0p 0 (List.length s.1))), (10, (eI i10)), (13, (eI s.2))] ∧ aN ⟨H0, [lo0p], []⟩ H [(lo0p, 3, List.map aD s.1)] ∧ List.length s.1 = N0) hl0 ⟨.eq (by kernel_rfl), hO, hN⟩ ?_
      clear hO hN
      rintro k0 s out1 T H ⟨hT, hO, hN⟩ h1 ho0
      obtain ⟨aB, k13⟩ := s
      replace h1 : kY cmp4 rec i10 aB k13 = some out1 := h1
      try dsimp only at hT
      refine bA hT ?_
      clear hT
      unfold kY at h1
      refine aO ?_
      refine aY aF 4 [] [(58, (aK (decide (k13 < (wR (i10 - (1 : Int)))))))] ?_
      refine bJ h1 (fun h1 => ?_) (fun h1 => ?_)
      · refine bL ?_
        refine bH [(0, (.msl 3 lo0p 0 (List.length aB))), (10, (eI i10)), (13, (eI k13))] ?_
        refine aO ?_
        refine bO 3 ?_
        refine eS (eV []) aF 18 ?_
        obtain ⟨c39, h1⟩ := bE h1
        refine dA 9 [0 ≤ (wR (k13 + (1 : Int))) ∧ (wR (k13 + (1 : Int))) < (lN aB)] ⟨c39, trivial⟩ ?_
        refine lT 0 lo0p 3 (0 + Int.toNat (wR (k13 + (1 : Int)))) (aD (gD aB (wR (k13 + (1 : Int))))) (aD (gD aB (wR (k13 + (1 : Int))))) (List.map aD aB) hO (dB c39) ?_
        obtain ⟨c40, h1⟩ := bE h1
        refine dA 13 [0 ≤ k13 ∧ k13 < (lN aB)] ⟨c40, trivial⟩ ?_
        refine lT 0 lo0p 3 (0 + Int.toNat k13) (aD (gD aB k13)) (aD (gD aB k13)) (List.map aD aB) hO (dB c40) ?_
        obtain ⟨c41, h1⟩ := bE h1
        refine dA 15 [0 ≤ k13 ∧ k13 < (lN aB)] ⟨c41, trivial⟩ ?_
        refine vH 0 lo0p 3 (0 + Int.toNat k13) (aD (gD aB k13)) (aD (gD aB (wR (k13 + (1 : Int))))) (List.map aD aB) [(lo0p, 3, List.map aD (List.set aB (Int.toNat k13) (gD aB (wR (k13 + (1 : Int))))))] hO (dB c41) (by simp only [List.set, pR]) ?_
        intro H hO
        replace hN : List.length (List.set aB (Int.toNat k13) (gD aB (wR (k13 + (1 : Int))))) = N0 := by simpa using hN
        obtain ⟨c42, h1⟩ := bE h1
        refine dA 17 [0 ≤ (wR (k13 + (1 : Int))) ∧ (wR (k13 + (1 : Int))) < (lN aB)] ⟨c42, trivial⟩ ?_
        refine vH 0 lo0p 3 (0 + Int.toNat (wR (k13 + (1 : Int)))) (aD (gD (List.set aB (Int.toNat k13) (gD aB (wR (k13 + (1 : Int))))) (wR (k13 + (1 : Int))))) (aD (gD aB k13)) (List.map aD (List.set aB (Int.toNat k13) (gD aB (wR (k13 + (1 : Int)))))) [(lo0p, 3, List.map aD (List.set (List.set aB (Int.toNat k13) (gD aB (wR (k13 + (1 : Int))))) (Int.toNat (wR (k13 + (1 : Int)))) (gD aB k13)))] hO (CO c42 (by simp [])) (by simp only [List.set, pR]) ?_
        intro H hO
        replace hN : List.length (List.set (List.set aB (Int.toNat k13) (gD aB (wR (k13 + (1 : Int))))) (Int.toNat (wR (k13 + (1 : Int)))) (gD aB k13)) = N0 := by simpa using hN
        refine DV (by kernel_rfl) ?_
        refine cJ (l := [(0, (.msl 3 lo0p 0 (List.length (List.set (List.set aB (Int.toNat k13) (gD aB (wR (k13 + (1 : Int))))) (Int.toNat (wR (k13 + (1 : Int)))) (gD aB k13))))), (10, (eI i10)), (13, (eI k13))]) ⟨[(0, (.msl 3 lo0p 0 (List.length aB))), (10, (eI i10)), (13, (eI k13))], by kernel_rfl, rfl, ⟨aZ.eq (by simp []), aZ.refl _, aZ.refl _, trivial⟩⟩ ?_
        refine aJ (aV (aH (?_)))
        refine aU aF 3 ?_
        refine bC ?_
        exact aJ (aH (⟨rfl, _, (oI h1).symm, .eq (by kernel_rfl), hO, hN⟩))
      refine cV 2 ?_
      obtain rfl := oI h1
      obtain rfl : _ = rr0 := ho0
      replace h0 : gR cmp4 rec aB = some r := h0
      exact aJ (aS (aS (bM (aH (⟨rfl, _, .eq (by kernel_rfl), hO, hN, h0⟩)))))
    refine bO 0 ?_
    refine cL [(0, (.msl 3 lo0p 0 (List.length aB))), (1, (eI a1)), (4, (.fn (.func cmp4_f) cmp4_a cmp4_c)), (10, (eI m2)), (11, (eI b3))] ?_
    refine cC (fun T H => ∃ aB : List aC, ∃ i10 : Int, ∃ j11 : Int, Has T [(0, (.msl 3 lo0p 0 (List.length aB))), (1, (eI a1)), (4, (.fn (.func cmp4_f) cmp4_a cmp4_c)), (10, (eI i10)), (11, (eI j11))] ∧ aN ⟨H0, [lo0p], []⟩ H [(lo0p, 3, List.map aD aB)] ∧ List.length aB = N0 ∧ kT cmp4 rec aB a1 i10 j11 = some r) ?_ ⟨aB, m2, b3, .eq (by kernel_rfl), hO, hN, h0⟩
    clear hO hN h0
    rintro T H ⟨aB, i10, j11, hT, hO, hN, h0⟩
    refine bA hT ?_
    clear hT
    unfold kT at h0
    obtain ⟨rr0, hl0, h0⟩ := aW h0
    refine bX (by kernel_rfl) (fun (s : List aC × Int × Int) T H => Has T [(0, (.msl 3 lo0p 0 (List.length s.1))), (1, (eI a1)), (4, (.fn (.func cmp4_f) cmp4_a cmp4_c)), (10, (eI s.2.1)), (11, (eI s.2.2))] ∧ aN ⟨H0, [lo0p], []⟩ H [(lo0p, 3, List.map aD s.1)] ∧ List.length s.1 = N0) hl0 ⟨.eq (by kernel_rfl), hO, hN⟩ ?_
    clear hO hN
    rintro k0 s out1 T H ⟨hT, hO, hN⟩ h1 ho0
    obtain ⟨aB, i10, j11⟩ := s
    replace h1 : kO cmp4 rec a1 aB i10 j11 = some out1 := h1
    try dsimp only at hT
    refine bA hT ?_
    clear hT
    unfold kO at h1
    refine aO ?_
    refine aY aF 3 [] [(33, (aK (decide (i10 < j11))))] ?_
    refine bJ h1 (fun h1 => ?_) (fun h1 => ?_)
    · refine bL ?_
      refine bH [(0, (.msl 3 lo0p 0 (List.length aB))), (1, (eI a1)), (4, (.fn (.func cmp4_f) cmp4_a cmp4_c)), (10, (eI i10)), (11, (eI j11))] ?_
      refine bO 1 ?_
      refine aO ?_
      refine aU aF 7 ?_
      obtain ⟨c44, h1⟩ := bE h1
      refine oN [0 ≤ (1 : Int)] ⟨c44, trivial⟩ ?_
      refine bT [] [(12, (eI (wR (Int.fdiv (IntKind.u64.wrap (wR (i10 + j11))) (2 ^ (min (Int.toNat (1 : Int)) 64))))))] ?_
      refine aO ?_
      refine eS (eV [49]) aF 11 ?_
      obtain ⟨c45, h1⟩ := bE h1
      refine dA 4 [0 ≤ (wR (Int.fdiv (IntKind.u64.wrap (wR (i10 + j11))) (2 ^ (min (Int.toNat (1 : Int)) 64)))) ∧ (wR (Int.fdiv (IntKind.u64.wrap (wR (i10 + j11))) (2 ^ (min (Int.toNat (1 : Int)) 64)))) < (lN aB)] ⟨c45, trivial⟩ ?_
      refine lT 0 lo0p 3 (0 + Int.toNat (wR (Int.fdiv (IntKind.u64.wrap (wR (i10 + j11))) (2 ^ (min (Int.toNat (1 : Int)) 64))))) (aD (gD aB (wR (Int.fdiv (IntKind.u64.wrap (wR (i10 + j11))) (2 ^ (min (Int.toNat (1 : Int)) 64)))))) (aD (gD aB (wR (Int.fdiv (IntKind.u64.wrap (wR (i10 + j11))) (2 ^ (min (Int.toNat (1 : Int)) 64)))))) (List.map aD aB) hO (dB c45) ?_
      obtain ⟨c46, h1⟩ := bE h1
      refine dA 8 [0 ≤ a1 ∧ a1 < (lN aB)] ⟨c46, trivial⟩ ?_
      refine lT 0 lo0p 3 (0 + Int.toNat a1) (aD (gD aB a1)) (aD (gD aB a1)) (List.map aD aB) hO (dB c46) ?_
      obtain ⟨x47, hx48, h1⟩ := aW h1
      refine yA (cmp4_h (gD aB (wR (Int.fdiv (IntKind.u64.wrap (wR (i10 + j11))) (2 ^ (min (Int.toNat (1 : Int)) 64))))) (gD aB a1) _ hx48) hO ?_
      intro H hO
      refine iJ ?_
      refine bT [] [(50, (aK (decide (x47 < (0 : Int)))))] ?_
      refine bJ h1 (fun h1 => ?_) (fun h1 => ?_)
      · refine aU aF 3 ?_
        refine bC ?_
        exact aJ (aV (aH (⟨rfl, _, (oI h1).symm, .eq (by kernel_rfl), hO, hN⟩)))
      refine aU aF 2 ?_
      refine bC ?_
      exact aJ (aV (aH (⟨rfl, _, (oI h1).symm, .eq (by kernel_rfl), hO, hN⟩)))
    refine cV 0 ?_
    obtain rfl := oI h1
    obtain rfl : _ = rr0 := ho0
    replace h0 : gO cmp4 rec aB a1 i10 = some r := h0
    exact aJ (aS (aS (bM (aH (⟨rfl, _, _, .eq (by kernel_rfl), hO, hN, h0⟩)))))
  refine bL ?_
  exact aJ (aH (⟨rfl, _, .eq (by kernel_rfl), hO, hN, h0⟩))

theorem pU (cmp4_f : Nat) (cmp4_a cmp4_c : List V) (cmp4 : aC → aC → Option Int) (cmp4_h : ∀ a0 a1 r, cmp4 a0 a1 = some r → bY Tryz.prog cmp4_f (cmp4_a ++ [(aD a0), (aD a1)] ++ cmp4_c) (eI r)) : ∀ (k : Nat) (lo0p : Nat) (aB : (List aC)) (a1 : Int) (m2 : Int) (b3 : Int) (r : List aC), iE cmp4 k aB a1 m2 b3 = some r → mB Tryz.prog 98 lo0p 3 (List.map aD aB) (List.map aD r) [(.msl 3 lo0p 0 (List.length aB)), (eI a1), (eI m2), (eI b3), (.fn (.func cmp4_f) cmp4_a cmp4_c)] (.tup [])
  | 0, _, _, _, _, _, _, h => by cases h
  | k + 1, lo0p, aB, a1, m2, b3, r, h => xD cmp4_f cmp4_a cmp4_c cmp4 cmp4_h _ (pU cmp4_f cmp4_a cmp4_c cmp4 cmp4_h k) lo0p aB a1 m2 b3 r h

theorem qR (lo0p : Nat) (aB : (List aC)) (a1 : Int) (m2 : Int) (b3 : Int) (cmp4_f : Nat) (cmp4_a cmp4_c : List V) (cmp4 : aC → aC → Option Int) (cmp4_h : ∀ a0 a1 r, cmp4 a0 a1 = some r → bY Tryz.prog cmp4_f (cmp4_a ++ [(aD a0), (aD a1)] ++ cmp4_c) (eI r)) (r : List aC) (h0 : fA aB a1 m2 b3 cmp4 = some r) : mB Tryz.prog 98 lo0p 3 (List.map aD aB) (List.map aD r) [(.msl 3 lo0p 0 (List.length aB)), (eI a1), (eI m2), (eI b3), (.fn (.func cmp4_f) cmp4_a cmp4_c)] (.tup []) := by
  obtain ⟨k, hk⟩ := ND h0
  exact pU cmp4_f cmp4_a cmp4_c cmp4 cmp4_h k lo0p aB a1 m2 b3 r hk

theorem CW (lo0p : Nat) (aB : (List aC)) (n1 : Int) (cmp2_f : Nat) (cmp2_a cmp2_c : List V) (cmp2 : aC → aC → Option Int) (cmp2_h : ∀ a0 a1 r, cmp2 a0 a1 = some r → bY Tryz.prog cmp2_f (cmp2_a ++ [(aD a0), (aD a1)] ++ cmp2_c) (eI r)) (r : List aC) (h0 : fV aB n1 cmp2 = some r) : mB Tryz.prog 79 lo0p 3 (List.map aD aB) (List.map aD r) [(.msl 3 lo0p 0 (List.length aB)), (eI n1), (.fn (.func cmp2_f) cmp2_a cmp2_c)] (.tup []) := by
  intro H0 hl0
  refine cF Tryz.func79 ?_
  have hO := aN.rO hl0
  clear hl0
  obtain ⟨N0, hN0⟩ : ∃ n, n = List.length aB := ⟨_, rfl⟩
  have hN : List.length aB = N0 := hN0.symm
  unfold fV at h0
  refine aY aF 1 [] [(6, (eI (20 : Int)))] ?_
  refine aY aF 3 [] [(7, (eI (0 : Int))), (8, (eI (20 : Int)))] ?_
  refine cH (fun T H => ∃ aB : List aC, ∃ aR : Int, ∃ a7 : Int, Has T [(0, (.msl 3 lo0p 0 (List.length aB))), (1, (eI n1)), (2, (.fn (.func cmp2_f) cmp2_a cmp2_c)), (6, (eI aR)), (7, (eI a7))] ∧ aN ⟨H0, [lo0p], []⟩ H [(lo0p, 3, List.map aD aB)] ∧ List.length aB = N0 ∧ fN cmp2 aB n1 aR a7 = some r) ?_ ?_
  · clear hO hN h0
    rintro T H ⟨aB, aR, a7, hT, hO, hN, h0⟩
    refine bA hT ?_
    clear hT
    unfold fN at h0
    refine aO ?_
    refine aU aF 5 ?_
    refine bR 4 ?_
    obtain ⟨x1, hx2, h0⟩ := aW h0
    refine qL [(lo0p, 3, List.map aD x1)] 0 (oR lo0p aB a7 n1 cmp2_f cmp2_a cmp2_c cmp2 cmp2_h _ hx2) hO ?_
    intro H hO hl3
    simp only [List.length_map] at hl3
    replace hN := hl3.trans hN
    refine cW ?_
    refine cJ (l := [(0, (.msl 3 lo0p 0 (List.length x1))), (1, (eI n1)), (2, (.fn (.func cmp2_f) cmp2_a cmp2_c)), (6, (eI aR))]) ⟨[(0, (.msl 3 lo0p 0 (List.length aB))), (1, (eI n1)), (2, (.fn (.func cmp2_f) cmp2_a cmp2_c)), (6, (eI aR))], by kernel_rfl, rfl, ⟨aZ.eq (by simp [hl3]), aZ.refl _, aZ.refl _, aZ.refl _, trivial⟩⟩ ?_
    refine aJ (aH (?_))
    refine bO 2 ?_
    refine cL [(0, (.msl 3 lo0p 0 (List.length x1))), (1, (eI n1)), (2, (.fn (.func cmp2_f) cmp2_a cmp2_c)), (6, (eI aR))] ?_
    refine cC (fun T H => ∃ aB : List aC, ∃ aR : Int, Has T [(0, (.msl 3 lo0p 0 (List.length aB))), (1, (eI n1)), (2, (.fn (.func cmp2_f) cmp2_a cmp2_c)), (6, (eI aR))] ∧ aN ⟨H0, [lo0p], []⟩ H [(lo0p, 3, List.map aD aB)] ∧ List.length aB = N0 ∧ iT cmp2 aB n1 aR = some r) ?_ ⟨x1, aR, .eq (by kernel_rfl), hO, hN, h0⟩
    clear hO hN h0
    rintro T H ⟨aB, aR, hT, hO, hN, h0⟩
    refine bA hT ?_
    clear hT
    unfold iT at h0
    obtain ⟨rr0, hl0, h0⟩ := aW h0
    refine bX (by kernel_rfl) (fun (s : List aC × Int) T H => Has T [(0, (.msl 3 lo0p 0 (List.length s.1))), (1, (eI n1)), (2, (.fn (.func cmp2_f) cmp2_a cmp2_c)), (6, (eI s.2))] ∧ aN ⟨H0, [lo0p], []⟩ H [(lo0p, 3, List.map aD s.1)] ∧ List.length s.1 = N0) hl0 ⟨.eq (by kernel_rfl), hO, hN⟩ ?_
    clear hO hN
    rintro k0 s out1 T H ⟨hT, hO, hN⟩ h1 ho0
    obtain ⟨aB, aR⟩ := s
    replace h1 : jH cmp2 n1 aB aR = some out1 := h1
    try dsimp only at hT
    refine bA hT ?_
    clear hT
    unfold jH at h1
    refine aO ?_
    refine aY aF 3 [] [(30, (aK (decide (aR < n1))))] ?_
    refine bJ h1 (fun h1 => ?_) (fun h1 => ?_)
    · refine bL ?_
      refine bH [(0, (.msl 3 lo0p 0 (List.length aB))), (1, (eI n1)), (2, (.fn (.func cmp2_f) cmp2_a cmp2_c)), (6, (eI aR))] ?_
      refine bO 3 ?_
      refine aY aF 4 [] [(7, (eI (0 : Int))), (8, (eI (wR ((2 : Int) * aR))))] ?_
      refine cH (fun T H => ∃ aB : List aC, ∃ a7 : Int, Has T [(0, (.msl 3 lo0p 0 (List.length aB))), (1, (eI n1)), (2, (.fn (.func cmp2_f) cmp2_a cmp2_c)), (6, (eI aR)), (7, (eI a7))] ∧ aN ⟨H0, [lo0p], []⟩ H [(lo0p, 3, List.map aD aB)] ∧ List.length aB = N0 ∧ fI cmp2 aB n1 aR a7 = some out1) ?_ ?_
      · clear hO hN h1
        rintro T H ⟨aB, a7, hT, hO, hN, h1⟩
        refine bA hT ?_
        clear hT
        unfold fI at h1
        refine cH (fun T H => ∃ aB : List aC, Has T [(0, (.msl 3 lo0p 0 (List.length aB))), (1, (eI n1)), (2, (.fn (.func cmp2_f) cmp2_a cmp2_c)), (6, (eI aR))] ∧ aN ⟨H0, [lo0p], []⟩ H [(lo0p, 3, List.map aD aB)] ∧ List.length aB = N0 ∧ jI cmp2 aB n1 aR = some out1) ?_ ?_
        · clear hO hN h1
          rintro T H ⟨aB, hT, hO, hN, h1⟩
          refine bA hT ?_
          clear hT
          unfold jI at h1
          refine aU aF 3 ?_
          refine bC ?_
          exact aJ (aV (aH (⟨rfl, _, (oI h1).symm, .eq (by kernel_rfl), hO, hN⟩)))
        refine aY aF 4 [] [(9, (eI (wR (a7 + aR))))] ?_
        refine aY aF 3 [] [(54, (aK (decide ((wR (a7 + aR)) < n1))))] ?_
        refine bJ h1 (fun h1 => ?_) (fun h1 => ?_)
        · refine aU aF 6 ?_
          refine bR 5 ?_
          obtain ⟨x6, hx7, h1⟩ := aW h1
          refine qL [(lo0p, 3, List.map aD x6)] 0 (qR lo0p aB a7 (wR (a7 + aR)) n1 cmp2_f cmp2_a cmp2_c cmp2 cmp2_h _ hx7) hO ?_
          intro H hO hl8
          simp only [List.length_map] at hl8
          replace hN := hl8.trans hN
          refine cW ?_
          refine cJ (l := [(0, (.msl 3 lo0p 0 (List.length x6))), (1, (eI n1)), (2, (.fn (.func cmp2_f) cmp2_a cmp2_c)), (6, (eI aR))]) ⟨[(0, (.msl 3 lo0p 0 (List.length aB))), (1, (eI n1)), (2, (.fn (.func cmp2_f) cmp2_a cmp2_c)), (6, (eI aR))], by kernel_rfl, rfl, ⟨aZ.eq (by simp [hl8]), aZ.refl _, aZ.refl _, aZ.refl _, trivial⟩⟩ ?_
          exact aJ (aH (⟨rfl, _, .eq (by kernel_rfl), hO, hN, h1⟩))
        refine bL ?_
        exact aJ (aH (⟨rfl, _, .eq (by kernel_rfl), hO, hN, h1⟩))
      refine bO 4 ?_
      refine cL [(0, (.msl 3 lo0p 0 (List.length aB))), (1, (eI n1)), (2, (.fn (.func cmp2_f) cmp2_a cmp2_c)), (6, (eI aR)), (7, (eI (0 : Int))), (8, (eI (wR ((2 : Int) * aR))))] ?_
      refine cC (fun T H => ∃ aB : List aC, ∃ a7 : Int, ∃ b8 : Int, Has T [(0, (.msl 3 lo0p 0 (List.length aB))), (1, (eI n1)), (2, (.fn (.func cmp2_f) cmp2_a cmp2_c)), (6, (eI aR)), (7, (eI a7)), (8, (eI b8))] ∧ aN ⟨H0, [lo0p], []⟩ H [(lo0p, 3, List.map aD aB)] ∧ List.length aB = N0 ∧ iY cmp2 aB n1 aR a7 b8 = some out1) ?_ ⟨aB, (0 : Int), wR ((2 : Int) * aR), .eq (by kernel_rfl), hO, hN, h1⟩
      clear hO hN h1
      rintro T H ⟨aB, a7, b8, hT, hO, hN, h1⟩
      refine bA hT ?_
      clear hT
      unfold iY at h1
      obtain ⟨rr1, hl1, h1⟩ := aW h1
      refine bX (by kernel_rfl) (fun (s : List aC × Int × Int) T H => Has T [(0, (.msl 3 lo0p 0 (List.length s.1))), (1, (eI n1)), (2, (.fn (.func cmp2_f) cmp2_a cmp2_c)), (6, (eI aR)), (7, (eI s.2.1)), (8, (eI s.2.2))] ∧ aN ⟨H0, [lo0p], []⟩ H [(lo0p, 3, List.map aD s.1)] ∧ List.length s.1 = N0) hl1 ⟨.eq (by kernel_rfl), hO, hN⟩ ?_
      clear hO hN
      rintro k1 s out2 T H ⟨hT, hO, hN⟩ h2 ho1
      obtain ⟨aB, a7, b8⟩ := s
      replace h2 : iO cmp2 n1 aR aB a7 b8 = some out2 := h2
      try dsimp only at hT
      refine bA hT ?_
      clear hT
      unfold iO at h2
      refine aO ?_
      refine aY aF 3 [] [(35, (aK (decide (b8 ≤ n1))))] ?_
      refine bJ h2 (fun h2 => ?_) (fun h2 => ?_)
      · refine bL ?_
        refine bH [(0, (.msl 3 lo0p 0 (List.length aB))), (1, (eI n1)), (2, (.fn (.func cmp2_f) cmp2_a cmp2_c)), (6, (eI aR)), (7, (eI a7)), (8, (eI b8))] ?_
        refine bO 5 ?_
        refine aO ?_
        refine aU aF 8 ?_
        refine bR 7 ?_
        obtain ⟨x10, hx11, h2⟩ := aW h2
        refine qL [(lo0p, 3, List.map aD x10)] 0 (qR lo0p aB a7 (wR (a7 + aR)) b8 cmp2_f cmp2_a cmp2_c cmp2 cmp2_h _ hx11) hO ?_
        intro H hO hl12
        simp only [List.length_map] at hl12
        replace hN := hl12.trans hN
        refine cW ?_
        refine cJ (l := [(0, (.msl 3 lo0p 0 (List.length x10))), (1, (eI n1)), (2, (.fn (.func cmp2_f) cmp2_a cmp2_c)), (6, (eI aR)), (8, (eI b8))]) ⟨[(0, (.msl 3 lo0p 0 (List.length aB))), (1, (eI n1)), (2, (.fn (.func cmp2_f) cmp2_a cmp2_c)), (6, (eI aR)), (8, (eI b8))], by kernel_rfl, rfl, ⟨aZ.eq (by simp [hl12]), aZ.refl _, aZ.refl _, aZ.refl _, aZ.refl _, trivial⟩⟩ ?_
        refine aJ (aH (?_))
        refine aY aF 2 [] [(7, (eI b8))] ?_
        refine aU aF 5 ?_
        refine bC ?_
        exact aJ (aV (aH (⟨rfl, _, (oI h2).symm, .eq (by kernel_rfl), hO, hN⟩)))
      refine cV 4 ?_
      obtain rfl := oI h2
      obtain rfl : _ = rr1 := ho1
      replace h1 : fI cmp2 aB n1 aR a7 = some out1 := h1
      exact aJ (aS (aS (bM (aH (⟨rfl, _, _, .eq (by kernel_rfl), hO, hN, h1⟩)))))
    refine cV 2 ?_
    obtain rfl := oI h1
    obtain rfl : _ = rr0 := ho0
    replace h0 : some aB = some r := h0
    obtain rfl := oI h0
    exact aJ (aS (aS (bM (tQ (x := (.tup [])) (by kernel_rfl) (aZ.refl _) ⟨rfl, hO.ext, hO.at 0 (by kernel_rfl), by simp only [List.length_map]; exact hN.trans hN0⟩))))
  refine bO 0 ?_
  refine cL [(0, (.msl 3 lo0p 0 (List.length aB))), (1, (eI n1)), (2, (.fn (.func cmp2_f) cmp2_a cmp2_c)), (6, (eI (20 : Int))), (7, (eI (0 : Int))), (8, (eI (20 : Int)))] ?_
  refine cC (fun T H => ∃ aB : List aC, ∃ aR : Int, ∃ a7 : Int, ∃ b8 : Int, Has T [(0, (.msl 3 lo0p 0 (List.length aB))), (1, (eI n1)), (2, (.fn (.func cmp2_f) cmp2_a cmp2_c)), (6, (eI aR)), (7, (eI a7)), (8, (eI b8))] ∧ aN ⟨H0, [lo0p], []⟩ H [(lo0p, 3, List.map aD aB)] ∧ List.length aB = N0 ∧ jD cmp2 aB n1 aR a7 b8 = some r) ?_ ⟨aB, (20 : Int), (0 : Int), (20 : Int), .eq (by kernel_rfl), hO, hN, h0⟩
  clear hO hN h0
  rintro T H ⟨aB, aR, a7, b8, hT, hO, hN, h0⟩
  refine bA hT ?_
  clear hT
  unfold jD at h0
  obtain ⟨rr0, hl0, h0⟩ := aW h0
  refine bX (by kernel_rfl) (fun (s : List aC × Int × Int) T H => Has T [(0, (.msl 3 lo0p 0 (List.length s.1))), (1, (eI n1)), (2, (.fn (.func cmp2_f) cmp2_a cmp2_c)), (6, (eI aR)), (7, (eI s.2.1)), (8, (eI s.2.2))] ∧ aN ⟨H0, [lo0p], []⟩ H [(lo0p, 3, List.map aD s.1)] ∧ List.length s.1 = N0) hl0 ⟨.eq (by kernel_rfl), hO, hN⟩ ?_
  clear hO hN
  rintro k0 s out1 T H ⟨hT, hO, hN⟩ h1 ho0
  obtain ⟨aB, a7, b8⟩ := s
  replace h1 : jF cmp2 n1 aR aB a7 b8 = some out1 := h1
  try dsimp only at hT
  refine bA hT ?_
  clear hT
  unfold jF at h1
  refine aO ?_
  refine aY aF 3 [] [(13, (aK (decide (b8 ≤ n1))))] ?_
  refine bJ h1 (fun h1 => ?_) (fun h1 => ?_)
  · refine bL ?_
    refine bH [(0, (.msl 3 lo0p 0 (List.length aB))), (1, (eI n1)), (2, (.fn (.func cmp2_f) cmp2_a cmp2_c)), (6, (eI aR)), (7, (eI a7)), (8, (eI b8))] ?_
    refine bO 1 ?_
    refine aO ?_
    refine aU aF 5 ?_
    refine bR 4 ?_
    obtain ⟨x14, hx15, h1⟩ := aW h1
    refine qL [(lo0p, 3, List.map aD x14)] 0 (oR lo0p aB a7 b8 cmp2_f cmp2_a cmp2_c cmp2 cmp2_h _ hx15) hO ?_
    intro H hO hl16
    simp only [List.length_map] at hl16
    replace hN := hl16.trans hN
    refine cW ?_
    refine cJ (l := [(0, (.msl 3 lo0p 0 (List.length x14))), (1, (eI n1)), (2, (.fn (.func cmp2_f) cmp2_a cmp2_c)), (6, (eI aR)), (8, (eI b8))]) ⟨[(0, (.msl 3 lo0p 0 (List.length aB))), (1, (eI n1)), (2, (.fn (.func cmp2_f) cmp2_a cmp2_c)), (6, (eI aR)), (8, (eI b8))], by kernel_rfl, rfl, ⟨aZ.eq (by simp [hl16]), aZ.refl _, aZ.refl _, aZ.refl _, aZ.refl _, trivial⟩⟩ ?_
    refine aJ (aH (?_))
    refine aY aF 2 [] [(7, (eI b8))] ?_
    refine aU aF 4 ?_
    refine bC ?_
    exact aJ (aV (aH (⟨rfl, _, (oI h1).symm, .eq (by kernel_rfl), hO, hN⟩)))
  refine cV 0 ?_
  obtain rfl := oI h1
  obtain rfl : _ = rr0 := ho0
  replace h0 : fN cmp2 aB n1 aR a7 = some r := h0
  exact aJ (aS (aS (bM (aH (⟨rfl, _, _, _, .eq (by kernel_rfl), hO, hN, h0⟩)))))

theorem uW (lo0p : Nat) (x0 : (List aC)) (cmp1_f : Nat) (cmp1_a cmp1_c : List V) (cmp1 : aC → aC → Option Int) (cmp1_h : ∀ a0 a1 r, cmp1 a0 a1 = some r → bY Tryz.prog cmp1_f (cmp1_a ++ [(aD a0), (aD a1)] ++ cmp1_c) (eI r)) (r : List aC) (h0 : dO x0 cmp1 = some r) : mB Tryz.prog 58 lo0p 3 (List.map aD x0) (List.map aD r) [(.msl 3 lo0p 0 (List.length x0)), (.fn (.func cmp1_f) cmp1_a cmp1_c)] (.tup []) := by
  intro H0 hl0
  refine cF Tryz.func58 ?_
  have hO := aN.rO hl0
  clear hl0
  obtain ⟨N0, hN0⟩ : ∃ n, n = List.length x0 := ⟨_, rfl⟩
  have hN : List.length x0 = N0 := hN0.symm
  unfold dO at h0
  refine aU aF 5 ?_
  refine bR 4 ?_
  obtain ⟨x1, hx2, h0⟩ := aW h0
  refine qL [(lo0p, 3, List.map aD x1)] 0 (CW lo0p x0 (lN x0) cmp1_f cmp1_a cmp1_c cmp1 cmp1_h _ hx2) hO ?_
  intro H hO hl3
  simp only [List.length_map] at hl3
  replace hN := hl3.trans hN
  refine cW ?_
  refine cJ (l := [(0, (.msl 3 lo0p 0 (List.length x1)))]) ⟨[(0, (.msl 3 lo0p 0 (List.length x0)))], by kernel_rfl, rfl, ⟨aZ.eq (by simp [hl3]), trivial⟩⟩ ?_
  obtain rfl := oI h0
  exact aJ (tQ (x := (.tup [])) (by kernel_rfl) (aZ.refl _) ⟨rfl, hO.ext, hO.at 0 (by kernel_rfl), by simp only [List.length_map]; exact hN.trans hN0⟩)

theorem SS (t0 : (List aG)) (r : (Int × (List aG))) (h0 : xM t0 = some r) : GK Tryz.prog 81 [(.rp (eL aI t0))] (fun lo => (.fn (.func 82) [] [(.lp lo 0 0), (.rp (eL aI r.2))])) 1 [(eI r.1)] := by
  intro H0
  refine cF Tryz.func81 ?_
  have hO := aN.start H0
  unfold xM at h0
  refine aY aF 1 [] [] ?_
  refine aO ?_
  refine aU aF 2 ?_
  refine nL 1 (eI 0) (by kernel_rfl) (by kernel_rfl) hO ?_
  intro lo1 H hO
  refine kB 0 lo1 1 0 (eI 0) (eI (-1 : Int)) [(eI 0)] [(lo1, 1, [(eI (-1 : Int))])] hO rfl (by kernel_rfl) ?_
  intro H hO
  refine cW ?_
  refine bT [] [(2, (.lp lo1 0 0))] ?_
  refine aY aF 2 [0] [(1, (.fn (.func 82) [] [(.lp lo1 0 0), (.rp (eL aI t0))]))] ?_
  refine bK ?_
  obtain rfl := oI h0
  exact aJ (rV (x := (.fn (.func 82) [] [(.lp lo1 0 0), (.rp (eL aI t0))])) (by kernel_rfl) (aZ.refl _) ⟨lo1, rfl, hO⟩)

theorem xC {σ : Type} (I : σ → Gs → Prop) (s0 : (List aG)) (f1_v : V) (f1 : σ → aG → Option (σ × Bool)) (f1_h : ∀ st a0 st2 r, f1 st a0 = some (st2, r) → OB Tryz.prog f1_v I st [(aI a0)] st2 (aK r)) (sg0 : σ) (r : (σ × Int)) (h0 : fS s0 f1 sg0 = some r) : GI Tryz.prog 80 I sg0 [(eL aI s0), f1_v] r.1 (eI r.2) := by
  intro H0 G0 hI hg
  refine cF Tryz.func80 ?_
  obtain ⟨G, hO, hI⟩ : ∃ G, aN ⟨H0, List.map (fun p : Nat × dK => p.1) G0, G⟩ H0 [] ∧ I sg0 G := ⟨G0, aN.SV hg, hI⟩
  clear hg
  unfold fS at h0
  refine aY aF 1 [] [] ?_
  refine cH (fun T H => ∃ sg : σ, ∃ G : Gs, Has T [] ∧ aN ⟨H0, List.map (fun p : Nat × dK => p.1) G0, G⟩ H [] ∧ I sg G ∧ dV f1 sg = some r) ?_ ?_
  · clear hO hI h0
    rintro T H ⟨sg, G, hT, hO, hI, h0⟩
    refine bA hT ?_
    clear hT
    unfold dV at h0
    refine bV aF 1 [(4, (eI (-1 : Int)))] ?_
    refine bK ?_
    obtain rfl := oI h0
    exact aJ (rV (x := (eI (-1 : Int))) (by kernel_rfl) (aZ.refl _) ⟨rfl, G, hI, hO.NP⟩)
  refine aY aF 3 [] [(7, (eI (lN s0))), (8, (eI (0 : Int)))] ?_
  refine bO 0 ?_
  refine cL [(0, (eL aI s0)), (1, f1_v), (7, (eI (lN s0))), (8, (eI (0 : Int)))] ?_
  refine cC (fun T H => ∃ sg : σ, ∃ t7 : Int, ∃ t8 : Int, ∃ G : Gs, Has T [(0, (eL aI s0)), (1, f1_v), (7, (eI t7)), (8, (eI t8))] ∧ aN ⟨H0, List.map (fun p : Nat × dK => p.1) G0, G⟩ H [] ∧ I sg G ∧ fG f1 sg s0 t7 t8 = some r) ?_ ⟨sg0, (lN s0), (0 : Int), G, .eq (by kernel_rfl), hO, hI, h0⟩
  clear hO hI h0
  rintro T H ⟨sg, t7, t8, G, hT, hO, hI, h0⟩
  refine bA hT ?_
  clear hT
  unfold fG at h0
  obtain ⟨rr0, hl0, h0⟩ := aW h0
  refine bX (by kernel_rfl) (fun (s : σ × Int) T H => ∃ G : Gs, Has T [(0, (eL aI s0)), (1, f1_v), (7, (eI t7)), (8, (eI s.2))] ∧ aN ⟨H0, List.map (fun p : Nat × dK => p.1) G0, G⟩ H [] ∧ I s.1 G) hl0 ⟨G, .eq (by kernel_rfl), hO, hI⟩ ?_
  clear hO hI
  rintro k0 s out1 T H ⟨G, hT, hO, hI⟩ h1 ho0
  obtain ⟨sg, t8⟩ := s
  replace h1 : cD f1 s0 t7 sg t8 = some out1 := h1
  try dsimp only at hT
  refine bA hT ?_
  clear hT
  unfold cD at h1
  refine aY aF 1 [] [(9, (aK (decide (t8 < t7))))] ?_
  refine aO ?_
  refine bJ h1 (fun h1 => ?_) (fun h1 => ?_)
  · refine bL ?_
    refine bH [(0, (eL aI s0)), (1, f1_v), (7, (eI t7)), (8, (eI t8))] ?_
    refine aO ?_
    refine bO 1 ?_
    refine aY aF 2 [] [(5, (eI t8))] ?_
    refine aO ?_
    refine aU aF 6 ?_
    obtain ⟨c2, h1⟩ := bE h1
    refine jT 5 [0 ≤ t8 ∧ t8 < (lN s0)] ⟨c2, trivial⟩ ?_
    obtain ⟨x3, hx4, h1⟩ := aW h1
    refine aA1 (I := I) f1_v [(aI (gD s0 t8))] (aK x3.2) (by kernel_rfl) (by kernel_rfl) (f1_h _ (gD s0 t8) x3.1 x3.2 hx4) hO hI ?_
    intro G H hO hI
    refine cW ?_
    refine bT [] [(16, (aK x3.2))] ?_
    refine bJ h1 (fun h1 => ?_) (fun h1 => ?_)
    · refine bV aF 2 [(4, (eI t8))] ?_
      refine bK ?_
      obtain rfl := oI h1
      obtain rfl : _ = rr0 := ho0
      replace h0 : some (x3.1, t8) = some r := h0
      obtain rfl := oI h0
      exact aJ (bN (aQ (aQ (bN (aQ (rV (x := (eI t8)) (by kernel_rfl) (aZ.refl _) ⟨rfl, G, hI, hO.NP⟩))))))
    refine bL ?_
    refine cN [(0, (eL aI s0)), (1, f1_v), (7, (eI t7)), (8, (eI t8))] ?_
    refine aJ (aV (aH (?_)))
    refine aU aF 2 ?_
    refine bC ?_
    exact aJ (aH (⟨rfl, _, (oI h1).symm, _, .eq (by kernel_rfl), hO, hI⟩))
  refine cV 0 ?_
  obtain rfl := oI h1
  obtain rfl : _ = rr0 := ho0
  replace h0 : dV f1 sg = some r := h0
  exact aJ (aS (aS (bM (aH (⟨rfl, _, _, .eq (by kernel_rfl), hO, hI, h0⟩)))))

theorem OF (v0 : aG) (lo1p : Nat) (t1 : Int) (t2 : (List aG)) (r : (Bool × Int)) (h0 : jY v0 t1 t2 = some r) : mB Tryz.prog 82 lo1p 1 [(eI t1)] [(eI r.2)] [(aI v0), (.lp lo1p 0 0), (.rp (eL aI t2))] (aK r.1) := by
  intro H0 hl0
  refine cF Tryz.func82 ?_
  have hO := aN.rO hl0
  clear hl0
  unfold jY at h0
  refine aO ?_
  refine aU aF 2 ?_
  refine fQ 3 (aI v0) (by kernel_rfl) (by kernel_rfl) ?_
  refine bC ?_
  refine bT [0] [(3, (.rp (aI v0)))] ?_
  refine aO ?_
  refine aU aF 3 ?_
  refine kQ 0 lo1p 1 0 (eI t1) (eI t1) [(eI t1)] hO rfl ?_
  refine bR 2 ?_
  refine kB 0 lo1p 1 0 (eI t1) (eI (wR (t1 + (1 : Int)))) [(eI t1)] [(lo1p, 1, [(eI (wR (t1 + (1 : Int))))])] hO rfl (by kernel_rfl) ?_
  intro H hO
  refine cW ?_
  refine bT [] [] ?_
  refine aO ?_
  refine eS (eV [7, 8, 11]) aF 7 ?_
  refine qH 2 ?_
  refine lT 0 lo1p 1 0 (eI (wR (t1 + (1 : Int)))) (eI (wR (t1 + (1 : Int)))) [(eI (wR (t1 + (1 : Int))))] hO rfl ?_
  obtain ⟨c1, h0⟩ := bE h0
  refine IP (Ds := [0 ≤ (wR (t1 + (1 : Int))) ∧ (wR (t1 + (1 : Int))) < (lN t2)]) (by kernel_rfl) ⟨c1, trivial⟩ ?_
  refine bH [(1, (.lp lo1p 0 0)), (4, (aK (!((decide (v0.Kind = ((gD t2 (wR (t1 + (1 : Int)))).Kind))) && ((decide (v0.Num = ((gD t2 (wR (t1 + (1 : Int)))).Num))) && ((pK v0.Text ((gD t2 (wR (t1 + (1 : Int)))).Text)) && true))))))] ?_
  refine bK ?_
  obtain rfl := oI h0
  exact aJ (rV (x := (aK (!((decide (v0.Kind = ((gD t2 (wR (t1 + (1 : Int)))).Kind))) && ((decide (v0.Num = ((gD t2 (wR (t1 + (1 : Int)))).Num))) && ((pK v0.Text ((gD t2 (wR (t1 + (1 : Int)))).Text)) && true)))))) (by kernel_rfl) (aZ.refl _) ⟨rfl, hO.ext, hO.at 0 (by kernel_rfl), rfl⟩)

theorem IC (x0 : Int) (r : Bool) (h0 : qA x0 = some r) : bY Tryz.prog 84 [(eI x0)] (aK r) := by
  intro H0
  refine cF Tryz.func84 ?_
  have hO := aN.start H0
  unfold qA at h0
  refine aY aF 1 [] [] ?_
  refine bV aF 4 [(2, (aK (!decide (x0 = x0))))] ?_
  refine bK ?_
  obtain rfl := oI h0
  exact aJ (Q_r hO)

theorem zU (x0 : Int) (y1 : Int) (r : Int) (h0 : jX x0 y1 = some r) : bY Tryz.prog 62 [(eI x0), (eI y1)] (eI r) := by
  intro H0
  refine cF Tryz.func62 ?_
  have hO := aN.start H0
  unfold jX at h0
  refine aY aF 1 [] [] ?_
  refine aO ?_
  refine aU aF 3 ?_
  refine bR 1 ?_
  obtain ⟨x1, hx2, h0⟩ := aW h0
  refine cA (IC x0 _ hx2) hO ?_
  intro H hO
  refine bC ?_
  refine bT [] [(5, (aK x1))] ?_
  refine aO ?_
  refine aU aF 3 ?_
  refine bR 1 ?_
  obtain ⟨x4, hx5, h0⟩ := aW h0
  refine cA (IC y1 _ hx5) hO ?_
  intro H hO
  refine bC ?_
  refine bT [] [(6, (aK x4))] ?_
  refine aO ?_
  refine aY aF 1 [5] [(11, (aK x1))] ?_
  refine bJ h0 (fun h0 => ?_) (fun h0 => ?_)
  · refine aO ?_
    refine bV aF 1 [(12, (aK x4))] ?_
    refine bJ h0 (fun h0 => ?_) (fun h0 => ?_)
    · refine bV aF 1 [(4, (eI (0 : Int)))] ?_
      refine bK ?_
      obtain rfl := oI h0
      exact aJ (aQ (aQ (Q_r hO)))
    refine bL ?_
    refine bH [] ?_
    refine bV aF 1 [(4, (eI (-1 : Int)))] ?_
    refine bK ?_
    obtain rfl := oI h0
    exact aJ (aQ (Q_r hO))
  refine bL ?_
  refine bH [(0, (eI x0)), (1, (eI y1)), (6, (aK x4))] ?_
  refine aO ?_
  refine aY aF 1 [6] [(13, (aK x4))] ?_
  refine bJ h0 (fun h0 => ?_) (fun h0 => ?_)
  · refine bV aF 1 [(4, (eI (1 : Int)))] ?_
    refine bK ?_
    obtain rfl := oI h0
    exact aJ (aQ (Q_r hO))
  refine bL ?_
  refine bH [(0, (eI x0)), (1, (eI y1))] ?_
  refine aO ?_
  refine aY aF 3 [] [(16, (aK (decide (x0 < y1))))] ?_
  refine bJ h0 (fun h0 => ?_) (fun h0 => ?_)
  · refine bV aF 1 [(4, (eI (-1 : Int)))] ?_
    refine bK ?_
    obtain rfl := oI h0
    exact aJ (aQ (Q_r hO))
  refine bL ?_
  refine bH [(0, (eI x0)), (1, (eI y1))] ?_
  refine aO ?_
  refine bV aF 3 [(19, (aK (decide (y1 < x0))))] ?_
  refine bJ h0 (fun h0 => ?_) (fun h0 => ?_)
  · refine bV aF 1 [(4, (eI (1 : Int)))] ?_
    refine bK ?_
    obtain rfl := oI h0
    exact aJ (aQ (Q_r hO))
  refine bL ?_
  refine bH [] ?_
  refine bV aF 1 [(4, (eI (0 : Int)))] ?_
  refine bK ?_
  obtain rfl := oI h0
  exact aJ (Q_r hO)

theorem yG (x0 : Int) (r : Bool) (h0 : kG x0 = some r) : bY Tryz.prog 104 [(eI x0)] (aK r) := by
  intro H0
  refine cF Tryz.func104 ?_
  have hO := aN.start H0
  unfold kG at h0
  refine aY aF 1 [] [] ?_
  refine bV aF 4 [(2, (aK (!decide (x0 = x0))))] ?_
  refine bK ?_
  obtain rfl := oI h0
  exact aJ (Q_r hO)

theorem GB (x0 : Int) (y1 : Int) (r : Int) (h0 : eO x0 y1 = some r) : bY Tryz.prog 99 [(eI x0), (eI y1)] (eI r) := by
  intro H0
  refine cF Tryz.func99 ?_
  have hO := aN.start H0
  unfold eO at h0
  refine aY aF 1 [] [] ?_
  refine aO ?_
  refine aU aF 3 ?_
  refine bR 1 ?_
  obtain ⟨x1, hx2, h0⟩ := aW h0
  refine cA (yG x0 _ hx2) hO ?_
  intro H hO
  refine bC ?_
  refine bT [] [(5, (aK x1))] ?_
  refine aO ?_
  refine aU aF 3 ?_
  refine bR 1 ?_
  obtain ⟨x4, hx5, h0⟩ := aW h0
  refine cA (yG y1 _ hx5) hO ?_
  intro H hO
  refine bC ?_
  refine bT [] [(6, (aK x4))] ?_
  refine aO ?_
  refine aY aF 1 [5] [(11, (aK x1))] ?_
  refine bJ h0 (fun h0 => ?_) (fun h0 => ?_)
  · refine aO ?_
    refine bV aF 1 [(12, (aK x4))] ?_
    refine bJ h0 (fun h0 => ?_) (fun h0 => ?_)
    · refine bV aF 1 [(4, (eI (0 : Int)))] ?_
      refine bK ?_
      obtain rfl := oI h0
      exact aJ (aQ (aQ (Q_r hO)))
    refine bL ?_
    refine bH [] ?_
    refine bV aF 1 [(4, (eI (-1 : Int)))] ?_
    refine bK ?_
    obtain rfl := oI h0
    exact aJ (aQ (Q_r hO))
  refine bL ?_
  refine bH [(0, (eI x0)), (1, (eI y1)), (6, (aK x4))] ?_
  refine aO ?_
  refine aY aF 1 [6] [(13, (aK x4))] ?_
  refine bJ h0 (fun h0 => ?_) (fun h0 => ?_)
  · refine bV aF 1 [(4, (eI (1 : Int)))] ?_
    refine bK ?_
    obtain rfl := oI h0
    exact aJ (aQ (Q_r hO))
  refine bL ?_
  refine bH [(0, (eI x0)), (1, (eI y1))] ?_
  refine aO ?_
  refine aY aF 3 [] [(16, (aK (decide (x0 < y1))))] ?_
  refine bJ h0 (fun h0 => ?_) (fun h0 => ?_)
  · refine bV aF 1 [(4, (eI (-1 : Int)))] ?_
    refine bK ?_
    obtain rfl := oI h0
    exact aJ (aQ (Q_r hO))
  refine bL ?_
  refine bH [(0, (eI x0)), (1, (eI y1))] ?_
  refine aO ?_
  refine bV aF 3 [(19, (aK (decide (y1 < x0))))] ?_
  refine bJ h0 (fun h0 => ?_) (fun h0 => ?_)
  · refine bV aF 1 [(4, (eI (1 : Int)))] ?_
    refine bK ?_
    obtain rfl := oI h0
    exact aJ (aQ (Q_r hO))
  refine bL ?_
  refine bH [] ?_
  refine bV aF 1 [(4, (eI (0 : Int)))] ?_
  refine bK ?_
  obtain rfl := oI h0
  exact aJ (Q_r hO)

theorem CC (a0 : ByteArray) (b1 : ByteArray) (r : Int) (h0 : jJ a0 b1 = some r) : bY Tryz.prog 105 [(EG a0), (EG b1)] (eI r) := by
  intro H0
  refine cF Tryz.func105 ?_
  have hO := aN.start H0
  unfold jJ at h0
  refine aY aF 1 [] [] ?_
  refine aO ?_
  refine aU aF 4 ?_
  refine bR 2 ?_
  refine aD5 109 [(EG a0), (EG b1)] (eI (TB a0 b1)) (by kernel_rfl) (by kernel_rfl) (aDC Tryz.func109 (by kernel_rfl) (by kernel_rfl) (by kernel_rfl) (by kernel_rfl) a0 b1) hO ?_
  intro H hO
  refine bC ?_
  refine bH [(4, (eI (TB a0 b1)))] ?_
  refine bK ?_
  obtain rfl := oI h0
  exact aJ (Q_r hO)

theorem OH (a0 : ByteArray) (b1 : ByteArray) (r : Int) (h0 : nS a0 b1 = some r) : bY Tryz.prog 100 [(EG a0), (EG b1)] (eI r) := by
  intro H0
  refine cF Tryz.func100 ?_
  have hO := aN.start H0
  unfold nS at h0
  refine aY aF 1 [] [] ?_
  refine aO ?_
  refine aU aF 4 ?_
  refine bR 2 ?_
  obtain ⟨x1, hx2, h0⟩ := aW h0
  refine cA (CC a0 b1 _ hx2) hO ?_
  intro H hO
  refine bC ?_
  refine bH [(4, (eI x1))] ?_
  refine bK ?_
  obtain rfl := oI h0
  exact aJ (Q_r hO)

theorem SM (a0 : aG) (b1 : aG) (r : Int) (h0 : tB a0 b1 = some r) : bY Tryz.prog 83 [(aI a0), (aI b1)] (eI r) := by
  intro H0
  refine cF Tryz.func83 ?_
  have hO := aN.start H0
  unfold tB at h0
  refine aO ?_
  refine aU aF 3 ?_
  refine fQ 3 (aI a0) (by kernel_rfl) (by kernel_rfl) ?_
  refine fQ 3 (aI b1) (by kernel_rfl) (by kernel_rfl) ?_
  refine bC ?_
  refine bH [(2, (.rp (aI a0))), (3, (.rp (aI b1)))] ?_
  refine aO ?_
  refine aU aF 7 ?_
  refine bR 1 ?_
  obtain ⟨⟨x1_0, x1_1⟩, hx2, h0⟩ := aW h0
  refine cA (DK a0 _ hx2) hO ?_
  intro H hO
  rcases x1_0 with _ | y4 | y5
  · replace h0 : ((mJ b1).bind fun (x6_0, x6_1) => match x6_0 with | .none_ => (cond ((!x1_1) || (!x6_1)) (some (0 : Int)) (none)) | .k_number y9 => (cond ((!x1_1) || (!x6_1)) (some (0 : Int)) (some (1 : Int))) | .k_words y10 => (cond ((!x1_1) || (!x6_1)) (some (0 : Int)) (none))) = some r := h0
    refine bC ?_
    refine bT [2] [(5, (bP bU.none_)), (6, (aK x1_1))] ?_
    refine aO ?_
    refine aU aF 7 ?_
    refine bR 1 ?_
    obtain ⟨⟨x6_0, x6_1⟩, hx7, h0⟩ := aW h0
    refine cA (DK b1 _ hx7) hO ?_
    intro H hO
    rcases x6_0 with _ | y9 | y10
    · replace h0 : (cond ((!x1_1) || (!x6_1)) (some (0 : Int)) (none)) = some r := h0
      refine bC ?_
      refine bT [3] [(7, (bP bU.none_)), (8, (aK x6_1))] ?_
      refine aO ?_
      refine aY aF 6 [6, 8] [(28, (aK ((!x1_1) || (!x6_1))))] ?_
      refine bJ h0 (fun h0 => ?_) (fun h0 => ?_)
      · refine bV aF 1 [(4, (eI (0 : Int)))] ?_
        refine bK ?_
        obtain rfl := oI h0
        exact aJ (aQ (Q_r hO))
      refine bL ?_
      refine bH [(5, (bP bU.none_)), (7, (bP bU.none_))] ?_
      refine aY aF 7 [] [(9, (eI 0)), (10, (aK false))] ?_
      refine aY aF 7 [] [(11, (eI 0)), (12, (aK false))] ?_
      refine aO ?_
      refine bO 0 ?_
      refine aY aF 5 [] [(39, (aK false))] ?_
      refine qD (false) (fun hc12 => ?_) (fun hc12 => ?_)
      · cases hc12
      · refine aY aF 2 [9, 10, 11, 39] [(47, (aK false))] ?_
        refine qD (false) (fun hc13 => ?_) (fun hc13 => ?_)
        · cases hc13
        · refine bV aF 2 [(5, (bP bU.none_)), (7, (bP bU.none_)), (49, (aK false))] ?_
          refine qD (false) (fun hc14 => ?_) (fun hc14 => ?_)
          · cases hc14
          · refine bL ?_
            refine cN [(5, (bP bU.none_)), (7, (bP bU.none_))] ?_
            refine aJ (aV (aH (?_)))
            refine aO ?_
            refine eS (eV []) aF 6 ?_
            cases h0
    · replace h0 : (cond ((!x1_1) || (!x6_1)) (some (0 : Int)) (some (1 : Int))) = some r := h0
      refine bC ?_
      refine bT [3] [(7, (bP (bU.k_number y9))), (8, (aK x6_1))] ?_
      refine aO ?_
      refine aY aF 6 [6, 8] [(28, (aK ((!x1_1) || (!x6_1))))] ?_
      refine bJ h0 (fun h0 => ?_) (fun h0 => ?_)
      · refine bV aF 1 [(4, (eI (0 : Int)))] ?_
        refine bK ?_
        obtain rfl := oI h0
        exact aJ (aQ (Q_r hO))
      refine bL ?_
      refine bH [(5, (bP bU.none_)), (7, (bP (bU.k_number y9)))] ?_
      refine aY aF 7 [] [(9, (eI 0)), (10, (aK false))] ?_
      refine aY aF 7 [] [(11, (eI y9)), (12, (aK true))] ?_
      refine aO ?_
      refine bO 0 ?_
      refine aY aF 5 [] [(39, (aK false))] ?_
      refine qD (false) (fun hc16 => ?_) (fun hc16 => ?_)
      · cases hc16
      · refine aY aF 2 [9, 10, 11, 39] [(47, (aK false))] ?_
        refine qD (false) (fun hc17 => ?_) (fun hc17 => ?_)
        · cases hc17
        · refine bV aF 2 [(5, (bP bU.none_)), (7, (bP (bU.k_number y9))), (49, (aK true))] ?_
          refine qD (true) (fun hc18 => ?_) (fun hc18 => ?_)
          · refine bV aF 1 [(4, (eI (1 : Int)))] ?_
            refine bK ?_
            obtain rfl := oI h0
            exact aJ (bN (aQ (Q_r hO)))
          · cases hc18
    · replace h0 : (cond ((!x1_1) || (!x6_1)) (some (0 : Int)) (none)) = some r := h0
      refine bC ?_
      refine bT [3] [(7, (bP (bU.k_words y10))), (8, (aK x6_1))] ?_
      refine aO ?_
      refine aY aF 6 [6, 8] [(28, (aK ((!x1_1) || (!x6_1))))] ?_
      refine bJ h0 (fun h0 => ?_) (fun h0 => ?_)
      · refine bV aF 1 [(4, (eI (0 : Int)))] ?_
        refine bK ?_
        obtain rfl := oI h0
        exact aJ (aQ (Q_r hO))
      refine bL ?_
      refine bH [(5, (bP bU.none_)), (7, (bP (bU.k_words y10)))] ?_
      refine aY aF 7 [] [(9, (eI 0)), (10, (aK false))] ?_
      refine aY aF 7 [] [(11, (eI 0)), (12, (aK false))] ?_
      refine aO ?_
      refine bO 0 ?_
      refine aY aF 5 [] [(39, (aK false))] ?_
      refine qD (false) (fun hc20 => ?_) (fun hc20 => ?_)
      · cases hc20
      · refine aY aF 2 [9, 10, 11, 39] [(47, (aK false))] ?_
        refine qD (false) (fun hc21 => ?_) (fun hc21 => ?_)
        · cases hc21
        · refine bV aF 2 [(5, (bP bU.none_)), (7, (bP (bU.k_words y10))), (49, (aK false))] ?_
          refine qD (false) (fun hc22 => ?_) (fun hc22 => ?_)
          · cases hc22
          · refine bL ?_
            refine cN [(5, (bP bU.none_)), (7, (bP (bU.k_words y10)))] ?_
            refine aJ (aV (aH (?_)))
            refine aO ?_
            refine eS (eV []) aF 6 ?_
            cases h0
  · replace h0 : ((mJ b1).bind fun (x23_0, x23_1) => match x23_0 with | .none_ => (cond ((!x1_1) || (!x23_1)) (some (0 : Int)) (some (-1 : Int))) | .k_number y26 => (cond ((!x1_1) || (!x23_1)) (some (0 : Int)) ((eO y4 y26).bind fun x33 => some x33)) | .k_words y27 => (cond ((!x1_1) || (!x23_1)) (some (0 : Int)) (some (-1 : Int)))) = some r := h0
    refine bC ?_
    refine bT [2] [(5, (bP (bU.k_number y4))), (6, (aK x1_1))] ?_
    refine aO ?_
    refine aU aF 7 ?_
    refine bR 1 ?_
    obtain ⟨⟨x23_0, x23_1⟩, hx24, h0⟩ := aW h0
    refine cA (DK b1 _ hx24) hO ?_
    intro H hO
    rcases x23_0 with _ | y26 | y27
    · replace h0 : (cond ((!x1_1) || (!x23_1)) (some (0 : Int)) (some (-1 : Int))) = some r := h0
      refine bC ?_
      refine bT [3] [(7, (bP bU.none_)), (8, (aK x23_1))] ?_
      refine aO ?_
      refine aY aF 6 [6, 8] [(28, (aK ((!x1_1) || (!x23_1))))] ?_
      refine bJ h0 (fun h0 => ?_) (fun h0 => ?_)
      · refine bV aF 1 [(4, (eI (0 : Int)))] ?_
        refine bK ?_
        obtain rfl := oI h0
        exact aJ (aQ (Q_r hO))
      refine bL ?_
      refine bH [(5, (bP (bU.k_number y4))), (7, (bP bU.none_))] ?_
      refine aY aF 7 [] [(9, (eI y4)), (10, (aK true))] ?_
      refine aY aF 7 [] [(11, (eI 0)), (12, (aK false))] ?_
      refine aO ?_
      refine bO 0 ?_
      refine aY aF 5 [] [(39, (aK false))] ?_
      refine qD (false) (fun hc29 => ?_) (fun hc29 => ?_)
      · cases hc29
      · refine aY aF 2 [9, 10, 11, 39] [(47, (aK true))] ?_
        refine qD (true) (fun hc30 => ?_) (fun hc30 => ?_)
        · refine bV aF 1 [(4, (eI (-1 : Int)))] ?_
          refine bK ?_
          obtain rfl := oI h0
          exact aJ (bN (aQ (Q_r hO)))
        · cases hc30
    · replace h0 : (cond ((!x1_1) || (!x23_1)) (some (0 : Int)) ((eO y4 y26).bind fun x33 => some x33)) = some r := h0
      refine bC ?_
      refine bT [3] [(7, (bP (bU.k_number y26))), (8, (aK x23_1))] ?_
      refine aO ?_
      refine aY aF 6 [6, 8] [(28, (aK ((!x1_1) || (!x23_1))))] ?_
      refine bJ h0 (fun h0 => ?_) (fun h0 => ?_)
      · refine bV aF 1 [(4, (eI (0 : Int)))] ?_
        refine bK ?_
        obtain rfl := oI h0
        exact aJ (aQ (Q_r hO))
      refine bL ?_
      refine bH [(5, (bP (bU.k_number y4))), (7, (bP (bU.k_number y26)))] ?_
      refine aY aF 7 [] [(9, (eI y4)), (10, (aK true))] ?_
      refine aY aF 7 [] [(11, (eI y26)), (12, (aK true))] ?_
      refine aO ?_
      refine bO 0 ?_
      refine aY aF 5 [] [(39, (aK true))] ?_
      refine qD (true) (fun hc32 => ?_) (fun hc32 => ?_)
      · refine aO ?_
        refine aU aF 4 ?_
        refine bR 2 ?_
        obtain ⟨x33, hx34, h0⟩ := aW h0
        refine cA (GB y4 y26 _ hx34) hO ?_
        intro H hO
        refine bC ?_
        refine bH [(4, (eI x33))] ?_
        refine bK ?_
        obtain rfl := oI h0
        exact aJ (bN (aQ (Q_r hO)))
      · cases hc32
    · replace h0 : (cond ((!x1_1) || (!x23_1)) (some (0 : Int)) (some (-1 : Int))) = some r := h0
      refine bC ?_
      refine bT [3] [(7, (bP (bU.k_words y27))), (8, (aK x23_1))] ?_
      refine aO ?_
      refine aY aF 6 [6, 8] [(28, (aK ((!x1_1) || (!x23_1))))] ?_
      refine bJ h0 (fun h0 => ?_) (fun h0 => ?_)
      · refine bV aF 1 [(4, (eI (0 : Int)))] ?_
        refine bK ?_
        obtain rfl := oI h0
        exact aJ (aQ (Q_r hO))
      refine bL ?_
      refine bH [(5, (bP (bU.k_number y4))), (7, (bP (bU.k_words y27)))] ?_
      refine aY aF 7 [] [(9, (eI y4)), (10, (aK true))] ?_
      refine aY aF 7 [] [(11, (eI 0)), (12, (aK false))] ?_
      refine aO ?_
      refine bO 0 ?_
      refine aY aF 5 [] [(39, (aK false))] ?_
      refine qD (false) (fun hc37 => ?_) (fun hc37 => ?_)
      · cases hc37
      · refine aY aF 2 [9, 10, 11, 39] [(47, (aK true))] ?_
        refine qD (true) (fun hc38 => ?_) (fun hc38 => ?_)
        · refine bV aF 1 [(4, (eI (-1 : Int)))] ?_
          refine bK ?_
          obtain rfl := oI h0
          exact aJ (bN (aQ (Q_r hO)))
        · cases hc38
  · replace h0 : ((mJ b1).bind fun (x39_0, x39_1) => match x39_0 with | .none_ => (cond ((!x1_1) || (!x39_1)) (some (0 : Int)) (none)) | .k_number y42 => (cond ((!x1_1) || (!x39_1)) (some (0 : Int)) (some (1 : Int))) | .k_words y43 => (cond ((!x1_1) || (!x39_1)) (some (0 : Int)) ((nS y5 y43).bind fun x56 => some x56))) = some r := h0
    refine bC ?_
    refine bT [2] [(5, (bP (bU.k_words y5))), (6, (aK x1_1))] ?_
    refine aO ?_
    refine aU aF 7 ?_
    refine bR 1 ?_
    obtain ⟨⟨x39_0, x39_1⟩, hx40, h0⟩ := aW h0
    refine cA (DK b1 _ hx40) hO ?_
    intro H hO
    rcases x39_0 with _ | y42 | y43
    · replace h0 : (cond ((!x1_1) || (!x39_1)) (some (0 : Int)) (none)) = some r := h0
      refine bC ?_
      refine bT [3] [(7, (bP bU.none_)), (8, (aK x39_1))] ?_
      refine aO ?_
      refine aY aF 6 [6, 8] [(28, (aK ((!x1_1) || (!x39_1))))] ?_
      refine bJ h0 (fun h0 => ?_) (fun h0 => ?_)
      · refine bV aF 1 [(4, (eI (0 : Int)))] ?_
        refine bK ?_
        obtain rfl := oI h0
        exact aJ (aQ (Q_r hO))
      refine bL ?_
      refine bH [(5, (bP (bU.k_words y5))), (7, (bP bU.none_))] ?_
      refine aY aF 7 [] [(9, (eI 0)), (10, (aK false))] ?_
      refine aY aF 7 [] [(11, (eI 0)), (12, (aK false))] ?_
      refine aO ?_
      refine bO 0 ?_
      refine aY aF 5 [] [(39, (aK false))] ?_
      refine qD (false) (fun hc45 => ?_) (fun hc45 => ?_)
      · cases hc45
      · refine aY aF 2 [9, 10, 11, 39] [(47, (aK false))] ?_
        refine qD (false) (fun hc46 => ?_) (fun hc46 => ?_)
        · cases hc46
        · refine bV aF 2 [(5, (bP (bU.k_words y5))), (7, (bP bU.none_)), (49, (aK false))] ?_
          refine qD (false) (fun hc47 => ?_) (fun hc47 => ?_)
          · cases hc47
          · refine bL ?_
            refine cN [(5, (bP (bU.k_words y5))), (7, (bP bU.none_))] ?_
            refine aJ (aV (aH (?_)))
            refine aO ?_
            refine eS (eV []) aF 6 ?_
            cases h0
    · replace h0 : (cond ((!x1_1) || (!x39_1)) (some (0 : Int)) (some (1 : Int))) = some r := h0
      refine bC ?_
      refine bT [3] [(7, (bP (bU.k_number y42))), (8, (aK x39_1))] ?_
      refine aO ?_
      refine aY aF 6 [6, 8] [(28, (aK ((!x1_1) || (!x39_1))))] ?_
      refine bJ h0 (fun h0 => ?_) (fun h0 => ?_)
      · refine bV aF 1 [(4, (eI (0 : Int)))] ?_
        refine bK ?_
        obtain rfl := oI h0
        exact aJ (aQ (Q_r hO))
      refine bL ?_
      refine bH [(5, (bP (bU.k_words y5))), (7, (bP (bU.k_number y42)))] ?_
      refine aY aF 7 [] [(9, (eI 0)), (10, (aK false))] ?_
      refine aY aF 7 [] [(11, (eI y42)), (12, (aK true))] ?_
      refine aO ?_
      refine bO 0 ?_
      refine aY aF 5 [] [(39, (aK false))] ?_
      refine qD (false) (fun hc49 => ?_) (fun hc49 => ?_)
      · cases hc49
      · refine aY aF 2 [9, 10, 11, 39] [(47, (aK false))] ?_
        refine qD (false) (fun hc50 => ?_) (fun hc50 => ?_)
        · cases hc50
        · refine bV aF 2 [(5, (bP (bU.k_words y5))), (7, (bP (bU.k_number y42))), (49, (aK true))] ?_
          refine qD (true) (fun hc51 => ?_) (fun hc51 => ?_)
          · refine bV aF 1 [(4, (eI (1 : Int)))] ?_
            refine bK ?_
            obtain rfl := oI h0
            exact aJ (bN (aQ (Q_r hO)))
          · cases hc51
    · replace h0 : (cond ((!x1_1) || (!x39_1)) (some (0 : Int)) ((nS y5 y43).bind fun x56 => some x56)) = some r := h0
      refine bC ?_
      refine bT [3] [(7, (bP (bU.k_words y43))), (8, (aK x39_1))] ?_
      refine aO ?_
      refine aY aF 6 [6, 8] [(28, (aK ((!x1_1) || (!x39_1))))] ?_
      refine bJ h0 (fun h0 => ?_) (fun h0 => ?_)
      · refine bV aF 1 [(4, (eI (0 : Int)))] ?_
        refine bK ?_
        obtain rfl := oI h0
        exact aJ (aQ (Q_r hO))
      refine bL ?_
      refine bH [(5, (bP (bU.k_words y5))), (7, (bP (bU.k_words y43)))] ?_
      refine aY aF 7 [] [(9, (eI 0)), (10, (aK false))] ?_
      refine aY aF 7 [] [(11, (eI 0)), (12, (aK false))] ?_
      refine aO ?_
      refine bO 0 ?_
      refine aY aF 5 [] [(39, (aK false))] ?_
      refine qD (false) (fun hc53 => ?_) (fun hc53 => ?_)
      · cases hc53
      · refine aY aF 2 [9, 10, 11, 39] [(47, (aK false))] ?_
        refine qD (false) (fun hc54 => ?_) (fun hc54 => ?_)
        · cases hc54
        · refine bV aF 2 [(5, (bP (bU.k_words y5))), (7, (bP (bU.k_words y43))), (49, (aK false))] ?_
          refine qD (false) (fun hc55 => ?_) (fun hc55 => ?_)
          · cases hc55
          · refine bL ?_
            refine cN [(5, (bP (bU.k_words y5))), (7, (bP (bU.k_words y43)))] ?_
            refine aJ (aV (aH (?_)))
            refine aO ?_
            refine eS (eV []) aF 6 ?_
            refine qH 4 ?_
            obtain ⟨x56, hx57, h0⟩ := aW h0
            refine yA (OH y5 y43 _ hx57) hO ?_
            intro H hO
            refine iJ ?_
            refine bH [(4, (eI x56))] ?_
            refine bK ?_
            obtain rfl := oI h0
            exact aJ (Q_r hO)

theorem LQ (a0 : (List aG)) (b1 : (List aG)) (r : Int) (h0 : sL a0 b1 = some r) : bY Tryz.prog 61 [(eL aI a0), (eL aI b1)] (eI r) := by
  intro H0
  refine cF Tryz.func61 ?_
  have hO := aN.start H0
  unfold sL at h0
  refine aO ?_
  refine aU aF 2 ?_
  refine fQ 1 (eL aI b1) (by kernel_rfl) (by kernel_rfl) ?_
  refine bC ?_
  refine bT [1] [(3, (.rp (eL aI b1)))] ?_
  refine aO ?_
  refine aO ?_
  refine aU aF 8 ?_
  refine bR 1 ?_
  obtain ⟨x1, hx2, h0⟩ := aW h0
  refine cA (FU a0 _ hx2) hO ?_
  intro H hO
  refine bR 5 ?_
  obtain ⟨x4, hx5, h0⟩ := aW h0
  refine fU [(10, false)] 35 [(eL aI b1)] (aK x4) (!(!x1)) (by kernel_rfl) (by kernel_rfl) (by kernel_rfl) (fun hb6 => (FU b1 _ (fP hx5 hb6))) hO ?_
  intro H hO
  refine bC ?_
  refine bT [] [(14, (aK ((!x1) || (!x4))))] ?_
  refine bJ h0 (fun h0 => ?_) (fun h0 => ?_)
  · refine bV aF 1 [(4, (eI (0 : Int)))] ?_
    refine bK ?_
    obtain rfl := oI h0
    exact aJ (aQ (Q_r hO))
  refine bL ?_
  refine bH [(0, (eL aI a0)), (3, (.rp (eL aI b1)))] ?_
  refine aY aF 6 [] [(5, (eI (if (lN b1) < (lN a0) then (lN b1) else (lN a0))))] ?_
  refine aO ?_
  refine eS (eV []) aF 7 ?_
  obtain ⟨c8, h0⟩ := bE h0
  refine dA 4 [0 ≤ (if (lN b1) < (lN a0) then (lN b1) else (lN a0)) ∧ (if (lN b1) < (lN a0) then (lN b1) else (lN a0)) ≤ (lN a0)] ⟨c8, trivial⟩ ?_
  obtain ⟨x9, hx10, h0⟩ := aW h0
  refine aEr (L' := fun lo11 => [(lo11, 1, [(eI x9.1)])]) 1 [(eI x9.1)] 81 [(.rp (eL aI b1))] (fun lo11 => (.fn (.func 82) [] [(.lp lo11 0 0), (.rp (eL aI x9.2))])) (by kernel_rfl) (by kernel_rfl) (SS b1 _ hx10) hO (fun _ => by kernel_rfl) ?_
  intro lo11 H hO
  obtain ⟨x12, hx13, h0⟩ := aW h0
  refine aEa (fun st G' => G' = up [(lo11, 1, [(eI st)])] ++ []) [(lo11, 1, [(eI x12.1)])] x9.1 x12.1 80 [(.sl false (Int.toNat (if (lN b1) < (lN a0) then (lN b1) else (lN a0))) (fun i => aI (List.getD a0 i default))), (.fn (.func 82) [] [(.lp lo11 0 0), (.rp (eL aI x9.2))])] (eI x12.2) (by kernel_rfl) (by kernel_rfl) (GI.sub (as0' := [(eL aI (List.take (Int.toNat (if (lN b1) < (lN a0) then (lN b1) else (lN a0))) a0)), (.fn (.func 82) [] [(.lp lo11 0 0), (.rp (eL aI x9.2))])]) (xC _ (List.take (Int.toNat (if (lN b1) < (lN a0) then (lN b1) else (lN a0))) a0) (.fn (.func 82) [] [(.lp lo11 0 0), (.rp (eL aI x9.2))]) (fun st y0 => (jY y0 st x9.2).bind fun o => some (o.2, o.1)) (fun st y0 st2 rr hr => (OF y0 lo11 st x9.2 _ (aFr hr)).toV (ys := []) (zs := [(aI y0)]) (cs := [(.lp lo11 0 0), (.rp (eL aI x9.2))]) (fun Gx hG => ⟨up [], up [] ++ [], hG, rfl⟩)) _ _ hx13) ⟨aEp (Int.toNat_le.2 (And.right c8)), aZ.refl _, trivial⟩) hO rfl (fun _ h => h) ?_
  intro H hO
  refine iJ ?_
  replace hO := hO.pick (L' := []) [] (by decide) (by kernel_rfl)
  refine bT [5] [(6, (eI x12.2))] ?_
  refine aO ?_
  refine aY aF 2 [] [(27, (aK (decide (x12.2 < (0 : Int)))))] ?_
  refine bJ h0 (fun h0 => ?_) (fun h0 => ?_)
  · refine aO ?_
    refine aU aF 6 ?_
    refine bR 4 ?_
    obtain ⟨x15, hx16, h0⟩ := aW h0
    refine cA (zU (lN a0) (lN b1) _ hx16) hO ?_
    intro H hO
    refine bC ?_
    refine bH [(4, (eI x15))] ?_
    refine bK ?_
    obtain rfl := oI h0
    exact aJ (aQ (Q_r hO))
  refine bL ?_
  refine bH [(0, (eL aI a0)), (3, (.rp (eL aI b1))), (6, (eI x12.2))] ?_
  refine aO ?_
  refine eS (eV [36, 37, 40, 41]) aF 10 ?_
  obtain ⟨c18, h0⟩ := bE h0
  obtain ⟨c19, h0⟩ := bE h0
  refine dA 8 [0 ≤ x12.2 ∧ x12.2 < (lN a0), 0 ≤ x12.2 ∧ x12.2 < (lN b1)] ⟨c18, c19, trivial⟩ ?_
  obtain ⟨x20, hx21, h0⟩ := aW h0
  refine yA (SM (gD a0 x12.2) (gD b1 x12.2) _ hx21) hO ?_
  intro H hO
  refine iJ ?_
  refine bH [(4, (eI x20))] ?_
  refine bK ?_
  obtain rfl := oI h0
  exact aJ (Q_r hO)

theorem YT (EF : (List Int)) (r : Int) (h0 : yO EF = some r) : bY Tryz.prog 60 [(eL (eI) EF)] (eI r) := by
  intro H0
  refine cF Tryz.func60 ?_
  have hO := aN.start H0
  unfold yO at h0
  refine aY aF 1 [] [] ?_
  refine aY aF 1 [] [(3, (eI (0 : Int)))] ?_
  refine cH (fun T H => ∃ pH : Int, Has T [(3, (eI pH))] ∧ aN ⟨H0, [], []⟩ H [] ∧ vQ pH = some r) ?_ ?_
  · clear hO h0
    rintro T H ⟨pH, hT, hO, h0⟩
    refine bA hT ?_
    clear hT
    unfold vQ at h0
    refine bV aF 2 [(2, (eI pH))] ?_
    refine bK ?_
    obtain rfl := oI h0
    exact aJ (Q_r hO)
  refine aY aF 3 [0] [(6, (eL (eI) EF)), (7, (eI (lN EF))), (8, (eI (0 : Int)))] ?_
  refine bO 0 ?_
  refine cL [(3, (eI (0 : Int))), (6, (eL (eI) EF)), (7, (eI (lN EF))), (8, (eI (0 : Int)))] ?_
  refine cC (fun T H => ∃ pH : Int, ∃ t6 : (List Int), ∃ t7 : Int, ∃ t8 : Int, Has T [(3, (eI pH)), (6, (eL (eI) t6)), (7, (eI t7)), (8, (eI t8))] ∧ aN ⟨H0, [], []⟩ H [] ∧ BS pH t6 t7 t8 = some r) ?_ ⟨(0 : Int), EF, (lN EF), (0 : Int), .eq (by kernel_rfl), hO, h0⟩
  clear hO h0
  rintro T H ⟨pH, t6, t7, t8, hT, hO, h0⟩
  refine bA hT ?_
  clear hT
  unfold BS at h0
  obtain ⟨rr0, hl0, h0⟩ := aW h0
  refine bX (by kernel_rfl) (fun (s : Int) T H => Has T [(3, (eI pH)), (6, (eL (eI) t6)), (7, (eI t7)), (8, (eI s))] ∧ aN ⟨H0, [], []⟩ H []) hl0 ⟨.eq (by kernel_rfl), hO⟩ ?_
  clear hO
  rintro k0 s out1 T H ⟨hT, hO⟩ h1 ho0
  obtain ⟨t8, rfl⟩ : ∃ x, x = s := ⟨_, rfl⟩
  replace h1 : iH pH t6 t7 t8 = some out1 := h1
  refine bA hT ?_
  clear hT
  unfold iH at h1
  refine aY aF 1 [] [(9, (aK (decide (t8 < t7))))] ?_
  refine aO ?_
  refine bJ h1 (fun h1 => ?_) (fun h1 => ?_)
  · refine bL ?_
    refine bH [(3, (eI pH)), (6, (eL (eI) t6)), (7, (eI t7)), (8, (eI t8))] ?_
    refine aO ?_
    refine bO 1 ?_
    refine aO ?_
    refine aU aF 3 ?_
    obtain ⟨c2, h1⟩ := bE h1
    refine oN [0 ≤ t8 ∧ t8 < (lN t6)] ⟨c2, trivial⟩ ?_
    refine bT [] [(5, (eI (gD t6 t8)))] ?_
    refine aY aF 3 [] [(14, (aK (!decide ((gD t6 t8) = pH))))] ?_
    refine bJ h1 (fun h1 => ?_) (fun h1 => ?_)
    · refine bV aF 2 [(2, (eI (gD t6 t8)))] ?_
      refine bK ?_
      obtain rfl := oI h1
      obtain rfl : _ = rr0 := ho0
      replace h0 : some (gD t6 t8) = some r := h0
      obtain rfl := oI h0
      exact aJ (bN (aQ (aQ (bN (aQ (Q_r hO))))))
    refine bL ?_
    refine cN [(3, (eI pH)), (6, (eL (eI) t6)), (7, (eI t7)), (8, (eI t8))] ?_
    refine aJ (aV (aH (?_)))
    refine aU aF 2 ?_
    refine bC ?_
    exact aJ (aH (⟨rfl, _, (oI h1).symm, .eq (by kernel_rfl), hO⟩))
  refine cV 0 ?_
  obtain rfl := oI h1
  obtain rfl : _ = rr0 := ho0
  replace h0 : vQ pH = some r := h0
  exact aJ (aS (aS (bM (aH (⟨rfl, _, .eq (by kernel_rfl), hO, h0⟩)))))

theorem VW (x0 : aC) (y1 : aC) (r : Int) (h0 : nT x0 y1 = some r) : bY Tryz.prog 59 [(aD x0), (aD y1)] (eI r) := by
  intro H0
  refine cF Tryz.func59 ?_
  have hO := aN.start H0
  unfold nT at h0
  refine aO ?_
  refine aU aF 3 ?_
  refine fQ 3 (aD x0) (by kernel_rfl) (by kernel_rfl) ?_
  refine fQ 3 (aD y1) (by kernel_rfl) (by kernel_rfl) ?_
  refine bC ?_
  refine bH [(2, (.rp (aD x0))), (3, (.rp (aD y1)))] ?_
  refine aO ?_
  refine eS (eV [6, 8, 9, 11, 13, 14, 15, 16]) aF 13 ?_
  refine qH 4 ?_
  obtain ⟨x1, hx2, h0⟩ := aW h0
  refine yA (LQ x0.Row y1.Row _ hx2) hO ?_
  intro H hO
  refine qH 9 ?_
  obtain ⟨x4, hx5, h0⟩ := aW h0
  refine yA (zU x0.At y1.At _ hx5) hO ?_
  intro H hO
  refine BK (xs := [(eI x1), (eI x4)]) (k := 1) (by kernel_rfl) (by kernel_rfl) ?_
  obtain ⟨x7, hx8, h0⟩ := aW h0
  refine aBi 60 [(cZ [(eI x1), (eI x4)])] (eI x7) (by kernel_rfl) (by kernel_rfl) (bY.sub (YT ([x1, x4]) _ hx8) ⟨HN (l := [x1, x4]), trivial⟩) hO ?_
  intro H hO
  refine iJ ?_
  refine bH [(4, (eI x7))] ?_
  refine bK ?_
  obtain rfl := oI h0
  exact aJ (Q_r hO)

theorem IW (l0 : (List aC)) (r : (List aC)) (h0 : qT l0 = some r) : bY Tryz.prog 48 [(eL aD l0)] (.fn (.func 75) [] [(.rp (eL aD r))]) := by
  intro H0
  refine cF Tryz.func48 ?_
  have hO := aN.start H0
  unfold qT at h0
  refine aO ?_
  refine aU aF 2 ?_
  refine fQ 1 (eL aD l0) (by kernel_rfl) (by kernel_rfl) ?_
  refine bC ?_
  refine bH [(1, (.rp (eL aD l0)))] ?_
  refine bV aF 2 [(2, (.fn (.func 75) [] [(.rp (eL aD l0))]))] ?_
  refine bK ?_
  obtain rfl := oI h0
  exact aJ (rV (x := (.fn (.func 75) [] [(.rp (eL aD l0))])) (by kernel_rfl) (aZ.refl _) ⟨rfl, hO.out⟩)

theorem CE (s10 : (List aG)) (s21 : (List aG)) (r : Bool) (h0 : iX s10 s21 = some r) : bY Tryz.prog 73 [(eL aI s10), (eL aI s21)] (aK r) := by
  intro H0
  refine cF Tryz.func73 ?_
  have hO := aN.start H0
  unfold iX at h0
  refine aY aF 1 [] [] ?_
  refine aO ?_
  refine aY aF 5 [] [(10, (aK (!decide ((lN s10) = (lN s21)))))] ?_
  refine bJ h0 (fun h0 => ?_) (fun h0 => ?_)
  · refine bV aF 1 [(4, (aK false))] ?_
    refine bK ?_
    obtain rfl := oI h0
    exact aJ (aQ (Q_r hO))
  refine bL ?_
  refine bH [(0, (eL aI s10)), (1, (eL aI s21))] ?_
  refine cH (fun T H => Has T [] ∧ aN ⟨H0, [], []⟩ H [] ∧ eX  = some r) ?_ ?_
  · clear hO h0
    rintro T H ⟨hT, hO, h0⟩
    refine bA hT ?_
    clear hT
    unfold eX at h0
    refine bV aF 1 [(4, (aK true))] ?_
    refine bK ?_
    obtain rfl := oI h0
    exact aJ (Q_r hO)
  refine aY aF 3 [] [(12, (eI (lN s10))), (13, (eI (0 : Int)))] ?_
  refine bO 0 ?_
  refine cL [(0, (eL aI s10)), (1, (eL aI s21)), (12, (eI (lN s10))), (13, (eI (0 : Int)))] ?_
  refine cC (fun T H => ∃ t12 : Int, ∃ t13 : Int, Has T [(0, (eL aI s10)), (1, (eL aI s21)), (12, (eI t12)), (13, (eI t13))] ∧ aN ⟨H0, [], []⟩ H [] ∧ iL s10 s21 t12 t13 = some r) ?_ ⟨(lN s10), (0 : Int), .eq (by kernel_rfl), hO, h0⟩
  clear hO h0
  rintro T H ⟨t12, t13, hT, hO, h0⟩
  refine bA hT ?_
  clear hT
  unfold iL at h0
  obtain ⟨rr0, hl0, h0⟩ := aW h0
  refine bX (by kernel_rfl) (fun (s : Int) T H => Has T [(0, (eL aI s10)), (1, (eL aI s21)), (12, (eI t12)), (13, (eI s))] ∧ aN ⟨H0, [], []⟩ H []) hl0 ⟨.eq (by kernel_rfl), hO⟩ ?_
  clear hO
  rintro k0 s out1 T H ⟨hT, hO⟩ h1 ho0
  obtain ⟨t13, rfl⟩ : ∃ x, x = s := ⟨_, rfl⟩
  replace h1 : dX s10 s21 t12 t13 = some out1 := h1
  refine bA hT ?_
  clear hT
  unfold dX at h1
  refine aY aF 1 [] [(14, (aK (decide (t13 < t12))))] ?_
  refine aO ?_
  refine bJ h1 (fun h1 => ?_) (fun h1 => ?_)
  · refine bL ?_
    refine bH [(0, (eL aI s10)), (1, (eL aI s21)), (12, (eI t12)), (13, (eI t13))] ?_
    refine aO ?_
    refine bO 1 ?_
    refine aY aF 2 [] [(5, (eI t13))] ?_
    refine aO ?_
    refine eS (eV [19, 23]) aF 9 ?_
    obtain ⟨c3, h1⟩ := bE h1
    obtain ⟨c4, h1⟩ := bE h1
    refine IP (Ds := [0 ≤ t13 ∧ t13 < (lN s10), 0 ≤ t13 ∧ t13 < (lN s21)]) (by kernel_rfl) ⟨c3, c4, trivial⟩ ?_
    refine bT [5] [(24, (aK (!((decide (((gD s10 t13).Kind) = ((gD s21 t13).Kind))) && ((decide (((gD s10 t13).Num) = ((gD s21 t13).Num))) && ((pK ((gD s10 t13).Text) ((gD s21 t13).Text)) && true))))))] ?_
    refine bJ h1 (fun h1 => ?_) (fun h1 => ?_)
    · refine bV aF 1 [(4, (aK false))] ?_
      refine bK ?_
      obtain rfl := oI h1
      obtain rfl : _ = rr0 := ho0
      replace h0 : some false = some r := h0
      obtain rfl := oI h0
      exact aJ (bN (aQ (aQ (bN (aQ (Q_r hO))))))
    refine bL ?_
    refine cN [(0, (eL aI s10)), (1, (eL aI s21)), (12, (eI t12)), (13, (eI t13))] ?_
    refine aJ (aV (aH (?_)))
    refine aU aF 2 ?_
    refine bC ?_
    exact aJ (aH (⟨rfl, _, (oI h1).symm, .eq (by kernel_rfl), hO⟩))
  refine cV 0 ?_
  obtain rfl := oI h1
  obtain rfl : _ = rr0 := ho0
  replace h0 : eX  = some r := h0
  exact aJ (aS (aS (bM (aH (⟨rfl, .eq (by kernel_rfl), hO, h0⟩)))))

theorem RL (a0 : (List aG)) (b1 : (List aG)) (r : Bool) (h0 : yX a0 b1 = some r) : bY Tryz.prog 42 [(eL aI a0), (eL aI b1)] (aK r) := by
  intro H0
  refine cF Tryz.func42 ?_
  have hO := aN.start H0
  unfold yX at h0
  refine aY aF 1 [] [] ?_
  refine aO ?_
  refine aU aF 4 ?_
  refine bR 2 ?_
  obtain ⟨x1, hx2, h0⟩ := aW h0
  refine cA (CE a0 b1 _ hx2) hO ?_
  intro H hO
  refine bC ?_
  refine bH [(4, (aK x1))] ?_
  refine bK ?_
  obtain rfl := oI h0
  exact aJ (Q_r hO)

theorem KY (r0 : (List aG)) (r : (List aG)) (h0 : vJ r0 = some r) : bY Tryz.prog 24 [(eL aI r0)] (eL aI r) := by
  intro H0
  refine cF Tryz.func24 ?_
  have hO := aN.start H0
  unfold vJ at h0
  refine aY aF 1 [] [] ?_
  refine aO ?_
  refine aU aF 6 ?_
  refine bR 2 ?_
  obtain ⟨c1, h0⟩ := bE h0
  refine NZ 3 32 (lN r0) (by kernel_rfl) (by kernel_rfl) c1 hO ?_
  intro lo2 H hO
  refine bR 4 ?_
  obtain ⟨c4, h0⟩ := bE h0
  refine rD (e := aI) ([] : List aG) r0 0 lo2 3 32 (eL aI r0) (fun lo3 => [(lo3, 3, List.map aI (([] : List aG) ++ r0))]) (by kernel_rfl) (by kernel_rfl) hO (by kernel_rfl) (JH (fun _ => by kernel_rfl)) c4 (fun _ => by kernel_rfl) ?_
  intro lo3 H hO
  refine bC ?_
  refine bH [(2, (.msl 3 lo3 0 (List.length (([] : List aG) ++ r0))))] ?_
  refine bK ?_
  refine cN [(2, (.msl 3 lo3 0 (List.length (([] : List aG) ++ r0))))] ?_
  refine tE (en := aI) (([] : List aG) ++ r0) 0 0 2 3 lo3 (List.length (([] : List aG) ++ r0)) hO (by kernel_rfl) (by kernel_rfl) (by kernel_rfl) (L' := []) (by kernel_rfl) ?_
  intro H5 hO
  obtain rfl := oI h0
  exact aJ (Q_r hO)

theorem EC {σ : Type} (I : σ → Gs → Prop) (yield0_b : Nat) (eZ : σ → (List aG) → (List aA) → Option (σ × Bool)) (yield0_h : ∀ st a0 a1 st2 r, eZ st a0 a1 = some (st2, r) → OB Tryz.prog (yv yield0_b) I st [(eL aI a0), (eL aE a1)] st2 (aK r)) (t1 : (List aC)) (sg0 : σ) (r : σ) (h0 : nJ eZ t1 sg0 = some r) : GI Tryz.prog 75 I sg0 [(yv yield0_b), (.rp (eL aD t1))] r (.tup []) := by
  intro H0 G0 hI hg
  refine cF Tryz.func75 ?_
  obtain ⟨G, hO, hI⟩ : ∃ G, aN ⟨H0, List.map (fun p : Nat × dK => p.1) G0, G⟩ H0 [] ∧ I sg0 G := ⟨G0, aN.SV hg, hI⟩
  clear hg
  unfold nJ at h0
  refine aY aF 1 [] [(3, (eI (0 : Int)))] ?_
  refine bO 0 ?_
  refine cL [(0, (yv yield0_b)), (1, (.rp (eL aD t1))), (3, (eI (0 : Int)))] ?_
  refine cC (fun T H => ∃ sg : σ, ∃ i3 : Int, ∃ G : Gs, Has T [(0, (yv yield0_b)), (1, (.rp (eL aD t1))), (3, (eI i3))] ∧ aN ⟨H0, List.map (fun p : Nat × dK => p.1) G0, G⟩ H [] ∧ I sg G ∧ vB eZ sg t1 i3 = some r) ?_ ⟨sg0, (0 : Int), G, .eq (by kernel_rfl), hO, hI, h0⟩
  clear hO hI h0
  rintro T H ⟨sg, i3, G, hT, hO, hI, h0⟩
  refine bA hT ?_
  clear hT
  unfold vB at h0
  obtain ⟨rr0, hl0, h0⟩ := aW h0
  refine bX (by kernel_rfl) (fun (s : σ × Int) T H => ∃ G : Gs, Has T [(0, (yv yield0_b)), (1, (.rp (eL aD t1))), (3, (eI s.2))] ∧ aN ⟨H0, List.map (fun p : Nat × dK => p.1) G0, G⟩ H [] ∧ I s.1 G) hl0 ⟨G, .eq (by kernel_rfl), hO, hI⟩ ?_
  clear hO hI
  rintro k0 s out1 T H ⟨G, hT, hO, hI⟩ h1 ho0
  obtain ⟨sg, i3⟩ := s
  replace h1 : gL eZ t1 sg i3 = some out1 := h1
  try dsimp only at hT
  refine bA hT ?_
  clear hT
  unfold gL at h1
  refine aO ?_
  refine aY aF 4 [] [(9, (aK (decide (i3 < (lN t1)))))] ?_
  refine bJ h1 (fun h1 => ?_) (fun h1 => ?_)
  · refine bL ?_
    refine bH [(0, (yv yield0_b)), (1, (.rp (eL aD t1))), (3, (eI i3))] ?_
    refine bO 1 ?_
    refine aO ?_
    refine aU aF 6 ?_
    obtain ⟨c2, h1⟩ := bE h1
    refine oN [0 ≤ i3 ∧ i3 < (lN t1)] ⟨c2, trivial⟩ ?_
    refine bT [] [(4, (eL aI ((gD t1 i3).Row)))] ?_
    refine aO ?_
    refine aU aF 2 ?_
    refine iM (xs := []) (k := 2) (by kernel_rfl) (by kernel_rfl) ?_
    refine bC ?_
    refine bT [] [(5, (.sl true 0 (fun _ => .bad)))] ?_
    refine cH (fun T H => ∃ sg : σ, ∃ i3 : Int, ∃ r4 : (List aG), ∃ f5 : List aA, ∃ lo3 : Nat, ∃ G : Gs, Has T [(0, (yv yield0_b)), (1, (.rp (eL aD t1))), (3, (eI i3)), (4, (eL aI r4)), (5, (.msl 2 lo3 0 (List.length f5)))] ∧ aN ⟨H0, List.map (fun p : Nat × dK => p.1) G0, G⟩ H [(lo3, 2, List.map aE f5)] ∧ I sg G ∧ rN eZ sg t1 i3 r4 f5 = some out1) ?_ ?_
    · clear hO hI h1
      rintro T H ⟨sg, i3, r4, f5, lo3, G, hT, hO, hI, h1⟩
      refine bA hT ?_
      clear hT
      unfold rN at h1
      refine aO ?_
      refine aU aF 6 ?_
      refine xZ (e := aE) f5 0 5 2 lo3 (List.length f5) [] (by kernel_rfl) hO (by kernel_rfl) (by kernel_rfl) (by kernel_rfl) (by kernel_rfl) ?_
      intro H hO
      refine bR 2 ?_
      obtain ⟨x7, hx8, h1⟩ := aW h1
      refine cA (KY r4 _ hx8) hO ?_
      intro H hO
      refine bR 4 ?_
      obtain ⟨x10, hx11, h1⟩ := aW h1
      refine aA1 (I := I) (yv yield0_b) [(eL aI x7), (eL aE f5)] (aK x10.2) (by kernel_rfl) (by kernel_rfl) (yield0_h _ x7 f5 x10.1 x10.2 hx11) hO hI ?_
      intro G H hO hI
      refine bC ?_
      refine bT [4, 5] [(50, (aK (!x10.2)))] ?_
      refine bJ h1 (fun h1 => ?_) (fun h1 => ?_)
      · refine bK ?_
        obtain rfl := oI h1
        obtain rfl : _ = rr0 := ho0
        replace h0 : some x10.1 = some r := h0
        obtain rfl := oI h0
        exact aJ (bN (aQ (bN (rV (x := (.tup [])) (by kernel_rfl) (aZ.refl _) ⟨rfl, G, hI, hO.NP⟩))))
      refine bL ?_
      exact aJ (aV (aH (⟨rfl, _, (oI h1).symm, _, .eq (by kernel_rfl), hO, hI⟩)))
    refine bO 2 ?_
    refine cL [(0, (yv yield0_b)), (1, (.rp (eL aD t1))), (3, (eI i3)), (4, (eL aI ((gD t1 i3).Row))), (5, (.sl true 0 (fun _ => .bad)))] ?_
    refine uM (el := (fun _ => .bad)) 4 5 2 hO (by kernel_rfl) ?_
    intro lo24 H25 hO
    refine cC (fun T H => ∃ sg : σ, ∃ i3 : Int, ∃ r4 : (List aG), ∃ f5 : List aA, ∃ lo14 : Nat, ∃ G : Gs, Has T [(0, (yv yield0_b)), (1, (.rp (eL aD t1))), (3, (eI i3)), (4, (eL aI r4)), (5, (.msl 2 lo14 0 (List.length f5)))] ∧ aN ⟨H0, List.map (fun p : Nat × dK => p.1) G0, G⟩ H [(lo14, 2, List.map aE f5)] ∧ I sg G ∧ vK eZ sg t1 i3 r4 f5 = some out1) ?_ ⟨sg, i3, (gD t1 i3).Row, ([] : List aA), lo24, G, .eq (by kernel_rfl), hO, hI, h1⟩
    clear hO hI h1
    rintro T H ⟨sg, i3, r4, f5, lo14, G, hT, hO, hI, h1⟩
    refine bA hT ?_
    clear hT
    unfold vK at h1
    obtain ⟨rr1, hl1, h1⟩ := aW h1
    refine bX (by kernel_rfl) (fun (s : σ × Int × List aA) T H => ∃ lo14 : Nat, ∃ G : Gs, Has T [(0, (yv yield0_b)), (1, (.rp (eL aD t1))), (3, (eI s.2.1)), (4, (eL aI r4)), (5, (.msl 2 lo14 0 (List.length s.2.2)))] ∧ aN ⟨H0, List.map (fun p : Nat × dK => p.1) G0, G⟩ H [(lo14, 2, List.map aE s.2.2)] ∧ I s.1 G) hl1 ⟨lo14, G, .eq (by kernel_rfl), hO, hI⟩ ?_
    clear hO hI
    rintro k1 s out2 T H ⟨lo14, G, hT, hO, hI⟩ h2 ho1
    obtain ⟨sg, i3, f5⟩ := s
    replace h2 : jG eZ t1 r4 sg i3 f5 = some out2 := h2
    try dsimp only at hT
    refine bA hT ?_
    clear hT
    unfold jG at h2
    refine aO ?_
    refine aO ?_
    refine aU aF 13 ?_
    obtain ⟨c15, h2⟩ := bE h2
    refine jT 11 [(((decide (i3 < (lN t1)))) = true → 0 ≤ i3 ∧ i3 < (lN t1))] ⟨c15, trivial⟩ ?_
    obtain ⟨x16, hx17, h2⟩ := aW h2
    refine fU [(20, true)] 42 [(eL aI ((gD t1 i3).Row)), (eL aI r4)] (aK x16) (decide (i3 < (lN t1))) (by kernel_rfl) (by kernel_rfl) (by kernel_rfl) (fun hb18 => (RL ((gD t1 i3).Row) r4 _ (fP hx17 hb18))) hO ?_
    intro H hO
    refine bC ?_
    refine bT [] [(28, (aK ((decide (i3 < (lN t1))) && x16)))] ?_
    refine bJ h2 (fun h2 => ?_) (fun h2 => ?_)
    · refine bL ?_
      refine bH [(0, (yv yield0_b)), (1, (.rp (eL aD t1))), (3, (eI i3)), (4, (eL aI r4)), (5, (.msl 2 lo14 0 (List.length f5)))] ?_
      refine aO ?_
      refine bO 3 ?_
      refine eS (eV [32, 36, 37, 41, 43]) aF 15 ?_
      obtain ⟨c20, h2⟩ := bE h2
      obtain ⟨c21, h2⟩ := bE h2
      refine dA 12 [0 ≤ i3 ∧ i3 < (lN t1), 0 ≤ i3 ∧ i3 < (lN t1)] ⟨c20, c21, trivial⟩ ?_
      refine BK (xs := [(aE (aA.mk ((gD t1 i3).At) ((gD t1 i3).Net)))]) (k := 2) (by kernel_rfl) (by kernel_rfl) ?_
      obtain ⟨c23, h2⟩ := bE h2
      refine zQ (e := aE) f5 ([aA.mk ((gD t1 i3).At) ((gD t1 i3).Net)]) 0 lo14 2 16 (cZ [(aE (aA.mk ((gD t1 i3).At) ((gD t1 i3).Net)))]) (fun lo22 => [(lo22, 2, List.map aE (f5 ++ ([aA.mk ((gD t1 i3).At) ((gD t1 i3).Net)])))]) (by kernel_rfl) (by kernel_rfl) hO (by kernel_rfl) (by kernel_rfl) c23 (fun _ => by kernel_rfl) ?_
      intro lo22 H hO
      refine iJ ?_
      refine cN [(0, (yv yield0_b)), (1, (.rp (eL aD t1))), (3, (eI i3)), (4, (eL aI r4)), (5, (.msl 2 lo22 0 (List.length (f5 ++ ([aA.mk ((gD t1 i3).At) ((gD t1 i3).Net)])))))] ?_
      refine aJ (aV (aH (?_)))
      refine aU aF 3 ?_
      refine bC ?_
      exact aJ (aH (⟨rfl, _, (oI h2).symm, _, _, .eq (by kernel_rfl), hO, hI⟩))
    refine cV 2 ?_
    obtain rfl := oI h2
    obtain rfl : _ = rr1 := ho1
    replace h1 : rN eZ sg t1 i3 r4 f5 = some out1 := h1
    exact aJ (aS (aS (bM (aH (⟨rfl, _, _, _, _, _, _, .eq (by kernel_rfl), hO, hI, h1⟩)))))
  refine cV 0 ?_
  obtain rfl := oI h1
  obtain rfl : _ = rr0 := ho0
  replace h0 : some sg = some r := h0
  obtain rfl := oI h0
  exact aJ (aS (aS (bM (tQ (x := (.tup [])) (by kernel_rfl) (aZ.refl _) ⟨rfl, G, hI, hO.NP⟩))))

theorem aBV (lo0p : Nat) (l0 : (List aC)) (r1 : (List aG)) (f2 : (List aA)) (r : (List aC)) (h0 : DT l0 r1 f2 = some r) : IE Tryz.prog 85 lo0p 3 (List.map aD l0) [(.msl 3 lo0p 0 (List.length l0)), (eL aI r1), (eL aE f2)] (fun lo => .msl 3 lo 0 (List.length r)) (List.map aD r) := by
  intro H0 hl0
  refine cF Tryz.func85 ?_
  have hO := aN.rO hl0
  clear hl0
  unfold DT at h0
  refine aY aF 1 [] [] ?_
  refine cH (fun T H => ∃ l0 : List aC, ∃ lo1 : Nat, Has T [(0, (.msl 3 lo1 0 (List.length l0)))] ∧ aN ⟨H0, [lo0p], []⟩ H [(lo1, 3, List.map aD l0)] ∧ ES l0 = some r) ?_ ?_
  · clear hO h0
    rintro T H ⟨l0, lo1, hT, hO, h0⟩
    refine bA hT ?_
    clear hT
    unfold ES at h0
    refine bV aF 2 [(6, (.msl 3 lo1 0 (List.length l0)))] ?_
    refine bK ?_
    obtain rfl := oI h0
    exact aJ (rV (x := (.msl 3 lo1 0 (List.length l0))) (by kernel_rfl) (aZ.refl _) ⟨lo1, rfl, hO⟩)
  refine aY aF 3 [2] [(9, (eL aE f2)), (10, (eI (lN f2))), (11, (eI (0 : Int)))] ?_
  refine bO 0 ?_
  refine cL [(0, (.msl 3 lo0p 0 (List.length l0))), (1, (eL aI r1)), (9, (eL aE f2)), (10, (eI (lN f2))), (11, (eI (0 : Int)))] ?_
  refine cC (fun T H => ∃ l0 : List aC, ∃ t9 : (List aA), ∃ t10 : Int, ∃ t11 : Int, ∃ lo3 : Nat, Has T [(0, (.msl 3 lo3 0 (List.length l0))), (1, (eL aI r1)), (9, (eL aE t9)), (10, (eI t10)), (11, (eI t11))] ∧ aN ⟨H0, [lo0p], []⟩ H [(lo3, 3, List.map aD l0)] ∧ ER l0 r1 t9 t10 t11 = some r) ?_ ⟨l0, f2, (lN f2), (0 : Int), lo0p, .eq (by kernel_rfl), hO, h0⟩
  clear hO h0
  rintro T H ⟨l0, t9, t10, t11, lo3, hT, hO, h0⟩
  refine bA hT ?_
  clear hT
  unfold ER at h0
  obtain ⟨rr0, hl0, h0⟩ := aW h0
  refine bX (by kernel_rfl) (fun (s : List aC × Int) T H => ∃ lo3 : Nat, Has T [(0, (.msl 3 lo3 0 (List.length s.1))), (1, (eL aI r1)), (9, (eL aE t9)), (10, (eI t10)), (11, (eI s.2))] ∧ aN ⟨H0, [lo0p], []⟩ H [(lo3, 3, List.map aD s.1)]) hl0 ⟨lo3, .eq (by kernel_rfl), hO⟩ ?_
  clear hO
  rintro k0 s out1 T H ⟨lo3, hT, hO⟩ h1 ho0
  obtain ⟨l0, t11⟩ := s
  replace h1 : qU r1 t9 t10 l0 t11 = some out1 := h1
  try dsimp only at hT
  refine bA hT ?_
  clear hT
  unfold qU at h1
  refine aY aF 1 [] [(12, (aK (decide (t11 < t10))))] ?_
  refine aO ?_
  refine bJ h1 (fun h1 => ?_) (fun h1 => ?_)
  · refine bL ?_
    refine bH [(0, (.msl 3 lo3 0 (List.length l0))), (1, (eL aI r1)), (9, (eL aE t9)), (10, (eI t10)), (11, (eI t11))] ?_
    refine aO ?_
    refine bO 1 ?_
    refine aO ?_
    refine aU aF 4 ?_
    obtain ⟨c5, h1⟩ := bE h1
    refine jT 2 [0 ≤ t11 ∧ t11 < (lN t9)] ⟨c5, trivial⟩ ?_
    refine nL 2 (aE (aA.mk 0 0)) (by kernel_rfl) (by kernel_rfl) hO ?_
    intro lo6 H hO
    refine kB 1 lo6 2 0 (aE (aA.mk 0 0)) (aE (gD t9 t11)) [(aE (aA.mk 0 0))] [(lo3, 3, List.map aD l0), (lo6, 2, [(aE (gD t9 t11))])] hO rfl (by kernel_rfl) ?_
    intro H hO
    refine cW ?_
    refine bT [] [(8, (.lp lo6 0 0))] ?_
    refine cL [(0, (.msl 3 lo3 0 (List.length l0))), (1, (eL aI r1)), (8, (.lp lo6 0 0)), (9, (eL aE t9)), (10, (eI t10)), (11, (eI t11))] ?_
    refine VB 2 1 8 2 lo6 (aE (gD t9 t11)) [(lo3, 3, List.map aD l0)] hO (by kernel_rfl) (by kernel_rfl) (by kernel_rfl) ?_
    intro H hO
    refine eS (eV [19, 21, 23]) aF 11 ?_
    refine qH 2 ?_
    obtain ⟨x7, hx8, h1⟩ := aW h1
    refine yA (KY r1 _ hx8) hO ?_
    intro H hO
    refine qH 8 ?_
    refine BK (xs := [(aD (aC.mk x7 ((gD t9 t11).At) ((gD t9 t11).Net)))]) (k := 3) (by kernel_rfl) (by kernel_rfl) ?_
    obtain ⟨c11, h1⟩ := bE h1
    refine zQ (e := aD) l0 ([aC.mk x7 ((gD t9 t11).At) ((gD t9 t11).Net)]) 0 lo3 3 40 (cZ [(aD (aC.mk x7 ((gD t9 t11).At) ((gD t9 t11).Net)))]) (fun lo10 => [(lo10, 3, List.map aD (l0 ++ ([aC.mk x7 ((gD t9 t11).At) ((gD t9 t11).Net)])))]) (by kernel_rfl) (by kernel_rfl) hO (by kernel_rfl) (by kernel_rfl) c11 (fun _ => by kernel_rfl) ?_
    intro lo10 H hO
    refine iJ ?_
    refine cN [(0, (.msl 3 lo10 0 (List.length (l0 ++ ([aC.mk x7 ((gD t9 t11).At) ((gD t9 t11).Net)]))))), (1, (eL aI r1)), (9, (eL aE t9)), (10, (eI t10)), (11, (eI t11))] ?_
    refine aJ (aV (aH (?_)))
    refine aU aF 2 ?_
    refine bC ?_
    exact aJ (aH (⟨rfl, _, (oI h1).symm, _, .eq (by kernel_rfl), hO⟩))
  refine cV 0 ?_
  obtain rfl := oI h1
  obtain rfl : _ = rr0 := ho0
  replace h0 : ES l0 = some r := h0
  exact aJ (aS (aS (bM (aH (⟨rfl, _, _, .eq (by kernel_rfl), hO, h0⟩)))))

theorem WC (l0 : (List aC)) (by1_f : Nat) (by1_a by1_c : List V) (by1 : (List aA) → Option ((List aA) × Int)) (by1_h : ∀ a0 r, by1 a0 = some r → bY Tryz.prog by1_f (by1_a ++ [(eL aE a0)] ++ by1_c) (.tup [(eL aE r.1), (eI r.2)])) (r : ((List aC) × Int)) (h0 : wD l0 by1 = some r) : bY Tryz.prog 63 [(eL aD l0), (.fn (.func by1_f) by1_a by1_c)] (.tup [(eL aD r.1), (eI r.2)]) := by
  intro H0
  refine JM aF Tryz.func63 (by kernel_rfl) (by kernel_rfl) (by kernel_rfl) ?_
  have hO := aN.start H0
  unfold wD at h0
  refine aO ?_
  refine aU aF 3 ?_
  refine fQ 1 (.fn (.func by1_f) by1_a by1_c) (by kernel_rfl) (by kernel_rfl) ?_
  refine vG 1 (.sl true 0 (fun _ => .bad)) (eL aD ([])) (by kernel_rfl) (by kernel_rfl) (by kernel_rfl) (dG) (by kernel_rfl) (by kernel_rfl) hO ?_
  intro lo1 H hO
  refine nL 1 (eI 0) (by kernel_rfl) (by kernel_rfl) hO ?_
  intro lo2 H hO
  refine cW ?_
  refine bT [1] [(3, (.rp (.fn (.func by1_f) by1_a by1_c))), (4, (.lp lo1 0 0)), (5, (.lp lo2 0 0))] ?_
  refine aO ?_
  refine aU aF 3 ?_
  refine iM (xs := []) (k := 3) (by kernel_rfl) (by kernel_rfl) ?_
  refine vG 1 (.sl true 0 (fun _ => .bad)) (eL aD ([])) (by kernel_rfl) (by kernel_rfl) (by kernel_rfl) (dG) (by kernel_rfl) (by kernel_rfl) hO ?_
  intro lo3 H hO
  refine aEL 11 3 (fun _ => .bad) (by kernel_rfl) hO (by kernel_rfl) ?_
  intro lo4 H hO
  refine kB 2 lo3 1 0 (eL aD ([])) (.msl 3 lo4 0 (List.length ([] : List aC))) [(eL aD ([]))] [(lo1, 1, [(eL aD ([]))]), (lo2, 1, [(eI 0)]), (lo3, 1, [(.msl 3 lo4 0 (List.length ([] : List aC)))]), (lo4, 3, List.map aD ([] : List aC))] hO rfl (by kernel_rfl) ?_
  intro H hO
  refine cW ?_
  refine bT [] [(6, (.lp lo3 0 0))] ?_
  refine aO ?_
  refine aO ?_
  refine aU aF 2 ?_
  refine bR 1 ?_
  obtain ⟨x5, hx6, h0⟩ := aW h0
  refine cA (IW l0 _ hx6) hO ?_
  intro H hO
  refine cW ?_
  refine bT [0] [(13, (.fn (.func 75) [] [(.rp (eL aD x5))]))] ?_
  refine bO 0 ?_
  refine cL [(3, (.rp (.fn (.func by1_f) by1_a by1_c))), (4, (.lp lo1 0 0)), (5, (.lp lo2 0 0)), (6, (.lp lo3 0 0)), (13, (.fn (.func 75) [] [(.rp (eL aD x5))]))] ?_
  refine cC (fun T H => ∃ t4 : (List aC), ∃ t5 : Int, ∃ out6 : List aC, ∃ lJ : (List aC), ∃ lo7 : Nat, Has T [(3, (.rp (.fn (.func by1_f) by1_a by1_c))), (4, (.lp lo1 0 0)), (5, (.lp lo2 0 0)), (6, (.lp lo3 0 0)), (13, (.fn (.func 75) [] [(.rp (eL aD lJ))]))] ∧ aN ⟨H0, [], []⟩ H [(lo1, 1, [(eL aD t4)]), (lo2, 1, [(eI t5)]), (lo3, 1, [(.msl 3 lo7 0 (List.length out6))]), (lo7, 3, List.map aD out6)] ∧ zJ by1 t4 t5 out6 lJ = some r) ?_ ⟨[], 0, ([] : List aC), x5, lo4, .eq (by kernel_rfl), hO, h0⟩
  clear hO h0
  rintro T H ⟨t4, t5, out6, lJ, lo7, hT, hO, h0⟩
  refine bA (l := [(3, (.rp (.fn (.func by1_f) by1_a by1_c))), (4, (.lp lo1 0 0)), (5, (.lp lo2 0 0)), (6, (.lp lo3 0 0)), (13, (.fn (.func 75) [] [(.rp (eL aD lJ))]))]) hT ?_
  clear hT
  unfold zJ at h0
  obtain ⟨o0, hl0, h0⟩ := aW h0
  refine HR (fid := 75) (ys := []) (cs := [(.rp (eL aD lJ))]) #[14, 15] (fun (A : ET) (b lL : Nat) (st : ((List aC) × Int × List aC) ⊕ ((List aC) × Int × List aC)) (G' : Gs) => Sum.elim (fun (s : (List aC) × Int × List aC) => ∃ lo7 : Nat, G' = (lL, .raw (kM b A .ready none)) :: (up [(lo1, 1, [(eL aD s.1)]), (lo2, 1, [(eI s.2.1)]), (lo3, 1, [(.msl 3 lo7 0 (List.length s.2.2))]), (lo7, 3, List.map aD s.2.2)] ++ [])) (fun (s : (List aC) × Int × List aC) => ∃ lo7 : Nat, G' = (lL, .raw (kM b A .done (some .ret))) :: (up [(lo1, 1, [(eL aD s.1)]), (lo2, 1, [(eI s.2.1)]), (lo3, 1, [(.msl 3 lo7 0 (List.length s.2.2))]), (lo7, 3, List.map aD s.2.2)] ++ [])) st) (.inl (t4, t5, out6)) o0 (.tup []) (by kernel_rfl) (by kernel_rfl) (by kernel_rfl) hO (fun _ _ => ⟨lo7, rfl⟩) ?_ ?_
  · intro b lL
    clear hO h0
    refine EC _ b (fun st t14 t15 => rnd (fun (s : (List aC) × Int × List aC) => oU by1 lJ s.1 s.2.1 s.2.2 t14 t15) st) ?_ lJ _ _ hl0
    intro st t14 t15 out1 rr hr
    obtain ⟨s, rfl, h1, rfl⟩ := XW hr
    clear hr
    intro Hr Gr hi hg
    obtain ⟨t4, t5, out6⟩ := s
    dsimp only [Sum.elim_inl] at hi
    obtain ⟨lo7, rfl⟩ := hi
    replace h1 : oU by1 lJ t4 t5 out6 t14 t15 = some out1 := h1
    unfold oU at h1
    obtain ⟨E1, hE, hO⟩ := AG hg
    refine AJ (HH (hO.gm 0 _ rfl).2 (by kernel_rfl) (by kernel_rfl) ?_)
    refine cL [(3, (.rp (.fn (.func by1_f) by1_a by1_c))), (4, (.lp lo1 0 0)), (5, (.lp lo2 0 0)), (6, (.lp lo3 0 0)), (13, (.fn (.func 75) [] [(.rp (eL aD lJ))])), (14, (eL aI t14)), (15, (eL aE t15))] ?_
    refine aY aF 1 [13, 14] [(7, (eL aI t14))] ?_
    refine aU aF 1 ?_
    refine bC ?_
    refine cN [(3, (.rp (.fn (.func by1_f) by1_a by1_c))), (4, (.lp lo1 0 0)), (5, (.lp lo2 0 0)), (6, (.lp lo3 0 0)), (7, (eL aI t14)), (8, (eL aE t15))] ?_
    refine aJ (⟨rfl, rfl, (hO.gm 0 _ rfl).2, ?_⟩)
    intro o1 ho1
    replace hO := hO.zS o1
    refine bO 1 ?_
    refine aO ?_
    refine aU aF 8 ?_
    refine bR 2 ?_
    obtain ⟨x8, hx9, h1⟩ := aW h1
    refine cA (by1_h t15 _ hx9) hO ?_
    intro H hO
    refine bC ?_
    refine bT [3, 8] [(9, (eL aE x8.1)), (10, (eI x8.2))] ?_
    refine aO ?_
    refine aY aF 2 [] [(23, (aK (!decide (x8.2 = (0 : Int)))))] ?_
    refine bJ h1 (fun h1 => ?_) (fun h1 => ?_)
    · refine aO ?_
      refine aU aF 3 ?_
      refine bR 1 ?_
      refine kB 0 lo1 1 0 (eL aD t4) (.sl true 0 (fun _ => .bad)) [(eL aD t4)] [(lo1, 1, [(.sl true 0 (fun _ => .bad))]), (lo2, 1, [(eI t5)]), (lo3, 1, [(.msl 3 lo7 0 (List.length out6))]), (lo7, 3, List.map aD out6)] hO rfl (by kernel_rfl) ?_
      intro H hO
      refine kB 1 lo2 1 0 (eI t5) (eI x8.2) [(eI t5)] [(lo1, 1, [(.sl true 0 (fun _ => .bad))]), (lo2, 1, [(eI x8.2)]), (lo3, 1, [(.msl 3 lo7 0 (List.length out6))]), (lo7, 3, List.map aD out6)] hO rfl (by kernel_rfl) ?_
      intro H hO
      refine cW ?_
      refine QC 0 lo1 1 (.sl true 0 (fun _ => .bad)) (eL aD ([])) [(lo1, 1, [(eL aD ([]))]), (lo2, 1, [(eI x8.2)]), (lo3, 1, [(.msl 3 lo7 0 (List.length out6))]), (lo7, 3, List.map aD out6)] hO (by kernel_rfl) (by kernel_rfl) dG (by kernel_rfl) ?_
      intro H hO
      refine bH [(4, (.lp lo1 0 0)), (5, (.lp lo2 0 0)), (6, (.lp lo3 0 0))] ?_
      refine bK ?_
      refine cN [(4, (.lp lo1 0 0)), (5, (.lp lo2 0 0)), (6, (.lp lo3 0 0))] ?_
      obtain rfl := oI h1
      exact aJ (aQ (bN (⟨(gS hO hE ho1 .dead).1, rfl, _, ⟨lo7, rfl⟩, (gS hO hE ho1 _).2⟩)))
    refine bL ?_
    refine bH [(4, (.lp lo1 0 0)), (5, (.lp lo2 0 0)), (6, (.lp lo3 0 0)), (7, (eL aI t14)), (9, (eL aE x8.1))] ?_
    refine aO ?_
    refine aU aF 5 ?_
    refine kQ 2 lo3 1 0 (.msl 3 lo7 0 (List.length out6)) (.msl 3 lo7 0 (List.length out6)) [(.msl 3 lo7 0 (List.length out6))] hO rfl ?_
    refine bR 3 ?_
    obtain ⟨x12, hx13, h1⟩ := aW h1
    refine aAS (L' := fun lo14 => [(lo1, 1, [(eL aD t4)]), (lo2, 1, [(eI t5)]), (lo3, 1, [(.msl 3 lo7 0 (List.length out6))]), (lo14, 3, List.map aD x12)]) 3 lo7 3 (List.map aD out6) (List.map aD x12) 85 [(.msl 3 lo7 0 (List.length out6)), (eL aI t14), (eL aE x8.1)] (fun lo14 => (.msl 3 lo14 0 (List.length x12))) (by kernel_rfl) (by kernel_rfl) (aBV lo7 out6 t14 x8.1 _ hx13) hO (by kernel_rfl) (fun _ => by kernel_rfl) ?_
    intro lo14 H hO
    refine kB 2 lo3 1 0 (.msl 3 lo7 0 (List.length out6)) (.msl 3 lo14 0 (List.length x12)) [(.msl 3 lo7 0 (List.length out6))] [(lo1, 1, [(eL aD t4)]), (lo2, 1, [(eI t5)]), (lo3, 1, [(.msl 3 lo14 0 (List.length x12))]), (lo14, 3, List.map aD x12)] hO rfl (by kernel_rfl) ?_
    intro H hO
    refine cW ?_
    refine bT [7, 9] [] ?_
    refine aO ?_
    refine aU aF 3 ?_
    refine kQ 2 lo3 1 0 (.msl 3 lo14 0 (List.length x12)) (.msl 3 lo14 0 (List.length x12)) [(.msl 3 lo14 0 (List.length x12))] hO rfl ?_
    refine bC ?_
    refine bT [] [(31, (aK (decide ((4096 : Int) < (lN x12)))))] ?_
    refine bJ h1 (fun h1 => ?_) (fun h1 => ?_)
    · refine aO ?_
      refine aU aF 2 ?_
      refine kB 0 lo1 1 0 (eL aD t4) (.sl true 0 (fun _ => .bad)) [(eL aD t4)] [(lo1, 1, [(.sl true 0 (fun _ => .bad))]), (lo2, 1, [(eI t5)]), (lo3, 1, [(.msl 3 lo14 0 (List.length x12))]), (lo14, 3, List.map aD x12)] hO rfl (by kernel_rfl) ?_
      intro H hO
      refine kB 1 lo2 1 0 (eI t5) (eI (7 : Int)) [(eI t5)] [(lo1, 1, [(.sl true 0 (fun _ => .bad))]), (lo2, 1, [(eI (7 : Int))]), (lo3, 1, [(.msl 3 lo14 0 (List.length x12))]), (lo14, 3, List.map aD x12)] hO rfl (by kernel_rfl) ?_
      intro H hO
      refine cW ?_
      refine QC 0 lo1 1 (.sl true 0 (fun _ => .bad)) (eL aD ([])) [(lo1, 1, [(eL aD ([]))]), (lo2, 1, [(eI (7 : Int))]), (lo3, 1, [(.msl 3 lo14 0 (List.length x12))]), (lo14, 3, List.map aD x12)] hO (by kernel_rfl) (by kernel_rfl) dG (by kernel_rfl) ?_
      intro H hO
      refine bH [(4, (.lp lo1 0 0)), (5, (.lp lo2 0 0)), (6, (.lp lo3 0 0))] ?_
      refine bK ?_
      refine cN [(4, (.lp lo1 0 0)), (5, (.lp lo2 0 0)), (6, (.lp lo3 0 0))] ?_
      obtain rfl := oI h1
      exact aJ (bN (⟨(gS hO hE ho1 .dead).1, rfl, _, ⟨lo14, rfl⟩, (gS hO hE ho1 _).2⟩))
    refine bL ?_
    refine cN [(4, (.lp lo1 0 0)), (5, (.lp lo2 0 0)), (6, (.lp lo3 0 0))] ?_
    obtain rfl := oI h1
    exact aJ (aV (⟨(gS hO hE ho1 .dead).1, rfl, _, ⟨lo14, rfl⟩, (gS hO hE ho1 _).2⟩))
  · intro b lD16 lL H' G' hi hO
    rcases o0 with s | s
    · dsimp only [Sum.elim_inl] at hi
      obtain ⟨lo7, rfl⟩ := hi
      replace h0 : (some (s.2.2, (0 : Int))) = some r := h0
      obtain ⟨hlL, hO⟩ := sW hO
      refine ⟨_, _, hlL, (by intro e; cases e), ?_⟩
      refine cN [(4, (.lp lo1 0 0)), (5, (.lp lo2 0 0)), (6, (.lp lo3 0 0))] ?_
      refine aJ (aV (aH (?_)))
      refine aO ?_
      refine aBJ (e := aD) s.2.2 2 3 1 3 lo3 lo7 (List.length s.2.2) [(lo1, 1, [(eL aD s.1)]), (lo2, 1, [(eI s.2.1)]), (lo3, 1, [(eL aD s.2.2)])] hO (by kernel_rfl) (by kernel_rfl) (by kernel_rfl) (.inr (by decide)) (by kernel_rfl) ?_
      intro H hO
      refine aU aF 3 ?_
      refine kQ 2 lo3 1 0 (eL aD s.2.2) (eL aD s.2.2) [(eL aD s.2.2)] hO rfl ?_
      refine kB 0 lo1 1 0 (eL aD s.1) (eL aD s.2.2) [(eL aD s.1)] [(lo1, 1, [(eL aD s.2.2)]), (lo2, 1, [(eI s.2.1)]), (lo3, 1, [(eL aD s.2.2)])] hO rfl (by kernel_rfl) ?_
      intro H hO
      refine kB 1 lo2 1 0 (eI s.2.1) (eI (0 : Int)) [(eI s.2.1)] [(lo1, 1, [(eL aD s.2.2)]), (lo2, 1, [(eI (0 : Int))]), (lo3, 1, [(eL aD s.2.2)])] hO rfl (by kernel_rfl) ?_
      intro H hO
      refine cW ?_
      replace hO := hO.pick (L' := [(lo1, 1, [(eL aD s.2.2)]), (lo2, 1, [(eI (0 : Int))])]) [0, 1] (by decide) (by kernel_rfl)
      refine bT [6] [] ?_
      refine bK ?_
      obtain rfl := oI h0
      have hD := (hO.gm 0 _ rfl).2
      replace hO := (hO.zS .dead).zA
      exact aJ (QM1 (.inr rfl) hD (rs := [.cell 4 22, .cell 5 26]) (xs := [(eL aD s.2.2), (eI (0 : Int))]) (x := (.tup [(eL aD s.2.2), (eI (0 : Int))])) (by kernel_rfl) (CK (lo := lo1) (k := 1) (y := (eL aD s.2.2)) (x := (eL aD s.2.2)) 0 hO (by kernel_rfl) (by kernel_rfl) (by kernel_rfl) (by kernel_rfl) (CK (lo := lo2) (k := 1) (y := (eI (0 : Int))) (x := (eI (0 : Int))) 1 hO (by kernel_rfl) (by kernel_rfl) (by kernel_rfl) (by kernel_rfl) uC)) (by kernel_rfl) ⟨rfl, hO.out⟩)
    · dsimp only [Sum.elim_inr] at hi
      obtain ⟨lo7, rfl⟩ := hi
      replace h0 : (some (s.1, s.2.1)) = some r := h0
      obtain ⟨hlL, hO⟩ := sW hO
      refine ⟨_, _, hlL, (by intro e; cases e), ?_⟩
      refine bK ?_
      replace hO := hO.pick (L' := [(lo1, 1, [(eL aD s.1)]), (lo2, 1, [(eI s.2.1)])]) [0, 1] (by decide) (by kernel_rfl)
      obtain rfl := oI h0
      have hD := (hO.gm 0 _ rfl).2
      replace hO := (hO.zS .dead).zA
      exact aJ (bN (aQ (QM1 (.inr rfl) hD (rs := [.cell 4 22, .cell 5 26]) (xs := [(eL aD s.1), (eI s.2.1)]) (x := (.tup [(eL aD s.1), (eI s.2.1)])) (by kernel_rfl) (CK (lo := lo1) (k := 1) (y := (eL aD s.1)) (x := (eL aD s.1)) 0 hO (by kernel_rfl) (by kernel_rfl) (by kernel_rfl) (by kernel_rfl) (CK (lo := lo2) (k := 1) (y := (eI s.2.1)) (x := (eI s.2.1)) 1 hO (by kernel_rfl) (by kernel_rfl) (by kernel_rfl) (by kernel_rfl) uC)) (by kernel_rfl) ⟨rfl, hO.out⟩)))

theorem xO (s0 : (List aA)) (f1_f : Nat) (f1_a f1_c : List V) (f1 : aA → Option Bool) (f1_h : ∀ a0 r, f1 a0 = some r → bY Tryz.prog f1_f (f1_a ++ [(aE a0)] ++ f1_c) (aK r)) (r : Int) (h0 : gK s0 f1 = some r) : bY Tryz.prog 101 [(eL aE s0), (.fn (.func f1_f) f1_a f1_c)] (eI r) := by
  intro H0
  refine cF Tryz.func101 ?_
  have hO := aN.start H0
  unfold gK at h0
  refine aY aF 1 [] [] ?_
  refine cH (fun T H => Has T [] ∧ aN ⟨H0, [], []⟩ H [] ∧ eC f1  = some r) ?_ ?_
  · clear hO h0
    rintro T H ⟨hT, hO, h0⟩
    refine bA hT ?_
    clear hT
    unfold eC at h0
    refine bV aF 1 [(4, (eI (-1 : Int)))] ?_
    refine bK ?_
    obtain rfl := oI h0
    exact aJ (Q_r hO)
  refine aY aF 3 [] [(7, (eI (lN s0))), (8, (eI (0 : Int)))] ?_
  refine bO 0 ?_
  refine cL [(0, (eL aE s0)), (1, (.fn (.func f1_f) f1_a f1_c)), (7, (eI (lN s0))), (8, (eI (0 : Int)))] ?_
  refine cC (fun T H => ∃ t7 : Int, ∃ t8 : Int, Has T [(0, (eL aE s0)), (1, (.fn (.func f1_f) f1_a f1_c)), (7, (eI t7)), (8, (eI t8))] ∧ aN ⟨H0, [], []⟩ H [] ∧ fZ f1 s0 t7 t8 = some r) ?_ ⟨(lN s0), (0 : Int), .eq (by kernel_rfl), hO, h0⟩
  clear hO h0
  rintro T H ⟨t7, t8, hT, hO, h0⟩
  refine bA hT ?_
  clear hT
  unfold fZ at h0
  obtain ⟨rr0, hl0, h0⟩ := aW h0
  refine bX (by kernel_rfl) (fun (s : Int) T H => Has T [(0, (eL aE s0)), (1, (.fn (.func f1_f) f1_a f1_c)), (7, (eI t7)), (8, (eI s))] ∧ aN ⟨H0, [], []⟩ H []) hl0 ⟨.eq (by kernel_rfl), hO⟩ ?_
  clear hO
  rintro k0 s out1 T H ⟨hT, hO⟩ h1 ho0
  obtain ⟨t8, rfl⟩ : ∃ x, x = s := ⟨_, rfl⟩
  replace h1 : gG f1 s0 t7 t8 = some out1 := h1
  refine bA hT ?_
  clear hT
  unfold gG at h1
  refine aY aF 1 [] [(9, (aK (decide (t8 < t7))))] ?_
  refine aO ?_
  refine bJ h1 (fun h1 => ?_) (fun h1 => ?_)
  · refine bL ?_
    refine bH [(0, (eL aE s0)), (1, (.fn (.func f1_f) f1_a f1_c)), (7, (eI t7)), (8, (eI t8))] ?_
    refine aO ?_
    refine bO 1 ?_
    refine aY aF 2 [] [(5, (eI t8))] ?_
    refine aO ?_
    refine aU aF 6 ?_
    obtain ⟨c2, h1⟩ := bE h1
    refine jT 5 [0 ≤ t8 ∧ t8 < (lN s0)] ⟨c2, trivial⟩ ?_
    obtain ⟨x3, hx4, h1⟩ := aW h1
    refine cA (f1_h (gD s0 t8) _ hx4) hO ?_
    intro H hO
    refine cW ?_
    refine bT [] [(16, (aK x3))] ?_
    refine bJ h1 (fun h1 => ?_) (fun h1 => ?_)
    · refine bV aF 2 [(4, (eI t8))] ?_
      refine bK ?_
      obtain rfl := oI h1
      obtain rfl : _ = rr0 := ho0
      replace h0 : some t8 = some r := h0
      obtain rfl := oI h0
      exact aJ (bN (aQ (aQ (bN (aQ (Q_r hO))))))
    refine bL ?_
    refine cN [(0, (eL aE s0)), (1, (.fn (.func f1_f) f1_a f1_c)), (7, (eI t7)), (8, (eI t8))] ?_
    refine aJ (aV (aH (?_)))
    refine aU aF 2 ?_
    refine bC ?_
    exact aJ (aH (⟨rfl, _, (oI h1).symm, .eq (by kernel_rfl), hO⟩))
  refine cV 0 ?_
  obtain rfl := oI h1
  obtain rfl : _ = rr0 := ho0
  replace h0 : eC f1  = some r := h0
  exact aJ (aS (aS (bM (aH (⟨rfl, .eq (by kernel_rfl), hO, h0⟩)))))

theorem nZ (s0 : (List aA)) (f1_f : Nat) (f1_a f1_c : List V) (f1 : aA → Option Bool) (f1_h : ∀ a0 r, f1 a0 = some r → bY Tryz.prog f1_f (f1_a ++ [(aE a0)] ++ f1_c) (aK r)) (r : Bool) (h0 : dH s0 f1 = some r) : bY Tryz.prog 86 [(eL aE s0), (.fn (.func f1_f) f1_a f1_c)] (aK r) := by
  intro H0
  refine cF Tryz.func86 ?_
  have hO := aN.start H0
  unfold dH at h0
  refine aY aF 1 [] [] ?_
  refine aO ?_
  refine aU aF 5 ?_
  refine bR 2 ?_
  obtain ⟨x1, hx2, h0⟩ := aW h0
  refine cA (xO s0 f1_f f1_a f1_c f1 f1_h _ hx2) hO ?_
  intro H hO
  refine bC ?_
  refine bH [(4, (aK (decide ((0 : Int) ≤ x1))))] ?_
  refine bK ?_
  obtain rfl := oI h0
  exact aJ (Q_r hO)

theorem OR (n0 : Int) (r : Bool) (h0 : AP n0 = some r) : bY Tryz.prog 74 [(eI n0)] (aK r) := by
  intro H0
  refine cF Tryz.func74 ?_
  have hO := aN.start H0
  unfold AP at h0
  refine aY aF 1 [] [] ?_
  refine bV aF 7 [(2, (aK ((decide (n0 ≤ (1048576 : Int))) && (decide ((-1048576 : Int) ≤ n0)))))] ?_
  refine bK ?_
  obtain rfl := oI h0
  exact aJ (Q_r hO)

theorem WK (j0 : aA) (r : Bool) (h0 : wB j0 = some r) : bY Tryz.prog 87 [(aE j0)] (aK r) := by
  intro H0
  refine cF Tryz.func87 ?_
  have hO := aN.start H0
  unfold wB at h0
  refine aO ?_
  refine aU aF 2 ?_
  refine fQ 2 (aE j0) (by kernel_rfl) (by kernel_rfl) ?_
  refine bC ?_
  refine bH [(1, (.rp (aE j0)))] ?_
  refine aO ?_
  refine aU aF 5 ?_
  refine bR 2 ?_
  obtain ⟨x1, hx2, h0⟩ := aW h0
  refine cA (OR j0.Net _ hx2) hO ?_
  intro H hO
  refine bC ?_
  refine bH [(2, (aK (!x1)))] ?_
  refine bK ?_
  obtain rfl := oI h0
  exact aJ (Q_r hO)

theorem VZ (j0 : aA) (r : Bool) (h0 : wK j0 = some r) : bY Tryz.prog 88 [(aE j0)] (aK r) := by
  intro H0
  refine cF Tryz.func88 ?_
  have hO := aN.start H0
  unfold wK at h0
  refine aO ?_
  refine aU aF 2 ?_
  refine fQ 2 (aE j0) (by kernel_rfl) (by kernel_rfl) ?_
  refine bC ?_
  refine bH [(1, (.rp (aE j0)))] ?_
  refine bV aF 9 [(2, (aK ((decide (j0.At < (-1 : Int))) || (decide ((1125899906842624 : Int) < j0.At)))))] ?_
  refine bK ?_
  obtain rfl := oI h0
  exact aJ (Q_r hO)

theorem CH (s0 : (List aA)) (r : (List aA)) (h0 : fO s0 = some r) : GK Tryz.prog 89 [(eL aE s0)] (fun lo => (.msl 2 lo 0 (List.length r))) 2 (List.map aE r) := by
  intro H0
  refine cF Tryz.func89 ?_
  have hO := aN.start H0
  unfold fO at h0
  refine aY aF 1 [] [] ?_
  refine aO ?_
  refine aO ?_
  refine aU aF 2 ?_
  refine bR 1 ?_
  refine aDQ false (List.length s0) (fun i => aE (List.getD s0 i default)) (by kernel_rfl) (by kernel_rfl) ?_
  intro b1 hn2
  refine cW ?_
  refine bT [] [(4, (aK b1))] ?_
  refine qD (b1) (fun hc3 => ?_) (fun hc3 => ?_)
  · replace h0 : some ([] : List aA) = some r := by
      have hl := List.eq_nil_of_length_eq_zero (hn2 hc3)
      rw [hl] at h0
      exact (bE h0).2
    refine bV aF 1 [(2, (.sl true 0 (fun _ => .bad)))] ?_
    refine bK ?_
    refine cN [(2, (.sl true 0 (fun _ => .bad)))] ?_
    refine aCe (el := (fun _ => .bad)) 0 2 2 hO (by kernel_rfl) ?_
    intro lo4 H5 hO
    obtain rfl := oI h0
    exact aJ (aQ (rV (x := (.msl 2 lo4 0 (List.length ([] : List aA)))) (by kernel_rfl) (aZ.refl _) ⟨lo4, rfl, hO⟩))
  · refine bL ?_
    refine bH [(0, (eL aE s0))] ?_
    refine aO ?_
    refine aU aF 4 ?_
    refine iM (xs := []) (k := 2) (by kernel_rfl) (by kernel_rfl) ?_
    refine bR 2 ?_
    obtain ⟨c7, h0⟩ := bE h0
    refine TX (e := aE) s0 (fun _ => .bad) 2 16 (eL aE s0) (fun lo6 => [(lo6, 2, List.map aE s0)]) (by kernel_rfl) (by kernel_rfl) hO (JH (fun _ => by kernel_rfl)) c7 (fun _ => by kernel_rfl) ?_
    intro lo6 H hO
    refine bC ?_
    refine bH [(2, (.msl 2 lo6 0 (List.length s0)))] ?_
    refine bK ?_
    obtain rfl := oI h0
    exact aJ (rV (x := (.msl 2 lo6 0 (List.length s0))) (by kernel_rfl) (aZ.refl _) ⟨lo6, rfl, hO⟩)

theorem oQ (lo0p : Nat) (aB : (List aA)) (a1 : Int) (b2 : Int) (cmp3_f : Nat) (cmp3_a cmp3_c : List V) (cmp3 : aA → aA → Option Int) (cmp3_h : ∀ a0 a1 r, cmp3 a0 a1 = some r → bY Tryz.prog cmp3_f (cmp3_a ++ [(aE a0), (aE a1)] ++ cmp3_c) (eI r)) (r : List aA) (h0 : eA aB a1 b2 cmp3 = some r) : mB Tryz.prog 106 lo0p 2 (List.map aE aB) (List.map aE r) [(.msl 2 lo0p 0 (List.length aB)), (eI a1), (eI b2), (.fn (.func cmp3_f) cmp3_a cmp3_c)] (.tup []) := by
  intro H0 hl0
  refine cF Tryz.func106 ?_
  have hO := aN.rO hl0
  clear hl0
  obtain ⟨N0, hN0⟩ : ∃ n, n = List.length aB := ⟨_, rfl⟩
  have hN : List.length aB = N0 := hN0.symm
  unfold eA at h0
  refine aY aF 3 [] [(8, (eI (wR (a1 + (1 : Int)))))] ?_
  refine bO 0 ?_
  refine cL [(0, (.msl 2 lo0p 0 (List.length aB))), (1, (eI a1)), (2, (eI b2)), (3, (.fn (.func cmp3_f) cmp3_a cmp3_c)), (8, (eI (wR (a1 + (1 : Int)))))] ?_
  refine cC (fun T H => ∃ aB : List aA, ∃ i8 : Int, Has T [(0, (.msl 2 lo0p 0 (List.length aB))), (1, (eI a1)), (2, (eI b2)), (3, (.fn (.func cmp3_f) cmp3_a cmp3_c)), (8, (eI i8))] ∧ aN ⟨H0, [lo0p], []⟩ H [(lo0p, 2, List.map aE aB)] ∧ List.length aB = N0 ∧ jM cmp3 aB a1 b2 i8 = some r) ?_ ⟨aB, wR (a1 + (1 : Int)), .eq (by kernel_rfl), hO, hN, h0⟩
  clear hO hN h0
  rintro T H ⟨aB, i8, hT, hO, hN, h0⟩
  refine bA hT ?_
  clear hT
  unfold jM at h0
  obtain ⟨rr0, hl0, h0⟩ := aW h0
  refine bX (by kernel_rfl) (fun (s : List aA × Int) T H => Has T [(0, (.msl 2 lo0p 0 (List.length s.1))), (1, (eI a1)), (2, (eI b2)), (3, (.fn (.func cmp3_f) cmp3_a cmp3_c)), (8, (eI s.2))] ∧ aN ⟨H0, [lo0p], []⟩ H [(lo0p, 2, List.map aE s.1)] ∧ List.length s.1 = N0) hl0 ⟨.eq (by kernel_rfl), hO, hN⟩ ?_
  clear hO hN
  rintro k0 s out1 T H ⟨hT, hO, hN⟩ h1 ho0
  obtain ⟨aB, i8⟩ := s
  replace h1 : jQ cmp3 a1 b2 aB i8 = some out1 := h1
  try dsimp only at hT
  refine bA hT ?_
  clear hT
  unfold jQ at h1
  refine aO ?_
  refine aY aF 3 [] [(14, (aK (decide (i8 < b2))))] ?_
  refine bJ h1 (fun h1 => ?_) (fun h1 => ?_)
  · refine bL ?_
    refine bH [(0, (.msl 2 lo0p 0 (List.length aB))), (1, (eI a1)), (2, (eI b2)), (3, (.fn (.func cmp3_f) cmp3_a cmp3_c)), (8, (eI i8))] ?_
    refine cH (fun T H => ∃ aB : List aA, Has T [(0, (.msl 2 lo0p 0 (List.length aB))), (1, (eI a1)), (2, (eI b2)), (3, (.fn (.func cmp3_f) cmp3_a cmp3_c)), (8, (eI i8))] ∧ aN ⟨H0, [lo0p], []⟩ H [(lo0p, 2, List.map aE aB)] ∧ List.length aB = N0 ∧ fD cmp3 aB a1 b2 i8 = some out1) ?_ ?_
    · clear hO hN h1
      rintro T H ⟨aB, hT, hO, hN, h1⟩
      refine bA hT ?_
      clear hT
      unfold fD at h1
      refine aU aF 3 ?_
      refine bC ?_
      exact aJ (aH (⟨rfl, _, (oI h1).symm, .eq (by kernel_rfl), hO, hN⟩))
    refine bO 1 ?_
    refine aY aF 2 [] [(9, (eI i8))] ?_
    refine bO 2 ?_
    refine cL [(0, (.msl 2 lo0p 0 (List.length aB))), (1, (eI a1)), (2, (eI b2)), (3, (.fn (.func cmp3_f) cmp3_a cmp3_c)), (8, (eI i8)), (9, (eI i8))] ?_
    refine cC (fun T H => ∃ aB : List aA, ∃ j9 : Int, Has T [(0, (.msl 2 lo0p 0 (List.length aB))), (1, (eI a1)), (2, (eI b2)), (3, (.fn (.func cmp3_f) cmp3_a cmp3_c)), (8, (eI i8)), (9, (eI j9))] ∧ aN ⟨H0, [lo0p], []⟩ H [(lo0p, 2, List.map aE aB)] ∧ List.length aB = N0 ∧ jK cmp3 aB a1 b2 i8 j9 = some out1) ?_ ⟨aB, i8, .eq (by kernel_rfl), hO, hN, h1⟩
    clear hO hN h1
    rintro T H ⟨aB, j9, hT, hO, hN, h1⟩
    refine bA hT ?_
    clear hT
    unfold jK at h1
    obtain ⟨rr1, hl1, h1⟩ := aW h1
    refine bX (by kernel_rfl) (fun (s : List aA × Int) T H => Has T [(0, (.msl 2 lo0p 0 (List.length s.1))), (1, (eI a1)), (2, (eI b2)), (3, (.fn (.func cmp3_f) cmp3_a cmp3_c)), (8, (eI i8)), (9, (eI s.2))] ∧ aN ⟨H0, [lo0p], []⟩ H [(lo0p, 2, List.map aE s.1)] ∧ List.length s.1 = N0) hl1 ⟨.eq (by kernel_rfl), hO, hN⟩ ?_
    clear hO hN
    rintro k1 s out2 T H ⟨hT, hO, hN⟩ h2 ho1
    obtain ⟨aB, j9⟩ := s
    replace h2 : jS cmp3 a1 b2 i8 aB j9 = some out2 := h2
    try dsimp only at hT
    refine bA hT ?_
    clear hT
    unfold jS at h2
    refine aO ?_
    refine aO ?_
    obtain ⟨c2, h2⟩ := bE h2
    obtain ⟨c3, h2⟩ := bE h2
    obtain ⟨x4, hx5, h2⟩ := aW h2
    refine eS (eV []) aF 17 ?_
    refine yB (K := fun T H => Has (lift T) [(0, (.msl 2 lo0p 0 (List.length aB))), (1, (eI a1)), (2, (eI b2)), (3, (.fn (.func cmp3_f) cmp3_a cmp3_c)), (8, (eI i8)), (9, (eI j9)), (34, (aK ((decide (a1 < j9)) && (decide (x4 < (0 : Int))))))] ∧ aN ⟨H0, [lo0p], []⟩ H [(lo0p, 2, List.map aE aB)]) ?_ ?_
    · refine qH 4 ?_
      refine sE (t := 21) (e := decide (a1 < j9)) (by kernel_rfl) (fun hg6 => ?_) (fun hg6 => ?_)
      · refine dA 8 [0 ≤ j9 ∧ j9 < (lN aB)] ⟨(c2 hg6), trivial⟩ ?_
        refine CQ 0 lo0p 2 (0 + Int.toNat j9) (aE (gD aB j9)) (aE (gD aB j9)) (List.map aE aB) (by kernel_rfl) (by kernel_rfl) (by kernel_rfl) hO (by kernel_rfl) (dB (c2 hg6)) ?_
        refine dA 13 [0 ≤ (wR (j9 - (1 : Int))) ∧ (wR (j9 - (1 : Int))) < (lN aB)] ⟨(c3 hg6), trivial⟩ ?_
        refine CQ 0 lo0p 2 (0 + Int.toNat (wR (j9 - (1 : Int)))) (aE (gD aB (wR (j9 - (1 : Int))))) (aE (gD aB (wR (j9 - (1 : Int))))) (List.map aE aB) (by kernel_rfl) (by kernel_rfl) (by kernel_rfl) hO (by kernel_rfl) (dB (c3 hg6)) ?_
        refine CN cmp3_f (cmp3_a ++ [(aE (gD aB j9)), (aE (gD aB (wR (j9 - (1 : Int)))))] ++ cmp3_c) (eI x4) (by kernel_rfl) (by kernel_rfl) (cmp3_h (gD aB j9) (gD aB (wR (j9 - (1 : Int)))) _ (fP hx5 hg6)) hO ?_
        intro H hO
        refine iJ ?_
        exact ⟨⟨[(0, (.msl 2 lo0p 0 (List.length aB))), (1, (eI a1)), (2, (eI b2)), (3, (.fn (.func cmp3_f) cmp3_a cmp3_c)), (8, (eI i8)), (9, (eI j9)), (34, (aK (decide (x4 < (0 : Int)))))], by kernel_rfl, rfl, ⟨aZ.refl _, aZ.refl _, aZ.refl _, aZ.refl _, aZ.refl _, aZ.refl _, aZ.eq (congrArg aK (tT hg6 rfl).symm), trivial⟩⟩, hO⟩
      refine iJ ?_
      exact ⟨⟨[(0, (.msl 2 lo0p 0 (List.length aB))), (1, (eI a1)), (2, (eI b2)), (3, (.fn (.func cmp3_f) cmp3_a cmp3_c)), (8, (eI i8)), (9, (eI j9)), (34, (aK false))], by kernel_rfl, rfl, ⟨aZ.refl _, aZ.refl _, aZ.refl _, aZ.refl _, aZ.refl _, aZ.refl _, aZ.eq (congrArg aK (tT hg6 rfl).symm), trivial⟩⟩, hO⟩
    · rintro T H ⟨hT, hO⟩
      refine cJ hT ?_
      clear hT
      refine aJ (aH ?_)
      refine bJ h2 (fun h2 => ?_) (fun h2 => ?_)
      · refine bL ?_
        refine bH [(0, (.msl 2 lo0p 0 (List.length aB))), (1, (eI a1)), (2, (eI b2)), (3, (.fn (.func cmp3_f) cmp3_a cmp3_c)), (8, (eI i8)), (9, (eI j9))] ?_
        refine aO ?_
        refine bO 3 ?_
        refine eS (eV []) aF 18 ?_
        obtain ⟨c8, h2⟩ := bE h2
        refine dA 9 [0 ≤ (wR (j9 - (1 : Int))) ∧ (wR (j9 - (1 : Int))) < (lN aB)] ⟨c8, trivial⟩ ?_
        refine lT 0 lo0p 2 (0 + Int.toNat (wR (j9 - (1 : Int)))) (aE (gD aB (wR (j9 - (1 : Int))))) (aE (gD aB (wR (j9 - (1 : Int))))) (List.map aE aB) hO (dB c8) ?_
        obtain ⟨c9, h2⟩ := bE h2
        refine dA 13 [0 ≤ j9 ∧ j9 < (lN aB)] ⟨c9, trivial⟩ ?_
        refine lT 0 lo0p 2 (0 + Int.toNat j9) (aE (gD aB j9)) (aE (gD aB j9)) (List.map aE aB) hO (dB c9) ?_
        obtain ⟨c10, h2⟩ := bE h2
        refine dA 15 [0 ≤ j9 ∧ j9 < (lN aB)] ⟨c10, trivial⟩ ?_
        refine vH 0 lo0p 2 (0 + Int.toNat j9) (aE (gD aB j9)) (aE (gD aB (wR (j9 - (1 : Int))))) (List.map aE aB) [(lo0p, 2, List.map aE (List.set aB (Int.toNat j9) (gD aB (wR (j9 - (1 : Int))))))] hO (dB c10) (by simp only [List.set, pR]) ?_
        intro H hO
        replace hN : List.length (List.set aB (Int.toNat j9) (gD aB (wR (j9 - (1 : Int))))) = N0 := by simpa using hN
        obtain ⟨c11, h2⟩ := bE h2
        refine dA 17 [0 ≤ (wR (j9 - (1 : Int))) ∧ (wR (j9 - (1 : Int))) < (lN aB)] ⟨c11, trivial⟩ ?_
        refine vH 0 lo0p 2 (0 + Int.toNat (wR (j9 - (1 : Int)))) (aE (gD (List.set aB (Int.toNat j9) (gD aB (wR (j9 - (1 : Int))))) (wR (j9 - (1 : Int))))) (aE (gD aB j9)) (List.map aE (List.set aB (Int.toNat j9) (gD aB (wR (j9 - (1 : Int)))))) [(lo0p, 2, List.map aE (List.set (List.set aB (Int.toNat j9) (gD aB (wR (j9 - (1 : Int))))) (Int.toNat (wR (j9 - (1 : Int)))) (gD aB j9)))] hO (CO c11 (by simp [])) (by simp only [List.set, pR]) ?_
        intro H hO
        replace hN : List.length (List.set (List.set aB (Int.toNat j9) (gD aB (wR (j9 - (1 : Int))))) (Int.toNat (wR (j9 - (1 : Int)))) (gD aB j9)) = N0 := by simpa using hN
        refine DV (by kernel_rfl) ?_
        refine cJ (l := [(0, (.msl 2 lo0p 0 (List.length (List.set (List.set aB (Int.toNat j9) (gD aB (wR (j9 - (1 : Int))))) (Int.toNat (wR (j9 - (1 : Int)))) (gD aB j9))))), (1, (eI a1)), (2, (eI b2)), (3, (.fn (.func cmp3_f) cmp3_a cmp3_c)), (8, (eI i8)), (9, (eI j9))]) ⟨[(0, (.msl 2 lo0p 0 (List.length aB))), (1, (eI a1)), (2, (eI b2)), (3, (.fn (.func cmp3_f) cmp3_a cmp3_c)), (8, (eI i8)), (9, (eI j9))], by kernel_rfl, rfl, ⟨aZ.eq (by simp []), aZ.refl _, aZ.refl _, aZ.refl _, aZ.refl _, aZ.refl _, trivial⟩⟩ ?_
        refine aJ (aV (aH (?_)))
        refine aU aF 3 ?_
        refine bC ?_
        exact aJ (aH (⟨rfl, _, (oI h2).symm, .eq (by kernel_rfl), hO, hN⟩))
      refine cV 2 ?_
      obtain rfl := oI h2
      obtain rfl : _ = rr1 := ho1
      replace h1 : fD cmp3 aB a1 b2 i8 = some out1 := h1
      exact aJ (aS (aS (bM (aV (aH (⟨rfl, _, .eq (by kernel_rfl), hO, hN, h1⟩))))))
  refine cV 0 ?_
  obtain rfl := oI h1
  obtain rfl : _ = rr0 := ho0
  replace h0 : some aB = some r := h0
  obtain rfl := oI h0
  exact aJ (aS (aS (bM (tQ (x := (.tup [])) (by kernel_rfl) (aZ.refl _) ⟨rfl, hO.ext, hO.at 0 (by kernel_rfl), by simp only [List.length_map]; exact hN.trans hN0⟩))))

theorem lX (lo0p : Nat) (aB : (List aA)) (a1 : Int) (b2 : Int) (n3 : Int) (cmp4_f : Nat) (cmp4_a cmp4_c : List V) (cmp4 : aA → aA → Option Int) (cmp4_h : ∀ a0 a1 r, cmp4 a0 a1 = some r → bY Tryz.prog cmp4_f (cmp4_a ++ [(aE a0), (aE a1)] ++ cmp4_c) (eI r)) (r : List aA) (h0 : eT aB a1 b2 n3 cmp4 = some r) : mB Tryz.prog 111 lo0p 2 (List.map aE aB) (List.map aE r) [(.msl 2 lo0p 0 (List.length aB)), (eI a1), (eI b2), (eI n3), (.fn (.func cmp4_f) cmp4_a cmp4_c)] (.tup []) := by
  intro H0 hl0
  refine cF Tryz.func111 ?_
  have hO := aN.rO hl0
  clear hl0
  obtain ⟨N0, hN0⟩ : ∃ n, n = List.length aB := ⟨_, rfl⟩
  have hN : List.length aB = N0 := hN0.symm
  unfold eT at h0
  refine aY aF 1 [4] [(10, (eI (0 : Int)))] ?_
  refine bO 0 ?_
  refine cL [(0, (.msl 2 lo0p 0 (List.length aB))), (1, (eI a1)), (2, (eI b2)), (3, (eI n3)), (10, (eI (0 : Int)))] ?_
  refine cC (fun T H => ∃ aB : List aA, ∃ i10 : Int, Has T [(0, (.msl 2 lo0p 0 (List.length aB))), (1, (eI a1)), (2, (eI b2)), (3, (eI n3)), (10, (eI i10))] ∧ aN ⟨H0, [lo0p], []⟩ H [(lo0p, 2, List.map aE aB)] ∧ List.length aB = N0 ∧ lF cmp4 aB a1 b2 n3 i10 = some r) ?_ ⟨aB, (0 : Int), .eq (by kernel_rfl), hO, hN, h0⟩
  clear hO hN h0
  rintro T H ⟨aB, i10, hT, hO, hN, h0⟩
  refine bA hT ?_
  clear hT
  unfold lF at h0
  obtain ⟨rr0, hl0, h0⟩ := aW h0
  refine bX (by kernel_rfl) (fun (s : List aA × Int) T H => Has T [(0, (.msl 2 lo0p 0 (List.length s.1))), (1, (eI a1)), (2, (eI b2)), (3, (eI n3)), (10, (eI s.2))] ∧ aN ⟨H0, [lo0p], []⟩ H [(lo0p, 2, List.map aE s.1)] ∧ List.length s.1 = N0) hl0 ⟨.eq (by kernel_rfl), hO, hN⟩ ?_
  clear hO hN
  rintro k0 s out1 T H ⟨hT, hO, hN⟩ h1 ho0
  obtain ⟨aB, i10⟩ := s
  replace h1 : kS cmp4 a1 b2 n3 aB i10 = some out1 := h1
  try dsimp only at hT
  refine bA hT ?_
  clear hT
  unfold kS at h1
  refine aO ?_
  refine aY aF 3 [] [(13, (aK (decide (i10 < n3))))] ?_
  refine bJ h1 (fun h1 => ?_) (fun h1 => ?_)
  · refine bL ?_
    refine bH [(0, (.msl 2 lo0p 0 (List.length aB))), (1, (eI a1)), (2, (eI b2)), (3, (eI n3)), (10, (eI i10))] ?_
    refine aO ?_
    refine bO 1 ?_
    refine eS (eV []) aF 24 ?_
    obtain ⟨c2, h1⟩ := bE h1
    refine dA 13 [0 ≤ (wR (b2 + i10)) ∧ (wR (b2 + i10)) < (lN aB)] ⟨c2, trivial⟩ ?_
    refine lT 0 lo0p 2 (0 + Int.toNat (wR (b2 + i10))) (aE (gD aB (wR (b2 + i10)))) (aE (gD aB (wR (b2 + i10)))) (List.map aE aB) hO (dB c2) ?_
    obtain ⟨c3, h1⟩ := bE h1
    refine dA 19 [0 ≤ (wR (a1 + i10)) ∧ (wR (a1 + i10)) < (lN aB)] ⟨c3, trivial⟩ ?_
    refine lT 0 lo0p 2 (0 + Int.toNat (wR (a1 + i10))) (aE (gD aB (wR (a1 + i10)))) (aE (gD aB (wR (a1 + i10)))) (List.map aE aB) hO (dB c3) ?_
    obtain ⟨c4, h1⟩ := bE h1
    refine dA 21 [0 ≤ (wR (a1 + i10)) ∧ (wR (a1 + i10)) < (lN aB)] ⟨c4, trivial⟩ ?_
    refine vH 0 lo0p 2 (0 + Int.toNat (wR (a1 + i10))) (aE (gD aB (wR (a1 + i10)))) (aE (gD aB (wR (b2 + i10)))) (List.map aE aB) [(lo0p, 2, List.map aE (List.set aB (Int.toNat (wR (a1 + i10))) (gD aB (wR (b2 + i10)))))] hO (dB c4) (by simp only [List.set, pR]) ?_
    intro H hO
    replace hN : List.length (List.set aB (Int.toNat (wR (a1 + i10))) (gD aB (wR (b2 + i10)))) = N0 := by simpa using hN
    obtain ⟨c5, h1⟩ := bE h1
    refine dA 23 [0 ≤ (wR (b2 + i10)) ∧ (wR (b2 + i10)) < (lN aB)] ⟨c5, trivial⟩ ?_
    refine vH 0 lo0p 2 (0 + Int.toNat (wR (b2 + i10))) (aE (gD (List.set aB (Int.toNat (wR (a1 + i10))) (gD aB (wR (b2 + i10)))) (wR (b2 + i10)))) (aE (gD aB (wR (a1 + i10)))) (List.map aE (List.set aB (Int.toNat (wR (a1 + i10))) (gD aB (wR (b2 + i10))))) [(lo0p, 2, List.map aE (List.set (List.set aB (Int.toNat (wR (a1 + i10))) (gD aB (wR (b2 + i10)))) (Int.toNat (wR (b2 + i10))) (gD aB (wR (a1 + i10)))))] hO (CO c5 (by simp [])) (by simp only [List.set, pR]) ?_
    intro H hO
    replace hN : List.length (List.set (List.set aB (Int.toNat (wR (a1 + i10))) (gD aB (wR (b2 + i10)))) (Int.toNat (wR (b2 + i10))) (gD aB (wR (a1 + i10)))) = N0 := by simpa using hN
    refine DV (by kernel_rfl) ?_
    refine cJ (l := [(0, (.msl 2 lo0p 0 (List.length (List.set (List.set aB (Int.toNat (wR (a1 + i10))) (gD aB (wR (b2 + i10)))) (Int.toNat (wR (b2 + i10))) (gD aB (wR (a1 + i10))))))), (1, (eI a1)), (2, (eI b2)), (3, (eI n3)), (10, (eI i10))]) ⟨[(0, (.msl 2 lo0p 0 (List.length aB))), (1, (eI a1)), (2, (eI b2)), (3, (eI n3)), (10, (eI i10))], by kernel_rfl, rfl, ⟨aZ.eq (by simp []), aZ.refl _, aZ.refl _, aZ.refl _, aZ.refl _, trivial⟩⟩ ?_
    refine aJ (aV (aH (?_)))
    refine aU aF 3 ?_
    refine bC ?_
    exact aJ (aH (⟨rfl, _, (oI h1).symm, .eq (by kernel_rfl), hO, hN⟩))
  refine cV 0 ?_
  obtain rfl := oI h1
  obtain rfl : _ = rr0 := ho0
  replace h0 : some aB = some r := h0
  obtain rfl := oI h0
  exact aJ (aS (aS (bM (tQ (x := (.tup [])) (by kernel_rfl) (aZ.refl _) ⟨rfl, hO.ext, hO.at 0 (by kernel_rfl), by simp only [List.length_map]; exact hN.trans hN0⟩))))

end Go.Abs
