/- What the law HopOpens stands on: the framework, the given functions as plain functions, their walks, and the plain laws; part 3. -/
import Derived.Test.YteecjdpicjpnfaaHopOpensZ2
set_option linter.unusedSimpArgs false
set_option linter.unusedVariables false
namespace Go.Abs
open Go
noncomputable def qW (bX : Int) (hop1 : Int) (s2 : bC) (iC : Int) (eS : Int) : Option ((List Int) × Int) :=
  (oL bX hop1).bind fun x3 =>
  cond (!x3)
  (some ([], (2 : Int)))
  ((lT iC).bind fun x7 =>
  (dW (!(!x7)) (lT eS)).bind fun x10 =>
  cond ((!x7) || (!x10))
  (some ([], (13 : Int)))
  (cond (((decide (s2.From < (-1 : Int))) || (decide (s2.To ≤ s2.From))) || (decide ((1125899906842624 : Int) < s2.To)))
  (some ([], (14 : Int)))
  ((oH bX hop1 s2 iC eS).bind fun x17 =>
  sS ([]) 0 ([] : List Int) x17.1 x17.2.1 x17.2.2.1 x17.2.2.2.1 x17.2.2.2.2)))

noncomputable def pT (l0 : (List bF)) : Option ((List bF)) :=
  some l0

noncomputable def fV  : Option Bool :=
  some true

noncomputable def eR (s10 : (List aD)) (s21 : (List aD)) (t12 : Int) (t13 : Int) : Option ((Int) ⊕ (Unit ⊕ Bool)) :=
  cond (decide (t13 < t12))
  (bE (0 ≤ t13 ∧ t13 < ((List.length s10 : Nat) : Int)) <|
  bE (0 ≤ t13 ∧ t13 < ((List.length s21 : Nat) : Int)) <|
  cond (!((decide (((List.getD s10 (Int.toNat t13) default).Kind) = ((List.getD s21 (Int.toNat t13) default).Kind))) && ((decide (((List.getD s10 (Int.toNat t13) default).Num) = ((List.getD s21 (Int.toNat t13) default).Num))) && ((nR ((List.getD s10 (Int.toNat t13) default).Text) ((List.getD s21 (Int.toNat t13) default).Text)) && true))))
  (some (.inr (.inr false)))
  (some (.inl (IntKind.i64.wrap (t13 + (1 : Int))))))
  (some (.inr (.inl ())))

noncomputable def iW (s10 : (List aD)) (s21 : (List aD)) (t12 : Int) (t13 : Int) : Option Bool :=
  (lp (fun s => eR s10 s21 t12 s) t13).bind (Sum.elim (fun rr => fV ) (fun rr => some rr))

noncomputable def jA (s10 : (List aD)) (s21 : (List aD)) : Option Bool :=
  cond (!decide (((List.length s10 : Nat) : Int) = ((List.length s21 : Nat) : Int)))
  (some false)
  (iW s10 s21 ((List.length s10 : Nat) : Int) (0 : Int))

noncomputable def oY (a0 : (List aD)) (b1 : (List aD)) : Option Bool :=
  (jA a0 b1).bind fun x1 =>
  some x1

noncomputable def rT (r0 : (List aD)) : Option (List aD) :=
  bE (0 ≤ ((List.length r0 : Nat) : Int) ∧ (32 : Int) * ((List.length r0 : Nat) : Int) ≤ 281474976710656 ∧ ((List.length r0 : Nat) : Int) ≤ 9223372036854775807) <|
  bE ((List.length ([] : List aD) + List.length r0) * 32 ≤ 140737488355328 ∧ List.length ([] : List aD) + List.length r0 ≤ 9223372036854775807) <|
  some (([] : List aD) ++ r0)

noncomputable def mY {σ : Type} (cG : σ → (List aD) → (List aG) → Option (σ × Bool)) (sg : σ) (t1 : (List bF)) (i3 : Int) (r4 : (List aD)) (f5 : List aG) : Option ((σ × Int) ⊕ (σ ⊕ σ)) :=
  (rT r4).bind fun x7 =>
  (cG sg x7 f5).bind fun x10 =>
  cond (!x10.2)
  (some (.inr (.inr x10.1)))
  (some (.inl (x10.1, i3)))

noncomputable def jB {σ : Type} (cG : σ → (List aD) → (List aG) → Option (σ × Bool)) (t1 : (List bF)) (r4 : (List aD)) (sg : σ) (i3 : Int) (f5 : List aG) : Option ((σ × Int × List aG) ⊕ ((σ × Int × List aG))) :=
  bE ((((decide (i3 < ((List.length t1 : Nat) : Int)))) = true → 0 ≤ i3 ∧ i3 < ((List.length t1 : Nat) : Int))) <|
  (dW (decide (i3 < ((List.length t1 : Nat) : Int))) (oY ((List.getD t1 (Int.toNat i3) default).Row) r4)).bind fun x16 =>
  cond ((decide (i3 < ((List.length t1 : Nat) : Int))) && x16)
  (bE (0 ≤ i3 ∧ i3 < ((List.length t1 : Nat) : Int)) <|
  bE (0 ≤ i3 ∧ i3 < ((List.length t1 : Nat) : Int)) <|
  bE ((List.length f5 + List.length ([aG.mk ((List.getD t1 (Int.toNat i3) default).At) ((List.getD t1 (Int.toNat i3) default).Net)])) * 16 ≤ 140737488355328 ∧ List.length f5 + List.length ([aG.mk ((List.getD t1 (Int.toNat i3) default).At) ((List.getD t1 (Int.toNat i3) default).Net)]) ≤ 9223372036854775807) <|
  some (.inl (sg, IntKind.i64.wrap (i3 + (1 : Int)), f5 ++ ([aG.mk ((List.getD t1 (Int.toNat i3) default).At) ((List.getD t1 (Int.toNat i3) default).Net)]))))
  (some (.inr (sg, i3, f5)))

noncomputable def oW {σ : Type} (cG : σ → (List aD) → (List aG) → Option (σ × Bool)) (sg : σ) (t1 : (List bF)) (i3 : Int) (r4 : (List aD)) (f5 : List aG) : Option ((σ × Int) ⊕ (σ ⊕ σ)) :=
  (lp (fun s => jB cG t1 r4 s.1 s.2.1 s.2.2) (sg, i3, f5)).bind (fun rr => mY cG rr.1 t1 rr.2.1 r4 rr.2.2)

noncomputable def iF {σ : Type} (cG : σ → (List aD) → (List aG) → Option (σ × Bool)) (t1 : (List bF)) (sg : σ) (i3 : Int) : Option ((σ × Int) ⊕ (σ ⊕ σ)) :=
  cond (decide (i3 < ((List.length t1 : Nat) : Int)))
  (bE (0 ≤ i3 ∧ i3 < ((List.length t1 : Nat) : Int)) <|
  oW cG sg t1 i3 ((List.getD t1 (Int.toNat i3) default).Row) ([] : List aG))
  (some (.inr (.inl sg)))

noncomputable def oT {σ : Type} (cG : σ → (List aD) → (List aG) → Option (σ × Bool)) (sg : σ) (t1 : (List bF)) (i3 : Int) : Option σ :=
  (lp (fun s => iF cG t1 s.1 s.2) (sg, i3)).bind (Sum.elim (fun rr => some rr) (fun rr => some rr))

noncomputable def mE {σ : Type} (cG : σ → (List aD) → (List aG) → Option (σ × Bool)) (t1 : (List bF)) (sg0 : σ) : Option σ :=
  oT cG sg0 t1 (0 : Int)

noncomputable def eX (f1 : aD → Option Bool)  : Option Int :=
  some (-1 : Int)

noncomputable def gT (f1 : aD → Option Bool) (s0 : (List aD)) (t7 : Int) (t8 : Int) : Option ((Int) ⊕ (Unit ⊕ Int)) :=
  cond (decide (t8 < t7))
  (bE (0 ≤ t8 ∧ t8 < ((List.length s0 : Nat) : Int)) <|
  (f1 (List.getD s0 (Int.toNat t8) default)).bind fun x3 =>
  cond x3
  (some (.inr (.inr t8)))
  (some (.inl (IntKind.i64.wrap (t8 + (1 : Int))))))
  (some (.inr (.inl ())))

noncomputable def gS (f1 : aD → Option Bool) (s0 : (List aD)) (t7 : Int) (t8 : Int) : Option Int :=
  (lp (fun s => gT f1 s0 t7 s) t8).bind (Sum.elim (fun rr => eX f1 ) (fun rr => some rr))

noncomputable def hU (s0 : (List aD)) (f1 : aD → Option Bool) : Option Int :=
  gS f1 s0 ((List.length s0 : Nat) : Int) (0 : Int)

noncomputable def eP (s0 : (List aD)) (f1 : aD → Option Bool) : Option Bool :=
  (hU s0 f1).bind fun x1 =>
  some (decide ((0 : Int) ≤ x1))

noncomputable def kU (v0 : aD) : Option (bA × Bool) :=
  cond ((decide (v0.Kind = (1 : Int))) && (nR v0.Text (⟨#[]⟩ : ByteArray)))
  (some (bA.k_number v0.Num, true))
  (cond (((decide (v0.Kind = (2 : Int))) && (decide (v0.Num = (0 : Int)))) && (decide (((ByteArray.size v0.Text : Nat) : Int) ≤ (64 : Int))))
  (some (bA.k_words v0.Text, true))
  (some (bA.none_, false)))

noncomputable def sF (v0 : aD) : Option Bool :=
  (kU v0).bind fun (x1_0, x1_1) =>
  match x1_0 with
  | .none_ => (some x1_1)
  | .k_number y4 => (some x1_1)
  | .k_words y5 => (some x1_1)

noncomputable def sK (v0 : aD) : Option Bool :=
  (sF v0).bind fun x1 =>
  some (!x1)

noncomputable def rE (r0 : (List aD)) : Option Bool :=
  cond (decide ((8 : Int) < ((List.length r0 : Nat) : Int)))
  (some false)
  ((eP r0 (fun y0 => sK y0)).bind fun x2 =>
  some (!x2))

noncomputable def qE (t0 : (List aD)) : Option ((Int × (List aD))) :=
  some ((-1 : Int), t0)

noncomputable def eO {σ : Type} (f1 : σ → aD → Option (σ × Bool)) (sg : σ) : Option (σ × Int) :=
  some (sg, (-1 : Int))

noncomputable def cA {σ : Type} (f1 : σ → aD → Option (σ × Bool)) (s0 : (List aD)) (t7 : Int) (sg : σ) (t8 : Int) : Option ((σ × Int) ⊕ (σ ⊕ (σ × Int))) :=
  cond (decide (t8 < t7))
  (bE (0 ≤ t8 ∧ t8 < ((List.length s0 : Nat) : Int)) <|
  (f1 sg (List.getD s0 (Int.toNat t8) default)).bind fun x3 =>
  cond x3.2
  (some (.inr (.inr (x3.1, t8))))
  (some (.inl (x3.1, IntKind.i64.wrap (t8 + (1 : Int))))))
  (some (.inr (.inl sg)))

noncomputable def gF {σ : Type} (f1 : σ → aD → Option (σ × Bool)) (sg : σ) (s0 : (List aD)) (t7 : Int) (t8 : Int) : Option (σ × Int) :=
  (lp (fun s => cA f1 s0 t7 s.1 s.2) (sg, t8)).bind (Sum.elim (fun rr => eO f1 rr) (fun rr => some (rr.1, rr.2)))

noncomputable def gK {σ : Type} (s0 : (List aD)) (f1 : σ → aD → Option (σ × Bool)) (sg0 : σ) : Option (σ × Int) :=
  gF f1 sg0 s0 ((List.length s0 : Nat) : Int) (0 : Int)

noncomputable def jI (v0 : aD) (t1 : Int) (t2 : (List aD)) : Option (Bool × Int) :=
  bE (0 ≤ (IntKind.i64.wrap (t1 + (1 : Int))) ∧ (IntKind.i64.wrap (t1 + (1 : Int))) < ((List.length t2 : Nat) : Int)) <|
  some ((!((decide (v0.Kind = ((List.getD t2 (Int.toNat (IntKind.i64.wrap (t1 + (1 : Int)))) default).Kind))) && ((decide (v0.Num = ((List.getD t2 (Int.toNat (IntKind.i64.wrap (t1 + (1 : Int)))) default).Num))) && ((nR v0.Text ((List.getD t2 (Int.toNat (IntKind.i64.wrap (t1 + (1 : Int)))) default).Text)) && true)))), (IntKind.i64.wrap (t1 + (1 : Int))))

noncomputable def kL (x0 : Int) : Option Bool :=
  some (!decide (x0 = x0))

noncomputable def mK (x0 : Int) (y1 : Int) : Option Int :=
  (kL x0).bind fun x1 =>
  (kL y1).bind fun x4 =>
  cond x1
  (cond x4
  (some (0 : Int))
  (some (-1 : Int)))
  (cond x4
  (some (1 : Int))
  (cond (decide (x0 < y1))
  (some (-1 : Int))
  (cond (decide (y1 < x0))
  (some (1 : Int))
  (some (0 : Int)))))

noncomputable def jY (x0 : Int) : Option Bool :=
  some (!decide (x0 = x0))

noncomputable def fI (x0 : Int) (y1 : Int) : Option Int :=
  (jY x0).bind fun x1 =>
  (jY y1).bind fun x4 =>
  cond x1
  (cond x4
  (some (0 : Int))
  (some (-1 : Int)))
  (cond x4
  (some (1 : Int))
  (cond (decide (x0 < y1))
  (some (-1 : Int))
  (cond (decide (y1 < x0))
  (some (1 : Int))
  (some (0 : Int)))))

noncomputable def jC (a0 : ByteArray) (b1 : ByteArray) : Option Int :=
  some (FX a0 b1)

noncomputable def lF (a0 : ByteArray) (b1 : ByteArray) : Option Int :=
  (jC a0 b1).bind fun x1 =>
  some x1

noncomputable def nK (a0 : aD) (b1 : aD) : Option Int :=
  (kU a0).bind fun (x1_0, x1_1) =>
  match x1_0 with
  | .none_ => ((kU b1).bind fun (x6_0, x6_1) =>
  match x6_0 with
  | .none_ => (cond ((!x1_1) || (!x6_1))
  (some (0 : Int))
  (none))
  | .k_number y9 => (cond ((!x1_1) || (!x6_1))
  (some (0 : Int))
  (some (1 : Int)))
  | .k_words y10 => (cond ((!x1_1) || (!x6_1))
  (some (0 : Int))
  (none)))
  | .k_number y4 => ((kU b1).bind fun (x23_0, x23_1) =>
  match x23_0 with
  | .none_ => (cond ((!x1_1) || (!x23_1))
  (some (0 : Int))
  (some (-1 : Int)))
  | .k_number y26 => (cond ((!x1_1) || (!x23_1))
  (some (0 : Int))
  ((fI y4 y26).bind fun x33 =>
  some x33))
  | .k_words y27 => (cond ((!x1_1) || (!x23_1))
  (some (0 : Int))
  (some (-1 : Int))))
  | .k_words y5 => ((kU b1).bind fun (x39_0, x39_1) =>
  match x39_0 with
  | .none_ => (cond ((!x1_1) || (!x39_1))
  (some (0 : Int))
  (none))
  | .k_number y42 => (cond ((!x1_1) || (!x39_1))
  (some (0 : Int))
  (some (1 : Int)))
  | .k_words y43 => (cond ((!x1_1) || (!x39_1))
  (some (0 : Int))
  ((lF y5 y43).bind fun x56 =>
  some x56)))

noncomputable def pI (a0 : (List aD)) (b1 : (List aD)) : Option Int :=
  (rE a0).bind fun x1 =>
  (dW (!(!x1)) (rE b1)).bind fun x4 =>
  cond ((!x1) || (!x4))
  (some (0 : Int))
  (bE (0 ≤ (if ((List.length b1 : Nat) : Int) < ((List.length a0 : Nat) : Int) then ((List.length b1 : Nat) : Int) else ((List.length a0 : Nat) : Int)) ∧ (if ((List.length b1 : Nat) : Int) < ((List.length a0 : Nat) : Int) then ((List.length b1 : Nat) : Int) else ((List.length a0 : Nat) : Int)) ≤ ((List.length a0 : Nat) : Int)) <|
  (qE b1).bind fun x9 =>
  (gK (List.take (Int.toNat (if ((List.length b1 : Nat) : Int) < ((List.length a0 : Nat) : Int) then ((List.length b1 : Nat) : Int) else ((List.length a0 : Nat) : Int))) a0) (fun st y0 => (jI y0 st x9.2).bind fun o => some (o.2, o.1)) x9.1).bind fun x12 =>
  cond (decide (x12.2 < (0 : Int)))
  ((mK ((List.length a0 : Nat) : Int) ((List.length b1 : Nat) : Int)).bind fun x15 =>
  some x15)
  (bE (0 ≤ x12.2 ∧ x12.2 < ((List.length a0 : Nat) : Int)) <|
  bE (0 ≤ x12.2 ∧ x12.2 < ((List.length b1 : Nat) : Int)) <|
  (nK (List.getD a0 (Int.toNat x12.2) default) (List.getD b1 (Int.toNat x12.2) default)).bind fun x20 =>
  some x20))

noncomputable def mZ (qP : (List aG) → Option Bool) (rV : (List bF)) (t4 : Bool) (mT : (List aD)) (jO : Bool) (t14 : (List aD)) (t15 : (List aG)) : Option ((Bool × (List aD) × Bool) ⊕ (Bool × (List aD) × Bool)) :=
  (rE t14).bind fun x7 =>
  (dW (jO && (!(!x7))) (pI mT t14)).bind fun x12 =>
  (dW (!((!x7) || (jO && (decide ((0 : Int) ≤ x12))))) (qP t15)).bind fun x15 =>
  cond (((!x7) || (jO && (decide ((0 : Int) ≤ x12)))) || (!x15))
  (some (.inr (false, mT, jO)))
  (some (.inl (t4, t14, true)))

noncomputable def tF (qP : (List aG) → Option Bool) (t4 : Bool) (mT : (List aD)) (jO : Bool) (rV : (List bF)) : Option Bool :=
  (mE (fun st t14 t15 => rnd (fun (s : Bool × (List aD) × Bool) => mZ qP rV s.1 s.2.1 s.2.2 t14 t15) st) rV (.inl (t4, mT, jO))).bind (Sum.elim (fun (s : Bool × (List aD) × Bool) =>
  (some true))
  (fun (s : Bool × (List aD) × Bool) =>
  (some s.1)))

noncomputable def pX (l0 : (List bF)) (qP : (List aG) → Option Bool) : Option Bool :=
  cond (decide ((4096 : Int) < ((List.length l0 : Nat) : Int)))
  (some false)
  ((pT l0).bind fun x5 =>
  tF qP false ([]) false x5)

noncomputable def uI (n0 : Int) : Option Bool :=
  some ((decide (n0 ≤ (1048576 : Int))) && (decide ((-1048576 : Int) ≤ n0)))

noncomputable def sD  : Option Bool :=
  some true

noncomputable def kZ (t9 : (List aG)) (t10 : Int) (nU : Int) (t11 : Int) : Option ((Int × Int) ⊕ (Unit ⊕ Bool)) :=
  cond (decide (t11 < t10))
  (bE (0 ≤ t11 ∧ t11 < ((List.length t9 : Nat) : Int)) <|
  (dW (!(((decide (((List.getD t9 (Int.toNat t11) default).At) ≤ nU)) || (decide ((1125899906842624 : Int) ≤ ((List.getD t9 (Int.toNat t11) default).At)))) || (decide (((List.getD t9 (Int.toNat t11) default).Net) = (0 : Int))))) (uI ((List.getD t9 (Int.toNat t11) default).Net))).bind fun x8 =>
  cond ((((decide (((List.getD t9 (Int.toNat t11) default).At) ≤ nU)) || (decide ((1125899906842624 : Int) ≤ ((List.getD t9 (Int.toNat t11) default).At)))) || (decide (((List.getD t9 (Int.toNat t11) default).Net) = (0 : Int)))) || (!x8))
  (some (.inr (.inr false)))
  (some (.inl ((List.getD t9 (Int.toNat t11) default).At, IntKind.i64.wrap (t11 + (1 : Int))))))
  (some (.inr (.inl ())))

noncomputable def uC (nU : Int) (t9 : (List aG)) (t10 : Int) (t11 : Int) : Option Bool :=
  (lp (fun s => kZ t9 t10 s.1 s.2) (nU, t11)).bind (Sum.elim (fun rr => sD ) (fun rr => some rr))

noncomputable def mR (f0 : (List aG)) : Option Bool :=
  cond (decide ((1024 : Int) < ((List.length f0 : Nat) : Int)))
  (some false)
  (uC (-2 : Int) f0 ((List.length f0 : Nat) : Int) (0 : Int))

noncomputable def rR (l0 : (List bF)) : Option Bool :=
  (pX l0 (fun y0 => mR y0)).bind fun x1 =>
  some x1

noncomputable def pM (gM : Int) : Option Int :=
  some gM

noncomputable def lI (t24 : (List aG)) (t25 : Int) (v3 : Int) (gM : Int) (t26 : Int) : Option ((Int × Int × Int) ⊕ (Int)) :=
  cond (decide (t26 < t25))
  (bE (0 ≤ t26 ∧ t26 < ((List.length t24 : Nat) : Int)) <|
  some (.inl (IntKind.i64.wrap (v3 + ((List.getD t24 (Int.toNat t26) default).Net)), if (IntKind.i64.wrap (v3 + ((List.getD t24 (Int.toNat t26) default).Net))) < gM then (IntKind.i64.wrap (v3 + ((List.getD t24 (Int.toNat t26) default).Net))) else gM, IntKind.i64.wrap (t26 + (1 : Int)))))
  (some (.inr gM))

noncomputable def pJ (v3 : Int) (gM : Int) (t24 : (List aG)) (t25 : Int) (t26 : Int) : Option Int :=
  (lp (fun s => lI t24 t25 s.1 s.2.1 s.2.2) (v3, gM, t26)).bind (fun rr => pM rr)

noncomputable def nG (f0 : (List aG)) (v3 : Int) (gM : Int) : Option Int :=
  pJ v3 gM f0 ((List.length f0 : Nat) : Int) (0 : Int)

noncomputable def qZ (f0 : (List aG)) : Option Int :=
  (mR f0).bind fun x1 =>
  cond ((!x1) || (decide (((List.length f0 : Nat) : Int) = (0 : Int))))
  (some (0 : Int))
  (bE (0 ≤ (0 : Int) ∧ (0 : Int) < ((List.length f0 : Nat) : Int)) <|
  cond (decide (((List.getD f0 (Int.toNat (0 : Int)) default).At) = (-1 : Int)))
  (bE (0 ≤ (0 : Int) ∧ (0 : Int) < ((List.length f0 : Nat) : Int)) <|
  nG f0 (0 : Int) ((List.getD f0 (Int.toNat (0 : Int)) default).Net))
  (nG f0 (0 : Int) (0 : Int)))

noncomputable def oK (f0 : (List aG)) : Option Bool :=
  (mR f0).bind fun x1 =>
  (dW x1 (qZ f0)).bind fun x4 =>
  some (x1 && (decide ((0 : Int) ≤ x4)))

noncomputable def qL (l0 : (List bF)) : Option Bool :=
  (pX l0 (fun y0 => oK y0)).bind fun x1 =>
  some x1

noncomputable def sU (l0 : (List bF)) : Option ((List bF)) :=
  some l0

noncomputable def jX {σ : Type} (cG : σ → (List aD) → (List aG) → Option (σ × Bool)) (t9c0 : (List bF)) (sg : σ) (t10 : (List aD)) (t11 : (List aG)) : Option ((σ) ⊕ (σ)) :=
  (cG sg t10 t11).bind fun x7 =>
  cond (!x7.2)
  (some (.inr x7.1))
  (some (.inl x7.1))

noncomputable def nN {σ : Type} (cG : σ → (List aD) → (List aG) → Option (σ × Bool)) (sg : σ) (t9c0 : (List bF)) : Option σ :=
  (mE (fun st t10 t11 => rnd (fun (s : σ) => jX cG t9c0 s t10 t11) st) t9c0 (.inl sg)).bind (Sum.elim (fun (s : σ) =>
  (some s))
  (fun (s : σ) =>
  (some s)))

noncomputable def mL {σ : Type} (cG : σ → (List aD) → (List aG) → Option (σ × Bool)) (t1 : (List bF)) (sg0 : σ) : Option σ :=
  (rR t1).bind fun x1 =>
  cond (!x1)
  (some sg0)
  ((pT t1).bind fun x5 =>
  nN cG sg0 x5)

noncomputable def kW (x0 : Int) (n2 : Int) : Option Int :=
  bE (0 ≤ (IntKind.u8.wrap x0) ∧ (IntKind.u8.wrap x0) < ((ByteArray.size (⟨#[0, 1, 2, 2, 3, 3, 3, 3, 4, 4, 4, 4, 4, 4, 4, 4, 5, 5, 5, 5, 5, 5, 5, 5, 5, 5, 5, 5, 5, 5, 5, 5, 6, 6, 6, 6, 6, 6, 6, 6, 6, 6, 6, 6, 6, 6, 6, 6, 6, 6, 6, 6, 6, 6, 6, 6, 6, 6, 6, 6, 6, 6, 6, 6, 7, 7, 7, 7, 7, 7, 7, 7, 7, 7, 7, 7, 7, 7, 7, 7, 7, 7, 7, 7, 7, 7, 7, 7, 7, 7, 7, 7, 7, 7, 7, 7, 7, 7, 7, 7, 7, 7, 7, 7, 7, 7, 7, 7, 7, 7, 7, 7, 7, 7, 7, 7, 7, 7, 7, 7, 7, 7, 7, 7, 7, 7, 7, 7, 8, 8, 8, 8, 8, 8, 8, 8, 8, 8, 8, 8, 8, 8, 8, 8, 8, 8, 8, 8, 8, 8, 8, 8, 8, 8, 8, 8, 8, 8, 8, 8, 8, 8, 8, 8, 8, 8, 8, 8, 8, 8, 8, 8, 8, 8, 8, 8, 8, 8, 8, 8, 8, 8, 8, 8, 8, 8, 8, 8, 8, 8, 8, 8, 8, 8, 8, 8, 8, 8, 8, 8, 8, 8, 8, 8, 8, 8, 8, 8, 8, 8, 8, 8, 8, 8, 8, 8, 8, 8, 8, 8, 8, 8, 8, 8, 8, 8, 8, 8, 8, 8, 8, 8, 8, 8, 8, 8, 8, 8, 8, 8, 8, 8, 8, 8, 8, 8, 8, 8, 8, 8, 8, 8, 8, 8, 8, 8]⟩ : ByteArray) : Nat) : Int)) <|
  some (IntKind.i64.wrap (n2 + (IntKind.i64.wrap (bt (⟨#[0, 1, 2, 2, 3, 3, 3, 3, 4, 4, 4, 4, 4, 4, 4, 4, 5, 5, 5, 5, 5, 5, 5, 5, 5, 5, 5, 5, 5, 5, 5, 5, 6, 6, 6, 6, 6, 6, 6, 6, 6, 6, 6, 6, 6, 6, 6, 6, 6, 6, 6, 6, 6, 6, 6, 6, 6, 6, 6, 6, 6, 6, 6, 6, 7, 7, 7, 7, 7, 7, 7, 7, 7, 7, 7, 7, 7, 7, 7, 7, 7, 7, 7, 7, 7, 7, 7, 7, 7, 7, 7, 7, 7, 7, 7, 7, 7, 7, 7, 7, 7, 7, 7, 7, 7, 7, 7, 7, 7, 7, 7, 7, 7, 7, 7, 7, 7, 7, 7, 7, 7, 7, 7, 7, 7, 7, 7, 7, 8, 8, 8, 8, 8, 8, 8, 8, 8, 8, 8, 8, 8, 8, 8, 8, 8, 8, 8, 8, 8, 8, 8, 8, 8, 8, 8, 8, 8, 8, 8, 8, 8, 8, 8, 8, 8, 8, 8, 8, 8, 8, 8, 8, 8, 8, 8, 8, 8, 8, 8, 8, 8, 8, 8, 8, 8, 8, 8, 8, 8, 8, 8, 8, 8, 8, 8, 8, 8, 8, 8, 8, 8, 8, 8, 8, 8, 8, 8, 8, 8, 8, 8, 8, 8, 8, 8, 8, 8, 8, 8, 8, 8, 8, 8, 8, 8, 8, 8, 8, 8, 8, 8, 8, 8, 8, 8, 8, 8, 8, 8, 8, 8, 8, 8, 8, 8, 8, 8, 8, 8, 8, 8, 8, 8, 8, 8, 8]⟩ : ByteArray) (IntKind.u8.wrap x0)))))

noncomputable def jW (x0 : Int) (n2 : Int) : Option Int :=
  cond (decide ((256 : Int) ≤ x0))
  (bE (0 ≤ (8 : Int)) <|
  kW (Int.fdiv x0 (2 ^ (min (Int.toNat (8 : Int)) 64))) (IntKind.i64.wrap (n2 + (8 : Int))))
  (kW x0 n2)

noncomputable def kA (x0 : Int) (n2 : Int) : Option Int :=
  cond (decide ((65536 : Int) ≤ x0))
  (bE (0 ≤ (16 : Int)) <|
  jW (Int.fdiv x0 (2 ^ (min (Int.toNat (16 : Int)) 64))) (IntKind.i64.wrap (n2 + (16 : Int))))
  (jW x0 n2)

noncomputable def mP (x0 : Int) : Option Int :=
  cond (decide ((4294967296 : Int) ≤ x0))
  (bE (0 ≤ (32 : Int)) <|
  kA (Int.fdiv x0 (2 ^ (min (Int.toNat (32 : Int)) 64))) (32 : Int))
  (kA x0 (0 : Int))

noncomputable def jM (x0 : Int) : Option Int :=
  (mP x0).bind fun x2 =>
  some x2

noncomputable def cW (x0 : Int) (y1 : Int) : Option Bool :=
  (kL x0).bind fun x1 =>
  (dW x1 (kL y1)).bind fun x4 =>
  some ((x1 && (!x4)) || (decide (x0 < y1)))

noncomputable def fN (aA : List Int) (a1 : Int) (b2 : Int) (i6 : Int) : Option ((List Int × Int) ⊕ ((List Int))) :=
  some (.inl (aA, IntKind.i64.wrap (i6 + (1 : Int))))

noncomputable def eM (a1 : Int) (b2 : Int) (i6 : Int) (aA : List Int) (j7 : Int) : Option ((List Int × Int) ⊕ ((List Int))) :=
  bE ((((decide (a1 < j7))) = true → 0 ≤ j7 ∧ j7 < ((List.length aA : Nat) : Int))) <|
  bE ((((decide (a1 < j7))) = true → 0 ≤ (IntKind.i64.wrap (j7 - (1 : Int))) ∧ (IntKind.i64.wrap (j7 - (1 : Int))) < ((List.length aA : Nat) : Int))) <|
  (dW (decide (a1 < j7)) (cW (List.getD aA (Int.toNat j7) default) (List.getD aA (Int.toNat (IntKind.i64.wrap (j7 - (1 : Int)))) default))).bind fun x4 =>
  cond ((decide (a1 < j7)) && x4)
  (bE (0 ≤ (IntKind.i64.wrap (j7 - (1 : Int))) ∧ (IntKind.i64.wrap (j7 - (1 : Int))) < ((List.length aA : Nat) : Int)) <|
  bE (0 ≤ j7 ∧ j7 < ((List.length aA : Nat) : Int)) <|
  bE (0 ≤ j7 ∧ j7 < ((List.length aA : Nat) : Int)) <|
  bE (0 ≤ (IntKind.i64.wrap (j7 - (1 : Int))) ∧ (IntKind.i64.wrap (j7 - (1 : Int))) < ((List.length aA : Nat) : Int)) <|
  some (.inl (List.set (List.set aA (Int.toNat j7) (List.getD aA (Int.toNat (IntKind.i64.wrap (j7 - (1 : Int)))) default)) (Int.toNat (IntKind.i64.wrap (j7 - (1 : Int)))) (List.getD aA (Int.toNat j7) default), IntKind.i64.wrap (j7 - (1 : Int)))))
  (some (.inr aA))

noncomputable def iN (aA : List Int) (a1 : Int) (b2 : Int) (i6 : Int) (j7 : Int) : Option ((List Int × Int) ⊕ ((List Int))) :=
  (lp (fun s => eM a1 b2 i6 s.1 s.2) (aA, j7)).bind (fun rr => fN rr a1 b2 i6)

noncomputable def cY (a1 : Int) (b2 : Int) (aA : List Int) (i6 : Int) : Option ((List Int × Int) ⊕ ((List Int))) :=
  cond (decide (i6 < b2))
  (iN aA a1 b2 i6 i6)
  (some (.inr aA))

noncomputable def iQ (aA : List Int) (a1 : Int) (b2 : Int) (i6 : Int) : Option (List Int) :=
  (lp (fun s => cY a1 b2 s.1 s.2) (aA, i6)).bind (fun rr => some rr)

noncomputable def fU (aA : (List Int)) (a1 : Int) (b2 : Int) : Option (List Int) :=
  iQ aA a1 b2 (IntKind.i64.wrap (a1 + (1 : Int)))

noncomputable def fR (aA : List Int) (hi2 : Int) (aZ : Int) (bY : Int) (dN : Int) : Option ((List Int × Int) ⊕ ((List Int) ⊕ (List Int))) :=
  bE (0 ≤ (IntKind.i64.wrap (aZ + bY)) ∧ (IntKind.i64.wrap (aZ + bY)) < ((List.length aA : Nat) : Int)) <|
  bE (0 ≤ (IntKind.i64.wrap (aZ + dN)) ∧ (IntKind.i64.wrap (aZ + dN)) < ((List.length aA : Nat) : Int)) <|
  (cW (List.getD aA (Int.toNat (IntKind.i64.wrap (aZ + bY))) default) (List.getD aA (Int.toNat (IntKind.i64.wrap (aZ + dN))) default)).bind fun x4 =>
  cond (!x4)
  (some (.inr (.inr aA)))
  (bE (0 ≤ (IntKind.i64.wrap (aZ + dN)) ∧ (IntKind.i64.wrap (aZ + dN)) < ((List.length aA : Nat) : Int)) <|
  bE (0 ≤ (IntKind.i64.wrap (aZ + bY)) ∧ (IntKind.i64.wrap (aZ + bY)) < ((List.length aA : Nat) : Int)) <|
  bE (0 ≤ (IntKind.i64.wrap (aZ + bY)) ∧ (IntKind.i64.wrap (aZ + bY)) < ((List.length aA : Nat) : Int)) <|
  bE (0 ≤ (IntKind.i64.wrap (aZ + dN)) ∧ (IntKind.i64.wrap (aZ + dN)) < ((List.length aA : Nat) : Int)) <|
  some (.inl (List.set (List.set aA (Int.toNat (IntKind.i64.wrap (aZ + bY))) (List.getD aA (Int.toNat (IntKind.i64.wrap (aZ + dN))) default)) (Int.toNat (IntKind.i64.wrap (aZ + dN))) (List.getD aA (Int.toNat (IntKind.i64.wrap (aZ + bY))) default), dN)))

noncomputable def cU (hi2 : Int) (aZ : Int) (aA : List Int) (bY : Int) : Option ((List Int × Int) ⊕ ((List Int) ⊕ (List Int))) :=
  cond (decide (hi2 ≤ (IntKind.i64.wrap ((IntKind.i64.wrap ((2 : Int) * bY)) + (1 : Int)))))
  (some (.inr (.inl aA)))
  (bE ((((decide ((IntKind.i64.wrap ((IntKind.i64.wrap ((IntKind.i64.wrap ((2 : Int) * bY)) + (1 : Int))) + (1 : Int))) < hi2))) = true → 0 ≤ (IntKind.i64.wrap (aZ + (IntKind.i64.wrap ((IntKind.i64.wrap ((2 : Int) * bY)) + (1 : Int))))) ∧ (IntKind.i64.wrap (aZ + (IntKind.i64.wrap ((IntKind.i64.wrap ((2 : Int) * bY)) + (1 : Int))))) < ((List.length aA : Nat) : Int))) <|
  bE ((((decide ((IntKind.i64.wrap ((IntKind.i64.wrap ((IntKind.i64.wrap ((2 : Int) * bY)) + (1 : Int))) + (1 : Int))) < hi2))) = true → 0 ≤ (IntKind.i64.wrap ((IntKind.i64.wrap (aZ + (IntKind.i64.wrap ((IntKind.i64.wrap ((2 : Int) * bY)) + (1 : Int))))) + (1 : Int))) ∧ (IntKind.i64.wrap ((IntKind.i64.wrap (aZ + (IntKind.i64.wrap ((IntKind.i64.wrap ((2 : Int) * bY)) + (1 : Int))))) + (1 : Int))) < ((List.length aA : Nat) : Int))) <|
  (dW (decide ((IntKind.i64.wrap ((IntKind.i64.wrap ((IntKind.i64.wrap ((2 : Int) * bY)) + (1 : Int))) + (1 : Int))) < hi2)) (cW (List.getD aA (Int.toNat (IntKind.i64.wrap (aZ + (IntKind.i64.wrap ((IntKind.i64.wrap ((2 : Int) * bY)) + (1 : Int)))))) default) (List.getD aA (Int.toNat (IntKind.i64.wrap ((IntKind.i64.wrap (aZ + (IntKind.i64.wrap ((IntKind.i64.wrap ((2 : Int) * bY)) + (1 : Int))))) + (1 : Int)))) default))).bind fun x14 =>
  cond ((decide ((IntKind.i64.wrap ((IntKind.i64.wrap ((IntKind.i64.wrap ((2 : Int) * bY)) + (1 : Int))) + (1 : Int))) < hi2)) && x14)
  (fR aA hi2 aZ bY (IntKind.i64.wrap ((IntKind.i64.wrap ((IntKind.i64.wrap ((2 : Int) * bY)) + (1 : Int))) + (1 : Int))))
  (fR aA hi2 aZ bY (IntKind.i64.wrap ((IntKind.i64.wrap ((2 : Int) * bY)) + (1 : Int)))))

noncomputable def jT (aA : List Int) (hi2 : Int) (aZ : Int) (bY : Int) : Option (List Int) :=
  (lp (fun s => cU hi2 aZ s.1 s.2) (aA, bY)).bind (Sum.elim (fun rr => some rr) (fun rr => some rr))

noncomputable def eV (aA : (List Int)) (lo1 : Int) (hi2 : Int) (aZ : Int) : Option (List Int) :=
  jT aA hi2 aZ lo1

noncomputable def dQ (bI : Int) (lo7 : Int) (aA : List Int) (i10 : Int) : Option ((List Int × Int) ⊕ ((List Int))) :=
  cond (decide ((0 : Int) ≤ i10))
  (bE (0 ≤ (IntKind.i64.wrap (bI + i10)) ∧ (IntKind.i64.wrap (bI + i10)) < ((List.length aA : Nat) : Int)) <|
  bE (0 ≤ bI ∧ bI < ((List.length aA : Nat) : Int)) <|
  bE (0 ≤ bI ∧ bI < ((List.length aA : Nat) : Int)) <|
  bE (0 ≤ (IntKind.i64.wrap (bI + i10)) ∧ (IntKind.i64.wrap (bI + i10)) < ((List.length aA : Nat) : Int)) <|
  (eV (List.set (List.set aA (Int.toNat bI) (List.getD aA (Int.toNat (IntKind.i64.wrap (bI + i10))) default)) (Int.toNat (IntKind.i64.wrap (bI + i10))) (List.getD aA (Int.toNat bI) default)) lo7 i10 bI).bind fun x6 =>
  some (.inl (x6, IntKind.i64.wrap (i10 - (1 : Int)))))
  (some (.inr aA))

noncomputable def jU (aA : List Int) (bI : Int) (lo7 : Int) (i10 : Int) : Option (List Int) :=
  (lp (fun s => dQ bI lo7 s.1 s.2) (aA, i10)).bind (fun rr => some rr)

noncomputable def iK (aA : List Int) (bI : Int) (lo7 : Int) (hi8 : Int) : Option (List Int) :=
  jU aA bI lo7 (IntKind.i64.wrap (hi8 - (1 : Int)))

noncomputable def dR (bI : Int) (lo7 : Int) (hi8 : Int) (aA : List Int) (i9 : Int) : Option ((List Int × Int) ⊕ ((List Int))) :=
  cond (decide ((0 : Int) ≤ i9))
  ((eV aA i9 hi8 bI).bind fun x11 =>
  some (.inl (x11, IntKind.i64.wrap (i9 - (1 : Int)))))
  (some (.inr aA))

noncomputable def jV (aA : List Int) (bI : Int) (lo7 : Int) (hi8 : Int) (i9 : Int) : Option (List Int) :=
  (lp (fun s => dR bI lo7 hi8 s.1 s.2) (aA, i9)).bind (fun rr => iK rr bI lo7 hi8)

noncomputable def iT (aA : (List Int)) (a1 : Int) (b2 : Int) : Option (List Int) :=
  bE ((2 : Int) ≠ 0) <|
  jV aA a1 (0 : Int) (IntKind.i64.wrap (b2 - a1)) (IntKind.i64.wrap (Int.tdiv (IntKind.i64.wrap ((IntKind.i64.wrap (b2 - a1)) - (1 : Int))) (2 : Int)))

noncomputable def kG (xO : Int) : Option Int :=
  (jM (IntKind.u64.wrap xO)).bind fun x1 =>
  bE (0 ≤ x1) <|
  some (IntKind.u64.wrap ((1 : Int) * 2 ^ (min (Int.toNat x1) 64)))

noncomputable def kP (r0 : Int) : Option (Int × Int) :=
  bE (0 ≤ (13 : Int)) <|
  bE (0 ≤ (7 : Int)) <|
  bE (0 ≤ (17 : Int)) <|
  some (bH .xor .u64 (bH .xor .u64 (bH .xor .u64 r0 (IntKind.u64.wrap (r0 * 2 ^ (min (Int.toNat (13 : Int)) 64)))) (Int.fdiv (bH .xor .u64 r0 (IntKind.u64.wrap (r0 * 2 ^ (min (Int.toNat (13 : Int)) 64)))) (2 ^ (min (Int.toNat (7 : Int)) 64)))) (IntKind.u64.wrap ((bH .xor .u64 (bH .xor .u64 r0 (IntKind.u64.wrap (r0 * 2 ^ (min (Int.toNat (13 : Int)) 64)))) (Int.fdiv (bH .xor .u64 r0 (IntKind.u64.wrap (r0 * 2 ^ (min (Int.toNat (13 : Int)) 64)))) (2 ^ (min (Int.toNat (7 : Int)) 64)))) * 2 ^ (min (Int.toNat (17 : Int)) 64))), bH .xor .u64 (bH .xor .u64 (bH .xor .u64 r0 (IntKind.u64.wrap (r0 * 2 ^ (min (Int.toNat (13 : Int)) 64)))) (Int.fdiv (bH .xor .u64 r0 (IntKind.u64.wrap (r0 * 2 ^ (min (Int.toNat (13 : Int)) 64)))) (2 ^ (min (Int.toNat (7 : Int)) 64)))) (IntKind.u64.wrap ((bH .xor .u64 (bH .xor .u64 r0 (IntKind.u64.wrap (r0 * 2 ^ (min (Int.toNat (13 : Int)) 64)))) (Int.fdiv (bH .xor .u64 r0 (IntKind.u64.wrap (r0 * 2 ^ (min (Int.toNat (13 : Int)) 64)))) (2 ^ (min (Int.toNat (7 : Int)) 64)))) * 2 ^ (min (Int.toNat (17 : Int)) 64))))

noncomputable def eN (aA : List Int) (a1 : Int) (jG : Int) (kM : Int) (iE : Int) (idx9 : Int) (fB : Int) : Option ((List Int × Int × Int) ⊕ ((List Int))) :=
  bE (0 ≤ (IntKind.i64.wrap (a1 + fB)) ∧ (IntKind.i64.wrap (a1 + fB)) < ((List.length aA : Nat) : Int)) <|
  bE (0 ≤ idx9 ∧ idx9 < ((List.length aA : Nat) : Int)) <|
  bE (0 ≤ idx9 ∧ idx9 < ((List.length aA : Nat) : Int)) <|
  bE (0 ≤ (IntKind.i64.wrap (a1 + fB)) ∧ (IntKind.i64.wrap (a1 + fB)) < ((List.length aA : Nat) : Int)) <|
  some (.inl (List.set (List.set aA (Int.toNat idx9) (List.getD aA (Int.toNat (IntKind.i64.wrap (a1 + fB))) default)) (Int.toNat (IntKind.i64.wrap (a1 + fB))) (List.getD aA (Int.toNat idx9) default), kM, IntKind.i64.wrap (idx9 + (1 : Int))))

noncomputable def cP (a1 : Int) (jG : Int) (iE : Int) (aA : List Int) (kM : Int) (idx9 : Int) : Option ((List Int × Int × Int) ⊕ ((List Int))) :=
  bE ((4 : Int) ≠ 0) <|
  cond (decide (idx9 ≤ (IntKind.i64.wrap ((IntKind.i64.wrap (a1 + (IntKind.i64.wrap ((IntKind.i64.wrap (Int.tdiv jG (4 : Int))) * (2 : Int))))) + (1 : Int)))))
  ((kP kM).bind fun x9 =>
  cond (decide (jG ≤ (IntKind.i64.wrap (bH .and .u64 x9.1 (IntKind.u64.wrap (iE - (1 : Int)))))))
  (eN aA a1 jG x9.2 iE idx9 (IntKind.i64.wrap ((IntKind.i64.wrap (bH .and .u64 x9.1 (IntKind.u64.wrap (iE - (1 : Int))))) - jG)))
  (eN aA a1 jG x9.2 iE idx9 (IntKind.i64.wrap (bH .and .u64 x9.1 (IntKind.u64.wrap (iE - (1 : Int)))))))
  (some (.inr aA))

noncomputable def iR (aA : List Int) (a1 : Int) (jG : Int) (kM : Int) (iE : Int) (idx9 : Int) : Option (List Int) :=
  (lp (fun s => cP a1 jG iE s.1 s.2.1 s.2.2) (aA, kM, idx9)).bind (fun rr => some rr)

noncomputable def fT (aA : (List Int)) (a1 : Int) (b2 : Int) : Option (List Int) :=
  cond (decide ((8 : Int) ≤ (IntKind.i64.wrap (b2 - a1))))
  ((kG (IntKind.i64.wrap (b2 - a1))).bind fun x3 =>
  bE ((4 : Int) ≠ 0) <|
  iR aA a1 (IntKind.i64.wrap (b2 - a1)) (IntKind.u64.wrap (IntKind.i64.wrap (b2 - a1))) x3 (IntKind.i64.wrap ((IntKind.i64.wrap (a1 + (IntKind.i64.wrap ((IntKind.i64.wrap (Int.tdiv (IntKind.i64.wrap (b2 - a1)) (4 : Int))) * (2 : Int))))) - (1 : Int))))
  (some aA)

noncomputable def fG (aA : (List Int)) (a1 : Int) (b2 : Int) (pL : Int) : Option ((Int × Int) × Int) :=
  bE (0 ≤ b2 ∧ b2 < ((List.length aA : Nat) : Int)) <|
  bE (0 ≤ a1 ∧ a1 < ((List.length aA : Nat) : Int)) <|
  (cW (List.getD aA (Int.toNat b2) default) (List.getD aA (Int.toNat a1) default)).bind fun x3 =>
  cond x3
  (some ((b2, a1), IntKind.i64.wrap (pL + (1 : Int))))
  (some ((a1, b2), pL))

noncomputable def gY (aA : (List Int)) (a1 : Int) (b2 : Int) (c3 : Int) (AG : Int) : Option (Int × Int) :=
  (fG aA a1 b2 AG).bind fun x1 =>
  (fG aA x1.1.2 c3 x1.2).bind fun x6 =>
  (fG aA x1.1.1 x6.1.1 x6.2).bind fun x11 =>
  some (x11.1.2, x11.2)

noncomputable def dM (aA : (List Int)) (a1 : Int) (zP : Int) : Option (Int × Int) :=
  (gY aA (IntKind.i64.wrap (a1 - (1 : Int))) a1 (IntKind.i64.wrap (a1 + (1 : Int))) zP).bind fun x1 =>
  some (x1.1, x1.2)

noncomputable def eU (aA : List Int) (lE : Int) (j11 : Int) : Option (Int × Int) :=
  cond (decide (lE = (0 : Int)))
  (some (j11, (1 : Int)))
  (cond (decide (lE = (12 : Int)))
  (some (j11, (2 : Int)))
  (some (j11, (0 : Int))))

noncomputable def eT (aA : List Int) (lE : Int) (i10 : Int) (j11 : Int) (k12 : Int) : Option (Int × Int) :=
  (gY aA i10 j11 k12 lE).bind fun x8 =>
  eU aA x8.2 x8.1

noncomputable def gP (aA : (List Int)) (a1 : Int) (b2 : Int) : Option (Int × Int) :=
  bE ((4 : Int) ≠ 0) <|
  bE ((4 : Int) ≠ 0) <|
  bE ((4 : Int) ≠ 0) <|
  cond (decide ((8 : Int) ≤ (IntKind.i64.wrap (b2 - a1))))
  (cond (decide ((50 : Int) ≤ (IntKind.i64.wrap (b2 - a1))))
  ((dM aA (IntKind.i64.wrap (a1 + (IntKind.i64.wrap ((IntKind.i64.wrap (Int.tdiv (IntKind.i64.wrap (b2 - a1)) (4 : Int))) * (1 : Int))))) 0).bind fun x14 =>
  (dM aA (IntKind.i64.wrap (a1 + (IntKind.i64.wrap ((IntKind.i64.wrap (Int.tdiv (IntKind.i64.wrap (b2 - a1)) (4 : Int))) * (2 : Int))))) x14.2).bind fun x19 =>
  (dM aA (IntKind.i64.wrap (a1 + (IntKind.i64.wrap ((IntKind.i64.wrap (Int.tdiv (IntKind.i64.wrap (b2 - a1)) (4 : Int))) * (3 : Int))))) x19.2).bind fun x24 =>
  eT aA x24.2 x14.1 x19.1 x24.1)
  (eT aA 0 (IntKind.i64.wrap (a1 + (IntKind.i64.wrap ((IntKind.i64.wrap (Int.tdiv (IntKind.i64.wrap (b2 - a1)) (4 : Int))) * (1 : Int))))) (IntKind.i64.wrap (a1 + (IntKind.i64.wrap ((IntKind.i64.wrap (Int.tdiv (IntKind.i64.wrap (b2 - a1)) (4 : Int))) * (2 : Int))))) (IntKind.i64.wrap (a1 + (IntKind.i64.wrap ((IntKind.i64.wrap (Int.tdiv (IntKind.i64.wrap (b2 - a1)) (4 : Int))) * (3 : Int)))))))
  (eU aA 0 (IntKind.i64.wrap (a1 + (IntKind.i64.wrap ((IntKind.i64.wrap (Int.tdiv (IntKind.i64.wrap (b2 - a1)) (4 : Int))) * (2 : Int))))))

noncomputable def dA  (aA : List Int) (i6 : Int) (j7 : Int) : Option ((List Int × Int × Int) ⊕ ((List Int))) :=
  cond (decide (i6 < j7))
  (bE (0 ≤ j7 ∧ j7 < ((List.length aA : Nat) : Int)) <|
  bE (0 ≤ i6 ∧ i6 < ((List.length aA : Nat) : Int)) <|
  bE (0 ≤ i6 ∧ i6 < ((List.length aA : Nat) : Int)) <|
  bE (0 ≤ j7 ∧ j7 < ((List.length aA : Nat) : Int)) <|
  some (.inl (List.set (List.set aA (Int.toNat i6) (List.getD aA (Int.toNat j7) default)) (Int.toNat j7) (List.getD aA (Int.toNat i6) default), IntKind.i64.wrap (i6 + (1 : Int)), IntKind.i64.wrap (j7 - (1 : Int)))))
  (some (.inr aA))

noncomputable def iV (aA : List Int) (i6 : Int) (j7 : Int) : Option (List Int) :=
  (lp (fun s => dA s.1 s.2.1 s.2.2) (aA, i6, j7)).bind (fun rr => some rr)

noncomputable def gI (aA : (List Int)) (a1 : Int) (b2 : Int) : Option (List Int) :=
  iV aA a1 (IntKind.i64.wrap (b2 - (1 : Int)))

noncomputable def eA (aA : List Int) : Option (Bool × List Int) :=
  some (false, aA)

noncomputable def dF (aA : List Int) (a1 : Int) (b2 : Int) (i7 : Int) (j8 : Int) : Option ((List Int × Int × Int) ⊕ ((List Int) ⊕ (Bool × (List Int)))) :=
  some (.inl (aA, i7, IntKind.i64.wrap (j8 + (1 : Int))))

noncomputable def cL (a1 : Int) (b2 : Int) (i7 : Int) (j8 : Int) (aA : List Int) (j10 : Int) : Option ((List Int × Int) ⊕ ((List Int))) :=
  cond (decide (j10 < b2))
  (bE (0 ≤ j10 ∧ j10 < ((List.length aA : Nat) : Int)) <|
  bE (0 ≤ (IntKind.i64.wrap (j10 - (1 : Int))) ∧ (IntKind.i64.wrap (j10 - (1 : Int))) < ((List.length aA : Nat) : Int)) <|
  (cW (List.getD aA (Int.toNat j10) default) (List.getD aA (Int.toNat (IntKind.i64.wrap (j10 - (1 : Int)))) default)).bind fun x12 =>
  cond (!x12)
  (some (.inr aA))
  (bE (0 ≤ (IntKind.i64.wrap (j10 - (1 : Int))) ∧ (IntKind.i64.wrap (j10 - (1 : Int))) < ((List.length aA : Nat) : Int)) <|
  bE (0 ≤ j10 ∧ j10 < ((List.length aA : Nat) : Int)) <|
  bE (0 ≤ j10 ∧ j10 < ((List.length aA : Nat) : Int)) <|
  bE (0 ≤ (IntKind.i64.wrap (j10 - (1 : Int))) ∧ (IntKind.i64.wrap (j10 - (1 : Int))) < ((List.length aA : Nat) : Int)) <|
  some (.inl (List.set (List.set aA (Int.toNat j10) (List.getD aA (Int.toNat (IntKind.i64.wrap (j10 - (1 : Int)))) default)) (Int.toNat (IntKind.i64.wrap (j10 - (1 : Int)))) (List.getD aA (Int.toNat j10) default), IntKind.i64.wrap (j10 + (1 : Int))))))
  (some (.inr aA))

noncomputable def fM (aA : List Int) (a1 : Int) (b2 : Int) (i7 : Int) (j8 : Int) (j10 : Int) : Option ((List Int × Int × Int) ⊕ ((List Int) ⊕ (Bool × (List Int)))) :=
  (lp (fun s => cL a1 b2 i7 j8 s.1 s.2) (aA, j10)).bind (fun rr => dF rr a1 b2 i7 j8)

noncomputable def cD (aA : List Int) (a1 : Int) (b2 : Int) (i7 : Int) (j8 : Int) : Option ((List Int × Int × Int) ⊕ ((List Int) ⊕ (Bool × (List Int)))) :=
  cond (decide ((2 : Int) ≤ (IntKind.i64.wrap (b2 - i7))))
  (fM aA a1 b2 i7 j8 (IntKind.i64.wrap (i7 + (1 : Int))))
  (dF aA a1 b2 i7 j8)

noncomputable def cC (a1 : Int) (b2 : Int) (i7 : Int) (j8 : Int) (aA : List Int) (j9 : Int) : Option ((List Int × Int) ⊕ ((List Int))) :=
  cond (decide ((1 : Int) ≤ j9))
  (bE (0 ≤ j9 ∧ j9 < ((List.length aA : Nat) : Int)) <|
  bE (0 ≤ (IntKind.i64.wrap (j9 - (1 : Int))) ∧ (IntKind.i64.wrap (j9 - (1 : Int))) < ((List.length aA : Nat) : Int)) <|
  (cW (List.getD aA (Int.toNat j9) default) (List.getD aA (Int.toNat (IntKind.i64.wrap (j9 - (1 : Int)))) default)).bind fun x24 =>
  cond (!x24)
  (some (.inr aA))
  (bE (0 ≤ (IntKind.i64.wrap (j9 - (1 : Int))) ∧ (IntKind.i64.wrap (j9 - (1 : Int))) < ((List.length aA : Nat) : Int)) <|
  bE (0 ≤ j9 ∧ j9 < ((List.length aA : Nat) : Int)) <|
  bE (0 ≤ j9 ∧ j9 < ((List.length aA : Nat) : Int)) <|
  bE (0 ≤ (IntKind.i64.wrap (j9 - (1 : Int))) ∧ (IntKind.i64.wrap (j9 - (1 : Int))) < ((List.length aA : Nat) : Int)) <|
  some (.inl (List.set (List.set aA (Int.toNat j9) (List.getD aA (Int.toNat (IntKind.i64.wrap (j9 - (1 : Int)))) default)) (Int.toNat (IntKind.i64.wrap (j9 - (1 : Int)))) (List.getD aA (Int.toNat j9) default), IntKind.i64.wrap (j9 - (1 : Int))))))
  (some (.inr aA))

noncomputable def fL (aA : List Int) (a1 : Int) (b2 : Int) (i7 : Int) (j8 : Int) (j9 : Int) : Option ((List Int × Int × Int) ⊕ ((List Int) ⊕ (Bool × (List Int)))) :=
  (lp (fun s => cC a1 b2 i7 j8 s.1 s.2) (aA, j9)).bind (fun rr => cD rr a1 b2 i7 j8)

noncomputable def dZ (aA : List Int) (a1 : Int) (b2 : Int) (i7 : Int) (j8 : Int) : Option ((List Int × Int × Int) ⊕ ((List Int) ⊕ (Bool × (List Int)))) :=
  cond (decide (i7 = b2))
  (some (.inr (.inr (true, aA))))
  (cond (decide ((IntKind.i64.wrap (b2 - a1)) < (50 : Int)))
  (some (.inr (.inr (false, aA))))
  (bE (0 ≤ (IntKind.i64.wrap (i7 - (1 : Int))) ∧ (IntKind.i64.wrap (i7 - (1 : Int))) < ((List.length aA : Nat) : Int)) <|
  bE (0 ≤ i7 ∧ i7 < ((List.length aA : Nat) : Int)) <|
  bE (0 ≤ i7 ∧ i7 < ((List.length aA : Nat) : Int)) <|
  bE (0 ≤ (IntKind.i64.wrap (i7 - (1 : Int))) ∧ (IntKind.i64.wrap (i7 - (1 : Int))) < ((List.length aA : Nat) : Int)) <|
  cond (decide ((2 : Int) ≤ (IntKind.i64.wrap (i7 - a1))))
  (fL (List.set (List.set aA (Int.toNat i7) (List.getD aA (Int.toNat (IntKind.i64.wrap (i7 - (1 : Int)))) default)) (Int.toNat (IntKind.i64.wrap (i7 - (1 : Int)))) (List.getD aA (Int.toNat i7) default)) a1 b2 i7 j8 (IntKind.i64.wrap (i7 - (1 : Int))))
  (cD (List.set (List.set aA (Int.toNat i7) (List.getD aA (Int.toNat (IntKind.i64.wrap (i7 - (1 : Int)))) default)) (Int.toNat (IntKind.i64.wrap (i7 - (1 : Int)))) (List.getD aA (Int.toNat i7) default)) a1 b2 i7 j8)))

noncomputable def cK (a1 : Int) (b2 : Int) (j8 : Int) (aA : List Int) (i7 : Int) : Option ((List Int × Int) ⊕ ((List Int × Int))) :=
  bE ((((decide (i7 < b2))) = true → 0 ≤ i7 ∧ i7 < ((List.length aA : Nat) : Int))) <|
  bE ((((decide (i7 < b2))) = true → 0 ≤ (IntKind.i64.wrap (i7 - (1 : Int))) ∧ (IntKind.i64.wrap (i7 - (1 : Int))) < ((List.length aA : Nat) : Int))) <|
  (dW (decide (i7 < b2)) (cW (List.getD aA (Int.toNat i7) default) (List.getD aA (Int.toNat (IntKind.i64.wrap (i7 - (1 : Int)))) default))).bind fun x34 =>
  cond ((decide (i7 < b2)) && (!x34))
  (some (.inl (aA, IntKind.i64.wrap (i7 + (1 : Int)))))
  (some (.inr (aA, i7)))

noncomputable def cR (aA : List Int) (a1 : Int) (b2 : Int) (i7 : Int) (j8 : Int) : Option ((List Int × Int × Int) ⊕ ((List Int) ⊕ (Bool × (List Int)))) :=
  (lp (fun s => cK a1 b2 j8 s.1 s.2) (aA, i7)).bind (fun rr => dZ rr.1 a1 b2 rr.2 j8)

noncomputable def bR (a1 : Int) (b2 : Int) (aA : List Int) (i7 : Int) (j8 : Int) : Option ((List Int × Int × Int) ⊕ ((List Int) ⊕ (Bool × (List Int)))) :=
  cond (decide (j8 < (5 : Int)))
  (cR aA a1 b2 i7 j8)
  (some (.inr (.inl aA)))

noncomputable def fK (aA : List Int) (a1 : Int) (b2 : Int) (i7 : Int) (j8 : Int) : Option (Bool × List Int) :=
  (lp (fun s => bR a1 b2 s.1 s.2.1 s.2.2) (aA, i7, j8)).bind (Sum.elim (fun rr => eA rr) (fun rr => some (rr.1, rr.2)))

noncomputable def eE (aA : (List Int)) (a1 : Int) (b2 : Int) : Option (Bool × List Int) :=
  fK aA a1 b2 (IntKind.i64.wrap (a1 + (1 : Int))) (0 : Int)

noncomputable def iJ (aA : List Int) (i9 : Int) : Option (Int × List Int) :=
  some (i9, aA)

noncomputable def dG (aA : List Int) (a1 : Int) (i9 : Int) (j10 : Int) : Option ((List Int × Int × Int) ⊕ ((List Int × Int))) :=
  cond (decide (j10 < i9))
  (some (.inr (aA, i9)))
  (bE (0 ≤ j10 ∧ j10 < ((List.length aA : Nat) : Int)) <|
  bE (0 ≤ i9 ∧ i9 < ((List.length aA : Nat) : Int)) <|
  bE (0 ≤ i9 ∧ i9 < ((List.length aA : Nat) : Int)) <|
  bE (0 ≤ j10 ∧ j10 < ((List.length aA : Nat) : Int)) <|
  some (.inl (List.set (List.set aA (Int.toNat i9) (List.getD aA (Int.toNat j10) default)) (Int.toNat j10) (List.getD aA (Int.toNat i9) default), IntKind.i64.wrap (i9 + (1 : Int)), IntKind.i64.wrap (j10 - (1 : Int)))))

noncomputable def dK (a1 : Int) (i9 : Int) (aA : List Int) (j10 : Int) : Option ((List Int × Int) ⊕ ((List Int × Int))) :=
  bE ((((decide (i9 ≤ j10))) = true → 0 ≤ a1 ∧ a1 < ((List.length aA : Nat) : Int))) <|
  bE ((((decide (i9 ≤ j10))) = true → 0 ≤ j10 ∧ j10 < ((List.length aA : Nat) : Int))) <|
  (dW (decide (i9 ≤ j10)) (cW (List.getD aA (Int.toNat a1) default) (List.getD aA (Int.toNat j10) default))).bind fun x12 =>
  cond ((decide (i9 ≤ j10)) && x12)
  (some (.inl (aA, IntKind.i64.wrap (j10 - (1 : Int)))))
  (some (.inr (aA, j10)))

noncomputable def iG (aA : List Int) (a1 : Int) (i9 : Int) (j10 : Int) : Option ((List Int × Int × Int) ⊕ ((List Int × Int))) :=
  (lp (fun s => dK a1 i9 s.1 s.2) (aA, j10)).bind (fun rr => dG rr.1 a1 i9 rr.2)

noncomputable def fE (aA : List Int) (a1 : Int) (i9 : Int) (j10 : Int) : Option ((List Int × Int × Int) ⊕ ((List Int × Int))) :=
  iG aA a1 i9 j10

noncomputable def dJ (a1 : Int) (j10 : Int) (aA : List Int) (i9 : Int) : Option ((List Int × Int) ⊕ ((List Int × Int))) :=
  bE ((((decide (i9 ≤ j10))) = true → 0 ≤ a1 ∧ a1 < ((List.length aA : Nat) : Int))) <|
  bE ((((decide (i9 ≤ j10))) = true → 0 ≤ i9 ∧ i9 < ((List.length aA : Nat) : Int))) <|
  (dW (decide (i9 ≤ j10)) (cW (List.getD aA (Int.toNat a1) default) (List.getD aA (Int.toNat i9) default))).bind fun x18 =>
  cond ((decide (i9 ≤ j10)) && (!x18))
  (some (.inl (aA, IntKind.i64.wrap (i9 + (1 : Int)))))
  (some (.inr (aA, i9)))

noncomputable def iH (aA : List Int) (a1 : Int) (i9 : Int) (j10 : Int) : Option ((List Int × Int × Int) ⊕ ((List Int × Int))) :=
  (lp (fun s => dJ a1 j10 s.1 s.2) (aA, i9)).bind (fun rr => fE rr.1 a1 rr.2 j10)

noncomputable def cO (a1 : Int) (aA : List Int) (i9 : Int) (j10 : Int) : Option ((List Int × Int × Int) ⊕ ((List Int × Int))) :=
  iH aA a1 i9 j10

noncomputable def iI (aA : List Int) (a1 : Int) (i9 : Int) (j10 : Int) : Option (Int × List Int) :=
  (lp (fun s => cO a1 s.1 s.2.1 s.2.2) (aA, i9, j10)).bind (fun rr => iJ rr.1 rr.2)

noncomputable def eJ (aA : (List Int)) (a1 : Int) (b2 : Int) (cE : Int) : Option (Int × List Int) :=
  bE (0 ≤ cE ∧ cE < ((List.length aA : Nat) : Int)) <|
  bE (0 ≤ a1 ∧ a1 < ((List.length aA : Nat) : Int)) <|
  bE (0 ≤ a1 ∧ a1 < ((List.length aA : Nat) : Int)) <|
  bE (0 ≤ cE ∧ cE < ((List.length aA : Nat) : Int)) <|
  iI (List.set (List.set aA (Int.toNat a1) (List.getD aA (Int.toNat cE) default)) (Int.toNat cE) (List.getD aA (Int.toNat a1) default)) a1 (IntKind.i64.wrap (a1 + (1 : Int))) (IntKind.i64.wrap (b2 - (1 : Int)))

noncomputable def gZ (aA : List Int) (a1 : Int) (j11 : Int) : Option ((Int × Bool) × List Int) :=
  bE (0 ≤ a1 ∧ a1 < ((List.length aA : Nat) : Int)) <|
  bE (0 ≤ j11 ∧ j11 < ((List.length aA : Nat) : Int)) <|
  bE (0 ≤ j11 ∧ j11 < ((List.length aA : Nat) : Int)) <|
  bE (0 ≤ a1 ∧ a1 < ((List.length aA : Nat) : Int)) <|
  some ((j11, false), (List.set (List.set aA (Int.toNat j11) (List.getD aA (Int.toNat a1) default)) (Int.toNat a1) (List.getD aA (Int.toNat j11) default)))

noncomputable def eD (aA : List Int) (a1 : Int) (i10 : Int) (j11 : Int) : Option ((List Int × Int × Int) ⊕ ((List Int × Int))) :=
  cond (decide (j11 < i10))
  (some (.inr (aA, j11)))
  (bE (0 ≤ j11 ∧ j11 < ((List.length aA : Nat) : Int)) <|
  bE (0 ≤ i10 ∧ i10 < ((List.length aA : Nat) : Int)) <|
  bE (0 ≤ i10 ∧ i10 < ((List.length aA : Nat) : Int)) <|
  bE (0 ≤ j11 ∧ j11 < ((List.length aA : Nat) : Int)) <|
  some (.inl (List.set (List.set aA (Int.toNat i10) (List.getD aA (Int.toNat j11) default)) (Int.toNat j11) (List.getD aA (Int.toNat i10) default), IntKind.i64.wrap (i10 + (1 : Int)), IntKind.i64.wrap (j11 - (1 : Int)))))

noncomputable def eH (a1 : Int) (i10 : Int) (aA : List Int) (j11 : Int) : Option ((List Int × Int) ⊕ ((List Int × Int))) :=
  bE ((((decide (i10 ≤ j11))) = true → 0 ≤ j11 ∧ j11 < ((List.length aA : Nat) : Int))) <|
  bE ((((decide (i10 ≤ j11))) = true → 0 ≤ a1 ∧ a1 < ((List.length aA : Nat) : Int))) <|
  (dW (decide (i10 ≤ j11)) (cW (List.getD aA (Int.toNat j11) default) (List.getD aA (Int.toNat a1) default))).bind fun x25 =>
  cond ((decide (i10 ≤ j11)) && (!x25))
  (some (.inl (aA, IntKind.i64.wrap (j11 - (1 : Int)))))
  (some (.inr (aA, j11)))

noncomputable def jK (aA : List Int) (a1 : Int) (i10 : Int) (j11 : Int) : Option ((List Int × Int × Int) ⊕ ((List Int × Int))) :=
  (lp (fun s => eH a1 i10 s.1 s.2) (aA, j11)).bind (fun rr => eD rr.1 a1 i10 rr.2)

noncomputable def iB (aA : List Int) (a1 : Int) (i10 : Int) (j11 : Int) : Option ((List Int × Int × Int) ⊕ ((List Int × Int))) :=
  jK aA a1 i10 j11

noncomputable def eG (a1 : Int) (j11 : Int) (aA : List Int) (i10 : Int) : Option ((List Int × Int) ⊕ ((List Int × Int))) :=
  bE ((((decide (i10 ≤ j11))) = true → 0 ≤ i10 ∧ i10 < ((List.length aA : Nat) : Int))) <|
  bE ((((decide (i10 ≤ j11))) = true → 0 ≤ a1 ∧ a1 < ((List.length aA : Nat) : Int))) <|
  (dW (decide (i10 ≤ j11)) (cW (List.getD aA (Int.toNat i10) default) (List.getD aA (Int.toNat a1) default))).bind fun x31 =>
  cond ((decide (i10 ≤ j11)) && x31)
  (some (.inl (aA, IntKind.i64.wrap (i10 + (1 : Int)))))
  (some (.inr (aA, i10)))

noncomputable def jN (aA : List Int) (a1 : Int) (i10 : Int) (j11 : Int) : Option ((List Int × Int × Int) ⊕ ((List Int × Int))) :=
  (lp (fun s => eG a1 j11 s.1 s.2) (aA, i10)).bind (fun rr => iB rr.1 a1 rr.2 j11)

noncomputable def cZ (a1 : Int) (aA : List Int) (i10 : Int) (j11 : Int) : Option ((List Int × Int × Int) ⊕ ((List Int × Int))) :=
  jN aA a1 i10 j11

noncomputable def jP (aA : List Int) (a1 : Int) (i10 : Int) (j11 : Int) : Option ((Int × Bool) × List Int) :=
  (lp (fun s => cZ a1 s.1 s.2.1 s.2.2) (aA, i10, j11)).bind (fun rr => gZ rr.1 a1 rr.2)

noncomputable def eF (aA : List Int) (a1 : Int) (i10 : Int) (j11 : Int) : Option ((Int × Bool) × List Int) :=
  cond (decide (j11 < i10))
  (bE (0 ≤ a1 ∧ a1 < ((List.length aA : Nat) : Int)) <|
  bE (0 ≤ j11 ∧ j11 < ((List.length aA : Nat) : Int)) <|
  bE (0 ≤ j11 ∧ j11 < ((List.length aA : Nat) : Int)) <|
  bE (0 ≤ a1 ∧ a1 < ((List.length aA : Nat) : Int)) <|
  some ((j11, true), (List.set (List.set aA (Int.toNat j11) (List.getD aA (Int.toNat a1) default)) (Int.toNat a1) (List.getD aA (Int.toNat j11) default))))
  (bE (0 ≤ j11 ∧ j11 < ((List.length aA : Nat) : Int)) <|
  bE (0 ≤ i10 ∧ i10 < ((List.length aA : Nat) : Int)) <|
  bE (0 ≤ i10 ∧ i10 < ((List.length aA : Nat) : Int)) <|
  bE (0 ≤ j11 ∧ j11 < ((List.length aA : Nat) : Int)) <|
  jP (List.set (List.set aA (Int.toNat i10) (List.getD aA (Int.toNat j11) default)) (Int.toNat j11) (List.getD aA (Int.toNat i10) default)) a1 (IntKind.i64.wrap (i10 + (1 : Int))) (IntKind.i64.wrap (j11 - (1 : Int))))

noncomputable def eC (a1 : Int) (i10 : Int) (aA : List Int) (j11 : Int) : Option ((List Int × Int) ⊕ ((List Int × Int))) :=
  bE ((((decide (i10 ≤ j11))) = true → 0 ≤ j11 ∧ j11 < ((List.length aA : Nat) : Int))) <|
  bE ((((decide (i10 ≤ j11))) = true → 0 ≤ a1 ∧ a1 < ((List.length aA : Nat) : Int))) <|
  (dW (decide (i10 ≤ j11)) (cW (List.getD aA (Int.toNat j11) default) (List.getD aA (Int.toNat a1) default))).bind fun x37 =>
  cond ((decide (i10 ≤ j11)) && (!x37))
  (some (.inl (aA, IntKind.i64.wrap (j11 - (1 : Int)))))
  (some (.inr (aA, j11)))

noncomputable def jL (aA : List Int) (a1 : Int) (i10 : Int) (j11 : Int) : Option ((Int × Bool) × List Int) :=
  (lp (fun s => eC a1 i10 s.1 s.2) (aA, j11)).bind (fun rr => eF rr.1 a1 i10 rr.2)

noncomputable def iA (aA : List Int) (a1 : Int) (i10 : Int) (j11 : Int) : Option ((Int × Bool) × List Int) :=
  jL aA a1 i10 j11

noncomputable def dY (a1 : Int) (j11 : Int) (aA : List Int) (i10 : Int) : Option ((List Int × Int) ⊕ ((List Int × Int))) :=
  bE ((((decide (i10 ≤ j11))) = true → 0 ≤ i10 ∧ i10 < ((List.length aA : Nat) : Int))) <|
  bE ((((decide (i10 ≤ j11))) = true → 0 ≤ a1 ∧ a1 < ((List.length aA : Nat) : Int))) <|
  (dW (decide (i10 ≤ j11)) (cW (List.getD aA (Int.toNat i10) default) (List.getD aA (Int.toNat a1) default))).bind fun x43 =>
  cond ((decide (i10 ≤ j11)) && x43)
  (some (.inl (aA, IntKind.i64.wrap (i10 + (1 : Int)))))
  (some (.inr (aA, i10)))

noncomputable def fA (aA : List Int) (a1 : Int) (i10 : Int) (j11 : Int) : Option ((Int × Bool) × List Int) :=
  (lp (fun s => dY a1 j11 s.1 s.2) (aA, i10)).bind (fun rr => iA rr.1 a1 rr.2 j11)

noncomputable def fP (aA : (List Int)) (a1 : Int) (b2 : Int) (cE : Int) : Option ((Int × Bool) × List Int) :=
  bE (0 ≤ cE ∧ cE < ((List.length aA : Nat) : Int)) <|
  bE (0 ≤ a1 ∧ a1 < ((List.length aA : Nat) : Int)) <|
  bE (0 ≤ a1 ∧ a1 < ((List.length aA : Nat) : Int)) <|
  bE (0 ≤ cE ∧ cE < ((List.length aA : Nat) : Int)) <|
  fA (List.set (List.set aA (Int.toNat a1) (List.getD aA (Int.toNat cE) default)) (Int.toNat cE) (List.getD aA (Int.toNat a1) default)) a1 (IntKind.i64.wrap (a1 + (1 : Int))) (IntKind.i64.wrap (b2 - (1 : Int)))

noncomputable def gE (rec : (List Int) → Int → Int → Int → Option (List Int)) (aA : List Int) (a1 : Int) (b2 : Int) (bT : Int) (bP : Bool) (bG : Bool) (dL : Int) (fC : Int) : Option ((List Int × Int × Int × Int × Bool × Bool) ⊕ ((List Int))) :=
  bE ((((decide ((0 : Int) < a1))) = true → 0 ≤ (IntKind.i64.wrap (a1 - (1 : Int))) ∧ (IntKind.i64.wrap (a1 - (1 : Int))) < ((List.length aA : Nat) : Int))) <|
  bE ((((decide ((0 : Int) < a1))) = true → 0 ≤ fC ∧ fC < ((List.length aA : Nat) : Int))) <|
  (dW (decide ((0 : Int) < a1)) (cW (List.getD aA (Int.toNat (IntKind.i64.wrap (a1 - (1 : Int)))) default) (List.getD aA (Int.toNat fC) default))).bind fun x16 =>
  cond ((decide ((0 : Int) < a1)) && (!x16))
  ((eJ aA a1 b2 fC).bind fun x20 =>
  some (.inl (x20.2, x20.1, b2, bT, bP, bG)))
  ((fP aA a1 b2 fC).bind fun x23 =>
  bE ((8 : Int) ≠ 0) <|
  cond (decide ((IntKind.i64.wrap (x23.1.1 - a1)) < (IntKind.i64.wrap (b2 - x23.1.1))))
  ((rec x23.2 a1 x23.1.1 bT).bind fun x28 =>
  some (.inl (x28, IntKind.i64.wrap (x23.1.1 + (1 : Int)), b2, bT, decide ((IntKind.i64.wrap (Int.tdiv dL (8 : Int))) ≤ (IntKind.i64.wrap (x23.1.1 - a1))), x23.1.2)))
  ((rec x23.2 (IntKind.i64.wrap (x23.1.1 + (1 : Int))) b2 bT).bind fun x31 =>
  some (.inl (x31, a1, x23.1.1, bT, decide ((IntKind.i64.wrap (Int.tdiv dL (8 : Int))) ≤ (IntKind.i64.wrap (b2 - x23.1.1))), x23.1.2))))

noncomputable def gC (rec : (List Int) → Int → Int → Int → Option (List Int)) (aA : List Int) (a1 : Int) (b2 : Int) (bT : Int) (bP : Bool) (bG : Bool) (dL : Int) (fC : Int) (xN : Int) : Option ((List Int × Int × Int × Int × Bool × Bool) ⊕ ((List Int))) :=
  cond ((bP && bG) && (decide (xN = (1 : Int))))
  ((eE aA a1 b2).bind fun x35 =>
  cond x35.1
  (some (.inr x35.2))
  (gE rec x35.2 a1 b2 bT bP bG dL fC))
  (gE rec aA a1 b2 bT bP bG dL fC)

noncomputable def fX (rec : (List Int) → Int → Int → Int → Option (List Int)) (aA : List Int) (a1 : Int) (b2 : Int) (bT : Int) (bP : Bool) (bG : Bool) (dL : Int) : Option ((List Int × Int × Int × Int × Bool × Bool) ⊕ ((List Int))) :=
  (gP aA a1 b2).bind fun x9 =>
  cond (decide (x9.2 = (2 : Int)))
  ((gI aA a1 b2).bind fun x40 =>
  gC rec x40 a1 b2 bT bP bG dL (IntKind.i64.wrap ((IntKind.i64.wrap (b2 - (1 : Int))) - (IntKind.i64.wrap (x9.1 - a1)))) (1 : Int))
  (gC rec aA a1 b2 bT bP bG dL x9.1 x9.2)

noncomputable def dU (rec : (List Int) → Int → Int → Int → Option (List Int))  (aA : List Int) (a1 : Int) (b2 : Int) (bT : Int) (bP : Bool) (bG : Bool) : Option ((List Int × Int × Int × Int × Bool × Bool) ⊕ ((List Int))) :=
  cond (decide ((IntKind.i64.wrap (b2 - a1)) ≤ (12 : Int)))
  ((fU aA a1 b2).bind fun x2 =>
  some (.inr x2))
  (cond (decide (bT = (0 : Int)))
  ((iT aA a1 b2).bind fun x6 =>
  some (.inr x6))
  (cond (!bP)
  ((fT aA a1 b2).bind fun x44 =>
  fX rec x44 a1 b2 (IntKind.i64.wrap (bT - (1 : Int))) bP bG (IntKind.i64.wrap (b2 - a1)))
  (fX rec aA a1 b2 bT bP bG (IntKind.i64.wrap (b2 - a1)))))

noncomputable def kC (rec : (List Int) → Int → Int → Int → Option (List Int)) (aA : List Int) (a1 : Int) (b2 : Int) (bT : Int) (bP : Bool) (bG : Bool) : Option (List Int) :=
  (lp (fun s => dU rec s.1 s.2.1 s.2.2.1 s.2.2.2.1 s.2.2.2.2.1 s.2.2.2.2.2) (aA, a1, b2, bT, bP, bG)).bind (fun rr => some rr)

noncomputable def fF (rec : (List Int) → Int → Int → Int → Option (List Int)) (aA : (List Int)) (a1 : Int) (b2 : Int) (bT : Int) : Option (List Int) :=
  kC rec aA a1 b2 bT true true

noncomputable def cX  : Nat → (List Int) → Int → Int → Int → Option (List Int)
  | 0 => fun _ _ _ _ => none
  | k + 1 => fF (cX k)

noncomputable def iY (aA : (List Int)) (a1 : Int) (b2 : Int) (bT : Int) : Option (List Int) := JU (fun k => cX k aA a1 b2 bT)

noncomputable def jR (x0 : (List Int)) : Option (List Int) :=
  (jM (IntKind.u64.wrap ((List.length x0 : Nat) : Int))).bind fun x1 =>
  (iY x0 (0 : Int) ((List.length x0 : Nat) : Int) x1).bind fun x4 =>
  some x4

noncomputable def uF (f0 : (List aG)) : Option ((List aG)) :=
  some f0

noncomputable def lO {σ : Type} (cG : σ → bC → Option (σ × Bool)) (sg : σ) (n3 : Int) (jF : Int) : Option σ :=
  cond (decide ((0 : Int) < n3))
  ((cG sg (bC.mk jF (1125899906842624 : Int))).bind fun x2 =>
  some x2.1)
  (some sg)

noncomputable def kV {σ : Type} (cG : σ → bC → Option (σ × Bool)) (sg : σ) (n3 : Int) (jF : Int) (j6 : aG) (t7 : (List aG)) (t8 : Int) (t9 : Int) : Option ((σ × Int × Int × Int) ⊕ ((σ × Int × Int) ⊕ σ)) :=
  (zY (decide ((IntKind.i64.wrap (n3 + j6.Net)) = (0 : Int))) sg (cG sg (bC.mk jF j6.At))).bind fun (x10, x11) =>
  cond ((decide ((IntKind.i64.wrap (n3 + j6.Net)) = (0 : Int))) && (!x11))
  (some (.inr (.inr x10)))
  (some (.inl (x10, IntKind.i64.wrap (n3 + j6.Net), jF, IntKind.i64.wrap (t9 + (1 : Int)))))

noncomputable def fH {σ : Type} (cG : σ → bC → Option (σ × Bool)) (t7 : (List aG)) (t8 : Int) (sg : σ) (n3 : Int) (jF : Int) (t9 : Int) : Option ((σ × Int × Int × Int) ⊕ ((σ × Int × Int) ⊕ σ)) :=
  cond (decide (t9 < t8))
  (bE (0 ≤ t9 ∧ t9 < ((List.length t7 : Nat) : Int)) <|
  cond (decide (n3 = (0 : Int)))
  (kV cG sg n3 ((List.getD t7 (Int.toNat t9) default).At) (List.getD t7 (Int.toNat t9) default) t7 t8 t9)
  (kV cG sg n3 jF (List.getD t7 (Int.toNat t9) default) t7 t8 t9))
  (some (.inr (.inl (sg, n3, jF))))

noncomputable def oQ {σ : Type} (cG : σ → bC → Option (σ × Bool)) (sg : σ) (n3 : Int) (jF : Int) (t7 : (List aG)) (t8 : Int) (t9 : Int) : Option σ :=
  (lp (fun s => fH cG t7 t8 s.1 s.2.1 s.2.2.1 s.2.2.2) (sg, n3, jF, t9)).bind (Sum.elim (fun rr => lO cG rr.1 rr.2.1 rr.2.2) (fun rr => some rr))

noncomputable def nM {σ : Type} (cG : σ → bC → Option (σ × Bool)) (t1 : (List aG)) (sg0 : σ) : Option σ :=
  oQ cG sg0 (0 : Int) (0 : Int) t1 ((List.length t1 : Nat) : Int) (0 : Int)

noncomputable def rJ (v5 : Int) : Option Int :=
  some v5

noncomputable def lY (t1 : Int) (t11 : (List aG)) (t12 : Int) (v5 : Int) (t13 : Int) : Option ((Int × Int) ⊕ (Int)) :=
  cond (decide (t13 < t12))
  (bE (0 ≤ t13 ∧ t13 < ((List.length t11 : Nat) : Int)) <|
  cond (decide (t1 < ((List.getD t11 (Int.toNat t13) default).At)))
  (some (.inr v5))
  (some (.inl (IntKind.i64.wrap (v5 + ((List.getD t11 (Int.toNat t13) default).Net)), IntKind.i64.wrap (t13 + (1 : Int))))))
  (some (.inr v5))

noncomputable def vA (t1 : Int) (v5 : Int) (t11 : (List aG)) (t12 : Int) (t13 : Int) : Option Int :=
  (lp (fun s => lY t1 t11 t12 s.1 s.2) (v5, t13)).bind (fun rr => rJ rr)

noncomputable def uO (f0 : (List aG)) (t1 : Int) : Option Int :=
  (mR f0).bind fun x1 =>
  cond (!x1)
  (some (0 : Int))
  (vA t1 (0 : Int) f0 ((List.length f0 : Nat) : Int) (0 : Int))

noncomputable def rQ (n5 : Int) : Option Int :=
  some n5

noncomputable def mU (w3 : bC) (n5 : Int) (t12 : (List aG)) (t13 : Int) (t14 : Int) : Option ((Int × Int) ⊕ (Int)) :=
  some (.inl (n5, IntKind.i64.wrap (t14 + (1 : Int))))

noncomputable def mW (w3 : bC) (t12 : (List aG)) (t13 : Int) (n5 : Int) (t14 : Int) : Option ((Int × Int) ⊕ (Int)) :=
  cond (decide (t14 < t13))
  (bE (0 ≤ t14 ∧ t14 < ((List.length t12 : Nat) : Int)) <|
  cond ((decide (w3.From < ((List.getD t12 (Int.toNat t14) default).At))) && (decide (((List.getD t12 (Int.toNat t14) default).At) < w3.To)))
  (mU w3 (IntKind.i64.wrap (n5 + (if (0 : Int) > ((List.getD t12 (Int.toNat t14) default).Net) then (0 : Int) else ((List.getD t12 (Int.toNat t14) default).Net)))) t12 t13 t14)
  (mU w3 n5 t12 t13 t14))
  (some (.inr n5))

noncomputable def rK (w3 : bC) (n5 : Int) (t12 : (List aG)) (t13 : Int) (t14 : Int) : Option Int :=
  (lp (fun s => mW w3 t12 t13 s.1 s.2) (n5, t14)).bind (fun rr => rQ rr)

noncomputable def pP (f0 : (List aG)) (w1 : bC) : Option Int :=
  (uO f0 w1.From).bind fun x1 =>
  rK w1 x1 f0 ((List.length f0 : Nat) : Int) (0 : Int)

noncomputable def shP (a b : Nat) (p : aR) : List (Nat × Nat × List V) := [(a, 3, [(.agg [(eI p.Span.From), (eI p.Span.To), (.msl 2 b 0 (List.length p.Rows))])]), (b, 2, List.map kT p.Rows)]

noncomputable def shF (a _b : Nat) (p : aR) : List (Nat × Nat × List V) := [(a, 3, [(aW p)])]

noncomputable def mJ (r : List aD) (f : List aG) (p : aR) : Option aR :=
  bE ((!(decide ((wR ((lN p.Rows) - (1 : Int))) < (0 : Int)))) = true → 0 ≤ (wR ((lN p.Rows) - (1 : Int))) ∧ (wR ((lN p.Rows) - (1 : Int))) < (lN p.Rows)) <|
  (dW (!(decide ((wR ((lN p.Rows) - (1 : Int))) < (0 : Int)))) (oY ((gD p.Rows (wR ((lN p.Rows) - (1 : Int)))).Row) r)).bind fun x1 =>
  cond ((decide ((wR ((lN p.Rows) - (1 : Int))) < (0 : Int))) || (!x1))
  ((rT r).bind fun x2 =>
  (pP f p.Span).bind fun x3 =>
  bE ((List.length p.Rows + List.length ([gV.mk x2 x3])) * 32 ≤ 140737488355328 ∧ List.length p.Rows + List.length ([gV.mk x2 x3]) ≤ 9223372036854775807) <|
  some (aR.mk p.Span (p.Rows ++ [gV.mk x2 x3])))
  (some p)

noncomputable def lG (r : List aD) (f : List aG) (size : Int) (b : Bool) (m : List (Int × aR)) (t : Int) : Option ((Bool × List (Int × aR)) ⊕ (Bool × List (Int × aR))) :=
  match eZ m t with
  | none => cond (decide ((lN m) = (1024 : Int)))
    (some (.inr (false, m)))
    ((mJ r f (aR.mk (bC.mk t (if (1125899906842624 : Int) < (wR (t + size)) then (1125899906842624 : Int) else (wR (t + size)))) [])).bind fun p => some (.inl (b, fY m t p)))
  | some p => (mJ r f p).bind fun p => some (.inl (b, fY m t p))

noncomputable def mH (r : List aD) (f : List aG) (size hop frm front : Int) (b : Bool) (m : List (Int × aR)) (s : bC) : Option ((Bool × List (Int × aR)) ⊕ (Bool × List (Int × aR))) :=
  (oH size hop s frm front).bind fun x =>
  (lS (fun st t => rnd (fun (q : Bool × List (Int × aR)) => lG r f size q.1 q.2 t) st) x.1 x.2.1 x.2.2.1 x.2.2.2.1 x.2.2.2.2 (.inl (b, m))).bind (Sum.elim (fun q => some (.inl q)) (fun q => some (.inr q)))

noncomputable def rF (m : List (Int × aR)) (r : List aD) (f : List aG) (size hop frm front : Int) : Option (Bool × List (Int × aR)) :=
  (uF f).bind fun x =>
  (nM (fun st s => rnd (fun (q : Bool × List (Int × aR)) => mH r f size hop frm front q.1 q.2 s) st) x (.inl (false, m))).bind (Sum.elim (fun q => some (true, q.2)) (fun q => some (q.1, q.2)))

noncomputable def lB (size hop frm front : Int) (t10 : List aR) (t11 : Int) (m : List (Int × aR)) (r : List aD) (f : List aG) : Option ((List aR × Int × List (Int × aR)) ⊕ (List aR × Int × List (Int × aR))) :=
  (rF m r f size hop frm front).bind fun x =>
  cond (!x.1)
  (some (.inr ([], (7 : Int), x.2)))
  (some (.inl (t10, t11, x.2)))

noncomputable def oJ (m : List (Int × aR)) (b : List Int) (n : Int) (out : List aR) (i : Int) : Option ((List aR × Int) ⊕ (List aR)) :=
  cond (decide (i < n))
  (bE (0 ≤ i ∧ i < (lN b)) <|
  match eZ m (gD b i) with
  | none => none
  | some p =>
    bE ((List.length out + List.length ([p])) * 40 ≤ 140737488355328 ∧ List.length out + List.length ([p]) ≤ 9223372036854775807) <|
    some (.inl (out ++ [p], wR (i + (1 : Int)))))
  (some (.inr out))

noncomputable def vZ (m : List (Int × aR)) (b : List Int) : Option (List aR × Int) :=
  (jR b).bind fun b =>
  bE (0 ≤ (lN b) ∧ (40 : Int) * (lN b) ≤ 281474976710656 ∧ (lN b) ≤ 9223372036854775807) <|
  (lp (fun s => oJ m b (lN b) s.1 s.2) (([] : List aR), (0 : Int))).bind fun out => some (out, (0 : Int))

noncomputable def oE (s : List Int) (k : Int) : Option (List Int) :=
  bE ((List.length s + List.length ([k])) * 8 ≤ 140737488355328 ∧ List.length s + List.length ([k]) ≤ 9223372036854775807) <|
  some (s ++ [k])

noncomputable def qS (m : List (Int × aR)) : Option (List aR × Int) :=
  bE (0 ≤ (lN m) ∧ (8 : Int) * (lN m) ≤ 281474976710656 ∧ (lN m) ≤ 9223372036854775807) <|
  qQ (m.map (·.1)) (fun q => (dB oE ([] : List Int) q).bind (vZ m))

noncomputable def wH (l : List bF) (size hop frm front : Int) (t10 : List aR) (t11 : Int) : Option (List aR × Int) :=
  (sU l).bind fun x =>
  (mL (fun st r f => rnd (fun (q : List aR × Int × List (Int × aR)) => lB size hop frm front q.1 q.2.1 q.2.2 r f) st) x (.inl (t10, t11, []))).bind (Sum.elim (fun q => qS q.2.2) (fun q => some (q.1, q.2.1)))

noncomputable def sI (l0 : (List bF)) (nO : Int) (hop2 : Int) (iC : Int) (eS : Int) : Option ((List aR) × Int) :=
  (oL nO hop2).bind fun x3 =>
  (dW (!(!x3)) (rR l0)).bind fun x6 =>
  cond ((!x3) || (!x6))
  (some ([], (2 : Int)))
  ((qL l0).bind fun x10 =>
  cond (!x10)
  (some ([], (20 : Int)))
  ((lT iC).bind fun x14 =>
  (dW (!(!x14)) (lT eS)).bind fun x17 =>
  cond ((!x14) || (!x17))
  (some ([], (13 : Int)))
  (wH l0 nO hop2 iC eS ([]) 0)))

noncomputable def qU  : Option Bool :=
  (rL (10 : Int) (5 : Int) (12 : Int)).bind fun x1 =>
  (qW (10 : Int) (5 : Int) (bC.mk (3 : Int) (7 : Int)) (0 : Int) (100 : Int)).bind fun x4 =>
  (sI ([bF.mk ([aD.mk (1 : Int) (1 : Int) ByteArray.empty]) (3 : Int) (1 : Int), bF.mk ([aD.mk (1 : Int) (1 : Int) ByteArray.empty]) (7 : Int) (-1 : Int)]) (10 : Int) (5 : Int) (0 : Int) (100 : Int)).bind fun x7 =>
  bE (((((((decide (x1.1 = (5 : Int))) && (decide (x1.2 = (0 : Int)))) && (decide (x4.2 = (0 : Int)))) && (decide (((List.length x4.1 : Nat) : Int) = (2 : Int))))) = true → 0 ≤ (1 : Int) ∧ (1 : Int) < ((List.length x4.1 : Nat) : Int))) <|
  bE ((((((((((decide (x1.1 = (5 : Int))) && (decide (x1.2 = (0 : Int)))) && (decide (x4.2 = (0 : Int)))) && (decide (((List.length x4.1 : Nat) : Int) = (2 : Int)))) && (decide ((List.getD x4.1 (Int.toNat (1 : Int)) default) = (5 : Int)))) && (decide (x7.2 = (0 : Int)))) && (decide (((List.length x7.1 : Nat) : Int) = (2 : Int))))) = true → 0 ≤ (1 : Int) ∧ (1 : Int) < ((List.length x7.1 : Nat) : Int))) <|
  bE (((((((((((decide (x1.1 = (5 : Int))) && (decide (x1.2 = (0 : Int)))) && (decide (x4.2 = (0 : Int)))) && (decide (((List.length x4.1 : Nat) : Int) = (2 : Int)))) && (decide ((List.getD x4.1 (Int.toNat (1 : Int)) default) = (5 : Int)))) && (decide (x7.2 = (0 : Int)))) && (decide (((List.length x7.1 : Nat) : Int) = (2 : Int)))) && ((decide ((((List.getD x7.1 (Int.toNat (1 : Int)) default).Span).From) = ((bC.mk (5 : Int) (15 : Int)).From))) && ((decide ((((List.getD x7.1 (Int.toNat (1 : Int)) default).Span).To) = ((bC.mk (5 : Int) (15 : Int)).To))) && true)))) = true → 0 ≤ (1 : Int) ∧ (1 : Int) < ((List.length x7.1 : Nat) : Int))) <|
  some (((((((((decide (x1.1 = (5 : Int))) && (decide (x1.2 = (0 : Int)))) && (decide (x4.2 = (0 : Int)))) && (decide (((List.length x4.1 : Nat) : Int) = (2 : Int)))) && (decide ((List.getD x4.1 (Int.toNat (1 : Int)) default) = (5 : Int)))) && (decide (x7.2 = (0 : Int)))) && (decide (((List.length x7.1 : Nat) : Int) = (2 : Int)))) && ((decide ((((List.getD x7.1 (Int.toNat (1 : Int)) default).Span).From) = ((bC.mk (5 : Int) (15 : Int)).From))) && ((decide ((((List.getD x7.1 (Int.toNat (1 : Int)) default).Span).To) = ((bC.mk (5 : Int) (15 : Int)).To))) && true))) && (decide (((List.length ((List.getD x7.1 (Int.toNat (1 : Int)) default).Rows) : Nat) : Int) = (1 : Int))))

noncomputable def oU (bX : Int) (yM : Int) (t2 : Int) : Option Bool :=
  (rL bX yM t2).bind fun x1 =>
  (qM bX yM t2).bind fun x4 =>
  (qU ).bind fun x7 =>
  some ((x7 && (decide (x1.1 = x4.1))) && (decide (x1.2 = x4.2)))

end Go.Abs
namespace Go.Abs
open Go Go.RowKit Go.Proofs
noncomputable def tt : TT := ⟨OJ Try.prog, KC Try.prog⟩

theorem aC : fO Try.prog tt := fO.of Try.prog

theorem BB (bX : Int) (hop1 : Int) (r : Bool) (h0 : oL bX hop1 = some r) : dS Try.prog 24 [(eI bX), (eI hop1)] (aB r) := by
  intro H0
  refine dP Try.func24 ?_
  have hO := aJ.start H0
  unfold oL at h0
  refine aS aC 1 [] [] ?_
  refine cN aC 15 [(4, (aB ((((decide ((1 : Int) ≤ bX)) && (decide (bX ≤ (1099511627776 : Int)))) && (decide ((1 : Int) ≤ hop1))) && (decide (hop1 ≤ (1099511627776 : Int))))))] ?_
  refine bK ?_
  obtain rfl := oI h0
  exact aF (Q_r hO)

theorem tH (t0 : Int) (r : Bool) (h0 : lT t0 = some r) : dS Try.prog 25 [(eI t0)] (aB r) := by
  intro H0
  refine dP Try.func25 ?_
  have hO := aJ.start H0
  unfold lT at h0
  refine aS aC 1 [] [] ?_
  refine cN aC 7 [(2, (aB ((decide ((0 : Int) ≤ t0)) && (decide (t0 ≤ (1125899906842624 : Int))))))] ?_
  refine bK ?_
  obtain rfl := oI h0
  exact aF (Q_r hO)

theorem MT (a0 : Int) (b1 : Int) (r : (Int × Int × Int)) (h0 : sJ a0 b1 = some r) : dS Try.prog 53 [(eI a0), (eI b1)] (.tup [(eI r.1), (eI r.2.1), (eI r.2.2)]) := by
  intro H0
  refine dP Try.func53 ?_
  have hO := aJ.start H0
  unfold sJ at h0
  refine aS aC 3 [] [] ?_
  refine aN ?_
  refine aS aC 2 [] [(10, (aB (decide (b1 < (1 : Int)))))] ?_
  refine bO h0 (fun h0 => ?_) (fun h0 => ?_)
  · refine cN aC 3 [(4, (eI (0 : Int))), (5, (eI (0 : Int))), (6, (eI (2 : Int)))] ?_
    refine bK ?_
    obtain rfl := oI h0
    exact aF (aQ (Q_r hO))
  refine bS ?_
  refine bD [(0, (eI a0)), (1, (eI b1))] ?_
  refine aN ?_
  refine gU (gW []) aC 8 ?_
  obtain ⟨c2, h0⟩ := aY h0
  obtain ⟨c3, h0⟩ := aY h0
  refine IQ (Ds := [b1 ≠ 0, b1 ≠ 0]) (by kernel_rfl) ⟨c2, c3, trivial⟩ ?_
  refine cB [0] [(7, (eI (wR (Int.tdiv a0 b1)))), (8, (eI (Int.tmod a0 b1)))] ?_
  refine iX (fun T H => ∃ q7 : Int, ∃ r8 : Int, Has T [(7, (eI q7)), (8, (eI r8))] ∧ aJ ⟨H0, [], []⟩ H [] ∧ qY q7 r8 = some r) ?_ ?_
  · clear hO h0
    rintro T H ⟨q7, r8, hT, hO, h0⟩
    refine bM hT ?_
    clear hT
    unfold qY at h0
    refine cN aC 5 [(4, (eI q7)), (5, (eI r8)), (6, (eI (0 : Int)))] ?_
    refine bK ?_
    obtain rfl := oI h0
    exact aF (Q_r hO)
  refine aS aC 2 [] [(18, (aB (decide ((Int.tmod a0 b1) < (0 : Int)))))] ?_
  refine bO h0 (fun h0 => ?_) (fun h0 => ?_)
  · refine aP aC 7 ?_
    refine bB ?_
    exact aF (aH (⟨rfl, _, _, .eq (by kernel_rfl), hO, h0⟩))
  refine bS ?_
  exact aF (aH (⟨rfl, _, _, .eq (by kernel_rfl), hO, h0⟩))

theorem vS (hop0 : Int) (n1 : Int) (r : Int) (h0 : nA hop0 n1 = some r) : dS Try.prog 26 [(eI hop0), (eI n1)] (eI r) := by
  intro H0
  refine dP Try.func26 ?_
  have hO := aJ.start H0
  unfold nA at h0
  refine aS aC 1 [] [] ?_
  refine aN ?_
  refine aS aC 2 [] [(9, (aB (decide (n1 < (0 : Int)))))] ?_
  refine bO h0 (fun h0 => ?_) (fun h0 => ?_)
  · refine cN aC 1 [(4, (eI (0 : Int)))] ?_
    refine bK ?_
    obtain rfl := oI h0
    exact aF (aQ (Q_r hO))
  refine bS ?_
  refine bD [(0, (eI hop0)), (1, (eI n1))] ?_
  refine aN ?_
  refine aP aC 10 ?_
  refine bN 2 ?_
  obtain ⟨x2, hx3, h0⟩ := aT h0
  refine eW (MT n1 hop0 _ hx3) hO ?_
  intro H hO
  refine bB ?_
  refine cB [1] [(5, (eI x2.1))] ?_
  refine cN aC 5 [(4, (eI (wR ((wR (x2.1 + (1 : Int))) * hop0))))] ?_
  refine bK ?_
  obtain rfl := oI h0
  exact aF (Q_r hO)

theorem EI (bX : Int) (hop1 : Int) (t2 : Int) (r : (Int × Int)) (h0 : rL bX hop1 t2 = some r) : dS Try.prog 9 [(eI bX), (eI hop1), (eI t2)] (.tup [(eI r.1), (eI r.2)]) := by
  intro H0
  refine dP Try.func9 ?_
  have hO := aJ.start H0
  unfold rL at h0
  refine aS aC 2 [] [] ?_
  refine aN ?_
  refine cI 0 ?_
  refine aN ?_
  refine aP aC 5 ?_
  refine bN 2 ?_
  obtain ⟨x1, hx2, h0⟩ := aT h0
  refine eW (BB bX hop1 _ hx2) hO ?_
  intro H hO
  refine bB ?_
  refine cB [] [(8, (aB (!x1)))] ?_
  refine bO h0 (fun h0 => ?_) (fun h0 => ?_)
  · refine cN aC 2 [(6, (eI (0 : Int))), (7, (eI (2 : Int)))] ?_
    refine bK ?_
    obtain rfl := oI h0
    exact aF (bJ (aQ (Q_r hO)))
  refine aN ?_
  refine aP aC 4 ?_
  refine bN 1 ?_
  obtain ⟨x5, hx6, h0⟩ := aT h0
  refine eW (tH t2 _ hx6) hO ?_
  intro H hO
  refine bB ?_
  refine cB [8] [(13, (aB (!x5)))] ?_
  refine bO h0 (fun h0 => ?_) (fun h0 => ?_)
  · refine cN aC 2 [(6, (eI (0 : Int))), (7, (eI (13 : Int)))] ?_
    refine bK ?_
    obtain rfl := oI h0
    exact aF (bJ (aQ (Q_r hO)))
  refine aS aC 3 [13] [(17, (aB (decide (t2 = (1125899906842624 : Int)))))] ?_
  refine bO h0 (fun h0 => ?_) (fun h0 => ?_)
  · refine cN aC 2 [(6, (eI (1125899906842624 : Int))), (7, (eI (0 : Int)))] ?_
    refine bK ?_
    obtain rfl := oI h0
    exact aF (bJ (aQ (Q_r hO)))
  refine bS ?_
  refine iM [(0, (eI bX)), (1, (eI hop1)), (2, (eI t2))] ?_
  refine aF (aU (aH (?_)))
  refine aN ?_
  refine aP aC 8 ?_
  refine bN 4 ?_
  obtain ⟨x10, hx11, h0⟩ := aT h0
  refine eW (vS hop1 (wR (t2 - bX)) _ hx11) hO ?_
  intro H hO
  refine bB ?_
  refine bD [(6, (eI (if (1125899906842624 : Int) < x10 then (1125899906842624 : Int) else x10))), (7, (eI (0 : Int)))] ?_
  refine bK ?_
  obtain rfl := oI h0
  exact aF (Q_r hO)

theorem MY (bX : Int) (hop1 : Int) (r : Bool) (h0 : sO bX hop1 = some r) : dS Try.prog 27 [(eI bX), (eI hop1)] (aB r) := by
  intro H0
  refine dP Try.func27 ?_
  have hO := aJ.start H0
  unfold sO at h0
  refine aS aC 1 [] [] ?_
  refine cN aC 15 [(4, (aB ((((decide ((0 : Int) < bX)) && (decide (bX ≤ (1099511627776 : Int)))) && (decide ((0 : Int) < hop1))) && (decide (hop1 ≤ (1099511627776 : Int))))))] ?_
  refine bK ?_
  obtain rfl := oI h0
  exact aF (Q_r hO)

theorem JF (t0 : Int) (r : Bool) (h0 : tK t0 = some r) : dS Try.prog 28 [(eI t0)] (aB r) := by
  intro H0
  refine dP Try.func28 ?_
  have hO := aJ.start H0
  unfold tK at h0
  refine aS aC 1 [] [] ?_
  refine cN aC 7 [(2, (aB ((decide ((0 : Int) ≤ t0)) && (decide (t0 ≤ (1125899906842624 : Int))))))] ?_
  refine bK ?_
  obtain rfl := oI h0
  exact aF (Q_r hO)

theorem MC (bX : Int) (t1 : Int) (r : Int) (h0 : qA bX t1 = some r) : dS Try.prog 29 [(eI bX), (eI t1)] (eI r) := by
  intro H0
  refine dP Try.func29 ?_
  have hO := aJ.start H0
  unfold qA at h0
  refine aS aC 1 [] [] ?_
  refine aN ?_
  refine aS aC 4 [] [(8, (aB (decide ((1125899906842624 : Int) < (wR (t1 + bX))))))] ?_
  refine bO h0 (fun h0 => ?_) (fun h0 => ?_)
  · refine cN aC 1 [(4, (eI (1125899906842624 : Int)))] ?_
    refine bK ?_
    obtain rfl := oI h0
    exact aF (aQ (Q_r hO))
  refine bS ?_
  refine bD [(0, (eI bX)), (1, (eI t1))] ?_
  refine cN aC 4 [(4, (eI (wR (t1 + bX))))] ?_
  refine bK ?_
  obtain rfl := oI h0
  exact aF (Q_r hO)

theorem KR (bX : Int) (hop1 : Int) (t2 : Int) (r : (Int × Int)) (h0 : qM bX hop1 t2 = some r) : dS Try.prog 10 [(eI bX), (eI hop1), (eI t2)] (.tup [(eI r.1), (eI r.2)]) := by
  intro H0
  refine dP Try.func10 ?_
  have hO := aJ.start H0
  unfold qM at h0
  refine aS aC 2 [] [] ?_
  refine aN ?_
  refine aN ?_
  refine aP aC 4 ?_
  refine bN 2 ?_
  obtain ⟨x1, hx2, h0⟩ := aT h0
  refine eW (MY bX hop1 _ hx2) hO ?_
  intro H hO
  refine bB ?_
  refine cB [] [(12, (aB (!x1)))] ?_
  refine bO h0 (fun h0 => ?_) (fun h0 => ?_)
  · refine cN aC 2 [(6, (eI (0 : Int))), (7, (eI (2 : Int)))] ?_
    refine bK ?_
    obtain rfl := oI h0
    exact aF (aQ (Q_r hO))
  refine bS ?_
  refine bD [(0, (eI bX)), (1, (eI hop1)), (2, (eI t2))] ?_
  refine aN ?_
  refine aN ?_
  refine aP aC 3 ?_
  refine bN 1 ?_
  obtain ⟨x5, hx6, h0⟩ := aT h0
  refine eW (JF t2 _ hx6) hO ?_
  intro H hO
  refine bB ?_
  refine cB [] [(15, (aB (!x5)))] ?_
  refine bO h0 (fun h0 => ?_) (fun h0 => ?_)
  · refine cN aC 2 [(6, (eI (0 : Int))), (7, (eI (13 : Int)))] ?_
    refine bK ?_
    obtain rfl := oI h0
    exact aF (aQ (Q_r hO))
  refine bS ?_
  refine bD [(0, (eI bX)), (1, (eI hop1)), (2, (eI t2))] ?_
  refine aN ?_
  refine aS aC 2 [] [(17, (aB (decide (t2 = (1125899906842624 : Int)))))] ?_
  refine bO h0 (fun h0 => ?_) (fun h0 => ?_)
  · refine cN aC 2 [(6, (eI (1125899906842624 : Int))), (7, (eI (0 : Int)))] ?_
    refine bK ?_
    obtain rfl := oI h0
    exact aF (aQ (Q_r hO))
  refine bS ?_
  refine bD [(0, (eI bX)), (1, (eI hop1)), (2, (eI t2))] ?_
  refine aN ?_
  refine aP aC 6 ?_
  obtain ⟨c10, h0⟩ := aY h0
  refine rB [hop1 ≠ 0] ⟨c10, trivial⟩ ?_
  refine cB [] [(8, (eI (wR (Int.tdiv (wR (t2 - bX)) hop1))))] ?_
  refine iX (fun T H => ∃ k8 : Int, Has T [(0, (eI bX)), (1, (eI hop1)), (2, (eI t2)), (8, (eI k8))] ∧ aJ ⟨H0, [], []⟩ H [] ∧ sR bX hop1 t2 k8 = some r) ?_ ?_
  · clear hO h0
    rintro T H ⟨k8, hT, hO, h0⟩
    refine bM hT ?_
    clear hT
    unfold sR at h0
    refine iX (fun T H => ∃ k8 : Int, Has T [(1, (eI hop1)), (8, (eI k8))] ∧ aJ ⟨H0, [], []⟩ H [] ∧ nJ hop1 k8 = some r) ?_ ?_
    · clear hO h0
      rintro T H ⟨k8, hT, hO, h0⟩
      refine bM hT ?_
      clear hT
      unfold nJ at h0
      refine aN ?_
      refine aS aC 4 [] [(43, (aB (decide ((1125899906842624 : Int) ≤ (wR (k8 * hop1))))))] ?_
      refine bO h0 (fun h0 => ?_) (fun h0 => ?_)
      · refine cN aC 2 [(6, (eI (1125899906842624 : Int))), (7, (eI (0 : Int)))] ?_
        refine bK ?_
        obtain rfl := oI h0
        exact aF (aQ (Q_r hO))
      refine bS ?_
      refine bD [(1, (eI hop1)), (8, (eI k8))] ?_
      refine cN aC 5 [(6, (eI (wR (k8 * hop1)))), (7, (eI (0 : Int)))] ?_
      refine bK ?_
      obtain rfl := oI h0
      exact aF (Q_r hO)
    refine cI 0 ?_
    refine iD [(0, (eI bX)), (1, (eI hop1)), (2, (eI t2)), (8, (eI k8))] ?_
    refine hY (fun T H => ∃ k8 : Int, Has T [(0, (eI bX)), (1, (eI hop1)), (2, (eI t2)), (8, (eI k8))] ∧ aJ ⟨H0, [], []⟩ H [] ∧ uU bX hop1 t2 k8 = some r) ?_ ⟨k8, .eq (by kernel_rfl), hO, h0⟩
    clear hO h0
    rintro T H ⟨k8, hT, hO, h0⟩
    refine bM hT ?_
    clear hT
    unfold uU at h0
    obtain ⟨rr0, hl0, h0⟩ := aT h0
    refine eK (by kernel_rfl) (fun (s : Int) T H => Has T [(0, (eI bX)), (1, (eI hop1)), (2, (eI t2)), (8, (eI s))] ∧ aJ ⟨H0, [], []⟩ H []) hl0 ⟨.eq (by kernel_rfl), hO⟩ ?_
    clear hO
    rintro k0 s out1 T H ⟨hT, hO⟩ h1 ho0
    obtain ⟨k8, rfl⟩ : ∃ x, x = s := ⟨_, rfl⟩
    replace h1 : kB bX hop1 t2 k8 = some out1 := h1
    refine bM hT ?_
    clear hT
    unfold kB at h1
    refine aN ?_
    refine aN ?_
    refine aP aC 13 ?_
    refine bN 4 ?_
    obtain ⟨x12, hx13, h1⟩ := aT h1
    refine eW (MC bX (wR (k8 * hop1)) _ hx13) hO ?_
    intro H hO
    refine bB ?_
    refine cB [] [(37, (aB ((decide (x12 ≤ t2)) && (decide ((wR (k8 * hop1)) < (1125899906842624 : Int))))))] ?_
    refine bO h1 (fun h1 => ?_) (fun h1 => ?_)
    · refine bS ?_
      refine bD [(0, (eI bX)), (1, (eI hop1)), (2, (eI t2)), (8, (eI k8))] ?_
      refine cI 1 ?_
      refine aP aC 3 ?_
      refine bB ?_
      exact aF (aU (aH (⟨rfl, _, (oI h1).symm, .eq (by kernel_rfl), hO⟩)))
    refine jJ 0 ?_
    obtain rfl := oI h1
    obtain rfl : _ = rr0 := ho0
    replace h0 : nJ hop1 k8 = some r := h0
    exact aF (aV (aV (cH (aH (⟨rfl, _, .eq (by kernel_rfl), hO, h0⟩)))))
  refine aS aC 2 [] [(24, (aB (decide ((wR (Int.tdiv (wR (t2 - bX)) hop1)) < (0 : Int)))))] ?_
  refine bO h0 (fun h0 => ?_) (fun h0 => ?_)
  · refine aP aC 1 ?_
    refine bB ?_
    exact aF (aH (⟨rfl, _, .eq (by kernel_rfl), hO, h0⟩))
  refine bS ?_
  exact aF (aH (⟨rfl, _, .eq (by kernel_rfl), hO, h0⟩))

theorem zJ (bX : Int) (hop1 : Int) (s2 : bC) (iC : Int) (eS : Int) (r : (Int × bC × Int × Int × Int)) (h0 : oH bX hop1 s2 iC eS = some r) : dS Try.prog 30 [(eI bX), (eI hop1), (bV s2), (eI iC), (eI eS)] (.fn (.func 54) [] [(.rp (eI r.1)), (.rp (bV r.2.1)), (.rp (eI r.2.2.1)), (.rp (eI r.2.2.2.1)), (.rp (eI r.2.2.2.2))]) := by
  intro H0
  refine dP Try.func30 ?_
  have hO := aJ.start H0
  unfold oH at h0
  refine aN ?_
  refine aP aC 6 ?_
  refine gO 1 (eI bX) (by kernel_rfl) (by kernel_rfl) ?_
  refine gO 1 (eI hop1) (by kernel_rfl) (by kernel_rfl) ?_
  refine gO 2 (bV s2) (by kernel_rfl) (by kernel_rfl) ?_
  refine gO 1 (eI iC) (by kernel_rfl) (by kernel_rfl) ?_
  refine gO 1 (eI eS) (by kernel_rfl) (by kernel_rfl) ?_
  refine bB ?_
  refine bD [(5, (.rp (eI bX))), (6, (.rp (eI hop1))), (7, (.rp (bV s2))), (8, (.rp (eI iC))), (9, (.rp (eI eS)))] ?_
  refine cN aC 2 [(10, (.fn (.func 54) [] [(.rp (eI hop1)), (.rp (bV s2)), (.rp (eI bX)), (.rp (eI iC)), (.rp (eI eS))]))] ?_
  refine bK ?_
  obtain rfl := oI h0
  exact aF (lA (x := (.fn (.func 54) [] [(.rp (eI hop1)), (.rp (bV s2)), (.rp (eI bX)), (.rp (eI iC)), (.rp (eI eS))])) (by kernel_rfl) (aL.refl _) ⟨rfl, hO.out⟩)

theorem wD {σ : Type} (I : σ → Gs → Prop) (yield0_b : Nat) (cG : σ → Int → Option (σ × Bool)) (yield0_h : ∀ st a0 st2 r, cG st a0 = some (st2, r) → vB Try.prog (yv yield0_b) I st [(eI a0)] st2 (aB r)) (t1 : Int) (t2 : bC) (t3 : Int) (t4 : Int) (t5 : Int) (sg0 : σ) (r : σ) (h0 : lS cG t1 t2 t3 t4 t5 sg0 = some r) : sQ Try.prog 54 I sg0 [(yv yield0_b), (.rp (eI t1)), (.rp (bV t2)), (.rp (eI t3)), (.rp (eI t4)), (.rp (eI t5))] r (.tup []) := by
  intro H0 G0 hI hg
  refine dP Try.func54 ?_
  obtain ⟨G, hO, hI⟩ : ∃ G, aJ ⟨H0, List.map (fun p : Nat × cS => p.1) G0, G⟩ H0 [] ∧ I sg0 G := ⟨G0, aJ.xU hg, hI⟩
  clear hg
  unfold lS at h0
  refine aN ?_
  refine gU (gW [9, 11, 12, 14, 15, 16, 18]) aC 12 ?_
  refine lK 5 ?_
  obtain ⟨x1, hx2, h0⟩ := aT h0
  refine xK (vS t1 (wR (t2.From - t3)) _ hx2) hO ?_
  intro H hO
  refine lK 9 ?_
  obtain ⟨x4, hx5, h0⟩ := aT h0
  refine xK (vS t1 (wR (t4 - (1 : Int))) _ hx5) hO ?_
  intro H hO
  refine kY ?_
  refine cB [3, 4] [(7, (eI (if x4 > x1 then x4 else x1)))] ?_
  refine aS aC 2 [7] [(8, (eI (if x4 > x1 then x4 else x1)))] ?_
  refine cI 0 ?_
  refine iD [(0, (yv yield0_b)), (1, (.rp (eI t1))), (2, (.rp (bV t2))), (5, (.rp (eI t5))), (8, (eI (if x4 > x1 then x4 else x1)))] ?_
  refine hY (fun T H => ∃ sg : σ, ∃ t8 : Int, ∃ G : Gs, Has T [(0, (yv yield0_b)), (1, (.rp (eI t1))), (2, (.rp (bV t2))), (5, (.rp (eI t5))), (8, (eI t8))] ∧ aJ ⟨H0, List.map (fun p : Nat × cS => p.1) G0, G⟩ H [] ∧ I sg G ∧ mM cG sg t1 t2 t5 t8 = some r) ?_ ⟨sg0, if x4 > x1 then x4 else x1, G, .eq (by kernel_rfl), hO, hI, h0⟩
  clear hO hI h0
  rintro T H ⟨sg, t8, G, hT, hO, hI, h0⟩
  refine bM hT ?_
  clear hT
  unfold mM at h0
  obtain ⟨rr0, hl0, h0⟩ := aT h0
  refine eK (by kernel_rfl) (fun (s : σ × Int) T H => ∃ G : Gs, Has T [(0, (yv yield0_b)), (1, (.rp (eI t1))), (2, (.rp (bV t2))), (5, (.rp (eI t5))), (8, (eI s.2))] ∧ aJ ⟨H0, List.map (fun p : Nat × cS => p.1) G0, G⟩ H [] ∧ I s.1 G) hl0 ⟨G, .eq (by kernel_rfl), hO, hI⟩ ?_
  clear hO hI
  rintro k0 s out1 T H ⟨G, hT, hO, hI⟩ h1 ho0
  obtain ⟨sg, t8⟩ := s
  replace h1 : iO cG t1 t2 t5 sg t8 = some out1 := h1
  try dsimp only at hT
  refine bM hT ?_
  clear hT
  unfold iO at h1
  refine aN ?_
  refine aS aC 6 [] [(26, (aB (decide (t8 < (if (1125899906842624 : Int) < (if t5 < t2.To then t5 else t2.To) then (1125899906842624 : Int) else (if t5 < t2.To then t5 else t2.To))))))] ?_
  refine bO h1 (fun h1 => ?_) (fun h1 => ?_)
  · refine bS ?_
    refine bD [(0, (yv yield0_b)), (1, (.rp (eI t1))), (2, (.rp (bV t2))), (5, (.rp (eI t5))), (8, (eI t8))] ?_
    refine aN ?_
    refine cI 1 ?_
    refine aN ?_
    refine aP aC 4 ?_
    refine bN 2 ?_
    obtain ⟨x8, hx9, h1⟩ := aT h1
    refine BE (I := I) (yv yield0_b) [(eI t8)] (aB x8.2) (by kernel_rfl) (by kernel_rfl) (yield0_h _ t8 x8.1 x8.2 hx9) hO hI ?_
    intro G H hO hI
    refine bB ?_
    refine cB [] [(33, (aB (!x8.2)))] ?_
    refine bO h1 (fun h1 => ?_) (fun h1 => ?_)
    · refine bK ?_
      obtain rfl := oI h1
      obtain rfl : _ = rr0 := ho0
      replace h0 : some x8.1 = some r := h0
      obtain rfl := oI h0
      exact aF (bJ (aQ (aQ (bJ (lA (x := (.tup [])) (by kernel_rfl) (aL.refl _) ⟨rfl, G, hI, hO.tX⟩)))))
    refine bS ?_
    refine iM [(0, (yv yield0_b)), (1, (.rp (eI t1))), (2, (.rp (bV t2))), (5, (.rp (eI t5))), (8, (eI t8))] ?_
    refine aF (aU (aH (?_)))
    refine aP aC 4 ?_
    refine bB ?_
    exact aF (aH (⟨rfl, _, (oI h1).symm, _, .eq (by kernel_rfl), hO, hI⟩))
  refine jJ 0 ?_
  obtain rfl := oI h1
  obtain rfl : _ = rr0 := ho0
  replace h0 : some sg = some r := h0
  obtain rfl := oI h0
  exact aF (aV (aV (cH (tI (x := (.tup [])) (by kernel_rfl) (aL.refl _) ⟨rfl, G, hI, hO.tX⟩))))

theorem LR (bX : Int) (hop1 : Int) (s2 : bC) (iC : Int) (eS : Int) (r : ((List Int) × Int)) (h0 : qW bX hop1 s2 iC eS = some r) : dS Try.prog 12 [(eI bX), (eI hop1), (bV s2), (eI iC), (eI eS)] (.tup [(eL (eI) r.1), (eI r.2)]) := by
  intro H0
  refine xZ aC Try.func12 (by kernel_rfl) (by kernel_rfl) (by kernel_rfl) ?_
  have hO := aJ.start H0
  unfold qW at h0
  refine aN ?_
  refine aP aC 3 ?_
  refine gO 2 (bV s2) (by kernel_rfl) (by kernel_rfl) ?_
  refine yY 1 (.sl true 0 (fun _ => .bad)) (eL (eI) ([])) (by kernel_rfl) (by kernel_rfl) (by kernel_rfl) (nI) (by kernel_rfl) (by kernel_rfl) hO ?_
  intro lo1 H hO
  refine kH 1 (eI 0) (by kernel_rfl) (by kernel_rfl) hO ?_
  intro lo2 H hO
  refine dV ?_
  refine cB [2] [(7, (.rp (bV s2))), (10, (.lp lo1 0 0)), (11, (.lp lo2 0 0))] ?_
  refine aN ?_
  refine cI 0 ?_
  refine aN ?_
  refine aP aC 5 ?_
  refine bN 2 ?_
  obtain ⟨x3, hx4, h0⟩ := aT h0
  refine eW (BB bX hop1 _ hx4) hO ?_
  intro H hO
  refine bB ?_
  refine cB [] [(14, (aB (!x3)))] ?_
  refine bO h0 (fun h0 => ?_) (fun h0 => ?_)
  · refine aN ?_
    refine aP aC 2 ?_
    refine iS 0 lo1 1 0 (eL (eI) ([])) (.sl true 0 (fun _ => .bad)) [(eL (eI) ([]))] [(lo1, 1, [(.sl true 0 (fun _ => .bad))]), (lo2, 1, [(eI 0)])] hO rfl (by kernel_rfl) ?_
    intro H hO
    refine iS 1 lo2 1 0 (eI 0) (eI (2 : Int)) [(eI 0)] [(lo1, 1, [(.sl true 0 (fun _ => .bad))]), (lo2, 1, [(eI (2 : Int))])] hO rfl (by kernel_rfl) ?_
    intro H hO
    refine dV ?_
    refine qN 0 lo1 1 (.sl true 0 (fun _ => .bad)) (eL (eI) ([])) [(lo1, 1, [(eL (eI) ([]))]), (lo2, 1, [(eI (2 : Int))])] hO (by kernel_rfl) (by kernel_rfl) nI (by kernel_rfl) ?_
    intro H hO
    refine bD [(10, (.lp lo1 0 0)), (11, (.lp lo2 0 0))] ?_
    refine bK ?_
    obtain rfl := oI h0
    exact aF (bJ (aQ (QM0 (.inr rfl) (rs := [.cell 10 30, .cell 11 22]) (xs := [(eL (eI) ([])), (eI (2 : Int))]) (x := (.tup [(eL (eI) ([])), (eI (2 : Int))])) (by kernel_rfl) (gX (lo := lo1) (k := 1) (y := (eL (eI) ([]))) (x := (eL (eI) ([]))) 0 hO (by kernel_rfl) (by kernel_rfl) (by kernel_rfl) (by kernel_rfl) (gX (lo := lo2) (k := 1) (y := (eI (2 : Int))) (x := (eI (2 : Int))) 1 hO (by kernel_rfl) (by kernel_rfl) (by kernel_rfl) (by kernel_rfl) lM)) (by kernel_rfl) ⟨rfl, hO.out⟩)))
  refine aN ?_
  refine aP aC 9 ?_
  refine bN 1 ?_
  obtain ⟨x7, hx8, h0⟩ := aT h0
  refine eW (tH iC _ hx8) hO ?_
  intro H hO
  refine bN 5 ?_
  obtain ⟨x10, hx11, h0⟩ := aT h0
  refine nF [(23, false)] 25 [(eI eS)] (aB x10) (!(!x7)) (by kernel_rfl) (by kernel_rfl) (by kernel_rfl) (fun hb12 => (tH eS _ (kO hx11 hb12))) hO ?_
  intro H hO
  refine bB ?_
  refine cB [14] [(19, (aB ((!x7) || (!x10))))] ?_
  refine bO h0 (fun h0 => ?_) (fun h0 => ?_)
  · refine aN ?_
    refine aP aC 2 ?_
    refine iS 0 lo1 1 0 (eL (eI) ([])) (.sl true 0 (fun _ => .bad)) [(eL (eI) ([]))] [(lo1, 1, [(.sl true 0 (fun _ => .bad))]), (lo2, 1, [(eI 0)])] hO rfl (by kernel_rfl) ?_
    intro H hO
    refine iS 1 lo2 1 0 (eI 0) (eI (13 : Int)) [(eI 0)] [(lo1, 1, [(.sl true 0 (fun _ => .bad))]), (lo2, 1, [(eI (13 : Int))])] hO rfl (by kernel_rfl) ?_
    intro H hO
    refine dV ?_
    refine qN 0 lo1 1 (.sl true 0 (fun _ => .bad)) (eL (eI) ([])) [(lo1, 1, [(eL (eI) ([]))]), (lo2, 1, [(eI (13 : Int))])] hO (by kernel_rfl) (by kernel_rfl) nI (by kernel_rfl) ?_
    intro H hO
    refine bD [(10, (.lp lo1 0 0)), (11, (.lp lo2 0 0))] ?_
    refine bK ?_
    obtain rfl := oI h0
    exact aF (bJ (aQ (QM0 (.inr rfl) (rs := [.cell 10 30, .cell 11 22]) (xs := [(eL (eI) ([])), (eI (13 : Int))]) (x := (.tup [(eL (eI) ([])), (eI (13 : Int))])) (by kernel_rfl) (gX (lo := lo1) (k := 1) (y := (eL (eI) ([]))) (x := (eL (eI) ([]))) 0 hO (by kernel_rfl) (by kernel_rfl) (by kernel_rfl) (by kernel_rfl) (gX (lo := lo2) (k := 1) (y := (eI (13 : Int))) (x := (eI (13 : Int))) 1 hO (by kernel_rfl) (by kernel_rfl) (by kernel_rfl) (by kernel_rfl) lM)) (by kernel_rfl) ⟨rfl, hO.out⟩)))
  refine aS aC 16 [19] [(28, (aB (((decide (s2.From < (-1 : Int))) || (decide (s2.To ≤ s2.From))) || (decide ((1125899906842624 : Int) < s2.To)))))] ?_
  refine bO h0 (fun h0 => ?_) (fun h0 => ?_)
  · refine aN ?_
    refine aP aC 2 ?_
    refine iS 0 lo1 1 0 (eL (eI) ([])) (.sl true 0 (fun _ => .bad)) [(eL (eI) ([]))] [(lo1, 1, [(.sl true 0 (fun _ => .bad))]), (lo2, 1, [(eI 0)])] hO rfl (by kernel_rfl) ?_
    intro H hO
    refine iS 1 lo2 1 0 (eI 0) (eI (14 : Int)) [(eI 0)] [(lo1, 1, [(.sl true 0 (fun _ => .bad))]), (lo2, 1, [(eI (14 : Int))])] hO rfl (by kernel_rfl) ?_
    intro H hO
    refine dV ?_
    refine qN 0 lo1 1 (.sl true 0 (fun _ => .bad)) (eL (eI) ([])) [(lo1, 1, [(eL (eI) ([]))]), (lo2, 1, [(eI (14 : Int))])] hO (by kernel_rfl) (by kernel_rfl) nI (by kernel_rfl) ?_
    intro H hO
    refine bD [(10, (.lp lo1 0 0)), (11, (.lp lo2 0 0))] ?_
    refine bK ?_
    obtain rfl := oI h0
    exact aF (bJ (aQ (QM0 (.inr rfl) (rs := [.cell 10 30, .cell 11 22]) (xs := [(eL (eI) ([])), (eI (14 : Int))]) (x := (.tup [(eL (eI) ([])), (eI (14 : Int))])) (by kernel_rfl) (gX (lo := lo1) (k := 1) (y := (eL (eI) ([]))) (x := (eL (eI) ([]))) 0 hO (by kernel_rfl) (by kernel_rfl) (by kernel_rfl) (by kernel_rfl) (gX (lo := lo2) (k := 1) (y := (eI (14 : Int))) (x := (eI (14 : Int))) 1 hO (by kernel_rfl) (by kernel_rfl) (by kernel_rfl) (by kernel_rfl) lM)) (by kernel_rfl) ⟨rfl, hO.out⟩)))
  refine bS ?_
  refine iM [(0, (eI bX)), (1, (eI hop1)), (3, (eI iC)), (4, (eI eS)), (7, (.rp (bV s2))), (10, (.lp lo1 0 0)), (11, (.lp lo2 0 0))] ?_
  refine aF (aU (aH (?_)))
  refine aN ?_
  refine aP aC 3 ?_
  refine wX (xs := []) (k := 1) (by kernel_rfl) (by kernel_rfl) ?_
  refine yY 1 (.sl true 0 (fun _ => .bad)) (eL (eI) ([])) (by kernel_rfl) (by kernel_rfl) (by kernel_rfl) (nI) (by kernel_rfl) (by kernel_rfl) hO ?_
  intro lo15 H hO
  refine YD 44 1 (fun _ => .bad) (by kernel_rfl) hO (by kernel_rfl) ?_
  intro lo16 H hO
  refine iS 2 lo15 1 0 (eL (eI) ([])) (.msl 1 lo16 0 (List.length ([] : List Int))) [(eL (eI) ([]))] [(lo1, 1, [(eL (eI) ([]))]), (lo2, 1, [(eI 0)]), (lo15, 1, [(.msl 1 lo16 0 (List.length ([] : List Int)))]), (lo16, 1, List.map (eI) ([] : List Int))] hO rfl (by kernel_rfl) ?_
  intro H hO
  refine dV ?_
  refine cB [] [(12, (.lp lo15 0 0))] ?_
  refine aN ?_
  refine aN ?_
  refine aP aC 6 ?_
  refine bN 5 ?_
  obtain ⟨x17, hx18, h0⟩ := aT h0
  refine eW (zJ bX hop1 s2 iC eS _ hx18) hO ?_
  intro H hO
  refine dV ?_
  refine cB [0, 1, 3, 4, 7] [(50, (.fn (.func 54) [] [(.rp (eI x17.1)), (.rp (bV x17.2.1)), (.rp (eI x17.2.2.1)), (.rp (eI x17.2.2.2.1)), (.rp (eI x17.2.2.2.2))]))] ?_
  refine cI 1 ?_
  refine iD [(10, (.lp lo1 0 0)), (11, (.lp lo2 0 0)), (12, (.lp lo15 0 0)), (50, (.fn (.func 54) [] [(.rp (eI x17.1)), (.rp (bV x17.2.1)), (.rp (eI x17.2.2.1)), (.rp (eI x17.2.2.2.1)), (.rp (eI x17.2.2.2.2))]))] ?_
  refine hY (fun T H => ∃ t10 : (List Int), ∃ t11 : Int, ∃ gR : List Int, ∃ rU : Int, ∃ rS : bC, ∃ rM : Int, ∃ rN : Int, ∃ rW : Int, ∃ lo19 : Nat, Has T [(10, (.lp lo1 0 0)), (11, (.lp lo2 0 0)), (12, (.lp lo15 0 0)), (50, (.fn (.func 54) [] [(.rp (eI rU)), (.rp (bV rS)), (.rp (eI rM)), (.rp (eI rN)), (.rp (eI rW))]))] ∧ aJ ⟨H0, [], []⟩ H [(lo1, 1, [(eL (eI) t10)]), (lo2, 1, [(eI t11)]), (lo15, 1, [(.msl 1 lo19 0 (List.length gR))]), (lo19, 1, List.map (eI) gR)] ∧ sS t10 t11 gR rU rS rM rN rW = some r) ?_ ⟨[], 0, ([] : List Int), x17.1, x17.2.1, x17.2.2.1, x17.2.2.2.1, x17.2.2.2.2, lo16, .eq (by kernel_rfl), hO, h0⟩
  clear hO h0
  rintro T H ⟨t10, t11, gR, rU, rS, rM, rN, rW, lo19, hT, hO, h0⟩
  refine bM (l := [(10, (.lp lo1 0 0)), (11, (.lp lo2 0 0)), (12, (.lp lo15 0 0)), (50, (.fn (.func 54) [] [(.rp (eI rU)), (.rp (bV rS)), (.rp (eI rM)), (.rp (eI rN)), (.rp (eI rW))]))]) hT ?_
  clear hT
  unfold sS at h0
  obtain ⟨o0, hl0, h0⟩ := aT h0
  refine wE (fid := 54) (ys := []) (cs := [(.rp (eI rU)), (.rp (bV rS)), (.rp (eI rM)), (.rp (eI rN)), (.rp (eI rW))]) #[51] (fun (A : qI) (b lL : Nat) (st : ((List Int) × Int × List Int) ⊕ ((List Int) × Int × List Int)) (G' : Gs) => Sum.elim (fun (s : (List Int) × Int × List Int) => ∃ lo19 : Nat, G' = (lL, .raw (fS b A .ready none)) :: (up [(lo1, 1, [(eL (eI) s.1)]), (lo2, 1, [(eI s.2.1)]), (lo15, 1, [(.msl 1 lo19 0 (List.length s.2.2))]), (lo19, 1, List.map (eI) s.2.2)] ++ [])) (fun (s : (List Int) × Int × List Int) => ∃ lo19 : Nat, G' = (lL, .raw (fS b A .done (some .ret))) :: (up [(lo1, 1, [(eL (eI) s.1)]), (lo2, 1, [(eI s.2.1)]), (lo15, 1, [(.msl 1 lo19 0 (List.length s.2.2))]), (lo19, 1, List.map (eI) s.2.2)] ++ [])) st) (.inl (t10, t11, gR)) o0 (.tup []) (by kernel_rfl) (by kernel_rfl) (by kernel_rfl) hO (fun _ _ => ⟨lo19, rfl⟩) ?_ ?_
  · intro b lL
    clear hO h0
    refine wD _ b (fun st t51 => rnd (fun (s : (List Int) × Int × List Int) => kQ rU rS rM rN rW s.1 s.2.1 s.2.2 t51) st) ?_ rU rS rM rN rW _ _ hl0
    intro st t51 out1 rr hr
    obtain ⟨s, rfl, h1, rfl⟩ := FU hr
    clear hr
    intro Hr Gr hi hg
    obtain ⟨t10, t11, gR⟩ := s
    dsimp only [Sum.elim_inl] at hi
    obtain ⟨lo19, rfl⟩ := hi
    replace h1 : kQ rU rS rM rN rW t10 t11 gR t51 = some out1 := h1
    unfold kQ at h1
    obtain ⟨E1, hE, hO⟩ := pW hg
    refine pZ (tU (hO.gm 0 _ rfl).2 (by kernel_rfl) (by kernel_rfl) ?_)
    refine iD [(10, (.lp lo1 0 0)), (11, (.lp lo2 0 0)), (12, (.lp lo15 0 0)), (50, (.fn (.func 54) [] [(.rp (eI rU)), (.rp (bV rS)), (.rp (eI rM)), (.rp (eI rN)), (.rp (eI rW))])), (51, (eI t51))] ?_
    refine aP aC 1 ?_
    refine bB ?_
    refine iM [(10, (.lp lo1 0 0)), (11, (.lp lo2 0 0)), (12, (.lp lo15 0 0)), (13, (eI t51))] ?_
    refine aF (⟨rfl, rfl, (hO.gm 0 _ rfl).2, ?_⟩)
    intro o1 ho1
    replace hO := hO.mX o1
    refine cI 2 ?_
    refine aN ?_
    refine aN ?_
    refine aP aC 3 ?_
    refine mS 2 lo15 1 0 (.msl 1 lo19 0 (List.length gR)) (.msl 1 lo19 0 (List.length gR)) [(.msl 1 lo19 0 (List.length gR))] hO rfl ?_
    refine bB ?_
    refine cB [] [(54, (aB (decide ((lN gR) = (1024 : Int)))))] ?_
    refine bO h1 (fun h1 => ?_) (fun h1 => ?_)
    · refine aN ?_
      refine aP aC 2 ?_
      refine iS 0 lo1 1 0 (eL (eI) t10) (.sl true 0 (fun _ => .bad)) [(eL (eI) t10)] [(lo1, 1, [(.sl true 0 (fun _ => .bad))]), (lo2, 1, [(eI t11)]), (lo15, 1, [(.msl 1 lo19 0 (List.length gR))]), (lo19, 1, List.map (eI) gR)] hO rfl (by kernel_rfl) ?_
      intro H hO
      refine iS 1 lo2 1 0 (eI t11) (eI (7 : Int)) [(eI t11)] [(lo1, 1, [(.sl true 0 (fun _ => .bad))]), (lo2, 1, [(eI (7 : Int))]), (lo15, 1, [(.msl 1 lo19 0 (List.length gR))]), (lo19, 1, List.map (eI) gR)] hO rfl (by kernel_rfl) ?_
      intro H hO
      refine dV ?_
      refine qN 0 lo1 1 (.sl true 0 (fun _ => .bad)) (eL (eI) ([])) [(lo1, 1, [(eL (eI) ([]))]), (lo2, 1, [(eI (7 : Int))]), (lo15, 1, [(.msl 1 lo19 0 (List.length gR))]), (lo19, 1, List.map (eI) gR)] hO (by kernel_rfl) (by kernel_rfl) nI (by kernel_rfl) ?_
      intro H hO
      refine bD [(10, (.lp lo1 0 0)), (11, (.lp lo2 0 0)), (12, (.lp lo15 0 0))] ?_
      refine bK ?_
      refine iM [(10, (.lp lo1 0 0)), (11, (.lp lo2 0 0)), (12, (.lp lo15 0 0))] ?_
      obtain rfl := oI h1
      exact aF (aQ (bJ (⟨(eB hO hE ho1 .dead).1, rfl, _, ⟨lo19, rfl⟩, (eB hO hE ho1 _).2⟩)))
    refine bS ?_
    refine bD [(10, (.lp lo1 0 0)), (11, (.lp lo2 0 0)), (12, (.lp lo15 0 0)), (13, (eI t51))] ?_
    refine aP aC 5 ?_
    refine mS 2 lo15 1 0 (.msl 1 lo19 0 (List.length gR)) (.msl 1 lo19 0 (List.length gR)) [(.msl 1 lo19 0 (List.length gR))] hO rfl ?_
    refine bN 2 ?_
    refine wX (xs := [(eI t51)]) (k := 1) (by kernel_rfl) (by kernel_rfl) ?_
    obtain ⟨c22, h1⟩ := aY h1
    refine BJ (e := (eI)) gR ([t51]) 3 lo19 1 8 (iU [(eI t51)]) (fun lo21 => [(lo1, 1, [(eL (eI) t10)]), (lo2, 1, [(eI t11)]), (lo15, 1, [(.msl 1 lo19 0 (List.length gR))]), (lo21, 1, List.map (eI) (gR ++ ([t51])))]) (by kernel_rfl) (by kernel_rfl) hO (by kernel_rfl) (by kernel_rfl) c22 (fun _ => by kernel_rfl) ?_
    intro lo21 H hO
    refine iS 2 lo15 1 0 (.msl 1 lo19 0 (List.length gR)) (.msl 1 lo21 0 (List.length (gR ++ ([t51])))) [(.msl 1 lo19 0 (List.length gR))] [(lo1, 1, [(eL (eI) t10)]), (lo2, 1, [(eI t11)]), (lo15, 1, [(.msl 1 lo21 0 (List.length (gR ++ ([t51]))))]), (lo21, 1, List.map (eI) (gR ++ ([t51])))] hO rfl (by kernel_rfl) ?_
    intro H hO
    refine dV ?_
    refine iM [(10, (.lp lo1 0 0)), (11, (.lp lo2 0 0)), (12, (.lp lo15 0 0))] ?_
    obtain rfl := oI h1
    exact aF (aU (⟨(eB hO hE ho1 .dead).1, rfl, _, ⟨lo21, rfl⟩, (eB hO hE ho1 _).2⟩))
  · intro b lD23 lL H' G' hi hO
    rcases o0 with s | s
    · dsimp only [Sum.elim_inl] at hi
      obtain ⟨lo19, rfl⟩ := hi
      replace h0 : (some (s.2.2, (0 : Int))) = some r := h0
      obtain ⟨hlL, hO⟩ := lX hO
      refine ⟨_, _, hlL, (by intro e; cases e), ?_⟩
      refine iM [(10, (.lp lo1 0 0)), (11, (.lp lo2 0 0)), (12, (.lp lo15 0 0))] ?_
      refine aF (aU (aH (?_)))
      refine aN ?_
      refine PG (e := (eI)) s.2.2 2 3 1 1 lo15 lo19 (List.length s.2.2) [(lo1, 1, [(eL (eI) s.1)]), (lo2, 1, [(eI s.2.1)]), (lo15, 1, [(eL (eI) s.2.2)])] hO (by kernel_rfl) (by kernel_rfl) (by kernel_rfl) (.inr (by decide)) (by kernel_rfl) ?_
      intro H hO
      refine aP aC 3 ?_
      refine mS 2 lo15 1 0 (eL (eI) s.2.2) (eL (eI) s.2.2) [(eL (eI) s.2.2)] hO rfl ?_
      refine iS 0 lo1 1 0 (eL (eI) s.1) (eL (eI) s.2.2) [(eL (eI) s.1)] [(lo1, 1, [(eL (eI) s.2.2)]), (lo2, 1, [(eI s.2.1)]), (lo15, 1, [(eL (eI) s.2.2)])] hO rfl (by kernel_rfl) ?_
      intro H hO
      refine iS 1 lo2 1 0 (eI s.2.1) (eI (0 : Int)) [(eI s.2.1)] [(lo1, 1, [(eL (eI) s.2.2)]), (lo2, 1, [(eI (0 : Int))]), (lo15, 1, [(eL (eI) s.2.2)])] hO rfl (by kernel_rfl) ?_
      intro H hO
      refine dV ?_
      replace hO := hO.pick (L' := [(lo1, 1, [(eL (eI) s.2.2)]), (lo2, 1, [(eI (0 : Int))])]) [0, 1] (by decide) (by kernel_rfl)
      refine cB [12] [] ?_
      refine bK ?_
      obtain rfl := oI h0
      have hD := (hO.gm 0 _ rfl).2
      replace hO := (hO.mX .dead).nQ
      exact aF (QM1 (.inr rfl) hD (rs := [.cell 10 30, .cell 11 22]) (xs := [(eL (eI) s.2.2), (eI (0 : Int))]) (x := (.tup [(eL (eI) s.2.2), (eI (0 : Int))])) (by kernel_rfl) (gX (lo := lo1) (k := 1) (y := (eL (eI) s.2.2)) (x := (eL (eI) s.2.2)) 0 hO (by kernel_rfl) (by kernel_rfl) (by kernel_rfl) (by kernel_rfl) (gX (lo := lo2) (k := 1) (y := (eI (0 : Int))) (x := (eI (0 : Int))) 1 hO (by kernel_rfl) (by kernel_rfl) (by kernel_rfl) (by kernel_rfl) lM)) (by kernel_rfl) ⟨rfl, hO.out⟩)
    · dsimp only [Sum.elim_inr] at hi
      obtain ⟨lo19, rfl⟩ := hi
      replace h0 : (some (s.1, s.2.1)) = some r := h0
      obtain ⟨hlL, hO⟩ := lX hO
      refine ⟨_, _, hlL, (by intro e; cases e), ?_⟩
      refine bK ?_
      replace hO := hO.pick (L' := [(lo1, 1, [(eL (eI) s.1)]), (lo2, 1, [(eI s.2.1)])]) [0, 1] (by decide) (by kernel_rfl)
      obtain rfl := oI h0
      have hD := (hO.gm 0 _ rfl).2
      replace hO := (hO.mX .dead).nQ
      exact aF (bJ (aQ (QM1 (.inr rfl) hD (rs := [.cell 10 30, .cell 11 22]) (xs := [(eL (eI) s.1), (eI s.2.1)]) (x := (.tup [(eL (eI) s.1), (eI s.2.1)])) (by kernel_rfl) (gX (lo := lo1) (k := 1) (y := (eL (eI) s.1)) (x := (eL (eI) s.1)) 0 hO (by kernel_rfl) (by kernel_rfl) (by kernel_rfl) (by kernel_rfl) (gX (lo := lo2) (k := 1) (y := (eI s.2.1)) (x := (eI s.2.1)) 1 hO (by kernel_rfl) (by kernel_rfl) (by kernel_rfl) (by kernel_rfl) lM)) (by kernel_rfl) ⟨rfl, hO.out⟩)))

theorem BW (l0 : (List bF)) (r : (List bF)) (h0 : pT l0 = some r) : dS Try.prog 56 [(eL bQ l0)] (.fn (.func 74) [] [(.rp (eL bQ r))]) := by
  intro H0
  refine dP Try.func56 ?_
  have hO := aJ.start H0
  unfold pT at h0
  refine aN ?_
  refine aP aC 2 ?_
  refine gO 1 (eL bQ l0) (by kernel_rfl) (by kernel_rfl) ?_
  refine bB ?_
  refine bD [(1, (.rp (eL bQ l0)))] ?_
  refine cN aC 2 [(2, (.fn (.func 74) [] [(.rp (eL bQ l0))]))] ?_
  refine bK ?_
  obtain rfl := oI h0
  exact aF (lA (x := (.fn (.func 74) [] [(.rp (eL bQ l0))])) (by kernel_rfl) (aL.refl _) ⟨rfl, hO.out⟩)

theorem sZ (s10 : (List aD)) (s21 : (List aD)) (r : Bool) (h0 : jA s10 s21 = some r) : dS Try.prog 76 [(eL aI s10), (eL aI s21)] (aB r) := by
  intro H0
  refine dP Try.func76 ?_
  have hO := aJ.start H0
  unfold jA at h0
  refine aS aC 1 [] [] ?_
  refine aN ?_
  refine aS aC 5 [] [(10, (aB (!decide ((lN s10) = (lN s21)))))] ?_
  refine bO h0 (fun h0 => ?_) (fun h0 => ?_)
  · refine cN aC 1 [(4, (aB false))] ?_
    refine bK ?_
    obtain rfl := oI h0
    exact aF (aQ (Q_r hO))
  refine bS ?_
  refine bD [(0, (eL aI s10)), (1, (eL aI s21))] ?_
  refine iX (fun T H => Has T [] ∧ aJ ⟨H0, [], []⟩ H [] ∧ fV  = some r) ?_ ?_
  · clear hO h0
    rintro T H ⟨hT, hO, h0⟩
    refine bM hT ?_
    clear hT
    unfold fV at h0
    refine cN aC 1 [(4, (aB true))] ?_
    refine bK ?_
    obtain rfl := oI h0
    exact aF (Q_r hO)
  refine aS aC 3 [] [(12, (eI (lN s10))), (13, (eI (0 : Int)))] ?_
  refine cI 0 ?_
  refine iD [(0, (eL aI s10)), (1, (eL aI s21)), (12, (eI (lN s10))), (13, (eI (0 : Int)))] ?_
  refine hY (fun T H => ∃ t12 : Int, ∃ t13 : Int, Has T [(0, (eL aI s10)), (1, (eL aI s21)), (12, (eI t12)), (13, (eI t13))] ∧ aJ ⟨H0, [], []⟩ H [] ∧ iW s10 s21 t12 t13 = some r) ?_ ⟨(lN s10), (0 : Int), .eq (by kernel_rfl), hO, h0⟩
  clear hO h0
  rintro T H ⟨t12, t13, hT, hO, h0⟩
  refine bM hT ?_
  clear hT
  unfold iW at h0
  obtain ⟨rr0, hl0, h0⟩ := aT h0
  refine eK (by kernel_rfl) (fun (s : Int) T H => Has T [(0, (eL aI s10)), (1, (eL aI s21)), (12, (eI t12)), (13, (eI s))] ∧ aJ ⟨H0, [], []⟩ H []) hl0 ⟨.eq (by kernel_rfl), hO⟩ ?_
  clear hO
  rintro k0 s out1 T H ⟨hT, hO⟩ h1 ho0
  obtain ⟨t13, rfl⟩ : ∃ x, x = s := ⟨_, rfl⟩
  replace h1 : eR s10 s21 t12 t13 = some out1 := h1
  refine bM hT ?_
  clear hT
  unfold eR at h1
  refine aS aC 1 [] [(14, (aB (decide (t13 < t12))))] ?_
  refine aN ?_
  refine bO h1 (fun h1 => ?_) (fun h1 => ?_)
  · refine bS ?_
    refine bD [(0, (eL aI s10)), (1, (eL aI s21)), (12, (eI t12)), (13, (eI t13))] ?_
    refine aN ?_
    refine cI 1 ?_
    refine aS aC 2 [] [(5, (eI t13))] ?_
    refine aN ?_
    refine gU (gW [19, 23]) aC 9 ?_
    obtain ⟨c3, h1⟩ := aY h1
    obtain ⟨c4, h1⟩ := aY h1
    refine IQ (Ds := [0 ≤ t13 ∧ t13 < (lN s10), 0 ≤ t13 ∧ t13 < (lN s21)]) (by kernel_rfl) ⟨c3, c4, trivial⟩ ?_
    refine cB [5] [(24, (aB (!((decide (((gD s10 t13).Kind) = ((gD s21 t13).Kind))) && ((decide (((gD s10 t13).Num) = ((gD s21 t13).Num))) && ((nR ((gD s10 t13).Text) ((gD s21 t13).Text)) && true))))))] ?_
    refine bO h1 (fun h1 => ?_) (fun h1 => ?_)
    · refine cN aC 1 [(4, (aB false))] ?_
      refine bK ?_
      obtain rfl := oI h1
      obtain rfl : _ = rr0 := ho0
      replace h0 : some false = some r := h0
      obtain rfl := oI h0
      exact aF (bJ (aQ (aQ (bJ (aQ (Q_r hO))))))
    refine bS ?_
    refine iM [(0, (eL aI s10)), (1, (eL aI s21)), (12, (eI t12)), (13, (eI t13))] ?_
    refine aF (aU (aH (?_)))
    refine aP aC 2 ?_
    refine bB ?_
    exact aF (aH (⟨rfl, _, (oI h1).symm, .eq (by kernel_rfl), hO⟩))
  refine jJ 0 ?_
  obtain rfl := oI h1
  obtain rfl : _ = rr0 := ho0
  replace h0 : fV  = some r := h0
  exact aF (aV (aV (cH (aH (⟨rfl, .eq (by kernel_rfl), hO, h0⟩)))))

theorem EU (a0 : (List aD)) (b1 : (List aD)) (r : Bool) (h0 : oY a0 b1 = some r) : dS Try.prog 58 [(eL aI a0), (eL aI b1)] (aB r) := by
  intro H0
  refine dP Try.func58 ?_
  have hO := aJ.start H0
  unfold oY at h0
  refine aS aC 1 [] [] ?_
  refine aN ?_
  refine aP aC 4 ?_
  refine bN 2 ?_
  obtain ⟨x1, hx2, h0⟩ := aT h0
  refine eW (sZ a0 b1 _ hx2) hO ?_
  intro H hO
  refine bB ?_
  refine bD [(4, (aB x1))] ?_
  refine bK ?_
  obtain rfl := oI h0
  exact aF (Q_r hO)

theorem EY (r0 : (List aD)) (r : (List aD)) (h0 : rT r0 = some r) : dS Try.prog 59 [(eL aI r0)] (eL aI r) := by
  intro H0
  refine dP Try.func59 ?_
  have hO := aJ.start H0
  unfold rT at h0
  refine aS aC 1 [] [] ?_
  refine aN ?_
  refine aP aC 6 ?_
  refine bN 2 ?_
  obtain ⟨c1, h0⟩ := aY h0
  refine GA 3 32 (lN r0) (by kernel_rfl) (by kernel_rfl) c1 hO ?_
  intro lo2 H hO
  refine bN 4 ?_
  obtain ⟨c4, h0⟩ := aY h0
  refine BJ (e := aI) ([] : List aD) r0 0 lo2 3 32 (eL aI r0) (fun lo3 => [(lo3, 3, List.map aI (([] : List aD) ++ r0))]) (by kernel_rfl) (by kernel_rfl) hO (by kernel_rfl) (XP (fun _ => by kernel_rfl)) c4 (fun _ => by kernel_rfl) ?_
  intro lo3 H hO
  refine bB ?_
  refine bD [(2, (.msl 3 lo3 0 (List.length (([] : List aD) ++ r0))))] ?_
  refine bK ?_
  refine iM [(2, (.msl 3 lo3 0 (List.length (([] : List aD) ++ r0))))] ?_
  refine HE (en := aI) (([] : List aD) ++ r0) 0 0 2 3 lo3 (List.length (([] : List aD) ++ r0)) hO (by kernel_rfl) (by kernel_rfl) (by kernel_rfl) (L' := []) (by kernel_rfl) ?_
  intro H5 hO
  obtain rfl := oI h0
  exact aF (Q_r hO)

theorem xB {σ : Type} (I : σ → Gs → Prop) (yield0_b : Nat) (cG : σ → (List aD) → (List aG) → Option (σ × Bool)) (yield0_h : ∀ st a0 a1 st2 r, cG st a0 a1 = some (st2, r) → vB Try.prog (yv yield0_b) I st [(eL aI a0), (eL aK a1)] st2 (aB r)) (t1 : (List bF)) (sg0 : σ) (r : σ) (h0 : mE cG t1 sg0 = some r) : sQ Try.prog 74 I sg0 [(yv yield0_b), (.rp (eL bQ t1))] r (.tup []) := by
  intro H0 G0 hI hg
  refine dP Try.func74 ?_
  obtain ⟨G, hO, hI⟩ : ∃ G, aJ ⟨H0, List.map (fun p : Nat × cS => p.1) G0, G⟩ H0 [] ∧ I sg0 G := ⟨G0, aJ.xU hg, hI⟩
  clear hg
  unfold mE at h0
  refine aS aC 1 [] [(3, (eI (0 : Int)))] ?_
  refine cI 0 ?_
  refine iD [(0, (yv yield0_b)), (1, (.rp (eL bQ t1))), (3, (eI (0 : Int)))] ?_
  refine hY (fun T H => ∃ sg : σ, ∃ i3 : Int, ∃ G : Gs, Has T [(0, (yv yield0_b)), (1, (.rp (eL bQ t1))), (3, (eI i3))] ∧ aJ ⟨H0, List.map (fun p : Nat × cS => p.1) G0, G⟩ H [] ∧ I sg G ∧ oT cG sg t1 i3 = some r) ?_ ⟨sg0, (0 : Int), G, .eq (by kernel_rfl), hO, hI, h0⟩
  clear hO hI h0
  rintro T H ⟨sg, i3, G, hT, hO, hI, h0⟩
  refine bM hT ?_
  clear hT
  unfold oT at h0
  obtain ⟨rr0, hl0, h0⟩ := aT h0
  refine eK (by kernel_rfl) (fun (s : σ × Int) T H => ∃ G : Gs, Has T [(0, (yv yield0_b)), (1, (.rp (eL bQ t1))), (3, (eI s.2))] ∧ aJ ⟨H0, List.map (fun p : Nat × cS => p.1) G0, G⟩ H [] ∧ I s.1 G) hl0 ⟨G, .eq (by kernel_rfl), hO, hI⟩ ?_
  clear hO hI
  rintro k0 s out1 T H ⟨G, hT, hO, hI⟩ h1 ho0
  obtain ⟨sg, i3⟩ := s
  replace h1 : iF cG t1 sg i3 = some out1 := h1
  try dsimp only at hT
  refine bM hT ?_
  clear hT
  unfold iF at h1
  refine aN ?_
  refine aS aC 4 [] [(9, (aB (decide (i3 < (lN t1)))))] ?_
  refine bO h1 (fun h1 => ?_) (fun h1 => ?_)
  · refine bS ?_
    refine bD [(0, (yv yield0_b)), (1, (.rp (eL bQ t1))), (3, (eI i3))] ?_
    refine cI 1 ?_
    refine aN ?_
    refine aP aC 6 ?_
    obtain ⟨c2, h1⟩ := aY h1
    refine rB [0 ≤ i3 ∧ i3 < (lN t1)] ⟨c2, trivial⟩ ?_
    refine cB [] [(4, (eL aI ((gD t1 i3).Row)))] ?_
    refine aN ?_
    refine aP aC 2 ?_
    refine wX (xs := []) (k := 2) (by kernel_rfl) (by kernel_rfl) ?_
    refine bB ?_
    refine cB [] [(5, (.sl true 0 (fun _ => .bad)))] ?_
    refine iX (fun T H => ∃ sg : σ, ∃ i3 : Int, ∃ r4 : (List aD), ∃ f5 : List aG, ∃ lo3 : Nat, ∃ G : Gs, Has T [(0, (yv yield0_b)), (1, (.rp (eL bQ t1))), (3, (eI i3)), (4, (eL aI r4)), (5, (.msl 2 lo3 0 (List.length f5)))] ∧ aJ ⟨H0, List.map (fun p : Nat × cS => p.1) G0, G⟩ H [(lo3, 2, List.map aK f5)] ∧ I sg G ∧ mY cG sg t1 i3 r4 f5 = some out1) ?_ ?_
    · clear hO hI h1
      rintro T H ⟨sg, i3, r4, f5, lo3, G, hT, hO, hI, h1⟩
      refine bM hT ?_
      clear hT
      unfold mY at h1
      refine aN ?_
      refine aP aC 6 ?_
      refine RQ (e := aK) f5 0 5 2 lo3 (List.length f5) [] (by kernel_rfl) hO (by kernel_rfl) (by kernel_rfl) (by kernel_rfl) (by kernel_rfl) ?_
      intro H hO
      refine bN 2 ?_
      obtain ⟨x7, hx8, h1⟩ := aT h1
      refine eW (EY r4 _ hx8) hO ?_
      intro H hO
      refine bN 4 ?_
      obtain ⟨x10, hx11, h1⟩ := aT h1
      refine BE (I := I) (yv yield0_b) [(eL aI x7), (eL aK f5)] (aB x10.2) (by kernel_rfl) (by kernel_rfl) (yield0_h _ x7 f5 x10.1 x10.2 hx11) hO hI ?_
      intro G H hO hI
      refine bB ?_
      refine cB [4, 5] [(50, (aB (!x10.2)))] ?_
      refine bO h1 (fun h1 => ?_) (fun h1 => ?_)
      · refine bK ?_
        obtain rfl := oI h1
        obtain rfl : _ = rr0 := ho0
        replace h0 : some x10.1 = some r := h0
        obtain rfl := oI h0
        exact aF (bJ (aQ (bJ (lA (x := (.tup [])) (by kernel_rfl) (aL.refl _) ⟨rfl, G, hI, hO.tX⟩))))
      refine bS ?_
      exact aF (aU (aH (⟨rfl, _, (oI h1).symm, _, .eq (by kernel_rfl), hO, hI⟩)))
    refine cI 2 ?_
    refine iD [(0, (yv yield0_b)), (1, (.rp (eL bQ t1))), (3, (eI i3)), (4, (eL aI ((gD t1 i3).Row))), (5, (.sl true 0 (fun _ => .bad)))] ?_
    refine YY (el := (fun _ => .bad)) 4 5 2 hO (by kernel_rfl) ?_
    intro lo24 H25 hO
    refine hY (fun T H => ∃ sg : σ, ∃ i3 : Int, ∃ r4 : (List aD), ∃ f5 : List aG, ∃ lo14 : Nat, ∃ G : Gs, Has T [(0, (yv yield0_b)), (1, (.rp (eL bQ t1))), (3, (eI i3)), (4, (eL aI r4)), (5, (.msl 2 lo14 0 (List.length f5)))] ∧ aJ ⟨H0, List.map (fun p : Nat × cS => p.1) G0, G⟩ H [(lo14, 2, List.map aK f5)] ∧ I sg G ∧ oW cG sg t1 i3 r4 f5 = some out1) ?_ ⟨sg, i3, (gD t1 i3).Row, ([] : List aG), lo24, G, .eq (by kernel_rfl), hO, hI, h1⟩
    clear hO hI h1
    rintro T H ⟨sg, i3, r4, f5, lo14, G, hT, hO, hI, h1⟩
    refine bM hT ?_
    clear hT
    unfold oW at h1
    obtain ⟨rr1, hl1, h1⟩ := aT h1
    refine eK (by kernel_rfl) (fun (s : σ × Int × List aG) T H => ∃ lo14 : Nat, ∃ G : Gs, Has T [(0, (yv yield0_b)), (1, (.rp (eL bQ t1))), (3, (eI s.2.1)), (4, (eL aI r4)), (5, (.msl 2 lo14 0 (List.length s.2.2)))] ∧ aJ ⟨H0, List.map (fun p : Nat × cS => p.1) G0, G⟩ H [(lo14, 2, List.map aK s.2.2)] ∧ I s.1 G) hl1 ⟨lo14, G, .eq (by kernel_rfl), hO, hI⟩ ?_
    clear hO hI
    rintro k1 s out2 T H ⟨lo14, G, hT, hO, hI⟩ h2 ho1
    obtain ⟨sg, i3, f5⟩ := s
    replace h2 : jB cG t1 r4 sg i3 f5 = some out2 := h2
    try dsimp only at hT
    refine bM hT ?_
    clear hT
    unfold jB at h2
    refine aN ?_
    refine aN ?_
    refine aP aC 13 ?_
    obtain ⟨c15, h2⟩ := aY h2
    refine zD 11 [(((decide (i3 < (lN t1)))) = true → 0 ≤ i3 ∧ i3 < (lN t1))] ⟨c15, trivial⟩ ?_
    obtain ⟨x16, hx17, h2⟩ := aT h2
    refine nF [(20, true)] 58 [(eL aI ((gD t1 i3).Row)), (eL aI r4)] (aB x16) (decide (i3 < (lN t1))) (by kernel_rfl) (by kernel_rfl) (by kernel_rfl) (fun hb18 => (EU ((gD t1 i3).Row) r4 _ (kO hx17 hb18))) hO ?_
    intro H hO
    refine bB ?_
    refine cB [] [(28, (aB ((decide (i3 < (lN t1))) && x16)))] ?_
    refine bO h2 (fun h2 => ?_) (fun h2 => ?_)
    · refine bS ?_
      refine bD [(0, (yv yield0_b)), (1, (.rp (eL bQ t1))), (3, (eI i3)), (4, (eL aI r4)), (5, (.msl 2 lo14 0 (List.length f5)))] ?_
      refine aN ?_
      refine cI 3 ?_
      refine gU (gW [32, 36, 37, 41, 43]) aC 15 ?_
      obtain ⟨c20, h2⟩ := aY h2
      obtain ⟨c21, h2⟩ := aY h2
      refine cF 12 [0 ≤ i3 ∧ i3 < (lN t1), 0 ≤ i3 ∧ i3 < (lN t1)] ⟨c20, c21, trivial⟩ ?_
      refine VQ (xs := [(aK (aG.mk ((gD t1 i3).At) ((gD t1 i3).Net)))]) (k := 2) (by kernel_rfl) (by kernel_rfl) ?_
      obtain ⟨c23, h2⟩ := aY h2
      refine NQ (e := aK) f5 ([aG.mk ((gD t1 i3).At) ((gD t1 i3).Net)]) 0 lo14 2 16 (iU [(aK (aG.mk ((gD t1 i3).At) ((gD t1 i3).Net)))]) (fun lo22 => [(lo22, 2, List.map aK (f5 ++ ([aG.mk ((gD t1 i3).At) ((gD t1 i3).Net)])))]) (by kernel_rfl) (by kernel_rfl) hO (by kernel_rfl) (by kernel_rfl) c23 (fun _ => by kernel_rfl) ?_
      intro lo22 H hO
      refine kY ?_
      refine iM [(0, (yv yield0_b)), (1, (.rp (eL bQ t1))), (3, (eI i3)), (4, (eL aI r4)), (5, (.msl 2 lo22 0 (List.length (f5 ++ ([aG.mk ((gD t1 i3).At) ((gD t1 i3).Net)])))))] ?_
      refine aF (aU (aH (?_)))
      refine aP aC 3 ?_
      refine bB ?_
      exact aF (aH (⟨rfl, _, (oI h2).symm, _, _, .eq (by kernel_rfl), hO, hI⟩))
    refine jJ 2 ?_
    obtain rfl := oI h2
    obtain rfl : _ = rr1 := ho1
    replace h1 : mY cG sg t1 i3 r4 f5 = some out1 := h1
    exact aF (aV (aV (cH (aH (⟨rfl, _, _, _, _, _, _, .eq (by kernel_rfl), hO, hI, h1⟩)))))
  refine jJ 0 ?_
  obtain rfl := oI h1
  obtain rfl : _ = rr0 := ho0
  replace h0 : some sg = some r := h0
  obtain rfl := oI h0
  exact aF (aV (aV (cH (tI (x := (.tup [])) (by kernel_rfl) (aL.refl _) ⟨rfl, G, hI, hO.tX⟩))))

theorem rA (s0 : (List aD)) (f1_f : Nat) (f1_a f1_c : List V) (f1 : aD → Option Bool) (f1_h : ∀ a0 r, f1 a0 = some r → dS Try.prog f1_f (f1_a ++ [(aI a0)] ++ f1_c) (aB r)) (r : Int) (h0 : hU s0 f1 = some r) : dS Try.prog 95 [(eL aI s0), (.fn (.func f1_f) f1_a f1_c)] (eI r) := by
  intro H0
  refine dP Try.func95 ?_
  have hO := aJ.start H0
  unfold hU at h0
  refine aS aC 1 [] [] ?_
  refine iX (fun T H => Has T [] ∧ aJ ⟨H0, [], []⟩ H [] ∧ eX f1  = some r) ?_ ?_
  · clear hO h0
    rintro T H ⟨hT, hO, h0⟩
    refine bM hT ?_
    clear hT
    unfold eX at h0
    refine cN aC 1 [(4, (eI (-1 : Int)))] ?_
    refine bK ?_
    obtain rfl := oI h0
    exact aF (Q_r hO)
  refine aS aC 3 [] [(7, (eI (lN s0))), (8, (eI (0 : Int)))] ?_
  refine cI 0 ?_
  refine iD [(0, (eL aI s0)), (1, (.fn (.func f1_f) f1_a f1_c)), (7, (eI (lN s0))), (8, (eI (0 : Int)))] ?_
  refine hY (fun T H => ∃ t7 : Int, ∃ t8 : Int, Has T [(0, (eL aI s0)), (1, (.fn (.func f1_f) f1_a f1_c)), (7, (eI t7)), (8, (eI t8))] ∧ aJ ⟨H0, [], []⟩ H [] ∧ gS f1 s0 t7 t8 = some r) ?_ ⟨(lN s0), (0 : Int), .eq (by kernel_rfl), hO, h0⟩
  clear hO h0
  rintro T H ⟨t7, t8, hT, hO, h0⟩
  refine bM hT ?_
  clear hT
  unfold gS at h0
  obtain ⟨rr0, hl0, h0⟩ := aT h0
  refine eK (by kernel_rfl) (fun (s : Int) T H => Has T [(0, (eL aI s0)), (1, (.fn (.func f1_f) f1_a f1_c)), (7, (eI t7)), (8, (eI s))] ∧ aJ ⟨H0, [], []⟩ H []) hl0 ⟨.eq (by kernel_rfl), hO⟩ ?_
  clear hO
  rintro k0 s out1 T H ⟨hT, hO⟩ h1 ho0
  obtain ⟨t8, rfl⟩ : ∃ x, x = s := ⟨_, rfl⟩
  replace h1 : gT f1 s0 t7 t8 = some out1 := h1
  refine bM hT ?_
  clear hT
  unfold gT at h1
  refine aS aC 1 [] [(9, (aB (decide (t8 < t7))))] ?_
  refine aN ?_
  refine bO h1 (fun h1 => ?_) (fun h1 => ?_)
  · refine bS ?_
    refine bD [(0, (eL aI s0)), (1, (.fn (.func f1_f) f1_a f1_c)), (7, (eI t7)), (8, (eI t8))] ?_
    refine aN ?_
    refine cI 1 ?_
    refine aS aC 2 [] [(5, (eI t8))] ?_
    refine aN ?_
    refine aP aC 6 ?_
    obtain ⟨c2, h1⟩ := aY h1
    refine zD 5 [0 ≤ t8 ∧ t8 < (lN s0)] ⟨c2, trivial⟩ ?_
    obtain ⟨x3, hx4, h1⟩ := aT h1
    refine eW (f1_h (gD s0 t8) _ hx4) hO ?_
    intro H hO
    refine dV ?_
    refine cB [] [(16, (aB x3))] ?_
    refine bO h1 (fun h1 => ?_) (fun h1 => ?_)
    · refine cN aC 2 [(4, (eI t8))] ?_
      refine bK ?_
      obtain rfl := oI h1
      obtain rfl : _ = rr0 := ho0
      replace h0 : some t8 = some r := h0
      obtain rfl := oI h0
      exact aF (bJ (aQ (aQ (bJ (aQ (Q_r hO))))))
    refine bS ?_
    refine iM [(0, (eL aI s0)), (1, (.fn (.func f1_f) f1_a f1_c)), (7, (eI t7)), (8, (eI t8))] ?_
    refine aF (aU (aH (?_)))
    refine aP aC 2 ?_
    refine bB ?_
    exact aF (aH (⟨rfl, _, (oI h1).symm, .eq (by kernel_rfl), hO⟩))
  refine jJ 0 ?_
  obtain rfl := oI h1
  obtain rfl : _ = rr0 := ho0
  replace h0 : eX f1  = some r := h0
  exact aF (aV (aV (cH (aH (⟨rfl, .eq (by kernel_rfl), hO, h0⟩)))))

theorem pF (s0 : (List aD)) (f1_f : Nat) (f1_a f1_c : List V) (f1 : aD → Option Bool) (f1_h : ∀ a0 r, f1 a0 = some r → dS Try.prog f1_f (f1_a ++ [(aI a0)] ++ f1_c) (aB r)) (r : Bool) (h0 : eP s0 f1 = some r) : dS Try.prog 92 [(eL aI s0), (.fn (.func f1_f) f1_a f1_c)] (aB r) := by
  intro H0
  refine dP Try.func92 ?_
  have hO := aJ.start H0
  unfold eP at h0
  refine aS aC 1 [] [] ?_
  refine aN ?_
  refine aP aC 5 ?_
  refine bN 2 ?_
  obtain ⟨x1, hx2, h0⟩ := aT h0
  refine eW (rA s0 f1_f f1_a f1_c f1 f1_h _ hx2) hO ?_
  intro H hO
  refine bB ?_
  refine bD [(4, (aB (decide ((0 : Int) ≤ x1))))] ?_
  refine bK ?_
  obtain rfl := oI h0
  exact aF (Q_r hO)

theorem tQ (v0 : aD) (r : (bA × Bool)) (h0 : kU v0 = some r) : dS Try.prog 106 [(aI v0)] (.tup [(aX r.1), (aB r.2)]) := by
  intro H0
  refine dP Try.func106 ?_
  have hO := aJ.start H0
  unfold kU at h0
  refine aN ?_
  refine aP aC 3 ?_
  refine gO 3 (aI v0) (by kernel_rfl) (by kernel_rfl) ?_
  refine bB ?_
  refine bD [(1, (.rp (aI v0)))] ?_
  refine aN ?_
  refine cI 0 ?_
  refine aS aC 9 [] [(4, (aB ((decide (v0.Kind = (1 : Int))) && (nR v0.Text (⟨#[]⟩ : ByteArray)))))] ?_
  refine bO h0 (fun h0 => ?_) (fun h0 => ?_)
  · refine cN aC 5 [(2, (aX (bA.k_number v0.Num))), (3, (aB true))] ?_
    refine bK ?_
    obtain rfl := oI h0
    exact aF (bJ (aQ (Q_r hO)))
  refine aS aC 15 [4] [(16, (aB (((decide (v0.Kind = (2 : Int))) && (decide (v0.Num = (0 : Int)))) && (decide (((ByteArray.size v0.Text : Nat) : Int) ≤ (64 : Int))))))] ?_
  refine bO h0 (fun h0 => ?_) (fun h0 => ?_)
  · refine cN aC 5 [(2, (aX (bA.k_words v0.Text))), (3, (aB true))] ?_
    refine bK ?_
    obtain rfl := oI h0
    exact aF (bJ (aQ (Q_r hO)))
  refine bS ?_
  refine iM [] ?_
  refine aF (aU (aH (?_)))
  refine cN aC 2 [(2, (aX bA.none_)), (3, (aB false))] ?_
  refine bK ?_
  obtain rfl := oI h0
  exact aF (Q_r hO)

theorem MO (v0 : aD) (r : Bool) (h0 : sF v0 = some r) : dS Try.prog 94 [(aI v0)] (aB r) := by
  intro H0
  refine dP Try.func94 ?_
  have hO := aJ.start H0
  unfold sF at h0
  refine aN ?_
  refine aP aC 2 ?_
  refine gO 3 (aI v0) (by kernel_rfl) (by kernel_rfl) ?_
  refine bB ?_
  refine bD [(1, (.rp (aI v0)))] ?_
  refine aN ?_
  refine aP aC 7 ?_
  refine bN 1 ?_
  obtain ⟨⟨x1_0, x1_1⟩, hx2, h0⟩ := aT h0
  refine eW (tQ v0 _ hx2) hO ?_
  intro H hO
  rcases x1_0 with _ | y4 | y5
  · replace h0 : (some x1_1) = some r := h0
    refine bB ?_
    refine bD [(4, (aB x1_1))] ?_
    refine cN aC 2 [(2, (aB x1_1))] ?_
    refine bK ?_
    obtain rfl := oI h0
    exact aF (Q_r hO)
  · replace h0 : (some x1_1) = some r := h0
    refine bB ?_
    refine bD [(4, (aB x1_1))] ?_
    refine cN aC 2 [(2, (aB x1_1))] ?_
    refine bK ?_
    obtain rfl := oI h0
    exact aF (Q_r hO)
  · replace h0 : (some x1_1) = some r := h0
    refine bB ?_
    refine bD [(4, (aB x1_1))] ?_
    refine cN aC 2 [(2, (aB x1_1))] ?_
    refine bK ?_
    obtain rfl := oI h0
    exact aF (Q_r hO)

theorem MR (v0 : aD) (r : Bool) (h0 : sK v0 = some r) : dS Try.prog 93 [(aI v0)] (aB r) := by
  intro H0
  refine dP Try.func93 ?_
  have hO := aJ.start H0
  unfold sK at h0
  refine aN ?_
  refine aP aC 2 ?_
  refine gO 3 (aI v0) (by kernel_rfl) (by kernel_rfl) ?_
  refine bB ?_
  refine bD [(1, (.rp (aI v0)))] ?_
  refine aN ?_
  refine aP aC 4 ?_
  refine bN 1 ?_
  obtain ⟨x1, hx2, h0⟩ := aT h0
  refine eW (MO v0 _ hx2) hO ?_
  intro H hO
  refine bB ?_
  refine bD [(2, (aB (!x1)))] ?_
  refine bK ?_
  obtain rfl := oI h0
  exact aF (Q_r hO)

theorem AF (r0 : (List aD)) (r : Bool) (h0 : rE r0 = some r) : dS Try.prog 71 [(eL aI r0)] (aB r) := by
  intro H0
  refine dP Try.func71 ?_
  have hO := aJ.start H0
  unfold rE at h0
  refine aS aC 1 [] [] ?_
  refine aN ?_
  refine aS aC 3 [] [(5, (aB (decide ((8 : Int) < (lN r0)))))] ?_
  refine bO h0 (fun h0 => ?_) (fun h0 => ?_)
  · refine cN aC 1 [(2, (aB false))] ?_
    refine bK ?_
    obtain rfl := oI h0
    exact aF (aQ (Q_r hO))
  refine bS ?_
  refine bD [(0, (eL aI r0))] ?_
  refine aN ?_
  refine aP aC 4 ?_
  refine bN 1 ?_
  obtain ⟨x2, hx3, h0⟩ := aT h0
  refine eW (pF r0 93 [] [] (fun y0 => sK y0) (fun y0 r h => MR y0 r h) _ hx3) hO ?_
  intro H hO
  refine bB ?_
  refine bD [(2, (aB (!x2)))] ?_
  refine bK ?_
  obtain rfl := oI h0
  exact aF (Q_r hO)

theorem EG (t0 : (List aD)) (r : (Int × (List aD))) (h0 : qE t0 = some r) : wT Try.prog 96 [(.rp (eL aI t0))] (fun lo => (.fn (.func 97) [] [(.lp lo 0 0), (.rp (eL aI r.2))])) 1 [(eI r.1)] := by
  intro H0
  refine dP Try.func96 ?_
  have hO := aJ.start H0
  unfold qE at h0
  refine aS aC 1 [] [] ?_
  refine aN ?_
  refine aP aC 2 ?_
  refine kH 1 (eI 0) (by kernel_rfl) (by kernel_rfl) hO ?_
  intro lo1 H hO
  refine iS 0 lo1 1 0 (eI 0) (eI (-1 : Int)) [(eI 0)] [(lo1, 1, [(eI (-1 : Int))])] hO rfl (by kernel_rfl) ?_
  intro H hO
  refine dV ?_
  refine cB [] [(2, (.lp lo1 0 0))] ?_
  refine aS aC 2 [0] [(1, (.fn (.func 97) [] [(.lp lo1 0 0), (.rp (eL aI t0))]))] ?_
  refine bK ?_
  obtain rfl := oI h0
  exact aF (lA (x := (.fn (.func 97) [] [(.lp lo1 0 0), (.rp (eL aI t0))])) (by kernel_rfl) (aL.refl _) ⟨lo1, rfl, hO⟩)

theorem qB {σ : Type} (I : σ → Gs → Prop) (s0 : (List aD)) (f1_v : V) (f1 : σ → aD → Option (σ × Bool)) (f1_h : ∀ st a0 st2 r, f1 st a0 = some (st2, r) → vB Try.prog f1_v I st [(aI a0)] st2 (aB r)) (sg0 : σ) (r : (σ × Int)) (h0 : gK s0 f1 sg0 = some r) : sQ Try.prog 95 I sg0 [(eL aI s0), f1_v] r.1 (eI r.2) := by
  intro H0 G0 hI hg
  refine dP Try.func95 ?_
  obtain ⟨G, hO, hI⟩ : ∃ G, aJ ⟨H0, List.map (fun p : Nat × cS => p.1) G0, G⟩ H0 [] ∧ I sg0 G := ⟨G0, aJ.xU hg, hI⟩
  clear hg
  unfold gK at h0
  refine aS aC 1 [] [] ?_
  refine iX (fun T H => ∃ sg : σ, ∃ G : Gs, Has T [] ∧ aJ ⟨H0, List.map (fun p : Nat × cS => p.1) G0, G⟩ H [] ∧ I sg G ∧ eO f1 sg = some r) ?_ ?_
  · clear hO hI h0
    rintro T H ⟨sg, G, hT, hO, hI, h0⟩
    refine bM hT ?_
    clear hT
    unfold eO at h0
    refine cN aC 1 [(4, (eI (-1 : Int)))] ?_
    refine bK ?_
    obtain rfl := oI h0
    exact aF (lA (x := (eI (-1 : Int))) (by kernel_rfl) (aL.refl _) ⟨rfl, G, hI, hO.tX⟩)
  refine aS aC 3 [] [(7, (eI (lN s0))), (8, (eI (0 : Int)))] ?_
  refine cI 0 ?_
  refine iD [(0, (eL aI s0)), (1, f1_v), (7, (eI (lN s0))), (8, (eI (0 : Int)))] ?_
  refine hY (fun T H => ∃ sg : σ, ∃ t7 : Int, ∃ t8 : Int, ∃ G : Gs, Has T [(0, (eL aI s0)), (1, f1_v), (7, (eI t7)), (8, (eI t8))] ∧ aJ ⟨H0, List.map (fun p : Nat × cS => p.1) G0, G⟩ H [] ∧ I sg G ∧ gF f1 sg s0 t7 t8 = some r) ?_ ⟨sg0, (lN s0), (0 : Int), G, .eq (by kernel_rfl), hO, hI, h0⟩
  clear hO hI h0
  rintro T H ⟨sg, t7, t8, G, hT, hO, hI, h0⟩
  refine bM hT ?_
  clear hT
  unfold gF at h0
  obtain ⟨rr0, hl0, h0⟩ := aT h0
  refine eK (by kernel_rfl) (fun (s : σ × Int) T H => ∃ G : Gs, Has T [(0, (eL aI s0)), (1, f1_v), (7, (eI t7)), (8, (eI s.2))] ∧ aJ ⟨H0, List.map (fun p : Nat × cS => p.1) G0, G⟩ H [] ∧ I s.1 G) hl0 ⟨G, .eq (by kernel_rfl), hO, hI⟩ ?_
  clear hO hI
  rintro k0 s out1 T H ⟨G, hT, hO, hI⟩ h1 ho0
  obtain ⟨sg, t8⟩ := s
  replace h1 : cA f1 s0 t7 sg t8 = some out1 := h1
  try dsimp only at hT
  refine bM hT ?_
  clear hT
  unfold cA at h1
  refine aS aC 1 [] [(9, (aB (decide (t8 < t7))))] ?_
  refine aN ?_
  refine bO h1 (fun h1 => ?_) (fun h1 => ?_)
  · refine bS ?_
    refine bD [(0, (eL aI s0)), (1, f1_v), (7, (eI t7)), (8, (eI t8))] ?_
    refine aN ?_
    refine cI 1 ?_
    refine aS aC 2 [] [(5, (eI t8))] ?_
    refine aN ?_
    refine aP aC 6 ?_
    obtain ⟨c2, h1⟩ := aY h1
    refine zD 5 [0 ≤ t8 ∧ t8 < (lN s0)] ⟨c2, trivial⟩ ?_
    obtain ⟨x3, hx4, h1⟩ := aT h1
    refine BE (I := I) f1_v [(aI (gD s0 t8))] (aB x3.2) (by kernel_rfl) (by kernel_rfl) (f1_h _ (gD s0 t8) x3.1 x3.2 hx4) hO hI ?_
    intro G H hO hI
    refine dV ?_
    refine cB [] [(16, (aB x3.2))] ?_
    refine bO h1 (fun h1 => ?_) (fun h1 => ?_)
    · refine cN aC 2 [(4, (eI t8))] ?_
      refine bK ?_
      obtain rfl := oI h1
      obtain rfl : _ = rr0 := ho0
      replace h0 : some (x3.1, t8) = some r := h0
      obtain rfl := oI h0
      exact aF (bJ (aQ (aQ (bJ (aQ (lA (x := (eI t8)) (by kernel_rfl) (aL.refl _) ⟨rfl, G, hI, hO.tX⟩))))))
    refine bS ?_
    refine iM [(0, (eL aI s0)), (1, f1_v), (7, (eI t7)), (8, (eI t8))] ?_
    refine aF (aU (aH (?_)))
    refine aP aC 2 ?_
    refine bB ?_
    exact aF (aH (⟨rfl, _, (oI h1).symm, _, .eq (by kernel_rfl), hO, hI⟩))
  refine jJ 0 ?_
  obtain rfl := oI h1
  obtain rfl : _ = rr0 := ho0
  replace h0 : eO f1 sg = some r := h0
  exact aF (aV (aV (cH (aH (⟨rfl, _, _, .eq (by kernel_rfl), hO, hI, h0⟩)))))

theorem BS (v0 : aD) (lo1p : Nat) (t1 : Int) (t2 : (List aD)) (r : (Bool × Int)) (h0 : jI v0 t1 t2 = some r) : lW Try.prog 97 lo1p 1 [(eI t1)] [(eI r.2)] [(aI v0), (.lp lo1p 0 0), (.rp (eL aI t2))] (aB r.1) := by
  intro H0 hl0
  refine dP Try.func97 ?_
  have hO := aJ.rI hl0
  clear hl0
  unfold jI at h0
  refine aN ?_
  refine aP aC 2 ?_
  refine gO 3 (aI v0) (by kernel_rfl) (by kernel_rfl) ?_
  refine bB ?_
  refine cB [0] [(3, (.rp (aI v0)))] ?_
  refine aN ?_
  refine aP aC 3 ?_
  refine mS 0 lo1p 1 0 (eI t1) (eI t1) [(eI t1)] hO rfl ?_
  refine bN 2 ?_
  refine iS 0 lo1p 1 0 (eI t1) (eI (wR (t1 + (1 : Int)))) [(eI t1)] [(lo1p, 1, [(eI (wR (t1 + (1 : Int))))])] hO rfl (by kernel_rfl) ?_
  intro H hO
  refine dV ?_
  refine cB [] [] ?_
  refine aN ?_
  refine gU (gW [7, 8, 11]) aC 7 ?_
  refine lK 2 ?_
  refine gJ 0 lo1p 1 0 (eI (wR (t1 + (1 : Int)))) (eI (wR (t1 + (1 : Int)))) [(eI (wR (t1 + (1 : Int))))] hO rfl ?_
  obtain ⟨c1, h0⟩ := aY h0
  refine IQ (Ds := [0 ≤ (wR (t1 + (1 : Int))) ∧ (wR (t1 + (1 : Int))) < (lN t2)]) (by kernel_rfl) ⟨c1, trivial⟩ ?_
  refine bD [(1, (.lp lo1p 0 0)), (4, (aB (!((decide (v0.Kind = ((gD t2 (wR (t1 + (1 : Int)))).Kind))) && ((decide (v0.Num = ((gD t2 (wR (t1 + (1 : Int)))).Num))) && ((nR v0.Text ((gD t2 (wR (t1 + (1 : Int)))).Text)) && true))))))] ?_
  refine bK ?_
  obtain rfl := oI h0
  exact aF (lA (x := (aB (!((decide (v0.Kind = ((gD t2 (wR (t1 + (1 : Int)))).Kind))) && ((decide (v0.Num = ((gD t2 (wR (t1 + (1 : Int)))).Num))) && ((nR v0.Text ((gD t2 (wR (t1 + (1 : Int)))).Text)) && true)))))) (by kernel_rfl) (aL.refl _) ⟨rfl, hO.ext, hO.at 0 (by kernel_rfl), rfl⟩)

theorem qG (x0 : Int) (r : Bool) (h0 : kL x0 = some r) : dS Try.prog 105 [(eI x0)] (aB r) := by
  intro H0
  refine dP Try.func105 ?_
  have hO := aJ.start H0
  unfold kL at h0
  refine aS aC 1 [] [] ?_
  refine cN aC 4 [(2, (aB (!decide (x0 = x0))))] ?_
  refine bK ?_
  obtain rfl := oI h0
  exact aF (Q_r hO)

theorem BR (x0 : Int) (y1 : Int) (r : Int) (h0 : mK x0 y1 = some r) : dS Try.prog 98 [(eI x0), (eI y1)] (eI r) := by
  intro H0
  refine dP Try.func98 ?_
  have hO := aJ.start H0
  unfold mK at h0
  refine aS aC 1 [] [] ?_
  refine aN ?_
  refine aP aC 3 ?_
  refine bN 1 ?_
  obtain ⟨x1, hx2, h0⟩ := aT h0
  refine eW (qG x0 _ hx2) hO ?_
  intro H hO
  refine bB ?_
  refine cB [] [(5, (aB x1))] ?_
  refine aN ?_
  refine aP aC 3 ?_
  refine bN 1 ?_
  obtain ⟨x4, hx5, h0⟩ := aT h0
  refine eW (qG y1 _ hx5) hO ?_
  intro H hO
  refine bB ?_
  refine cB [] [(6, (aB x4))] ?_
  refine aN ?_
  refine aS aC 1 [5] [(11, (aB x1))] ?_
  refine bO h0 (fun h0 => ?_) (fun h0 => ?_)
  · refine aN ?_
    refine cN aC 1 [(12, (aB x4))] ?_
    refine bO h0 (fun h0 => ?_) (fun h0 => ?_)
    · refine cN aC 1 [(4, (eI (0 : Int)))] ?_
      refine bK ?_
      obtain rfl := oI h0
      exact aF (aQ (aQ (Q_r hO)))
    refine bS ?_
    refine bD [] ?_
    refine cN aC 1 [(4, (eI (-1 : Int)))] ?_
    refine bK ?_
    obtain rfl := oI h0
    exact aF (aQ (Q_r hO))
  refine bS ?_
  refine bD [(0, (eI x0)), (1, (eI y1)), (6, (aB x4))] ?_
  refine aN ?_
  refine aS aC 1 [6] [(13, (aB x4))] ?_
  refine bO h0 (fun h0 => ?_) (fun h0 => ?_)
  · refine cN aC 1 [(4, (eI (1 : Int)))] ?_
    refine bK ?_
    obtain rfl := oI h0
    exact aF (aQ (Q_r hO))
  refine bS ?_
  refine bD [(0, (eI x0)), (1, (eI y1))] ?_
  refine aN ?_
  refine aS aC 3 [] [(16, (aB (decide (x0 < y1))))] ?_
  refine bO h0 (fun h0 => ?_) (fun h0 => ?_)
  · refine cN aC 1 [(4, (eI (-1 : Int)))] ?_
    refine bK ?_
    obtain rfl := oI h0
    exact aF (aQ (Q_r hO))
  refine bS ?_
  refine bD [(0, (eI x0)), (1, (eI y1))] ?_
  refine aN ?_
  refine cN aC 3 [(19, (aB (decide (y1 < x0))))] ?_
  refine bO h0 (fun h0 => ?_) (fun h0 => ?_)
  · refine cN aC 1 [(4, (eI (1 : Int)))] ?_
    refine bK ?_
    obtain rfl := oI h0
    exact aF (aQ (Q_r hO))
  refine bS ?_
  refine bD [] ?_
  refine cN aC 1 [(4, (eI (0 : Int)))] ?_
  refine bK ?_
  obtain rfl := oI h0
  exact aF (Q_r hO)

theorem rH (x0 : Int) (r : Bool) (h0 : jY x0 = some r) : dS Try.prog 110 [(eI x0)] (aB r) := by
  intro H0
  refine dP Try.func110 ?_
  have hO := aJ.start H0
  unfold jY at h0
  refine aS aC 1 [] [] ?_
  refine cN aC 4 [(2, (aB (!decide (x0 = x0))))] ?_
  refine bK ?_
  obtain rfl := oI h0
  exact aF (Q_r hO)

theorem uS (x0 : Int) (y1 : Int) (r : Int) (h0 : fI x0 y1 = some r) : dS Try.prog 107 [(eI x0), (eI y1)] (eI r) := by
  intro H0
  refine dP Try.func107 ?_
  have hO := aJ.start H0
  unfold fI at h0
  refine aS aC 1 [] [] ?_
  refine aN ?_
  refine aP aC 3 ?_
  refine bN 1 ?_
  obtain ⟨x1, hx2, h0⟩ := aT h0
  refine eW (rH x0 _ hx2) hO ?_
  intro H hO
  refine bB ?_
  refine cB [] [(5, (aB x1))] ?_
  refine aN ?_
  refine aP aC 3 ?_
  refine bN 1 ?_
  obtain ⟨x4, hx5, h0⟩ := aT h0
  refine eW (rH y1 _ hx5) hO ?_
  intro H hO
  refine bB ?_
  refine cB [] [(6, (aB x4))] ?_
  refine aN ?_
  refine aS aC 1 [5] [(11, (aB x1))] ?_
  refine bO h0 (fun h0 => ?_) (fun h0 => ?_)
  · refine aN ?_
    refine cN aC 1 [(12, (aB x4))] ?_
    refine bO h0 (fun h0 => ?_) (fun h0 => ?_)
    · refine cN aC 1 [(4, (eI (0 : Int)))] ?_
      refine bK ?_
      obtain rfl := oI h0
      exact aF (aQ (aQ (Q_r hO)))
    refine bS ?_
    refine bD [] ?_
    refine cN aC 1 [(4, (eI (-1 : Int)))] ?_
    refine bK ?_
    obtain rfl := oI h0
    exact aF (aQ (Q_r hO))
  refine bS ?_
  refine bD [(0, (eI x0)), (1, (eI y1)), (6, (aB x4))] ?_
  refine aN ?_
  refine aS aC 1 [6] [(13, (aB x4))] ?_
  refine bO h0 (fun h0 => ?_) (fun h0 => ?_)
  · refine cN aC 1 [(4, (eI (1 : Int)))] ?_
    refine bK ?_
    obtain rfl := oI h0
    exact aF (aQ (Q_r hO))
  refine bS ?_
  refine bD [(0, (eI x0)), (1, (eI y1))] ?_
  refine aN ?_
  refine aS aC 3 [] [(16, (aB (decide (x0 < y1))))] ?_
  refine bO h0 (fun h0 => ?_) (fun h0 => ?_)
  · refine cN aC 1 [(4, (eI (-1 : Int)))] ?_
    refine bK ?_
    obtain rfl := oI h0
    exact aF (aQ (Q_r hO))
  refine bS ?_
  refine bD [(0, (eI x0)), (1, (eI y1))] ?_
  refine aN ?_
  refine cN aC 3 [(19, (aB (decide (y1 < x0))))] ?_
  refine bO h0 (fun h0 => ?_) (fun h0 => ?_)
  · refine cN aC 1 [(4, (eI (1 : Int)))] ?_
    refine bK ?_
    obtain rfl := oI h0
    exact aF (aQ (Q_r hO))
  refine bS ?_
  refine bD [] ?_
  refine cN aC 1 [(4, (eI (0 : Int)))] ?_
  refine bK ?_
  obtain rfl := oI h0
  exact aF (Q_r hO)

theorem sW (a0 : ByteArray) (b1 : ByteArray) (r : Int) (h0 : jC a0 b1 = some r) : dS Try.prog 111 [(xJ a0), (xJ b1)] (eI r) := by
  intro H0
  refine dP Try.func111 ?_
  have hO := aJ.start H0
  unfold jC at h0
  refine aS aC 1 [] [] ?_
  refine aN ?_
  refine aP aC 4 ?_
  refine bN 2 ?_
  refine XA 112 [(xJ a0), (xJ b1)] (eI (FX a0 b1)) (by kernel_rfl) (by kernel_rfl) (VD Try.func112 (by kernel_rfl) (by kernel_rfl) (by kernel_rfl) (by kernel_rfl) a0 b1) hO ?_
  intro H hO
  refine bB ?_
  refine bD [(4, (eI (FX a0 b1)))] ?_
  refine bK ?_
  obtain rfl := oI h0
  exact aF (Q_r hO)

theorem BO (a0 : ByteArray) (b1 : ByteArray) (r : Int) (h0 : lF a0 b1 = some r) : dS Try.prog 108 [(xJ a0), (xJ b1)] (eI r) := by
  intro H0
  refine dP Try.func108 ?_
  have hO := aJ.start H0
  unfold lF at h0
  refine aS aC 1 [] [] ?_
  refine aN ?_
  refine aP aC 4 ?_
  refine bN 2 ?_
  obtain ⟨x1, hx2, h0⟩ := aT h0
  refine eW (sW a0 b1 _ hx2) hO ?_
  intro H hO
  refine bB ?_
  refine bD [(4, (eI x1))] ?_
  refine bK ?_
  obtain rfl := oI h0
  exact aF (Q_r hO)

theorem EC (a0 : aD) (b1 : aD) (r : Int) (h0 : nK a0 b1 = some r) : dS Try.prog 99 [(aI a0), (aI b1)] (eI r) := by
  intro H0
  refine dP Try.func99 ?_
  have hO := aJ.start H0
  unfold nK at h0
  refine aN ?_
  refine aP aC 3 ?_
  refine gO 3 (aI a0) (by kernel_rfl) (by kernel_rfl) ?_
  refine gO 3 (aI b1) (by kernel_rfl) (by kernel_rfl) ?_
  refine bB ?_
  refine bD [(2, (.rp (aI a0))), (3, (.rp (aI b1)))] ?_
  refine aN ?_
  refine aP aC 7 ?_
  refine bN 1 ?_
  obtain ⟨⟨x1_0, x1_1⟩, hx2, h0⟩ := aT h0
  refine eW (tQ a0 _ hx2) hO ?_
  intro H hO
  rcases x1_0 with _ | y4 | y5
  · replace h0 : ((kU b1).bind fun (x6_0, x6_1) => match x6_0 with | .none_ => (cond ((!x1_1) || (!x6_1)) (some (0 : Int)) (none)) | .k_number y9 => (cond ((!x1_1) || (!x6_1)) (some (0 : Int)) (some (1 : Int))) | .k_words y10 => (cond ((!x1_1) || (!x6_1)) (some (0 : Int)) (none))) = some r := h0
    refine bB ?_
    refine cB [2] [(5, (aX bA.none_)), (6, (aB x1_1))] ?_
    refine aN ?_
    refine aP aC 7 ?_
    refine bN 1 ?_
    obtain ⟨⟨x6_0, x6_1⟩, hx7, h0⟩ := aT h0
    refine eW (tQ b1 _ hx7) hO ?_
    intro H hO
    rcases x6_0 with _ | y9 | y10
    · replace h0 : (cond ((!x1_1) || (!x6_1)) (some (0 : Int)) (none)) = some r := h0
      refine bB ?_
      refine cB [3] [(7, (aX bA.none_)), (8, (aB x6_1))] ?_
      refine aN ?_
      refine aS aC 6 [6, 8] [(28, (aB ((!x1_1) || (!x6_1))))] ?_
      refine bO h0 (fun h0 => ?_) (fun h0 => ?_)
      · refine cN aC 1 [(4, (eI (0 : Int)))] ?_
        refine bK ?_
        obtain rfl := oI h0
        exact aF (aQ (Q_r hO))
      refine bS ?_
      refine bD [(5, (aX bA.none_)), (7, (aX bA.none_))] ?_
      refine aS aC 7 [] [(9, (eI 0)), (10, (aB false))] ?_
      refine aS aC 7 [] [(11, (eI 0)), (12, (aB false))] ?_
      refine aN ?_
      refine cI 0 ?_
      refine aS aC 5 [] [(39, (aB false))] ?_
      refine lJ (false) (fun hc12 => ?_) (fun hc12 => ?_)
      · cases hc12
      · refine aS aC 2 [9, 10, 11, 39] [(47, (aB false))] ?_
        refine lJ (false) (fun hc13 => ?_) (fun hc13 => ?_)
        · cases hc13
        · refine cN aC 2 [(5, (aX bA.none_)), (7, (aX bA.none_)), (49, (aB false))] ?_
          refine lJ (false) (fun hc14 => ?_) (fun hc14 => ?_)
          · cases hc14
          · refine bS ?_
            refine iM [(5, (aX bA.none_)), (7, (aX bA.none_))] ?_
            refine aF (aU (aH (?_)))
            refine aN ?_
            refine gU (gW []) aC 6 ?_
            cases h0
    · replace h0 : (cond ((!x1_1) || (!x6_1)) (some (0 : Int)) (some (1 : Int))) = some r := h0
      refine bB ?_
      refine cB [3] [(7, (aX (bA.k_number y9))), (8, (aB x6_1))] ?_
      refine aN ?_
      refine aS aC 6 [6, 8] [(28, (aB ((!x1_1) || (!x6_1))))] ?_
      refine bO h0 (fun h0 => ?_) (fun h0 => ?_)
      · refine cN aC 1 [(4, (eI (0 : Int)))] ?_
        refine bK ?_
        obtain rfl := oI h0
        exact aF (aQ (Q_r hO))
      refine bS ?_
      refine bD [(5, (aX bA.none_)), (7, (aX (bA.k_number y9)))] ?_
      refine aS aC 7 [] [(9, (eI 0)), (10, (aB false))] ?_
      refine aS aC 7 [] [(11, (eI y9)), (12, (aB true))] ?_
      refine aN ?_
      refine cI 0 ?_
      refine aS aC 5 [] [(39, (aB false))] ?_
      refine lJ (false) (fun hc16 => ?_) (fun hc16 => ?_)
      · cases hc16
      · refine aS aC 2 [9, 10, 11, 39] [(47, (aB false))] ?_
        refine lJ (false) (fun hc17 => ?_) (fun hc17 => ?_)
        · cases hc17
        · refine cN aC 2 [(5, (aX bA.none_)), (7, (aX (bA.k_number y9))), (49, (aB true))] ?_
          refine lJ (true) (fun hc18 => ?_) (fun hc18 => ?_)
          · refine cN aC 1 [(4, (eI (1 : Int)))] ?_
            refine bK ?_
            obtain rfl := oI h0
            exact aF (bJ (aQ (Q_r hO)))
          · cases hc18
    · replace h0 : (cond ((!x1_1) || (!x6_1)) (some (0 : Int)) (none)) = some r := h0
      refine bB ?_
      refine cB [3] [(7, (aX (bA.k_words y10))), (8, (aB x6_1))] ?_
      refine aN ?_
      refine aS aC 6 [6, 8] [(28, (aB ((!x1_1) || (!x6_1))))] ?_
      refine bO h0 (fun h0 => ?_) (fun h0 => ?_)
      · refine cN aC 1 [(4, (eI (0 : Int)))] ?_
        refine bK ?_
        obtain rfl := oI h0
        exact aF (aQ (Q_r hO))
      refine bS ?_
      refine bD [(5, (aX bA.none_)), (7, (aX (bA.k_words y10)))] ?_
      refine aS aC 7 [] [(9, (eI 0)), (10, (aB false))] ?_
      refine aS aC 7 [] [(11, (eI 0)), (12, (aB false))] ?_
      refine aN ?_
      refine cI 0 ?_
      refine aS aC 5 [] [(39, (aB false))] ?_
      refine lJ (false) (fun hc20 => ?_) (fun hc20 => ?_)
      · cases hc20
      · refine aS aC 2 [9, 10, 11, 39] [(47, (aB false))] ?_
        refine lJ (false) (fun hc21 => ?_) (fun hc21 => ?_)
        · cases hc21
        · refine cN aC 2 [(5, (aX bA.none_)), (7, (aX (bA.k_words y10))), (49, (aB false))] ?_
          refine lJ (false) (fun hc22 => ?_) (fun hc22 => ?_)
          · cases hc22
          · refine bS ?_
            refine iM [(5, (aX bA.none_)), (7, (aX (bA.k_words y10)))] ?_
            refine aF (aU (aH (?_)))
            refine aN ?_
            refine gU (gW []) aC 6 ?_
            cases h0
  · replace h0 : ((kU b1).bind fun (x23_0, x23_1) => match x23_0 with | .none_ => (cond ((!x1_1) || (!x23_1)) (some (0 : Int)) (some (-1 : Int))) | .k_number y26 => (cond ((!x1_1) || (!x23_1)) (some (0 : Int)) ((fI y4 y26).bind fun x33 => some x33)) | .k_words y27 => (cond ((!x1_1) || (!x23_1)) (some (0 : Int)) (some (-1 : Int)))) = some r := h0
    refine bB ?_
    refine cB [2] [(5, (aX (bA.k_number y4))), (6, (aB x1_1))] ?_
    refine aN ?_
    refine aP aC 7 ?_
    refine bN 1 ?_
    obtain ⟨⟨x23_0, x23_1⟩, hx24, h0⟩ := aT h0
    refine eW (tQ b1 _ hx24) hO ?_
    intro H hO
    rcases x23_0 with _ | y26 | y27
    · replace h0 : (cond ((!x1_1) || (!x23_1)) (some (0 : Int)) (some (-1 : Int))) = some r := h0
      refine bB ?_
      refine cB [3] [(7, (aX bA.none_)), (8, (aB x23_1))] ?_
      refine aN ?_
      refine aS aC 6 [6, 8] [(28, (aB ((!x1_1) || (!x23_1))))] ?_
      refine bO h0 (fun h0 => ?_) (fun h0 => ?_)
      · refine cN aC 1 [(4, (eI (0 : Int)))] ?_
        refine bK ?_
        obtain rfl := oI h0
        exact aF (aQ (Q_r hO))
      refine bS ?_
      refine bD [(5, (aX (bA.k_number y4))), (7, (aX bA.none_))] ?_
      refine aS aC 7 [] [(9, (eI y4)), (10, (aB true))] ?_
      refine aS aC 7 [] [(11, (eI 0)), (12, (aB false))] ?_
      refine aN ?_
      refine cI 0 ?_
      refine aS aC 5 [] [(39, (aB false))] ?_
      refine lJ (false) (fun hc29 => ?_) (fun hc29 => ?_)
      · cases hc29
      · refine aS aC 2 [9, 10, 11, 39] [(47, (aB true))] ?_
        refine lJ (true) (fun hc30 => ?_) (fun hc30 => ?_)
        · refine cN aC 1 [(4, (eI (-1 : Int)))] ?_
          refine bK ?_
          obtain rfl := oI h0
          exact aF (bJ (aQ (Q_r hO)))
        · cases hc30
    · replace h0 : (cond ((!x1_1) || (!x23_1)) (some (0 : Int)) ((fI y4 y26).bind fun x33 => some x33)) = some r := h0
      refine bB ?_
      refine cB [3] [(7, (aX (bA.k_number y26))), (8, (aB x23_1))] ?_
      refine aN ?_
      refine aS aC 6 [6, 8] [(28, (aB ((!x1_1) || (!x23_1))))] ?_
      refine bO h0 (fun h0 => ?_) (fun h0 => ?_)
      · refine cN aC 1 [(4, (eI (0 : Int)))] ?_
        refine bK ?_
        obtain rfl := oI h0
        exact aF (aQ (Q_r hO))
      refine bS ?_
      refine bD [(5, (aX (bA.k_number y4))), (7, (aX (bA.k_number y26)))] ?_
      refine aS aC 7 [] [(9, (eI y4)), (10, (aB true))] ?_
      refine aS aC 7 [] [(11, (eI y26)), (12, (aB true))] ?_
      refine aN ?_
      refine cI 0 ?_
      refine aS aC 5 [] [(39, (aB true))] ?_
      refine lJ (true) (fun hc32 => ?_) (fun hc32 => ?_)
      · refine aN ?_
        refine aP aC 4 ?_
        refine bN 2 ?_
        obtain ⟨x33, hx34, h0⟩ := aT h0
        refine eW (uS y4 y26 _ hx34) hO ?_
        intro H hO
        refine bB ?_
        refine bD [(4, (eI x33))] ?_
        refine bK ?_
        obtain rfl := oI h0
        exact aF (bJ (aQ (Q_r hO)))
      · cases hc32
    · replace h0 : (cond ((!x1_1) || (!x23_1)) (some (0 : Int)) (some (-1 : Int))) = some r := h0
      refine bB ?_
      refine cB [3] [(7, (aX (bA.k_words y27))), (8, (aB x23_1))] ?_
      refine aN ?_
      refine aS aC 6 [6, 8] [(28, (aB ((!x1_1) || (!x23_1))))] ?_
      refine bO h0 (fun h0 => ?_) (fun h0 => ?_)
      · refine cN aC 1 [(4, (eI (0 : Int)))] ?_
        refine bK ?_
        obtain rfl := oI h0
        exact aF (aQ (Q_r hO))
      refine bS ?_
      refine bD [(5, (aX (bA.k_number y4))), (7, (aX (bA.k_words y27)))] ?_
      refine aS aC 7 [] [(9, (eI y4)), (10, (aB true))] ?_
      refine aS aC 7 [] [(11, (eI 0)), (12, (aB false))] ?_
      refine aN ?_
      refine cI 0 ?_
      refine aS aC 5 [] [(39, (aB false))] ?_
      refine lJ (false) (fun hc37 => ?_) (fun hc37 => ?_)
      · cases hc37
      · refine aS aC 2 [9, 10, 11, 39] [(47, (aB true))] ?_
        refine lJ (true) (fun hc38 => ?_) (fun hc38 => ?_)
        · refine cN aC 1 [(4, (eI (-1 : Int)))] ?_
          refine bK ?_
          obtain rfl := oI h0
          exact aF (bJ (aQ (Q_r hO)))
        · cases hc38
  · replace h0 : ((kU b1).bind fun (x39_0, x39_1) => match x39_0 with | .none_ => (cond ((!x1_1) || (!x39_1)) (some (0 : Int)) (none)) | .k_number y42 => (cond ((!x1_1) || (!x39_1)) (some (0 : Int)) (some (1 : Int))) | .k_words y43 => (cond ((!x1_1) || (!x39_1)) (some (0 : Int)) ((lF y5 y43).bind fun x56 => some x56))) = some r := h0
    refine bB ?_
    refine cB [2] [(5, (aX (bA.k_words y5))), (6, (aB x1_1))] ?_
    refine aN ?_
    refine aP aC 7 ?_
    refine bN 1 ?_
    obtain ⟨⟨x39_0, x39_1⟩, hx40, h0⟩ := aT h0
    refine eW (tQ b1 _ hx40) hO ?_
    intro H hO
    rcases x39_0 with _ | y42 | y43
    · replace h0 : (cond ((!x1_1) || (!x39_1)) (some (0 : Int)) (none)) = some r := h0
      refine bB ?_
      refine cB [3] [(7, (aX bA.none_)), (8, (aB x39_1))] ?_
      refine aN ?_
      refine aS aC 6 [6, 8] [(28, (aB ((!x1_1) || (!x39_1))))] ?_
      refine bO h0 (fun h0 => ?_) (fun h0 => ?_)
      · refine cN aC 1 [(4, (eI (0 : Int)))] ?_
        refine bK ?_
        obtain rfl := oI h0
        exact aF (aQ (Q_r hO))
      refine bS ?_
      refine bD [(5, (aX (bA.k_words y5))), (7, (aX bA.none_))] ?_
      refine aS aC 7 [] [(9, (eI 0)), (10, (aB false))] ?_
      refine aS aC 7 [] [(11, (eI 0)), (12, (aB false))] ?_
      refine aN ?_
      refine cI 0 ?_
      refine aS aC 5 [] [(39, (aB false))] ?_
      refine lJ (false) (fun hc45 => ?_) (fun hc45 => ?_)
      · cases hc45
      · refine aS aC 2 [9, 10, 11, 39] [(47, (aB false))] ?_
        refine lJ (false) (fun hc46 => ?_) (fun hc46 => ?_)
        · cases hc46
        · refine cN aC 2 [(5, (aX (bA.k_words y5))), (7, (aX bA.none_)), (49, (aB false))] ?_
          refine lJ (false) (fun hc47 => ?_) (fun hc47 => ?_)
          · cases hc47
          · refine bS ?_
            refine iM [(5, (aX (bA.k_words y5))), (7, (aX bA.none_))] ?_
            refine aF (aU (aH (?_)))
            refine aN ?_
            refine gU (gW []) aC 6 ?_
            cases h0
    · replace h0 : (cond ((!x1_1) || (!x39_1)) (some (0 : Int)) (some (1 : Int))) = some r := h0
      refine bB ?_
      refine cB [3] [(7, (aX (bA.k_number y42))), (8, (aB x39_1))] ?_
      refine aN ?_
      refine aS aC 6 [6, 8] [(28, (aB ((!x1_1) || (!x39_1))))] ?_
      refine bO h0 (fun h0 => ?_) (fun h0 => ?_)
      · refine cN aC 1 [(4, (eI (0 : Int)))] ?_
        refine bK ?_
        obtain rfl := oI h0
        exact aF (aQ (Q_r hO))
      refine bS ?_
      refine bD [(5, (aX (bA.k_words y5))), (7, (aX (bA.k_number y42)))] ?_
      refine aS aC 7 [] [(9, (eI 0)), (10, (aB false))] ?_
      refine aS aC 7 [] [(11, (eI y42)), (12, (aB true))] ?_
      refine aN ?_
      refine cI 0 ?_
      refine aS aC 5 [] [(39, (aB false))] ?_
      refine lJ (false) (fun hc49 => ?_) (fun hc49 => ?_)
      · cases hc49
      · refine aS aC 2 [9, 10, 11, 39] [(47, (aB false))] ?_
        refine lJ (false) (fun hc50 => ?_) (fun hc50 => ?_)
        · cases hc50
        · refine cN aC 2 [(5, (aX (bA.k_words y5))), (7, (aX (bA.k_number y42))), (49, (aB true))] ?_
          refine lJ (true) (fun hc51 => ?_) (fun hc51 => ?_)
          · refine cN aC 1 [(4, (eI (1 : Int)))] ?_
            refine bK ?_
            obtain rfl := oI h0
            exact aF (bJ (aQ (Q_r hO)))
          · cases hc51
    · replace h0 : (cond ((!x1_1) || (!x39_1)) (some (0 : Int)) ((lF y5 y43).bind fun x56 => some x56)) = some r := h0
      refine bB ?_
      refine cB [3] [(7, (aX (bA.k_words y43))), (8, (aB x39_1))] ?_
      refine aN ?_
      refine aS aC 6 [6, 8] [(28, (aB ((!x1_1) || (!x39_1))))] ?_
      refine bO h0 (fun h0 => ?_) (fun h0 => ?_)
      · refine cN aC 1 [(4, (eI (0 : Int)))] ?_
        refine bK ?_
        obtain rfl := oI h0
        exact aF (aQ (Q_r hO))
      refine bS ?_
      refine bD [(5, (aX (bA.k_words y5))), (7, (aX (bA.k_words y43)))] ?_
      refine aS aC 7 [] [(9, (eI 0)), (10, (aB false))] ?_
      refine aS aC 7 [] [(11, (eI 0)), (12, (aB false))] ?_
      refine aN ?_
      refine cI 0 ?_
      refine aS aC 5 [] [(39, (aB false))] ?_
      refine lJ (false) (fun hc53 => ?_) (fun hc53 => ?_)
      · cases hc53
      · refine aS aC 2 [9, 10, 11, 39] [(47, (aB false))] ?_
        refine lJ (false) (fun hc54 => ?_) (fun hc54 => ?_)
        · cases hc54
        · refine cN aC 2 [(5, (aX (bA.k_words y5))), (7, (aX (bA.k_words y43))), (49, (aB false))] ?_
          refine lJ (false) (fun hc55 => ?_) (fun hc55 => ?_)
          · cases hc55
          · refine bS ?_
            refine iM [(5, (aX (bA.k_words y5))), (7, (aX (bA.k_words y43)))] ?_
            refine aF (aU (aH (?_)))
            refine aN ?_
            refine gU (gW []) aC 6 ?_
            refine lK 4 ?_
            obtain ⟨x56, hx57, h0⟩ := aT h0
            refine xK (BO y5 y43 _ hx57) hO ?_
            intro H hO
            refine kY ?_
            refine bD [(4, (eI x56))] ?_
            refine bK ?_
            obtain rfl := oI h0
            exact aF (Q_r hO)

theorem HZ (a0 : (List aD)) (b1 : (List aD)) (r : Int) (h0 : pI a0 b1 = some r) : dS Try.prog 72 [(eL aI a0), (eL aI b1)] (eI r) := by
  intro H0
  refine dP Try.func72 ?_
  have hO := aJ.start H0
  unfold pI at h0
  refine aN ?_
  refine aP aC 2 ?_
  refine gO 1 (eL aI b1) (by kernel_rfl) (by kernel_rfl) ?_
  refine bB ?_
  refine cB [1] [(3, (.rp (eL aI b1)))] ?_
  refine aN ?_
  refine aN ?_
  refine aP aC 8 ?_
  refine bN 1 ?_
  obtain ⟨x1, hx2, h0⟩ := aT h0
  refine eW (AF a0 _ hx2) hO ?_
  intro H hO
  refine bN 5 ?_
  obtain ⟨x4, hx5, h0⟩ := aT h0
  refine nF [(10, false)] 71 [(eL aI b1)] (aB x4) (!(!x1)) (by kernel_rfl) (by kernel_rfl) (by kernel_rfl) (fun hb6 => (AF b1 _ (kO hx5 hb6))) hO ?_
  intro H hO
  refine bB ?_
  refine cB [] [(14, (aB ((!x1) || (!x4))))] ?_
  refine bO h0 (fun h0 => ?_) (fun h0 => ?_)
  · refine cN aC 1 [(4, (eI (0 : Int)))] ?_
    refine bK ?_
    obtain rfl := oI h0
    exact aF (aQ (Q_r hO))
  refine bS ?_
  refine bD [(0, (eL aI a0)), (3, (.rp (eL aI b1)))] ?_
  refine aS aC 6 [] [(5, (eI (if (lN b1) < (lN a0) then (lN b1) else (lN a0))))] ?_
  refine aN ?_
  refine gU (gW []) aC 7 ?_
  obtain ⟨c8, h0⟩ := aY h0
  refine cF 4 [0 ≤ (if (lN b1) < (lN a0) then (lN b1) else (lN a0)) ∧ (if (lN b1) < (lN a0) then (lN b1) else (lN a0)) ≤ (lN a0)] ⟨c8, trivial⟩ ?_
  obtain ⟨x9, hx10, h0⟩ := aT h0
  refine XS (L' := fun lo11 => [(lo11, 1, [(eI x9.1)])]) 1 [(eI x9.1)] 96 [(.rp (eL aI b1))] (fun lo11 => (.fn (.func 97) [] [(.lp lo11 0 0), (.rp (eL aI x9.2))])) (by kernel_rfl) (by kernel_rfl) (EG b1 _ hx10) hO (fun _ => by kernel_rfl) ?_
  intro lo11 H hO
  obtain ⟨x12, hx13, h0⟩ := aT h0
  refine WZ (fun st G' => G' = up [(lo11, 1, [(eI st)])] ++ []) [(lo11, 1, [(eI x12.1)])] x9.1 x12.1 95 [(.sl false (Int.toNat (if (lN b1) < (lN a0) then (lN b1) else (lN a0))) (fun i => aI (List.getD a0 i default))), (.fn (.func 97) [] [(.lp lo11 0 0), (.rp (eL aI x9.2))])] (eI x12.2) (by kernel_rfl) (by kernel_rfl) (sQ.sub (as0' := [(eL aI (List.take (Int.toNat (if (lN b1) < (lN a0) then (lN b1) else (lN a0))) a0)), (.fn (.func 97) [] [(.lp lo11 0 0), (.rp (eL aI x9.2))])]) (qB _ (List.take (Int.toNat (if (lN b1) < (lN a0) then (lN b1) else (lN a0))) a0) (.fn (.func 97) [] [(.lp lo11 0 0), (.rp (eL aI x9.2))]) (fun st y0 => (jI y0 st x9.2).bind fun o => some (o.2, o.1)) (fun st y0 st2 rr hr => (BS y0 lo11 st x9.2 _ (aAc hr)).toV (ys := []) (zs := [(aI y0)]) (cs := [(.lp lo11 0 0), (.rp (eL aI x9.2))]) (fun Gx hG => ⟨up [], up [] ++ [], hG, rfl⟩)) _ _ hx13) ⟨WN (Int.toNat_le.2 (And.right c8)), aL.refl _, trivial⟩) hO rfl (fun _ h => h) ?_
  intro H hO
  refine kY ?_
  replace hO := hO.pick (L' := []) [] (by decide) (by kernel_rfl)
  refine cB [5] [(6, (eI x12.2))] ?_
  refine aN ?_
  refine aS aC 2 [] [(27, (aB (decide (x12.2 < (0 : Int)))))] ?_
  refine bO h0 (fun h0 => ?_) (fun h0 => ?_)
  · refine aN ?_
    refine aP aC 6 ?_
    refine bN 4 ?_
    obtain ⟨x15, hx16, h0⟩ := aT h0
    refine eW (BR (lN a0) (lN b1) _ hx16) hO ?_
    intro H hO
    refine bB ?_
    refine bD [(4, (eI x15))] ?_
    refine bK ?_
    obtain rfl := oI h0
    exact aF (aQ (Q_r hO))
  refine bS ?_
  refine bD [(0, (eL aI a0)), (3, (.rp (eL aI b1))), (6, (eI x12.2))] ?_
  refine aN ?_
  refine gU (gW [36, 37, 40, 41]) aC 10 ?_
  obtain ⟨c18, h0⟩ := aY h0
  obtain ⟨c19, h0⟩ := aY h0
  refine cF 8 [0 ≤ x12.2 ∧ x12.2 < (lN a0), 0 ≤ x12.2 ∧ x12.2 < (lN b1)] ⟨c18, c19, trivial⟩ ?_
  obtain ⟨x20, hx21, h0⟩ := aT h0
  refine xK (EC (gD a0 x12.2) (gD b1 x12.2) _ hx21) hO ?_
  intro H hO
  refine kY ?_
  refine bD [(4, (eI x20))] ?_
  refine bK ?_
  obtain rfl := oI h0
  exact aF (Q_r hO)

theorem BV (l0 : (List bF)) (holds1_f : Nat) (holds1_a holds1_c : List V) (qP : (List aG) → Option Bool) (holds1_h : ∀ a0 r, qP a0 = some r → dS Try.prog holds1_f (holds1_a ++ [(eL aK a0)] ++ holds1_c) (aB r)) (r : Bool) (h0 : pX l0 qP = some r) : dS Try.prog 49 [(eL bQ l0), (.fn (.func holds1_f) holds1_a holds1_c)] (aB r) := by
  intro H0
  refine xZ aC Try.func49 (by kernel_rfl) (by kernel_rfl) (by kernel_rfl) ?_
  have hO := aJ.start H0
  unfold pX at h0
  refine aN ?_
  refine aP aC 2 ?_
  refine gO 1 (.fn (.func holds1_f) holds1_a holds1_c) (by kernel_rfl) (by kernel_rfl) ?_
  refine kH 1 (aB false) (by kernel_rfl) (by kernel_rfl) hO ?_
  intro lo1 H hO
  refine dV ?_
  refine cB [1] [(3, (.rp (.fn (.func holds1_f) holds1_a holds1_c))), (4, (.lp lo1 0 0))] ?_
  refine aN ?_
  refine aS aC 3 [] [(11, (aB (decide ((4096 : Int) < (lN l0)))))] ?_
  refine bO h0 (fun h0 => ?_) (fun h0 => ?_)
  · refine aN ?_
    refine aP aC 1 ?_
    refine iS 0 lo1 1 0 (aB false) (aB false) [(aB false)] [(lo1, 1, [(aB false)])] hO rfl (by kernel_rfl) ?_
    intro H hO
    refine dV ?_
    refine bD [(4, (.lp lo1 0 0))] ?_
    refine bK ?_
    obtain rfl := oI h0
    exact aF (aQ (QM0 (.inr rfl) (rs := [.cell 4 4]) (xs := [(aB false)]) (x := (aB false)) (by kernel_rfl) (gX (lo := lo1) (k := 1) (y := (aB false)) (x := (aB false)) 0 hO (by kernel_rfl) (by kernel_rfl) (by kernel_rfl) (by kernel_rfl) lM) (by kernel_rfl) ⟨rfl, hO.out⟩))
  refine bS ?_
  refine bD [(0, (eL bQ l0)), (3, (.rp (.fn (.func holds1_f) holds1_a holds1_c))), (4, (.lp lo1 0 0))] ?_
  refine aN ?_
  refine aP aC 1 ?_
  refine yY 1 (.sl true 0 (fun _ => .bad)) (eL aI ([])) (by kernel_rfl) (by kernel_rfl) (by kernel_rfl) (nI) (by kernel_rfl) (by kernel_rfl) hO ?_
  intro lo3 H hO
  refine dV ?_
  refine cB [] [(5, (.lp lo3 0 0))] ?_
  refine aN ?_
  refine aP aC 2 ?_
  refine kH 1 (aB false) (by kernel_rfl) (by kernel_rfl) hO ?_
  intro lo4 H hO
  refine iS 2 lo4 1 0 (aB false) (aB false) [(aB false)] [(lo1, 1, [(aB false)]), (lo3, 1, [(eL aI ([]))]), (lo4, 1, [(aB false)])] hO rfl (by kernel_rfl) ?_
  intro H hO
  refine dV ?_
  refine cB [] [(6, (.lp lo4 0 0))] ?_
  refine aN ?_
  refine aN ?_
  refine aP aC 2 ?_
  refine bN 1 ?_
  obtain ⟨x5, hx6, h0⟩ := aT h0
  refine eW (BW l0 _ hx6) hO ?_
  intro H hO
  refine dV ?_
  refine cB [0] [(13, (.fn (.func 74) [] [(.rp (eL bQ x5))]))] ?_
  refine cI 0 ?_
  refine iD [(3, (.rp (.fn (.func holds1_f) holds1_a holds1_c))), (4, (.lp lo1 0 0)), (5, (.lp lo3 0 0)), (6, (.lp lo4 0 0)), (13, (.fn (.func 74) [] [(.rp (eL bQ x5))]))] ?_
  refine hY (fun T H => ∃ t4 : Bool, ∃ mT : (List aD), ∃ jO : Bool, ∃ rV : (List bF), Has T [(3, (.rp (.fn (.func holds1_f) holds1_a holds1_c))), (4, (.lp lo1 0 0)), (5, (.lp lo3 0 0)), (6, (.lp lo4 0 0)), (13, (.fn (.func 74) [] [(.rp (eL bQ rV))]))] ∧ aJ ⟨H0, [], []⟩ H [(lo1, 1, [(aB t4)]), (lo3, 1, [(eL aI mT)]), (lo4, 1, [(aB jO)])] ∧ tF qP t4 mT jO rV = some r) ?_ ⟨false, [], false, x5, .eq (by kernel_rfl), hO, h0⟩
  clear hO h0
  rintro T H ⟨t4, mT, jO, rV, hT, hO, h0⟩
  refine bM (l := [(3, (.rp (.fn (.func holds1_f) holds1_a holds1_c))), (4, (.lp lo1 0 0)), (5, (.lp lo3 0 0)), (6, (.lp lo4 0 0)), (13, (.fn (.func 74) [] [(.rp (eL bQ rV))]))]) hT ?_
  clear hT
  unfold tF at h0
  obtain ⟨o0, hl0, h0⟩ := aT h0
  refine wE (fid := 74) (ys := []) (cs := [(.rp (eL bQ rV))]) #[14, 15] (fun (A : qI) (b lL : Nat) (st : (Bool × (List aD) × Bool) ⊕ (Bool × (List aD) × Bool)) (G' : Gs) => Sum.elim (fun (s : Bool × (List aD) × Bool) => G' = (lL, .raw (fS b A .ready none)) :: (up [(lo1, 1, [(aB s.1)]), (lo3, 1, [(eL aI s.2.1)]), (lo4, 1, [(aB s.2.2)])] ++ [])) (fun (s : Bool × (List aD) × Bool) => G' = (lL, .raw (fS b A .done (some .ret))) :: (up [(lo1, 1, [(aB s.1)]), (lo3, 1, [(eL aI s.2.1)]), (lo4, 1, [(aB s.2.2)])] ++ [])) st) (.inl (t4, mT, jO)) o0 (.tup []) (by kernel_rfl) (by kernel_rfl) (by kernel_rfl) hO (fun _ _ => rfl) ?_ ?_
  · intro b lL
    clear hO h0
    refine xB _ b (fun st t14 t15 => rnd (fun (s : Bool × (List aD) × Bool) => mZ qP rV s.1 s.2.1 s.2.2 t14 t15) st) ?_ rV _ _ hl0
    intro st t14 t15 out1 rr hr
    obtain ⟨s, rfl, h1, rfl⟩ := FU hr
    clear hr
    intro Hr Gr hi hg
    obtain ⟨t4, mT, jO⟩ := s
    dsimp only [Sum.elim_inl] at hi
    obtain rfl := hi
    replace h1 : mZ qP rV t4 mT jO t14 t15 = some out1 := h1
    unfold mZ at h1
    obtain ⟨E1, hE, hO⟩ := pW hg
    refine pZ (tU (hO.gm 0 _ rfl).2 (by kernel_rfl) (by kernel_rfl) ?_)
    refine iD [(3, (.rp (.fn (.func holds1_f) holds1_a holds1_c))), (4, (.lp lo1 0 0)), (5, (.lp lo3 0 0)), (6, (.lp lo4 0 0)), (13, (.fn (.func 74) [] [(.rp (eL bQ rV))])), (14, (eL aI t14)), (15, (eL aK t15))] ?_
    refine aS aC 1 [13, 14] [(7, (eL aI t14))] ?_
    refine aP aC 1 ?_
    refine bB ?_
    refine iM [(3, (.rp (.fn (.func holds1_f) holds1_a holds1_c))), (4, (.lp lo1 0 0)), (5, (.lp lo3 0 0)), (6, (.lp lo4 0 0)), (7, (eL aI t14)), (8, (eL aK t15))] ?_
    refine aF (⟨rfl, rfl, (hO.gm 0 _ rfl).2, ?_⟩)
    intro o1 ho1
    replace hO := hO.mX o1
    refine cI 1 ?_
    refine aN ?_
    refine aN ?_
    refine aP aC 18 ?_
    refine bN 1 ?_
    obtain ⟨x7, hx8, h1⟩ := aT h1
    refine eW (AF t14 _ hx8) hO ?_
    intro H hO
    refine bN 4 ?_
    refine tB [(19, false)] 2 lo4 1 0 (aB jO) (aB jO) [(aB jO)] (by kernel_rfl) (by kernel_rfl) hO (by kernel_rfl) (!(!x7)) (by kernel_rfl) (fun hb10 => rfl) ?_
    refine bN 6 ?_
    refine tB [(21, true), (19, false)] 1 lo3 1 0 (eL aI mT) (eL aI mT) [(eL aI mT)] (by kernel_rfl) (by kernel_rfl) hO (by kernel_rfl) (jO && (!(!x7))) (by kernel_rfl) (fun hb11 => rfl) ?_
    refine bN 8 ?_
    obtain ⟨x12, hx13, h1⟩ := aT h1
    refine nF [(21, true), (19, false)] 72 [(eL aI mT), (eL aI t14)] (eI x12) (jO && (!(!x7))) (by kernel_rfl) (by kernel_rfl) (by kernel_rfl) (fun hb14 => (HZ mT t14 _ (kO hx13 hb14))) hO ?_
    intro H hO
    refine bN 15 ?_
    obtain ⟨x15, hx16, h1⟩ := aT h1
    refine nF [(28, false)] holds1_f (holds1_a ++ [(eL aK t15)] ++ holds1_c) (aB x15) (!((!x7) || (jO && (decide ((0 : Int) ≤ x12))))) (by kernel_rfl) (by kernel_rfl) (by kernel_rfl) (fun hb17 => (holds1_h t15 _ (kO hx16 hb17))) hO ?_
    intro H hO
    refine bB ?_
    refine cB [3, 8] [(33, (aB (((!x7) || (jO && (decide ((0 : Int) ≤ x12)))) || (!x15))))] ?_
    refine bO h1 (fun h1 => ?_) (fun h1 => ?_)
    · refine aN ?_
      refine aP aC 1 ?_
      refine iS 0 lo1 1 0 (aB t4) (aB false) [(aB t4)] [(lo1, 1, [(aB false)]), (lo3, 1, [(eL aI mT)]), (lo4, 1, [(aB jO)])] hO rfl (by kernel_rfl) ?_
      intro H hO
      refine dV ?_
      refine cB [7, 33] [] ?_
      refine bK ?_
      refine iM [(4, (.lp lo1 0 0)), (5, (.lp lo3 0 0)), (6, (.lp lo4 0 0))] ?_
      obtain rfl := oI h1
      exact aF (aQ (bJ (⟨(eB hO hE ho1 .dead).1, rfl, _, rfl, (eB hO hE ho1 _).2⟩)))
    refine bS ?_
    refine bD [(4, (.lp lo1 0 0)), (5, (.lp lo3 0 0)), (6, (.lp lo4 0 0)), (7, (eL aI t14))] ?_
    refine aP aC 3 ?_
    refine bN 1 ?_
    refine iS 1 lo3 1 0 (eL aI mT) (eL aI t14) [(eL aI mT)] [(lo1, 1, [(aB t4)]), (lo3, 1, [(eL aI t14)]), (lo4, 1, [(aB jO)])] hO rfl (by kernel_rfl) ?_
    intro H hO
    refine iS 2 lo4 1 0 (aB jO) (aB true) [(aB jO)] [(lo1, 1, [(aB t4)]), (lo3, 1, [(eL aI t14)]), (lo4, 1, [(aB true)])] hO rfl (by kernel_rfl) ?_
    intro H hO
    refine dV ?_
    refine iM [(4, (.lp lo1 0 0)), (5, (.lp lo3 0 0)), (6, (.lp lo4 0 0))] ?_
    obtain rfl := oI h1
    exact aF (aU (⟨(eB hO hE ho1 .dead).1, rfl, _, rfl, (eB hO hE ho1 _).2⟩))
  · intro b lD19 lL H' G' hi hO
    rcases o0 with s | s
    · dsimp only [Sum.elim_inl] at hi
      obtain rfl := hi
      replace h0 : (some true) = some r := h0
      obtain ⟨hlL, hO⟩ := lX hO
      refine ⟨_, _, hlL, (by intro e; cases e), ?_⟩
      refine iM [(4, (.lp lo1 0 0))] ?_
      replace hO := hO.pick (L' := [(lo1, 1, [(aB s.1)])]) [0] (by decide) (by kernel_rfl)
      refine aF (aU (aH (?_)))
      refine aN ?_
      refine aP aC 1 ?_
      refine iS 0 lo1 1 0 (aB s.1) (aB true) [(aB s.1)] [(lo1, 1, [(aB true)])] hO rfl (by kernel_rfl) ?_
      intro H hO
      refine dV ?_
      refine bD [(4, (.lp lo1 0 0))] ?_
      refine bK ?_
      obtain rfl := oI h0
      have hD := (hO.gm 0 _ rfl).2
      replace hO := (hO.mX .dead).nQ
      exact aF (QM1 (.inr rfl) hD (rs := [.cell 4 4]) (xs := [(aB true)]) (x := (aB true)) (by kernel_rfl) (gX (lo := lo1) (k := 1) (y := (aB true)) (x := (aB true)) 0 hO (by kernel_rfl) (by kernel_rfl) (by kernel_rfl) (by kernel_rfl) lM) (by kernel_rfl) ⟨rfl, hO.out⟩)
    · dsimp only [Sum.elim_inr] at hi
      obtain rfl := hi
      replace h0 : (some s.1) = some r := h0
      obtain ⟨hlL, hO⟩ := lX hO
      refine ⟨_, _, hlL, (by intro e; cases e), ?_⟩
      refine bK ?_
      replace hO := hO.pick (L' := [(lo1, 1, [(aB s.1)])]) [0] (by decide) (by kernel_rfl)
      obtain rfl := oI h0
      have hD := (hO.gm 0 _ rfl).2
      replace hO := (hO.mX .dead).nQ
      exact aF (bJ (aQ (QM1 (.inr rfl) hD (rs := [.cell 4 4]) (xs := [(aB s.1)]) (x := (aB s.1)) (by kernel_rfl) (gX (lo := lo1) (k := 1) (y := (aB s.1)) (x := (aB s.1)) 0 hO (by kernel_rfl) (by kernel_rfl) (by kernel_rfl) (by kernel_rfl) lM) (by kernel_rfl) ⟨rfl, hO.out⟩)))

theorem MF (n0 : Int) (r : Bool) (h0 : uI n0 = some r) : dS Try.prog 73 [(eI n0)] (aB r) := by
  intro H0
  refine dP Try.func73 ?_
  have hO := aJ.start H0
  unfold uI at h0
  refine aS aC 1 [] [] ?_
  refine cN aC 7 [(2, (aB ((decide (n0 ≤ (1048576 : Int))) && (decide ((-1048576 : Int) ≤ n0)))))] ?_
  refine bK ?_
  obtain rfl := oI h0
  exact aF (Q_r hO)

theorem vC (f0 : (List aG)) (r : Bool) (h0 : mR f0 = some r) : dS Try.prog 51 [(eL aK f0)] (aB r) := by
  intro H0
  refine dP Try.func51 ?_
  have hO := aJ.start H0
  unfold mR at h0
  refine aS aC 1 [] [] ?_
  refine aN ?_
  refine aS aC 3 [] [(8, (aB (decide ((1024 : Int) < (lN f0)))))] ?_
  refine bO h0 (fun h0 => ?_) (fun h0 => ?_)
  · refine cN aC 1 [(2, (aB false))] ?_
    refine bK ?_
    obtain rfl := oI h0
    exact aF (aQ (Q_r hO))
  refine bS ?_
  refine bD [(0, (eL aK f0))] ?_
  refine aS aC 1 [] [(3, (eI (-2 : Int)))] ?_
  refine iX (fun T H => Has T [] ∧ aJ ⟨H0, [], []⟩ H [] ∧ sD  = some r) ?_ ?_
  · clear hO h0
    rintro T H ⟨hT, hO, h0⟩
    refine bM hT ?_
    clear hT
    unfold sD at h0
    refine cN aC 1 [(2, (aB true))] ?_
    refine bK ?_
    obtain rfl := oI h0
    exact aF (Q_r hO)
  refine aS aC 3 [0] [(9, (eL aK f0)), (10, (eI (lN f0))), (11, (eI (0 : Int)))] ?_
  refine cI 0 ?_
  refine iD [(3, (eI (-2 : Int))), (9, (eL aK f0)), (10, (eI (lN f0))), (11, (eI (0 : Int)))] ?_
  refine hY (fun T H => ∃ nU : Int, ∃ t9 : (List aG), ∃ t10 : Int, ∃ t11 : Int, Has T [(3, (eI nU)), (9, (eL aK t9)), (10, (eI t10)), (11, (eI t11))] ∧ aJ ⟨H0, [], []⟩ H [] ∧ uC nU t9 t10 t11 = some r) ?_ ⟨(-2 : Int), f0, (lN f0), (0 : Int), .eq (by kernel_rfl), hO, h0⟩
  clear hO h0
  rintro T H ⟨nU, t9, t10, t11, hT, hO, h0⟩
  refine bM hT ?_
  clear hT
  unfold uC at h0
  obtain ⟨rr0, hl0, h0⟩ := aT h0
  refine eK (by kernel_rfl) (fun (s : Int × Int) T H => Has T [(3, (eI s.1)), (9, (eL aK t9)), (10, (eI t10)), (11, (eI s.2))] ∧ aJ ⟨H0, [], []⟩ H []) hl0 ⟨.eq (by kernel_rfl), hO⟩ ?_
  clear hO
  rintro k0 s out1 T H ⟨hT, hO⟩ h1 ho0
  obtain ⟨nU, t11⟩ := s
  replace h1 : kZ t9 t10 nU t11 = some out1 := h1
  try dsimp only at hT
  refine bM hT ?_
  clear hT
  unfold kZ at h1
  refine aS aC 1 [] [(12, (aB (decide (t11 < t10))))] ?_
  refine aN ?_
  refine bO h1 (fun h1 => ?_) (fun h1 => ?_)
  · refine bS ?_
    refine bD [(3, (eI nU)), (9, (eL aK t9)), (10, (eI t10)), (11, (eI t11))] ?_
    refine aN ?_
    refine cI 1 ?_
    refine aN ?_
    refine aP aC 4 ?_
    obtain ⟨c3, h1⟩ := aY h1
    refine zD 2 [0 ≤ t11 ∧ t11 < (lN t9)] ⟨c3, trivial⟩ ?_
    refine kH 2 (aK (aG.mk 0 0)) (by kernel_rfl) (by kernel_rfl) hO ?_
    intro lo4 H hO
    refine iS 0 lo4 2 0 (aK (aG.mk 0 0)) (aK (gD t9 t11)) [(aK (aG.mk 0 0))] [(lo4, 2, [(aK (gD t9 t11))])] hO rfl (by kernel_rfl) ?_
    intro H hO
    refine dV ?_
    refine cB [] [(5, (.lp lo4 0 0))] ?_
    refine aN ?_
    refine aN ?_
    refine aP aC 20 ?_
    refine bN 1 ?_
    refine mS 0 lo4 2 0 (aK (gD t9 t11)) (eI ((gD t9 t11).At)) [(aK (gD t9 t11))] hO rfl ?_
    refine bN 6 ?_
    refine tB [(19, false)] 0 lo4 2 0 (aK (gD t9 t11)) (eI ((gD t9 t11).At)) [(aK (gD t9 t11))] (by kernel_rfl) (by kernel_rfl) hO (by kernel_rfl) (!(decide (((gD t9 t11).At) ≤ nU))) (by kernel_rfl) (fun hb5 => rfl) ?_
    refine bN 11 ?_
    refine tB [(24, false)] 0 lo4 2 0 (aK (gD t9 t11)) (eI ((gD t9 t11).Net)) [(aK (gD t9 t11))] (by kernel_rfl) (by kernel_rfl) hO (by kernel_rfl) (!((decide (((gD t9 t11).At) ≤ nU)) || (decide ((1125899906842624 : Int) ≤ ((gD t9 t11).At))))) (by kernel_rfl) (fun hb6 => rfl) ?_
    refine bN 16 ?_
    refine tB [(29, false)] 0 lo4 2 0 (aK (gD t9 t11)) (eI ((gD t9 t11).Net)) [(aK (gD t9 t11))] (by kernel_rfl) (by kernel_rfl) hO (by kernel_rfl) (!(((decide (((gD t9 t11).At) ≤ nU)) || (decide ((1125899906842624 : Int) ≤ ((gD t9 t11).At)))) || (decide (((gD t9 t11).Net) = (0 : Int))))) (by kernel_rfl) (fun hb7 => rfl) ?_
    obtain ⟨x8, hx9, h1⟩ := aT h1
    refine nF [(29, false)] 73 [(eI ((gD t9 t11).Net))] (aB x8) (!(((decide (((gD t9 t11).At) ≤ nU)) || (decide ((1125899906842624 : Int) ≤ ((gD t9 t11).At)))) || (decide (((gD t9 t11).Net) = (0 : Int))))) (by kernel_rfl) (by kernel_rfl) (by kernel_rfl) (fun hb10 => (MF ((gD t9 t11).Net) _ (kO hx9 hb10))) hO ?_
    intro H hO
    refine bB ?_
    refine cB [3] [(34, (aB ((((decide (((gD t9 t11).At) ≤ nU)) || (decide ((1125899906842624 : Int) ≤ ((gD t9 t11).At)))) || (decide (((gD t9 t11).Net) = (0 : Int)))) || (!x8))))] ?_
    refine bO h1 (fun h1 => ?_) (fun h1 => ?_)
    · refine aN ?_
      refine aP aC 1 ?_
      refine bB ?_
      refine iM [(2, (aB false))] ?_
      replace hO := hO.pick (L' := []) [] (by decide) (by kernel_rfl)
      refine aF (aH (?_))
      refine bK ?_
      obtain rfl := oI h1
      obtain rfl : _ = rr0 := ho0
      replace h0 : some false = some r := h0
      obtain rfl := oI h0
      exact aF (aQ (bJ (aQ (aQ (bJ (aQ (Q_r hO)))))))
    refine bS ?_
    refine bD [(5, (.lp lo4 0 0)), (9, (eL aK t9)), (10, (eI t10)), (11, (eI t11))] ?_
    refine aP aC 3 ?_
    refine bN 1 ?_
    refine mS 0 lo4 2 0 (aK (gD t9 t11)) (eI ((gD t9 t11).At)) [(aK (gD t9 t11))] hO rfl ?_
    refine bB ?_
    refine iM [(3, (eI ((gD t9 t11).At))), (9, (eL aK t9)), (10, (eI t10)), (11, (eI t11))] ?_
    replace hO := hO.pick (L' := []) [] (by decide) (by kernel_rfl)
    refine aF (aU (aH (?_)))
    refine aP aC 2 ?_
    refine bB ?_
    exact aF (aH (⟨rfl, _, (oI h1).symm, .eq (by kernel_rfl), hO⟩))
  refine jJ 0 ?_
  obtain rfl := oI h1
  obtain rfl : _ = rr0 := ho0
  replace h0 : sD  = some r := h0
  exact aF (aV (aV (cH (aH (⟨rfl, .eq (by kernel_rfl), hO, h0⟩)))))

theorem EP (l0 : (List bF)) (r : Bool) (h0 : rR l0 = some r) : dS Try.prog 31 [(eL bQ l0)] (aB r) := by
  intro H0
  refine dP Try.func31 ?_
  have hO := aJ.start H0
  unfold rR at h0
  refine aS aC 1 [] [] ?_
  refine aN ?_
  refine aP aC 3 ?_
  refine bN 1 ?_
  obtain ⟨x1, hx2, h0⟩ := aT h0
  refine eW (BV l0 51 [] [] (fun y0 => mR y0) (fun y0 r h => vC y0 r h) _ hx2) hO ?_
  intro H hO
  refine bB ?_
  refine bD [(2, (aB x1))] ?_
  refine bK ?_
  obtain rfl := oI h0
  exact aF (Q_r hO)

theorem JX (f0 : (List aG)) (r : Int) (h0 : qZ f0 = some r) : dS Try.prog 52 [(eL aK f0)] (eI r) := by
  intro H0
  refine dP Try.func52 ?_
  have hO := aJ.start H0
  unfold qZ at h0
  refine aS aC 1 [] [] ?_
  refine aN ?_
  refine aN ?_
  refine aP aC 8 ?_
  refine bN 1 ?_
  obtain ⟨x1, hx2, h0⟩ := aT h0
  refine eW (vC f0 _ hx2) hO ?_
  intro H hO
  refine bB ?_
  refine cB [] [(14, (aB ((!x1) || (decide ((lN f0) = (0 : Int))))))] ?_
  refine bO h0 (fun h0 => ?_) (fun h0 => ?_)
  · refine cN aC 1 [(2, (eI (0 : Int)))] ?_
    refine bK ?_
    obtain rfl := oI h0
    exact aF (aQ (Q_r hO))
  refine bS ?_
  refine bD [(0, (eL aK f0))] ?_
  refine aS aC 2 [] [(3, (eI (0 : Int))), (4, (eI (0 : Int)))] ?_
  refine iX (fun T H => ∃ v3 : Int, ∃ gM : Int, Has T [(0, (eL aK f0)), (3, (eI v3)), (4, (eI gM))] ∧ aJ ⟨H0, [], []⟩ H [] ∧ nG f0 v3 gM = some r) ?_ ?_
  · clear hO h0
    rintro T H ⟨v3, gM, hT, hO, h0⟩
    refine bM hT ?_
    clear hT
    unfold nG at h0
    refine iX (fun T H => ∃ gM : Int, Has T [(4, (eI gM))] ∧ aJ ⟨H0, [], []⟩ H [] ∧ pM gM = some r) ?_ ?_
    · clear hO h0
      rintro T H ⟨gM, hT, hO, h0⟩
      refine bM hT ?_
      clear hT
      unfold pM at h0
      refine cN aC 2 [(2, (eI gM))] ?_
      refine bK ?_
      obtain rfl := oI h0
      exact aF (Q_r hO)
    refine aS aC 3 [0] [(24, (eL aK f0)), (25, (eI (lN f0))), (26, (eI (0 : Int)))] ?_
    refine cI 0 ?_
    refine iD [(3, (eI v3)), (4, (eI gM)), (24, (eL aK f0)), (25, (eI (lN f0))), (26, (eI (0 : Int)))] ?_
    refine hY (fun T H => ∃ v3 : Int, ∃ gM : Int, ∃ t24 : (List aG), ∃ t25 : Int, ∃ t26 : Int, Has T [(3, (eI v3)), (4, (eI gM)), (24, (eL aK t24)), (25, (eI t25)), (26, (eI t26))] ∧ aJ ⟨H0, [], []⟩ H [] ∧ pJ v3 gM t24 t25 t26 = some r) ?_ ⟨v3, gM, f0, (lN f0), (0 : Int), .eq (by kernel_rfl), hO, h0⟩
    clear hO h0
    rintro T H ⟨v3, gM, t24, t25, t26, hT, hO, h0⟩
    refine bM hT ?_
    clear hT
    unfold pJ at h0
    obtain ⟨rr0, hl0, h0⟩ := aT h0
    refine eK (by kernel_rfl) (fun (s : Int × Int × Int) T H => Has T [(3, (eI s.1)), (4, (eI s.2.1)), (24, (eL aK t24)), (25, (eI t25)), (26, (eI s.2.2))] ∧ aJ ⟨H0, [], []⟩ H []) hl0 ⟨.eq (by kernel_rfl), hO⟩ ?_
    clear hO
    rintro k0 s out1 T H ⟨hT, hO⟩ h1 ho0
    obtain ⟨v3, gM, t26⟩ := s
    replace h1 : lI t24 t25 v3 gM t26 = some out1 := h1
    try dsimp only at hT
    refine bM hT ?_
    clear hT
    unfold lI at h1
    refine aS aC 1 [] [(27, (aB (decide (t26 < t25))))] ?_
    refine aN ?_
    refine bO h1 (fun h1 => ?_) (fun h1 => ?_)
    · refine bS ?_
      refine bD [(3, (eI v3)), (4, (eI gM)), (24, (eL aK t24)), (25, (eI t25)), (26, (eI t26))] ?_
      refine aN ?_
      refine cI 1 ?_
      refine aN ?_
      refine aP aC 4 ?_
      obtain ⟨c6, h1⟩ := aY h1
      refine zD 2 [0 ≤ t26 ∧ t26 < (lN t24)] ⟨c6, trivial⟩ ?_
      refine kH 2 (aK (aG.mk 0 0)) (by kernel_rfl) (by kernel_rfl) hO ?_
      intro lo7 H hO
      refine iS 0 lo7 2 0 (aK (aG.mk 0 0)) (aK (gD t24 t26)) [(aK (aG.mk 0 0))] [(lo7, 2, [(aK (gD t24 t26))])] hO rfl (by kernel_rfl) ?_
      intro H hO
      refine dV ?_
      refine cB [] [(6, (.lp lo7 0 0))] ?_
      refine aN ?_
      refine aP aC 5 ?_
      refine bN 2 ?_
      refine mS 0 lo7 2 0 (aK (gD t24 t26)) (eI ((gD t24 t26).Net)) [(aK (gD t24 t26))] hO rfl ?_
      refine bB ?_
      replace hO := hO.pick (L' := []) [] (by decide) (by kernel_rfl)
      refine cB [3, 6] [(3, (eI (wR (v3 + ((gD t24 t26).Net)))))] ?_
      refine aP aC 4 ?_
      refine bB ?_
      refine iM [(3, (eI (wR (v3 + ((gD t24 t26).Net))))), (4, (eI (if (wR (v3 + ((gD t24 t26).Net))) < gM then (wR (v3 + ((gD t24 t26).Net))) else gM))), (24, (eL aK t24)), (25, (eI t25)), (26, (eI t26))] ?_
      refine aF (aU (aH (?_)))
      refine aP aC 2 ?_
      refine bB ?_
      exact aF (aH (⟨rfl, _, (oI h1).symm, .eq (by kernel_rfl), hO⟩))
    refine jJ 0 ?_
    obtain rfl := oI h1
    obtain rfl : _ = rr0 := ho0
    replace h0 : pM gM = some r := h0
    exact aF (aV (aV (cH (aH (⟨rfl, _, .eq (by kernel_rfl), hO, h0⟩)))))
  refine aN ?_
  refine aP aC 5 ?_
  obtain ⟨c8, h0⟩ := aY h0
  refine rB [0 ≤ (0 : Int) ∧ (0 : Int) < (lN f0)] ⟨c8, trivial⟩ ?_
  refine cB [] [(19, (aB (decide (((gD f0 (0 : Int)).At) = (-1 : Int)))))] ?_
  refine bO h0 (fun h0 => ?_) (fun h0 => ?_)
  · refine aP aC 5 ?_
    obtain ⟨c10, h0⟩ := aY h0
    refine rB [0 ≤ (0 : Int) ∧ (0 : Int) < (lN f0)] ⟨c10, trivial⟩ ?_
    exact aF (aH (⟨rfl, _, _, .eq (by kernel_rfl), hO, h0⟩))
  refine bS ?_
  exact aF (aH (⟨rfl, _, _, .eq (by kernel_rfl), hO, h0⟩))

theorem FT (f0 : (List aG)) (r : Bool) (h0 : oK f0 = some r) : dS Try.prog 50 [(eL aK f0)] (aB r) := by
  intro H0
  refine dP Try.func50 ?_
  have hO := aJ.start H0
  unfold oK at h0
  refine aS aC 1 [] [] ?_
  refine aN ?_
  refine aP aC 8 ?_
  refine bN 1 ?_
  obtain ⟨x1, hx2, h0⟩ := aT h0
  refine eW (vC f0 _ hx2) hO ?_
  intro H hO
  refine bN 4 ?_
  obtain ⟨x4, hx5, h0⟩ := aT h0
  refine nF [(5, true)] 52 [(eL aK f0)] (eI x4) x1 (by kernel_rfl) (by kernel_rfl) (by kernel_rfl) (fun hb6 => (JX f0 _ (kO hx5 hb6))) hO ?_
  intro H hO
  refine bB ?_
  refine bD [(2, (aB (x1 && (decide ((0 : Int) ≤ x4)))))] ?_
  refine bK ?_
  obtain rfl := oI h0
  exact aF (Q_r hO)

theorem JI (l0 : (List bF)) (r : Bool) (h0 : qL l0 = some r) : dS Try.prog 23 [(eL bQ l0)] (aB r) := by
  intro H0
  refine dP Try.func23 ?_
  have hO := aJ.start H0
  unfold qL at h0
  refine aS aC 1 [] [] ?_
  refine aN ?_
  refine aP aC 3 ?_
  refine bN 1 ?_
  obtain ⟨x1, hx2, h0⟩ := aT h0
  refine eW (BV l0 50 [] [] (fun y0 => oK y0) (fun y0 r h => FT y0 r h) _ hx2) hO ?_
  intro H hO
  refine bB ?_
  refine bD [(2, (aB x1))] ?_
  refine bK ?_
  obtain rfl := oI h0
  exact aF (Q_r hO)

theorem IG (l0 : (List bF)) (r : (List bF)) (h0 : sU l0 = some r) : dS Try.prog 32 [(eL bQ l0)] (.fn (.func 55) [] [(.rp (eL bQ r))]) := by
  intro H0
  refine dP Try.func32 ?_
  have hO := aJ.start H0
  unfold sU at h0
  refine aN ?_
  refine aP aC 2 ?_
  refine gO 1 (eL bQ l0) (by kernel_rfl) (by kernel_rfl) ?_
  refine bB ?_
  refine bD [(1, (.rp (eL bQ l0)))] ?_
  refine cN aC 2 [(2, (.fn (.func 55) [] [(.rp (eL bQ l0))]))] ?_
  refine bK ?_
  obtain rfl := oI h0
  exact aF (lA (x := (.fn (.func 55) [] [(.rp (eL bQ l0))])) (by kernel_rfl) (aL.refl _) ⟨rfl, hO.out⟩)

theorem BQ {σ : Type} (I : σ → Gs → Prop) (yield0_b : Nat) (cG : σ → (List aD) → (List aG) → Option (σ × Bool)) (yield0_h : ∀ st a0 a1 st2 r, cG st a0 a1 = some (st2, r) → vB Try.prog (yv yield0_b) I st [(eL aI a0), (eL aK a1)] st2 (aB r)) (t1 : (List bF)) (sg0 : σ) (r : σ) (h0 : mL cG t1 sg0 = some r) : sQ Try.prog 55 I sg0 [(yv yield0_b), (.rp (eL bQ t1))] r (.tup []) := by
  intro H0 G0 hI hg
  refine xZ aC Try.func55 (by kernel_rfl) (by kernel_rfl) (by kernel_rfl) ?_
  obtain ⟨G, hO, hI⟩ : ∃ G, aJ ⟨H0, List.map (fun p : Nat × cS => p.1) G0, G⟩ H0 [] ∧ I sg0 G := ⟨G0, aJ.xU hg, hI⟩
  clear hg
  unfold mL at h0
  refine aN ?_
  refine aP aC 1 ?_
  refine gO 1 (yv yield0_b) (by kernel_rfl) (by kernel_rfl) ?_
  refine dV ?_
  refine cB [0] [(2, (.rp (yv yield0_b)))] ?_
  refine aN ?_
  refine aN ?_
  refine aP aC 3 ?_
  refine bN 1 ?_
  obtain ⟨x1, hx2, h0⟩ := aT h0
  refine eW (EP t1 _ hx2) hO ?_
  intro H hO
  refine bB ?_
  refine cB [] [(7, (aB (!x1)))] ?_
  refine bO h0 (fun h0 => ?_) (fun h0 => ?_)
  · refine bK ?_
    obtain rfl := oI h0
    exact aF (aQ (QM0 (.inr rfl) (rs := []) (xs := []) (x := (.tup [])) (by kernel_rfl) lM (by kernel_rfl) ⟨rfl, G, hI, hO.tX⟩))
  refine bS ?_
  refine bD [(1, (.rp (eL bQ t1))), (2, (.rp (yv yield0_b)))] ?_
  refine aN ?_
  refine aP aC 2 ?_
  refine bN 1 ?_
  obtain ⟨x5, hx6, h0⟩ := aT h0
  refine eW (BW t1 _ hx6) hO ?_
  intro H hO
  refine dV ?_
  refine cB [1] [(9, (.fn (.func 74) [] [(.rp (eL bQ x5))]))] ?_
  refine cI 0 ?_
  refine iD [(2, (.rp (yv yield0_b))), (9, (.fn (.func 74) [] [(.rp (eL bQ x5))]))] ?_
  refine hY (fun T H => ∃ sg : σ, ∃ t9c0 : (List bF), ∃ G : Gs, Has T [(2, (.rp (yv yield0_b))), (9, (.fn (.func 74) [] [(.rp (eL bQ t9c0))]))] ∧ aJ ⟨H0, List.map (fun p : Nat × cS => p.1) G0, G⟩ H [] ∧ I sg G ∧ nN cG sg t9c0 = some r) ?_ ⟨sg0, x5, G, .eq (by kernel_rfl), hO, hI, h0⟩
  clear hO hI h0
  rintro T H ⟨sg, t9c0, G, hT, hO, hI, h0⟩
  refine bM (l := [(2, (.rp (yv yield0_b))), (9, (.fn (.func 74) [] [(.rp (eL bQ t9c0))]))]) hT ?_
  clear hT
  unfold nN at h0
  obtain ⟨o0, hl0, h0⟩ := aT h0
  refine wE (fid := 74) (ys := []) (cs := [(.rp (eL bQ t9c0))]) #[10, 11] (fun (A : qI) (b lL : Nat) (st : (σ) ⊕ (σ)) (G' : Gs) => Sum.elim (fun (s : σ) => ∃ G : Gs, I s G ∧ G' = (lL, .raw (fS b A .ready none)) :: (up [] ++ G)) (fun (s : σ) => ∃ G : Gs, I s G ∧ G' = (lL, .raw (fS b A .done (some .ret))) :: (up [] ++ G)) st) (.inl sg) o0 (.tup []) (by kernel_rfl) (by kernel_rfl) (by kernel_rfl) hO (fun _ _ => ⟨G, hI, rfl⟩) ?_ ?_
  · intro b lL
    clear hO hI h0
    refine xB _ b (fun st t10 t11 => rnd (fun (s : σ) => jX cG t9c0 s t10 t11) st) ?_ t9c0 _ _ hl0
    intro st t10 t11 out1 rr hr
    obtain ⟨s, rfl, h1, rfl⟩ := FU hr
    clear hr
    intro Hr Gr hi hg
    obtain ⟨sg, rfl⟩ : ∃ x, x = s := ⟨_, rfl⟩
    dsimp only [Sum.elim_inl] at hi
    obtain ⟨G, hI, rfl⟩ := hi
    replace h1 : jX cG t9c0 sg t10 t11 = some out1 := h1
    unfold jX at h1
    obtain ⟨E1, hE, hO⟩ := pW hg
    refine pZ (tU (hO.gm 0 _ rfl).2 (by kernel_rfl) (by kernel_rfl) ?_)
    refine iD [(2, (.rp (yv yield0_b))), (9, (.fn (.func 74) [] [(.rp (eL bQ t9c0))])), (10, (eL aI t10)), (11, (eL aK t11))] ?_
    refine aS aC 1 [9, 10] [(3, (eL aI t10))] ?_
    refine aP aC 1 ?_
    refine bB ?_
    refine iM [(2, (.rp (yv yield0_b))), (3, (eL aI t10)), (4, (eL aK t11))] ?_
    refine aF (⟨rfl, rfl, (hO.gm 0 _ rfl).2, ?_⟩)
    intro o1 ho1
    replace hO := hO.mX o1
    refine cI 1 ?_
    refine aN ?_
    refine aP aC 5 ?_
    refine bN 3 ?_
    obtain ⟨x7, hx8, h1⟩ := aT h1
    refine UI (I := I) (yv yield0_b) [(eL aI t10), (eL aK t11)] (aB x7.2) (by kernel_rfl) (by kernel_rfl) (yield0_h _ t10 t11 x7.1 x7.2 hx8) hO hI ?_
    intro G H hO hI
    refine bB ?_
    refine bD [(16, (aB (!x7.2)))] ?_
    refine bO h1 (fun h1 => ?_) (fun h1 => ?_)
    · refine bK ?_
      refine iM [] ?_
      obtain rfl := oI h1
      exact aF (bJ (⟨(eB hO hE ho1 .dead).1, rfl, _, ⟨G, hI, rfl⟩, (eB hO hE ho1 _).2⟩))
    refine bS ?_
    refine iM [] ?_
    obtain rfl := oI h1
    exact aF (aU (⟨(eB hO hE ho1 .dead).1, rfl, _, ⟨G, hI, rfl⟩, (eB hO hE ho1 _).2⟩))
  · intro b lD10 lL H' G' hi hO
    rcases o0 with s | s
    · dsimp only [Sum.elim_inl] at hi
      obtain ⟨G, hI, rfl⟩ := hi
      replace h0 : (some s) = some r := h0
      obtain ⟨hlL, hO⟩ := lX hO
      refine ⟨_, _, hlL, (by intro e; cases e), ?_⟩
      obtain rfl := oI h0
      have hD := (hO.gm 0 _ rfl).2
      replace hO := (hO.mX .dead).nQ
      exact aF (aU (QM1 (.inl rfl) hD (rs := []) (xs := []) (x := (.tup [])) (by kernel_rfl) lM (by kernel_rfl) ⟨rfl, G, hI, hO.tX⟩))
    · dsimp only [Sum.elim_inr] at hi
      obtain ⟨G, hI, rfl⟩ := hi
      replace h0 : (some s) = some r := h0
      obtain ⟨hlL, hO⟩ := lX hO
      refine ⟨_, _, hlL, (by intro e; cases e), ?_⟩
      refine bK ?_
      obtain rfl := oI h0
      have hD := (hO.gm 0 _ rfl).2
      replace hO := (hO.mX .dead).nQ
      exact aF (bJ (QM1 (.inr rfl) hD (rs := []) (xs := []) (x := (.tup [])) (by kernel_rfl) lM (by kernel_rfl) ⟨rfl, G, hI, hO.tX⟩))

theorem BP (x0 : Int) (r : Int) (h0 : mP x0 = some r) : dS Try.prog 88 [(cT .u64 x0)] (eI r) := by
  intro H0
  refine dP Try.func88 ?_
  have hO := aJ.start H0
  unfold mP at h0
  refine aS aC 1 [] [(2, (eI (0 : Int)))] ?_
  refine iX (fun T H => ∃ x0 : Int, ∃ n2 : Int, Has T [(0, (cT .u64 x0)), (2, (eI n2))] ∧ aJ ⟨H0, [], []⟩ H [] ∧ kA x0 n2 = some r) ?_ ?_
  · clear hO h0
    rintro T H ⟨x0, n2, hT, hO, h0⟩
    refine bM hT ?_
    clear hT
    unfold kA at h0
    refine iX (fun T H => ∃ x0 : Int, ∃ n2 : Int, Has T [(0, (cT .u64 x0)), (2, (eI n2))] ∧ aJ ⟨H0, [], []⟩ H [] ∧ jW x0 n2 = some r) ?_ ?_
    · clear hO h0
      rintro T H ⟨x0, n2, hT, hO, h0⟩
      refine bM hT ?_
      clear hT
      unfold jW at h0
      refine iX (fun T H => ∃ x0 : Int, ∃ n2 : Int, Has T [(0, (cT .u64 x0)), (2, (eI n2))] ∧ aJ ⟨H0, [], []⟩ H [] ∧ kW x0 n2 = some r) ?_ ?_
      · clear hO h0
        rintro T H ⟨x0, n2, hT, hO, h0⟩
        refine bM hT ?_
        clear hT
        unfold kW at h0
        refine aN ?_
        refine aP aC 7 ?_
        obtain ⟨c1, h0⟩ := aY h0
        refine rB [0 ≤ (IntKind.u8.wrap x0) ∧ (IntKind.u8.wrap x0) < ((ByteArray.size (⟨#[0, 1, 2, 2, 3, 3, 3, 3, 4, 4, 4, 4, 4, 4, 4, 4, 5, 5, 5, 5, 5, 5, 5, 5, 5, 5, 5, 5, 5, 5, 5, 5, 6, 6, 6, 6, 6, 6, 6, 6, 6, 6, 6, 6, 6, 6, 6, 6, 6, 6, 6, 6, 6, 6, 6, 6, 6, 6, 6, 6, 6, 6, 6, 6, 7, 7, 7, 7, 7, 7, 7, 7, 7, 7, 7, 7, 7, 7, 7, 7, 7, 7, 7, 7, 7, 7, 7, 7, 7, 7, 7, 7, 7, 7, 7, 7, 7, 7, 7, 7, 7, 7, 7, 7, 7, 7, 7, 7, 7, 7, 7, 7, 7, 7, 7, 7, 7, 7, 7, 7, 7, 7, 7, 7, 7, 7, 7, 7, 8, 8, 8, 8, 8, 8, 8, 8, 8, 8, 8, 8, 8, 8, 8, 8, 8, 8, 8, 8, 8, 8, 8, 8, 8, 8, 8, 8, 8, 8, 8, 8, 8, 8, 8, 8, 8, 8, 8, 8, 8, 8, 8, 8, 8, 8, 8, 8, 8, 8, 8, 8, 8, 8, 8, 8, 8, 8, 8, 8, 8, 8, 8, 8, 8, 8, 8, 8, 8, 8, 8, 8, 8, 8, 8, 8, 8, 8, 8, 8, 8, 8, 8, 8, 8, 8, 8, 8, 8, 8, 8, 8, 8, 8, 8, 8, 8, 8, 8, 8, 8, 8, 8, 8, 8, 8, 8, 8, 8, 8, 8, 8, 8, 8, 8, 8, 8, 8, 8, 8, 8, 8, 8, 8, 8, 8, 8, 8]⟩ : ByteArray) : Nat) : Int)] ⟨c1, trivial⟩ ?_
        refine bD [(2, (eI (wR (n2 + (wR (bt (⟨#[0, 1, 2, 2, 3, 3, 3, 3, 4, 4, 4, 4, 4, 4, 4, 4, 5, 5, 5, 5, 5, 5, 5, 5, 5, 5, 5, 5, 5, 5, 5, 5, 6, 6, 6, 6, 6, 6, 6, 6, 6, 6, 6, 6, 6, 6, 6, 6, 6, 6, 6, 6, 6, 6, 6, 6, 6, 6, 6, 6, 6, 6, 6, 6, 7, 7, 7, 7, 7, 7, 7, 7, 7, 7, 7, 7, 7, 7, 7, 7, 7, 7, 7, 7, 7, 7, 7, 7, 7, 7, 7, 7, 7, 7, 7, 7, 7, 7, 7, 7, 7, 7, 7, 7, 7, 7, 7, 7, 7, 7, 7, 7, 7, 7, 7, 7, 7, 7, 7, 7, 7, 7, 7, 7, 7, 7, 7, 7, 8, 8, 8, 8, 8, 8, 8, 8, 8, 8, 8, 8, 8, 8, 8, 8, 8, 8, 8, 8, 8, 8, 8, 8, 8, 8, 8, 8, 8, 8, 8, 8, 8, 8, 8, 8, 8, 8, 8, 8, 8, 8, 8, 8, 8, 8, 8, 8, 8, 8, 8, 8, 8, 8, 8, 8, 8, 8, 8, 8, 8, 8, 8, 8, 8, 8, 8, 8, 8, 8, 8, 8, 8, 8, 8, 8, 8, 8, 8, 8, 8, 8, 8, 8, 8, 8, 8, 8, 8, 8, 8, 8, 8, 8, 8, 8, 8, 8, 8, 8, 8, 8, 8, 8, 8, 8, 8, 8, 8, 8, 8, 8, 8, 8, 8, 8, 8, 8, 8, 8, 8, 8, 8, 8, 8, 8, 8, 8]⟩ : ByteArray) (IntKind.u8.wrap x0)))))))] ?_
        refine bK ?_
        obtain rfl := oI h0
        exact aF (Q_r hO)
      refine aS aC 2 [] [(14, (aB (decide ((256 : Int) ≤ x0))))] ?_
      refine bO h0 (fun h0 => ?_) (fun h0 => ?_)
      · refine aN ?_
        refine aP aC 3 ?_
        obtain ⟨c3, h0⟩ := aY h0
        refine rB [0 ≤ (8 : Int)] ⟨c3, trivial⟩ ?_
        refine bD [(0, (cT .u64 (Int.fdiv x0 (2 ^ (min (Int.toNat (8 : Int)) 64))))), (2, (eI n2))] ?_
        refine aP aC 3 ?_
        refine bB ?_
        exact aF (aH (⟨rfl, _, _, .eq (by kernel_rfl), hO, h0⟩))
      refine bS ?_
      exact aF (aH (⟨rfl, _, _, .eq (by kernel_rfl), hO, h0⟩))
    refine aS aC 2 [] [(8, (aB (decide ((65536 : Int) ≤ x0))))] ?_
    refine bO h0 (fun h0 => ?_) (fun h0 => ?_)
    · refine aN ?_
      refine aP aC 3 ?_
      obtain ⟨c5, h0⟩ := aY h0
      refine rB [0 ≤ (16 : Int)] ⟨c5, trivial⟩ ?_
      refine bD [(0, (cT .u64 (Int.fdiv x0 (2 ^ (min (Int.toNat (16 : Int)) 64))))), (2, (eI n2))] ?_
      refine aP aC 3 ?_
      refine bB ?_
      exact aF (aH (⟨rfl, _, _, .eq (by kernel_rfl), hO, h0⟩))
    refine bS ?_
    exact aF (aH (⟨rfl, _, _, .eq (by kernel_rfl), hO, h0⟩))
  refine aS aC 2 [] [(4, (aB (decide ((4294967296 : Int) ≤ x0))))] ?_
  refine bO h0 (fun h0 => ?_) (fun h0 => ?_)
  · refine aN ?_
    refine aP aC 3 ?_
    obtain ⟨c7, h0⟩ := aY h0
    refine rB [0 ≤ (32 : Int)] ⟨c7, trivial⟩ ?_
    refine bD [(0, (cT .u64 (Int.fdiv x0 (2 ^ (min (Int.toNat (32 : Int)) 64)))))] ?_
    refine aP aC 1 ?_
    refine bB ?_
    exact aF (aH (⟨rfl, _, _, .eq (by kernel_rfl), hO, h0⟩))
  refine bS ?_
  exact aF (aH (⟨rfl, _, _, .eq (by kernel_rfl), hO, h0⟩))

theorem wU (x0 : Int) (r : Int) (h0 : jM x0 = some r) : dS Try.prog 62 [(cT .u64 x0)] (eI r) := by
  intro H0
  refine dP Try.func62 ?_
  have hO := aJ.start H0
  unfold jM at h0
  refine aS aC 1 [] [] ?_
  refine aN ?_
  refine lJ (false) (fun hc1 => ?_) (fun hc1 => ?_)
  · cases hc1
  · refine bS ?_
    refine aF (aH ?_)
    refine aN ?_
    refine aP aC 3 ?_
    refine bN 1 ?_
    obtain ⟨x2, hx3, h0⟩ := aT h0
    refine eW (BP x0 _ hx3) hO ?_
    intro H hO
    refine bB ?_
    refine bD [(2, (eI x2))] ?_
    refine bK ?_
    obtain rfl := oI h0
    exact aF (Q_r hO)

theorem fD (x0 : Int) (y1 : Int) (r : Bool) (h0 : cW x0 y1 = some r) : dS Try.prog 84 [(eI x0), (eI y1)] (aB r) := by
  intro H0
  refine dP Try.func84 ?_
  have hO := aJ.start H0
  unfold cW at h0
  refine aS aC 1 [] [] ?_
  refine aN ?_
  refine aP aC 13 ?_
  refine bN 1 ?_
  obtain ⟨x1, hx2, h0⟩ := aT h0
  refine eW (qG x0 _ hx2) hO ?_
  intro H hO
  refine bN 4 ?_
  obtain ⟨x4, hx5, h0⟩ := aT h0
  refine nF [(7, true)] 105 [(eI y1)] (aB x4) x1 (by kernel_rfl) (by kernel_rfl) (by kernel_rfl) (fun hb6 => (qG y1 _ (kO hx5 hb6))) hO ?_
  intro H hO
  refine bB ?_
  refine bD [(4, (aB ((x1 && (!x4)) || (decide (x0 < y1)))))] ?_
  refine bK ?_
  obtain rfl := oI h0
  exact aF (Q_r hO)

theorem sL (lo0p : Nat) (aA : (List Int)) (a1 : Int) (b2 : Int) (r : List Int) (h0 : fU aA a1 b2 = some r) : lW Try.prog 78 lo0p 1 (List.map (eI) aA) (List.map (eI) r) [(.msl 1 lo0p 0 (List.length aA)), (eI a1), (eI b2)] (.tup []) := by
  intro H0 hl0
  refine dP Try.func78 ?_
  have hO := aJ.rI hl0
  clear hl0
  obtain ⟨N0, hN0⟩ : ∃ n, n = List.length aA := ⟨_, rfl⟩
  have hN : List.length aA = N0 := hN0.symm
  unfold fU at h0
  refine aS aC 3 [] [(6, (eI (wR (a1 + (1 : Int)))))] ?_
  refine cI 0 ?_
  refine iD [(0, (.msl 1 lo0p 0 (List.length aA))), (1, (eI a1)), (2, (eI b2)), (6, (eI (wR (a1 + (1 : Int)))))] ?_
  refine hY (fun T H => ∃ aA : List Int, ∃ i6 : Int, Has T [(0, (.msl 1 lo0p 0 (List.length aA))), (1, (eI a1)), (2, (eI b2)), (6, (eI i6))] ∧ aJ ⟨H0, [lo0p], []⟩ H [(lo0p, 1, List.map (eI) aA)] ∧ List.length aA = N0 ∧ iQ aA a1 b2 i6 = some r) ?_ ⟨aA, wR (a1 + (1 : Int)), .eq (by kernel_rfl), hO, hN, h0⟩
  clear hO hN h0
  rintro T H ⟨aA, i6, hT, hO, hN, h0⟩
  refine bM hT ?_
  clear hT
  unfold iQ at h0
  obtain ⟨rr0, hl0, h0⟩ := aT h0
  refine eK (by kernel_rfl) (fun (s : List Int × Int) T H => Has T [(0, (.msl 1 lo0p 0 (List.length s.1))), (1, (eI a1)), (2, (eI b2)), (6, (eI s.2))] ∧ aJ ⟨H0, [lo0p], []⟩ H [(lo0p, 1, List.map (eI) s.1)] ∧ List.length s.1 = N0) hl0 ⟨.eq (by kernel_rfl), hO, hN⟩ ?_
  clear hO hN
  rintro k0 s out1 T H ⟨hT, hO, hN⟩ h1 ho0
  obtain ⟨aA, i6⟩ := s
  replace h1 : cY a1 b2 aA i6 = some out1 := h1
  try dsimp only at hT
  refine bM hT ?_
  clear hT
  unfold cY at h1
  refine aN ?_
  refine aS aC 3 [] [(12, (aB (decide (i6 < b2))))] ?_
  refine bO h1 (fun h1 => ?_) (fun h1 => ?_)
  · refine bS ?_
    refine bD [(0, (.msl 1 lo0p 0 (List.length aA))), (1, (eI a1)), (2, (eI b2)), (6, (eI i6))] ?_
    refine iX (fun T H => ∃ aA : List Int, Has T [(0, (.msl 1 lo0p 0 (List.length aA))), (1, (eI a1)), (2, (eI b2)), (6, (eI i6))] ∧ aJ ⟨H0, [lo0p], []⟩ H [(lo0p, 1, List.map (eI) aA)] ∧ List.length aA = N0 ∧ fN aA a1 b2 i6 = some out1) ?_ ?_
    · clear hO hN h1
      rintro T H ⟨aA, hT, hO, hN, h1⟩
      refine bM hT ?_
      clear hT
      unfold fN at h1
      refine aP aC 3 ?_
      refine bB ?_
      exact aF (aH (⟨rfl, _, (oI h1).symm, .eq (by kernel_rfl), hO, hN⟩))
    refine cI 1 ?_
    refine aS aC 2 [] [(7, (eI i6))] ?_
    refine cI 2 ?_
    refine iD [(0, (.msl 1 lo0p 0 (List.length aA))), (1, (eI a1)), (2, (eI b2)), (6, (eI i6)), (7, (eI i6))] ?_
    refine hY (fun T H => ∃ aA : List Int, ∃ j7 : Int, Has T [(0, (.msl 1 lo0p 0 (List.length aA))), (1, (eI a1)), (2, (eI b2)), (6, (eI i6)), (7, (eI j7))] ∧ aJ ⟨H0, [lo0p], []⟩ H [(lo0p, 1, List.map (eI) aA)] ∧ List.length aA = N0 ∧ iN aA a1 b2 i6 j7 = some out1) ?_ ⟨aA, i6, .eq (by kernel_rfl), hO, hN, h1⟩
    clear hO hN h1
    rintro T H ⟨aA, j7, hT, hO, hN, h1⟩
    refine bM hT ?_
    clear hT
    unfold iN at h1
    obtain ⟨rr1, hl1, h1⟩ := aT h1
    refine eK (by kernel_rfl) (fun (s : List Int × Int) T H => Has T [(0, (.msl 1 lo0p 0 (List.length s.1))), (1, (eI a1)), (2, (eI b2)), (6, (eI i6)), (7, (eI s.2))] ∧ aJ ⟨H0, [lo0p], []⟩ H [(lo0p, 1, List.map (eI) s.1)] ∧ List.length s.1 = N0) hl1 ⟨.eq (by kernel_rfl), hO, hN⟩ ?_
    clear hO hN
    rintro k1 s out2 T H ⟨hT, hO, hN⟩ h2 ho1
    obtain ⟨aA, j7⟩ := s
    replace h2 : eM a1 b2 i6 aA j7 = some out2 := h2
    try dsimp only at hT
    refine bM hT ?_
    clear hT
    unfold eM at h2
    refine aN ?_
    refine aN ?_
    obtain ⟨c2, h2⟩ := aY h2
    obtain ⟨c3, h2⟩ := aY h2
    obtain ⟨x4, hx5, h2⟩ := aT h2
    refine gU (gW []) aC 15 ?_
    refine pG (K := fun T H => Has (lift T) [(0, (.msl 1 lo0p 0 (List.length aA))), (1, (eI a1)), (2, (eI b2)), (6, (eI i6)), (7, (eI j7)), (30, (aB ((decide (a1 < j7)) && x4)))] ∧ aJ ⟨H0, [lo0p], []⟩ H [(lo0p, 1, List.map (eI) aA)]) ?_ ?_
    · refine lK 4 ?_
      refine oG (t := 19) (e := decide (a1 < j7)) (by kernel_rfl) (fun hg6 => ?_) (fun hg6 => ?_)
      · refine cF 7 [0 ≤ j7 ∧ j7 < (lN aA)] ⟨(c2 hg6), trivial⟩ ?_
        refine iZ 0 lo0p 1 (0 + Int.toNat j7) (eI (gD aA j7)) (eI (gD aA j7)) (List.map (eI) aA) (by kernel_rfl) (by kernel_rfl) (by kernel_rfl) hO (by kernel_rfl) (bU (c2 hg6)) ?_
        refine cF 12 [0 ≤ (wR (j7 - (1 : Int))) ∧ (wR (j7 - (1 : Int))) < (lN aA)] ⟨(c3 hg6), trivial⟩ ?_
        refine iZ 0 lo0p 1 (0 + Int.toNat (wR (j7 - (1 : Int)))) (eI (gD aA (wR (j7 - (1 : Int))))) (eI (gD aA (wR (j7 - (1 : Int))))) (List.map (eI) aA) (by kernel_rfl) (by kernel_rfl) (by kernel_rfl) hO (by kernel_rfl) (bU (c3 hg6)) ?_
        refine nX 84 [(eI (gD aA j7)), (eI (gD aA (wR (j7 - (1 : Int)))))] (aB x4) (by kernel_rfl) (by kernel_rfl) (fD (gD aA j7) (gD aA (wR (j7 - (1 : Int)))) _ (kO hx5 hg6)) hO ?_
        intro H hO
        refine kY ?_
        exact ⟨⟨[(0, (.msl 1 lo0p 0 (List.length aA))), (1, (eI a1)), (2, (eI b2)), (6, (eI i6)), (7, (eI j7)), (30, (aB x4))], by kernel_rfl, rfl, ⟨aL.refl _, aL.refl _, aL.refl _, aL.refl _, aL.refl _, aL.eq (congrArg aB (mD hg6 rfl).symm), trivial⟩⟩, hO⟩
      refine kY ?_
      exact ⟨⟨[(0, (.msl 1 lo0p 0 (List.length aA))), (1, (eI a1)), (2, (eI b2)), (6, (eI i6)), (7, (eI j7)), (30, (aB false))], by kernel_rfl, rfl, ⟨aL.refl _, aL.refl _, aL.refl _, aL.refl _, aL.refl _, aL.eq (congrArg aB (mD hg6 rfl).symm), trivial⟩⟩, hO⟩
    · rintro T H ⟨hT, hO⟩
      refine eY hT ?_
      clear hT
      refine aF (aH ?_)
      refine bO h2 (fun h2 => ?_) (fun h2 => ?_)
      · refine bS ?_
        refine bD [(0, (.msl 1 lo0p 0 (List.length aA))), (1, (eI a1)), (2, (eI b2)), (6, (eI i6)), (7, (eI j7))] ?_
        refine aN ?_
        refine cI 3 ?_
        refine gU (gW []) aC 18 ?_
        obtain ⟨c8, h2⟩ := aY h2
        refine cF 9 [0 ≤ (wR (j7 - (1 : Int))) ∧ (wR (j7 - (1 : Int))) < (lN aA)] ⟨c8, trivial⟩ ?_
        refine gJ 0 lo0p 1 (0 + Int.toNat (wR (j7 - (1 : Int)))) (eI (gD aA (wR (j7 - (1 : Int))))) (eI (gD aA (wR (j7 - (1 : Int))))) (List.map (eI) aA) hO (bU c8) ?_
        obtain ⟨c9, h2⟩ := aY h2
        refine cF 13 [0 ≤ j7 ∧ j7 < (lN aA)] ⟨c9, trivial⟩ ?_
        refine gJ 0 lo0p 1 (0 + Int.toNat j7) (eI (gD aA j7)) (eI (gD aA j7)) (List.map (eI) aA) hO (bU c9) ?_
        obtain ⟨c10, h2⟩ := aY h2
        refine cF 15 [0 ≤ j7 ∧ j7 < (lN aA)] ⟨c10, trivial⟩ ?_
        refine kD 0 lo0p 1 (0 + Int.toNat j7) (eI (gD aA j7)) (eI (gD aA (wR (j7 - (1 : Int))))) (List.map (eI) aA) [(lo0p, 1, List.map (eI) (List.set aA (Int.toNat j7) (gD aA (wR (j7 - (1 : Int))))))] hO (bU c10) (by simp only [List.set, gQ]) ?_
        intro H hO
        replace hN : List.length (List.set aA (Int.toNat j7) (gD aA (wR (j7 - (1 : Int))))) = N0 := by simpa using hN
        obtain ⟨c11, h2⟩ := aY h2
        refine cF 17 [0 ≤ (wR (j7 - (1 : Int))) ∧ (wR (j7 - (1 : Int))) < (lN aA)] ⟨c11, trivial⟩ ?_
        refine kD 0 lo0p 1 (0 + Int.toNat (wR (j7 - (1 : Int)))) (eI (gD (List.set aA (Int.toNat j7) (gD aA (wR (j7 - (1 : Int))))) (wR (j7 - (1 : Int))))) (eI (gD aA j7)) (List.map (eI) (List.set aA (Int.toNat j7) (gD aA (wR (j7 - (1 : Int)))))) [(lo0p, 1, List.map (eI) (List.set (List.set aA (Int.toNat j7) (gD aA (wR (j7 - (1 : Int))))) (Int.toNat (wR (j7 - (1 : Int)))) (gD aA j7)))] hO (lP c11 (by simp [])) (by simp only [List.set, gQ]) ?_
        intro H hO
        replace hN : List.length (List.set (List.set aA (Int.toNat j7) (gD aA (wR (j7 - (1 : Int))))) (Int.toNat (wR (j7 - (1 : Int)))) (gD aA j7)) = N0 := by simpa using hN
        refine mF (by kernel_rfl) ?_
        refine eY (l := [(0, (.msl 1 lo0p 0 (List.length (List.set (List.set aA (Int.toNat j7) (gD aA (wR (j7 - (1 : Int))))) (Int.toNat (wR (j7 - (1 : Int)))) (gD aA j7))))), (1, (eI a1)), (2, (eI b2)), (6, (eI i6)), (7, (eI j7))]) ⟨[(0, (.msl 1 lo0p 0 (List.length aA))), (1, (eI a1)), (2, (eI b2)), (6, (eI i6)), (7, (eI j7))], by kernel_rfl, rfl, ⟨aL.eq (by simp []), aL.refl _, aL.refl _, aL.refl _, aL.refl _, trivial⟩⟩ ?_
        refine aF (aU (aH (?_)))
        refine aP aC 3 ?_
        refine bB ?_
        exact aF (aH (⟨rfl, _, (oI h2).symm, .eq (by kernel_rfl), hO, hN⟩))
      refine jJ 2 ?_
      obtain rfl := oI h2
      obtain rfl : _ = rr1 := ho1
      replace h1 : fN aA a1 b2 i6 = some out1 := h1
      exact aF (aV (aV (cH (aU (aH (⟨rfl, _, .eq (by kernel_rfl), hO, hN, h1⟩))))))
  refine jJ 0 ?_
  obtain rfl := oI h1
  obtain rfl : _ = rr0 := ho0
  replace h0 : some aA = some r := h0
  obtain rfl := oI h0
  exact aF (aV (aV (cH (tI (x := (.tup [])) (by kernel_rfl) (aL.refl _) ⟨rfl, hO.ext, hO.at 0 (by kernel_rfl), by first | rfl | (simp only [List.length_map]; exact hN.trans hN0)⟩))))

theorem nW (lo0p : Nat) (aA : (List Int)) (lo1 : Int) (hi2 : Int) (aZ : Int) (r : List Int) (h0 : eV aA lo1 hi2 aZ = some r) : lW Try.prog 100 lo0p 1 (List.map (eI) aA) (List.map (eI) r) [(.msl 1 lo0p 0 (List.length aA)), (eI lo1), (eI hi2), (eI aZ)] (.tup []) := by
  intro H0 hl0
  refine dP Try.func100 ?_
  have hO := aJ.rI hl0
  clear hl0
  obtain ⟨N0, hN0⟩ : ∃ n, n = List.length aA := ⟨_, rfl⟩
  have hN : List.length aA = N0 := hN0.symm
  unfold eV at h0
  refine aS aC 2 [1] [(8, (eI lo1))] ?_
  refine cI 0 ?_
  refine iD [(0, (.msl 1 lo0p 0 (List.length aA))), (2, (eI hi2)), (3, (eI aZ)), (8, (eI lo1))] ?_
  refine hY (fun T H => ∃ aA : List Int, ∃ bY : Int, Has T [(0, (.msl 1 lo0p 0 (List.length aA))), (2, (eI hi2)), (3, (eI aZ)), (8, (eI bY))] ∧ aJ ⟨H0, [lo0p], []⟩ H [(lo0p, 1, List.map (eI) aA)] ∧ List.length aA = N0 ∧ jT aA hi2 aZ bY = some r) ?_ ⟨aA, lo1, .eq (by kernel_rfl), hO, hN, h0⟩
  clear hO hN h0
  rintro T H ⟨aA, bY, hT, hO, hN, h0⟩
  refine bM hT ?_
  clear hT
  unfold jT at h0
  obtain ⟨rr0, hl0, h0⟩ := aT h0
  refine eK (by kernel_rfl) (fun (s : List Int × Int) T H => Has T [(0, (.msl 1 lo0p 0 (List.length s.1))), (2, (eI hi2)), (3, (eI aZ)), (8, (eI s.2))] ∧ aJ ⟨H0, [lo0p], []⟩ H [(lo0p, 1, List.map (eI) s.1)] ∧ List.length s.1 = N0) hl0 ⟨.eq (by kernel_rfl), hO, hN⟩ ?_
  clear hO hN
  rintro k0 s out1 T H ⟨hT, hO, hN⟩ h1 ho0
  obtain ⟨aA, bY⟩ := s
  replace h1 : cU hi2 aZ aA bY = some out1 := h1
  try dsimp only at hT
  refine bM hT ?_
  clear hT
  unfold cU at h1
  refine cI 1 ?_
  refine aS aC 4 [] [(9, (eI (wR ((wR ((2 : Int) * bY)) + (1 : Int)))))] ?_
  refine aN ?_
  refine aS aC 3 [] [(16, (aB (decide (hi2 ≤ (wR ((wR ((2 : Int) * bY)) + (1 : Int)))))))] ?_
  refine bO h1 (fun h1 => ?_) (fun h1 => ?_)
  · refine jJ 0 ?_
    obtain rfl := oI h1
    obtain rfl : _ = rr0 := ho0
    replace h0 : some aA = some r := h0
    obtain rfl := oI h0
    exact aF (aV (pS (by kernel_rfl) (aV (cH (tI (x := (.tup [])) (by kernel_rfl) (aL.refl _) ⟨rfl, hO.ext, hO.at 0 (by kernel_rfl), by first | rfl | (simp only [List.length_map]; exact hN.trans hN0)⟩)))))
  refine bS ?_
  refine bD [(0, (.msl 1 lo0p 0 (List.length aA))), (2, (eI hi2)), (3, (eI aZ)), (8, (eI bY)), (9, (eI (wR ((wR ((2 : Int) * bY)) + (1 : Int)))))] ?_
  refine iX (fun T H => ∃ aA : List Int, ∃ dN : Int, Has T [(0, (.msl 1 lo0p 0 (List.length aA))), (2, (eI hi2)), (3, (eI aZ)), (8, (eI bY)), (9, (eI dN))] ∧ aJ ⟨H0, [lo0p], []⟩ H [(lo0p, 1, List.map (eI) aA)] ∧ List.length aA = N0 ∧ fR aA hi2 aZ bY dN = some out1) ?_ ?_
  · clear hO hN h1
    rintro T H ⟨aA, dN, hT, hO, hN, h1⟩
    refine bM hT ?_
    clear hT
    unfold fR at h1
    refine aN ?_
    refine aN ?_
    refine gU (gW [51]) aC 14 ?_
    obtain ⟨c2, h1⟩ := aY h1
    refine cF 5 [0 ≤ (wR (aZ + bY)) ∧ (wR (aZ + bY)) < (lN aA)] ⟨c2, trivial⟩ ?_
    refine gJ 0 lo0p 1 (0 + Int.toNat (wR (aZ + bY))) (eI (gD aA (wR (aZ + bY)))) (eI (gD aA (wR (aZ + bY)))) (List.map (eI) aA) hO (bU c2) ?_
    obtain ⟨c3, h1⟩ := aY h1
    refine cF 11 [0 ≤ (wR (aZ + dN)) ∧ (wR (aZ + dN)) < (lN aA)] ⟨c3, trivial⟩ ?_
    refine gJ 0 lo0p 1 (0 + Int.toNat (wR (aZ + dN))) (eI (gD aA (wR (aZ + dN)))) (eI (gD aA (wR (aZ + dN)))) (List.map (eI) aA) hO (bU c3) ?_
    obtain ⟨x4, hx5, h1⟩ := aT h1
    refine xK (fD (gD aA (wR (aZ + bY))) (gD aA (wR (aZ + dN))) _ hx5) hO ?_
    intro H hO
    refine kY ?_
    refine cB [] [(52, (aB (!x4)))] ?_
    refine bO h1 (fun h1 => ?_) (fun h1 => ?_)
    · refine bK ?_
      obtain rfl := oI h1
      obtain rfl : _ = rr0 := ho0
      replace h0 : some aA = some r := h0
      obtain rfl := oI h0
      exact aF (aQ (bJ (aQ (bJ (lA (x := (.tup [])) (by kernel_rfl) (aL.refl _) ⟨rfl, hO.ext, hO.at 0 (by kernel_rfl), by first | rfl | (simp only [List.length_map]; exact hN.trans hN0)⟩)))))
    refine bS ?_
    refine bD [(0, (.msl 1 lo0p 0 (List.length aA))), (2, (eI hi2)), (3, (eI aZ)), (8, (eI bY)), (9, (eI dN))] ?_
    refine aN ?_
    refine gU (gW []) aC 24 ?_
    obtain ⟨c8, h1⟩ := aY h1
    refine cF 13 [0 ≤ (wR (aZ + dN)) ∧ (wR (aZ + dN)) < (lN aA)] ⟨c8, trivial⟩ ?_
    refine gJ 0 lo0p 1 (0 + Int.toNat (wR (aZ + dN))) (eI (gD aA (wR (aZ + dN)))) (eI (gD aA (wR (aZ + dN)))) (List.map (eI) aA) hO (bU c8) ?_
    obtain ⟨c9, h1⟩ := aY h1
    refine cF 19 [0 ≤ (wR (aZ + bY)) ∧ (wR (aZ + bY)) < (lN aA)] ⟨c9, trivial⟩ ?_
    refine gJ 0 lo0p 1 (0 + Int.toNat (wR (aZ + bY))) (eI (gD aA (wR (aZ + bY)))) (eI (gD aA (wR (aZ + bY)))) (List.map (eI) aA) hO (bU c9) ?_
    obtain ⟨c10, h1⟩ := aY h1
    refine cF 21 [0 ≤ (wR (aZ + bY)) ∧ (wR (aZ + bY)) < (lN aA)] ⟨c10, trivial⟩ ?_
    refine kD 0 lo0p 1 (0 + Int.toNat (wR (aZ + bY))) (eI (gD aA (wR (aZ + bY)))) (eI (gD aA (wR (aZ + dN)))) (List.map (eI) aA) [(lo0p, 1, List.map (eI) (List.set aA (Int.toNat (wR (aZ + bY))) (gD aA (wR (aZ + dN)))))] hO (bU c10) (by simp only [List.set, gQ]) ?_
    intro H hO
    replace hN : List.length (List.set aA (Int.toNat (wR (aZ + bY))) (gD aA (wR (aZ + dN)))) = N0 := by simpa using hN
    obtain ⟨c11, h1⟩ := aY h1
    refine cF 23 [0 ≤ (wR (aZ + dN)) ∧ (wR (aZ + dN)) < (lN aA)] ⟨c11, trivial⟩ ?_
    refine kD 0 lo0p 1 (0 + Int.toNat (wR (aZ + dN))) (eI (gD (List.set aA (Int.toNat (wR (aZ + bY))) (gD aA (wR (aZ + dN)))) (wR (aZ + dN)))) (eI (gD aA (wR (aZ + bY)))) (List.map (eI) (List.set aA (Int.toNat (wR (aZ + bY))) (gD aA (wR (aZ + dN))))) [(lo0p, 1, List.map (eI) (List.set (List.set aA (Int.toNat (wR (aZ + bY))) (gD aA (wR (aZ + dN)))) (Int.toNat (wR (aZ + dN))) (gD aA (wR (aZ + bY)))))] hO (lP c11 (by simp [])) (by simp only [List.set, gQ]) ?_
    intro H hO
    replace hN : List.length (List.set (List.set aA (Int.toNat (wR (aZ + bY))) (gD aA (wR (aZ + dN)))) (Int.toNat (wR (aZ + dN))) (gD aA (wR (aZ + bY)))) = N0 := by simpa using hN
    refine mF (by kernel_rfl) ?_
    refine eY (l := [(0, (.msl 1 lo0p 0 (List.length (List.set (List.set aA (Int.toNat (wR (aZ + bY))) (gD aA (wR (aZ + dN)))) (Int.toNat (wR (aZ + dN))) (gD aA (wR (aZ + bY))))))), (2, (eI hi2)), (3, (eI aZ)), (9, (eI dN))]) ⟨[(0, (.msl 1 lo0p 0 (List.length aA))), (2, (eI hi2)), (3, (eI aZ)), (9, (eI dN))], by kernel_rfl, rfl, ⟨aL.eq (by simp []), aL.refl _, aL.refl _, aL.refl _, trivial⟩⟩ ?_
    refine aF (aH (?_))
    refine aP aC 2 ?_
    refine bB ?_
    exact aF (aU (aH (⟨rfl, _, (oI h1).symm, .eq (by kernel_rfl), hO, hN⟩)))
  refine aN ?_
  obtain ⟨c12, h1⟩ := aY h1
  obtain ⟨c13, h1⟩ := aY h1
  obtain ⟨x14, hx15, h1⟩ := aT h1
  refine gU (gW []) aC 20 ?_
  refine pG (K := fun T H => Has (lift T) [(0, (.msl 1 lo0p 0 (List.length aA))), (2, (eI hi2)), (3, (eI aZ)), (8, (eI bY)), (9, (eI (wR ((wR ((2 : Int) * bY)) + (1 : Int))))), (36, (aB ((decide ((wR ((wR ((wR ((2 : Int) * bY)) + (1 : Int))) + (1 : Int))) < hi2)) && x14)))] ∧ aJ ⟨H0, [lo0p], []⟩ H [(lo0p, 1, List.map (eI) aA)]) ?_ ?_
  · refine lK 5 ?_
    refine oG (t := 21) (e := decide ((wR ((wR ((wR ((2 : Int) * bY)) + (1 : Int))) + (1 : Int))) < hi2)) (by kernel_rfl) (fun hg16 => ?_) (fun hg16 => ?_)
    · refine cF 10 [0 ≤ (wR (aZ + (wR ((wR ((2 : Int) * bY)) + (1 : Int))))) ∧ (wR (aZ + (wR ((wR ((2 : Int) * bY)) + (1 : Int))))) < (lN aA)] ⟨(c12 hg16), trivial⟩ ?_
      refine iZ 0 lo0p 1 (0 + Int.toNat (wR (aZ + (wR ((wR ((2 : Int) * bY)) + (1 : Int)))))) (eI (gD aA (wR (aZ + (wR ((wR ((2 : Int) * bY)) + (1 : Int))))))) (eI (gD aA (wR (aZ + (wR ((wR ((2 : Int) * bY)) + (1 : Int))))))) (List.map (eI) aA) (by kernel_rfl) (by kernel_rfl) (by kernel_rfl) hO (by kernel_rfl) (bU (c12 hg16)) ?_
      refine cF 17 [0 ≤ (wR ((wR (aZ + (wR ((wR ((2 : Int) * bY)) + (1 : Int))))) + (1 : Int))) ∧ (wR ((wR (aZ + (wR ((wR ((2 : Int) * bY)) + (1 : Int))))) + (1 : Int))) < (lN aA)] ⟨(c13 hg16), trivial⟩ ?_
      refine iZ 0 lo0p 1 (0 + Int.toNat (wR ((wR (aZ + (wR ((wR ((2 : Int) * bY)) + (1 : Int))))) + (1 : Int)))) (eI (gD aA (wR ((wR (aZ + (wR ((wR ((2 : Int) * bY)) + (1 : Int))))) + (1 : Int))))) (eI (gD aA (wR ((wR (aZ + (wR ((wR ((2 : Int) * bY)) + (1 : Int))))) + (1 : Int))))) (List.map (eI) aA) (by kernel_rfl) (by kernel_rfl) (by kernel_rfl) hO (by kernel_rfl) (bU (c13 hg16)) ?_
      refine nX 84 [(eI (gD aA (wR (aZ + (wR ((wR ((2 : Int) * bY)) + (1 : Int))))))), (eI (gD aA (wR ((wR (aZ + (wR ((wR ((2 : Int) * bY)) + (1 : Int))))) + (1 : Int)))))] (aB x14) (by kernel_rfl) (by kernel_rfl) (fD (gD aA (wR (aZ + (wR ((wR ((2 : Int) * bY)) + (1 : Int)))))) (gD aA (wR ((wR (aZ + (wR ((wR ((2 : Int) * bY)) + (1 : Int))))) + (1 : Int)))) _ (kO hx15 hg16)) hO ?_
      intro H hO
      refine kY ?_
      exact ⟨⟨[(0, (.msl 1 lo0p 0 (List.length aA))), (2, (eI hi2)), (3, (eI aZ)), (8, (eI bY)), (9, (eI (wR ((wR ((2 : Int) * bY)) + (1 : Int))))), (36, (aB x14))], by kernel_rfl, rfl, ⟨aL.refl _, aL.refl _, aL.refl _, aL.refl _, aL.refl _, aL.eq (congrArg aB (mD hg16 rfl).symm), trivial⟩⟩, hO⟩
    refine kY ?_
    exact ⟨⟨[(0, (.msl 1 lo0p 0 (List.length aA))), (2, (eI hi2)), (3, (eI aZ)), (8, (eI bY)), (9, (eI (wR ((wR ((2 : Int) * bY)) + (1 : Int))))), (36, (aB false))], by kernel_rfl, rfl, ⟨aL.refl _, aL.refl _, aL.refl _, aL.refl _, aL.refl _, aL.eq (congrArg aB (mD hg16 rfl).symm), trivial⟩⟩, hO⟩
  · rintro T H ⟨hT, hO⟩
    refine eY hT ?_
    clear hT
    refine aF (aH ?_)
    refine bO h1 (fun h1 => ?_) (fun h1 => ?_)
    · refine aP aC 3 ?_
      refine bB ?_
      exact aF (aH (⟨rfl, _, _, .eq (by kernel_rfl), hO, hN, h1⟩))
    refine bS ?_
    exact aF (aH (⟨rfl, _, _, .eq (by kernel_rfl), hO, hN, h1⟩))

theorem tZ (lo0p : Nat) (aA : (List Int)) (a1 : Int) (b2 : Int) (r : List Int) (h0 : iT aA a1 b2 = some r) : lW Try.prog 79 lo0p 1 (List.map (eI) aA) (List.map (eI) r) [(.msl 1 lo0p 0 (List.length aA)), (eI a1), (eI b2)] (.tup []) := by
  intro H0 hl0
  refine dP Try.func79 ?_
  have hO := aJ.rI hl0
  clear hl0
  obtain ⟨N0, hN0⟩ : ∃ n, n = List.length aA := ⟨_, rfl⟩
  have hN : List.length aA = N0 := hN0.symm
  unfold iT at h0
  refine aS aC 2 [] [(6, (eI a1))] ?_
  refine aS aC 1 [] [(7, (eI (0 : Int)))] ?_
  refine aS aC 4 [1, 2] [(8, (eI (wR (b2 - a1))))] ?_
  refine iX (fun T H => ∃ aA : List Int, ∃ bI : Int, ∃ lo7 : Int, ∃ hi8 : Int, Has T [(0, (.msl 1 lo0p 0 (List.length aA))), (6, (eI bI)), (7, (eI lo7)), (8, (eI hi8))] ∧ aJ ⟨H0, [lo0p], []⟩ H [(lo0p, 1, List.map (eI) aA)] ∧ List.length aA = N0 ∧ iK aA bI lo7 hi8 = some r) ?_ ?_
  · clear hO hN h0
    rintro T H ⟨aA, bI, lo7, hi8, hT, hO, hN, h0⟩
    refine bM hT ?_
    clear hT
    unfold iK at h0
    refine aS aC 3 [8] [(10, (eI (wR (hi8 - (1 : Int)))))] ?_
    refine cI 2 ?_
    refine iD [(0, (.msl 1 lo0p 0 (List.length aA))), (6, (eI bI)), (7, (eI lo7)), (10, (eI (wR (hi8 - (1 : Int)))))] ?_
    refine hY (fun T H => ∃ aA : List Int, ∃ i10 : Int, Has T [(0, (.msl 1 lo0p 0 (List.length aA))), (6, (eI bI)), (7, (eI lo7)), (10, (eI i10))] ∧ aJ ⟨H0, [lo0p], []⟩ H [(lo0p, 1, List.map (eI) aA)] ∧ List.length aA = N0 ∧ jU aA bI lo7 i10 = some r) ?_ ⟨aA, wR (hi8 - (1 : Int)), .eq (by kernel_rfl), hO, hN, h0⟩
    clear hO hN h0
    rintro T H ⟨aA, i10, hT, hO, hN, h0⟩
    refine bM hT ?_
    clear hT
    unfold jU at h0
    obtain ⟨rr0, hl0, h0⟩ := aT h0
    refine eK (by kernel_rfl) (fun (s : List Int × Int) T H => Has T [(0, (.msl 1 lo0p 0 (List.length s.1))), (6, (eI bI)), (7, (eI lo7)), (10, (eI s.2))] ∧ aJ ⟨H0, [lo0p], []⟩ H [(lo0p, 1, List.map (eI) s.1)] ∧ List.length s.1 = N0) hl0 ⟨.eq (by kernel_rfl), hO, hN⟩ ?_
    clear hO hN
    rintro k0 s out1 T H ⟨hT, hO, hN⟩ h1 ho0
    obtain ⟨aA, i10⟩ := s
    replace h1 : dQ bI lo7 aA i10 = some out1 := h1
    try dsimp only at hT
    refine bM hT ?_
    clear hT
    unfold dQ at h1
    refine aN ?_
    refine aS aC 2 [] [(30, (aB (decide ((0 : Int) ≤ i10))))] ?_
    refine bO h1 (fun h1 => ?_) (fun h1 => ?_)
    · refine bS ?_
      refine bD [(0, (.msl 1 lo0p 0 (List.length aA))), (6, (eI bI)), (7, (eI lo7)), (10, (eI i10))] ?_
      refine aN ?_
      refine cI 3 ?_
      refine aN ?_
      refine gU (gW []) aC 20 ?_
      obtain ⟨c2, h1⟩ := aY h1
      refine cF 11 [0 ≤ (wR (bI + i10)) ∧ (wR (bI + i10)) < (lN aA)] ⟨c2, trivial⟩ ?_
      refine gJ 0 lo0p 1 (0 + Int.toNat (wR (bI + i10))) (eI (gD aA (wR (bI + i10)))) (eI (gD aA (wR (bI + i10)))) (List.map (eI) aA) hO (bU c2) ?_
      obtain ⟨c3, h1⟩ := aY h1
      refine cF 15 [0 ≤ bI ∧ bI < (lN aA)] ⟨c3, trivial⟩ ?_
      refine gJ 0 lo0p 1 (0 + Int.toNat bI) (eI (gD aA bI)) (eI (gD aA bI)) (List.map (eI) aA) hO (bU c3) ?_
      obtain ⟨c4, h1⟩ := aY h1
      refine cF 17 [0 ≤ bI ∧ bI < (lN aA)] ⟨c4, trivial⟩ ?_
      refine kD 0 lo0p 1 (0 + Int.toNat bI) (eI (gD aA bI)) (eI (gD aA (wR (bI + i10)))) (List.map (eI) aA) [(lo0p, 1, List.map (eI) (List.set aA (Int.toNat bI) (gD aA (wR (bI + i10)))))] hO (bU c4) (by simp only [List.set, gQ]) ?_
      intro H hO
      replace hN : List.length (List.set aA (Int.toNat bI) (gD aA (wR (bI + i10)))) = N0 := by simpa using hN
      obtain ⟨c5, h1⟩ := aY h1
      refine cF 19 [0 ≤ (wR (bI + i10)) ∧ (wR (bI + i10)) < (lN aA)] ⟨c5, trivial⟩ ?_
      refine kD 0 lo0p 1 (0 + Int.toNat (wR (bI + i10))) (eI (gD (List.set aA (Int.toNat bI) (gD aA (wR (bI + i10)))) (wR (bI + i10)))) (eI (gD aA bI)) (List.map (eI) (List.set aA (Int.toNat bI) (gD aA (wR (bI + i10))))) [(lo0p, 1, List.map (eI) (List.set (List.set aA (Int.toNat bI) (gD aA (wR (bI + i10)))) (Int.toNat (wR (bI + i10))) (gD aA bI)))] hO (lP c5 (by simp [])) (by simp only [List.set, gQ]) ?_
      intro H hO
      replace hN : List.length (List.set (List.set aA (Int.toNat bI) (gD aA (wR (bI + i10)))) (Int.toNat (wR (bI + i10))) (gD aA bI)) = N0 := by simpa using hN
      refine mF (by kernel_rfl) ?_
      refine eY (l := [(0, (.msl 1 lo0p 0 (List.length (List.set (List.set aA (Int.toNat bI) (gD aA (wR (bI + i10)))) (Int.toNat (wR (bI + i10))) (gD aA bI))))), (6, (eI bI)), (7, (eI lo7)), (10, (eI i10))]) ⟨[(0, (.msl 1 lo0p 0 (List.length aA))), (6, (eI bI)), (7, (eI lo7)), (10, (eI i10))], by kernel_rfl, rfl, ⟨aL.eq (by simp []), aL.refl _, aL.refl _, aL.refl _, trivial⟩⟩ ?_
      refine aF (aH (?_))
      refine aP aC 5 ?_
      refine bN 4 ?_
      obtain ⟨x6, hx7, h1⟩ := aT h1
      refine tY [(lo0p, 1, List.map (eI) x6)] 0 (nW lo0p (List.set (List.set aA (Int.toNat bI) (gD aA (wR (bI + i10)))) (Int.toNat (wR (bI + i10))) (gD aA bI)) lo7 i10 bI _ hx7) hO ?_
      intro H hO hl8
      simp only [List.length_map] at hl8
      replace hN := hl8.trans hN
      refine dV ?_
      refine eY (l := [(0, (.msl 1 lo0p 0 (List.length x6))), (6, (eI bI)), (7, (eI lo7)), (10, (eI i10))]) ⟨[(0, (.msl 1 lo0p 0 (List.length (List.set (List.set aA (Int.toNat bI) (gD aA (wR (bI + i10)))) (Int.toNat (wR (bI + i10))) (gD aA bI))))), (6, (eI bI)), (7, (eI lo7)), (10, (eI i10))], by kernel_rfl, rfl, ⟨aL.eq (by simp [hl8]), aL.refl _, aL.refl _, aL.refl _, trivial⟩⟩ ?_
      refine aF (aU (aH (?_)))
      refine aP aC 3 ?_
      refine bB ?_
      exact aF (aH (⟨rfl, _, (oI h1).symm, .eq (by kernel_rfl), hO, hN⟩))
    refine jJ 2 ?_
    obtain rfl := oI h1
    obtain rfl : _ = rr0 := ho0
    replace h0 : some aA = some r := h0
    obtain rfl := oI h0
    exact aF (aV (aV (cH (tI (x := (.tup [])) (by kernel_rfl) (aL.refl _) ⟨rfl, hO.ext, hO.at 0 (by kernel_rfl), by first | rfl | (simp only [List.length_map]; exact hN.trans hN0)⟩))))
  refine aN ?_
  refine aP aC 4 ?_
  obtain ⟨c9, h0⟩ := aY h0
  refine rB [(2 : Int) ≠ 0] ⟨c9, trivial⟩ ?_
  refine cB [] [(9, (eI (wR (Int.tdiv (wR ((wR (b2 - a1)) - (1 : Int))) (2 : Int)))))] ?_
  refine cI 0 ?_
  refine iD [(0, (.msl 1 lo0p 0 (List.length aA))), (6, (eI a1)), (7, (eI (0 : Int))), (8, (eI (wR (b2 - a1)))), (9, (eI (wR (Int.tdiv (wR ((wR (b2 - a1)) - (1 : Int))) (2 : Int)))))] ?_
  refine hY (fun T H => ∃ aA : List Int, ∃ bI : Int, ∃ lo7 : Int, ∃ hi8 : Int, ∃ i9 : Int, Has T [(0, (.msl 1 lo0p 0 (List.length aA))), (6, (eI bI)), (7, (eI lo7)), (8, (eI hi8)), (9, (eI i9))] ∧ aJ ⟨H0, [lo0p], []⟩ H [(lo0p, 1, List.map (eI) aA)] ∧ List.length aA = N0 ∧ jV aA bI lo7 hi8 i9 = some r) ?_ ⟨aA, a1, (0 : Int), wR (b2 - a1), wR (Int.tdiv (wR ((wR (b2 - a1)) - (1 : Int))) (2 : Int)), .eq (by kernel_rfl), hO, hN, h0⟩
  clear hO hN h0
  rintro T H ⟨aA, bI, lo7, hi8, i9, hT, hO, hN, h0⟩
  refine bM hT ?_
  clear hT
  unfold jV at h0
  obtain ⟨rr0, hl0, h0⟩ := aT h0
  refine eK (by kernel_rfl) (fun (s : List Int × Int) T H => Has T [(0, (.msl 1 lo0p 0 (List.length s.1))), (6, (eI bI)), (7, (eI lo7)), (8, (eI hi8)), (9, (eI s.2))] ∧ aJ ⟨H0, [lo0p], []⟩ H [(lo0p, 1, List.map (eI) s.1)] ∧ List.length s.1 = N0) hl0 ⟨.eq (by kernel_rfl), hO, hN⟩ ?_
  clear hO hN
  rintro k0 s out1 T H ⟨hT, hO, hN⟩ h1 ho0
  obtain ⟨aA, i9⟩ := s
  replace h1 : dR bI lo7 hi8 aA i9 = some out1 := h1
  try dsimp only at hT
  refine bM hT ?_
  clear hT
  unfold dR at h1
  refine aN ?_
  refine aS aC 2 [] [(19, (aB (decide ((0 : Int) ≤ i9))))] ?_
  refine bO h1 (fun h1 => ?_) (fun h1 => ?_)
  · refine bS ?_
    refine bD [(0, (.msl 1 lo0p 0 (List.length aA))), (6, (eI bI)), (7, (eI lo7)), (8, (eI hi8)), (9, (eI i9))] ?_
    refine aN ?_
    refine cI 1 ?_
    refine aP aC 5 ?_
    refine bN 4 ?_
    obtain ⟨x11, hx12, h1⟩ := aT h1
    refine tY [(lo0p, 1, List.map (eI) x11)] 0 (nW lo0p aA i9 hi8 bI _ hx12) hO ?_
    intro H hO hl13
    simp only [List.length_map] at hl13
    replace hN := hl13.trans hN
    refine dV ?_
    refine eY (l := [(0, (.msl 1 lo0p 0 (List.length x11))), (6, (eI bI)), (7, (eI lo7)), (8, (eI hi8)), (9, (eI i9))]) ⟨[(0, (.msl 1 lo0p 0 (List.length aA))), (6, (eI bI)), (7, (eI lo7)), (8, (eI hi8)), (9, (eI i9))], by kernel_rfl, rfl, ⟨aL.eq (by simp [hl13]), aL.refl _, aL.refl _, aL.refl _, aL.refl _, trivial⟩⟩ ?_
    refine aF (aU (aH (?_)))
    refine aP aC 3 ?_
    refine bB ?_
    exact aF (aH (⟨rfl, _, (oI h1).symm, .eq (by kernel_rfl), hO, hN⟩))
  refine jJ 0 ?_
  obtain rfl := oI h1
  obtain rfl : _ = rr0 := ho0
  replace h0 : iK aA bI lo7 hi8 = some r := h0
  exact aF (aV (aV (cH (aH (⟨rfl, _, _, _, _, .eq (by kernel_rfl), hO, hN, h0⟩)))))

theorem wP (xO : Int) (r : Int) (h0 : kG xO = some r) : dS Try.prog 101 [(eI xO)] (cT .u64 r) := by
  intro H0
  refine dP Try.func101 ?_
  have hO := aJ.start H0
  unfold kG at h0
  refine aS aC 1 [] [] ?_
  refine aN ?_
  refine aP aC 5 ?_
  refine bN 2 ?_
  obtain ⟨x1, hx2, h0⟩ := aT h0
  refine eW (wU (IntKind.u64.wrap xO) _ hx2) hO ?_
  intro H hO
  obtain ⟨c4, h0⟩ := aY h0
  refine rB [0 ≤ x1] ⟨c4, trivial⟩ ?_
  refine bD [(2, (cT .u64 (IntKind.u64.wrap ((1 : Int) * 2 ^ (min (Int.toNat x1) 64)))))] ?_
  refine bK ?_
  obtain rfl := oI h0
  exact aF (Q_r hO)

theorem xF (lo0p : Nat) (r0 : Int) (r : (Int × Int)) (h0 : kP r0 = some r) : vJ Try.prog 102 [(.lp lo0p 0 0)] [(lo0p, 1, [(cT .u64 r0)])] (fun x L => x = (cT .u64 r.1) ∧ L = [(lo0p, 1, [(cT .u64 r.2)])]) := by
  intro F H0 hO
  obtain ⟨Fh, Fe, Fg⟩ := F
  refine dP Try.func102 ?_
  unfold kP at h0
  refine aS aC 1 [] [] ?_
  refine aN ?_
  refine gU (gW []) aC 10 ?_
  refine lK 2 ?_
  refine gJ 0 lo0p 1 0 (cT .u64 r0) (cT .u64 r0) [(cT .u64 r0)] hO rfl ?_
  refine lK 5 ?_
  refine gJ 0 lo0p 1 0 (cT .u64 r0) (cT .u64 r0) [(cT .u64 r0)] hO rfl ?_
  obtain ⟨c1, h0⟩ := aY h0
  refine cF 9 [0 ≤ (13 : Int)] ⟨c1, trivial⟩ ?_
  refine kD 0 lo0p 1 0 (cT .u64 r0) (cT .u64 (bH .xor .u64 r0 (IntKind.u64.wrap (r0 * 2 ^ (min (Int.toNat (13 : Int)) 64))))) [(cT .u64 r0)] [(lo0p, 1, [(cT .u64 (bH .xor .u64 r0 (IntKind.u64.wrap (r0 * 2 ^ (min (Int.toNat (13 : Int)) 64)))))])] hO rfl (by kernel_rfl) ?_
  intro H hO
  refine mF (by kernel_rfl) ?_
  refine cB [] [] ?_
  refine aN ?_
  refine gU (gW []) aC 10 ?_
  refine lK 2 ?_
  refine gJ 0 lo0p 1 0 (cT .u64 (bH .xor .u64 r0 (IntKind.u64.wrap (r0 * 2 ^ (min (Int.toNat (13 : Int)) 64))))) (cT .u64 (bH .xor .u64 r0 (IntKind.u64.wrap (r0 * 2 ^ (min (Int.toNat (13 : Int)) 64))))) [(cT .u64 (bH .xor .u64 r0 (IntKind.u64.wrap (r0 * 2 ^ (min (Int.toNat (13 : Int)) 64)))))] hO rfl ?_
  refine lK 5 ?_
  refine gJ 0 lo0p 1 0 (cT .u64 (bH .xor .u64 r0 (IntKind.u64.wrap (r0 * 2 ^ (min (Int.toNat (13 : Int)) 64))))) (cT .u64 (bH .xor .u64 r0 (IntKind.u64.wrap (r0 * 2 ^ (min (Int.toNat (13 : Int)) 64))))) [(cT .u64 (bH .xor .u64 r0 (IntKind.u64.wrap (r0 * 2 ^ (min (Int.toNat (13 : Int)) 64)))))] hO rfl ?_
  obtain ⟨c2, h0⟩ := aY h0
  refine cF 9 [0 ≤ (7 : Int)] ⟨c2, trivial⟩ ?_
  refine kD 0 lo0p 1 0 (cT .u64 (bH .xor .u64 r0 (IntKind.u64.wrap (r0 * 2 ^ (min (Int.toNat (13 : Int)) 64))))) (cT .u64 (bH .xor .u64 (bH .xor .u64 r0 (IntKind.u64.wrap (r0 * 2 ^ (min (Int.toNat (13 : Int)) 64)))) (Int.fdiv (bH .xor .u64 r0 (IntKind.u64.wrap (r0 * 2 ^ (min (Int.toNat (13 : Int)) 64)))) (2 ^ (min (Int.toNat (7 : Int)) 64))))) [(cT .u64 (bH .xor .u64 r0 (IntKind.u64.wrap (r0 * 2 ^ (min (Int.toNat (13 : Int)) 64)))))] [(lo0p, 1, [(cT .u64 (bH .xor .u64 (bH .xor .u64 r0 (IntKind.u64.wrap (r0 * 2 ^ (min (Int.toNat (13 : Int)) 64)))) (Int.fdiv (bH .xor .u64 r0 (IntKind.u64.wrap (r0 * 2 ^ (min (Int.toNat (13 : Int)) 64)))) (2 ^ (min (Int.toNat (7 : Int)) 64)))))])] hO rfl (by kernel_rfl) ?_
  intro H hO
  refine mF (by kernel_rfl) ?_
  refine cB [] [] ?_
  refine aN ?_
  refine gU (gW []) aC 10 ?_
  refine lK 2 ?_
  refine gJ 0 lo0p 1 0 (cT .u64 (bH .xor .u64 (bH .xor .u64 r0 (IntKind.u64.wrap (r0 * 2 ^ (min (Int.toNat (13 : Int)) 64)))) (Int.fdiv (bH .xor .u64 r0 (IntKind.u64.wrap (r0 * 2 ^ (min (Int.toNat (13 : Int)) 64)))) (2 ^ (min (Int.toNat (7 : Int)) 64))))) (cT .u64 (bH .xor .u64 (bH .xor .u64 r0 (IntKind.u64.wrap (r0 * 2 ^ (min (Int.toNat (13 : Int)) 64)))) (Int.fdiv (bH .xor .u64 r0 (IntKind.u64.wrap (r0 * 2 ^ (min (Int.toNat (13 : Int)) 64)))) (2 ^ (min (Int.toNat (7 : Int)) 64))))) [(cT .u64 (bH .xor .u64 (bH .xor .u64 r0 (IntKind.u64.wrap (r0 * 2 ^ (min (Int.toNat (13 : Int)) 64)))) (Int.fdiv (bH .xor .u64 r0 (IntKind.u64.wrap (r0 * 2 ^ (min (Int.toNat (13 : Int)) 64)))) (2 ^ (min (Int.toNat (7 : Int)) 64)))))] hO rfl ?_
  refine lK 5 ?_
  refine gJ 0 lo0p 1 0 (cT .u64 (bH .xor .u64 (bH .xor .u64 r0 (IntKind.u64.wrap (r0 * 2 ^ (min (Int.toNat (13 : Int)) 64)))) (Int.fdiv (bH .xor .u64 r0 (IntKind.u64.wrap (r0 * 2 ^ (min (Int.toNat (13 : Int)) 64)))) (2 ^ (min (Int.toNat (7 : Int)) 64))))) (cT .u64 (bH .xor .u64 (bH .xor .u64 r0 (IntKind.u64.wrap (r0 * 2 ^ (min (Int.toNat (13 : Int)) 64)))) (Int.fdiv (bH .xor .u64 r0 (IntKind.u64.wrap (r0 * 2 ^ (min (Int.toNat (13 : Int)) 64)))) (2 ^ (min (Int.toNat (7 : Int)) 64))))) [(cT .u64 (bH .xor .u64 (bH .xor .u64 r0 (IntKind.u64.wrap (r0 * 2 ^ (min (Int.toNat (13 : Int)) 64)))) (Int.fdiv (bH .xor .u64 r0 (IntKind.u64.wrap (r0 * 2 ^ (min (Int.toNat (13 : Int)) 64)))) (2 ^ (min (Int.toNat (7 : Int)) 64)))))] hO rfl ?_
  obtain ⟨c3, h0⟩ := aY h0
  refine cF 9 [0 ≤ (17 : Int)] ⟨c3, trivial⟩ ?_
  refine kD 0 lo0p 1 0 (cT .u64 (bH .xor .u64 (bH .xor .u64 r0 (IntKind.u64.wrap (r0 * 2 ^ (min (Int.toNat (13 : Int)) 64)))) (Int.fdiv (bH .xor .u64 r0 (IntKind.u64.wrap (r0 * 2 ^ (min (Int.toNat (13 : Int)) 64)))) (2 ^ (min (Int.toNat (7 : Int)) 64))))) (cT .u64 (bH .xor .u64 (bH .xor .u64 (bH .xor .u64 r0 (IntKind.u64.wrap (r0 * 2 ^ (min (Int.toNat (13 : Int)) 64)))) (Int.fdiv (bH .xor .u64 r0 (IntKind.u64.wrap (r0 * 2 ^ (min (Int.toNat (13 : Int)) 64)))) (2 ^ (min (Int.toNat (7 : Int)) 64)))) (IntKind.u64.wrap ((bH .xor .u64 (bH .xor .u64 r0 (IntKind.u64.wrap (r0 * 2 ^ (min (Int.toNat (13 : Int)) 64)))) (Int.fdiv (bH .xor .u64 r0 (IntKind.u64.wrap (r0 * 2 ^ (min (Int.toNat (13 : Int)) 64)))) (2 ^ (min (Int.toNat (7 : Int)) 64)))) * 2 ^ (min (Int.toNat (17 : Int)) 64))))) [(cT .u64 (bH .xor .u64 (bH .xor .u64 r0 (IntKind.u64.wrap (r0 * 2 ^ (min (Int.toNat (13 : Int)) 64)))) (Int.fdiv (bH .xor .u64 r0 (IntKind.u64.wrap (r0 * 2 ^ (min (Int.toNat (13 : Int)) 64)))) (2 ^ (min (Int.toNat (7 : Int)) 64)))))] [(lo0p, 1, [(cT .u64 (bH .xor .u64 (bH .xor .u64 (bH .xor .u64 r0 (IntKind.u64.wrap (r0 * 2 ^ (min (Int.toNat (13 : Int)) 64)))) (Int.fdiv (bH .xor .u64 r0 (IntKind.u64.wrap (r0 * 2 ^ (min (Int.toNat (13 : Int)) 64)))) (2 ^ (min (Int.toNat (7 : Int)) 64)))) (IntKind.u64.wrap ((bH .xor .u64 (bH .xor .u64 r0 (IntKind.u64.wrap (r0 * 2 ^ (min (Int.toNat (13 : Int)) 64)))) (Int.fdiv (bH .xor .u64 r0 (IntKind.u64.wrap (r0 * 2 ^ (min (Int.toNat (13 : Int)) 64)))) (2 ^ (min (Int.toNat (7 : Int)) 64)))) * 2 ^ (min (Int.toNat (17 : Int)) 64)))))])] hO rfl (by kernel_rfl) ?_
  intro H hO
  refine mF (by kernel_rfl) ?_
  refine cB [] [] ?_
  refine aN ?_
  refine aP aC 4 ?_
  refine bN 2 ?_
  refine mS 0 lo0p 1 0 (cT .u64 (bH .xor .u64 (bH .xor .u64 (bH .xor .u64 r0 (IntKind.u64.wrap (r0 * 2 ^ (min (Int.toNat (13 : Int)) 64)))) (Int.fdiv (bH .xor .u64 r0 (IntKind.u64.wrap (r0 * 2 ^ (min (Int.toNat (13 : Int)) 64)))) (2 ^ (min (Int.toNat (7 : Int)) 64)))) (IntKind.u64.wrap ((bH .xor .u64 (bH .xor .u64 r0 (IntKind.u64.wrap (r0 * 2 ^ (min (Int.toNat (13 : Int)) 64)))) (Int.fdiv (bH .xor .u64 r0 (IntKind.u64.wrap (r0 * 2 ^ (min (Int.toNat (13 : Int)) 64)))) (2 ^ (min (Int.toNat (7 : Int)) 64)))) * 2 ^ (min (Int.toNat (17 : Int)) 64))))) (cT .u64 (bH .xor .u64 (bH .xor .u64 (bH .xor .u64 r0 (IntKind.u64.wrap (r0 * 2 ^ (min (Int.toNat (13 : Int)) 64)))) (Int.fdiv (bH .xor .u64 r0 (IntKind.u64.wrap (r0 * 2 ^ (min (Int.toNat (13 : Int)) 64)))) (2 ^ (min (Int.toNat (7 : Int)) 64)))) (IntKind.u64.wrap ((bH .xor .u64 (bH .xor .u64 r0 (IntKind.u64.wrap (r0 * 2 ^ (min (Int.toNat (13 : Int)) 64)))) (Int.fdiv (bH .xor .u64 r0 (IntKind.u64.wrap (r0 * 2 ^ (min (Int.toNat (13 : Int)) 64)))) (2 ^ (min (Int.toNat (7 : Int)) 64)))) * 2 ^ (min (Int.toNat (17 : Int)) 64))))) [(cT .u64 (bH .xor .u64 (bH .xor .u64 (bH .xor .u64 r0 (IntKind.u64.wrap (r0 * 2 ^ (min (Int.toNat (13 : Int)) 64)))) (Int.fdiv (bH .xor .u64 r0 (IntKind.u64.wrap (r0 * 2 ^ (min (Int.toNat (13 : Int)) 64)))) (2 ^ (min (Int.toNat (7 : Int)) 64)))) (IntKind.u64.wrap ((bH .xor .u64 (bH .xor .u64 r0 (IntKind.u64.wrap (r0 * 2 ^ (min (Int.toNat (13 : Int)) 64)))) (Int.fdiv (bH .xor .u64 r0 (IntKind.u64.wrap (r0 * 2 ^ (min (Int.toNat (13 : Int)) 64)))) (2 ^ (min (Int.toNat (7 : Int)) 64)))) * 2 ^ (min (Int.toNat (17 : Int)) 64)))))] hO rfl ?_
  refine bB ?_
  refine bD [(0, (.lp lo0p 0 0)), (2, (cT .u64 (bH .xor .u64 (bH .xor .u64 (bH .xor .u64 r0 (IntKind.u64.wrap (r0 * 2 ^ (min (Int.toNat (13 : Int)) 64)))) (Int.fdiv (bH .xor .u64 r0 (IntKind.u64.wrap (r0 * 2 ^ (min (Int.toNat (13 : Int)) 64)))) (2 ^ (min (Int.toNat (7 : Int)) 64)))) (IntKind.u64.wrap ((bH .xor .u64 (bH .xor .u64 r0 (IntKind.u64.wrap (r0 * 2 ^ (min (Int.toNat (13 : Int)) 64)))) (Int.fdiv (bH .xor .u64 r0 (IntKind.u64.wrap (r0 * 2 ^ (min (Int.toNat (13 : Int)) 64)))) (2 ^ (min (Int.toNat (7 : Int)) 64)))) * 2 ^ (min (Int.toNat (17 : Int)) 64))))))] ?_
  refine bK ?_
  obtain rfl := oI h0
  exact aF (AY hO ⟨rfl, rfl⟩)

theorem sP (lo0p : Nat) (aA : (List Int)) (a1 : Int) (b2 : Int) (r : List Int) (h0 : fT aA a1 b2 = some r) : lW Try.prog 80 lo0p 1 (List.map (eI) aA) (List.map (eI) r) [(.msl 1 lo0p 0 (List.length aA)), (eI a1), (eI b2)] (.tup []) := by
  intro H0 hl0
  refine dP Try.func80 ?_
  have hO := aJ.rI hl0
  clear hl0
  obtain ⟨N0, hN0⟩ : ∃ n, n = List.length aA := ⟨_, rfl⟩
  have hN : List.length aA = N0 := hN0.symm
  unfold fT at h0
  refine aS aC 4 [2] [(6, (eI (wR (b2 - a1))))] ?_
  refine aS aC 2 [] [(15, (aB (decide ((8 : Int) ≤ (wR (b2 - a1))))))] ?_
  refine bO h0 (fun h0 => ?_) (fun h0 => ?_)
  · refine aN ?_
    refine aP aC 4 ?_
    refine bN 2 ?_
    refine kH 1 (cT .u64 0) (by kernel_rfl) (by kernel_rfl) hO ?_
    intro lo2 H hO
    refine iS 1 lo2 1 0 (cT .u64 0) (cT .u64 (IntKind.u64.wrap (wR (b2 - a1)))) [(cT .u64 0)] [(lo0p, 1, List.map (eI) aA), (lo2, 1, [(cT .u64 (IntKind.u64.wrap (wR (b2 - a1))))])] hO rfl (by kernel_rfl) ?_
    intro H hO
    refine dV ?_
    refine cB [15] [(7, (.lp lo2 0 0))] ?_
    refine aN ?_
    refine aP aC 3 ?_
    refine bN 1 ?_
    obtain ⟨x3, hx4, h0⟩ := aT h0
    refine eW (wP (wR (b2 - a1)) _ hx4) hO ?_
    intro H hO
    refine bB ?_
    refine cB [] [(8, (cT .u64 x3))] ?_
    refine aN ?_
    refine aP aC 7 ?_
    obtain ⟨c6, h0⟩ := aY h0
    refine rB [(4 : Int) ≠ 0] ⟨c6, trivial⟩ ?_
    refine bD [(0, (.msl 1 lo0p 0 (List.length aA))), (1, (eI a1)), (6, (eI (wR (b2 - a1)))), (7, (.lp lo2 0 0)), (8, (cT .u64 x3)), (9, (eI (wR ((wR (a1 + (wR ((wR (Int.tdiv (wR (b2 - a1)) (4 : Int))) * (2 : Int))))) - (1 : Int)))))] ?_
    refine cI 0 ?_
    refine iD [(0, (.msl 1 lo0p 0 (List.length aA))), (1, (eI a1)), (6, (eI (wR (b2 - a1)))), (7, (.lp lo2 0 0)), (8, (cT .u64 x3)), (9, (eI (wR ((wR (a1 + (wR ((wR (Int.tdiv (wR (b2 - a1)) (4 : Int))) * (2 : Int))))) - (1 : Int)))))] ?_
    refine hY (fun T H => ∃ aA : List Int, ∃ jG : Int, ∃ kM : Int, ∃ iE : Int, ∃ idx9 : Int, Has T [(0, (.msl 1 lo0p 0 (List.length aA))), (1, (eI a1)), (6, (eI jG)), (7, (.lp lo2 0 0)), (8, (cT .u64 iE)), (9, (eI idx9))] ∧ aJ ⟨H0, [lo0p], []⟩ H [(lo0p, 1, List.map (eI) aA), (lo2, 1, [(cT .u64 kM)])] ∧ List.length aA = N0 ∧ iR aA a1 jG kM iE idx9 = some r) ?_ ⟨aA, wR (b2 - a1), IntKind.u64.wrap (wR (b2 - a1)), x3, wR ((wR (a1 + (wR ((wR (Int.tdiv (wR (b2 - a1)) (4 : Int))) * (2 : Int))))) - (1 : Int)), .eq (by kernel_rfl), hO, hN, h0⟩
    clear hO hN h0
    rintro T H ⟨aA, jG, kM, iE, idx9, hT, hO, hN, h0⟩
    refine bM hT ?_
    clear hT
    unfold iR at h0
    obtain ⟨rr0, hl0, h0⟩ := aT h0
    refine eK (by kernel_rfl) (fun (s : List Int × Int × Int) T H => Has T [(0, (.msl 1 lo0p 0 (List.length s.1))), (1, (eI a1)), (6, (eI jG)), (7, (.lp lo2 0 0)), (8, (cT .u64 iE)), (9, (eI s.2.2))] ∧ aJ ⟨H0, [lo0p], []⟩ H [(lo0p, 1, List.map (eI) s.1), (lo2, 1, [(cT .u64 s.2.1)])] ∧ List.length s.1 = N0) hl0 ⟨.eq (by kernel_rfl), hO, hN⟩ ?_
    clear hO hN
    rintro k0 s out1 T H ⟨hT, hO, hN⟩ h1 ho0
    obtain ⟨aA, kM, idx9⟩ := s
    replace h1 : cP a1 jG iE aA kM idx9 = some out1 := h1
    try dsimp only at hT
    refine bM hT ?_
    clear hT
    unfold cP at h1
    refine aN ?_
    refine aN ?_
    refine aP aC 8 ?_
    obtain ⟨c7, h1⟩ := aY h1
    refine rB [(4 : Int) ≠ 0] ⟨c7, trivial⟩ ?_
    refine cB [] [(33, (aB (decide (idx9 ≤ (wR ((wR (a1 + (wR ((wR (Int.tdiv jG (4 : Int))) * (2 : Int))))) + (1 : Int)))))))] ?_
    refine bO h1 (fun h1 => ?_) (fun h1 => ?_)
    · refine bS ?_
      refine bD [(0, (.msl 1 lo0p 0 (List.length aA))), (1, (eI a1)), (6, (eI jG)), (7, (.lp lo2 0 0)), (8, (cT .u64 iE)), (9, (eI idx9))] ?_
      refine aN ?_
      refine cI 1 ?_
      refine aN ?_
      refine aP aC 6 ?_
      obtain ⟨x9, hx10, h1⟩ := aT h1
      refine xE [(lo0p, 1, List.map (eI) aA)] [1, 0] (xF lo2 kM _ hx10) hO ?_
      intro r11 L12 H hP13 hO
      obtain ⟨rfl, rfl⟩ := hP13
      replace hO : aJ ⟨H0, [lo0p], []⟩ H [(lo2, 1, [(cT .u64 x9.2)]), (lo0p, 1, List.map (eI) aA)] := hO
      refine bB ?_
      replace hO := hO.pick (L' := [(lo0p, 1, List.map (eI) aA), (lo2, 1, [(cT .u64 x9.2)])]) [1, 0] (by decide) (by kernel_rfl)
      refine cB [] [(10, (eI (wR (bH .and .u64 x9.1 (IntKind.u64.wrap (iE - (1 : Int)))))))] ?_
      refine iX (fun T H => ∃ aA : List Int, ∃ kM : Int, ∃ fB : Int, Has T [(0, (.msl 1 lo0p 0 (List.length aA))), (1, (eI a1)), (6, (eI jG)), (7, (.lp lo2 0 0)), (8, (cT .u64 iE)), (9, (eI idx9)), (10, (eI fB))] ∧ aJ ⟨H0, [lo0p], []⟩ H [(lo0p, 1, List.map (eI) aA), (lo2, 1, [(cT .u64 kM)])] ∧ List.length aA = N0 ∧ eN aA a1 jG kM iE idx9 fB = some out1) ?_ ?_
      · clear hO hN h1
        rintro T H ⟨aA, kM, fB, hT, hO, hN, h1⟩
        refine bM hT ?_
        clear hT
        unfold eN at h1
        refine gU (gW []) aC 20 ?_
        obtain ⟨c14, h1⟩ := aY h1
        refine cF 11 [0 ≤ (wR (a1 + fB)) ∧ (wR (a1 + fB)) < (lN aA)] ⟨c14, trivial⟩ ?_
        refine gJ 0 lo0p 1 (0 + Int.toNat (wR (a1 + fB))) (eI (gD aA (wR (a1 + fB)))) (eI (gD aA (wR (a1 + fB)))) (List.map (eI) aA) hO (bU c14) ?_
        obtain ⟨c15, h1⟩ := aY h1
        refine cF 15 [0 ≤ idx9 ∧ idx9 < (lN aA)] ⟨c15, trivial⟩ ?_
        refine gJ 0 lo0p 1 (0 + Int.toNat idx9) (eI (gD aA idx9)) (eI (gD aA idx9)) (List.map (eI) aA) hO (bU c15) ?_
        obtain ⟨c16, h1⟩ := aY h1
        refine cF 17 [0 ≤ idx9 ∧ idx9 < (lN aA)] ⟨c16, trivial⟩ ?_
        refine kD 0 lo0p 1 (0 + Int.toNat idx9) (eI (gD aA idx9)) (eI (gD aA (wR (a1 + fB)))) (List.map (eI) aA) [(lo0p, 1, List.map (eI) (List.set aA (Int.toNat idx9) (gD aA (wR (a1 + fB))))), (lo2, 1, [(cT .u64 kM)])] hO (bU c16) (by simp only [List.set, gQ]) ?_
        intro H hO
        replace hN : List.length (List.set aA (Int.toNat idx9) (gD aA (wR (a1 + fB)))) = N0 := by simpa using hN
        obtain ⟨c17, h1⟩ := aY h1
        refine cF 19 [0 ≤ (wR (a1 + fB)) ∧ (wR (a1 + fB)) < (lN aA)] ⟨c17, trivial⟩ ?_
        refine kD 0 lo0p 1 (0 + Int.toNat (wR (a1 + fB))) (eI (gD (List.set aA (Int.toNat idx9) (gD aA (wR (a1 + fB)))) (wR (a1 + fB)))) (eI (gD aA idx9)) (List.map (eI) (List.set aA (Int.toNat idx9) (gD aA (wR (a1 + fB))))) [(lo0p, 1, List.map (eI) (List.set (List.set aA (Int.toNat idx9) (gD aA (wR (a1 + fB)))) (Int.toNat (wR (a1 + fB))) (gD aA idx9))), (lo2, 1, [(cT .u64 kM)])] hO (lP c17 (by simp [])) (by simp only [List.set, gQ]) ?_
        intro H hO
        replace hN : List.length (List.set (List.set aA (Int.toNat idx9) (gD aA (wR (a1 + fB)))) (Int.toNat (wR (a1 + fB))) (gD aA idx9)) = N0 := by simpa using hN
        refine mF (by kernel_rfl) ?_
        refine eY (l := [(0, (.msl 1 lo0p 0 (List.length (List.set (List.set aA (Int.toNat idx9) (gD aA (wR (a1 + fB)))) (Int.toNat (wR (a1 + fB))) (gD aA idx9))))), (1, (eI a1)), (6, (eI jG)), (7, (.lp lo2 0 0)), (8, (cT .u64 iE)), (9, (eI idx9))]) ⟨[(0, (.msl 1 lo0p 0 (List.length aA))), (1, (eI a1)), (6, (eI jG)), (7, (.lp lo2 0 0)), (8, (cT .u64 iE)), (9, (eI idx9))], by kernel_rfl, rfl, ⟨aL.eq (by simp []), aL.refl _, aL.refl _, aL.refl _, aL.refl _, aL.refl _, trivial⟩⟩ ?_
        refine aF (aU (aH (?_)))
        refine aP aC 3 ?_
        refine bB ?_
        exact aF (aH (⟨rfl, _, (oI h1).symm, .eq (by kernel_rfl), hO, hN⟩))
      refine aS aC 3 [] [(43, (aB (decide (jG ≤ (wR (bH .and .u64 x9.1 (IntKind.u64.wrap (iE - (1 : Int)))))))))] ?_
      refine bO h1 (fun h1 => ?_) (fun h1 => ?_)
      · refine aP aC 4 ?_
        refine bB ?_
        exact aF (aH (⟨rfl, _, _, _, .eq (by kernel_rfl), hO, hN, h1⟩))
      refine bS ?_
      exact aF (aH (⟨rfl, _, _, _, .eq (by kernel_rfl), hO, hN, h1⟩))
    refine jJ 0 ?_
    replace hO := hO.pick (L' := [(lo0p, 1, List.map (eI) aA)]) [0] (by decide) (by kernel_rfl)
    obtain rfl := oI h1
    obtain rfl : _ = rr0 := ho0
    replace h0 : some aA = some r := h0
    obtain rfl := oI h0
    exact aF (aV (aV (cH (tI (x := (.tup [])) (by kernel_rfl) (aL.refl _) ⟨rfl, hO.ext, hO.at 0 (by kernel_rfl), by first | rfl | (simp only [List.length_map]; exact hN.trans hN0)⟩))))
  refine bS ?_
  obtain rfl := oI h0
  exact aF (tI (x := (.tup [])) (by kernel_rfl) (aL.refl _) ⟨rfl, hO.ext, hO.at 0 (by kernel_rfl), by first | rfl | (simp only [List.length_map]; exact hN.trans hN0)⟩)

theorem mI (lo0p : Nat) (aA : (List Int)) (a1 : Int) (b2 : Int) (lo3p : Nat) (pL : Int) (r : ((Int × Int) × Int)) (h0 : fG aA a1 b2 pL = some r) : vJ Try.prog 109 [(.msl 1 lo0p 0 (List.length aA)), (eI a1), (eI b2), (.lp lo3p 0 0)] [(lo0p, 1, List.map (eI) aA), (lo3p, 1, [(eI pL)])] (fun x L => x = (.tup [(eI r.1.1), (eI r.1.2)]) ∧ L = [(lo0p, 1, List.map (eI) aA), (lo3p, 1, [(eI r.2)])]) := by
  intro F H0 hO
  obtain ⟨Fh, Fe, Fg⟩ := F
  refine dP Try.func109 ?_
  unfold fG at h0
  refine aS aC 2 [] [] ?_
  refine aN ?_
  refine aN ?_
  refine gU (gW [18]) aC 9 ?_
  obtain ⟨c1, h0⟩ := aY h0
  refine cF 3 [0 ≤ b2 ∧ b2 < (lN aA)] ⟨c1, trivial⟩ ?_
  refine gJ 0 lo0p 1 (0 + Int.toNat b2) (eI (gD aA b2)) (eI (gD aA b2)) (List.map (eI) aA) hO (bU c1) ?_
  obtain ⟨c2, h0⟩ := aY h0
  refine cF 7 [0 ≤ a1 ∧ a1 < (lN aA)] ⟨c2, trivial⟩ ?_
  refine gJ 0 lo0p 1 (0 + Int.toNat a1) (eI (gD aA a1)) (eI (gD aA a1)) (List.map (eI) aA) hO (bU c2) ?_
  obtain ⟨x3, hx4, h0⟩ := aT h0
  refine xK (fD (gD aA b2) (gD aA a1) _ hx4) hO ?_
  intro H hO
  refine mF (by kernel_rfl) ?_
  refine cB [] [(18, (aB x3))] ?_
  refine bO h0 (fun h0 => ?_) (fun h0 => ?_)
  · refine aN ?_
    refine aP aC 6 ?_
    refine bN 2 ?_
    refine mS 1 lo3p 1 0 (eI pL) (eI pL) [(eI pL)] hO rfl ?_
    refine bN 5 ?_
    refine iS 1 lo3p 1 0 (eI pL) (eI (wR (pL + (1 : Int)))) [(eI pL)] [(lo0p, 1, List.map (eI) aA), (lo3p, 1, [(eI (wR (pL + (1 : Int))))])] hO rfl (by kernel_rfl) ?_
    intro H hO
    refine dV ?_
    refine cB [18] [] ?_
    refine aS aC 4 [1, 2] [(8, (eI b2)), (9, (eI a1))] ?_
    refine bK ?_
    obtain rfl := oI h0
    exact aF (aQ (AY hO ⟨rfl, rfl⟩))
  refine bS ?_
  refine bD [(0, (.msl 1 lo0p 0 (List.length aA))), (1, (eI a1)), (2, (eI b2)), (3, (.lp lo3p 0 0))] ?_
  refine aS aC 4 [1, 2] [(8, (eI a1)), (9, (eI b2))] ?_
  refine bK ?_
  obtain rfl := oI h0
  exact aF (AY hO ⟨rfl, rfl⟩)

theorem pK (lo0p : Nat) (aA : (List Int)) (a1 : Int) (b2 : Int) (c3 : Int) (lo4p : Nat) (AG : Int) (r : (Int × Int)) (h0 : gY aA a1 b2 c3 AG = some r) : vJ Try.prog 104 [(.msl 1 lo0p 0 (List.length aA)), (eI a1), (eI b2), (eI c3), (.lp lo4p 0 0)] [(lo0p, 1, List.map (eI) aA), (lo4p, 1, [(eI AG)])] (fun x L => x = (eI r.1) ∧ L = [(lo0p, 1, List.map (eI) aA), (lo4p, 1, [(eI r.2)])]) := by
  intro F H0 hO
  obtain ⟨Fh, Fe, Fg⟩ := F
  refine dP Try.func104 ?_
  unfold gY at h0
  refine aS aC 1 [] [] ?_
  refine aN ?_
  refine aP aC 10 ?_
  refine bN 4 ?_
  obtain ⟨x1, hx2, h0⟩ := aT h0
  refine xE [] [0, 1] (mI lo0p aA a1 b2 lo4p AG _ hx2) hO ?_
  intro r3 L4 H hP5 hO
  obtain ⟨rfl, rfl⟩ := hP5
  replace hO : aJ ⟨Fh, Fe, Fg⟩ H [(lo0p, 1, List.map (eI) aA), (lo4p, 1, [(eI x1.2)])] := hO
  refine bB ?_
  refine cB [1, 2] [(1, (eI x1.1.1)), (2, (eI x1.1.2))] ?_
  refine aN ?_
  refine aP aC 10 ?_
  refine bN 4 ?_
  obtain ⟨x6, hx7, h0⟩ := aT h0
  refine xE [] [0, 1] (mI lo0p aA x1.1.2 c3 lo4p x1.2 _ hx7) hO ?_
  intro r8 L9 H hP10 hO
  obtain ⟨rfl, rfl⟩ := hP10
  replace hO : aJ ⟨Fh, Fe, Fg⟩ H [(lo0p, 1, List.map (eI) aA), (lo4p, 1, [(eI x6.2)])] := hO
  refine bB ?_
  refine cB [2, 3] [(2, (eI x6.1.1))] ?_
  refine aN ?_
  refine aP aC 10 ?_
  refine bN 4 ?_
  obtain ⟨x11, hx12, h0⟩ := aT h0
  refine xE [] [0, 1] (mI lo0p aA x1.1.1 x6.1.1 lo4p x6.2 _ hx12) hO ?_
  intro r13 L14 H hP15 hO
  obtain ⟨rfl, rfl⟩ := hP15
  replace hO : aJ ⟨Fh, Fe, Fg⟩ H [(lo0p, 1, List.map (eI) aA), (lo4p, 1, [(eI x11.2)])] := hO
  refine bB ?_
  refine cB [1, 2] [(2, (eI x11.1.2))] ?_
  refine cN aC 2 [(0, (.msl 1 lo0p 0 (List.length aA))), (4, (.lp lo4p 0 0)), (10, (eI x11.1.2))] ?_
  refine bK ?_
  obtain rfl := oI h0
  exact aF (AY hO ⟨rfl, rfl⟩)

theorem kJ (lo0p : Nat) (aA : (List Int)) (a1 : Int) (lo2p : Nat) (zP : Int) (r : (Int × Int)) (h0 : dM aA a1 zP = some r) : vJ Try.prog 103 [(.msl 1 lo0p 0 (List.length aA)), (eI a1), (.lp lo2p 0 0)] [(lo0p, 1, List.map (eI) aA), (lo2p, 1, [(eI zP)])] (fun x L => x = (eI r.1) ∧ L = [(lo0p, 1, List.map (eI) aA), (lo2p, 1, [(eI r.2)])]) := by
  intro F H0 hO
  obtain ⟨Fh, Fe, Fg⟩ := F
  refine dP Try.func103 ?_
  unfold dM at h0
  refine aS aC 1 [] [] ?_
  refine aN ?_
  refine aP aC 9 ?_
  refine bN 7 ?_
  obtain ⟨x1, hx2, h0⟩ := aT h0
  refine xE [] [0, 1] (pK lo0p aA (wR (a1 - (1 : Int))) a1 (wR (a1 + (1 : Int))) lo2p zP _ hx2) hO ?_
  intro r3 L4 H hP5 hO
  obtain ⟨rfl, rfl⟩ := hP5
  replace hO : aJ ⟨Fh, Fe, Fg⟩ H [(lo0p, 1, List.map (eI) aA), (lo2p, 1, [(eI x1.2)])] := hO
  refine bB ?_
  refine cB [1] [(6, (eI x1.1))] ?_
  refine bK ?_
  obtain rfl := oI h0
  exact aF (AY hO ⟨rfl, rfl⟩)

theorem tC (lo0p : Nat) (aA : (List Int)) (a1 : Int) (b2 : Int) (r : (Int × Int)) (h0 : gP aA a1 b2 = some r) : vJ Try.prog 81 [(.msl 1 lo0p 0 (List.length aA)), (eI a1), (eI b2)] [(lo0p, 1, List.map (eI) aA)] (fun x L => x = (.tup [(eI r.1), (eI r.2)]) ∧ L = [(lo0p, 1, List.map (eI) aA)]) := by
  intro F H0 hO
  obtain ⟨Fh, Fe, Fg⟩ := F
  refine dP Try.func81 ?_
  unfold gP at h0
  refine aS aC 2 [] [] ?_
  refine aS aC 4 [2] [(8, (eI (wR (b2 - a1))))] ?_
  refine aN ?_
  refine aP aC 1 ?_
  refine kH 1 (eI 0) (by kernel_rfl) (by kernel_rfl) hO ?_
  intro lo1 H hO
  refine dV ?_
  refine cB [] [(9, (.lp lo1 0 0))] ?_
  refine aN ?_
  refine aP aC 6 ?_
  obtain ⟨c2, h0⟩ := aY h0
  refine rB [(4 : Int) ≠ 0] ⟨c2, trivial⟩ ?_
  refine cB [] [(10, (eI (wR (a1 + (wR ((wR (Int.tdiv (wR (b2 - a1)) (4 : Int))) * (1 : Int)))))))] ?_
  refine aN ?_
  refine aP aC 6 ?_
  obtain ⟨c3, h0⟩ := aY h0
  refine rB [(4 : Int) ≠ 0] ⟨c3, trivial⟩ ?_
  refine bD [(0, (.msl 1 lo0p 0 (List.length aA))), (1, (eI a1)), (8, (eI (wR (b2 - a1)))), (9, (.lp lo1 0 0)), (10, (eI (wR (a1 + (wR ((wR (Int.tdiv (wR (b2 - a1)) (4 : Int))) * (1 : Int))))))), (11, (eI (wR (a1 + (wR ((wR (Int.tdiv (wR (b2 - a1)) (4 : Int))) * (2 : Int)))))))] ?_
  refine aN ?_
  refine aP aC 6 ?_
  obtain ⟨c4, h0⟩ := aY h0
  refine rB [(4 : Int) ≠ 0] ⟨c4, trivial⟩ ?_
  refine cB [1] [(12, (eI (wR (a1 + (wR ((wR (Int.tdiv (wR (b2 - a1)) (4 : Int))) * (3 : Int)))))))] ?_
  refine iX (fun T H => ∃ lE : Int, ∃ j11 : Int, Has T [(0, (.msl 1 lo0p 0 (List.length aA))), (9, (.lp lo1 0 0)), (11, (eI j11))] ∧ aJ ⟨Fh, Fe, Fg⟩ H [(lo0p, 1, List.map (eI) aA), (lo1, 1, [(eI lE)])] ∧ eU aA lE j11 = some r) ?_ ?_
  · clear hO h0
    rintro T H ⟨lE, j11, hT, hO, h0⟩
    refine bM hT ?_
    clear hT
    unfold eU at h0
    refine aN ?_
    refine aP aC 1 ?_
    refine mS 1 lo1 1 0 (eI lE) (eI lE) [(eI lE)] hO rfl ?_
    refine dV ?_
    replace hO := hO.pick (L' := [(lo0p, 1, List.map (eI) aA)]) [0] (by decide) (by kernel_rfl)
    refine cB [9] [(49, (eI lE))] ?_
    refine cI 0 ?_
    refine aS aC 2 [] [(51, (aB (decide (lE = (0 : Int)))))] ?_
    refine bO h0 (fun h0 => ?_) (fun h0 => ?_)
    · refine aS aC 3 [11, 49, 51] [(6, (eI j11)), (7, (eI (1 : Int)))] ?_
      refine bK ?_
      obtain rfl := oI h0
      exact aF (bJ (AY hO ⟨rfl, rfl⟩))
    refine aS aC 2 [49, 51] [(54, (aB (decide (lE = (12 : Int)))))] ?_
    refine bO h0 (fun h0 => ?_) (fun h0 => ?_)
    · refine aS aC 3 [11, 54] [(6, (eI j11)), (7, (eI (2 : Int)))] ?_
      refine bK ?_
      obtain rfl := oI h0
      exact aF (bJ (AY hO ⟨rfl, rfl⟩))
    refine aS aC 3 [11, 54] [(6, (eI j11)), (7, (eI (0 : Int)))] ?_
    refine bK ?_
    obtain rfl := oI h0
    exact aF (bJ (AY hO ⟨rfl, rfl⟩))
  refine aS aC 2 [] [(32, (aB (decide ((8 : Int) ≤ (wR (b2 - a1))))))] ?_
  refine bO h0 (fun h0 => ?_) (fun h0 => ?_)
  · refine iX (fun T H => ∃ lE : Int, ∃ i10 : Int, ∃ j11 : Int, ∃ k12 : Int, Has T [(0, (.msl 1 lo0p 0 (List.length aA))), (9, (.lp lo1 0 0)), (10, (eI i10)), (11, (eI j11)), (12, (eI k12))] ∧ aJ ⟨Fh, Fe, Fg⟩ H [(lo0p, 1, List.map (eI) aA), (lo1, 1, [(eI lE)])] ∧ eT aA lE i10 j11 k12 = some r) ?_ ?_
    · clear hO h0
      rintro T H ⟨lE, i10, j11, k12, hT, hO, h0⟩
      refine bM hT ?_
      clear hT
      unfold eT at h0
      refine aP aC 6 ?_
      refine bN 4 ?_
      obtain ⟨x8, hx9, h0⟩ := aT h0
      refine xE [] [0, 1] (pK lo0p aA i10 j11 k12 lo1 lE _ hx9) hO ?_
      intro r10 L11 H hP12 hO
      obtain ⟨rfl, rfl⟩ := hP12
      replace hO : aJ ⟨Fh, Fe, Fg⟩ H [(lo0p, 1, List.map (eI) aA), (lo1, 1, [(eI x8.2)])] := hO
      refine bB ?_
      exact aF (aH (⟨rfl, _, _, .eq (by kernel_rfl), hO, h0⟩))
    refine aS aC 2 [8, 32] [(34, (aB (decide ((50 : Int) ≤ (wR (b2 - a1))))))] ?_
    refine bO h0 (fun h0 => ?_) (fun h0 => ?_)
    · refine aN ?_
      refine aP aC 4 ?_
      refine bN 2 ?_
      obtain ⟨x14, hx15, h0⟩ := aT h0
      refine xE [] [0, 1] (kJ lo0p aA (wR (a1 + (wR ((wR (Int.tdiv (wR (b2 - a1)) (4 : Int))) * (1 : Int))))) lo1 0 _ hx15) hO ?_
      intro r16 L17 H hP18 hO
      obtain ⟨rfl, rfl⟩ := hP18
      replace hO : aJ ⟨Fh, Fe, Fg⟩ H [(lo0p, 1, List.map (eI) aA), (lo1, 1, [(eI x14.2)])] := hO
      refine bB ?_
      refine cB [10, 34] [(10, (eI x14.1))] ?_
      refine aN ?_
      refine aP aC 4 ?_
      refine bN 2 ?_
      obtain ⟨x19, hx20, h0⟩ := aT h0
      refine xE [] [0, 1] (kJ lo0p aA (wR (a1 + (wR ((wR (Int.tdiv (wR (b2 - a1)) (4 : Int))) * (2 : Int))))) lo1 x14.2 _ hx20) hO ?_
      intro r21 L22 H hP23 hO
      obtain ⟨rfl, rfl⟩ := hP23
      replace hO : aJ ⟨Fh, Fe, Fg⟩ H [(lo0p, 1, List.map (eI) aA), (lo1, 1, [(eI x19.2)])] := hO
      refine bB ?_
      refine bD [(0, (.msl 1 lo0p 0 (List.length aA))), (9, (.lp lo1 0 0)), (10, (eI x14.1)), (11, (eI x19.1)), (12, (eI (wR (a1 + (wR ((wR (Int.tdiv (wR (b2 - a1)) (4 : Int))) * (3 : Int)))))))] ?_
      refine aP aC 4 ?_
      refine bN 2 ?_
      obtain ⟨x24, hx25, h0⟩ := aT h0
      refine xE [] [0, 1] (kJ lo0p aA (wR (a1 + (wR ((wR (Int.tdiv (wR (b2 - a1)) (4 : Int))) * (3 : Int))))) lo1 x19.2 _ hx25) hO ?_
      intro r26 L27 H hP28 hO
      obtain ⟨rfl, rfl⟩ := hP28
      replace hO : aJ ⟨Fh, Fe, Fg⟩ H [(lo0p, 1, List.map (eI) aA), (lo1, 1, [(eI x24.2)])] := hO
      refine bB ?_
      exact aF (aH (⟨rfl, _, _, _, _, .eq (by kernel_rfl), hO, h0⟩))
    refine bS ?_
    exact aF (aH (⟨rfl, _, _, _, _, .eq (by kernel_rfl), hO, h0⟩))
  refine bS ?_
  exact aF (aH (⟨rfl, _, _, .eq (by kernel_rfl), hO, h0⟩))

theorem tA (lo0p : Nat) (aA : (List Int)) (a1 : Int) (b2 : Int) (r : List Int) (h0 : gI aA a1 b2 = some r) : lW Try.prog 82 lo0p 1 (List.map (eI) aA) (List.map (eI) r) [(.msl 1 lo0p 0 (List.length aA)), (eI a1), (eI b2)] (.tup []) := by
  intro H0 hl0
  refine dP Try.func82 ?_
  have hO := aJ.rI hl0
  clear hl0
  obtain ⟨N0, hN0⟩ : ∃ n, n = List.length aA := ⟨_, rfl⟩
  have hN : List.length aA = N0 := hN0.symm
  unfold gI at h0
  refine aS aC 2 [1] [(6, (eI a1))] ?_
  refine aS aC 3 [2] [(7, (eI (wR (b2 - (1 : Int)))))] ?_
  refine cI 0 ?_
  refine iD [(0, (.msl 1 lo0p 0 (List.length aA))), (6, (eI a1)), (7, (eI (wR (b2 - (1 : Int)))))] ?_
  refine hY (fun T H => ∃ aA : List Int, ∃ i6 : Int, ∃ j7 : Int, Has T [(0, (.msl 1 lo0p 0 (List.length aA))), (6, (eI i6)), (7, (eI j7))] ∧ aJ ⟨H0, [lo0p], []⟩ H [(lo0p, 1, List.map (eI) aA)] ∧ List.length aA = N0 ∧ iV aA i6 j7 = some r) ?_ ⟨aA, a1, wR (b2 - (1 : Int)), .eq (by kernel_rfl), hO, hN, h0⟩
  clear hO hN h0
  rintro T H ⟨aA, i6, j7, hT, hO, hN, h0⟩
  refine bM hT ?_
  clear hT
  unfold iV at h0
  obtain ⟨rr0, hl0, h0⟩ := aT h0
  refine eK (by kernel_rfl) (fun (s : List Int × Int × Int) T H => Has T [(0, (.msl 1 lo0p 0 (List.length s.1))), (6, (eI s.2.1)), (7, (eI s.2.2))] ∧ aJ ⟨H0, [lo0p], []⟩ H [(lo0p, 1, List.map (eI) s.1)] ∧ List.length s.1 = N0) hl0 ⟨.eq (by kernel_rfl), hO, hN⟩ ?_
  clear hO hN
  rintro k0 s out1 T H ⟨hT, hO, hN⟩ h1 ho0
  obtain ⟨aA, i6, j7⟩ := s
  replace h1 : dA aA i6 j7 = some out1 := h1
  try dsimp only at hT
  refine bM hT ?_
  clear hT
  unfold dA at h1
  refine aN ?_
  refine aS aC 3 [] [(13, (aB (decide (i6 < j7))))] ?_
  refine bO h1 (fun h1 => ?_) (fun h1 => ?_)
  · refine bS ?_
    refine bD [(0, (.msl 1 lo0p 0 (List.length aA))), (6, (eI i6)), (7, (eI j7))] ?_
    refine cI 1 ?_
    refine aN ?_
    refine gU (gW []) aC 16 ?_
    obtain ⟨c2, h1⟩ := aY h1
    refine cF 7 [0 ≤ j7 ∧ j7 < (lN aA)] ⟨c2, trivial⟩ ?_
    refine gJ 0 lo0p 1 (0 + Int.toNat j7) (eI (gD aA j7)) (eI (gD aA j7)) (List.map (eI) aA) hO (bU c2) ?_
    obtain ⟨c3, h1⟩ := aY h1
    refine cF 11 [0 ≤ i6 ∧ i6 < (lN aA)] ⟨c3, trivial⟩ ?_
    refine gJ 0 lo0p 1 (0 + Int.toNat i6) (eI (gD aA i6)) (eI (gD aA i6)) (List.map (eI) aA) hO (bU c3) ?_
    obtain ⟨c4, h1⟩ := aY h1
    refine cF 13 [0 ≤ i6 ∧ i6 < (lN aA)] ⟨c4, trivial⟩ ?_
    refine kD 0 lo0p 1 (0 + Int.toNat i6) (eI (gD aA i6)) (eI (gD aA j7)) (List.map (eI) aA) [(lo0p, 1, List.map (eI) (List.set aA (Int.toNat i6) (gD aA j7)))] hO (bU c4) (by simp only [List.set, gQ]) ?_
    intro H hO
    replace hN : List.length (List.set aA (Int.toNat i6) (gD aA j7)) = N0 := by simpa using hN
    obtain ⟨c5, h1⟩ := aY h1
    refine cF 15 [0 ≤ j7 ∧ j7 < (lN aA)] ⟨c5, trivial⟩ ?_
    refine kD 0 lo0p 1 (0 + Int.toNat j7) (eI (gD (List.set aA (Int.toNat i6) (gD aA j7)) j7)) (eI (gD aA i6)) (List.map (eI) (List.set aA (Int.toNat i6) (gD aA j7))) [(lo0p, 1, List.map (eI) (List.set (List.set aA (Int.toNat i6) (gD aA j7)) (Int.toNat j7) (gD aA i6)))] hO (lP c5 (by simp [])) (by simp only [List.set, gQ]) ?_
    intro H hO
    replace hN : List.length (List.set (List.set aA (Int.toNat i6) (gD aA j7)) (Int.toNat j7) (gD aA i6)) = N0 := by simpa using hN
    refine mF (by kernel_rfl) ?_
    refine eY (l := [(0, (.msl 1 lo0p 0 (List.length (List.set (List.set aA (Int.toNat i6) (gD aA j7)) (Int.toNat j7) (gD aA i6))))), (6, (eI i6)), (7, (eI j7))]) ⟨[(0, (.msl 1 lo0p 0 (List.length aA))), (6, (eI i6)), (7, (eI j7))], by kernel_rfl, rfl, ⟨aL.eq (by simp []), aL.refl _, aL.refl _, trivial⟩⟩ ?_
    refine aF (aH (?_))
    refine aS aC 3 [6] [(6, (eI (wR (i6 + (1 : Int)))))] ?_
    refine aP aC 3 ?_
    refine bB ?_
    exact aF (aU (aH (⟨rfl, _, (oI h1).symm, .eq (by kernel_rfl), hO, hN⟩)))
  refine jJ 0 ?_
  obtain rfl := oI h1
  obtain rfl : _ = rr0 := ho0
  replace h0 : some aA = some r := h0
  obtain rfl := oI h0
  exact aF (aV (aV (cH (tI (x := (.tup [])) (by kernel_rfl) (aL.refl _) ⟨rfl, hO.ext, hO.at 0 (by kernel_rfl), by first | rfl | (simp only [List.length_map]; exact hN.trans hN0)⟩))))

end Go.Abs
