/- What the law HopLags stands on: the framework, the given functions as plain functions, their walks, and the plain laws; part 3. -/
import Derived.Test.YteecjdpicjpnfaaHopLagsZ2
set_option linter.unusedSimpArgs false
set_option linter.unusedVariables false
namespace Go.Abs
open Go
noncomputable def oS (a0 : (List aD)) (b1 : (List aD)) : Option Bool :=
  (jC a0 b1).bind fun x1 =>
  some x1

noncomputable def rI (r0 : (List aD)) : Option (List aD) :=
  bF (0 ≤ ((List.length r0 : Nat) : Int) ∧ (32 : Int) * ((List.length r0 : Nat) : Int) ≤ 281474976710656 ∧ ((List.length r0 : Nat) : Int) ≤ 9223372036854775807) <|
  bF ((List.length ([] : List aD) + List.length r0) * 32 ≤ 140737488355328 ∧ List.length ([] : List aD) + List.length r0 ≤ 9223372036854775807) <|
  some (([] : List aD) ++ r0)

noncomputable def mX {σ : Type} (cF : σ → (List aD) → (List aF) → Option (σ × Bool)) (sg : σ) (t1 : (List bE)) (i3 : Int) (r4 : (List aD)) (f5 : List aF) : Option ((σ × Int) ⊕ (σ ⊕ σ)) :=
  (rI r4).bind fun x7 =>
  (cF sg x7 f5).bind fun x10 =>
  cond (!x10.2)
  (some (.inr (.inr x10.1)))
  (some (.inl (x10.1, i3)))

noncomputable def iZ {σ : Type} (cF : σ → (List aD) → (List aF) → Option (σ × Bool)) (t1 : (List bE)) (r4 : (List aD)) (sg : σ) (i3 : Int) (f5 : List aF) : Option ((σ × Int × List aF) ⊕ ((σ × Int × List aF))) :=
  bF ((((decide (i3 < ((List.length t1 : Nat) : Int)))) = true → 0 ≤ i3 ∧ i3 < ((List.length t1 : Nat) : Int))) <|
  (dR (decide (i3 < ((List.length t1 : Nat) : Int))) (oS ((List.getD t1 (Int.toNat i3) default).Row) r4)).bind fun x16 =>
  cond ((decide (i3 < ((List.length t1 : Nat) : Int))) && x16)
  (bF (0 ≤ i3 ∧ i3 < ((List.length t1 : Nat) : Int)) <|
  bF (0 ≤ i3 ∧ i3 < ((List.length t1 : Nat) : Int)) <|
  bF ((List.length f5 + List.length ([aF.mk ((List.getD t1 (Int.toNat i3) default).At) ((List.getD t1 (Int.toNat i3) default).Net)])) * 16 ≤ 140737488355328 ∧ List.length f5 + List.length ([aF.mk ((List.getD t1 (Int.toNat i3) default).At) ((List.getD t1 (Int.toNat i3) default).Net)]) ≤ 9223372036854775807) <|
  some (.inl (sg, IntKind.i64.wrap (i3 + (1 : Int)), f5 ++ ([aF.mk ((List.getD t1 (Int.toNat i3) default).At) ((List.getD t1 (Int.toNat i3) default).Net)]))))
  (some (.inr (sg, i3, f5)))

noncomputable def oQ {σ : Type} (cF : σ → (List aD) → (List aF) → Option (σ × Bool)) (sg : σ) (t1 : (List bE)) (i3 : Int) (r4 : (List aD)) (f5 : List aF) : Option ((σ × Int) ⊕ (σ ⊕ σ)) :=
  (lp (fun s => iZ cF t1 r4 s.1 s.2.1 s.2.2) (sg, i3, f5)).bind (fun rr => mX cF rr.1 t1 rr.2.1 r4 rr.2.2)

noncomputable def iE {σ : Type} (cF : σ → (List aD) → (List aF) → Option (σ × Bool)) (t1 : (List bE)) (sg : σ) (i3 : Int) : Option ((σ × Int) ⊕ (σ ⊕ σ)) :=
  cond (decide (i3 < ((List.length t1 : Nat) : Int)))
  (bF (0 ≤ i3 ∧ i3 < ((List.length t1 : Nat) : Int)) <|
  oQ cF sg t1 i3 ((List.getD t1 (Int.toNat i3) default).Row) ([] : List aF))
  (some (.inr (.inl sg)))

noncomputable def oO {σ : Type} (cF : σ → (List aD) → (List aF) → Option (σ × Bool)) (sg : σ) (t1 : (List bE)) (i3 : Int) : Option σ :=
  (lp (fun s => iE cF t1 s.1 s.2) (sg, i3)).bind (Sum.elim (fun rr => some rr) (fun rr => some rr))

noncomputable def mA {σ : Type} (cF : σ → (List aD) → (List aF) → Option (σ × Bool)) (t1 : (List bE)) (sg0 : σ) : Option σ :=
  oO cF sg0 t1 (0 : Int)

noncomputable def eW (f1 : aD → Option Bool)  : Option Int :=
  some (-1 : Int)

noncomputable def gT (f1 : aD → Option Bool) (s0 : (List aD)) (t7 : Int) (t8 : Int) : Option ((Int) ⊕ (Unit ⊕ Int)) :=
  cond (decide (t8 < t7))
  (bF (0 ≤ t8 ∧ t8 < ((List.length s0 : Nat) : Int)) <|
  (f1 (List.getD s0 (Int.toNat t8) default)).bind fun x3 =>
  cond x3
  (some (.inr (.inr t8)))
  (some (.inl (IntKind.i64.wrap (t8 + (1 : Int))))))
  (some (.inr (.inl ())))

noncomputable def gR (f1 : aD → Option Bool) (s0 : (List aD)) (t7 : Int) (t8 : Int) : Option Int :=
  (lp (fun s => gT f1 s0 t7 s) t8).bind (Sum.elim (fun rr => eW f1 ) (fun rr => some rr))

noncomputable def gZ (s0 : (List aD)) (f1 : aD → Option Bool) : Option Int :=
  gR f1 s0 ((List.length s0 : Nat) : Int) (0 : Int)

noncomputable def eO (s0 : (List aD)) (f1 : aD → Option Bool) : Option Bool :=
  (gZ s0 f1).bind fun x1 =>
  some (decide ((0 : Int) ≤ x1))

noncomputable def kP (v0 : aD) : Option (bA × Bool) :=
  cond ((decide (v0.Kind = (1 : Int))) && (nL v0.Text (⟨#[]⟩ : ByteArray)))
  (some (bA.k_number v0.Num, true))
  (cond (((decide (v0.Kind = (2 : Int))) && (decide (v0.Num = (0 : Int)))) && (decide (((ByteArray.size v0.Text : Nat) : Int) ≤ (64 : Int))))
  (some (bA.k_words v0.Text, true))
  (some (bA.none_, false)))

noncomputable def sG (v0 : aD) : Option Bool :=
  (kP v0).bind fun (x1_0, x1_1) =>
  match x1_0 with
  | .none_ => (some x1_1)
  | .k_number y4 => (some x1_1)
  | .k_words y5 => (some x1_1)

noncomputable def sL (v0 : aD) : Option Bool :=
  (sG v0).bind fun x1 =>
  some (!x1)

noncomputable def qP (r0 : (List aD)) : Option Bool :=
  cond (decide ((8 : Int) < ((List.length r0 : Nat) : Int)))
  (some false)
  ((eO r0 (fun y0 => sL y0)).bind fun x2 =>
  some (!x2))

noncomputable def qD (t0 : (List aD)) : Option ((Int × (List aD))) :=
  some ((-1 : Int), t0)

noncomputable def eN {σ : Type} (f1 : σ → aD → Option (σ × Bool)) (sg : σ) : Option (σ × Int) :=
  some (sg, (-1 : Int))

noncomputable def bZ {σ : Type} (f1 : σ → aD → Option (σ × Bool)) (s0 : (List aD)) (t7 : Int) (sg : σ) (t8 : Int) : Option ((σ × Int) ⊕ (σ ⊕ (σ × Int))) :=
  cond (decide (t8 < t7))
  (bF (0 ≤ t8 ∧ t8 < ((List.length s0 : Nat) : Int)) <|
  (f1 sg (List.getD s0 (Int.toNat t8) default)).bind fun x3 =>
  cond x3.2
  (some (.inr (.inr (x3.1, t8))))
  (some (.inl (x3.1, IntKind.i64.wrap (t8 + (1 : Int))))))
  (some (.inr (.inl sg)))

noncomputable def gG {σ : Type} (f1 : σ → aD → Option (σ × Bool)) (sg : σ) (s0 : (List aD)) (t7 : Int) (t8 : Int) : Option (σ × Int) :=
  (lp (fun s => bZ f1 s0 t7 s.1 s.2) (sg, t8)).bind (Sum.elim (fun rr => eN f1 rr) (fun rr => some (rr.1, rr.2)))

noncomputable def gL {σ : Type} (s0 : (List aD)) (f1 : σ → aD → Option (σ × Bool)) (sg0 : σ) : Option (σ × Int) :=
  gG f1 sg0 s0 ((List.length s0 : Nat) : Int) (0 : Int)

noncomputable def jI (v0 : aD) (t1 : Int) (t2 : (List aD)) : Option (Bool × Int) :=
  bF (0 ≤ (IntKind.i64.wrap (t1 + (1 : Int))) ∧ (IntKind.i64.wrap (t1 + (1 : Int))) < ((List.length t2 : Nat) : Int)) <|
  some ((!((decide (v0.Kind = ((List.getD t2 (Int.toNat (IntKind.i64.wrap (t1 + (1 : Int)))) default).Kind))) && ((decide (v0.Num = ((List.getD t2 (Int.toNat (IntKind.i64.wrap (t1 + (1 : Int)))) default).Num))) && ((nL v0.Text ((List.getD t2 (Int.toNat (IntKind.i64.wrap (t1 + (1 : Int)))) default).Text)) && true)))), (IntKind.i64.wrap (t1 + (1 : Int))))

noncomputable def kK (x0 : Int) : Option Bool :=
  some (!decide (x0 = x0))

noncomputable def mO (x0 : Int) (y1 : Int) : Option Int :=
  (kK x0).bind fun x1 =>
  (kK y1).bind fun x4 =>
  cond x1
  (cond x4
  (some (0 : Int))
  (some (-1 : Int)))
  (cond x4
  (some (1 : Int))
  (cond (decide (x0 < y1))
  (some (-1 : Int))
  (cond (decide (y1 < x0))
  (some (1 : Int))
  (some (0 : Int)))))

noncomputable def jZ (x0 : Int) : Option Bool :=
  some (!decide (x0 = x0))

noncomputable def fI (x0 : Int) (y1 : Int) : Option Int :=
  (jZ x0).bind fun x1 =>
  (jZ y1).bind fun x4 =>
  cond x1
  (cond x4
  (some (0 : Int))
  (some (-1 : Int)))
  (cond x4
  (some (1 : Int))
  (cond (decide (x0 < y1))
  (some (-1 : Int))
  (cond (decide (y1 < x0))
  (some (1 : Int))
  (some (0 : Int)))))

noncomputable def jA (a0 : ByteArray) (b1 : ByteArray) : Option Int :=
  some (FU a0 b1)

noncomputable def lE (a0 : ByteArray) (b1 : ByteArray) : Option Int :=
  (jA a0 b1).bind fun x1 =>
  some x1

noncomputable def nI (a0 : aD) (b1 : aD) : Option Int :=
  (kP a0).bind fun (x1_0, x1_1) =>
  match x1_0 with
  | .none_ => ((kP b1).bind fun (x6_0, x6_1) =>
  match x6_0 with
  | .none_ => (cond ((!x1_1) || (!x6_1))
  (some (0 : Int))
  (none))
  | .k_number y9 => (cond ((!x1_1) || (!x6_1))
  (some (0 : Int))
  (some (1 : Int)))
  | .k_words y10 => (cond ((!x1_1) || (!x6_1))
  (some (0 : Int))
  (none)))
  | .k_number y4 => ((kP b1).bind fun (x23_0, x23_1) =>
  match x23_0 with
  | .none_ => (cond ((!x1_1) || (!x23_1))
  (some (0 : Int))
  (some (-1 : Int)))
  | .k_number y26 => (cond ((!x1_1) || (!x23_1))
  (some (0 : Int))
  ((fI y4 y26).bind fun x33 =>
  some x33))
  | .k_words y27 => (cond ((!x1_1) || (!x23_1))
  (some (0 : Int))
  (some (-1 : Int))))
  | .k_words y5 => ((kP b1).bind fun (x39_0, x39_1) =>
  match x39_0 with
  | .none_ => (cond ((!x1_1) || (!x39_1))
  (some (0 : Int))
  (none))
  | .k_number y42 => (cond ((!x1_1) || (!x39_1))
  (some (0 : Int))
  (some (1 : Int)))
  | .k_words y43 => (cond ((!x1_1) || (!x39_1))
  (some (0 : Int))
  ((lE y5 y43).bind fun x56 =>
  some x56)))

noncomputable def pF (a0 : (List aD)) (b1 : (List aD)) : Option Int :=
  (qP a0).bind fun x1 =>
  (dR (!(!x1)) (qP b1)).bind fun x4 =>
  cond ((!x1) || (!x4))
  (some (0 : Int))
  (bF (0 ≤ (if ((List.length b1 : Nat) : Int) < ((List.length a0 : Nat) : Int) then ((List.length b1 : Nat) : Int) else ((List.length a0 : Nat) : Int)) ∧ (if ((List.length b1 : Nat) : Int) < ((List.length a0 : Nat) : Int) then ((List.length b1 : Nat) : Int) else ((List.length a0 : Nat) : Int)) ≤ ((List.length a0 : Nat) : Int)) <|
  (qD b1).bind fun x9 =>
  (gL (List.take (Int.toNat (if ((List.length b1 : Nat) : Int) < ((List.length a0 : Nat) : Int) then ((List.length b1 : Nat) : Int) else ((List.length a0 : Nat) : Int))) a0) (fun st y0 => (jI y0 st x9.2).bind fun o => some (o.2, o.1)) x9.1).bind fun x12 =>
  cond (decide (x12.2 < (0 : Int)))
  ((mO ((List.length a0 : Nat) : Int) ((List.length b1 : Nat) : Int)).bind fun x15 =>
  some x15)
  (bF (0 ≤ x12.2 ∧ x12.2 < ((List.length a0 : Nat) : Int)) <|
  bF (0 ≤ x12.2 ∧ x12.2 < ((List.length b1 : Nat) : Int)) <|
  (nI (List.getD a0 (Int.toNat x12.2) default) (List.getD b1 (Int.toNat x12.2) default)).bind fun x20 =>
  some x20))

noncomputable def mZ (rD : (List aF) → Option Bool) (rN : (List bE)) (t4 : Bool) (mQ : (List aD)) (jL : Bool) (t14 : (List aD)) (t15 : (List aF)) : Option ((Bool × (List aD) × Bool) ⊕ (Bool × (List aD) × Bool)) :=
  (qP t14).bind fun x7 =>
  (dR (jL && (!(!x7))) (pF mQ t14)).bind fun x12 =>
  (dR (!((!x7) || (jL && (decide ((0 : Int) ≤ x12))))) (rD t15)).bind fun x15 =>
  cond (((!x7) || (jL && (decide ((0 : Int) ≤ x12)))) || (!x15))
  (some (.inr (false, mQ, jL)))
  (some (.inl (t4, t14, true)))

noncomputable def sY (rD : (List aF) → Option Bool) (t4 : Bool) (mQ : (List aD)) (jL : Bool) (rN : (List bE)) : Option Bool :=
  (mA (fun st t14 t15 => rnd (fun (s : Bool × (List aD) × Bool) => mZ rD rN s.1 s.2.1 s.2.2 t14 t15) st) rN (.inl (t4, mQ, jL))).bind (Sum.elim (fun (s : Bool × (List aD) × Bool) =>
  (some true))
  (fun (s : Bool × (List aD) × Bool) =>
  (some s.1)))

noncomputable def pR (l0 : (List bE)) (rD : (List aF) → Option Bool) : Option Bool :=
  cond (decide ((4096 : Int) < ((List.length l0 : Nat) : Int)))
  (some false)
  ((pU l0).bind fun x5 =>
  sY rD false ([]) false x5)

noncomputable def tY (n0 : Int) : Option Bool :=
  some ((decide (n0 ≤ (1048576 : Int))) && (decide ((-1048576 : Int) ≤ n0)))

noncomputable def sE  : Option Bool :=
  some true

noncomputable def kY (t9 : (List aF)) (t10 : Int) (nT : Int) (t11 : Int) : Option ((Int × Int) ⊕ (Unit ⊕ Bool)) :=
  cond (decide (t11 < t10))
  (bF (0 ≤ t11 ∧ t11 < ((List.length t9 : Nat) : Int)) <|
  (dR (!(((decide (((List.getD t9 (Int.toNat t11) default).At) ≤ nT)) || (decide ((1125899906842624 : Int) ≤ ((List.getD t9 (Int.toNat t11) default).At)))) || (decide (((List.getD t9 (Int.toNat t11) default).Net) = (0 : Int))))) (tY ((List.getD t9 (Int.toNat t11) default).Net))).bind fun x8 =>
  cond ((((decide (((List.getD t9 (Int.toNat t11) default).At) ≤ nT)) || (decide ((1125899906842624 : Int) ≤ ((List.getD t9 (Int.toNat t11) default).At)))) || (decide (((List.getD t9 (Int.toNat t11) default).Net) = (0 : Int)))) || (!x8))
  (some (.inr (.inr false)))
  (some (.inl ((List.getD t9 (Int.toNat t11) default).At, IntKind.i64.wrap (t11 + (1 : Int))))))
  (some (.inr (.inl ())))

noncomputable def tX (nT : Int) (t9 : (List aF)) (t10 : Int) (t11 : Int) : Option Bool :=
  (lp (fun s => kY t9 t10 s.1 s.2) (nT, t11)).bind (Sum.elim (fun rr => sE ) (fun rr => some rr))

noncomputable def mR (f0 : (List aF)) : Option Bool :=
  cond (decide ((1024 : Int) < ((List.length f0 : Nat) : Int)))
  (some false)
  (tX (-2 : Int) f0 ((List.length f0 : Nat) : Int) (0 : Int))

noncomputable def rO (l0 : (List bE)) : Option Bool :=
  (pR l0 (fun y0 => mR y0)).bind fun x1 =>
  some x1

noncomputable def pN (gP : Int) : Option Int :=
  some gP

noncomputable def lG (t24 : (List aF)) (t25 : Int) (v3 : Int) (gP : Int) (t26 : Int) : Option ((Int × Int × Int) ⊕ (Int)) :=
  cond (decide (t26 < t25))
  (bF (0 ≤ t26 ∧ t26 < ((List.length t24 : Nat) : Int)) <|
  some (.inl (IntKind.i64.wrap (v3 + ((List.getD t24 (Int.toNat t26) default).Net)), if (IntKind.i64.wrap (v3 + ((List.getD t24 (Int.toNat t26) default).Net))) < gP then (IntKind.i64.wrap (v3 + ((List.getD t24 (Int.toNat t26) default).Net))) else gP, IntKind.i64.wrap (t26 + (1 : Int)))))
  (some (.inr gP))

noncomputable def pM (v3 : Int) (gP : Int) (t24 : (List aF)) (t25 : Int) (t26 : Int) : Option Int :=
  (lp (fun s => lG t24 t25 s.1 s.2.1 s.2.2) (v3, gP, t26)).bind (fun rr => pN rr)

noncomputable def nH (f0 : (List aF)) (v3 : Int) (gP : Int) : Option Int :=
  pM v3 gP f0 ((List.length f0 : Nat) : Int) (0 : Int)

noncomputable def qO (f0 : (List aF)) : Option Int :=
  (mR f0).bind fun x1 =>
  cond ((!x1) || (decide (((List.length f0 : Nat) : Int) = (0 : Int))))
  (some (0 : Int))
  (bF (0 ≤ (0 : Int) ∧ (0 : Int) < ((List.length f0 : Nat) : Int)) <|
  cond (decide (((List.getD f0 (Int.toNat (0 : Int)) default).At) = (-1 : Int)))
  (bF (0 ≤ (0 : Int) ∧ (0 : Int) < ((List.length f0 : Nat) : Int)) <|
  nH f0 (0 : Int) ((List.getD f0 (Int.toNat (0 : Int)) default).Net))
  (nH f0 (0 : Int) (0 : Int)))

noncomputable def nX (f0 : (List aF)) : Option Bool :=
  (mR f0).bind fun x1 =>
  (dR x1 (qO f0)).bind fun x4 =>
  some (x1 && (decide ((0 : Int) ≤ x4)))

noncomputable def rC (l0 : (List bE)) : Option Bool :=
  (pR l0 (fun y0 => nX y0)).bind fun x1 =>
  some x1

noncomputable def sP (l0 : (List bE)) : Option ((List bE)) :=
  some l0

noncomputable def jX {σ : Type} (cF : σ → (List aD) → (List aF) → Option (σ × Bool)) (t9c0 : (List bE)) (sg : σ) (t10 : (List aD)) (t11 : (List aF)) : Option ((σ) ⊕ (σ)) :=
  (cF sg t10 t11).bind fun x7 =>
  cond (!x7.2)
  (some (.inr x7.1))
  (some (.inl x7.1))

noncomputable def nJ {σ : Type} (cF : σ → (List aD) → (List aF) → Option (σ × Bool)) (sg : σ) (t9c0 : (List bE)) : Option σ :=
  (mA (fun st t10 t11 => rnd (fun (s : σ) => jX cF t9c0 s t10 t11) st) t9c0 (.inl sg)).bind (Sum.elim (fun (s : σ) =>
  (some s))
  (fun (s : σ) =>
  (some s)))

noncomputable def mN {σ : Type} (cF : σ → (List aD) → (List aF) → Option (σ × Bool)) (t1 : (List bE)) (sg0 : σ) : Option σ :=
  (rO t1).bind fun x1 =>
  cond (!x1)
  (some sg0)
  ((pU t1).bind fun x5 =>
  nJ cF sg0 x5)

noncomputable def kW (x0 : Int) (n2 : Int) : Option Int :=
  bF (0 ≤ (IntKind.u8.wrap x0) ∧ (IntKind.u8.wrap x0) < ((ByteArray.size (⟨#[0, 1, 2, 2, 3, 3, 3, 3, 4, 4, 4, 4, 4, 4, 4, 4, 5, 5, 5, 5, 5, 5, 5, 5, 5, 5, 5, 5, 5, 5, 5, 5, 6, 6, 6, 6, 6, 6, 6, 6, 6, 6, 6, 6, 6, 6, 6, 6, 6, 6, 6, 6, 6, 6, 6, 6, 6, 6, 6, 6, 6, 6, 6, 6, 7, 7, 7, 7, 7, 7, 7, 7, 7, 7, 7, 7, 7, 7, 7, 7, 7, 7, 7, 7, 7, 7, 7, 7, 7, 7, 7, 7, 7, 7, 7, 7, 7, 7, 7, 7, 7, 7, 7, 7, 7, 7, 7, 7, 7, 7, 7, 7, 7, 7, 7, 7, 7, 7, 7, 7, 7, 7, 7, 7, 7, 7, 7, 7, 8, 8, 8, 8, 8, 8, 8, 8, 8, 8, 8, 8, 8, 8, 8, 8, 8, 8, 8, 8, 8, 8, 8, 8, 8, 8, 8, 8, 8, 8, 8, 8, 8, 8, 8, 8, 8, 8, 8, 8, 8, 8, 8, 8, 8, 8, 8, 8, 8, 8, 8, 8, 8, 8, 8, 8, 8, 8, 8, 8, 8, 8, 8, 8, 8, 8, 8, 8, 8, 8, 8, 8, 8, 8, 8, 8, 8, 8, 8, 8, 8, 8, 8, 8, 8, 8, 8, 8, 8, 8, 8, 8, 8, 8, 8, 8, 8, 8, 8, 8, 8, 8, 8, 8, 8, 8, 8, 8, 8, 8, 8, 8, 8, 8, 8, 8, 8, 8, 8, 8, 8, 8, 8, 8, 8, 8, 8, 8]⟩ : ByteArray) : Nat) : Int)) <|
  some (IntKind.i64.wrap (n2 + (IntKind.i64.wrap (bt (⟨#[0, 1, 2, 2, 3, 3, 3, 3, 4, 4, 4, 4, 4, 4, 4, 4, 5, 5, 5, 5, 5, 5, 5, 5, 5, 5, 5, 5, 5, 5, 5, 5, 6, 6, 6, 6, 6, 6, 6, 6, 6, 6, 6, 6, 6, 6, 6, 6, 6, 6, 6, 6, 6, 6, 6, 6, 6, 6, 6, 6, 6, 6, 6, 6, 7, 7, 7, 7, 7, 7, 7, 7, 7, 7, 7, 7, 7, 7, 7, 7, 7, 7, 7, 7, 7, 7, 7, 7, 7, 7, 7, 7, 7, 7, 7, 7, 7, 7, 7, 7, 7, 7, 7, 7, 7, 7, 7, 7, 7, 7, 7, 7, 7, 7, 7, 7, 7, 7, 7, 7, 7, 7, 7, 7, 7, 7, 7, 7, 8, 8, 8, 8, 8, 8, 8, 8, 8, 8, 8, 8, 8, 8, 8, 8, 8, 8, 8, 8, 8, 8, 8, 8, 8, 8, 8, 8, 8, 8, 8, 8, 8, 8, 8, 8, 8, 8, 8, 8, 8, 8, 8, 8, 8, 8, 8, 8, 8, 8, 8, 8, 8, 8, 8, 8, 8, 8, 8, 8, 8, 8, 8, 8, 8, 8, 8, 8, 8, 8, 8, 8, 8, 8, 8, 8, 8, 8, 8, 8, 8, 8, 8, 8, 8, 8, 8, 8, 8, 8, 8, 8, 8, 8, 8, 8, 8, 8, 8, 8, 8, 8, 8, 8, 8, 8, 8, 8, 8, 8, 8, 8, 8, 8, 8, 8, 8, 8, 8, 8, 8, 8, 8, 8, 8, 8, 8, 8]⟩ : ByteArray) (IntKind.u8.wrap x0)))))

noncomputable def kA (x0 : Int) (n2 : Int) : Option Int :=
  cond (decide ((256 : Int) ≤ x0))
  (bF (0 ≤ (8 : Int)) <|
  kW (Int.fdiv x0 (2 ^ (min (Int.toNat (8 : Int)) 64))) (IntKind.i64.wrap (n2 + (8 : Int))))
  (kW x0 n2)

noncomputable def jY (x0 : Int) (n2 : Int) : Option Int :=
  cond (decide ((65536 : Int) ≤ x0))
  (bF (0 ≤ (16 : Int)) <|
  kA (Int.fdiv x0 (2 ^ (min (Int.toNat (16 : Int)) 64))) (IntKind.i64.wrap (n2 + (16 : Int))))
  (kA x0 n2)

noncomputable def mJ (x0 : Int) : Option Int :=
  cond (decide ((4294967296 : Int) ≤ x0))
  (bF (0 ≤ (32 : Int)) <|
  jY (Int.fdiv x0 (2 ^ (min (Int.toNat (32 : Int)) 64))) (32 : Int))
  (jY x0 (0 : Int))

noncomputable def jM (x0 : Int) : Option Int :=
  (mJ x0).bind fun x2 =>
  some x2

noncomputable def cW (x0 : Int) (y1 : Int) : Option Bool :=
  (kK x0).bind fun x1 =>
  (dR x1 (kK y1)).bind fun x4 =>
  some ((x1 && (!x4)) || (decide (x0 < y1)))

noncomputable def fO (aA : List Int) (a1 : Int) (b2 : Int) (i6 : Int) : Option ((List Int × Int) ⊕ ((List Int))) :=
  some (.inl (aA, IntKind.i64.wrap (i6 + (1 : Int))))

noncomputable def eK (a1 : Int) (b2 : Int) (i6 : Int) (aA : List Int) (j7 : Int) : Option ((List Int × Int) ⊕ ((List Int))) :=
  bF ((((decide (a1 < j7))) = true → 0 ≤ j7 ∧ j7 < ((List.length aA : Nat) : Int))) <|
  bF ((((decide (a1 < j7))) = true → 0 ≤ (IntKind.i64.wrap (j7 - (1 : Int))) ∧ (IntKind.i64.wrap (j7 - (1 : Int))) < ((List.length aA : Nat) : Int))) <|
  (dR (decide (a1 < j7)) (cW (List.getD aA (Int.toNat j7) default) (List.getD aA (Int.toNat (IntKind.i64.wrap (j7 - (1 : Int)))) default))).bind fun x4 =>
  cond ((decide (a1 < j7)) && x4)
  (bF (0 ≤ (IntKind.i64.wrap (j7 - (1 : Int))) ∧ (IntKind.i64.wrap (j7 - (1 : Int))) < ((List.length aA : Nat) : Int)) <|
  bF (0 ≤ j7 ∧ j7 < ((List.length aA : Nat) : Int)) <|
  bF (0 ≤ j7 ∧ j7 < ((List.length aA : Nat) : Int)) <|
  bF (0 ≤ (IntKind.i64.wrap (j7 - (1 : Int))) ∧ (IntKind.i64.wrap (j7 - (1 : Int))) < ((List.length aA : Nat) : Int)) <|
  some (.inl (List.set (List.set aA (Int.toNat j7) (List.getD aA (Int.toNat (IntKind.i64.wrap (j7 - (1 : Int)))) default)) (Int.toNat (IntKind.i64.wrap (j7 - (1 : Int)))) (List.getD aA (Int.toNat j7) default), IntKind.i64.wrap (j7 - (1 : Int)))))
  (some (.inr aA))

noncomputable def iP (aA : List Int) (a1 : Int) (b2 : Int) (i6 : Int) (j7 : Int) : Option ((List Int × Int) ⊕ ((List Int))) :=
  (lp (fun s => eK a1 b2 i6 s.1 s.2) (aA, j7)).bind (fun rr => fO rr a1 b2 i6)

noncomputable def cX (a1 : Int) (b2 : Int) (aA : List Int) (i6 : Int) : Option ((List Int × Int) ⊕ ((List Int))) :=
  cond (decide (i6 < b2))
  (iP aA a1 b2 i6 i6)
  (some (.inr aA))

noncomputable def iN (aA : List Int) (a1 : Int) (b2 : Int) (i6 : Int) : Option (List Int) :=
  (lp (fun s => cX a1 b2 s.1 s.2) (aA, i6)).bind (fun rr => some rr)

noncomputable def fT (aA : (List Int)) (a1 : Int) (b2 : Int) : Option (List Int) :=
  iN aA a1 b2 (IntKind.i64.wrap (a1 + (1 : Int)))

noncomputable def fP (aA : List Int) (hi2 : Int) (aZ : Int) (bX : Int) (dM : Int) : Option ((List Int × Int) ⊕ ((List Int) ⊕ (List Int))) :=
  bF (0 ≤ (IntKind.i64.wrap (aZ + bX)) ∧ (IntKind.i64.wrap (aZ + bX)) < ((List.length aA : Nat) : Int)) <|
  bF (0 ≤ (IntKind.i64.wrap (aZ + dM)) ∧ (IntKind.i64.wrap (aZ + dM)) < ((List.length aA : Nat) : Int)) <|
  (cW (List.getD aA (Int.toNat (IntKind.i64.wrap (aZ + bX))) default) (List.getD aA (Int.toNat (IntKind.i64.wrap (aZ + dM))) default)).bind fun x4 =>
  cond (!x4)
  (some (.inr (.inr aA)))
  (bF (0 ≤ (IntKind.i64.wrap (aZ + dM)) ∧ (IntKind.i64.wrap (aZ + dM)) < ((List.length aA : Nat) : Int)) <|
  bF (0 ≤ (IntKind.i64.wrap (aZ + bX)) ∧ (IntKind.i64.wrap (aZ + bX)) < ((List.length aA : Nat) : Int)) <|
  bF (0 ≤ (IntKind.i64.wrap (aZ + bX)) ∧ (IntKind.i64.wrap (aZ + bX)) < ((List.length aA : Nat) : Int)) <|
  bF (0 ≤ (IntKind.i64.wrap (aZ + dM)) ∧ (IntKind.i64.wrap (aZ + dM)) < ((List.length aA : Nat) : Int)) <|
  some (.inl (List.set (List.set aA (Int.toNat (IntKind.i64.wrap (aZ + bX))) (List.getD aA (Int.toNat (IntKind.i64.wrap (aZ + dM))) default)) (Int.toNat (IntKind.i64.wrap (aZ + dM))) (List.getD aA (Int.toNat (IntKind.i64.wrap (aZ + bX))) default), dM)))

noncomputable def cT (hi2 : Int) (aZ : Int) (aA : List Int) (bX : Int) : Option ((List Int × Int) ⊕ ((List Int) ⊕ (List Int))) :=
  cond (decide (hi2 ≤ (IntKind.i64.wrap ((IntKind.i64.wrap ((2 : Int) * bX)) + (1 : Int)))))
  (some (.inr (.inl aA)))
  (bF ((((decide ((IntKind.i64.wrap ((IntKind.i64.wrap ((IntKind.i64.wrap ((2 : Int) * bX)) + (1 : Int))) + (1 : Int))) < hi2))) = true → 0 ≤ (IntKind.i64.wrap (aZ + (IntKind.i64.wrap ((IntKind.i64.wrap ((2 : Int) * bX)) + (1 : Int))))) ∧ (IntKind.i64.wrap (aZ + (IntKind.i64.wrap ((IntKind.i64.wrap ((2 : Int) * bX)) + (1 : Int))))) < ((List.length aA : Nat) : Int))) <|
  bF ((((decide ((IntKind.i64.wrap ((IntKind.i64.wrap ((IntKind.i64.wrap ((2 : Int) * bX)) + (1 : Int))) + (1 : Int))) < hi2))) = true → 0 ≤ (IntKind.i64.wrap ((IntKind.i64.wrap (aZ + (IntKind.i64.wrap ((IntKind.i64.wrap ((2 : Int) * bX)) + (1 : Int))))) + (1 : Int))) ∧ (IntKind.i64.wrap ((IntKind.i64.wrap (aZ + (IntKind.i64.wrap ((IntKind.i64.wrap ((2 : Int) * bX)) + (1 : Int))))) + (1 : Int))) < ((List.length aA : Nat) : Int))) <|
  (dR (decide ((IntKind.i64.wrap ((IntKind.i64.wrap ((IntKind.i64.wrap ((2 : Int) * bX)) + (1 : Int))) + (1 : Int))) < hi2)) (cW (List.getD aA (Int.toNat (IntKind.i64.wrap (aZ + (IntKind.i64.wrap ((IntKind.i64.wrap ((2 : Int) * bX)) + (1 : Int)))))) default) (List.getD aA (Int.toNat (IntKind.i64.wrap ((IntKind.i64.wrap (aZ + (IntKind.i64.wrap ((IntKind.i64.wrap ((2 : Int) * bX)) + (1 : Int))))) + (1 : Int)))) default))).bind fun x14 =>
  cond ((decide ((IntKind.i64.wrap ((IntKind.i64.wrap ((IntKind.i64.wrap ((2 : Int) * bX)) + (1 : Int))) + (1 : Int))) < hi2)) && x14)
  (fP aA hi2 aZ bX (IntKind.i64.wrap ((IntKind.i64.wrap ((IntKind.i64.wrap ((2 : Int) * bX)) + (1 : Int))) + (1 : Int))))
  (fP aA hi2 aZ bX (IntKind.i64.wrap ((IntKind.i64.wrap ((2 : Int) * bX)) + (1 : Int)))))

noncomputable def jU (aA : List Int) (hi2 : Int) (aZ : Int) (bX : Int) : Option (List Int) :=
  (lp (fun s => cT hi2 aZ s.1 s.2) (aA, bX)).bind (Sum.elim (fun rr => some rr) (fun rr => some rr))

noncomputable def eT (aA : (List Int)) (lo1 : Int) (hi2 : Int) (aZ : Int) : Option (List Int) :=
  jU aA hi2 aZ lo1

noncomputable def dN (bI : Int) (lo7 : Int) (aA : List Int) (i10 : Int) : Option ((List Int × Int) ⊕ ((List Int))) :=
  cond (decide ((0 : Int) ≤ i10))
  (bF (0 ≤ (IntKind.i64.wrap (bI + i10)) ∧ (IntKind.i64.wrap (bI + i10)) < ((List.length aA : Nat) : Int)) <|
  bF (0 ≤ bI ∧ bI < ((List.length aA : Nat) : Int)) <|
  bF (0 ≤ bI ∧ bI < ((List.length aA : Nat) : Int)) <|
  bF (0 ≤ (IntKind.i64.wrap (bI + i10)) ∧ (IntKind.i64.wrap (bI + i10)) < ((List.length aA : Nat) : Int)) <|
  (eT (List.set (List.set aA (Int.toNat bI) (List.getD aA (Int.toNat (IntKind.i64.wrap (bI + i10))) default)) (Int.toNat (IntKind.i64.wrap (bI + i10))) (List.getD aA (Int.toNat bI) default)) lo7 i10 bI).bind fun x6 =>
  some (.inl (x6, IntKind.i64.wrap (i10 - (1 : Int)))))
  (some (.inr aA))

noncomputable def jV (aA : List Int) (bI : Int) (lo7 : Int) (i10 : Int) : Option (List Int) :=
  (lp (fun s => dN bI lo7 s.1 s.2) (aA, i10)).bind (fun rr => some rr)

noncomputable def iL (aA : List Int) (bI : Int) (lo7 : Int) (hi8 : Int) : Option (List Int) :=
  jV aA bI lo7 (IntKind.i64.wrap (hi8 - (1 : Int)))

noncomputable def dO (bI : Int) (lo7 : Int) (hi8 : Int) (aA : List Int) (i9 : Int) : Option ((List Int × Int) ⊕ ((List Int))) :=
  cond (decide ((0 : Int) ≤ i9))
  ((eT aA i9 hi8 bI).bind fun x11 =>
  some (.inl (x11, IntKind.i64.wrap (i9 - (1 : Int)))))
  (some (.inr aA))

noncomputable def jT (aA : List Int) (bI : Int) (lo7 : Int) (hi8 : Int) (i9 : Int) : Option (List Int) :=
  (lp (fun s => dO bI lo7 hi8 s.1 s.2) (aA, i9)).bind (fun rr => iL rr bI lo7 hi8)

noncomputable def iU (aA : (List Int)) (a1 : Int) (b2 : Int) : Option (List Int) :=
  bF ((2 : Int) ≠ 0) <|
  jT aA a1 (0 : Int) (IntKind.i64.wrap (b2 - a1)) (IntKind.i64.wrap (Int.tdiv (IntKind.i64.wrap ((IntKind.i64.wrap (b2 - a1)) - (1 : Int))) (2 : Int)))

noncomputable def kF (xO : Int) : Option Int :=
  (jM (IntKind.u64.wrap xO)).bind fun x1 =>
  bF (0 ≤ x1) <|
  some (IntKind.u64.wrap ((1 : Int) * 2 ^ (min (Int.toNat x1) 64)))

noncomputable def kO (r0 : Int) : Option (Int × Int) :=
  bF (0 ≤ (13 : Int)) <|
  bF (0 ≤ (7 : Int)) <|
  bF (0 ≤ (17 : Int)) <|
  some (bH .xor .u64 (bH .xor .u64 (bH .xor .u64 r0 (IntKind.u64.wrap (r0 * 2 ^ (min (Int.toNat (13 : Int)) 64)))) (Int.fdiv (bH .xor .u64 r0 (IntKind.u64.wrap (r0 * 2 ^ (min (Int.toNat (13 : Int)) 64)))) (2 ^ (min (Int.toNat (7 : Int)) 64)))) (IntKind.u64.wrap ((bH .xor .u64 (bH .xor .u64 r0 (IntKind.u64.wrap (r0 * 2 ^ (min (Int.toNat (13 : Int)) 64)))) (Int.fdiv (bH .xor .u64 r0 (IntKind.u64.wrap (r0 * 2 ^ (min (Int.toNat (13 : Int)) 64)))) (2 ^ (min (Int.toNat (7 : Int)) 64)))) * 2 ^ (min (Int.toNat (17 : Int)) 64))), bH .xor .u64 (bH .xor .u64 (bH .xor .u64 r0 (IntKind.u64.wrap (r0 * 2 ^ (min (Int.toNat (13 : Int)) 64)))) (Int.fdiv (bH .xor .u64 r0 (IntKind.u64.wrap (r0 * 2 ^ (min (Int.toNat (13 : Int)) 64)))) (2 ^ (min (Int.toNat (7 : Int)) 64)))) (IntKind.u64.wrap ((bH .xor .u64 (bH .xor .u64 r0 (IntKind.u64.wrap (r0 * 2 ^ (min (Int.toNat (13 : Int)) 64)))) (Int.fdiv (bH .xor .u64 r0 (IntKind.u64.wrap (r0 * 2 ^ (min (Int.toNat (13 : Int)) 64)))) (2 ^ (min (Int.toNat (7 : Int)) 64)))) * 2 ^ (min (Int.toNat (17 : Int)) 64))))

noncomputable def eM (aA : List Int) (a1 : Int) (jH : Int) (kM : Int) (iC : Int) (idx9 : Int) (eZ : Int) : Option ((List Int × Int × Int) ⊕ ((List Int))) :=
  bF (0 ≤ (IntKind.i64.wrap (a1 + eZ)) ∧ (IntKind.i64.wrap (a1 + eZ)) < ((List.length aA : Nat) : Int)) <|
  bF (0 ≤ idx9 ∧ idx9 < ((List.length aA : Nat) : Int)) <|
  bF (0 ≤ idx9 ∧ idx9 < ((List.length aA : Nat) : Int)) <|
  bF (0 ≤ (IntKind.i64.wrap (a1 + eZ)) ∧ (IntKind.i64.wrap (a1 + eZ)) < ((List.length aA : Nat) : Int)) <|
  some (.inl (List.set (List.set aA (Int.toNat idx9) (List.getD aA (Int.toNat (IntKind.i64.wrap (a1 + eZ))) default)) (Int.toNat (IntKind.i64.wrap (a1 + eZ))) (List.getD aA (Int.toNat idx9) default), kM, IntKind.i64.wrap (idx9 + (1 : Int))))

noncomputable def cN (a1 : Int) (jH : Int) (iC : Int) (aA : List Int) (kM : Int) (idx9 : Int) : Option ((List Int × Int × Int) ⊕ ((List Int))) :=
  bF ((4 : Int) ≠ 0) <|
  cond (decide (idx9 ≤ (IntKind.i64.wrap ((IntKind.i64.wrap (a1 + (IntKind.i64.wrap ((IntKind.i64.wrap (Int.tdiv jH (4 : Int))) * (2 : Int))))) + (1 : Int)))))
  ((kO kM).bind fun x9 =>
  cond (decide (jH ≤ (IntKind.i64.wrap (bH .and .u64 x9.1 (IntKind.u64.wrap (iC - (1 : Int)))))))
  (eM aA a1 jH x9.2 iC idx9 (IntKind.i64.wrap ((IntKind.i64.wrap (bH .and .u64 x9.1 (IntKind.u64.wrap (iC - (1 : Int))))) - jH)))
  (eM aA a1 jH x9.2 iC idx9 (IntKind.i64.wrap (bH .and .u64 x9.1 (IntKind.u64.wrap (iC - (1 : Int)))))))
  (some (.inr aA))

noncomputable def iO (aA : List Int) (a1 : Int) (jH : Int) (kM : Int) (iC : Int) (idx9 : Int) : Option (List Int) :=
  (lp (fun s => cN a1 jH iC s.1 s.2.1 s.2.2) (aA, kM, idx9)).bind (fun rr => some rr)

noncomputable def fU (aA : (List Int)) (a1 : Int) (b2 : Int) : Option (List Int) :=
  cond (decide ((8 : Int) ≤ (IntKind.i64.wrap (b2 - a1))))
  ((kF (IntKind.i64.wrap (b2 - a1))).bind fun x3 =>
  bF ((4 : Int) ≠ 0) <|
  iO aA a1 (IntKind.i64.wrap (b2 - a1)) (IntKind.u64.wrap (IntKind.i64.wrap (b2 - a1))) x3 (IntKind.i64.wrap ((IntKind.i64.wrap (a1 + (IntKind.i64.wrap ((IntKind.i64.wrap (Int.tdiv (IntKind.i64.wrap (b2 - a1)) (4 : Int))) * (2 : Int))))) - (1 : Int))))
  (some aA)

noncomputable def fG (aA : (List Int)) (a1 : Int) (b2 : Int) (pH : Int) : Option ((Int × Int) × Int) :=
  bF (0 ≤ b2 ∧ b2 < ((List.length aA : Nat) : Int)) <|
  bF (0 ≤ a1 ∧ a1 < ((List.length aA : Nat) : Int)) <|
  (cW (List.getD aA (Int.toNat b2) default) (List.getD aA (Int.toNat a1) default)).bind fun x3 =>
  cond x3
  (some ((b2, a1), IntKind.i64.wrap (pH + (1 : Int))))
  (some ((a1, b2), pH))

noncomputable def gY (aA : (List Int)) (a1 : Int) (b2 : Int) (c3 : Int) (AL : Int) : Option (Int × Int) :=
  (fG aA a1 b2 AL).bind fun x1 =>
  (fG aA x1.1.2 c3 x1.2).bind fun x6 =>
  (fG aA x1.1.1 x6.1.1 x6.2).bind fun x11 =>
  some (x11.1.2, x11.2)

noncomputable def dK (aA : (List Int)) (a1 : Int) (AS : Int) : Option (Int × Int) :=
  (gY aA (IntKind.i64.wrap (a1 - (1 : Int))) a1 (IntKind.i64.wrap (a1 + (1 : Int))) AS).bind fun x1 =>
  some (x1.1, x1.2)

noncomputable def eU (aA : List Int) (lC : Int) (j11 : Int) : Option (Int × Int) :=
  cond (decide (lC = (0 : Int)))
  (some (j11, (1 : Int)))
  (cond (decide (lC = (12 : Int)))
  (some (j11, (2 : Int)))
  (some (j11, (0 : Int))))

noncomputable def eV (aA : List Int) (lC : Int) (i10 : Int) (j11 : Int) (k12 : Int) : Option (Int × Int) :=
  (gY aA i10 j11 k12 lC).bind fun x8 =>
  eU aA x8.2 x8.1

noncomputable def gM (aA : (List Int)) (a1 : Int) (b2 : Int) : Option (Int × Int) :=
  bF ((4 : Int) ≠ 0) <|
  bF ((4 : Int) ≠ 0) <|
  bF ((4 : Int) ≠ 0) <|
  cond (decide ((8 : Int) ≤ (IntKind.i64.wrap (b2 - a1))))
  (cond (decide ((50 : Int) ≤ (IntKind.i64.wrap (b2 - a1))))
  ((dK aA (IntKind.i64.wrap (a1 + (IntKind.i64.wrap ((IntKind.i64.wrap (Int.tdiv (IntKind.i64.wrap (b2 - a1)) (4 : Int))) * (1 : Int))))) 0).bind fun x14 =>
  (dK aA (IntKind.i64.wrap (a1 + (IntKind.i64.wrap ((IntKind.i64.wrap (Int.tdiv (IntKind.i64.wrap (b2 - a1)) (4 : Int))) * (2 : Int))))) x14.2).bind fun x19 =>
  (dK aA (IntKind.i64.wrap (a1 + (IntKind.i64.wrap ((IntKind.i64.wrap (Int.tdiv (IntKind.i64.wrap (b2 - a1)) (4 : Int))) * (3 : Int))))) x19.2).bind fun x24 =>
  eV aA x24.2 x14.1 x19.1 x24.1)
  (eV aA 0 (IntKind.i64.wrap (a1 + (IntKind.i64.wrap ((IntKind.i64.wrap (Int.tdiv (IntKind.i64.wrap (b2 - a1)) (4 : Int))) * (1 : Int))))) (IntKind.i64.wrap (a1 + (IntKind.i64.wrap ((IntKind.i64.wrap (Int.tdiv (IntKind.i64.wrap (b2 - a1)) (4 : Int))) * (2 : Int))))) (IntKind.i64.wrap (a1 + (IntKind.i64.wrap ((IntKind.i64.wrap (Int.tdiv (IntKind.i64.wrap (b2 - a1)) (4 : Int))) * (3 : Int)))))))
  (eU aA 0 (IntKind.i64.wrap (a1 + (IntKind.i64.wrap ((IntKind.i64.wrap (Int.tdiv (IntKind.i64.wrap (b2 - a1)) (4 : Int))) * (2 : Int))))))

noncomputable def cZ  (aA : List Int) (i6 : Int) (j7 : Int) : Option ((List Int × Int × Int) ⊕ ((List Int))) :=
  cond (decide (i6 < j7))
  (bF (0 ≤ j7 ∧ j7 < ((List.length aA : Nat) : Int)) <|
  bF (0 ≤ i6 ∧ i6 < ((List.length aA : Nat) : Int)) <|
  bF (0 ≤ i6 ∧ i6 < ((List.length aA : Nat) : Int)) <|
  bF (0 ≤ j7 ∧ j7 < ((List.length aA : Nat) : Int)) <|
  some (.inl (List.set (List.set aA (Int.toNat i6) (List.getD aA (Int.toNat j7) default)) (Int.toNat j7) (List.getD aA (Int.toNat i6) default), IntKind.i64.wrap (i6 + (1 : Int)), IntKind.i64.wrap (j7 - (1 : Int)))))
  (some (.inr aA))

noncomputable def iV (aA : List Int) (i6 : Int) (j7 : Int) : Option (List Int) :=
  (lp (fun s => cZ s.1 s.2.1 s.2.2) (aA, i6, j7)).bind (fun rr => some rr)

noncomputable def gI (aA : (List Int)) (a1 : Int) (b2 : Int) : Option (List Int) :=
  iV aA a1 (IntKind.i64.wrap (b2 - (1 : Int)))

noncomputable def dX (aA : List Int) : Option (Bool × List Int) :=
  some (false, aA)

noncomputable def dB (aA : List Int) (a1 : Int) (b2 : Int) (i7 : Int) (j8 : Int) : Option ((List Int × Int × Int) ⊕ ((List Int) ⊕ (Bool × (List Int)))) :=
  some (.inl (aA, i7, IntKind.i64.wrap (j8 + (1 : Int))))

noncomputable def cK (a1 : Int) (b2 : Int) (i7 : Int) (j8 : Int) (aA : List Int) (j10 : Int) : Option ((List Int × Int) ⊕ ((List Int))) :=
  cond (decide (j10 < b2))
  (bF (0 ≤ j10 ∧ j10 < ((List.length aA : Nat) : Int)) <|
  bF (0 ≤ (IntKind.i64.wrap (j10 - (1 : Int))) ∧ (IntKind.i64.wrap (j10 - (1 : Int))) < ((List.length aA : Nat) : Int)) <|
  (cW (List.getD aA (Int.toNat j10) default) (List.getD aA (Int.toNat (IntKind.i64.wrap (j10 - (1 : Int)))) default)).bind fun x12 =>
  cond (!x12)
  (some (.inr aA))
  (bF (0 ≤ (IntKind.i64.wrap (j10 - (1 : Int))) ∧ (IntKind.i64.wrap (j10 - (1 : Int))) < ((List.length aA : Nat) : Int)) <|
  bF (0 ≤ j10 ∧ j10 < ((List.length aA : Nat) : Int)) <|
  bF (0 ≤ j10 ∧ j10 < ((List.length aA : Nat) : Int)) <|
  bF (0 ≤ (IntKind.i64.wrap (j10 - (1 : Int))) ∧ (IntKind.i64.wrap (j10 - (1 : Int))) < ((List.length aA : Nat) : Int)) <|
  some (.inl (List.set (List.set aA (Int.toNat j10) (List.getD aA (Int.toNat (IntKind.i64.wrap (j10 - (1 : Int)))) default)) (Int.toNat (IntKind.i64.wrap (j10 - (1 : Int)))) (List.getD aA (Int.toNat j10) default), IntKind.i64.wrap (j10 + (1 : Int))))))
  (some (.inr aA))

noncomputable def fM (aA : List Int) (a1 : Int) (b2 : Int) (i7 : Int) (j8 : Int) (j10 : Int) : Option ((List Int × Int × Int) ⊕ ((List Int) ⊕ (Bool × (List Int)))) :=
  (lp (fun s => cK a1 b2 i7 j8 s.1 s.2) (aA, j10)).bind (fun rr => dB rr a1 b2 i7 j8)

noncomputable def cA (aA : List Int) (a1 : Int) (b2 : Int) (i7 : Int) (j8 : Int) : Option ((List Int × Int × Int) ⊕ ((List Int) ⊕ (Bool × (List Int)))) :=
  cond (decide ((2 : Int) ≤ (IntKind.i64.wrap (b2 - i7))))
  (fM aA a1 b2 i7 j8 (IntKind.i64.wrap (i7 + (1 : Int))))
  (dB aA a1 b2 i7 j8)

noncomputable def cB (a1 : Int) (b2 : Int) (i7 : Int) (j8 : Int) (aA : List Int) (j9 : Int) : Option ((List Int × Int) ⊕ ((List Int))) :=
  cond (decide ((1 : Int) ≤ j9))
  (bF (0 ≤ j9 ∧ j9 < ((List.length aA : Nat) : Int)) <|
  bF (0 ≤ (IntKind.i64.wrap (j9 - (1 : Int))) ∧ (IntKind.i64.wrap (j9 - (1 : Int))) < ((List.length aA : Nat) : Int)) <|
  (cW (List.getD aA (Int.toNat j9) default) (List.getD aA (Int.toNat (IntKind.i64.wrap (j9 - (1 : Int)))) default)).bind fun x24 =>
  cond (!x24)
  (some (.inr aA))
  (bF (0 ≤ (IntKind.i64.wrap (j9 - (1 : Int))) ∧ (IntKind.i64.wrap (j9 - (1 : Int))) < ((List.length aA : Nat) : Int)) <|
  bF (0 ≤ j9 ∧ j9 < ((List.length aA : Nat) : Int)) <|
  bF (0 ≤ j9 ∧ j9 < ((List.length aA : Nat) : Int)) <|
  bF (0 ≤ (IntKind.i64.wrap (j9 - (1 : Int))) ∧ (IntKind.i64.wrap (j9 - (1 : Int))) < ((List.length aA : Nat) : Int)) <|
  some (.inl (List.set (List.set aA (Int.toNat j9) (List.getD aA (Int.toNat (IntKind.i64.wrap (j9 - (1 : Int)))) default)) (Int.toNat (IntKind.i64.wrap (j9 - (1 : Int)))) (List.getD aA (Int.toNat j9) default), IntKind.i64.wrap (j9 - (1 : Int))))))
  (some (.inr aA))

noncomputable def fK (aA : List Int) (a1 : Int) (b2 : Int) (i7 : Int) (j8 : Int) (j9 : Int) : Option ((List Int × Int × Int) ⊕ ((List Int) ⊕ (Bool × (List Int)))) :=
  (lp (fun s => cB a1 b2 i7 j8 s.1 s.2) (aA, j9)).bind (fun rr => cA rr a1 b2 i7 j8)

noncomputable def dW (aA : List Int) (a1 : Int) (b2 : Int) (i7 : Int) (j8 : Int) : Option ((List Int × Int × Int) ⊕ ((List Int) ⊕ (Bool × (List Int)))) :=
  cond (decide (i7 = b2))
  (some (.inr (.inr (true, aA))))
  (cond (decide ((IntKind.i64.wrap (b2 - a1)) < (50 : Int)))
  (some (.inr (.inr (false, aA))))
  (bF (0 ≤ (IntKind.i64.wrap (i7 - (1 : Int))) ∧ (IntKind.i64.wrap (i7 - (1 : Int))) < ((List.length aA : Nat) : Int)) <|
  bF (0 ≤ i7 ∧ i7 < ((List.length aA : Nat) : Int)) <|
  bF (0 ≤ i7 ∧ i7 < ((List.length aA : Nat) : Int)) <|
  bF (0 ≤ (IntKind.i64.wrap (i7 - (1 : Int))) ∧ (IntKind.i64.wrap (i7 - (1 : Int))) < ((List.length aA : Nat) : Int)) <|
  cond (decide ((2 : Int) ≤ (IntKind.i64.wrap (i7 - a1))))
  (fK (List.set (List.set aA (Int.toNat i7) (List.getD aA (Int.toNat (IntKind.i64.wrap (i7 - (1 : Int)))) default)) (Int.toNat (IntKind.i64.wrap (i7 - (1 : Int)))) (List.getD aA (Int.toNat i7) default)) a1 b2 i7 j8 (IntKind.i64.wrap (i7 - (1 : Int))))
  (cA (List.set (List.set aA (Int.toNat i7) (List.getD aA (Int.toNat (IntKind.i64.wrap (i7 - (1 : Int)))) default)) (Int.toNat (IntKind.i64.wrap (i7 - (1 : Int)))) (List.getD aA (Int.toNat i7) default)) a1 b2 i7 j8)))

noncomputable def cJ (a1 : Int) (b2 : Int) (j8 : Int) (aA : List Int) (i7 : Int) : Option ((List Int × Int) ⊕ ((List Int × Int))) :=
  bF ((((decide (i7 < b2))) = true → 0 ≤ i7 ∧ i7 < ((List.length aA : Nat) : Int))) <|
  bF ((((decide (i7 < b2))) = true → 0 ≤ (IntKind.i64.wrap (i7 - (1 : Int))) ∧ (IntKind.i64.wrap (i7 - (1 : Int))) < ((List.length aA : Nat) : Int))) <|
  (dR (decide (i7 < b2)) (cW (List.getD aA (Int.toNat i7) default) (List.getD aA (Int.toNat (IntKind.i64.wrap (i7 - (1 : Int)))) default))).bind fun x34 =>
  cond ((decide (i7 < b2)) && (!x34))
  (some (.inl (aA, IntKind.i64.wrap (i7 + (1 : Int)))))
  (some (.inr (aA, i7)))

noncomputable def cR (aA : List Int) (a1 : Int) (b2 : Int) (i7 : Int) (j8 : Int) : Option ((List Int × Int × Int) ⊕ ((List Int) ⊕ (Bool × (List Int)))) :=
  (lp (fun s => cJ a1 b2 j8 s.1 s.2) (aA, i7)).bind (fun rr => dW rr.1 a1 b2 rr.2 j8)

noncomputable def bQ (a1 : Int) (b2 : Int) (aA : List Int) (i7 : Int) (j8 : Int) : Option ((List Int × Int × Int) ⊕ ((List Int) ⊕ (Bool × (List Int)))) :=
  cond (decide (j8 < (5 : Int)))
  (cR aA a1 b2 i7 j8)
  (some (.inr (.inl aA)))

noncomputable def fL (aA : List Int) (a1 : Int) (b2 : Int) (i7 : Int) (j8 : Int) : Option (Bool × List Int) :=
  (lp (fun s => bQ a1 b2 s.1 s.2.1 s.2.2) (aA, i7, j8)).bind (Sum.elim (fun rr => dX rr) (fun rr => some (rr.1, rr.2)))

noncomputable def eF (aA : (List Int)) (a1 : Int) (b2 : Int) : Option (Bool × List Int) :=
  fL aA a1 b2 (IntKind.i64.wrap (a1 + (1 : Int))) (0 : Int)

noncomputable def iJ (aA : List Int) (i9 : Int) : Option (Int × List Int) :=
  some (i9, aA)

noncomputable def dG (aA : List Int) (a1 : Int) (i9 : Int) (j10 : Int) : Option ((List Int × Int × Int) ⊕ ((List Int × Int))) :=
  cond (decide (j10 < i9))
  (some (.inr (aA, i9)))
  (bF (0 ≤ j10 ∧ j10 < ((List.length aA : Nat) : Int)) <|
  bF (0 ≤ i9 ∧ i9 < ((List.length aA : Nat) : Int)) <|
  bF (0 ≤ i9 ∧ i9 < ((List.length aA : Nat) : Int)) <|
  bF (0 ≤ j10 ∧ j10 < ((List.length aA : Nat) : Int)) <|
  some (.inl (List.set (List.set aA (Int.toNat i9) (List.getD aA (Int.toNat j10) default)) (Int.toNat j10) (List.getD aA (Int.toNat i9) default), IntKind.i64.wrap (i9 + (1 : Int)), IntKind.i64.wrap (j10 - (1 : Int)))))

noncomputable def dF (a1 : Int) (i9 : Int) (aA : List Int) (j10 : Int) : Option ((List Int × Int) ⊕ ((List Int × Int))) :=
  bF ((((decide (i9 ≤ j10))) = true → 0 ≤ a1 ∧ a1 < ((List.length aA : Nat) : Int))) <|
  bF ((((decide (i9 ≤ j10))) = true → 0 ≤ j10 ∧ j10 < ((List.length aA : Nat) : Int))) <|
  (dR (decide (i9 ≤ j10)) (cW (List.getD aA (Int.toNat a1) default) (List.getD aA (Int.toNat j10) default))).bind fun x12 =>
  cond ((decide (i9 ≤ j10)) && x12)
  (some (.inl (aA, IntKind.i64.wrap (j10 - (1 : Int)))))
  (some (.inr (aA, j10)))

noncomputable def iF (aA : List Int) (a1 : Int) (i9 : Int) (j10 : Int) : Option ((List Int × Int × Int) ⊕ ((List Int × Int))) :=
  (lp (fun s => dF a1 i9 s.1 s.2) (aA, j10)).bind (fun rr => dG rr.1 a1 i9 rr.2)

noncomputable def fE (aA : List Int) (a1 : Int) (i9 : Int) (j10 : Int) : Option ((List Int × Int × Int) ⊕ ((List Int × Int))) :=
  iF aA a1 i9 j10

noncomputable def dH (a1 : Int) (j10 : Int) (aA : List Int) (i9 : Int) : Option ((List Int × Int) ⊕ ((List Int × Int))) :=
  bF ((((decide (i9 ≤ j10))) = true → 0 ≤ a1 ∧ a1 < ((List.length aA : Nat) : Int))) <|
  bF ((((decide (i9 ≤ j10))) = true → 0 ≤ i9 ∧ i9 < ((List.length aA : Nat) : Int))) <|
  (dR (decide (i9 ≤ j10)) (cW (List.getD aA (Int.toNat a1) default) (List.getD aA (Int.toNat i9) default))).bind fun x18 =>
  cond ((decide (i9 ≤ j10)) && (!x18))
  (some (.inl (aA, IntKind.i64.wrap (i9 + (1 : Int)))))
  (some (.inr (aA, i9)))

noncomputable def iI (aA : List Int) (a1 : Int) (i9 : Int) (j10 : Int) : Option ((List Int × Int × Int) ⊕ ((List Int × Int))) :=
  (lp (fun s => dH a1 j10 s.1 s.2) (aA, i9)).bind (fun rr => fE rr.1 a1 rr.2 j10)

noncomputable def cM (a1 : Int) (aA : List Int) (i9 : Int) (j10 : Int) : Option ((List Int × Int × Int) ⊕ ((List Int × Int))) :=
  iI aA a1 i9 j10

noncomputable def iH (aA : List Int) (a1 : Int) (i9 : Int) (j10 : Int) : Option (Int × List Int) :=
  (lp (fun s => cM a1 s.1 s.2.1 s.2.2) (aA, i9, j10)).bind (fun rr => iJ rr.1 rr.2)

noncomputable def eJ (aA : (List Int)) (a1 : Int) (b2 : Int) (cC : Int) : Option (Int × List Int) :=
  bF (0 ≤ cC ∧ cC < ((List.length aA : Nat) : Int)) <|
  bF (0 ≤ a1 ∧ a1 < ((List.length aA : Nat) : Int)) <|
  bF (0 ≤ a1 ∧ a1 < ((List.length aA : Nat) : Int)) <|
  bF (0 ≤ cC ∧ cC < ((List.length aA : Nat) : Int)) <|
  iH (List.set (List.set aA (Int.toNat a1) (List.getD aA (Int.toNat cC) default)) (Int.toNat cC) (List.getD aA (Int.toNat a1) default)) a1 (IntKind.i64.wrap (a1 + (1 : Int))) (IntKind.i64.wrap (b2 - (1 : Int)))

noncomputable def iA (aA : List Int) (a1 : Int) (j11 : Int) : Option ((Int × Bool) × List Int) :=
  bF (0 ≤ a1 ∧ a1 < ((List.length aA : Nat) : Int)) <|
  bF (0 ≤ j11 ∧ j11 < ((List.length aA : Nat) : Int)) <|
  bF (0 ≤ j11 ∧ j11 < ((List.length aA : Nat) : Int)) <|
  bF (0 ≤ a1 ∧ a1 < ((List.length aA : Nat) : Int)) <|
  some ((j11, false), (List.set (List.set aA (Int.toNat j11) (List.getD aA (Int.toNat a1) default)) (Int.toNat a1) (List.getD aA (Int.toNat j11) default)))

noncomputable def eB (aA : List Int) (a1 : Int) (i10 : Int) (j11 : Int) : Option ((List Int × Int × Int) ⊕ ((List Int × Int))) :=
  cond (decide (j11 < i10))
  (some (.inr (aA, j11)))
  (bF (0 ≤ j11 ∧ j11 < ((List.length aA : Nat) : Int)) <|
  bF (0 ≤ i10 ∧ i10 < ((List.length aA : Nat) : Int)) <|
  bF (0 ≤ i10 ∧ i10 < ((List.length aA : Nat) : Int)) <|
  bF (0 ≤ j11 ∧ j11 < ((List.length aA : Nat) : Int)) <|
  some (.inl (List.set (List.set aA (Int.toNat i10) (List.getD aA (Int.toNat j11) default)) (Int.toNat j11) (List.getD aA (Int.toNat i10) default), IntKind.i64.wrap (i10 + (1 : Int)), IntKind.i64.wrap (j11 - (1 : Int)))))

noncomputable def eH (a1 : Int) (i10 : Int) (aA : List Int) (j11 : Int) : Option ((List Int × Int) ⊕ ((List Int × Int))) :=
  bF ((((decide (i10 ≤ j11))) = true → 0 ≤ j11 ∧ j11 < ((List.length aA : Nat) : Int))) <|
  bF ((((decide (i10 ≤ j11))) = true → 0 ≤ a1 ∧ a1 < ((List.length aA : Nat) : Int))) <|
  (dR (decide (i10 ≤ j11)) (cW (List.getD aA (Int.toNat j11) default) (List.getD aA (Int.toNat a1) default))).bind fun x25 =>
  cond ((decide (i10 ≤ j11)) && (!x25))
  (some (.inl (aA, IntKind.i64.wrap (j11 - (1 : Int)))))
  (some (.inr (aA, j11)))

noncomputable def jN (aA : List Int) (a1 : Int) (i10 : Int) (j11 : Int) : Option ((List Int × Int × Int) ⊕ ((List Int × Int))) :=
  (lp (fun s => eH a1 i10 s.1 s.2) (aA, j11)).bind (fun rr => eB rr.1 a1 i10 rr.2)

noncomputable def hY (aA : List Int) (a1 : Int) (i10 : Int) (j11 : Int) : Option ((List Int × Int × Int) ⊕ ((List Int × Int))) :=
  jN aA a1 i10 j11

noncomputable def eC (a1 : Int) (j11 : Int) (aA : List Int) (i10 : Int) : Option ((List Int × Int) ⊕ ((List Int × Int))) :=
  bF ((((decide (i10 ≤ j11))) = true → 0 ≤ i10 ∧ i10 < ((List.length aA : Nat) : Int))) <|
  bF ((((decide (i10 ≤ j11))) = true → 0 ≤ a1 ∧ a1 < ((List.length aA : Nat) : Int))) <|
  (dR (decide (i10 ≤ j11)) (cW (List.getD aA (Int.toNat i10) default) (List.getD aA (Int.toNat a1) default))).bind fun x31 =>
  cond ((decide (i10 ≤ j11)) && x31)
  (some (.inl (aA, IntKind.i64.wrap (i10 + (1 : Int)))))
  (some (.inr (aA, i10)))

noncomputable def jO (aA : List Int) (a1 : Int) (i10 : Int) (j11 : Int) : Option ((List Int × Int × Int) ⊕ ((List Int × Int))) :=
  (lp (fun s => eC a1 j11 s.1 s.2) (aA, i10)).bind (fun rr => hY rr.1 a1 rr.2 j11)

noncomputable def cY (a1 : Int) (aA : List Int) (i10 : Int) (j11 : Int) : Option ((List Int × Int × Int) ⊕ ((List Int × Int))) :=
  jO aA a1 i10 j11

noncomputable def jJ (aA : List Int) (a1 : Int) (i10 : Int) (j11 : Int) : Option ((Int × Bool) × List Int) :=
  (lp (fun s => cY a1 s.1 s.2.1 s.2.2) (aA, i10, j11)).bind (fun rr => iA rr.1 a1 rr.2)

noncomputable def eE (aA : List Int) (a1 : Int) (i10 : Int) (j11 : Int) : Option ((Int × Bool) × List Int) :=
  cond (decide (j11 < i10))
  (bF (0 ≤ a1 ∧ a1 < ((List.length aA : Nat) : Int)) <|
  bF (0 ≤ j11 ∧ j11 < ((List.length aA : Nat) : Int)) <|
  bF (0 ≤ j11 ∧ j11 < ((List.length aA : Nat) : Int)) <|
  bF (0 ≤ a1 ∧ a1 < ((List.length aA : Nat) : Int)) <|
  some ((j11, true), (List.set (List.set aA (Int.toNat j11) (List.getD aA (Int.toNat a1) default)) (Int.toNat a1) (List.getD aA (Int.toNat j11) default))))
  (bF (0 ≤ j11 ∧ j11 < ((List.length aA : Nat) : Int)) <|
  bF (0 ≤ i10 ∧ i10 < ((List.length aA : Nat) : Int)) <|
  bF (0 ≤ i10 ∧ i10 < ((List.length aA : Nat) : Int)) <|
  bF (0 ≤ j11 ∧ j11 < ((List.length aA : Nat) : Int)) <|
  jJ (List.set (List.set aA (Int.toNat i10) (List.getD aA (Int.toNat j11) default)) (Int.toNat j11) (List.getD aA (Int.toNat i10) default)) a1 (IntKind.i64.wrap (i10 + (1 : Int))) (IntKind.i64.wrap (j11 - (1 : Int))))

noncomputable def eG (a1 : Int) (i10 : Int) (aA : List Int) (j11 : Int) : Option ((List Int × Int) ⊕ ((List Int × Int))) :=
  bF ((((decide (i10 ≤ j11))) = true → 0 ≤ j11 ∧ j11 < ((List.length aA : Nat) : Int))) <|
  bF ((((decide (i10 ≤ j11))) = true → 0 ≤ a1 ∧ a1 < ((List.length aA : Nat) : Int))) <|
  (dR (decide (i10 ≤ j11)) (cW (List.getD aA (Int.toNat j11) default) (List.getD aA (Int.toNat a1) default))).bind fun x37 =>
  cond ((decide (i10 ≤ j11)) && (!x37))
  (some (.inl (aA, IntKind.i64.wrap (j11 - (1 : Int)))))
  (some (.inr (aA, j11)))

noncomputable def jK (aA : List Int) (a1 : Int) (i10 : Int) (j11 : Int) : Option ((Int × Bool) × List Int) :=
  (lp (fun s => eG a1 i10 s.1 s.2) (aA, j11)).bind (fun rr => eE rr.1 a1 i10 rr.2)

noncomputable def hU (aA : List Int) (a1 : Int) (i10 : Int) (j11 : Int) : Option ((Int × Bool) × List Int) :=
  jK aA a1 i10 j11

noncomputable def dU (a1 : Int) (j11 : Int) (aA : List Int) (i10 : Int) : Option ((List Int × Int) ⊕ ((List Int × Int))) :=
  bF ((((decide (i10 ≤ j11))) = true → 0 ≤ i10 ∧ i10 < ((List.length aA : Nat) : Int))) <|
  bF ((((decide (i10 ≤ j11))) = true → 0 ≤ a1 ∧ a1 < ((List.length aA : Nat) : Int))) <|
  (dR (decide (i10 ≤ j11)) (cW (List.getD aA (Int.toNat i10) default) (List.getD aA (Int.toNat a1) default))).bind fun x43 =>
  cond ((decide (i10 ≤ j11)) && x43)
  (some (.inl (aA, IntKind.i64.wrap (i10 + (1 : Int)))))
  (some (.inr (aA, i10)))

noncomputable def fA (aA : List Int) (a1 : Int) (i10 : Int) (j11 : Int) : Option ((Int × Bool) × List Int) :=
  (lp (fun s => dU a1 j11 s.1 s.2) (aA, i10)).bind (fun rr => hU rr.1 a1 rr.2 j11)

noncomputable def fQ (aA : (List Int)) (a1 : Int) (b2 : Int) (cC : Int) : Option ((Int × Bool) × List Int) :=
  bF (0 ≤ cC ∧ cC < ((List.length aA : Nat) : Int)) <|
  bF (0 ≤ a1 ∧ a1 < ((List.length aA : Nat) : Int)) <|
  bF (0 ≤ a1 ∧ a1 < ((List.length aA : Nat) : Int)) <|
  bF (0 ≤ cC ∧ cC < ((List.length aA : Nat) : Int)) <|
  fA (List.set (List.set aA (Int.toNat a1) (List.getD aA (Int.toNat cC) default)) (Int.toNat cC) (List.getD aA (Int.toNat a1) default)) a1 (IntKind.i64.wrap (a1 + (1 : Int))) (IntKind.i64.wrap (b2 - (1 : Int)))

noncomputable def gF (rec : (List Int) → Int → Int → Int → Option (List Int)) (aA : List Int) (a1 : Int) (b2 : Int) (bT : Int) (bO : Bool) (bG : Bool) (dJ : Int) (fD : Int) : Option ((List Int × Int × Int × Int × Bool × Bool) ⊕ ((List Int))) :=
  bF ((((decide ((0 : Int) < a1))) = true → 0 ≤ (IntKind.i64.wrap (a1 - (1 : Int))) ∧ (IntKind.i64.wrap (a1 - (1 : Int))) < ((List.length aA : Nat) : Int))) <|
  bF ((((decide ((0 : Int) < a1))) = true → 0 ≤ fD ∧ fD < ((List.length aA : Nat) : Int))) <|
  (dR (decide ((0 : Int) < a1)) (cW (List.getD aA (Int.toNat (IntKind.i64.wrap (a1 - (1 : Int)))) default) (List.getD aA (Int.toNat fD) default))).bind fun x16 =>
  cond ((decide ((0 : Int) < a1)) && (!x16))
  ((eJ aA a1 b2 fD).bind fun x20 =>
  some (.inl (x20.2, x20.1, b2, bT, bO, bG)))
  ((fQ aA a1 b2 fD).bind fun x23 =>
  bF ((8 : Int) ≠ 0) <|
  cond (decide ((IntKind.i64.wrap (x23.1.1 - a1)) < (IntKind.i64.wrap (b2 - x23.1.1))))
  ((rec x23.2 a1 x23.1.1 bT).bind fun x28 =>
  some (.inl (x28, IntKind.i64.wrap (x23.1.1 + (1 : Int)), b2, bT, decide ((IntKind.i64.wrap (Int.tdiv dJ (8 : Int))) ≤ (IntKind.i64.wrap (x23.1.1 - a1))), x23.1.2)))
  ((rec x23.2 (IntKind.i64.wrap (x23.1.1 + (1 : Int))) b2 bT).bind fun x31 =>
  some (.inl (x31, a1, x23.1.1, bT, decide ((IntKind.i64.wrap (Int.tdiv dJ (8 : Int))) ≤ (IntKind.i64.wrap (b2 - x23.1.1))), x23.1.2))))

noncomputable def fZ (rec : (List Int) → Int → Int → Int → Option (List Int)) (aA : List Int) (a1 : Int) (b2 : Int) (bT : Int) (bO : Bool) (bG : Bool) (dJ : Int) (fD : Int) (xP : Int) : Option ((List Int × Int × Int × Int × Bool × Bool) ⊕ ((List Int))) :=
  cond ((bO && bG) && (decide (xP = (1 : Int))))
  ((eF aA a1 b2).bind fun x35 =>
  cond x35.1
  (some (.inr x35.2))
  (gF rec x35.2 a1 b2 bT bO bG dJ fD))
  (gF rec aA a1 b2 bT bO bG dJ fD)

noncomputable def fY (rec : (List Int) → Int → Int → Int → Option (List Int)) (aA : List Int) (a1 : Int) (b2 : Int) (bT : Int) (bO : Bool) (bG : Bool) (dJ : Int) : Option ((List Int × Int × Int × Int × Bool × Bool) ⊕ ((List Int))) :=
  (gM aA a1 b2).bind fun x9 =>
  cond (decide (x9.2 = (2 : Int)))
  ((gI aA a1 b2).bind fun x40 =>
  fZ rec x40 a1 b2 bT bO bG dJ (IntKind.i64.wrap ((IntKind.i64.wrap (b2 - (1 : Int))) - (IntKind.i64.wrap (x9.1 - a1)))) (1 : Int))
  (fZ rec aA a1 b2 bT bO bG dJ x9.1 x9.2)

noncomputable def dQ (rec : (List Int) → Int → Int → Int → Option (List Int))  (aA : List Int) (a1 : Int) (b2 : Int) (bT : Int) (bO : Bool) (bG : Bool) : Option ((List Int × Int × Int × Int × Bool × Bool) ⊕ ((List Int))) :=
  cond (decide ((IntKind.i64.wrap (b2 - a1)) ≤ (12 : Int)))
  ((fT aA a1 b2).bind fun x2 =>
  some (.inr x2))
  (cond (decide (bT = (0 : Int)))
  ((iU aA a1 b2).bind fun x6 =>
  some (.inr x6))
  (cond (!bO)
  ((fU aA a1 b2).bind fun x44 =>
  fY rec x44 a1 b2 (IntKind.i64.wrap (bT - (1 : Int))) bO bG (IntKind.i64.wrap (b2 - a1)))
  (fY rec aA a1 b2 bT bO bG (IntKind.i64.wrap (b2 - a1)))))

noncomputable def kC (rec : (List Int) → Int → Int → Int → Option (List Int)) (aA : List Int) (a1 : Int) (b2 : Int) (bT : Int) (bO : Bool) (bG : Bool) : Option (List Int) :=
  (lp (fun s => dQ rec s.1 s.2.1 s.2.2.1 s.2.2.2.1 s.2.2.2.2.1 s.2.2.2.2.2) (aA, a1, b2, bT, bO, bG)).bind (fun rr => some rr)

noncomputable def fF (rec : (List Int) → Int → Int → Int → Option (List Int)) (aA : (List Int)) (a1 : Int) (b2 : Int) (bT : Int) : Option (List Int) :=
  kC rec aA a1 b2 bT true true

noncomputable def cU  : Nat → (List Int) → Int → Int → Int → Option (List Int)
  | 0 => fun _ _ _ _ => none
  | k + 1 => fF (cU k)

noncomputable def iX (aA : (List Int)) (a1 : Int) (b2 : Int) (bT : Int) : Option (List Int) := KP (fun k => cU k aA a1 b2 bT)

noncomputable def jR (x0 : (List Int)) : Option (List Int) :=
  (jM (IntKind.u64.wrap ((List.length x0 : Nat) : Int))).bind fun x1 =>
  (iX x0 (0 : Int) ((List.length x0 : Nat) : Int) x1).bind fun x4 =>
  some x4

noncomputable def uA (f0 : (List aF)) : Option ((List aF)) :=
  some f0

noncomputable def lP {σ : Type} (cF : σ → bB → Option (σ × Bool)) (sg : σ) (n3 : Int) (jF : Int) : Option σ :=
  cond (decide ((0 : Int) < n3))
  ((cF sg (bB.mk jF (1125899906842624 : Int))).bind fun x2 =>
  some x2.1)
  (some sg)

noncomputable def kU {σ : Type} (cF : σ → bB → Option (σ × Bool)) (sg : σ) (n3 : Int) (jF : Int) (j6 : aF) (t7 : (List aF)) (t8 : Int) (t9 : Int) : Option ((σ × Int × Int × Int) ⊕ ((σ × Int × Int) ⊕ σ)) :=
  (zY (decide ((IntKind.i64.wrap (n3 + j6.Net)) = (0 : Int))) sg (cF sg (bB.mk jF j6.At))).bind fun (x10, x11) =>
  cond ((decide ((IntKind.i64.wrap (n3 + j6.Net)) = (0 : Int))) && (!x11))
  (some (.inr (.inr x10)))
  (some (.inl (x10, IntKind.i64.wrap (n3 + j6.Net), jF, IntKind.i64.wrap (t9 + (1 : Int)))))

noncomputable def fH {σ : Type} (cF : σ → bB → Option (σ × Bool)) (t7 : (List aF)) (t8 : Int) (sg : σ) (n3 : Int) (jF : Int) (t9 : Int) : Option ((σ × Int × Int × Int) ⊕ ((σ × Int × Int) ⊕ σ)) :=
  cond (decide (t9 < t8))
  (bF (0 ≤ t9 ∧ t9 < ((List.length t7 : Nat) : Int)) <|
  cond (decide (n3 = (0 : Int)))
  (kU cF sg n3 ((List.getD t7 (Int.toNat t9) default).At) (List.getD t7 (Int.toNat t9) default) t7 t8 t9)
  (kU cF sg n3 jF (List.getD t7 (Int.toNat t9) default) t7 t8 t9))
  (some (.inr (.inl (sg, n3, jF))))

noncomputable def oN {σ : Type} (cF : σ → bB → Option (σ × Bool)) (sg : σ) (n3 : Int) (jF : Int) (t7 : (List aF)) (t8 : Int) (t9 : Int) : Option σ :=
  (lp (fun s => fH cF t7 t8 s.1 s.2.1 s.2.2.1 s.2.2.2) (sg, n3, jF, t9)).bind (Sum.elim (fun rr => lP cF rr.1 rr.2.1 rr.2.2) (fun rr => some rr))

noncomputable def nK {σ : Type} (cF : σ → bB → Option (σ × Bool)) (t1 : (List aF)) (sg0 : σ) : Option σ :=
  oN cF sg0 (0 : Int) (0 : Int) t1 ((List.length t1 : Nat) : Int) (0 : Int)

noncomputable def rK (v5 : Int) : Option Int :=
  some v5

noncomputable def lU (t1 : Int) (t11 : (List aF)) (t12 : Int) (v5 : Int) (t13 : Int) : Option ((Int × Int) ⊕ (Int)) :=
  cond (decide (t13 < t12))
  (bF (0 ≤ t13 ∧ t13 < ((List.length t11 : Nat) : Int)) <|
  cond (decide (t1 < ((List.getD t11 (Int.toNat t13) default).At)))
  (some (.inr v5))
  (some (.inl (IntKind.i64.wrap (v5 + ((List.getD t11 (Int.toNat t13) default).Net)), IntKind.i64.wrap (t13 + (1 : Int))))))
  (some (.inr v5))

noncomputable def vF (t1 : Int) (v5 : Int) (t11 : (List aF)) (t12 : Int) (t13 : Int) : Option Int :=
  (lp (fun s => lU t1 t11 t12 s.1 s.2) (v5, t13)).bind (fun rr => rK rr)

noncomputable def uI (f0 : (List aF)) (t1 : Int) : Option Int :=
  (mR f0).bind fun x1 =>
  cond (!x1)
  (some (0 : Int))
  (vF t1 (0 : Int) f0 ((List.length f0 : Nat) : Int) (0 : Int))

noncomputable def rQ (n5 : Int) : Option Int :=
  some n5

noncomputable def mV (w3 : bB) (n5 : Int) (t12 : (List aF)) (t13 : Int) (t14 : Int) : Option ((Int × Int) ⊕ (Int)) :=
  some (.inl (n5, IntKind.i64.wrap (t14 + (1 : Int))))

noncomputable def mU (w3 : bB) (t12 : (List aF)) (t13 : Int) (n5 : Int) (t14 : Int) : Option ((Int × Int) ⊕ (Int)) :=
  cond (decide (t14 < t13))
  (bF (0 ≤ t14 ∧ t14 < ((List.length t12 : Nat) : Int)) <|
  cond ((decide (w3.From < ((List.getD t12 (Int.toNat t14) default).At))) && (decide (((List.getD t12 (Int.toNat t14) default).At) < w3.To)))
  (mV w3 (IntKind.i64.wrap (n5 + (if (0 : Int) > ((List.getD t12 (Int.toNat t14) default).Net) then (0 : Int) else ((List.getD t12 (Int.toNat t14) default).Net)))) t12 t13 t14)
  (mV w3 n5 t12 t13 t14))
  (some (.inr n5))

noncomputable def rS (w3 : bB) (n5 : Int) (t12 : (List aF)) (t13 : Int) (t14 : Int) : Option Int :=
  (lp (fun s => mU w3 t12 t13 s.1 s.2) (n5, t14)).bind (fun rr => rQ rr)

noncomputable def pP (f0 : (List aF)) (w1 : bB) : Option Int :=
  (uI f0 w1.From).bind fun x1 =>
  rS w1 x1 f0 ((List.length f0 : Nat) : Int) (0 : Int)

noncomputable def shP (a b : Nat) (p : aQ) : List (Nat × Nat × List V) := [(a, 3, [(.agg [(eI p.Span.From), (eI p.Span.To), (.msl 2 b 0 (List.length p.Rows))])]), (b, 2, List.map kQ p.Rows)]

noncomputable def shF (a _b : Nat) (p : aQ) : List (Nat × Nat × List V) := [(a, 3, [(aU p)])]

noncomputable def mI (r : List aD) (f : List aF) (p : aQ) : Option aQ :=
  bF ((!(decide ((wR ((lN p.Rows) - (1 : Int))) < (0 : Int)))) = true → 0 ≤ (wR ((lN p.Rows) - (1 : Int))) ∧ (wR ((lN p.Rows) - (1 : Int))) < (lN p.Rows)) <|
  (dR (!(decide ((wR ((lN p.Rows) - (1 : Int))) < (0 : Int)))) (oS ((gD p.Rows (wR ((lN p.Rows) - (1 : Int)))).Row) r)).bind fun x1 =>
  cond ((decide ((wR ((lN p.Rows) - (1 : Int))) < (0 : Int))) || (!x1))
  ((rI r).bind fun x2 =>
  (pP f p.Span).bind fun x3 =>
  bF ((List.length p.Rows + List.length ([gV.mk x2 x3])) * 32 ≤ 140737488355328 ∧ List.length p.Rows + List.length ([gV.mk x2 x3]) ≤ 9223372036854775807) <|
  some (aQ.mk p.Span (p.Rows ++ [gV.mk x2 x3])))
  (some p)

noncomputable def lH (r : List aD) (f : List aF) (size : Int) (b : Bool) (m : List (Int × aQ)) (t : Int) : Option ((Bool × List (Int × aQ)) ⊕ (Bool × List (Int × aQ))) :=
  match eX m t with
  | none => cond (decide ((lN m) = (1024 : Int)))
    (some (.inr (false, m)))
    ((mI r f (aQ.mk (bB.mk t (if (1125899906842624 : Int) < (wR (t + size)) then (1125899906842624 : Int) else (wR (t + size)))) [])).bind fun p => some (.inl (b, gC m t p)))
  | some p => (mI r f p).bind fun p => some (.inl (b, gC m t p))

noncomputable def mG (r : List aD) (f : List aF) (size hop frm front : Int) (b : Bool) (m : List (Int × aQ)) (s : bB) : Option ((Bool × List (Int × aQ)) ⊕ (Bool × List (Int × aQ))) :=
  (nU size hop s frm front).bind fun x =>
  (lR (fun st t => rnd (fun (q : Bool × List (Int × aQ)) => lH r f size q.1 q.2 t) st) x.1 x.2.1 x.2.2.1 x.2.2.2.1 x.2.2.2.2 (.inl (b, m))).bind (Sum.elim (fun q => some (.inl q)) (fun q => some (.inr q)))

noncomputable def qY (m : List (Int × aQ)) (r : List aD) (f : List aF) (size hop frm front : Int) : Option (Bool × List (Int × aQ)) :=
  (uA f).bind fun x =>
  (nK (fun st s => rnd (fun (q : Bool × List (Int × aQ)) => mG r f size hop frm front q.1 q.2 s) st) x (.inl (false, m))).bind (Sum.elim (fun q => some (true, q.2)) (fun q => some (q.1, q.2)))

noncomputable def lA (size hop frm front : Int) (t10 : List aQ) (t11 : Int) (m : List (Int × aQ)) (r : List aD) (f : List aF) : Option ((List aQ × Int × List (Int × aQ)) ⊕ (List aQ × Int × List (Int × aQ))) :=
  (qY m r f size hop frm front).bind fun x =>
  cond (!x.1)
  (some (.inr ([], (7 : Int), x.2)))
  (some (.inl (t10, t11, x.2)))

noncomputable def oK (m : List (Int × aQ)) (b : List Int) (n : Int) (out : List aQ) (i : Int) : Option ((List aQ × Int) ⊕ (List aQ)) :=
  cond (decide (i < n))
  (bF (0 ≤ i ∧ i < (lN b)) <|
  match eX m (gD b i) with
  | none => none
  | some p =>
    bF ((List.length out + List.length ([p])) * 40 ≤ 140737488355328 ∧ List.length out + List.length ([p]) ≤ 9223372036854775807) <|
    some (.inl (out ++ [p], wR (i + (1 : Int)))))
  (some (.inr out))

noncomputable def wF (m : List (Int × aQ)) (b : List Int) : Option (List aQ × Int) :=
  (jR b).bind fun b =>
  bF (0 ≤ (lN b) ∧ (40 : Int) * (lN b) ≤ 281474976710656 ∧ (lN b) ≤ 9223372036854775807) <|
  (lp (fun s => oK m b (lN b) s.1 s.2) (([] : List aQ), (0 : Int))).bind fun out => some (out, (0 : Int))

noncomputable def oB (s : List Int) (k : Int) : Option (List Int) :=
  bF ((List.length s + List.length ([k])) * 8 ≤ 140737488355328 ∧ List.length s + List.length ([k]) ≤ 9223372036854775807) <|
  some (s ++ [k])

noncomputable def qW (m : List (Int × aQ)) : Option (List aQ × Int) :=
  bF (0 ≤ (lN m) ∧ (8 : Int) * (lN m) ≤ 281474976710656 ∧ (lN m) ≤ 9223372036854775807) <|
  qN (m.map (·.1)) (fun q => (dA oB ([] : List Int) q).bind (wF m))

noncomputable def wC (l : List bE) (size hop frm front : Int) (t10 : List aQ) (t11 : Int) : Option (List aQ × Int) :=
  (sP l).bind fun x =>
  (mN (fun st r f => rnd (fun (q : List aQ × Int × List (Int × aQ)) => lA size hop frm front q.1 q.2.1 q.2.2 r f) st) x (.inl (t10, t11, []))).bind (Sum.elim (fun q => qW q.2.2) (fun q => some (q.1, q.2.1)))

noncomputable def sH (l0 : (List bE)) (nP : Int) (hop2 : Int) (iB : Int) (eS : Int) : Option ((List aQ) × Int) :=
  (oL nP hop2).bind fun x3 =>
  (dR (!(!x3)) (rO l0)).bind fun x6 =>
  cond ((!x3) || (!x6))
  (some ([], (2 : Int)))
  ((rC l0).bind fun x10 =>
  cond (!x10)
  (some ([], (20 : Int)))
  ((lT iB).bind fun x14 =>
  (dR (!(!x14)) (lT eS)).bind fun x17 =>
  cond ((!x14) || (!x17))
  (some ([], (13 : Int)))
  (wC l0 nP hop2 iB eS ([]) 0)))

noncomputable def oG  : Option Bool :=
  (oY (10 : Int) (5 : Int) (12 : Int)).bind fun x1 =>
  (rE (10 : Int) (5 : Int) (bB.mk (3 : Int) (7 : Int)) (0 : Int) (100 : Int)).bind fun x4 =>
  (sH ([bE.mk ([aD.mk (1 : Int) (1 : Int) ByteArray.empty]) (3 : Int) (1 : Int), bE.mk ([aD.mk (1 : Int) (1 : Int) ByteArray.empty]) (7 : Int) (-1 : Int)]) (10 : Int) (5 : Int) (0 : Int) (100 : Int)).bind fun x7 =>
  bF (((((((decide (x1.1 = (5 : Int))) && (decide (x1.2 = (0 : Int)))) && (decide (x4.2 = (0 : Int)))) && (decide (((List.length x4.1 : Nat) : Int) = (2 : Int))))) = true → 0 ≤ (1 : Int) ∧ (1 : Int) < ((List.length x4.1 : Nat) : Int))) <|
  bF ((((((((((decide (x1.1 = (5 : Int))) && (decide (x1.2 = (0 : Int)))) && (decide (x4.2 = (0 : Int)))) && (decide (((List.length x4.1 : Nat) : Int) = (2 : Int)))) && (decide ((List.getD x4.1 (Int.toNat (1 : Int)) default) = (5 : Int)))) && (decide (x7.2 = (0 : Int)))) && (decide (((List.length x7.1 : Nat) : Int) = (2 : Int))))) = true → 0 ≤ (1 : Int) ∧ (1 : Int) < ((List.length x7.1 : Nat) : Int))) <|
  bF (((((((((((decide (x1.1 = (5 : Int))) && (decide (x1.2 = (0 : Int)))) && (decide (x4.2 = (0 : Int)))) && (decide (((List.length x4.1 : Nat) : Int) = (2 : Int)))) && (decide ((List.getD x4.1 (Int.toNat (1 : Int)) default) = (5 : Int)))) && (decide (x7.2 = (0 : Int)))) && (decide (((List.length x7.1 : Nat) : Int) = (2 : Int)))) && ((decide ((((List.getD x7.1 (Int.toNat (1 : Int)) default).Span).From) = ((bB.mk (5 : Int) (15 : Int)).From))) && ((decide ((((List.getD x7.1 (Int.toNat (1 : Int)) default).Span).To) = ((bB.mk (5 : Int) (15 : Int)).To))) && true)))) = true → 0 ≤ (1 : Int) ∧ (1 : Int) < ((List.length x7.1 : Nat) : Int))) <|
  some (((((((((decide (x1.1 = (5 : Int))) && (decide (x1.2 = (0 : Int)))) && (decide (x4.2 = (0 : Int)))) && (decide (((List.length x4.1 : Nat) : Int) = (2 : Int)))) && (decide ((List.getD x4.1 (Int.toNat (1 : Int)) default) = (5 : Int)))) && (decide (x7.2 = (0 : Int)))) && (decide (((List.length x7.1 : Nat) : Int) = (2 : Int)))) && ((decide ((((List.getD x7.1 (Int.toNat (1 : Int)) default).Span).From) = ((bB.mk (5 : Int) (15 : Int)).From))) && ((decide ((((List.getD x7.1 (Int.toNat (1 : Int)) default).Span).To) = ((bB.mk (5 : Int) (15 : Int)).To))) && true))) && (decide (((List.length ((List.getD x7.1 (Int.toNat (1 : Int)) default).Rows) : Nat) : Int) = (1 : Int))))

noncomputable def qK (eD : Int) (uB : Int) (t2 : Int) (u3 : Int) : Option Bool :=
  (oY eD uB t2).bind fun x1 =>
  (oY eD uB u3).bind fun x4 =>
  cond ((!decide (x1.2 = (0 : Int))) || (!decide (x4.2 = (0 : Int))))
  ((oG ).bind fun x8 =>
  some x8)
  (cond (((decide (x1.1 ≤ (IntKind.i64.wrap (t2 - eD)))) || ((decide (uB ≤ eD)) && (decide (t2 < x1.1)))) || ((decide (t2 ≤ u3)) && (decide (x4.1 < x1.1))))
  (some false)
  ((oG ).bind fun x12 =>
  some ((x12 && (decide ((0 : Int) ≤ x1.1))) && (decide (x1.1 ≤ (1125899906842624 : Int))))))

end Go.Abs
namespace Go.Abs
open Go Go.RowKit Go.Proofs
noncomputable def tt : TT := ⟨OD Try.prog, IV Try.prog⟩

theorem aC : fN Try.prog tt := fN.of Try.prog

theorem AG (eD : Int) (hop1 : Int) (r : Bool) (h0 : oL eD hop1 = some r) : dZ Try.prog 24 [(eI eD), (eI hop1)] (aB r) := by
  intro H0
  refine dV Try.func24 ?_
  have hO := aJ.start H0
  unfold oL at h0
  refine aS aC 1 [] [] ?_
  refine cO aC 15 [(4, (aB ((((decide ((1 : Int) ≤ eD)) && (decide (eD ≤ (1099511627776 : Int)))) && (decide ((1 : Int) ≤ hop1))) && (decide (hop1 ≤ (1099511627776 : Int))))))] ?_
  refine bL ?_
  obtain rfl := oI h0
  exact aG (Q_r hO)

theorem tE (t0 : Int) (r : Bool) (h0 : lT t0 = some r) : dZ Try.prog 25 [(eI t0)] (aB r) := by
  intro H0
  refine dV Try.func25 ?_
  have hO := aJ.start H0
  unfold lT at h0
  refine aS aC 1 [] [] ?_
  refine cO aC 7 [(2, (aB ((decide ((0 : Int) ≤ t0)) && (decide (t0 ≤ (1125899906842624 : Int))))))] ?_
  refine bL ?_
  obtain rfl := oI h0
  exact aG (Q_r hO)

theorem LQ (a0 : Int) (b1 : Int) (r : (Int × Int × Int)) (h0 : sC a0 b1 = some r) : dZ Try.prog 53 [(eI a0), (eI b1)] (.tup [(eI r.1), (eI r.2.1), (eI r.2.2)]) := by
  intro H0
  refine dV Try.func53 ?_
  have hO := aJ.start H0
  unfold sC at h0
  refine aS aC 3 [] [] ?_
  refine aN ?_
  refine aS aC 2 [] [(10, (aB (decide (b1 < (1 : Int)))))] ?_
  refine bR h0 (fun h0 => ?_) (fun h0 => ?_)
  · refine cO aC 3 [(4, (eI (0 : Int))), (5, (eI (0 : Int))), (6, (eI (2 : Int)))] ?_
    refine bL ?_
    obtain rfl := oI h0
    exact aG (aR (Q_r hO))
  refine bS ?_
  refine bD [(0, (eI a0)), (1, (eI b1))] ?_
  refine aN ?_
  refine gW (gU []) aC 8 ?_
  obtain ⟨c2, h0⟩ := aY h0
  obtain ⟨c3, h0⟩ := aY h0
  refine IK (Ds := [b1 ≠ 0, b1 ≠ 0]) (by kernel_rfl) ⟨c2, c3, trivial⟩ ?_
  refine cD [0] [(7, (eI (wR (Int.tdiv a0 b1)))), (8, (eI (Int.tmod a0 b1)))] ?_
  refine jD (fun T H => ∃ q7 : Int, ∃ r8 : Int, Has T [(7, (eI q7)), (8, (eI r8))] ∧ aJ ⟨H0, [], []⟩ H [] ∧ qZ q7 r8 = some r) ?_ ?_
  · clear hO h0
    rintro T H ⟨q7, r8, hT, hO, h0⟩
    refine bM hT ?_
    clear hT
    unfold qZ at h0
    refine cO aC 5 [(4, (eI q7)), (5, (eI r8)), (6, (eI (0 : Int)))] ?_
    refine bL ?_
    obtain rfl := oI h0
    exact aG (Q_r hO)
  refine aS aC 2 [] [(18, (aB (decide ((Int.tmod a0 b1) < (0 : Int)))))] ?_
  refine bR h0 (fun h0 => ?_) (fun h0 => ?_)
  · refine aP aC 7 ?_
    refine bC ?_
    exact aG (aH (⟨rfl, _, _, .eq (by kernel_rfl), hO, h0⟩))
  refine bS ?_
  exact aG (aH (⟨rfl, _, _, .eq (by kernel_rfl), hO, h0⟩))

theorem vP (hop0 : Int) (n1 : Int) (r : Int) (h0 : mY hop0 n1 = some r) : dZ Try.prog 26 [(eI hop0), (eI n1)] (eI r) := by
  intro H0
  refine dV Try.func26 ?_
  have hO := aJ.start H0
  unfold mY at h0
  refine aS aC 1 [] [] ?_
  refine aN ?_
  refine aS aC 2 [] [(9, (aB (decide (n1 < (0 : Int)))))] ?_
  refine bR h0 (fun h0 => ?_) (fun h0 => ?_)
  · refine cO aC 1 [(4, (eI (0 : Int)))] ?_
    refine bL ?_
    obtain rfl := oI h0
    exact aG (aR (Q_r hO))
  refine bS ?_
  refine bD [(0, (eI hop0)), (1, (eI n1))] ?_
  refine aN ?_
  refine aP aC 10 ?_
  refine bN 2 ?_
  obtain ⟨x2, hx3, h0⟩ := aT h0
  refine fB (LQ n1 hop0 _ hx3) hO ?_
  intro H hO
  refine bC ?_
  refine cD [1] [(5, (eI x2.1))] ?_
  refine cO aC 5 [(4, (eI (wR ((wR (x2.1 + (1 : Int))) * hop0))))] ?_
  refine bL ?_
  obtain rfl := oI h0
  exact aG (Q_r hO)

theorem yV (eD : Int) (hop1 : Int) (t2 : Int) (r : (Int × Int)) (h0 : oY eD hop1 t2 = some r) : dZ Try.prog 9 [(eI eD), (eI hop1), (eI t2)] (.tup [(eI r.1), (eI r.2)]) := by
  intro H0
  refine dV Try.func9 ?_
  have hO := aJ.start H0
  unfold oY at h0
  refine aS aC 2 [] [] ?_
  refine aN ?_
  refine cG 0 ?_
  refine aN ?_
  refine aP aC 5 ?_
  refine bN 2 ?_
  obtain ⟨x1, hx2, h0⟩ := aT h0
  refine fB (AG eD hop1 _ hx2) hO ?_
  intro H hO
  refine bC ?_
  refine cD [] [(8, (aB (!x1)))] ?_
  refine bR h0 (fun h0 => ?_) (fun h0 => ?_)
  · refine cO aC 2 [(6, (eI (0 : Int))), (7, (eI (2 : Int)))] ?_
    refine bL ?_
    obtain rfl := oI h0
    exact aG (bJ (aR (Q_r hO)))
  refine aN ?_
  refine aP aC 4 ?_
  refine bN 1 ?_
  obtain ⟨x5, hx6, h0⟩ := aT h0
  refine fB (tE t2 _ hx6) hO ?_
  intro H hO
  refine bC ?_
  refine cD [8] [(13, (aB (!x5)))] ?_
  refine bR h0 (fun h0 => ?_) (fun h0 => ?_)
  · refine cO aC 2 [(6, (eI (0 : Int))), (7, (eI (13 : Int)))] ?_
    refine bL ?_
    obtain rfl := oI h0
    exact aG (bJ (aR (Q_r hO)))
  refine aS aC 3 [13] [(17, (aB (decide (t2 = (1125899906842624 : Int)))))] ?_
  refine bR h0 (fun h0 => ?_) (fun h0 => ?_)
  · refine cO aC 2 [(6, (eI (1125899906842624 : Int))), (7, (eI (0 : Int)))] ?_
    refine bL ?_
    obtain rfl := oI h0
    exact aG (bJ (aR (Q_r hO)))
  refine bS ?_
  refine iM [(0, (eI eD)), (1, (eI hop1)), (2, (eI t2))] ?_
  refine aG (aV (aH (?_)))
  refine aN ?_
  refine aP aC 8 ?_
  refine bN 4 ?_
  obtain ⟨x10, hx11, h0⟩ := aT h0
  refine fB (vP hop1 (wR (t2 - eD)) _ hx11) hO ?_
  intro H hO
  refine bC ?_
  refine bD [(6, (eI (if (1125899906842624 : Int) < x10 then (1125899906842624 : Int) else x10))), (7, (eI (0 : Int)))] ?_
  refine bL ?_
  obtain rfl := oI h0
  exact aG (Q_r hO)

theorem AQ (eD : Int) (hop1 : Int) (s2 : bB) (iB : Int) (eS : Int) (r : (Int × bB × Int × Int × Int)) (h0 : nU eD hop1 s2 iB eS = some r) : dZ Try.prog 30 [(eI eD), (eI hop1), (bV s2), (eI iB), (eI eS)] (.fn (.func 54) [] [(.rp (eI r.1)), (.rp (bV r.2.1)), (.rp (eI r.2.2.1)), (.rp (eI r.2.2.2.1)), (.rp (eI r.2.2.2.2))]) := by
  intro H0
  refine dV Try.func30 ?_
  have hO := aJ.start H0
  unfold nU at h0
  refine aN ?_
  refine aP aC 6 ?_
  refine gQ 1 (eI eD) (by kernel_rfl) (by kernel_rfl) ?_
  refine gQ 1 (eI hop1) (by kernel_rfl) (by kernel_rfl) ?_
  refine gQ 2 (bV s2) (by kernel_rfl) (by kernel_rfl) ?_
  refine gQ 1 (eI iB) (by kernel_rfl) (by kernel_rfl) ?_
  refine gQ 1 (eI eS) (by kernel_rfl) (by kernel_rfl) ?_
  refine bC ?_
  refine bD [(5, (.rp (eI eD))), (6, (.rp (eI hop1))), (7, (.rp (bV s2))), (8, (.rp (eI iB))), (9, (.rp (eI eS)))] ?_
  refine cO aC 2 [(10, (.fn (.func 54) [] [(.rp (eI hop1)), (.rp (bV s2)), (.rp (eI eD)), (.rp (eI iB)), (.rp (eI eS))]))] ?_
  refine bL ?_
  obtain rfl := oI h0
  exact aG (kZ (x := (.fn (.func 54) [] [(.rp (eI hop1)), (.rp (bV s2)), (.rp (eI eD)), (.rp (eI iB)), (.rp (eI eS))])) (by kernel_rfl) (aL.refl _) ⟨rfl, hO.out⟩)

theorem wE {σ : Type} (I : σ → Gs → Prop) (yield0_b : Nat) (cF : σ → Int → Option (σ × Bool)) (yield0_h : ∀ st a0 st2 r, cF st a0 = some (st2, r) → uW Try.prog (yv yield0_b) I st [(eI a0)] st2 (aB r)) (t1 : Int) (t2 : bB) (t3 : Int) (t4 : Int) (t5 : Int) (sg0 : σ) (r : σ) (h0 : lR cF t1 t2 t3 t4 t5 sg0 = some r) : sM Try.prog 54 I sg0 [(yv yield0_b), (.rp (eI t1)), (.rp (bV t2)), (.rp (eI t3)), (.rp (eI t4)), (.rp (eI t5))] r (.tup []) := by
  intro H0 G0 hI hg
  refine dV Try.func54 ?_
  obtain ⟨G, hO, hI⟩ : ∃ G, aJ ⟨H0, List.map (fun p : Nat × cQ => p.1) G0, G⟩ H0 [] ∧ I sg0 G := ⟨G0, aJ.xH hg, hI⟩
  clear hg
  unfold lR at h0
  refine aN ?_
  refine gW (gU [9, 11, 12, 14, 15, 16, 18]) aC 12 ?_
  refine lJ 5 ?_
  obtain ⟨x1, hx2, h0⟩ := aT h0
  refine wZ (vP t1 (wR (t2.From - t3)) _ hx2) hO ?_
  intro H hO
  refine lJ 9 ?_
  obtain ⟨x4, hx5, h0⟩ := aT h0
  refine wZ (vP t1 (wR (t4 - (1 : Int))) _ hx5) hO ?_
  intro H hO
  refine kX ?_
  refine cD [3, 4] [(7, (eI (if x4 > x1 then x4 else x1)))] ?_
  refine aS aC 2 [7] [(8, (eI (if x4 > x1 then x4 else x1)))] ?_
  refine cG 0 ?_
  refine iD [(0, (yv yield0_b)), (1, (.rp (eI t1))), (2, (.rp (bV t2))), (5, (.rp (eI t5))), (8, (eI (if x4 > x1 then x4 else x1)))] ?_
  refine iG (fun T H => ∃ sg : σ, ∃ t8 : Int, ∃ G : Gs, Has T [(0, (yv yield0_b)), (1, (.rp (eI t1))), (2, (.rp (bV t2))), (5, (.rp (eI t5))), (8, (eI t8))] ∧ aJ ⟨H0, List.map (fun p : Nat × cQ => p.1) G0, G⟩ H [] ∧ I sg G ∧ mM cF sg t1 t2 t5 t8 = some r) ?_ ⟨sg0, if x4 > x1 then x4 else x1, G, .eq (by kernel_rfl), hO, hI, h0⟩
  clear hO hI h0
  rintro T H ⟨sg, t8, G, hT, hO, hI, h0⟩
  refine bM hT ?_
  clear hT
  unfold mM at h0
  obtain ⟨rr0, hl0, h0⟩ := aT h0
  refine eP (by kernel_rfl) (fun (s : σ × Int) T H => ∃ G : Gs, Has T [(0, (yv yield0_b)), (1, (.rp (eI t1))), (2, (.rp (bV t2))), (5, (.rp (eI t5))), (8, (eI s.2))] ∧ aJ ⟨H0, List.map (fun p : Nat × cQ => p.1) G0, G⟩ H [] ∧ I s.1 G) hl0 ⟨G, .eq (by kernel_rfl), hO, hI⟩ ?_
  clear hO hI
  rintro k0 s out1 T H ⟨G, hT, hO, hI⟩ h1 ho0
  obtain ⟨sg, t8⟩ := s
  replace h1 : iR cF t1 t2 t5 sg t8 = some out1 := h1
  try dsimp only at hT
  refine bM hT ?_
  clear hT
  unfold iR at h1
  refine aN ?_
  refine aS aC 6 [] [(26, (aB (decide (t8 < (if (1125899906842624 : Int) < (if t5 < t2.To then t5 else t2.To) then (1125899906842624 : Int) else (if t5 < t2.To then t5 else t2.To))))))] ?_
  refine bR h1 (fun h1 => ?_) (fun h1 => ?_)
  · refine bS ?_
    refine bD [(0, (yv yield0_b)), (1, (.rp (eI t1))), (2, (.rp (bV t2))), (5, (.rp (eI t5))), (8, (eI t8))] ?_
    refine aN ?_
    refine cG 1 ?_
    refine aN ?_
    refine aP aC 4 ?_
    refine bN 2 ?_
    obtain ⟨x8, hx9, h1⟩ := aT h1
    refine BB (I := I) (yv yield0_b) [(eI t8)] (aB x8.2) (by kernel_rfl) (by kernel_rfl) (yield0_h _ t8 x8.1 x8.2 hx9) hO hI ?_
    intro G H hO hI
    refine bC ?_
    refine cD [] [(33, (aB (!x8.2)))] ?_
    refine bR h1 (fun h1 => ?_) (fun h1 => ?_)
    · refine bL ?_
      obtain rfl := oI h1
      obtain rfl : _ = rr0 := ho0
      replace h0 : some x8.1 = some r := h0
      obtain rfl := oI h0
      exact aG (bJ (aR (aR (bJ (kZ (x := (.tup [])) (by kernel_rfl) (aL.refl _) ⟨rfl, G, hI, hO.tU⟩)))))
    refine bS ?_
    refine iM [(0, (yv yield0_b)), (1, (.rp (eI t1))), (2, (.rp (bV t2))), (5, (.rp (eI t5))), (8, (eI t8))] ?_
    refine aG (aV (aH (?_)))
    refine aP aC 4 ?_
    refine bC ?_
    exact aG (aH (⟨rfl, _, (oI h1).symm, _, .eq (by kernel_rfl), hO, hI⟩))
  refine jQ 0 ?_
  obtain rfl := oI h1
  obtain rfl : _ = rr0 := ho0
  replace h0 : some sg = some r := h0
  obtain rfl := oI h0
  exact aG (aW (aW (cI (tD (x := (.tup [])) (by kernel_rfl) (aL.refl _) ⟨rfl, G, hI, hO.tU⟩))))

theorem KX (eD : Int) (hop1 : Int) (s2 : bB) (iB : Int) (eS : Int) (r : ((List Int) × Int)) (h0 : rE eD hop1 s2 iB eS = some r) : dZ Try.prog 12 [(eI eD), (eI hop1), (bV s2), (eI iB), (eI eS)] (.tup [(eL (eI) r.1), (eI r.2)]) := by
  intro H0
  refine xM aC Try.func12 (by kernel_rfl) (by kernel_rfl) (by kernel_rfl) ?_
  have hO := aJ.start H0
  unfold rE at h0
  refine aN ?_
  refine aP aC 3 ?_
  refine gQ 2 (bV s2) (by kernel_rfl) (by kernel_rfl) ?_
  refine yL 1 (.sl true 0 (fun _ => .bad)) (eL (eI) ([])) (by kernel_rfl) (by kernel_rfl) (by kernel_rfl) (nE) (by kernel_rfl) (by kernel_rfl) hO ?_
  intro lo1 H hO
  refine kJ 1 (eI 0) (by kernel_rfl) (by kernel_rfl) hO ?_
  intro lo2 H hO
  refine dP ?_
  refine cD [2] [(7, (.rp (bV s2))), (10, (.lp lo1 0 0)), (11, (.lp lo2 0 0))] ?_
  refine aN ?_
  refine cG 0 ?_
  refine aN ?_
  refine aP aC 5 ?_
  refine bN 2 ?_
  obtain ⟨x3, hx4, h0⟩ := aT h0
  refine fB (AG eD hop1 _ hx4) hO ?_
  intro H hO
  refine bC ?_
  refine cD [] [(14, (aB (!x3)))] ?_
  refine bR h0 (fun h0 => ?_) (fun h0 => ?_)
  · refine aN ?_
    refine aP aC 2 ?_
    refine iS 0 lo1 1 0 (eL (eI) ([])) (.sl true 0 (fun _ => .bad)) [(eL (eI) ([]))] [(lo1, 1, [(.sl true 0 (fun _ => .bad))]), (lo2, 1, [(eI 0)])] hO rfl (by kernel_rfl) ?_
    intro H hO
    refine iS 1 lo2 1 0 (eI 0) (eI (2 : Int)) [(eI 0)] [(lo1, 1, [(.sl true 0 (fun _ => .bad))]), (lo2, 1, [(eI (2 : Int))])] hO rfl (by kernel_rfl) ?_
    intro H hO
    refine dP ?_
    refine qS 0 lo1 1 (.sl true 0 (fun _ => .bad)) (eL (eI) ([])) [(lo1, 1, [(eL (eI) ([]))]), (lo2, 1, [(eI (2 : Int))])] hO (by kernel_rfl) (by kernel_rfl) nE (by kernel_rfl) ?_
    intro H hO
    refine bD [(10, (.lp lo1 0 0)), (11, (.lp lo2 0 0))] ?_
    refine bL ?_
    obtain rfl := oI h0
    exact aG (bJ (aR (QM0 (.inr rfl) (rs := [.cell 10 30, .cell 11 22]) (xs := [(eL (eI) ([])), (eI (2 : Int))]) (x := (.tup [(eL (eI) ([])), (eI (2 : Int))])) (by kernel_rfl) (gX (lo := lo1) (k := 1) (y := (eL (eI) ([]))) (x := (eL (eI) ([]))) 0 hO (by kernel_rfl) (by kernel_rfl) (by kernel_rfl) (by kernel_rfl) (gX (lo := lo2) (k := 1) (y := (eI (2 : Int))) (x := (eI (2 : Int))) 1 hO (by kernel_rfl) (by kernel_rfl) (by kernel_rfl) (by kernel_rfl) lK)) (by kernel_rfl) ⟨rfl, hO.out⟩)))
  refine aN ?_
  refine aP aC 9 ?_
  refine bN 1 ?_
  obtain ⟨x7, hx8, h0⟩ := aT h0
  refine fB (tE iB _ hx8) hO ?_
  intro H hO
  refine bN 5 ?_
  obtain ⟨x10, hx11, h0⟩ := aT h0
  refine nF [(23, false)] 25 [(eI eS)] (aB x10) (!(!x7)) (by kernel_rfl) (by kernel_rfl) (by kernel_rfl) (fun hb12 => (tE eS _ (kN hx11 hb12))) hO ?_
  intro H hO
  refine bC ?_
  refine cD [14] [(19, (aB ((!x7) || (!x10))))] ?_
  refine bR h0 (fun h0 => ?_) (fun h0 => ?_)
  · refine aN ?_
    refine aP aC 2 ?_
    refine iS 0 lo1 1 0 (eL (eI) ([])) (.sl true 0 (fun _ => .bad)) [(eL (eI) ([]))] [(lo1, 1, [(.sl true 0 (fun _ => .bad))]), (lo2, 1, [(eI 0)])] hO rfl (by kernel_rfl) ?_
    intro H hO
    refine iS 1 lo2 1 0 (eI 0) (eI (13 : Int)) [(eI 0)] [(lo1, 1, [(.sl true 0 (fun _ => .bad))]), (lo2, 1, [(eI (13 : Int))])] hO rfl (by kernel_rfl) ?_
    intro H hO
    refine dP ?_
    refine qS 0 lo1 1 (.sl true 0 (fun _ => .bad)) (eL (eI) ([])) [(lo1, 1, [(eL (eI) ([]))]), (lo2, 1, [(eI (13 : Int))])] hO (by kernel_rfl) (by kernel_rfl) nE (by kernel_rfl) ?_
    intro H hO
    refine bD [(10, (.lp lo1 0 0)), (11, (.lp lo2 0 0))] ?_
    refine bL ?_
    obtain rfl := oI h0
    exact aG (bJ (aR (QM0 (.inr rfl) (rs := [.cell 10 30, .cell 11 22]) (xs := [(eL (eI) ([])), (eI (13 : Int))]) (x := (.tup [(eL (eI) ([])), (eI (13 : Int))])) (by kernel_rfl) (gX (lo := lo1) (k := 1) (y := (eL (eI) ([]))) (x := (eL (eI) ([]))) 0 hO (by kernel_rfl) (by kernel_rfl) (by kernel_rfl) (by kernel_rfl) (gX (lo := lo2) (k := 1) (y := (eI (13 : Int))) (x := (eI (13 : Int))) 1 hO (by kernel_rfl) (by kernel_rfl) (by kernel_rfl) (by kernel_rfl) lK)) (by kernel_rfl) ⟨rfl, hO.out⟩)))
  refine aS aC 16 [19] [(28, (aB (((decide (s2.From < (-1 : Int))) || (decide (s2.To ≤ s2.From))) || (decide ((1125899906842624 : Int) < s2.To)))))] ?_
  refine bR h0 (fun h0 => ?_) (fun h0 => ?_)
  · refine aN ?_
    refine aP aC 2 ?_
    refine iS 0 lo1 1 0 (eL (eI) ([])) (.sl true 0 (fun _ => .bad)) [(eL (eI) ([]))] [(lo1, 1, [(.sl true 0 (fun _ => .bad))]), (lo2, 1, [(eI 0)])] hO rfl (by kernel_rfl) ?_
    intro H hO
    refine iS 1 lo2 1 0 (eI 0) (eI (14 : Int)) [(eI 0)] [(lo1, 1, [(.sl true 0 (fun _ => .bad))]), (lo2, 1, [(eI (14 : Int))])] hO rfl (by kernel_rfl) ?_
    intro H hO
    refine dP ?_
    refine qS 0 lo1 1 (.sl true 0 (fun _ => .bad)) (eL (eI) ([])) [(lo1, 1, [(eL (eI) ([]))]), (lo2, 1, [(eI (14 : Int))])] hO (by kernel_rfl) (by kernel_rfl) nE (by kernel_rfl) ?_
    intro H hO
    refine bD [(10, (.lp lo1 0 0)), (11, (.lp lo2 0 0))] ?_
    refine bL ?_
    obtain rfl := oI h0
    exact aG (bJ (aR (QM0 (.inr rfl) (rs := [.cell 10 30, .cell 11 22]) (xs := [(eL (eI) ([])), (eI (14 : Int))]) (x := (.tup [(eL (eI) ([])), (eI (14 : Int))])) (by kernel_rfl) (gX (lo := lo1) (k := 1) (y := (eL (eI) ([]))) (x := (eL (eI) ([]))) 0 hO (by kernel_rfl) (by kernel_rfl) (by kernel_rfl) (by kernel_rfl) (gX (lo := lo2) (k := 1) (y := (eI (14 : Int))) (x := (eI (14 : Int))) 1 hO (by kernel_rfl) (by kernel_rfl) (by kernel_rfl) (by kernel_rfl) lK)) (by kernel_rfl) ⟨rfl, hO.out⟩)))
  refine bS ?_
  refine iM [(0, (eI eD)), (1, (eI hop1)), (3, (eI iB)), (4, (eI eS)), (7, (.rp (bV s2))), (10, (.lp lo1 0 0)), (11, (.lp lo2 0 0))] ?_
  refine aG (aV (aH (?_)))
  refine aN ?_
  refine aP aC 3 ?_
  refine wM (xs := []) (k := 1) (by kernel_rfl) (by kernel_rfl) ?_
  refine yL 1 (.sl true 0 (fun _ => .bad)) (eL (eI) ([])) (by kernel_rfl) (by kernel_rfl) (by kernel_rfl) (nE) (by kernel_rfl) (by kernel_rfl) hO ?_
  intro lo15 H hO
  refine YY 44 1 (fun _ => .bad) (by kernel_rfl) hO (by kernel_rfl) ?_
  intro lo16 H hO
  refine iS 2 lo15 1 0 (eL (eI) ([])) (.msl 1 lo16 0 (List.length ([] : List Int))) [(eL (eI) ([]))] [(lo1, 1, [(eL (eI) ([]))]), (lo2, 1, [(eI 0)]), (lo15, 1, [(.msl 1 lo16 0 (List.length ([] : List Int)))]), (lo16, 1, List.map (eI) ([] : List Int))] hO rfl (by kernel_rfl) ?_
  intro H hO
  refine dP ?_
  refine cD [] [(12, (.lp lo15 0 0))] ?_
  refine aN ?_
  refine aN ?_
  refine aP aC 6 ?_
  refine bN 5 ?_
  obtain ⟨x17, hx18, h0⟩ := aT h0
  refine fB (AQ eD hop1 s2 iB eS _ hx18) hO ?_
  intro H hO
  refine dP ?_
  refine cD [0, 1, 3, 4, 7] [(50, (.fn (.func 54) [] [(.rp (eI x17.1)), (.rp (bV x17.2.1)), (.rp (eI x17.2.2.1)), (.rp (eI x17.2.2.2.1)), (.rp (eI x17.2.2.2.2))]))] ?_
  refine cG 1 ?_
  refine iD [(10, (.lp lo1 0 0)), (11, (.lp lo2 0 0)), (12, (.lp lo15 0 0)), (50, (.fn (.func 54) [] [(.rp (eI x17.1)), (.rp (bV x17.2.1)), (.rp (eI x17.2.2.1)), (.rp (eI x17.2.2.2.1)), (.rp (eI x17.2.2.2.2))]))] ?_
  refine iG (fun T H => ∃ t10 : (List Int), ∃ t11 : Int, ∃ gS : List Int, ∃ rR : Int, ∃ rG : bB, ∃ rP : Int, ∃ rM : Int, ∃ rL : Int, ∃ lo19 : Nat, Has T [(10, (.lp lo1 0 0)), (11, (.lp lo2 0 0)), (12, (.lp lo15 0 0)), (50, (.fn (.func 54) [] [(.rp (eI rR)), (.rp (bV rG)), (.rp (eI rP)), (.rp (eI rM)), (.rp (eI rL))]))] ∧ aJ ⟨H0, [], []⟩ H [(lo1, 1, [(eL (eI) t10)]), (lo2, 1, [(eI t11)]), (lo15, 1, [(.msl 1 lo19 0 (List.length gS))]), (lo19, 1, List.map (eI) gS)] ∧ sN t10 t11 gS rR rG rP rM rL = some r) ?_ ⟨[], 0, ([] : List Int), x17.1, x17.2.1, x17.2.2.1, x17.2.2.2.1, x17.2.2.2.2, lo16, .eq (by kernel_rfl), hO, h0⟩
  clear hO h0
  rintro T H ⟨t10, t11, gS, rR, rG, rP, rM, rL, lo19, hT, hO, h0⟩
  refine bM (l := [(10, (.lp lo1 0 0)), (11, (.lp lo2 0 0)), (12, (.lp lo15 0 0)), (50, (.fn (.func 54) [] [(.rp (eI rR)), (.rp (bV rG)), (.rp (eI rP)), (.rp (eI rM)), (.rp (eI rL))]))]) hT ?_
  clear hT
  unfold sN at h0
  obtain ⟨o0, hl0, h0⟩ := aT h0
  refine vU (fid := 54) (ys := []) (cs := [(.rp (eI rR)), (.rp (bV rG)), (.rp (eI rP)), (.rp (eI rM)), (.rp (eI rL))]) #[51] (fun (A : qJ) (b lL : Nat) (st : ((List Int) × Int × List Int) ⊕ ((List Int) × Int × List Int)) (G' : Gs) => Sum.elim (fun (s : (List Int) × Int × List Int) => ∃ lo19 : Nat, G' = (lL, .raw (fR b A .ready none)) :: (up [(lo1, 1, [(eL (eI) s.1)]), (lo2, 1, [(eI s.2.1)]), (lo15, 1, [(.msl 1 lo19 0 (List.length s.2.2))]), (lo19, 1, List.map (eI) s.2.2)] ++ [])) (fun (s : (List Int) × Int × List Int) => ∃ lo19 : Nat, G' = (lL, .raw (fR b A .done (some .ret))) :: (up [(lo1, 1, [(eL (eI) s.1)]), (lo2, 1, [(eI s.2.1)]), (lo15, 1, [(.msl 1 lo19 0 (List.length s.2.2))]), (lo19, 1, List.map (eI) s.2.2)] ++ [])) st) (.inl (t10, t11, gS)) o0 (.tup []) (by kernel_rfl) (by kernel_rfl) (by kernel_rfl) hO (fun _ _ => ⟨lo19, rfl⟩) ?_ ?_
  · intro b lL
    clear hO h0
    refine wE _ b (fun st t51 => rnd (fun (s : (List Int) × Int × List Int) => kT rR rG rP rM rL s.1 s.2.1 s.2.2 t51) st) ?_ rR rG rP rM rL _ _ hl0
    intro st t51 out1 rr hr
    obtain ⟨s, rfl, h1, rfl⟩ := FI hr
    clear hr
    intro Hr Gr hi hg
    obtain ⟨t10, t11, gS⟩ := s
    dsimp only [Sum.elim_inl] at hi
    obtain ⟨lo19, rfl⟩ := hi
    replace h1 : kT rR rG rP rM rL t10 t11 gS t51 = some out1 := h1
    unfold kT at h1
    obtain ⟨E1, hE, hO⟩ := pW hg
    refine pT (tT (hO.gm 0 _ rfl).2 (by kernel_rfl) (by kernel_rfl) ?_)
    refine iD [(10, (.lp lo1 0 0)), (11, (.lp lo2 0 0)), (12, (.lp lo15 0 0)), (50, (.fn (.func 54) [] [(.rp (eI rR)), (.rp (bV rG)), (.rp (eI rP)), (.rp (eI rM)), (.rp (eI rL))])), (51, (eI t51))] ?_
    refine aP aC 1 ?_
    refine bC ?_
    refine iM [(10, (.lp lo1 0 0)), (11, (.lp lo2 0 0)), (12, (.lp lo15 0 0)), (13, (eI t51))] ?_
    refine aG (⟨rfl, rfl, (hO.gm 0 _ rfl).2, ?_⟩)
    intro o1 ho1
    replace hO := hO.mW o1
    refine cG 2 ?_
    refine aN ?_
    refine aN ?_
    refine aP aC 3 ?_
    refine mS 2 lo15 1 0 (.msl 1 lo19 0 (List.length gS)) (.msl 1 lo19 0 (List.length gS)) [(.msl 1 lo19 0 (List.length gS))] hO rfl ?_
    refine bC ?_
    refine cD [] [(54, (aB (decide ((lN gS) = (1024 : Int)))))] ?_
    refine bR h1 (fun h1 => ?_) (fun h1 => ?_)
    · refine aN ?_
      refine aP aC 2 ?_
      refine iS 0 lo1 1 0 (eL (eI) t10) (.sl true 0 (fun _ => .bad)) [(eL (eI) t10)] [(lo1, 1, [(.sl true 0 (fun _ => .bad))]), (lo2, 1, [(eI t11)]), (lo15, 1, [(.msl 1 lo19 0 (List.length gS))]), (lo19, 1, List.map (eI) gS)] hO rfl (by kernel_rfl) ?_
      intro H hO
      refine iS 1 lo2 1 0 (eI t11) (eI (7 : Int)) [(eI t11)] [(lo1, 1, [(.sl true 0 (fun _ => .bad))]), (lo2, 1, [(eI (7 : Int))]), (lo15, 1, [(.msl 1 lo19 0 (List.length gS))]), (lo19, 1, List.map (eI) gS)] hO rfl (by kernel_rfl) ?_
      intro H hO
      refine dP ?_
      refine qS 0 lo1 1 (.sl true 0 (fun _ => .bad)) (eL (eI) ([])) [(lo1, 1, [(eL (eI) ([]))]), (lo2, 1, [(eI (7 : Int))]), (lo15, 1, [(.msl 1 lo19 0 (List.length gS))]), (lo19, 1, List.map (eI) gS)] hO (by kernel_rfl) (by kernel_rfl) nE (by kernel_rfl) ?_
      intro H hO
      refine bD [(10, (.lp lo1 0 0)), (11, (.lp lo2 0 0)), (12, (.lp lo15 0 0))] ?_
      refine bL ?_
      refine iM [(10, (.lp lo1 0 0)), (11, (.lp lo2 0 0)), (12, (.lp lo15 0 0))] ?_
      obtain rfl := oI h1
      exact aG (aR (bJ (⟨(eA hO hE ho1 .dead).1, rfl, _, ⟨lo19, rfl⟩, (eA hO hE ho1 _).2⟩)))
    refine bS ?_
    refine bD [(10, (.lp lo1 0 0)), (11, (.lp lo2 0 0)), (12, (.lp lo15 0 0)), (13, (eI t51))] ?_
    refine aP aC 5 ?_
    refine mS 2 lo15 1 0 (.msl 1 lo19 0 (List.length gS)) (.msl 1 lo19 0 (List.length gS)) [(.msl 1 lo19 0 (List.length gS))] hO rfl ?_
    refine bN 2 ?_
    refine wM (xs := [(eI t51)]) (k := 1) (by kernel_rfl) (by kernel_rfl) ?_
    obtain ⟨c22, h1⟩ := aY h1
    refine BF (e := (eI)) gS ([t51]) 3 lo19 1 8 (iT [(eI t51)]) (fun lo21 => [(lo1, 1, [(eL (eI) t10)]), (lo2, 1, [(eI t11)]), (lo15, 1, [(.msl 1 lo19 0 (List.length gS))]), (lo21, 1, List.map (eI) (gS ++ ([t51])))]) (by kernel_rfl) (by kernel_rfl) hO (by kernel_rfl) (by kernel_rfl) c22 (fun _ => by kernel_rfl) ?_
    intro lo21 H hO
    refine iS 2 lo15 1 0 (.msl 1 lo19 0 (List.length gS)) (.msl 1 lo21 0 (List.length (gS ++ ([t51])))) [(.msl 1 lo19 0 (List.length gS))] [(lo1, 1, [(eL (eI) t10)]), (lo2, 1, [(eI t11)]), (lo15, 1, [(.msl 1 lo21 0 (List.length (gS ++ ([t51]))))]), (lo21, 1, List.map (eI) (gS ++ ([t51])))] hO rfl (by kernel_rfl) ?_
    intro H hO
    refine dP ?_
    refine iM [(10, (.lp lo1 0 0)), (11, (.lp lo2 0 0)), (12, (.lp lo15 0 0))] ?_
    obtain rfl := oI h1
    exact aG (aV (⟨(eA hO hE ho1 .dead).1, rfl, _, ⟨lo21, rfl⟩, (eA hO hE ho1 _).2⟩))
  · intro b lD23 lL H' G' hi hO
    rcases o0 with s | s
    · dsimp only [Sum.elim_inl] at hi
      obtain ⟨lo19, rfl⟩ := hi
      replace h0 : (some (s.2.2, (0 : Int))) = some r := h0
      obtain ⟨hlL, hO⟩ := lV hO
      refine ⟨_, _, hlL, (by intro e; cases e), ?_⟩
      refine iM [(10, (.lp lo1 0 0)), (11, (.lp lo2 0 0)), (12, (.lp lo15 0 0))] ?_
      refine aG (aV (aH (?_)))
      refine aN ?_
      refine PA (e := (eI)) s.2.2 2 3 1 1 lo15 lo19 (List.length s.2.2) [(lo1, 1, [(eL (eI) s.1)]), (lo2, 1, [(eI s.2.1)]), (lo15, 1, [(eL (eI) s.2.2)])] hO (by kernel_rfl) (by kernel_rfl) (by kernel_rfl) (.inr (by decide)) (by kernel_rfl) ?_
      intro H hO
      refine aP aC 3 ?_
      refine mS 2 lo15 1 0 (eL (eI) s.2.2) (eL (eI) s.2.2) [(eL (eI) s.2.2)] hO rfl ?_
      refine iS 0 lo1 1 0 (eL (eI) s.1) (eL (eI) s.2.2) [(eL (eI) s.1)] [(lo1, 1, [(eL (eI) s.2.2)]), (lo2, 1, [(eI s.2.1)]), (lo15, 1, [(eL (eI) s.2.2)])] hO rfl (by kernel_rfl) ?_
      intro H hO
      refine iS 1 lo2 1 0 (eI s.2.1) (eI (0 : Int)) [(eI s.2.1)] [(lo1, 1, [(eL (eI) s.2.2)]), (lo2, 1, [(eI (0 : Int))]), (lo15, 1, [(eL (eI) s.2.2)])] hO rfl (by kernel_rfl) ?_
      intro H hO
      refine dP ?_
      replace hO := hO.pick (L' := [(lo1, 1, [(eL (eI) s.2.2)]), (lo2, 1, [(eI (0 : Int))])]) [0, 1] (by decide) (by kernel_rfl)
      refine cD [12] [] ?_
      refine bL ?_
      obtain rfl := oI h0
      have hD := (hO.gm 0 _ rfl).2
      replace hO := (hO.mW .dead).nN
      exact aG (QM1 (.inr rfl) hD (rs := [.cell 10 30, .cell 11 22]) (xs := [(eL (eI) s.2.2), (eI (0 : Int))]) (x := (.tup [(eL (eI) s.2.2), (eI (0 : Int))])) (by kernel_rfl) (gX (lo := lo1) (k := 1) (y := (eL (eI) s.2.2)) (x := (eL (eI) s.2.2)) 0 hO (by kernel_rfl) (by kernel_rfl) (by kernel_rfl) (by kernel_rfl) (gX (lo := lo2) (k := 1) (y := (eI (0 : Int))) (x := (eI (0 : Int))) 1 hO (by kernel_rfl) (by kernel_rfl) (by kernel_rfl) (by kernel_rfl) lK)) (by kernel_rfl) ⟨rfl, hO.out⟩)
    · dsimp only [Sum.elim_inr] at hi
      obtain ⟨lo19, rfl⟩ := hi
      replace h0 : (some (s.1, s.2.1)) = some r := h0
      obtain ⟨hlL, hO⟩ := lV hO
      refine ⟨_, _, hlL, (by intro e; cases e), ?_⟩
      refine bL ?_
      replace hO := hO.pick (L' := [(lo1, 1, [(eL (eI) s.1)]), (lo2, 1, [(eI s.2.1)])]) [0, 1] (by decide) (by kernel_rfl)
      obtain rfl := oI h0
      have hD := (hO.gm 0 _ rfl).2
      replace hO := (hO.mW .dead).nN
      exact aG (bJ (aR (QM1 (.inr rfl) hD (rs := [.cell 10 30, .cell 11 22]) (xs := [(eL (eI) s.1), (eI s.2.1)]) (x := (.tup [(eL (eI) s.1), (eI s.2.1)])) (by kernel_rfl) (gX (lo := lo1) (k := 1) (y := (eL (eI) s.1)) (x := (eL (eI) s.1)) 0 hO (by kernel_rfl) (by kernel_rfl) (by kernel_rfl) (by kernel_rfl) (gX (lo := lo2) (k := 1) (y := (eI s.2.1)) (x := (eI s.2.1)) 1 hO (by kernel_rfl) (by kernel_rfl) (by kernel_rfl) (by kernel_rfl) lK)) (by kernel_rfl) ⟨rfl, hO.out⟩)))

theorem BQ (l0 : (List bE)) (r : (List bE)) (h0 : pU l0 = some r) : dZ Try.prog 56 [(eL bP l0)] (.fn (.func 74) [] [(.rp (eL bP r))]) := by
  intro H0
  refine dV Try.func56 ?_
  have hO := aJ.start H0
  unfold pU at h0
  refine aN ?_
  refine aP aC 2 ?_
  refine gQ 1 (eL bP l0) (by kernel_rfl) (by kernel_rfl) ?_
  refine bC ?_
  refine bD [(1, (.rp (eL bP l0)))] ?_
  refine cO aC 2 [(2, (.fn (.func 74) [] [(.rp (eL bP l0))]))] ?_
  refine bL ?_
  obtain rfl := oI h0
  exact aG (kZ (x := (.fn (.func 74) [] [(.rp (eL bP l0))])) (by kernel_rfl) (aL.refl _) ⟨rfl, hO.out⟩)

theorem sQ (s10 : (List aD)) (s21 : (List aD)) (r : Bool) (h0 : jC s10 s21 = some r) : dZ Try.prog 76 [(eL aI s10), (eL aI s21)] (aB r) := by
  intro H0
  refine dV Try.func76 ?_
  have hO := aJ.start H0
  unfold jC at h0
  refine aS aC 1 [] [] ?_
  refine aN ?_
  refine aS aC 5 [] [(10, (aB (!decide ((lN s10) = (lN s21)))))] ?_
  refine bR h0 (fun h0 => ?_) (fun h0 => ?_)
  · refine cO aC 1 [(4, (aB false))] ?_
    refine bL ?_
    obtain rfl := oI h0
    exact aG (aR (Q_r hO))
  refine bS ?_
  refine bD [(0, (eL aI s10)), (1, (eL aI s21))] ?_
  refine jD (fun T H => Has T [] ∧ aJ ⟨H0, [], []⟩ H [] ∧ fS  = some r) ?_ ?_
  · clear hO h0
    rintro T H ⟨hT, hO, h0⟩
    refine bM hT ?_
    clear hT
    unfold fS at h0
    refine cO aC 1 [(4, (aB true))] ?_
    refine bL ?_
    obtain rfl := oI h0
    exact aG (Q_r hO)
  refine aS aC 3 [] [(12, (eI (lN s10))), (13, (eI (0 : Int)))] ?_
  refine cG 0 ?_
  refine iD [(0, (eL aI s10)), (1, (eL aI s21)), (12, (eI (lN s10))), (13, (eI (0 : Int)))] ?_
  refine iG (fun T H => ∃ t12 : Int, ∃ t13 : Int, Has T [(0, (eL aI s10)), (1, (eL aI s21)), (12, (eI t12)), (13, (eI t13))] ∧ aJ ⟨H0, [], []⟩ H [] ∧ iW s10 s21 t12 t13 = some r) ?_ ⟨(lN s10), (0 : Int), .eq (by kernel_rfl), hO, h0⟩
  clear hO h0
  rintro T H ⟨t12, t13, hT, hO, h0⟩
  refine bM hT ?_
  clear hT
  unfold iW at h0
  obtain ⟨rr0, hl0, h0⟩ := aT h0
  refine eP (by kernel_rfl) (fun (s : Int) T H => Has T [(0, (eL aI s10)), (1, (eL aI s21)), (12, (eI t12)), (13, (eI s))] ∧ aJ ⟨H0, [], []⟩ H []) hl0 ⟨.eq (by kernel_rfl), hO⟩ ?_
  clear hO
  rintro k0 s out1 T H ⟨hT, hO⟩ h1 ho0
  obtain ⟨t13, rfl⟩ : ∃ x, x = s := ⟨_, rfl⟩
  replace h1 : eR s10 s21 t12 t13 = some out1 := h1
  refine bM hT ?_
  clear hT
  unfold eR at h1
  refine aS aC 1 [] [(14, (aB (decide (t13 < t12))))] ?_
  refine aN ?_
  refine bR h1 (fun h1 => ?_) (fun h1 => ?_)
  · refine bS ?_
    refine bD [(0, (eL aI s10)), (1, (eL aI s21)), (12, (eI t12)), (13, (eI t13))] ?_
    refine aN ?_
    refine cG 1 ?_
    refine aS aC 2 [] [(5, (eI t13))] ?_
    refine aN ?_
    refine gW (gU [19, 23]) aC 9 ?_
    obtain ⟨c3, h1⟩ := aY h1
    obtain ⟨c4, h1⟩ := aY h1
    refine IK (Ds := [0 ≤ t13 ∧ t13 < (lN s10), 0 ≤ t13 ∧ t13 < (lN s21)]) (by kernel_rfl) ⟨c3, c4, trivial⟩ ?_
    refine cD [5] [(24, (aB (!((decide (((gD s10 t13).Kind) = ((gD s21 t13).Kind))) && ((decide (((gD s10 t13).Num) = ((gD s21 t13).Num))) && ((nL ((gD s10 t13).Text) ((gD s21 t13).Text)) && true))))))] ?_
    refine bR h1 (fun h1 => ?_) (fun h1 => ?_)
    · refine cO aC 1 [(4, (aB false))] ?_
      refine bL ?_
      obtain rfl := oI h1
      obtain rfl : _ = rr0 := ho0
      replace h0 : some false = some r := h0
      obtain rfl := oI h0
      exact aG (bJ (aR (aR (bJ (aR (Q_r hO))))))
    refine bS ?_
    refine iM [(0, (eL aI s10)), (1, (eL aI s21)), (12, (eI t12)), (13, (eI t13))] ?_
    refine aG (aV (aH (?_)))
    refine aP aC 2 ?_
    refine bC ?_
    exact aG (aH (⟨rfl, _, (oI h1).symm, .eq (by kernel_rfl), hO⟩))
  refine jQ 0 ?_
  obtain rfl := oI h1
  obtain rfl : _ = rr0 := ho0
  replace h0 : fS  = some r := h0
  exact aG (aW (aW (cI (aH (⟨rfl, .eq (by kernel_rfl), hO, h0⟩)))))

theorem EZ (a0 : (List aD)) (b1 : (List aD)) (r : Bool) (h0 : oS a0 b1 = some r) : dZ Try.prog 58 [(eL aI a0), (eL aI b1)] (aB r) := by
  intro H0
  refine dV Try.func58 ?_
  have hO := aJ.start H0
  unfold oS at h0
  refine aS aC 1 [] [] ?_
  refine aN ?_
  refine aP aC 4 ?_
  refine bN 2 ?_
  obtain ⟨x1, hx2, h0⟩ := aT h0
  refine fB (sQ a0 b1 _ hx2) hO ?_
  intro H hO
  refine bC ?_
  refine bD [(4, (aB x1))] ?_
  refine bL ?_
  obtain rfl := oI h0
  exact aG (Q_r hO)

theorem DJ (r0 : (List aD)) (r : (List aD)) (h0 : rI r0 = some r) : dZ Try.prog 59 [(eL aI r0)] (eL aI r) := by
  intro H0
  refine dV Try.func59 ?_
  have hO := aJ.start H0
  unfold rI at h0
  refine aS aC 1 [] [] ?_
  refine aN ?_
  refine aP aC 6 ?_
  refine bN 2 ?_
  obtain ⟨c1, h0⟩ := aY h0
  refine FH 3 32 (lN r0) (by kernel_rfl) (by kernel_rfl) c1 hO ?_
  intro lo2 H hO
  refine bN 4 ?_
  obtain ⟨c4, h0⟩ := aY h0
  refine BF (e := aI) ([] : List aD) r0 0 lo2 3 32 (eL aI r0) (fun lo3 => [(lo3, 3, List.map aI (([] : List aD) ++ r0))]) (by kernel_rfl) (by kernel_rfl) hO (by kernel_rfl) (XM (fun _ => by kernel_rfl)) c4 (fun _ => by kernel_rfl) ?_
  intro lo3 H hO
  refine bC ?_
  refine bD [(2, (.msl 3 lo3 0 (List.length (([] : List aD) ++ r0))))] ?_
  refine bL ?_
  refine iM [(2, (.msl 3 lo3 0 (List.length (([] : List aD) ++ r0))))] ?_
  refine GY (en := aI) (([] : List aD) ++ r0) 0 0 2 3 lo3 (List.length (([] : List aD) ++ r0)) hO (by kernel_rfl) (by kernel_rfl) (by kernel_rfl) (L' := []) (by kernel_rfl) ?_
  intro H5 hO
  obtain rfl := oI h0
  exact aG (Q_r hO)

theorem wW {σ : Type} (I : σ → Gs → Prop) (yield0_b : Nat) (cF : σ → (List aD) → (List aF) → Option (σ × Bool)) (yield0_h : ∀ st a0 a1 st2 r, cF st a0 a1 = some (st2, r) → uW Try.prog (yv yield0_b) I st [(eL aI a0), (eL aK a1)] st2 (aB r)) (t1 : (List bE)) (sg0 : σ) (r : σ) (h0 : mA cF t1 sg0 = some r) : sM Try.prog 74 I sg0 [(yv yield0_b), (.rp (eL bP t1))] r (.tup []) := by
  intro H0 G0 hI hg
  refine dV Try.func74 ?_
  obtain ⟨G, hO, hI⟩ : ∃ G, aJ ⟨H0, List.map (fun p : Nat × cQ => p.1) G0, G⟩ H0 [] ∧ I sg0 G := ⟨G0, aJ.xH hg, hI⟩
  clear hg
  unfold mA at h0
  refine aS aC 1 [] [(3, (eI (0 : Int)))] ?_
  refine cG 0 ?_
  refine iD [(0, (yv yield0_b)), (1, (.rp (eL bP t1))), (3, (eI (0 : Int)))] ?_
  refine iG (fun T H => ∃ sg : σ, ∃ i3 : Int, ∃ G : Gs, Has T [(0, (yv yield0_b)), (1, (.rp (eL bP t1))), (3, (eI i3))] ∧ aJ ⟨H0, List.map (fun p : Nat × cQ => p.1) G0, G⟩ H [] ∧ I sg G ∧ oO cF sg t1 i3 = some r) ?_ ⟨sg0, (0 : Int), G, .eq (by kernel_rfl), hO, hI, h0⟩
  clear hO hI h0
  rintro T H ⟨sg, i3, G, hT, hO, hI, h0⟩
  refine bM hT ?_
  clear hT
  unfold oO at h0
  obtain ⟨rr0, hl0, h0⟩ := aT h0
  refine eP (by kernel_rfl) (fun (s : σ × Int) T H => ∃ G : Gs, Has T [(0, (yv yield0_b)), (1, (.rp (eL bP t1))), (3, (eI s.2))] ∧ aJ ⟨H0, List.map (fun p : Nat × cQ => p.1) G0, G⟩ H [] ∧ I s.1 G) hl0 ⟨G, .eq (by kernel_rfl), hO, hI⟩ ?_
  clear hO hI
  rintro k0 s out1 T H ⟨G, hT, hO, hI⟩ h1 ho0
  obtain ⟨sg, i3⟩ := s
  replace h1 : iE cF t1 sg i3 = some out1 := h1
  try dsimp only at hT
  refine bM hT ?_
  clear hT
  unfold iE at h1
  refine aN ?_
  refine aS aC 4 [] [(9, (aB (decide (i3 < (lN t1)))))] ?_
  refine bR h1 (fun h1 => ?_) (fun h1 => ?_)
  · refine bS ?_
    refine bD [(0, (yv yield0_b)), (1, (.rp (eL bP t1))), (3, (eI i3))] ?_
    refine cG 1 ?_
    refine aN ?_
    refine aP aC 6 ?_
    obtain ⟨c2, h1⟩ := aY h1
    refine rX [0 ≤ i3 ∧ i3 < (lN t1)] ⟨c2, trivial⟩ ?_
    refine cD [] [(4, (eL aI ((gD t1 i3).Row)))] ?_
    refine aN ?_
    refine aP aC 2 ?_
    refine wM (xs := []) (k := 2) (by kernel_rfl) (by kernel_rfl) ?_
    refine bC ?_
    refine cD [] [(5, (.sl true 0 (fun _ => .bad)))] ?_
    refine jD (fun T H => ∃ sg : σ, ∃ i3 : Int, ∃ r4 : (List aD), ∃ f5 : List aF, ∃ lo3 : Nat, ∃ G : Gs, Has T [(0, (yv yield0_b)), (1, (.rp (eL bP t1))), (3, (eI i3)), (4, (eL aI r4)), (5, (.msl 2 lo3 0 (List.length f5)))] ∧ aJ ⟨H0, List.map (fun p : Nat × cQ => p.1) G0, G⟩ H [(lo3, 2, List.map aK f5)] ∧ I sg G ∧ mX cF sg t1 i3 r4 f5 = some out1) ?_ ?_
    · clear hO hI h1
      rintro T H ⟨sg, i3, r4, f5, lo3, G, hT, hO, hI, h1⟩
      refine bM hT ?_
      clear hT
      unfold mX at h1
      refine aN ?_
      refine aP aC 6 ?_
      refine RU (e := aK) f5 0 5 2 lo3 (List.length f5) [] (by kernel_rfl) hO (by kernel_rfl) (by kernel_rfl) (by kernel_rfl) (by kernel_rfl) ?_
      intro H hO
      refine bN 2 ?_
      obtain ⟨x7, hx8, h1⟩ := aT h1
      refine fB (DJ r4 _ hx8) hO ?_
      intro H hO
      refine bN 4 ?_
      obtain ⟨x10, hx11, h1⟩ := aT h1
      refine BB (I := I) (yv yield0_b) [(eL aI x7), (eL aK f5)] (aB x10.2) (by kernel_rfl) (by kernel_rfl) (yield0_h _ x7 f5 x10.1 x10.2 hx11) hO hI ?_
      intro G H hO hI
      refine bC ?_
      refine cD [4, 5] [(50, (aB (!x10.2)))] ?_
      refine bR h1 (fun h1 => ?_) (fun h1 => ?_)
      · refine bL ?_
        obtain rfl := oI h1
        obtain rfl : _ = rr0 := ho0
        replace h0 : some x10.1 = some r := h0
        obtain rfl := oI h0
        exact aG (bJ (aR (bJ (kZ (x := (.tup [])) (by kernel_rfl) (aL.refl _) ⟨rfl, G, hI, hO.tU⟩))))
      refine bS ?_
      exact aG (aV (aH (⟨rfl, _, (oI h1).symm, _, .eq (by kernel_rfl), hO, hI⟩)))
    refine cG 2 ?_
    refine iD [(0, (yv yield0_b)), (1, (.rp (eL bP t1))), (3, (eI i3)), (4, (eL aI ((gD t1 i3).Row))), (5, (.sl true 0 (fun _ => .bad)))] ?_
    refine XY (el := (fun _ => .bad)) 4 5 2 hO (by kernel_rfl) ?_
    intro lo24 H25 hO
    refine iG (fun T H => ∃ sg : σ, ∃ i3 : Int, ∃ r4 : (List aD), ∃ f5 : List aF, ∃ lo14 : Nat, ∃ G : Gs, Has T [(0, (yv yield0_b)), (1, (.rp (eL bP t1))), (3, (eI i3)), (4, (eL aI r4)), (5, (.msl 2 lo14 0 (List.length f5)))] ∧ aJ ⟨H0, List.map (fun p : Nat × cQ => p.1) G0, G⟩ H [(lo14, 2, List.map aK f5)] ∧ I sg G ∧ oQ cF sg t1 i3 r4 f5 = some out1) ?_ ⟨sg, i3, (gD t1 i3).Row, ([] : List aF), lo24, G, .eq (by kernel_rfl), hO, hI, h1⟩
    clear hO hI h1
    rintro T H ⟨sg, i3, r4, f5, lo14, G, hT, hO, hI, h1⟩
    refine bM hT ?_
    clear hT
    unfold oQ at h1
    obtain ⟨rr1, hl1, h1⟩ := aT h1
    refine eP (by kernel_rfl) (fun (s : σ × Int × List aF) T H => ∃ lo14 : Nat, ∃ G : Gs, Has T [(0, (yv yield0_b)), (1, (.rp (eL bP t1))), (3, (eI s.2.1)), (4, (eL aI r4)), (5, (.msl 2 lo14 0 (List.length s.2.2)))] ∧ aJ ⟨H0, List.map (fun p : Nat × cQ => p.1) G0, G⟩ H [(lo14, 2, List.map aK s.2.2)] ∧ I s.1 G) hl1 ⟨lo14, G, .eq (by kernel_rfl), hO, hI⟩ ?_
    clear hO hI
    rintro k1 s out2 T H ⟨lo14, G, hT, hO, hI⟩ h2 ho1
    obtain ⟨sg, i3, f5⟩ := s
    replace h2 : iZ cF t1 r4 sg i3 f5 = some out2 := h2
    try dsimp only at hT
    refine bM hT ?_
    clear hT
    unfold iZ at h2
    refine aN ?_
    refine aN ?_
    refine aP aC 13 ?_
    obtain ⟨c15, h2⟩ := aY h2
    refine yB 11 [(((decide (i3 < (lN t1)))) = true → 0 ≤ i3 ∧ i3 < (lN t1))] ⟨c15, trivial⟩ ?_
    obtain ⟨x16, hx17, h2⟩ := aT h2
    refine nF [(20, true)] 58 [(eL aI ((gD t1 i3).Row)), (eL aI r4)] (aB x16) (decide (i3 < (lN t1))) (by kernel_rfl) (by kernel_rfl) (by kernel_rfl) (fun hb18 => (EZ ((gD t1 i3).Row) r4 _ (kN hx17 hb18))) hO ?_
    intro H hO
    refine bC ?_
    refine cD [] [(28, (aB ((decide (i3 < (lN t1))) && x16)))] ?_
    refine bR h2 (fun h2 => ?_) (fun h2 => ?_)
    · refine bS ?_
      refine bD [(0, (yv yield0_b)), (1, (.rp (eL bP t1))), (3, (eI i3)), (4, (eL aI r4)), (5, (.msl 2 lo14 0 (List.length f5)))] ?_
      refine aN ?_
      refine cG 3 ?_
      refine gW (gU [32, 36, 37, 41, 43]) aC 15 ?_
      obtain ⟨c20, h2⟩ := aY h2
      obtain ⟨c21, h2⟩ := aY h2
      refine cE 12 [0 ≤ i3 ∧ i3 < (lN t1), 0 ≤ i3 ∧ i3 < (lN t1)] ⟨c20, c21, trivial⟩ ?_
      refine VF (xs := [(aK (aF.mk ((gD t1 i3).At) ((gD t1 i3).Net)))]) (k := 2) (by kernel_rfl) (by kernel_rfl) ?_
      obtain ⟨c23, h2⟩ := aY h2
      refine MX (e := aK) f5 ([aF.mk ((gD t1 i3).At) ((gD t1 i3).Net)]) 0 lo14 2 16 (iT [(aK (aF.mk ((gD t1 i3).At) ((gD t1 i3).Net)))]) (fun lo22 => [(lo22, 2, List.map aK (f5 ++ ([aF.mk ((gD t1 i3).At) ((gD t1 i3).Net)])))]) (by kernel_rfl) (by kernel_rfl) hO (by kernel_rfl) (by kernel_rfl) c23 (fun _ => by kernel_rfl) ?_
      intro lo22 H hO
      refine kX ?_
      refine iM [(0, (yv yield0_b)), (1, (.rp (eL bP t1))), (3, (eI i3)), (4, (eL aI r4)), (5, (.msl 2 lo22 0 (List.length (f5 ++ ([aF.mk ((gD t1 i3).At) ((gD t1 i3).Net)])))))] ?_
      refine aG (aV (aH (?_)))
      refine aP aC 3 ?_
      refine bC ?_
      exact aG (aH (⟨rfl, _, (oI h2).symm, _, _, .eq (by kernel_rfl), hO, hI⟩))
    refine jQ 2 ?_
    obtain rfl := oI h2
    obtain rfl : _ = rr1 := ho1
    replace h1 : mX cF sg t1 i3 r4 f5 = some out1 := h1
    exact aG (aW (aW (cI (aH (⟨rfl, _, _, _, _, _, _, .eq (by kernel_rfl), hO, hI, h1⟩)))))
  refine jQ 0 ?_
  obtain rfl := oI h1
  obtain rfl : _ = rr0 := ho0
  replace h0 : some sg = some r := h0
  obtain rfl := oI h0
  exact aG (aW (aW (cI (tD (x := (.tup [])) (by kernel_rfl) (aL.refl _) ⟨rfl, G, hI, hO.tU⟩))))

theorem rF (s0 : (List aD)) (f1_f : Nat) (f1_a f1_c : List V) (f1 : aD → Option Bool) (f1_h : ∀ a0 r, f1 a0 = some r → dZ Try.prog f1_f (f1_a ++ [(aI a0)] ++ f1_c) (aB r)) (r : Int) (h0 : gZ s0 f1 = some r) : dZ Try.prog 95 [(eL aI s0), (.fn (.func f1_f) f1_a f1_c)] (eI r) := by
  intro H0
  refine dV Try.func95 ?_
  have hO := aJ.start H0
  unfold gZ at h0
  refine aS aC 1 [] [] ?_
  refine jD (fun T H => Has T [] ∧ aJ ⟨H0, [], []⟩ H [] ∧ eW f1  = some r) ?_ ?_
  · clear hO h0
    rintro T H ⟨hT, hO, h0⟩
    refine bM hT ?_
    clear hT
    unfold eW at h0
    refine cO aC 1 [(4, (eI (-1 : Int)))] ?_
    refine bL ?_
    obtain rfl := oI h0
    exact aG (Q_r hO)
  refine aS aC 3 [] [(7, (eI (lN s0))), (8, (eI (0 : Int)))] ?_
  refine cG 0 ?_
  refine iD [(0, (eL aI s0)), (1, (.fn (.func f1_f) f1_a f1_c)), (7, (eI (lN s0))), (8, (eI (0 : Int)))] ?_
  refine iG (fun T H => ∃ t7 : Int, ∃ t8 : Int, Has T [(0, (eL aI s0)), (1, (.fn (.func f1_f) f1_a f1_c)), (7, (eI t7)), (8, (eI t8))] ∧ aJ ⟨H0, [], []⟩ H [] ∧ gR f1 s0 t7 t8 = some r) ?_ ⟨(lN s0), (0 : Int), .eq (by kernel_rfl), hO, h0⟩
  clear hO h0
  rintro T H ⟨t7, t8, hT, hO, h0⟩
  refine bM hT ?_
  clear hT
  unfold gR at h0
  obtain ⟨rr0, hl0, h0⟩ := aT h0
  refine eP (by kernel_rfl) (fun (s : Int) T H => Has T [(0, (eL aI s0)), (1, (.fn (.func f1_f) f1_a f1_c)), (7, (eI t7)), (8, (eI s))] ∧ aJ ⟨H0, [], []⟩ H []) hl0 ⟨.eq (by kernel_rfl), hO⟩ ?_
  clear hO
  rintro k0 s out1 T H ⟨hT, hO⟩ h1 ho0
  obtain ⟨t8, rfl⟩ : ∃ x, x = s := ⟨_, rfl⟩
  replace h1 : gT f1 s0 t7 t8 = some out1 := h1
  refine bM hT ?_
  clear hT
  unfold gT at h1
  refine aS aC 1 [] [(9, (aB (decide (t8 < t7))))] ?_
  refine aN ?_
  refine bR h1 (fun h1 => ?_) (fun h1 => ?_)
  · refine bS ?_
    refine bD [(0, (eL aI s0)), (1, (.fn (.func f1_f) f1_a f1_c)), (7, (eI t7)), (8, (eI t8))] ?_
    refine aN ?_
    refine cG 1 ?_
    refine aS aC 2 [] [(5, (eI t8))] ?_
    refine aN ?_
    refine aP aC 6 ?_
    obtain ⟨c2, h1⟩ := aY h1
    refine yB 5 [0 ≤ t8 ∧ t8 < (lN s0)] ⟨c2, trivial⟩ ?_
    obtain ⟨x3, hx4, h1⟩ := aT h1
    refine fB (f1_h (gD s0 t8) _ hx4) hO ?_
    intro H hO
    refine dP ?_
    refine cD [] [(16, (aB x3))] ?_
    refine bR h1 (fun h1 => ?_) (fun h1 => ?_)
    · refine cO aC 2 [(4, (eI t8))] ?_
      refine bL ?_
      obtain rfl := oI h1
      obtain rfl : _ = rr0 := ho0
      replace h0 : some t8 = some r := h0
      obtain rfl := oI h0
      exact aG (bJ (aR (aR (bJ (aR (Q_r hO))))))
    refine bS ?_
    refine iM [(0, (eL aI s0)), (1, (.fn (.func f1_f) f1_a f1_c)), (7, (eI t7)), (8, (eI t8))] ?_
    refine aG (aV (aH (?_)))
    refine aP aC 2 ?_
    refine bC ?_
    exact aG (aH (⟨rfl, _, (oI h1).symm, .eq (by kernel_rfl), hO⟩))
  refine jQ 0 ?_
  obtain rfl := oI h1
  obtain rfl : _ = rr0 := ho0
  replace h0 : eW f1  = some r := h0
  exact aG (aW (aW (cI (aH (⟨rfl, .eq (by kernel_rfl), hO, h0⟩)))))

theorem pL (s0 : (List aD)) (f1_f : Nat) (f1_a f1_c : List V) (f1 : aD → Option Bool) (f1_h : ∀ a0 r, f1 a0 = some r → dZ Try.prog f1_f (f1_a ++ [(aI a0)] ++ f1_c) (aB r)) (r : Bool) (h0 : eO s0 f1 = some r) : dZ Try.prog 92 [(eL aI s0), (.fn (.func f1_f) f1_a f1_c)] (aB r) := by
  intro H0
  refine dV Try.func92 ?_
  have hO := aJ.start H0
  unfold eO at h0
  refine aS aC 1 [] [] ?_
  refine aN ?_
  refine aP aC 5 ?_
  refine bN 2 ?_
  obtain ⟨x1, hx2, h0⟩ := aT h0
  refine fB (rF s0 f1_f f1_a f1_c f1 f1_h _ hx2) hO ?_
  intro H hO
  refine bC ?_
  refine bD [(4, (aB (decide ((0 : Int) ≤ x1))))] ?_
  refine bL ?_
  obtain rfl := oI h0
  exact aG (Q_r hO)

theorem sZ (v0 : aD) (r : (bA × Bool)) (h0 : kP v0 = some r) : dZ Try.prog 106 [(aI v0)] (.tup [(aX r.1), (aB r.2)]) := by
  intro H0
  refine dV Try.func106 ?_
  have hO := aJ.start H0
  unfold kP at h0
  refine aN ?_
  refine aP aC 3 ?_
  refine gQ 3 (aI v0) (by kernel_rfl) (by kernel_rfl) ?_
  refine bC ?_
  refine bD [(1, (.rp (aI v0)))] ?_
  refine aN ?_
  refine cG 0 ?_
  refine aS aC 9 [] [(4, (aB ((decide (v0.Kind = (1 : Int))) && (nL v0.Text (⟨#[]⟩ : ByteArray)))))] ?_
  refine bR h0 (fun h0 => ?_) (fun h0 => ?_)
  · refine cO aC 5 [(2, (aX (bA.k_number v0.Num))), (3, (aB true))] ?_
    refine bL ?_
    obtain rfl := oI h0
    exact aG (bJ (aR (Q_r hO)))
  refine aS aC 15 [4] [(16, (aB (((decide (v0.Kind = (2 : Int))) && (decide (v0.Num = (0 : Int)))) && (decide (((ByteArray.size v0.Text : Nat) : Int) ≤ (64 : Int))))))] ?_
  refine bR h0 (fun h0 => ?_) (fun h0 => ?_)
  · refine cO aC 5 [(2, (aX (bA.k_words v0.Text))), (3, (aB true))] ?_
    refine bL ?_
    obtain rfl := oI h0
    exact aG (bJ (aR (Q_r hO)))
  refine bS ?_
  refine iM [] ?_
  refine aG (aV (aH (?_)))
  refine cO aC 2 [(2, (aX bA.none_)), (3, (aB false))] ?_
  refine bL ?_
  obtain rfl := oI h0
  exact aG (Q_r hO)

theorem LO (v0 : aD) (r : Bool) (h0 : sG v0 = some r) : dZ Try.prog 94 [(aI v0)] (aB r) := by
  intro H0
  refine dV Try.func94 ?_
  have hO := aJ.start H0
  unfold sG at h0
  refine aN ?_
  refine aP aC 2 ?_
  refine gQ 3 (aI v0) (by kernel_rfl) (by kernel_rfl) ?_
  refine bC ?_
  refine bD [(1, (.rp (aI v0)))] ?_
  refine aN ?_
  refine aP aC 7 ?_
  refine bN 1 ?_
  obtain ⟨⟨x1_0, x1_1⟩, hx2, h0⟩ := aT h0
  refine fB (sZ v0 _ hx2) hO ?_
  intro H hO
  rcases x1_0 with _ | y4 | y5
  · replace h0 : (some x1_1) = some r := h0
    refine bC ?_
    refine bD [(4, (aB x1_1))] ?_
    refine cO aC 2 [(2, (aB x1_1))] ?_
    refine bL ?_
    obtain rfl := oI h0
    exact aG (Q_r hO)
  · replace h0 : (some x1_1) = some r := h0
    refine bC ?_
    refine bD [(4, (aB x1_1))] ?_
    refine cO aC 2 [(2, (aB x1_1))] ?_
    refine bL ?_
    obtain rfl := oI h0
    exact aG (Q_r hO)
  · replace h0 : (some x1_1) = some r := h0
    refine bC ?_
    refine bD [(4, (aB x1_1))] ?_
    refine cO aC 2 [(2, (aB x1_1))] ?_
    refine bL ?_
    obtain rfl := oI h0
    exact aG (Q_r hO)

theorem MJ (v0 : aD) (r : Bool) (h0 : sL v0 = some r) : dZ Try.prog 93 [(aI v0)] (aB r) := by
  intro H0
  refine dV Try.func93 ?_
  have hO := aJ.start H0
  unfold sL at h0
  refine aN ?_
  refine aP aC 2 ?_
  refine gQ 3 (aI v0) (by kernel_rfl) (by kernel_rfl) ?_
  refine bC ?_
  refine bD [(1, (.rp (aI v0)))] ?_
  refine aN ?_
  refine aP aC 4 ?_
  refine bN 1 ?_
  obtain ⟨x1, hx2, h0⟩ := aT h0
  refine fB (LO v0 _ hx2) hO ?_
  intro H hO
  refine bC ?_
  refine bD [(2, (aB (!x1)))] ?_
  refine bL ?_
  obtain rfl := oI h0
  exact aG (Q_r hO)

theorem zH (r0 : (List aD)) (r : Bool) (h0 : qP r0 = some r) : dZ Try.prog 71 [(eL aI r0)] (aB r) := by
  intro H0
  refine dV Try.func71 ?_
  have hO := aJ.start H0
  unfold qP at h0
  refine aS aC 1 [] [] ?_
  refine aN ?_
  refine aS aC 3 [] [(5, (aB (decide ((8 : Int) < (lN r0)))))] ?_
  refine bR h0 (fun h0 => ?_) (fun h0 => ?_)
  · refine cO aC 1 [(2, (aB false))] ?_
    refine bL ?_
    obtain rfl := oI h0
    exact aG (aR (Q_r hO))
  refine bS ?_
  refine bD [(0, (eL aI r0))] ?_
  refine aN ?_
  refine aP aC 4 ?_
  refine bN 1 ?_
  obtain ⟨x2, hx3, h0⟩ := aT h0
  refine fB (pL r0 93 [] [] (fun y0 => sL y0) (fun y0 r h => MJ y0 r h) _ hx3) hO ?_
  intro H hO
  refine bC ?_
  refine bD [(2, (aB (!x2)))] ?_
  refine bL ?_
  obtain rfl := oI h0
  exact aG (Q_r hO)

theorem DX (t0 : (List aD)) (r : (Int × (List aD))) (h0 : qD t0 = some r) : wS Try.prog 96 [(.rp (eL aI t0))] (fun lo => (.fn (.func 97) [] [(.lp lo 0 0), (.rp (eL aI r.2))])) 1 [(eI r.1)] := by
  intro H0
  refine dV Try.func96 ?_
  have hO := aJ.start H0
  unfold qD at h0
  refine aS aC 1 [] [] ?_
  refine aN ?_
  refine aP aC 2 ?_
  refine kJ 1 (eI 0) (by kernel_rfl) (by kernel_rfl) hO ?_
  intro lo1 H hO
  refine iS 0 lo1 1 0 (eI 0) (eI (-1 : Int)) [(eI 0)] [(lo1, 1, [(eI (-1 : Int))])] hO rfl (by kernel_rfl) ?_
  intro H hO
  refine dP ?_
  refine cD [] [(2, (.lp lo1 0 0))] ?_
  refine aS aC 2 [0] [(1, (.fn (.func 97) [] [(.lp lo1 0 0), (.rp (eL aI t0))]))] ?_
  refine bL ?_
  obtain rfl := oI h0
  exact aG (kZ (x := (.fn (.func 97) [] [(.lp lo1 0 0), (.rp (eL aI t0))])) (by kernel_rfl) (aL.refl _) ⟨lo1, rfl, hO⟩)

theorem qA {σ : Type} (I : σ → Gs → Prop) (s0 : (List aD)) (f1_v : V) (f1 : σ → aD → Option (σ × Bool)) (f1_h : ∀ st a0 st2 r, f1 st a0 = some (st2, r) → uW Try.prog f1_v I st [(aI a0)] st2 (aB r)) (sg0 : σ) (r : (σ × Int)) (h0 : gL s0 f1 sg0 = some r) : sM Try.prog 95 I sg0 [(eL aI s0), f1_v] r.1 (eI r.2) := by
  intro H0 G0 hI hg
  refine dV Try.func95 ?_
  obtain ⟨G, hO, hI⟩ : ∃ G, aJ ⟨H0, List.map (fun p : Nat × cQ => p.1) G0, G⟩ H0 [] ∧ I sg0 G := ⟨G0, aJ.xH hg, hI⟩
  clear hg
  unfold gL at h0
  refine aS aC 1 [] [] ?_
  refine jD (fun T H => ∃ sg : σ, ∃ G : Gs, Has T [] ∧ aJ ⟨H0, List.map (fun p : Nat × cQ => p.1) G0, G⟩ H [] ∧ I sg G ∧ eN f1 sg = some r) ?_ ?_
  · clear hO hI h0
    rintro T H ⟨sg, G, hT, hO, hI, h0⟩
    refine bM hT ?_
    clear hT
    unfold eN at h0
    refine cO aC 1 [(4, (eI (-1 : Int)))] ?_
    refine bL ?_
    obtain rfl := oI h0
    exact aG (kZ (x := (eI (-1 : Int))) (by kernel_rfl) (aL.refl _) ⟨rfl, G, hI, hO.tU⟩)
  refine aS aC 3 [] [(7, (eI (lN s0))), (8, (eI (0 : Int)))] ?_
  refine cG 0 ?_
  refine iD [(0, (eL aI s0)), (1, f1_v), (7, (eI (lN s0))), (8, (eI (0 : Int)))] ?_
  refine iG (fun T H => ∃ sg : σ, ∃ t7 : Int, ∃ t8 : Int, ∃ G : Gs, Has T [(0, (eL aI s0)), (1, f1_v), (7, (eI t7)), (8, (eI t8))] ∧ aJ ⟨H0, List.map (fun p : Nat × cQ => p.1) G0, G⟩ H [] ∧ I sg G ∧ gG f1 sg s0 t7 t8 = some r) ?_ ⟨sg0, (lN s0), (0 : Int), G, .eq (by kernel_rfl), hO, hI, h0⟩
  clear hO hI h0
  rintro T H ⟨sg, t7, t8, G, hT, hO, hI, h0⟩
  refine bM hT ?_
  clear hT
  unfold gG at h0
  obtain ⟨rr0, hl0, h0⟩ := aT h0
  refine eP (by kernel_rfl) (fun (s : σ × Int) T H => ∃ G : Gs, Has T [(0, (eL aI s0)), (1, f1_v), (7, (eI t7)), (8, (eI s.2))] ∧ aJ ⟨H0, List.map (fun p : Nat × cQ => p.1) G0, G⟩ H [] ∧ I s.1 G) hl0 ⟨G, .eq (by kernel_rfl), hO, hI⟩ ?_
  clear hO hI
  rintro k0 s out1 T H ⟨G, hT, hO, hI⟩ h1 ho0
  obtain ⟨sg, t8⟩ := s
  replace h1 : bZ f1 s0 t7 sg t8 = some out1 := h1
  try dsimp only at hT
  refine bM hT ?_
  clear hT
  unfold bZ at h1
  refine aS aC 1 [] [(9, (aB (decide (t8 < t7))))] ?_
  refine aN ?_
  refine bR h1 (fun h1 => ?_) (fun h1 => ?_)
  · refine bS ?_
    refine bD [(0, (eL aI s0)), (1, f1_v), (7, (eI t7)), (8, (eI t8))] ?_
    refine aN ?_
    refine cG 1 ?_
    refine aS aC 2 [] [(5, (eI t8))] ?_
    refine aN ?_
    refine aP aC 6 ?_
    obtain ⟨c2, h1⟩ := aY h1
    refine yB 5 [0 ≤ t8 ∧ t8 < (lN s0)] ⟨c2, trivial⟩ ?_
    obtain ⟨x3, hx4, h1⟩ := aT h1
    refine BB (I := I) f1_v [(aI (gD s0 t8))] (aB x3.2) (by kernel_rfl) (by kernel_rfl) (f1_h _ (gD s0 t8) x3.1 x3.2 hx4) hO hI ?_
    intro G H hO hI
    refine dP ?_
    refine cD [] [(16, (aB x3.2))] ?_
    refine bR h1 (fun h1 => ?_) (fun h1 => ?_)
    · refine cO aC 2 [(4, (eI t8))] ?_
      refine bL ?_
      obtain rfl := oI h1
      obtain rfl : _ = rr0 := ho0
      replace h0 : some (x3.1, t8) = some r := h0
      obtain rfl := oI h0
      exact aG (bJ (aR (aR (bJ (aR (kZ (x := (eI t8)) (by kernel_rfl) (aL.refl _) ⟨rfl, G, hI, hO.tU⟩))))))
    refine bS ?_
    refine iM [(0, (eL aI s0)), (1, f1_v), (7, (eI t7)), (8, (eI t8))] ?_
    refine aG (aV (aH (?_)))
    refine aP aC 2 ?_
    refine bC ?_
    exact aG (aH (⟨rfl, _, (oI h1).symm, _, .eq (by kernel_rfl), hO, hI⟩))
  refine jQ 0 ?_
  obtain rfl := oI h1
  obtain rfl : _ = rr0 := ho0
  replace h0 : eN f1 sg = some r := h0
  exact aG (aW (aW (cI (aH (⟨rfl, _, _, .eq (by kernel_rfl), hO, hI, h0⟩)))))

theorem BK (v0 : aD) (lo1p : Nat) (t1 : Int) (t2 : (List aD)) (r : (Bool × Int)) (h0 : jI v0 t1 t2 = some r) : lS Try.prog 97 lo1p 1 [(eI t1)] [(eI r.2)] [(aI v0), (.lp lo1p 0 0), (.rp (eL aI t2))] (aB r.1) := by
  intro H0 hl0
  refine dV Try.func97 ?_
  have hO := aJ.qX hl0
  clear hl0
  unfold jI at h0
  refine aN ?_
  refine aP aC 2 ?_
  refine gQ 3 (aI v0) (by kernel_rfl) (by kernel_rfl) ?_
  refine bC ?_
  refine cD [0] [(3, (.rp (aI v0)))] ?_
  refine aN ?_
  refine aP aC 3 ?_
  refine mS 0 lo1p 1 0 (eI t1) (eI t1) [(eI t1)] hO rfl ?_
  refine bN 2 ?_
  refine iS 0 lo1p 1 0 (eI t1) (eI (wR (t1 + (1 : Int)))) [(eI t1)] [(lo1p, 1, [(eI (wR (t1 + (1 : Int))))])] hO rfl (by kernel_rfl) ?_
  intro H hO
  refine dP ?_
  refine cD [] [] ?_
  refine aN ?_
  refine gW (gU [7, 8, 11]) aC 7 ?_
  refine lJ 2 ?_
  refine gJ 0 lo1p 1 0 (eI (wR (t1 + (1 : Int)))) (eI (wR (t1 + (1 : Int)))) [(eI (wR (t1 + (1 : Int))))] hO rfl ?_
  obtain ⟨c1, h0⟩ := aY h0
  refine IK (Ds := [0 ≤ (wR (t1 + (1 : Int))) ∧ (wR (t1 + (1 : Int))) < (lN t2)]) (by kernel_rfl) ⟨c1, trivial⟩ ?_
  refine bD [(1, (.lp lo1p 0 0)), (4, (aB (!((decide (v0.Kind = ((gD t2 (wR (t1 + (1 : Int)))).Kind))) && ((decide (v0.Num = ((gD t2 (wR (t1 + (1 : Int)))).Num))) && ((nL v0.Text ((gD t2 (wR (t1 + (1 : Int)))).Text)) && true))))))] ?_
  refine bL ?_
  obtain rfl := oI h0
  exact aG (kZ (x := (aB (!((decide (v0.Kind = ((gD t2 (wR (t1 + (1 : Int)))).Kind))) && ((decide (v0.Num = ((gD t2 (wR (t1 + (1 : Int)))).Num))) && ((nL v0.Text ((gD t2 (wR (t1 + (1 : Int)))).Text)) && true)))))) (by kernel_rfl) (aL.refl _) ⟨rfl, hO.ext, hO.at 0 (by kernel_rfl), rfl⟩)

theorem qL (x0 : Int) (r : Bool) (h0 : kK x0 = some r) : dZ Try.prog 105 [(eI x0)] (aB r) := by
  intro H0
  refine dV Try.func105 ?_
  have hO := aJ.start H0
  unfold kK at h0
  refine aS aC 1 [] [] ?_
  refine cO aC 4 [(2, (aB (!decide (x0 = x0))))] ?_
  refine bL ?_
  obtain rfl := oI h0
  exact aG (Q_r hO)

theorem BN (x0 : Int) (y1 : Int) (r : Int) (h0 : mO x0 y1 = some r) : dZ Try.prog 98 [(eI x0), (eI y1)] (eI r) := by
  intro H0
  refine dV Try.func98 ?_
  have hO := aJ.start H0
  unfold mO at h0
  refine aS aC 1 [] [] ?_
  refine aN ?_
  refine aP aC 3 ?_
  refine bN 1 ?_
  obtain ⟨x1, hx2, h0⟩ := aT h0
  refine fB (qL x0 _ hx2) hO ?_
  intro H hO
  refine bC ?_
  refine cD [] [(5, (aB x1))] ?_
  refine aN ?_
  refine aP aC 3 ?_
  refine bN 1 ?_
  obtain ⟨x4, hx5, h0⟩ := aT h0
  refine fB (qL y1 _ hx5) hO ?_
  intro H hO
  refine bC ?_
  refine cD [] [(6, (aB x4))] ?_
  refine aN ?_
  refine aS aC 1 [5] [(11, (aB x1))] ?_
  refine bR h0 (fun h0 => ?_) (fun h0 => ?_)
  · refine aN ?_
    refine cO aC 1 [(12, (aB x4))] ?_
    refine bR h0 (fun h0 => ?_) (fun h0 => ?_)
    · refine cO aC 1 [(4, (eI (0 : Int)))] ?_
      refine bL ?_
      obtain rfl := oI h0
      exact aG (aR (aR (Q_r hO)))
    refine bS ?_
    refine bD [] ?_
    refine cO aC 1 [(4, (eI (-1 : Int)))] ?_
    refine bL ?_
    obtain rfl := oI h0
    exact aG (aR (Q_r hO))
  refine bS ?_
  refine bD [(0, (eI x0)), (1, (eI y1)), (6, (aB x4))] ?_
  refine aN ?_
  refine aS aC 1 [6] [(13, (aB x4))] ?_
  refine bR h0 (fun h0 => ?_) (fun h0 => ?_)
  · refine cO aC 1 [(4, (eI (1 : Int)))] ?_
    refine bL ?_
    obtain rfl := oI h0
    exact aG (aR (Q_r hO))
  refine bS ?_
  refine bD [(0, (eI x0)), (1, (eI y1))] ?_
  refine aN ?_
  refine aS aC 3 [] [(16, (aB (decide (x0 < y1))))] ?_
  refine bR h0 (fun h0 => ?_) (fun h0 => ?_)
  · refine cO aC 1 [(4, (eI (-1 : Int)))] ?_
    refine bL ?_
    obtain rfl := oI h0
    exact aG (aR (Q_r hO))
  refine bS ?_
  refine bD [(0, (eI x0)), (1, (eI y1))] ?_
  refine aN ?_
  refine cO aC 3 [(19, (aB (decide (y1 < x0))))] ?_
  refine bR h0 (fun h0 => ?_) (fun h0 => ?_)
  · refine cO aC 1 [(4, (eI (1 : Int)))] ?_
    refine bL ?_
    obtain rfl := oI h0
    exact aG (aR (Q_r hO))
  refine bS ?_
  refine bD [] ?_
  refine cO aC 1 [(4, (eI (0 : Int)))] ?_
  refine bL ?_
  obtain rfl := oI h0
  exact aG (Q_r hO)

theorem rB (x0 : Int) (r : Bool) (h0 : jZ x0 = some r) : dZ Try.prog 110 [(eI x0)] (aB r) := by
  intro H0
  refine dV Try.func110 ?_
  have hO := aJ.start H0
  unfold jZ at h0
  refine aS aC 1 [] [] ?_
  refine cO aC 4 [(2, (aB (!decide (x0 = x0))))] ?_
  refine bL ?_
  obtain rfl := oI h0
  exact aG (Q_r hO)

theorem uQ (x0 : Int) (y1 : Int) (r : Int) (h0 : fI x0 y1 = some r) : dZ Try.prog 107 [(eI x0), (eI y1)] (eI r) := by
  intro H0
  refine dV Try.func107 ?_
  have hO := aJ.start H0
  unfold fI at h0
  refine aS aC 1 [] [] ?_
  refine aN ?_
  refine aP aC 3 ?_
  refine bN 1 ?_
  obtain ⟨x1, hx2, h0⟩ := aT h0
  refine fB (rB x0 _ hx2) hO ?_
  intro H hO
  refine bC ?_
  refine cD [] [(5, (aB x1))] ?_
  refine aN ?_
  refine aP aC 3 ?_
  refine bN 1 ?_
  obtain ⟨x4, hx5, h0⟩ := aT h0
  refine fB (rB y1 _ hx5) hO ?_
  intro H hO
  refine bC ?_
  refine cD [] [(6, (aB x4))] ?_
  refine aN ?_
  refine aS aC 1 [5] [(11, (aB x1))] ?_
  refine bR h0 (fun h0 => ?_) (fun h0 => ?_)
  · refine aN ?_
    refine cO aC 1 [(12, (aB x4))] ?_
    refine bR h0 (fun h0 => ?_) (fun h0 => ?_)
    · refine cO aC 1 [(4, (eI (0 : Int)))] ?_
      refine bL ?_
      obtain rfl := oI h0
      exact aG (aR (aR (Q_r hO)))
    refine bS ?_
    refine bD [] ?_
    refine cO aC 1 [(4, (eI (-1 : Int)))] ?_
    refine bL ?_
    obtain rfl := oI h0
    exact aG (aR (Q_r hO))
  refine bS ?_
  refine bD [(0, (eI x0)), (1, (eI y1)), (6, (aB x4))] ?_
  refine aN ?_
  refine aS aC 1 [6] [(13, (aB x4))] ?_
  refine bR h0 (fun h0 => ?_) (fun h0 => ?_)
  · refine cO aC 1 [(4, (eI (1 : Int)))] ?_
    refine bL ?_
    obtain rfl := oI h0
    exact aG (aR (Q_r hO))
  refine bS ?_
  refine bD [(0, (eI x0)), (1, (eI y1))] ?_
  refine aN ?_
  refine aS aC 3 [] [(16, (aB (decide (x0 < y1))))] ?_
  refine bR h0 (fun h0 => ?_) (fun h0 => ?_)
  · refine cO aC 1 [(4, (eI (-1 : Int)))] ?_
    refine bL ?_
    obtain rfl := oI h0
    exact aG (aR (Q_r hO))
  refine bS ?_
  refine bD [(0, (eI x0)), (1, (eI y1))] ?_
  refine aN ?_
  refine cO aC 3 [(19, (aB (decide (y1 < x0))))] ?_
  refine bR h0 (fun h0 => ?_) (fun h0 => ?_)
  · refine cO aC 1 [(4, (eI (1 : Int)))] ?_
    refine bL ?_
    obtain rfl := oI h0
    exact aG (aR (Q_r hO))
  refine bS ?_
  refine bD [] ?_
  refine cO aC 1 [(4, (eI (0 : Int)))] ?_
  refine bL ?_
  obtain rfl := oI h0
  exact aG (Q_r hO)

theorem sS (a0 : ByteArray) (b1 : ByteArray) (r : Int) (h0 : jA a0 b1 = some r) : dZ Try.prog 111 [(xA a0), (xA b1)] (eI r) := by
  intro H0
  refine dV Try.func111 ?_
  have hO := aJ.start H0
  unfold jA at h0
  refine aS aC 1 [] [] ?_
  refine aN ?_
  refine aP aC 4 ?_
  refine bN 2 ?_
  refine XE 112 [(xA a0), (xA b1)] (eI (FU a0 b1)) (by kernel_rfl) (by kernel_rfl) (VB Try.func112 (by kernel_rfl) (by kernel_rfl) (by kernel_rfl) (by kernel_rfl) a0 b1) hO ?_
  intro H hO
  refine bC ?_
  refine bD [(4, (eI (FU a0 b1)))] ?_
  refine bL ?_
  obtain rfl := oI h0
  exact aG (Q_r hO)

theorem BM (a0 : ByteArray) (b1 : ByteArray) (r : Int) (h0 : lE a0 b1 = some r) : dZ Try.prog 108 [(xA a0), (xA b1)] (eI r) := by
  intro H0
  refine dV Try.func108 ?_
  have hO := aJ.start H0
  unfold lE at h0
  refine aS aC 1 [] [] ?_
  refine aN ?_
  refine aP aC 4 ?_
  refine bN 2 ?_
  obtain ⟨x1, hx2, h0⟩ := aT h0
  refine fB (sS a0 b1 _ hx2) hO ?_
  intro H hO
  refine bC ?_
  refine bD [(4, (eI x1))] ?_
  refine bL ?_
  obtain rfl := oI h0
  exact aG (Q_r hO)

theorem EY (a0 : aD) (b1 : aD) (r : Int) (h0 : nI a0 b1 = some r) : dZ Try.prog 99 [(aI a0), (aI b1)] (eI r) := by
  intro H0
  refine dV Try.func99 ?_
  have hO := aJ.start H0
  unfold nI at h0
  refine aN ?_
  refine aP aC 3 ?_
  refine gQ 3 (aI a0) (by kernel_rfl) (by kernel_rfl) ?_
  refine gQ 3 (aI b1) (by kernel_rfl) (by kernel_rfl) ?_
  refine bC ?_
  refine bD [(2, (.rp (aI a0))), (3, (.rp (aI b1)))] ?_
  refine aN ?_
  refine aP aC 7 ?_
  refine bN 1 ?_
  obtain ⟨⟨x1_0, x1_1⟩, hx2, h0⟩ := aT h0
  refine fB (sZ a0 _ hx2) hO ?_
  intro H hO
  rcases x1_0 with _ | y4 | y5
  · replace h0 : ((kP b1).bind fun (x6_0, x6_1) => match x6_0 with | .none_ => (cond ((!x1_1) || (!x6_1)) (some (0 : Int)) (none)) | .k_number y9 => (cond ((!x1_1) || (!x6_1)) (some (0 : Int)) (some (1 : Int))) | .k_words y10 => (cond ((!x1_1) || (!x6_1)) (some (0 : Int)) (none))) = some r := h0
    refine bC ?_
    refine cD [2] [(5, (aX bA.none_)), (6, (aB x1_1))] ?_
    refine aN ?_
    refine aP aC 7 ?_
    refine bN 1 ?_
    obtain ⟨⟨x6_0, x6_1⟩, hx7, h0⟩ := aT h0
    refine fB (sZ b1 _ hx7) hO ?_
    intro H hO
    rcases x6_0 with _ | y9 | y10
    · replace h0 : (cond ((!x1_1) || (!x6_1)) (some (0 : Int)) (none)) = some r := h0
      refine bC ?_
      refine cD [3] [(7, (aX bA.none_)), (8, (aB x6_1))] ?_
      refine aN ?_
      refine aS aC 6 [6, 8] [(28, (aB ((!x1_1) || (!x6_1))))] ?_
      refine bR h0 (fun h0 => ?_) (fun h0 => ?_)
      · refine cO aC 1 [(4, (eI (0 : Int)))] ?_
        refine bL ?_
        obtain rfl := oI h0
        exact aG (aR (Q_r hO))
      refine bS ?_
      refine bD [(5, (aX bA.none_)), (7, (aX bA.none_))] ?_
      refine aS aC 7 [] [(9, (eI 0)), (10, (aB false))] ?_
      refine aS aC 7 [] [(11, (eI 0)), (12, (aB false))] ?_
      refine aN ?_
      refine cG 0 ?_
      refine aS aC 5 [] [(39, (aB false))] ?_
      refine lI (false) (fun hc12 => ?_) (fun hc12 => ?_)
      · cases hc12
      · refine aS aC 2 [9, 10, 11, 39] [(47, (aB false))] ?_
        refine lI (false) (fun hc13 => ?_) (fun hc13 => ?_)
        · cases hc13
        · refine cO aC 2 [(5, (aX bA.none_)), (7, (aX bA.none_)), (49, (aB false))] ?_
          refine lI (false) (fun hc14 => ?_) (fun hc14 => ?_)
          · cases hc14
          · refine bS ?_
            refine iM [(5, (aX bA.none_)), (7, (aX bA.none_))] ?_
            refine aG (aV (aH (?_)))
            refine aN ?_
            refine gW (gU []) aC 6 ?_
            cases h0
    · replace h0 : (cond ((!x1_1) || (!x6_1)) (some (0 : Int)) (some (1 : Int))) = some r := h0
      refine bC ?_
      refine cD [3] [(7, (aX (bA.k_number y9))), (8, (aB x6_1))] ?_
      refine aN ?_
      refine aS aC 6 [6, 8] [(28, (aB ((!x1_1) || (!x6_1))))] ?_
      refine bR h0 (fun h0 => ?_) (fun h0 => ?_)
      · refine cO aC 1 [(4, (eI (0 : Int)))] ?_
        refine bL ?_
        obtain rfl := oI h0
        exact aG (aR (Q_r hO))
      refine bS ?_
      refine bD [(5, (aX bA.none_)), (7, (aX (bA.k_number y9)))] ?_
      refine aS aC 7 [] [(9, (eI 0)), (10, (aB false))] ?_
      refine aS aC 7 [] [(11, (eI y9)), (12, (aB true))] ?_
      refine aN ?_
      refine cG 0 ?_
      refine aS aC 5 [] [(39, (aB false))] ?_
      refine lI (false) (fun hc16 => ?_) (fun hc16 => ?_)
      · cases hc16
      · refine aS aC 2 [9, 10, 11, 39] [(47, (aB false))] ?_
        refine lI (false) (fun hc17 => ?_) (fun hc17 => ?_)
        · cases hc17
        · refine cO aC 2 [(5, (aX bA.none_)), (7, (aX (bA.k_number y9))), (49, (aB true))] ?_
          refine lI (true) (fun hc18 => ?_) (fun hc18 => ?_)
          · refine cO aC 1 [(4, (eI (1 : Int)))] ?_
            refine bL ?_
            obtain rfl := oI h0
            exact aG (bJ (aR (Q_r hO)))
          · cases hc18
    · replace h0 : (cond ((!x1_1) || (!x6_1)) (some (0 : Int)) (none)) = some r := h0
      refine bC ?_
      refine cD [3] [(7, (aX (bA.k_words y10))), (8, (aB x6_1))] ?_
      refine aN ?_
      refine aS aC 6 [6, 8] [(28, (aB ((!x1_1) || (!x6_1))))] ?_
      refine bR h0 (fun h0 => ?_) (fun h0 => ?_)
      · refine cO aC 1 [(4, (eI (0 : Int)))] ?_
        refine bL ?_
        obtain rfl := oI h0
        exact aG (aR (Q_r hO))
      refine bS ?_
      refine bD [(5, (aX bA.none_)), (7, (aX (bA.k_words y10)))] ?_
      refine aS aC 7 [] [(9, (eI 0)), (10, (aB false))] ?_
      refine aS aC 7 [] [(11, (eI 0)), (12, (aB false))] ?_
      refine aN ?_
      refine cG 0 ?_
      refine aS aC 5 [] [(39, (aB false))] ?_
      refine lI (false) (fun hc20 => ?_) (fun hc20 => ?_)
      · cases hc20
      · refine aS aC 2 [9, 10, 11, 39] [(47, (aB false))] ?_
        refine lI (false) (fun hc21 => ?_) (fun hc21 => ?_)
        · cases hc21
        · refine cO aC 2 [(5, (aX bA.none_)), (7, (aX (bA.k_words y10))), (49, (aB false))] ?_
          refine lI (false) (fun hc22 => ?_) (fun hc22 => ?_)
          · cases hc22
          · refine bS ?_
            refine iM [(5, (aX bA.none_)), (7, (aX (bA.k_words y10)))] ?_
            refine aG (aV (aH (?_)))
            refine aN ?_
            refine gW (gU []) aC 6 ?_
            cases h0
  · replace h0 : ((kP b1).bind fun (x23_0, x23_1) => match x23_0 with | .none_ => (cond ((!x1_1) || (!x23_1)) (some (0 : Int)) (some (-1 : Int))) | .k_number y26 => (cond ((!x1_1) || (!x23_1)) (some (0 : Int)) ((fI y4 y26).bind fun x33 => some x33)) | .k_words y27 => (cond ((!x1_1) || (!x23_1)) (some (0 : Int)) (some (-1 : Int)))) = some r := h0
    refine bC ?_
    refine cD [2] [(5, (aX (bA.k_number y4))), (6, (aB x1_1))] ?_
    refine aN ?_
    refine aP aC 7 ?_
    refine bN 1 ?_
    obtain ⟨⟨x23_0, x23_1⟩, hx24, h0⟩ := aT h0
    refine fB (sZ b1 _ hx24) hO ?_
    intro H hO
    rcases x23_0 with _ | y26 | y27
    · replace h0 : (cond ((!x1_1) || (!x23_1)) (some (0 : Int)) (some (-1 : Int))) = some r := h0
      refine bC ?_
      refine cD [3] [(7, (aX bA.none_)), (8, (aB x23_1))] ?_
      refine aN ?_
      refine aS aC 6 [6, 8] [(28, (aB ((!x1_1) || (!x23_1))))] ?_
      refine bR h0 (fun h0 => ?_) (fun h0 => ?_)
      · refine cO aC 1 [(4, (eI (0 : Int)))] ?_
        refine bL ?_
        obtain rfl := oI h0
        exact aG (aR (Q_r hO))
      refine bS ?_
      refine bD [(5, (aX (bA.k_number y4))), (7, (aX bA.none_))] ?_
      refine aS aC 7 [] [(9, (eI y4)), (10, (aB true))] ?_
      refine aS aC 7 [] [(11, (eI 0)), (12, (aB false))] ?_
      refine aN ?_
      refine cG 0 ?_
      refine aS aC 5 [] [(39, (aB false))] ?_
      refine lI (false) (fun hc29 => ?_) (fun hc29 => ?_)
      · cases hc29
      · refine aS aC 2 [9, 10, 11, 39] [(47, (aB true))] ?_
        refine lI (true) (fun hc30 => ?_) (fun hc30 => ?_)
        · refine cO aC 1 [(4, (eI (-1 : Int)))] ?_
          refine bL ?_
          obtain rfl := oI h0
          exact aG (bJ (aR (Q_r hO)))
        · cases hc30
    · replace h0 : (cond ((!x1_1) || (!x23_1)) (some (0 : Int)) ((fI y4 y26).bind fun x33 => some x33)) = some r := h0
      refine bC ?_
      refine cD [3] [(7, (aX (bA.k_number y26))), (8, (aB x23_1))] ?_
      refine aN ?_
      refine aS aC 6 [6, 8] [(28, (aB ((!x1_1) || (!x23_1))))] ?_
      refine bR h0 (fun h0 => ?_) (fun h0 => ?_)
      · refine cO aC 1 [(4, (eI (0 : Int)))] ?_
        refine bL ?_
        obtain rfl := oI h0
        exact aG (aR (Q_r hO))
      refine bS ?_
      refine bD [(5, (aX (bA.k_number y4))), (7, (aX (bA.k_number y26)))] ?_
      refine aS aC 7 [] [(9, (eI y4)), (10, (aB true))] ?_
      refine aS aC 7 [] [(11, (eI y26)), (12, (aB true))] ?_
      refine aN ?_
      refine cG 0 ?_
      refine aS aC 5 [] [(39, (aB true))] ?_
      refine lI (true) (fun hc32 => ?_) (fun hc32 => ?_)
      · refine aN ?_
        refine aP aC 4 ?_
        refine bN 2 ?_
        obtain ⟨x33, hx34, h0⟩ := aT h0
        refine fB (uQ y4 y26 _ hx34) hO ?_
        intro H hO
        refine bC ?_
        refine bD [(4, (eI x33))] ?_
        refine bL ?_
        obtain rfl := oI h0
        exact aG (bJ (aR (Q_r hO)))
      · cases hc32
    · replace h0 : (cond ((!x1_1) || (!x23_1)) (some (0 : Int)) (some (-1 : Int))) = some r := h0
      refine bC ?_
      refine cD [3] [(7, (aX (bA.k_words y27))), (8, (aB x23_1))] ?_
      refine aN ?_
      refine aS aC 6 [6, 8] [(28, (aB ((!x1_1) || (!x23_1))))] ?_
      refine bR h0 (fun h0 => ?_) (fun h0 => ?_)
      · refine cO aC 1 [(4, (eI (0 : Int)))] ?_
        refine bL ?_
        obtain rfl := oI h0
        exact aG (aR (Q_r hO))
      refine bS ?_
      refine bD [(5, (aX (bA.k_number y4))), (7, (aX (bA.k_words y27)))] ?_
      refine aS aC 7 [] [(9, (eI y4)), (10, (aB true))] ?_
      refine aS aC 7 [] [(11, (eI 0)), (12, (aB false))] ?_
      refine aN ?_
      refine cG 0 ?_
      refine aS aC 5 [] [(39, (aB false))] ?_
      refine lI (false) (fun hc37 => ?_) (fun hc37 => ?_)
      · cases hc37
      · refine aS aC 2 [9, 10, 11, 39] [(47, (aB true))] ?_
        refine lI (true) (fun hc38 => ?_) (fun hc38 => ?_)
        · refine cO aC 1 [(4, (eI (-1 : Int)))] ?_
          refine bL ?_
          obtain rfl := oI h0
          exact aG (bJ (aR (Q_r hO)))
        · cases hc38
  · replace h0 : ((kP b1).bind fun (x39_0, x39_1) => match x39_0 with | .none_ => (cond ((!x1_1) || (!x39_1)) (some (0 : Int)) (none)) | .k_number y42 => (cond ((!x1_1) || (!x39_1)) (some (0 : Int)) (some (1 : Int))) | .k_words y43 => (cond ((!x1_1) || (!x39_1)) (some (0 : Int)) ((lE y5 y43).bind fun x56 => some x56))) = some r := h0
    refine bC ?_
    refine cD [2] [(5, (aX (bA.k_words y5))), (6, (aB x1_1))] ?_
    refine aN ?_
    refine aP aC 7 ?_
    refine bN 1 ?_
    obtain ⟨⟨x39_0, x39_1⟩, hx40, h0⟩ := aT h0
    refine fB (sZ b1 _ hx40) hO ?_
    intro H hO
    rcases x39_0 with _ | y42 | y43
    · replace h0 : (cond ((!x1_1) || (!x39_1)) (some (0 : Int)) (none)) = some r := h0
      refine bC ?_
      refine cD [3] [(7, (aX bA.none_)), (8, (aB x39_1))] ?_
      refine aN ?_
      refine aS aC 6 [6, 8] [(28, (aB ((!x1_1) || (!x39_1))))] ?_
      refine bR h0 (fun h0 => ?_) (fun h0 => ?_)
      · refine cO aC 1 [(4, (eI (0 : Int)))] ?_
        refine bL ?_
        obtain rfl := oI h0
        exact aG (aR (Q_r hO))
      refine bS ?_
      refine bD [(5, (aX (bA.k_words y5))), (7, (aX bA.none_))] ?_
      refine aS aC 7 [] [(9, (eI 0)), (10, (aB false))] ?_
      refine aS aC 7 [] [(11, (eI 0)), (12, (aB false))] ?_
      refine aN ?_
      refine cG 0 ?_
      refine aS aC 5 [] [(39, (aB false))] ?_
      refine lI (false) (fun hc45 => ?_) (fun hc45 => ?_)
      · cases hc45
      · refine aS aC 2 [9, 10, 11, 39] [(47, (aB false))] ?_
        refine lI (false) (fun hc46 => ?_) (fun hc46 => ?_)
        · cases hc46
        · refine cO aC 2 [(5, (aX (bA.k_words y5))), (7, (aX bA.none_)), (49, (aB false))] ?_
          refine lI (false) (fun hc47 => ?_) (fun hc47 => ?_)
          · cases hc47
          · refine bS ?_
            refine iM [(5, (aX (bA.k_words y5))), (7, (aX bA.none_))] ?_
            refine aG (aV (aH (?_)))
            refine aN ?_
            refine gW (gU []) aC 6 ?_
            cases h0
    · replace h0 : (cond ((!x1_1) || (!x39_1)) (some (0 : Int)) (some (1 : Int))) = some r := h0
      refine bC ?_
      refine cD [3] [(7, (aX (bA.k_number y42))), (8, (aB x39_1))] ?_
      refine aN ?_
      refine aS aC 6 [6, 8] [(28, (aB ((!x1_1) || (!x39_1))))] ?_
      refine bR h0 (fun h0 => ?_) (fun h0 => ?_)
      · refine cO aC 1 [(4, (eI (0 : Int)))] ?_
        refine bL ?_
        obtain rfl := oI h0
        exact aG (aR (Q_r hO))
      refine bS ?_
      refine bD [(5, (aX (bA.k_words y5))), (7, (aX (bA.k_number y42)))] ?_
      refine aS aC 7 [] [(9, (eI 0)), (10, (aB false))] ?_
      refine aS aC 7 [] [(11, (eI y42)), (12, (aB true))] ?_
      refine aN ?_
      refine cG 0 ?_
      refine aS aC 5 [] [(39, (aB false))] ?_
      refine lI (false) (fun hc49 => ?_) (fun hc49 => ?_)
      · cases hc49
      · refine aS aC 2 [9, 10, 11, 39] [(47, (aB false))] ?_
        refine lI (false) (fun hc50 => ?_) (fun hc50 => ?_)
        · cases hc50
        · refine cO aC 2 [(5, (aX (bA.k_words y5))), (7, (aX (bA.k_number y42))), (49, (aB true))] ?_
          refine lI (true) (fun hc51 => ?_) (fun hc51 => ?_)
          · refine cO aC 1 [(4, (eI (1 : Int)))] ?_
            refine bL ?_
            obtain rfl := oI h0
            exact aG (bJ (aR (Q_r hO)))
          · cases hc51
    · replace h0 : (cond ((!x1_1) || (!x39_1)) (some (0 : Int)) ((lE y5 y43).bind fun x56 => some x56)) = some r := h0
      refine bC ?_
      refine cD [3] [(7, (aX (bA.k_words y43))), (8, (aB x39_1))] ?_
      refine aN ?_
      refine aS aC 6 [6, 8] [(28, (aB ((!x1_1) || (!x39_1))))] ?_
      refine bR h0 (fun h0 => ?_) (fun h0 => ?_)
      · refine cO aC 1 [(4, (eI (0 : Int)))] ?_
        refine bL ?_
        obtain rfl := oI h0
        exact aG (aR (Q_r hO))
      refine bS ?_
      refine bD [(5, (aX (bA.k_words y5))), (7, (aX (bA.k_words y43)))] ?_
      refine aS aC 7 [] [(9, (eI 0)), (10, (aB false))] ?_
      refine aS aC 7 [] [(11, (eI 0)), (12, (aB false))] ?_
      refine aN ?_
      refine cG 0 ?_
      refine aS aC 5 [] [(39, (aB false))] ?_
      refine lI (false) (fun hc53 => ?_) (fun hc53 => ?_)
      · cases hc53
      · refine aS aC 2 [9, 10, 11, 39] [(47, (aB false))] ?_
        refine lI (false) (fun hc54 => ?_) (fun hc54 => ?_)
        · cases hc54
        · refine cO aC 2 [(5, (aX (bA.k_words y5))), (7, (aX (bA.k_words y43))), (49, (aB false))] ?_
          refine lI (false) (fun hc55 => ?_) (fun hc55 => ?_)
          · cases hc55
          · refine bS ?_
            refine iM [(5, (aX (bA.k_words y5))), (7, (aX (bA.k_words y43)))] ?_
            refine aG (aV (aH (?_)))
            refine aN ?_
            refine gW (gU []) aC 6 ?_
            refine lJ 4 ?_
            obtain ⟨x56, hx57, h0⟩ := aT h0
            refine wZ (BM y5 y43 _ hx57) hO ?_
            intro H hO
            refine kX ?_
            refine bD [(4, (eI x56))] ?_
            refine bL ?_
            obtain rfl := oI h0
            exact aG (Q_r hO)

theorem HU (a0 : (List aD)) (b1 : (List aD)) (r : Int) (h0 : pF a0 b1 = some r) : dZ Try.prog 72 [(eL aI a0), (eL aI b1)] (eI r) := by
  intro H0
  refine dV Try.func72 ?_
  have hO := aJ.start H0
  unfold pF at h0
  refine aN ?_
  refine aP aC 2 ?_
  refine gQ 1 (eL aI b1) (by kernel_rfl) (by kernel_rfl) ?_
  refine bC ?_
  refine cD [1] [(3, (.rp (eL aI b1)))] ?_
  refine aN ?_
  refine aN ?_
  refine aP aC 8 ?_
  refine bN 1 ?_
  obtain ⟨x1, hx2, h0⟩ := aT h0
  refine fB (zH a0 _ hx2) hO ?_
  intro H hO
  refine bN 5 ?_
  obtain ⟨x4, hx5, h0⟩ := aT h0
  refine nF [(10, false)] 71 [(eL aI b1)] (aB x4) (!(!x1)) (by kernel_rfl) (by kernel_rfl) (by kernel_rfl) (fun hb6 => (zH b1 _ (kN hx5 hb6))) hO ?_
  intro H hO
  refine bC ?_
  refine cD [] [(14, (aB ((!x1) || (!x4))))] ?_
  refine bR h0 (fun h0 => ?_) (fun h0 => ?_)
  · refine cO aC 1 [(4, (eI (0 : Int)))] ?_
    refine bL ?_
    obtain rfl := oI h0
    exact aG (aR (Q_r hO))
  refine bS ?_
  refine bD [(0, (eL aI a0)), (3, (.rp (eL aI b1)))] ?_
  refine aS aC 6 [] [(5, (eI (if (lN b1) < (lN a0) then (lN b1) else (lN a0))))] ?_
  refine aN ?_
  refine gW (gU []) aC 7 ?_
  obtain ⟨c8, h0⟩ := aY h0
  refine cE 4 [0 ≤ (if (lN b1) < (lN a0) then (lN b1) else (lN a0)) ∧ (if (lN b1) < (lN a0) then (lN b1) else (lN a0)) ≤ (lN a0)] ⟨c8, trivial⟩ ?_
  obtain ⟨x9, hx10, h0⟩ := aT h0
  refine WO (L' := fun lo11 => [(lo11, 1, [(eI x9.1)])]) 1 [(eI x9.1)] 96 [(.rp (eL aI b1))] (fun lo11 => (.fn (.func 97) [] [(.lp lo11 0 0), (.rp (eL aI x9.2))])) (by kernel_rfl) (by kernel_rfl) (DX b1 _ hx10) hO (fun _ => by kernel_rfl) ?_
  intro lo11 H hO
  obtain ⟨x12, hx13, h0⟩ := aT h0
  refine WW (fun st G' => G' = up [(lo11, 1, [(eI st)])] ++ []) [(lo11, 1, [(eI x12.1)])] x9.1 x12.1 95 [(.sl false (Int.toNat (if (lN b1) < (lN a0) then (lN b1) else (lN a0))) (fun i => aI (List.getD a0 i default))), (.fn (.func 97) [] [(.lp lo11 0 0), (.rp (eL aI x9.2))])] (eI x12.2) (by kernel_rfl) (by kernel_rfl) (sM.sub (as0' := [(eL aI (List.take (Int.toNat (if (lN b1) < (lN a0) then (lN b1) else (lN a0))) a0)), (.fn (.func 97) [] [(.lp lo11 0 0), (.rp (eL aI x9.2))])]) (qA _ (List.take (Int.toNat (if (lN b1) < (lN a0) then (lN b1) else (lN a0))) a0) (.fn (.func 97) [] [(.lp lo11 0 0), (.rp (eL aI x9.2))]) (fun st y0 => (jI y0 st x9.2).bind fun o => some (o.2, o.1)) (fun st y0 st2 rr hr => (BK y0 lo11 st x9.2 _ (ZQ hr)).toV (ys := []) (zs := [(aI y0)]) (cs := [(.lp lo11 0 0), (.rp (eL aI x9.2))]) (fun Gx hG => ⟨up [], up [] ++ [], hG, rfl⟩)) _ _ hx13) ⟨WB (Int.toNat_le.2 (And.right c8)), aL.refl _, trivial⟩) hO rfl (fun _ h => h) ?_
  intro H hO
  refine kX ?_
  replace hO := hO.pick (L' := []) [] (by decide) (by kernel_rfl)
  refine cD [5] [(6, (eI x12.2))] ?_
  refine aN ?_
  refine aS aC 2 [] [(27, (aB (decide (x12.2 < (0 : Int)))))] ?_
  refine bR h0 (fun h0 => ?_) (fun h0 => ?_)
  · refine aN ?_
    refine aP aC 6 ?_
    refine bN 4 ?_
    obtain ⟨x15, hx16, h0⟩ := aT h0
    refine fB (BN (lN a0) (lN b1) _ hx16) hO ?_
    intro H hO
    refine bC ?_
    refine bD [(4, (eI x15))] ?_
    refine bL ?_
    obtain rfl := oI h0
    exact aG (aR (Q_r hO))
  refine bS ?_
  refine bD [(0, (eL aI a0)), (3, (.rp (eL aI b1))), (6, (eI x12.2))] ?_
  refine aN ?_
  refine gW (gU [36, 37, 40, 41]) aC 10 ?_
  obtain ⟨c18, h0⟩ := aY h0
  obtain ⟨c19, h0⟩ := aY h0
  refine cE 8 [0 ≤ x12.2 ∧ x12.2 < (lN a0), 0 ≤ x12.2 ∧ x12.2 < (lN b1)] ⟨c18, c19, trivial⟩ ?_
  obtain ⟨x20, hx21, h0⟩ := aT h0
  refine wZ (EY (gD a0 x12.2) (gD b1 x12.2) _ hx21) hO ?_
  intro H hO
  refine kX ?_
  refine bD [(4, (eI x20))] ?_
  refine bL ?_
  obtain rfl := oI h0
  exact aG (Q_r hO)

theorem BW (l0 : (List bE)) (holds1_f : Nat) (holds1_a holds1_c : List V) (rD : (List aF) → Option Bool) (holds1_h : ∀ a0 r, rD a0 = some r → dZ Try.prog holds1_f (holds1_a ++ [(eL aK a0)] ++ holds1_c) (aB r)) (r : Bool) (h0 : pR l0 rD = some r) : dZ Try.prog 49 [(eL bP l0), (.fn (.func holds1_f) holds1_a holds1_c)] (aB r) := by
  intro H0
  refine xM aC Try.func49 (by kernel_rfl) (by kernel_rfl) (by kernel_rfl) ?_
  have hO := aJ.start H0
  unfold pR at h0
  refine aN ?_
  refine aP aC 2 ?_
  refine gQ 1 (.fn (.func holds1_f) holds1_a holds1_c) (by kernel_rfl) (by kernel_rfl) ?_
  refine kJ 1 (aB false) (by kernel_rfl) (by kernel_rfl) hO ?_
  intro lo1 H hO
  refine dP ?_
  refine cD [1] [(3, (.rp (.fn (.func holds1_f) holds1_a holds1_c))), (4, (.lp lo1 0 0))] ?_
  refine aN ?_
  refine aS aC 3 [] [(11, (aB (decide ((4096 : Int) < (lN l0)))))] ?_
  refine bR h0 (fun h0 => ?_) (fun h0 => ?_)
  · refine aN ?_
    refine aP aC 1 ?_
    refine iS 0 lo1 1 0 (aB false) (aB false) [(aB false)] [(lo1, 1, [(aB false)])] hO rfl (by kernel_rfl) ?_
    intro H hO
    refine dP ?_
    refine bD [(4, (.lp lo1 0 0))] ?_
    refine bL ?_
    obtain rfl := oI h0
    exact aG (aR (QM0 (.inr rfl) (rs := [.cell 4 4]) (xs := [(aB false)]) (x := (aB false)) (by kernel_rfl) (gX (lo := lo1) (k := 1) (y := (aB false)) (x := (aB false)) 0 hO (by kernel_rfl) (by kernel_rfl) (by kernel_rfl) (by kernel_rfl) lK) (by kernel_rfl) ⟨rfl, hO.out⟩))
  refine bS ?_
  refine bD [(0, (eL bP l0)), (3, (.rp (.fn (.func holds1_f) holds1_a holds1_c))), (4, (.lp lo1 0 0))] ?_
  refine aN ?_
  refine aP aC 1 ?_
  refine yL 1 (.sl true 0 (fun _ => .bad)) (eL aI ([])) (by kernel_rfl) (by kernel_rfl) (by kernel_rfl) (nE) (by kernel_rfl) (by kernel_rfl) hO ?_
  intro lo3 H hO
  refine dP ?_
  refine cD [] [(5, (.lp lo3 0 0))] ?_
  refine aN ?_
  refine aP aC 2 ?_
  refine kJ 1 (aB false) (by kernel_rfl) (by kernel_rfl) hO ?_
  intro lo4 H hO
  refine iS 2 lo4 1 0 (aB false) (aB false) [(aB false)] [(lo1, 1, [(aB false)]), (lo3, 1, [(eL aI ([]))]), (lo4, 1, [(aB false)])] hO rfl (by kernel_rfl) ?_
  intro H hO
  refine dP ?_
  refine cD [] [(6, (.lp lo4 0 0))] ?_
  refine aN ?_
  refine aN ?_
  refine aP aC 2 ?_
  refine bN 1 ?_
  obtain ⟨x5, hx6, h0⟩ := aT h0
  refine fB (BQ l0 _ hx6) hO ?_
  intro H hO
  refine dP ?_
  refine cD [0] [(13, (.fn (.func 74) [] [(.rp (eL bP x5))]))] ?_
  refine cG 0 ?_
  refine iD [(3, (.rp (.fn (.func holds1_f) holds1_a holds1_c))), (4, (.lp lo1 0 0)), (5, (.lp lo3 0 0)), (6, (.lp lo4 0 0)), (13, (.fn (.func 74) [] [(.rp (eL bP x5))]))] ?_
  refine iG (fun T H => ∃ t4 : Bool, ∃ mQ : (List aD), ∃ jL : Bool, ∃ rN : (List bE), Has T [(3, (.rp (.fn (.func holds1_f) holds1_a holds1_c))), (4, (.lp lo1 0 0)), (5, (.lp lo3 0 0)), (6, (.lp lo4 0 0)), (13, (.fn (.func 74) [] [(.rp (eL bP rN))]))] ∧ aJ ⟨H0, [], []⟩ H [(lo1, 1, [(aB t4)]), (lo3, 1, [(eL aI mQ)]), (lo4, 1, [(aB jL)])] ∧ sY rD t4 mQ jL rN = some r) ?_ ⟨false, [], false, x5, .eq (by kernel_rfl), hO, h0⟩
  clear hO h0
  rintro T H ⟨t4, mQ, jL, rN, hT, hO, h0⟩
  refine bM (l := [(3, (.rp (.fn (.func holds1_f) holds1_a holds1_c))), (4, (.lp lo1 0 0)), (5, (.lp lo3 0 0)), (6, (.lp lo4 0 0)), (13, (.fn (.func 74) [] [(.rp (eL bP rN))]))]) hT ?_
  clear hT
  unfold sY at h0
  obtain ⟨o0, hl0, h0⟩ := aT h0
  refine vU (fid := 74) (ys := []) (cs := [(.rp (eL bP rN))]) #[14, 15] (fun (A : qJ) (b lL : Nat) (st : (Bool × (List aD) × Bool) ⊕ (Bool × (List aD) × Bool)) (G' : Gs) => Sum.elim (fun (s : Bool × (List aD) × Bool) => G' = (lL, .raw (fR b A .ready none)) :: (up [(lo1, 1, [(aB s.1)]), (lo3, 1, [(eL aI s.2.1)]), (lo4, 1, [(aB s.2.2)])] ++ [])) (fun (s : Bool × (List aD) × Bool) => G' = (lL, .raw (fR b A .done (some .ret))) :: (up [(lo1, 1, [(aB s.1)]), (lo3, 1, [(eL aI s.2.1)]), (lo4, 1, [(aB s.2.2)])] ++ [])) st) (.inl (t4, mQ, jL)) o0 (.tup []) (by kernel_rfl) (by kernel_rfl) (by kernel_rfl) hO (fun _ _ => rfl) ?_ ?_
  · intro b lL
    clear hO h0
    refine wW _ b (fun st t14 t15 => rnd (fun (s : Bool × (List aD) × Bool) => mZ rD rN s.1 s.2.1 s.2.2 t14 t15) st) ?_ rN _ _ hl0
    intro st t14 t15 out1 rr hr
    obtain ⟨s, rfl, h1, rfl⟩ := FI hr
    clear hr
    intro Hr Gr hi hg
    obtain ⟨t4, mQ, jL⟩ := s
    dsimp only [Sum.elim_inl] at hi
    obtain rfl := hi
    replace h1 : mZ rD rN t4 mQ jL t14 t15 = some out1 := h1
    unfold mZ at h1
    obtain ⟨E1, hE, hO⟩ := pW hg
    refine pT (tT (hO.gm 0 _ rfl).2 (by kernel_rfl) (by kernel_rfl) ?_)
    refine iD [(3, (.rp (.fn (.func holds1_f) holds1_a holds1_c))), (4, (.lp lo1 0 0)), (5, (.lp lo3 0 0)), (6, (.lp lo4 0 0)), (13, (.fn (.func 74) [] [(.rp (eL bP rN))])), (14, (eL aI t14)), (15, (eL aK t15))] ?_
    refine aS aC 1 [13, 14] [(7, (eL aI t14))] ?_
    refine aP aC 1 ?_
    refine bC ?_
    refine iM [(3, (.rp (.fn (.func holds1_f) holds1_a holds1_c))), (4, (.lp lo1 0 0)), (5, (.lp lo3 0 0)), (6, (.lp lo4 0 0)), (7, (eL aI t14)), (8, (eL aK t15))] ?_
    refine aG (⟨rfl, rfl, (hO.gm 0 _ rfl).2, ?_⟩)
    intro o1 ho1
    replace hO := hO.mW o1
    refine cG 1 ?_
    refine aN ?_
    refine aN ?_
    refine aP aC 18 ?_
    refine bN 1 ?_
    obtain ⟨x7, hx8, h1⟩ := aT h1
    refine fB (zH t14 _ hx8) hO ?_
    intro H hO
    refine bN 4 ?_
    refine sV [(19, false)] 2 lo4 1 0 (aB jL) (aB jL) [(aB jL)] (by kernel_rfl) (by kernel_rfl) hO (by kernel_rfl) (!(!x7)) (by kernel_rfl) (fun hb10 => rfl) ?_
    refine bN 6 ?_
    refine sV [(21, true), (19, false)] 1 lo3 1 0 (eL aI mQ) (eL aI mQ) [(eL aI mQ)] (by kernel_rfl) (by kernel_rfl) hO (by kernel_rfl) (jL && (!(!x7))) (by kernel_rfl) (fun hb11 => rfl) ?_
    refine bN 8 ?_
    obtain ⟨x12, hx13, h1⟩ := aT h1
    refine nF [(21, true), (19, false)] 72 [(eL aI mQ), (eL aI t14)] (eI x12) (jL && (!(!x7))) (by kernel_rfl) (by kernel_rfl) (by kernel_rfl) (fun hb14 => (HU mQ t14 _ (kN hx13 hb14))) hO ?_
    intro H hO
    refine bN 15 ?_
    obtain ⟨x15, hx16, h1⟩ := aT h1
    refine nF [(28, false)] holds1_f (holds1_a ++ [(eL aK t15)] ++ holds1_c) (aB x15) (!((!x7) || (jL && (decide ((0 : Int) ≤ x12))))) (by kernel_rfl) (by kernel_rfl) (by kernel_rfl) (fun hb17 => (holds1_h t15 _ (kN hx16 hb17))) hO ?_
    intro H hO
    refine bC ?_
    refine cD [3, 8] [(33, (aB (((!x7) || (jL && (decide ((0 : Int) ≤ x12)))) || (!x15))))] ?_
    refine bR h1 (fun h1 => ?_) (fun h1 => ?_)
    · refine aN ?_
      refine aP aC 1 ?_
      refine iS 0 lo1 1 0 (aB t4) (aB false) [(aB t4)] [(lo1, 1, [(aB false)]), (lo3, 1, [(eL aI mQ)]), (lo4, 1, [(aB jL)])] hO rfl (by kernel_rfl) ?_
      intro H hO
      refine dP ?_
      refine cD [7, 33] [] ?_
      refine bL ?_
      refine iM [(4, (.lp lo1 0 0)), (5, (.lp lo3 0 0)), (6, (.lp lo4 0 0))] ?_
      obtain rfl := oI h1
      exact aG (aR (bJ (⟨(eA hO hE ho1 .dead).1, rfl, _, rfl, (eA hO hE ho1 _).2⟩)))
    refine bS ?_
    refine bD [(4, (.lp lo1 0 0)), (5, (.lp lo3 0 0)), (6, (.lp lo4 0 0)), (7, (eL aI t14))] ?_
    refine aP aC 3 ?_
    refine bN 1 ?_
    refine iS 1 lo3 1 0 (eL aI mQ) (eL aI t14) [(eL aI mQ)] [(lo1, 1, [(aB t4)]), (lo3, 1, [(eL aI t14)]), (lo4, 1, [(aB jL)])] hO rfl (by kernel_rfl) ?_
    intro H hO
    refine iS 2 lo4 1 0 (aB jL) (aB true) [(aB jL)] [(lo1, 1, [(aB t4)]), (lo3, 1, [(eL aI t14)]), (lo4, 1, [(aB true)])] hO rfl (by kernel_rfl) ?_
    intro H hO
    refine dP ?_
    refine iM [(4, (.lp lo1 0 0)), (5, (.lp lo3 0 0)), (6, (.lp lo4 0 0))] ?_
    obtain rfl := oI h1
    exact aG (aV (⟨(eA hO hE ho1 .dead).1, rfl, _, rfl, (eA hO hE ho1 _).2⟩))
  · intro b lD19 lL H' G' hi hO
    rcases o0 with s | s
    · dsimp only [Sum.elim_inl] at hi
      obtain rfl := hi
      replace h0 : (some true) = some r := h0
      obtain ⟨hlL, hO⟩ := lV hO
      refine ⟨_, _, hlL, (by intro e; cases e), ?_⟩
      refine iM [(4, (.lp lo1 0 0))] ?_
      replace hO := hO.pick (L' := [(lo1, 1, [(aB s.1)])]) [0] (by decide) (by kernel_rfl)
      refine aG (aV (aH (?_)))
      refine aN ?_
      refine aP aC 1 ?_
      refine iS 0 lo1 1 0 (aB s.1) (aB true) [(aB s.1)] [(lo1, 1, [(aB true)])] hO rfl (by kernel_rfl) ?_
      intro H hO
      refine dP ?_
      refine bD [(4, (.lp lo1 0 0))] ?_
      refine bL ?_
      obtain rfl := oI h0
      have hD := (hO.gm 0 _ rfl).2
      replace hO := (hO.mW .dead).nN
      exact aG (QM1 (.inr rfl) hD (rs := [.cell 4 4]) (xs := [(aB true)]) (x := (aB true)) (by kernel_rfl) (gX (lo := lo1) (k := 1) (y := (aB true)) (x := (aB true)) 0 hO (by kernel_rfl) (by kernel_rfl) (by kernel_rfl) (by kernel_rfl) lK) (by kernel_rfl) ⟨rfl, hO.out⟩)
    · dsimp only [Sum.elim_inr] at hi
      obtain rfl := hi
      replace h0 : (some s.1) = some r := h0
      obtain ⟨hlL, hO⟩ := lV hO
      refine ⟨_, _, hlL, (by intro e; cases e), ?_⟩
      refine bL ?_
      replace hO := hO.pick (L' := [(lo1, 1, [(aB s.1)])]) [0] (by decide) (by kernel_rfl)
      obtain rfl := oI h0
      have hD := (hO.gm 0 _ rfl).2
      replace hO := (hO.mW .dead).nN
      exact aG (bJ (aR (QM1 (.inr rfl) hD (rs := [.cell 4 4]) (xs := [(aB s.1)]) (x := (aB s.1)) (by kernel_rfl) (gX (lo := lo1) (k := 1) (y := (aB s.1)) (x := (aB s.1)) 0 hO (by kernel_rfl) (by kernel_rfl) (by kernel_rfl) (by kernel_rfl) lK) (by kernel_rfl) ⟨rfl, hO.out⟩)))

theorem LR (n0 : Int) (r : Bool) (h0 : tY n0 = some r) : dZ Try.prog 73 [(eI n0)] (aB r) := by
  intro H0
  refine dV Try.func73 ?_
  have hO := aJ.start H0
  unfold tY at h0
  refine aS aC 1 [] [] ?_
  refine cO aC 7 [(2, (aB ((decide (n0 ≤ (1048576 : Int))) && (decide ((-1048576 : Int) ≤ n0)))))] ?_
  refine bL ?_
  obtain rfl := oI h0
  exact aG (Q_r hO)

theorem uX (f0 : (List aF)) (r : Bool) (h0 : mR f0 = some r) : dZ Try.prog 51 [(eL aK f0)] (aB r) := by
  intro H0
  refine dV Try.func51 ?_
  have hO := aJ.start H0
  unfold mR at h0
  refine aS aC 1 [] [] ?_
  refine aN ?_
  refine aS aC 3 [] [(8, (aB (decide ((1024 : Int) < (lN f0)))))] ?_
  refine bR h0 (fun h0 => ?_) (fun h0 => ?_)
  · refine cO aC 1 [(2, (aB false))] ?_
    refine bL ?_
    obtain rfl := oI h0
    exact aG (aR (Q_r hO))
  refine bS ?_
  refine bD [(0, (eL aK f0))] ?_
  refine aS aC 1 [] [(3, (eI (-2 : Int)))] ?_
  refine jD (fun T H => Has T [] ∧ aJ ⟨H0, [], []⟩ H [] ∧ sE  = some r) ?_ ?_
  · clear hO h0
    rintro T H ⟨hT, hO, h0⟩
    refine bM hT ?_
    clear hT
    unfold sE at h0
    refine cO aC 1 [(2, (aB true))] ?_
    refine bL ?_
    obtain rfl := oI h0
    exact aG (Q_r hO)
  refine aS aC 3 [0] [(9, (eL aK f0)), (10, (eI (lN f0))), (11, (eI (0 : Int)))] ?_
  refine cG 0 ?_
  refine iD [(3, (eI (-2 : Int))), (9, (eL aK f0)), (10, (eI (lN f0))), (11, (eI (0 : Int)))] ?_
  refine iG (fun T H => ∃ nT : Int, ∃ t9 : (List aF), ∃ t10 : Int, ∃ t11 : Int, Has T [(3, (eI nT)), (9, (eL aK t9)), (10, (eI t10)), (11, (eI t11))] ∧ aJ ⟨H0, [], []⟩ H [] ∧ tX nT t9 t10 t11 = some r) ?_ ⟨(-2 : Int), f0, (lN f0), (0 : Int), .eq (by kernel_rfl), hO, h0⟩
  clear hO h0
  rintro T H ⟨nT, t9, t10, t11, hT, hO, h0⟩
  refine bM hT ?_
  clear hT
  unfold tX at h0
  obtain ⟨rr0, hl0, h0⟩ := aT h0
  refine eP (by kernel_rfl) (fun (s : Int × Int) T H => Has T [(3, (eI s.1)), (9, (eL aK t9)), (10, (eI t10)), (11, (eI s.2))] ∧ aJ ⟨H0, [], []⟩ H []) hl0 ⟨.eq (by kernel_rfl), hO⟩ ?_
  clear hO
  rintro k0 s out1 T H ⟨hT, hO⟩ h1 ho0
  obtain ⟨nT, t11⟩ := s
  replace h1 : kY t9 t10 nT t11 = some out1 := h1
  try dsimp only at hT
  refine bM hT ?_
  clear hT
  unfold kY at h1
  refine aS aC 1 [] [(12, (aB (decide (t11 < t10))))] ?_
  refine aN ?_
  refine bR h1 (fun h1 => ?_) (fun h1 => ?_)
  · refine bS ?_
    refine bD [(3, (eI nT)), (9, (eL aK t9)), (10, (eI t10)), (11, (eI t11))] ?_
    refine aN ?_
    refine cG 1 ?_
    refine aN ?_
    refine aP aC 4 ?_
    obtain ⟨c3, h1⟩ := aY h1
    refine yB 2 [0 ≤ t11 ∧ t11 < (lN t9)] ⟨c3, trivial⟩ ?_
    refine kJ 2 (aK (aF.mk 0 0)) (by kernel_rfl) (by kernel_rfl) hO ?_
    intro lo4 H hO
    refine iS 0 lo4 2 0 (aK (aF.mk 0 0)) (aK (gD t9 t11)) [(aK (aF.mk 0 0))] [(lo4, 2, [(aK (gD t9 t11))])] hO rfl (by kernel_rfl) ?_
    intro H hO
    refine dP ?_
    refine cD [] [(5, (.lp lo4 0 0))] ?_
    refine aN ?_
    refine aN ?_
    refine aP aC 20 ?_
    refine bN 1 ?_
    refine mS 0 lo4 2 0 (aK (gD t9 t11)) (eI ((gD t9 t11).At)) [(aK (gD t9 t11))] hO rfl ?_
    refine bN 6 ?_
    refine sV [(19, false)] 0 lo4 2 0 (aK (gD t9 t11)) (eI ((gD t9 t11).At)) [(aK (gD t9 t11))] (by kernel_rfl) (by kernel_rfl) hO (by kernel_rfl) (!(decide (((gD t9 t11).At) ≤ nT))) (by kernel_rfl) (fun hb5 => rfl) ?_
    refine bN 11 ?_
    refine sV [(24, false)] 0 lo4 2 0 (aK (gD t9 t11)) (eI ((gD t9 t11).Net)) [(aK (gD t9 t11))] (by kernel_rfl) (by kernel_rfl) hO (by kernel_rfl) (!((decide (((gD t9 t11).At) ≤ nT)) || (decide ((1125899906842624 : Int) ≤ ((gD t9 t11).At))))) (by kernel_rfl) (fun hb6 => rfl) ?_
    refine bN 16 ?_
    refine sV [(29, false)] 0 lo4 2 0 (aK (gD t9 t11)) (eI ((gD t9 t11).Net)) [(aK (gD t9 t11))] (by kernel_rfl) (by kernel_rfl) hO (by kernel_rfl) (!(((decide (((gD t9 t11).At) ≤ nT)) || (decide ((1125899906842624 : Int) ≤ ((gD t9 t11).At)))) || (decide (((gD t9 t11).Net) = (0 : Int))))) (by kernel_rfl) (fun hb7 => rfl) ?_
    obtain ⟨x8, hx9, h1⟩ := aT h1
    refine nF [(29, false)] 73 [(eI ((gD t9 t11).Net))] (aB x8) (!(((decide (((gD t9 t11).At) ≤ nT)) || (decide ((1125899906842624 : Int) ≤ ((gD t9 t11).At)))) || (decide (((gD t9 t11).Net) = (0 : Int))))) (by kernel_rfl) (by kernel_rfl) (by kernel_rfl) (fun hb10 => (LR ((gD t9 t11).Net) _ (kN hx9 hb10))) hO ?_
    intro H hO
    refine bC ?_
    refine cD [3] [(34, (aB ((((decide (((gD t9 t11).At) ≤ nT)) || (decide ((1125899906842624 : Int) ≤ ((gD t9 t11).At)))) || (decide (((gD t9 t11).Net) = (0 : Int)))) || (!x8))))] ?_
    refine bR h1 (fun h1 => ?_) (fun h1 => ?_)
    · refine aN ?_
      refine aP aC 1 ?_
      refine bC ?_
      refine iM [(2, (aB false))] ?_
      replace hO := hO.pick (L' := []) [] (by decide) (by kernel_rfl)
      refine aG (aH (?_))
      refine bL ?_
      obtain rfl := oI h1
      obtain rfl : _ = rr0 := ho0
      replace h0 : some false = some r := h0
      obtain rfl := oI h0
      exact aG (aR (bJ (aR (aR (bJ (aR (Q_r hO)))))))
    refine bS ?_
    refine bD [(5, (.lp lo4 0 0)), (9, (eL aK t9)), (10, (eI t10)), (11, (eI t11))] ?_
    refine aP aC 3 ?_
    refine bN 1 ?_
    refine mS 0 lo4 2 0 (aK (gD t9 t11)) (eI ((gD t9 t11).At)) [(aK (gD t9 t11))] hO rfl ?_
    refine bC ?_
    refine iM [(3, (eI ((gD t9 t11).At))), (9, (eL aK t9)), (10, (eI t10)), (11, (eI t11))] ?_
    replace hO := hO.pick (L' := []) [] (by decide) (by kernel_rfl)
    refine aG (aV (aH (?_)))
    refine aP aC 2 ?_
    refine bC ?_
    exact aG (aH (⟨rfl, _, (oI h1).symm, .eq (by kernel_rfl), hO⟩))
  refine jQ 0 ?_
  obtain rfl := oI h1
  obtain rfl : _ = rr0 := ho0
  replace h0 : sE  = some r := h0
  exact aG (aW (aW (cI (aH (⟨rfl, .eq (by kernel_rfl), hO, h0⟩)))))

theorem DM (l0 : (List bE)) (r : Bool) (h0 : rO l0 = some r) : dZ Try.prog 31 [(eL bP l0)] (aB r) := by
  intro H0
  refine dV Try.func31 ?_
  have hO := aJ.start H0
  unfold rO at h0
  refine aS aC 1 [] [] ?_
  refine aN ?_
  refine aP aC 3 ?_
  refine bN 1 ?_
  obtain ⟨x1, hx2, h0⟩ := aT h0
  refine fB (BW l0 51 [] [] (fun y0 => mR y0) (fun y0 r h => uX y0 r h) _ hx2) hO ?_
  intro H hO
  refine bC ?_
  refine bD [(2, (aB x1))] ?_
  refine bL ?_
  obtain rfl := oI h0
  exact aG (Q_r hO)

theorem JW (f0 : (List aF)) (r : Int) (h0 : qO f0 = some r) : dZ Try.prog 52 [(eL aK f0)] (eI r) := by
  intro H0
  refine dV Try.func52 ?_
  have hO := aJ.start H0
  unfold qO at h0
  refine aS aC 1 [] [] ?_
  refine aN ?_
  refine aN ?_
  refine aP aC 8 ?_
  refine bN 1 ?_
  obtain ⟨x1, hx2, h0⟩ := aT h0
  refine fB (uX f0 _ hx2) hO ?_
  intro H hO
  refine bC ?_
  refine cD [] [(14, (aB ((!x1) || (decide ((lN f0) = (0 : Int))))))] ?_
  refine bR h0 (fun h0 => ?_) (fun h0 => ?_)
  · refine cO aC 1 [(2, (eI (0 : Int)))] ?_
    refine bL ?_
    obtain rfl := oI h0
    exact aG (aR (Q_r hO))
  refine bS ?_
  refine bD [(0, (eL aK f0))] ?_
  refine aS aC 2 [] [(3, (eI (0 : Int))), (4, (eI (0 : Int)))] ?_
  refine jD (fun T H => ∃ v3 : Int, ∃ gP : Int, Has T [(0, (eL aK f0)), (3, (eI v3)), (4, (eI gP))] ∧ aJ ⟨H0, [], []⟩ H [] ∧ nH f0 v3 gP = some r) ?_ ?_
  · clear hO h0
    rintro T H ⟨v3, gP, hT, hO, h0⟩
    refine bM hT ?_
    clear hT
    unfold nH at h0
    refine jD (fun T H => ∃ gP : Int, Has T [(4, (eI gP))] ∧ aJ ⟨H0, [], []⟩ H [] ∧ pN gP = some r) ?_ ?_
    · clear hO h0
      rintro T H ⟨gP, hT, hO, h0⟩
      refine bM hT ?_
      clear hT
      unfold pN at h0
      refine cO aC 2 [(2, (eI gP))] ?_
      refine bL ?_
      obtain rfl := oI h0
      exact aG (Q_r hO)
    refine aS aC 3 [0] [(24, (eL aK f0)), (25, (eI (lN f0))), (26, (eI (0 : Int)))] ?_
    refine cG 0 ?_
    refine iD [(3, (eI v3)), (4, (eI gP)), (24, (eL aK f0)), (25, (eI (lN f0))), (26, (eI (0 : Int)))] ?_
    refine iG (fun T H => ∃ v3 : Int, ∃ gP : Int, ∃ t24 : (List aF), ∃ t25 : Int, ∃ t26 : Int, Has T [(3, (eI v3)), (4, (eI gP)), (24, (eL aK t24)), (25, (eI t25)), (26, (eI t26))] ∧ aJ ⟨H0, [], []⟩ H [] ∧ pM v3 gP t24 t25 t26 = some r) ?_ ⟨v3, gP, f0, (lN f0), (0 : Int), .eq (by kernel_rfl), hO, h0⟩
    clear hO h0
    rintro T H ⟨v3, gP, t24, t25, t26, hT, hO, h0⟩
    refine bM hT ?_
    clear hT
    unfold pM at h0
    obtain ⟨rr0, hl0, h0⟩ := aT h0
    refine eP (by kernel_rfl) (fun (s : Int × Int × Int) T H => Has T [(3, (eI s.1)), (4, (eI s.2.1)), (24, (eL aK t24)), (25, (eI t25)), (26, (eI s.2.2))] ∧ aJ ⟨H0, [], []⟩ H []) hl0 ⟨.eq (by kernel_rfl), hO⟩ ?_
    clear hO
    rintro k0 s out1 T H ⟨hT, hO⟩ h1 ho0
    obtain ⟨v3, gP, t26⟩ := s
    replace h1 : lG t24 t25 v3 gP t26 = some out1 := h1
    try dsimp only at hT
    refine bM hT ?_
    clear hT
    unfold lG at h1
    refine aS aC 1 [] [(27, (aB (decide (t26 < t25))))] ?_
    refine aN ?_
    refine bR h1 (fun h1 => ?_) (fun h1 => ?_)
    · refine bS ?_
      refine bD [(3, (eI v3)), (4, (eI gP)), (24, (eL aK t24)), (25, (eI t25)), (26, (eI t26))] ?_
      refine aN ?_
      refine cG 1 ?_
      refine aN ?_
      refine aP aC 4 ?_
      obtain ⟨c6, h1⟩ := aY h1
      refine yB 2 [0 ≤ t26 ∧ t26 < (lN t24)] ⟨c6, trivial⟩ ?_
      refine kJ 2 (aK (aF.mk 0 0)) (by kernel_rfl) (by kernel_rfl) hO ?_
      intro lo7 H hO
      refine iS 0 lo7 2 0 (aK (aF.mk 0 0)) (aK (gD t24 t26)) [(aK (aF.mk 0 0))] [(lo7, 2, [(aK (gD t24 t26))])] hO rfl (by kernel_rfl) ?_
      intro H hO
      refine dP ?_
      refine cD [] [(6, (.lp lo7 0 0))] ?_
      refine aN ?_
      refine aP aC 5 ?_
      refine bN 2 ?_
      refine mS 0 lo7 2 0 (aK (gD t24 t26)) (eI ((gD t24 t26).Net)) [(aK (gD t24 t26))] hO rfl ?_
      refine bC ?_
      replace hO := hO.pick (L' := []) [] (by decide) (by kernel_rfl)
      refine cD [3, 6] [(3, (eI (wR (v3 + ((gD t24 t26).Net)))))] ?_
      refine aP aC 4 ?_
      refine bC ?_
      refine iM [(3, (eI (wR (v3 + ((gD t24 t26).Net))))), (4, (eI (if (wR (v3 + ((gD t24 t26).Net))) < gP then (wR (v3 + ((gD t24 t26).Net))) else gP))), (24, (eL aK t24)), (25, (eI t25)), (26, (eI t26))] ?_
      refine aG (aV (aH (?_)))
      refine aP aC 2 ?_
      refine bC ?_
      exact aG (aH (⟨rfl, _, (oI h1).symm, .eq (by kernel_rfl), hO⟩))
    refine jQ 0 ?_
    obtain rfl := oI h1
    obtain rfl : _ = rr0 := ho0
    replace h0 : pN gP = some r := h0
    exact aG (aW (aW (cI (aH (⟨rfl, _, .eq (by kernel_rfl), hO, h0⟩)))))
  refine aN ?_
  refine aP aC 5 ?_
  obtain ⟨c8, h0⟩ := aY h0
  refine rX [0 ≤ (0 : Int) ∧ (0 : Int) < (lN f0)] ⟨c8, trivial⟩ ?_
  refine cD [] [(19, (aB (decide (((gD f0 (0 : Int)).At) = (-1 : Int)))))] ?_
  refine bR h0 (fun h0 => ?_) (fun h0 => ?_)
  · refine aP aC 5 ?_
    obtain ⟨c10, h0⟩ := aY h0
    refine rX [0 ≤ (0 : Int) ∧ (0 : Int) < (lN f0)] ⟨c10, trivial⟩ ?_
    exact aG (aH (⟨rfl, _, _, .eq (by kernel_rfl), hO, h0⟩))
  refine bS ?_
  exact aG (aH (⟨rfl, _, _, .eq (by kernel_rfl), hO, h0⟩))

theorem FG (f0 : (List aF)) (r : Bool) (h0 : nX f0 = some r) : dZ Try.prog 50 [(eL aK f0)] (aB r) := by
  intro H0
  refine dV Try.func50 ?_
  have hO := aJ.start H0
  unfold nX at h0
  refine aS aC 1 [] [] ?_
  refine aN ?_
  refine aP aC 8 ?_
  refine bN 1 ?_
  obtain ⟨x1, hx2, h0⟩ := aT h0
  refine fB (uX f0 _ hx2) hO ?_
  intro H hO
  refine bN 4 ?_
  obtain ⟨x4, hx5, h0⟩ := aT h0
  refine nF [(5, true)] 52 [(eL aK f0)] (eI x4) x1 (by kernel_rfl) (by kernel_rfl) (by kernel_rfl) (fun hb6 => (JW f0 _ (kN hx5 hb6))) hO ?_
  intro H hO
  refine bC ?_
  refine bD [(2, (aB (x1 && (decide ((0 : Int) ≤ x4)))))] ?_
  refine bL ?_
  obtain rfl := oI h0
  exact aG (Q_r hO)

theorem KB (l0 : (List bE)) (r : Bool) (h0 : rC l0 = some r) : dZ Try.prog 23 [(eL bP l0)] (aB r) := by
  intro H0
  refine dV Try.func23 ?_
  have hO := aJ.start H0
  unfold rC at h0
  refine aS aC 1 [] [] ?_
  refine aN ?_
  refine aP aC 3 ?_
  refine bN 1 ?_
  obtain ⟨x1, hx2, h0⟩ := aT h0
  refine fB (BW l0 50 [] [] (fun y0 => nX y0) (fun y0 r h => FG y0 r h) _ hx2) hO ?_
  intro H hO
  refine bC ?_
  refine bD [(2, (aB x1))] ?_
  refine bL ?_
  obtain rfl := oI h0
  exact aG (Q_r hO)

theorem HV (l0 : (List bE)) (r : (List bE)) (h0 : sP l0 = some r) : dZ Try.prog 32 [(eL bP l0)] (.fn (.func 55) [] [(.rp (eL bP r))]) := by
  intro H0
  refine dV Try.func32 ?_
  have hO := aJ.start H0
  unfold sP at h0
  refine aN ?_
  refine aP aC 2 ?_
  refine gQ 1 (eL bP l0) (by kernel_rfl) (by kernel_rfl) ?_
  refine bC ?_
  refine bD [(1, (.rp (eL bP l0)))] ?_
  refine cO aC 2 [(2, (.fn (.func 55) [] [(.rp (eL bP l0))]))] ?_
  refine bL ?_
  obtain rfl := oI h0
  exact aG (kZ (x := (.fn (.func 55) [] [(.rp (eL bP l0))])) (by kernel_rfl) (aL.refl _) ⟨rfl, hO.out⟩)

theorem BL {σ : Type} (I : σ → Gs → Prop) (yield0_b : Nat) (cF : σ → (List aD) → (List aF) → Option (σ × Bool)) (yield0_h : ∀ st a0 a1 st2 r, cF st a0 a1 = some (st2, r) → uW Try.prog (yv yield0_b) I st [(eL aI a0), (eL aK a1)] st2 (aB r)) (t1 : (List bE)) (sg0 : σ) (r : σ) (h0 : mN cF t1 sg0 = some r) : sM Try.prog 55 I sg0 [(yv yield0_b), (.rp (eL bP t1))] r (.tup []) := by
  intro H0 G0 hI hg
  refine xM aC Try.func55 (by kernel_rfl) (by kernel_rfl) (by kernel_rfl) ?_
  obtain ⟨G, hO, hI⟩ : ∃ G, aJ ⟨H0, List.map (fun p : Nat × cQ => p.1) G0, G⟩ H0 [] ∧ I sg0 G := ⟨G0, aJ.xH hg, hI⟩
  clear hg
  unfold mN at h0
  refine aN ?_
  refine aP aC 1 ?_
  refine gQ 1 (yv yield0_b) (by kernel_rfl) (by kernel_rfl) ?_
  refine dP ?_
  refine cD [0] [(2, (.rp (yv yield0_b)))] ?_
  refine aN ?_
  refine aN ?_
  refine aP aC 3 ?_
  refine bN 1 ?_
  obtain ⟨x1, hx2, h0⟩ := aT h0
  refine fB (DM t1 _ hx2) hO ?_
  intro H hO
  refine bC ?_
  refine cD [] [(7, (aB (!x1)))] ?_
  refine bR h0 (fun h0 => ?_) (fun h0 => ?_)
  · refine bL ?_
    obtain rfl := oI h0
    exact aG (aR (QM0 (.inr rfl) (rs := []) (xs := []) (x := (.tup [])) (by kernel_rfl) lK (by kernel_rfl) ⟨rfl, G, hI, hO.tU⟩))
  refine bS ?_
  refine bD [(1, (.rp (eL bP t1))), (2, (.rp (yv yield0_b)))] ?_
  refine aN ?_
  refine aP aC 2 ?_
  refine bN 1 ?_
  obtain ⟨x5, hx6, h0⟩ := aT h0
  refine fB (BQ t1 _ hx6) hO ?_
  intro H hO
  refine dP ?_
  refine cD [1] [(9, (.fn (.func 74) [] [(.rp (eL bP x5))]))] ?_
  refine cG 0 ?_
  refine iD [(2, (.rp (yv yield0_b))), (9, (.fn (.func 74) [] [(.rp (eL bP x5))]))] ?_
  refine iG (fun T H => ∃ sg : σ, ∃ t9c0 : (List bE), ∃ G : Gs, Has T [(2, (.rp (yv yield0_b))), (9, (.fn (.func 74) [] [(.rp (eL bP t9c0))]))] ∧ aJ ⟨H0, List.map (fun p : Nat × cQ => p.1) G0, G⟩ H [] ∧ I sg G ∧ nJ cF sg t9c0 = some r) ?_ ⟨sg0, x5, G, .eq (by kernel_rfl), hO, hI, h0⟩
  clear hO hI h0
  rintro T H ⟨sg, t9c0, G, hT, hO, hI, h0⟩
  refine bM (l := [(2, (.rp (yv yield0_b))), (9, (.fn (.func 74) [] [(.rp (eL bP t9c0))]))]) hT ?_
  clear hT
  unfold nJ at h0
  obtain ⟨o0, hl0, h0⟩ := aT h0
  refine vU (fid := 74) (ys := []) (cs := [(.rp (eL bP t9c0))]) #[10, 11] (fun (A : qJ) (b lL : Nat) (st : (σ) ⊕ (σ)) (G' : Gs) => Sum.elim (fun (s : σ) => ∃ G : Gs, I s G ∧ G' = (lL, .raw (fR b A .ready none)) :: (up [] ++ G)) (fun (s : σ) => ∃ G : Gs, I s G ∧ G' = (lL, .raw (fR b A .done (some .ret))) :: (up [] ++ G)) st) (.inl sg) o0 (.tup []) (by kernel_rfl) (by kernel_rfl) (by kernel_rfl) hO (fun _ _ => ⟨G, hI, rfl⟩) ?_ ?_
  · intro b lL
    clear hO hI h0
    refine wW _ b (fun st t10 t11 => rnd (fun (s : σ) => jX cF t9c0 s t10 t11) st) ?_ t9c0 _ _ hl0
    intro st t10 t11 out1 rr hr
    obtain ⟨s, rfl, h1, rfl⟩ := FI hr
    clear hr
    intro Hr Gr hi hg
    obtain ⟨sg, rfl⟩ : ∃ x, x = s := ⟨_, rfl⟩
    dsimp only [Sum.elim_inl] at hi
    obtain ⟨G, hI, rfl⟩ := hi
    replace h1 : jX cF t9c0 sg t10 t11 = some out1 := h1
    unfold jX at h1
    obtain ⟨E1, hE, hO⟩ := pW hg
    refine pT (tT (hO.gm 0 _ rfl).2 (by kernel_rfl) (by kernel_rfl) ?_)
    refine iD [(2, (.rp (yv yield0_b))), (9, (.fn (.func 74) [] [(.rp (eL bP t9c0))])), (10, (eL aI t10)), (11, (eL aK t11))] ?_
    refine aS aC 1 [9, 10] [(3, (eL aI t10))] ?_
    refine aP aC 1 ?_
    refine bC ?_
    refine iM [(2, (.rp (yv yield0_b))), (3, (eL aI t10)), (4, (eL aK t11))] ?_
    refine aG (⟨rfl, rfl, (hO.gm 0 _ rfl).2, ?_⟩)
    intro o1 ho1
    replace hO := hO.mW o1
    refine cG 1 ?_
    refine aN ?_
    refine aP aC 5 ?_
    refine bN 3 ?_
    obtain ⟨x7, hx8, h1⟩ := aT h1
    refine UK (I := I) (yv yield0_b) [(eL aI t10), (eL aK t11)] (aB x7.2) (by kernel_rfl) (by kernel_rfl) (yield0_h _ t10 t11 x7.1 x7.2 hx8) hO hI ?_
    intro G H hO hI
    refine bC ?_
    refine bD [(16, (aB (!x7.2)))] ?_
    refine bR h1 (fun h1 => ?_) (fun h1 => ?_)
    · refine bL ?_
      refine iM [] ?_
      obtain rfl := oI h1
      exact aG (bJ (⟨(eA hO hE ho1 .dead).1, rfl, _, ⟨G, hI, rfl⟩, (eA hO hE ho1 _).2⟩))
    refine bS ?_
    refine iM [] ?_
    obtain rfl := oI h1
    exact aG (aV (⟨(eA hO hE ho1 .dead).1, rfl, _, ⟨G, hI, rfl⟩, (eA hO hE ho1 _).2⟩))
  · intro b lD10 lL H' G' hi hO
    rcases o0 with s | s
    · dsimp only [Sum.elim_inl] at hi
      obtain ⟨G, hI, rfl⟩ := hi
      replace h0 : (some s) = some r := h0
      obtain ⟨hlL, hO⟩ := lV hO
      refine ⟨_, _, hlL, (by intro e; cases e), ?_⟩
      obtain rfl := oI h0
      have hD := (hO.gm 0 _ rfl).2
      replace hO := (hO.mW .dead).nN
      exact aG (aV (QM1 (.inl rfl) hD (rs := []) (xs := []) (x := (.tup [])) (by kernel_rfl) lK (by kernel_rfl) ⟨rfl, G, hI, hO.tU⟩))
    · dsimp only [Sum.elim_inr] at hi
      obtain ⟨G, hI, rfl⟩ := hi
      replace h0 : (some s) = some r := h0
      obtain ⟨hlL, hO⟩ := lV hO
      refine ⟨_, _, hlL, (by intro e; cases e), ?_⟩
      refine bL ?_
      obtain rfl := oI h0
      have hD := (hO.gm 0 _ rfl).2
      replace hO := (hO.mW .dead).nN
      exact aG (bJ (QM1 (.inr rfl) hD (rs := []) (xs := []) (x := (.tup [])) (by kernel_rfl) lK (by kernel_rfl) ⟨rfl, G, hI, hO.tU⟩))

theorem BO (x0 : Int) (r : Int) (h0 : mJ x0 = some r) : dZ Try.prog 88 [(cS .u64 x0)] (eI r) := by
  intro H0
  refine dV Try.func88 ?_
  have hO := aJ.start H0
  unfold mJ at h0
  refine aS aC 1 [] [(2, (eI (0 : Int)))] ?_
  refine jD (fun T H => ∃ x0 : Int, ∃ n2 : Int, Has T [(0, (cS .u64 x0)), (2, (eI n2))] ∧ aJ ⟨H0, [], []⟩ H [] ∧ jY x0 n2 = some r) ?_ ?_
  · clear hO h0
    rintro T H ⟨x0, n2, hT, hO, h0⟩
    refine bM hT ?_
    clear hT
    unfold jY at h0
    refine jD (fun T H => ∃ x0 : Int, ∃ n2 : Int, Has T [(0, (cS .u64 x0)), (2, (eI n2))] ∧ aJ ⟨H0, [], []⟩ H [] ∧ kA x0 n2 = some r) ?_ ?_
    · clear hO h0
      rintro T H ⟨x0, n2, hT, hO, h0⟩
      refine bM hT ?_
      clear hT
      unfold kA at h0
      refine jD (fun T H => ∃ x0 : Int, ∃ n2 : Int, Has T [(0, (cS .u64 x0)), (2, (eI n2))] ∧ aJ ⟨H0, [], []⟩ H [] ∧ kW x0 n2 = some r) ?_ ?_
      · clear hO h0
        rintro T H ⟨x0, n2, hT, hO, h0⟩
        refine bM hT ?_
        clear hT
        unfold kW at h0
        refine aN ?_
        refine aP aC 7 ?_
        obtain ⟨c1, h0⟩ := aY h0
        refine rX [0 ≤ (IntKind.u8.wrap x0) ∧ (IntKind.u8.wrap x0) < ((ByteArray.size (⟨#[0, 1, 2, 2, 3, 3, 3, 3, 4, 4, 4, 4, 4, 4, 4, 4, 5, 5, 5, 5, 5, 5, 5, 5, 5, 5, 5, 5, 5, 5, 5, 5, 6, 6, 6, 6, 6, 6, 6, 6, 6, 6, 6, 6, 6, 6, 6, 6, 6, 6, 6, 6, 6, 6, 6, 6, 6, 6, 6, 6, 6, 6, 6, 6, 7, 7, 7, 7, 7, 7, 7, 7, 7, 7, 7, 7, 7, 7, 7, 7, 7, 7, 7, 7, 7, 7, 7, 7, 7, 7, 7, 7, 7, 7, 7, 7, 7, 7, 7, 7, 7, 7, 7, 7, 7, 7, 7, 7, 7, 7, 7, 7, 7, 7, 7, 7, 7, 7, 7, 7, 7, 7, 7, 7, 7, 7, 7, 7, 8, 8, 8, 8, 8, 8, 8, 8, 8, 8, 8, 8, 8, 8, 8, 8, 8, 8, 8, 8, 8, 8, 8, 8, 8, 8, 8, 8, 8, 8, 8, 8, 8, 8, 8, 8, 8, 8, 8, 8, 8, 8, 8, 8, 8, 8, 8, 8, 8, 8, 8, 8, 8, 8, 8, 8, 8, 8, 8, 8, 8, 8, 8, 8, 8, 8, 8, 8, 8, 8, 8, 8, 8, 8, 8, 8, 8, 8, 8, 8, 8, 8, 8, 8, 8, 8, 8, 8, 8, 8, 8, 8, 8, 8, 8, 8, 8, 8, 8, 8, 8, 8, 8, 8, 8, 8, 8, 8, 8, 8, 8, 8, 8, 8, 8, 8, 8, 8, 8, 8, 8, 8, 8, 8, 8, 8, 8, 8]⟩ : ByteArray) : Nat) : Int)] ⟨c1, trivial⟩ ?_
        refine bD [(2, (eI (wR (n2 + (wR (bt (⟨#[0, 1, 2, 2, 3, 3, 3, 3, 4, 4, 4, 4, 4, 4, 4, 4, 5, 5, 5, 5, 5, 5, 5, 5, 5, 5, 5, 5, 5, 5, 5, 5, 6, 6, 6, 6, 6, 6, 6, 6, 6, 6, 6, 6, 6, 6, 6, 6, 6, 6, 6, 6, 6, 6, 6, 6, 6, 6, 6, 6, 6, 6, 6, 6, 7, 7, 7, 7, 7, 7, 7, 7, 7, 7, 7, 7, 7, 7, 7, 7, 7, 7, 7, 7, 7, 7, 7, 7, 7, 7, 7, 7, 7, 7, 7, 7, 7, 7, 7, 7, 7, 7, 7, 7, 7, 7, 7, 7, 7, 7, 7, 7, 7, 7, 7, 7, 7, 7, 7, 7, 7, 7, 7, 7, 7, 7, 7, 7, 8, 8, 8, 8, 8, 8, 8, 8, 8, 8, 8, 8, 8, 8, 8, 8, 8, 8, 8, 8, 8, 8, 8, 8, 8, 8, 8, 8, 8, 8, 8, 8, 8, 8, 8, 8, 8, 8, 8, 8, 8, 8, 8, 8, 8, 8, 8, 8, 8, 8, 8, 8, 8, 8, 8, 8, 8, 8, 8, 8, 8, 8, 8, 8, 8, 8, 8, 8, 8, 8, 8, 8, 8, 8, 8, 8, 8, 8, 8, 8, 8, 8, 8, 8, 8, 8, 8, 8, 8, 8, 8, 8, 8, 8, 8, 8, 8, 8, 8, 8, 8, 8, 8, 8, 8, 8, 8, 8, 8, 8, 8, 8, 8, 8, 8, 8, 8, 8, 8, 8, 8, 8, 8, 8, 8, 8, 8, 8]⟩ : ByteArray) (IntKind.u8.wrap x0)))))))] ?_
        refine bL ?_
        obtain rfl := oI h0
        exact aG (Q_r hO)
      refine aS aC 2 [] [(14, (aB (decide ((256 : Int) ≤ x0))))] ?_
      refine bR h0 (fun h0 => ?_) (fun h0 => ?_)
      · refine aN ?_
        refine aP aC 3 ?_
        obtain ⟨c3, h0⟩ := aY h0
        refine rX [0 ≤ (8 : Int)] ⟨c3, trivial⟩ ?_
        refine bD [(0, (cS .u64 (Int.fdiv x0 (2 ^ (min (Int.toNat (8 : Int)) 64))))), (2, (eI n2))] ?_
        refine aP aC 3 ?_
        refine bC ?_
        exact aG (aH (⟨rfl, _, _, .eq (by kernel_rfl), hO, h0⟩))
      refine bS ?_
      exact aG (aH (⟨rfl, _, _, .eq (by kernel_rfl), hO, h0⟩))
    refine aS aC 2 [] [(8, (aB (decide ((65536 : Int) ≤ x0))))] ?_
    refine bR h0 (fun h0 => ?_) (fun h0 => ?_)
    · refine aN ?_
      refine aP aC 3 ?_
      obtain ⟨c5, h0⟩ := aY h0
      refine rX [0 ≤ (16 : Int)] ⟨c5, trivial⟩ ?_
      refine bD [(0, (cS .u64 (Int.fdiv x0 (2 ^ (min (Int.toNat (16 : Int)) 64))))), (2, (eI n2))] ?_
      refine aP aC 3 ?_
      refine bC ?_
      exact aG (aH (⟨rfl, _, _, .eq (by kernel_rfl), hO, h0⟩))
    refine bS ?_
    exact aG (aH (⟨rfl, _, _, .eq (by kernel_rfl), hO, h0⟩))
  refine aS aC 2 [] [(4, (aB (decide ((4294967296 : Int) ≤ x0))))] ?_
  refine bR h0 (fun h0 => ?_) (fun h0 => ?_)
  · refine aN ?_
    refine aP aC 3 ?_
    obtain ⟨c7, h0⟩ := aY h0
    refine rX [0 ≤ (32 : Int)] ⟨c7, trivial⟩ ?_
    refine bD [(0, (cS .u64 (Int.fdiv x0 (2 ^ (min (Int.toNat (32 : Int)) 64)))))] ?_
    refine aP aC 1 ?_
    refine bC ?_
    exact aG (aH (⟨rfl, _, _, .eq (by kernel_rfl), hO, h0⟩))
  refine bS ?_
  exact aG (aH (⟨rfl, _, _, .eq (by kernel_rfl), hO, h0⟩))

theorem wT (x0 : Int) (r : Int) (h0 : jM x0 = some r) : dZ Try.prog 62 [(cS .u64 x0)] (eI r) := by
  intro H0
  refine dV Try.func62 ?_
  have hO := aJ.start H0
  unfold jM at h0
  refine aS aC 1 [] [] ?_
  refine aN ?_
  refine lI (false) (fun hc1 => ?_) (fun hc1 => ?_)
  · cases hc1
  · refine bS ?_
    refine aG (aH ?_)
    refine aN ?_
    refine aP aC 3 ?_
    refine bN 1 ?_
    obtain ⟨x2, hx3, h0⟩ := aT h0
    refine fB (BO x0 _ hx3) hO ?_
    intro H hO
    refine bC ?_
    refine bD [(2, (eI x2))] ?_
    refine bL ?_
    obtain rfl := oI h0
    exact aG (Q_r hO)

theorem fC (x0 : Int) (y1 : Int) (r : Bool) (h0 : cW x0 y1 = some r) : dZ Try.prog 84 [(eI x0), (eI y1)] (aB r) := by
  intro H0
  refine dV Try.func84 ?_
  have hO := aJ.start H0
  unfold cW at h0
  refine aS aC 1 [] [] ?_
  refine aN ?_
  refine aP aC 13 ?_
  refine bN 1 ?_
  obtain ⟨x1, hx2, h0⟩ := aT h0
  refine fB (qL x0 _ hx2) hO ?_
  intro H hO
  refine bN 4 ?_
  obtain ⟨x4, hx5, h0⟩ := aT h0
  refine nF [(7, true)] 105 [(eI y1)] (aB x4) x1 (by kernel_rfl) (by kernel_rfl) (by kernel_rfl) (fun hb6 => (qL y1 _ (kN hx5 hb6))) hO ?_
  intro H hO
  refine bC ?_
  refine bD [(4, (aB ((x1 && (!x4)) || (decide (x0 < y1)))))] ?_
  refine bL ?_
  obtain rfl := oI h0
  exact aG (Q_r hO)

theorem sI (lo0p : Nat) (aA : (List Int)) (a1 : Int) (b2 : Int) (r : List Int) (h0 : fT aA a1 b2 = some r) : lS Try.prog 78 lo0p 1 (List.map (eI) aA) (List.map (eI) r) [(.msl 1 lo0p 0 (List.length aA)), (eI a1), (eI b2)] (.tup []) := by
  intro H0 hl0
  refine dV Try.func78 ?_
  have hO := aJ.qX hl0
  clear hl0
  obtain ⟨N0, hN0⟩ : ∃ n, n = List.length aA := ⟨_, rfl⟩
  have hN : List.length aA = N0 := hN0.symm
  unfold fT at h0
  refine aS aC 3 [] [(6, (eI (wR (a1 + (1 : Int)))))] ?_
  refine cG 0 ?_
  refine iD [(0, (.msl 1 lo0p 0 (List.length aA))), (1, (eI a1)), (2, (eI b2)), (6, (eI (wR (a1 + (1 : Int)))))] ?_
  refine iG (fun T H => ∃ aA : List Int, ∃ i6 : Int, Has T [(0, (.msl 1 lo0p 0 (List.length aA))), (1, (eI a1)), (2, (eI b2)), (6, (eI i6))] ∧ aJ ⟨H0, [lo0p], []⟩ H [(lo0p, 1, List.map (eI) aA)] ∧ List.length aA = N0 ∧ iN aA a1 b2 i6 = some r) ?_ ⟨aA, wR (a1 + (1 : Int)), .eq (by kernel_rfl), hO, hN, h0⟩
  clear hO hN h0
  rintro T H ⟨aA, i6, hT, hO, hN, h0⟩
  refine bM hT ?_
  clear hT
  unfold iN at h0
  obtain ⟨rr0, hl0, h0⟩ := aT h0
  refine eP (by kernel_rfl) (fun (s : List Int × Int) T H => Has T [(0, (.msl 1 lo0p 0 (List.length s.1))), (1, (eI a1)), (2, (eI b2)), (6, (eI s.2))] ∧ aJ ⟨H0, [lo0p], []⟩ H [(lo0p, 1, List.map (eI) s.1)] ∧ List.length s.1 = N0) hl0 ⟨.eq (by kernel_rfl), hO, hN⟩ ?_
  clear hO hN
  rintro k0 s out1 T H ⟨hT, hO, hN⟩ h1 ho0
  obtain ⟨aA, i6⟩ := s
  replace h1 : cX a1 b2 aA i6 = some out1 := h1
  try dsimp only at hT
  refine bM hT ?_
  clear hT
  unfold cX at h1
  refine aN ?_
  refine aS aC 3 [] [(12, (aB (decide (i6 < b2))))] ?_
  refine bR h1 (fun h1 => ?_) (fun h1 => ?_)
  · refine bS ?_
    refine bD [(0, (.msl 1 lo0p 0 (List.length aA))), (1, (eI a1)), (2, (eI b2)), (6, (eI i6))] ?_
    refine jD (fun T H => ∃ aA : List Int, Has T [(0, (.msl 1 lo0p 0 (List.length aA))), (1, (eI a1)), (2, (eI b2)), (6, (eI i6))] ∧ aJ ⟨H0, [lo0p], []⟩ H [(lo0p, 1, List.map (eI) aA)] ∧ List.length aA = N0 ∧ fO aA a1 b2 i6 = some out1) ?_ ?_
    · clear hO hN h1
      rintro T H ⟨aA, hT, hO, hN, h1⟩
      refine bM hT ?_
      clear hT
      unfold fO at h1
      refine aP aC 3 ?_
      refine bC ?_
      exact aG (aH (⟨rfl, _, (oI h1).symm, .eq (by kernel_rfl), hO, hN⟩))
    refine cG 1 ?_
    refine aS aC 2 [] [(7, (eI i6))] ?_
    refine cG 2 ?_
    refine iD [(0, (.msl 1 lo0p 0 (List.length aA))), (1, (eI a1)), (2, (eI b2)), (6, (eI i6)), (7, (eI i6))] ?_
    refine iG (fun T H => ∃ aA : List Int, ∃ j7 : Int, Has T [(0, (.msl 1 lo0p 0 (List.length aA))), (1, (eI a1)), (2, (eI b2)), (6, (eI i6)), (7, (eI j7))] ∧ aJ ⟨H0, [lo0p], []⟩ H [(lo0p, 1, List.map (eI) aA)] ∧ List.length aA = N0 ∧ iP aA a1 b2 i6 j7 = some out1) ?_ ⟨aA, i6, .eq (by kernel_rfl), hO, hN, h1⟩
    clear hO hN h1
    rintro T H ⟨aA, j7, hT, hO, hN, h1⟩
    refine bM hT ?_
    clear hT
    unfold iP at h1
    obtain ⟨rr1, hl1, h1⟩ := aT h1
    refine eP (by kernel_rfl) (fun (s : List Int × Int) T H => Has T [(0, (.msl 1 lo0p 0 (List.length s.1))), (1, (eI a1)), (2, (eI b2)), (6, (eI i6)), (7, (eI s.2))] ∧ aJ ⟨H0, [lo0p], []⟩ H [(lo0p, 1, List.map (eI) s.1)] ∧ List.length s.1 = N0) hl1 ⟨.eq (by kernel_rfl), hO, hN⟩ ?_
    clear hO hN
    rintro k1 s out2 T H ⟨hT, hO, hN⟩ h2 ho1
    obtain ⟨aA, j7⟩ := s
    replace h2 : eK a1 b2 i6 aA j7 = some out2 := h2
    try dsimp only at hT
    refine bM hT ?_
    clear hT
    unfold eK at h2
    refine aN ?_
    refine aN ?_
    obtain ⟨c2, h2⟩ := aY h2
    obtain ⟨c3, h2⟩ := aY h2
    obtain ⟨x4, hx5, h2⟩ := aT h2
    refine gW (gU []) aC 15 ?_
    refine pO (K := fun T H => Has (lift T) [(0, (.msl 1 lo0p 0 (List.length aA))), (1, (eI a1)), (2, (eI b2)), (6, (eI i6)), (7, (eI j7)), (30, (aB ((decide (a1 < j7)) && x4)))] ∧ aJ ⟨H0, [lo0p], []⟩ H [(lo0p, 1, List.map (eI) aA)]) ?_ ?_
    · refine lJ 4 ?_
      refine oH (t := 19) (e := decide (a1 < j7)) (by kernel_rfl) (fun hg6 => ?_) (fun hg6 => ?_)
      · refine cE 7 [0 ≤ j7 ∧ j7 < (lN aA)] ⟨(c2 hg6), trivial⟩ ?_
        refine iY 0 lo0p 1 (0 + Int.toNat j7) (eI (gD aA j7)) (eI (gD aA j7)) (List.map (eI) aA) (by kernel_rfl) (by kernel_rfl) (by kernel_rfl) hO (by kernel_rfl) (bU (c2 hg6)) ?_
        refine cE 12 [0 ≤ (wR (j7 - (1 : Int))) ∧ (wR (j7 - (1 : Int))) < (lN aA)] ⟨(c3 hg6), trivial⟩ ?_
        refine iY 0 lo0p 1 (0 + Int.toNat (wR (j7 - (1 : Int)))) (eI (gD aA (wR (j7 - (1 : Int))))) (eI (gD aA (wR (j7 - (1 : Int))))) (List.map (eI) aA) (by kernel_rfl) (by kernel_rfl) (by kernel_rfl) hO (by kernel_rfl) (bU (c3 hg6)) ?_
        refine nV 84 [(eI (gD aA j7)), (eI (gD aA (wR (j7 - (1 : Int)))))] (aB x4) (by kernel_rfl) (by kernel_rfl) (fC (gD aA j7) (gD aA (wR (j7 - (1 : Int)))) _ (kN hx5 hg6)) hO ?_
        intro H hO
        refine kX ?_
        exact ⟨⟨[(0, (.msl 1 lo0p 0 (List.length aA))), (1, (eI a1)), (2, (eI b2)), (6, (eI i6)), (7, (eI j7)), (30, (aB x4))], by kernel_rfl, rfl, ⟨aL.refl _, aL.refl _, aL.refl _, aL.refl _, aL.refl _, aL.eq (congrArg aB (mD hg6 rfl).symm), trivial⟩⟩, hO⟩
      refine kX ?_
      exact ⟨⟨[(0, (.msl 1 lo0p 0 (List.length aA))), (1, (eI a1)), (2, (eI b2)), (6, (eI i6)), (7, (eI j7)), (30, (aB false))], by kernel_rfl, rfl, ⟨aL.refl _, aL.refl _, aL.refl _, aL.refl _, aL.refl _, aL.eq (congrArg aB (mD hg6 rfl).symm), trivial⟩⟩, hO⟩
    · rintro T H ⟨hT, hO⟩
      refine eY hT ?_
      clear hT
      refine aG (aH ?_)
      refine bR h2 (fun h2 => ?_) (fun h2 => ?_)
      · refine bS ?_
        refine bD [(0, (.msl 1 lo0p 0 (List.length aA))), (1, (eI a1)), (2, (eI b2)), (6, (eI i6)), (7, (eI j7))] ?_
        refine aN ?_
        refine cG 3 ?_
        refine gW (gU []) aC 18 ?_
        obtain ⟨c8, h2⟩ := aY h2
        refine cE 9 [0 ≤ (wR (j7 - (1 : Int))) ∧ (wR (j7 - (1 : Int))) < (lN aA)] ⟨c8, trivial⟩ ?_
        refine gJ 0 lo0p 1 (0 + Int.toNat (wR (j7 - (1 : Int)))) (eI (gD aA (wR (j7 - (1 : Int))))) (eI (gD aA (wR (j7 - (1 : Int))))) (List.map (eI) aA) hO (bU c8) ?_
        obtain ⟨c9, h2⟩ := aY h2
        refine cE 13 [0 ≤ j7 ∧ j7 < (lN aA)] ⟨c9, trivial⟩ ?_
        refine gJ 0 lo0p 1 (0 + Int.toNat j7) (eI (gD aA j7)) (eI (gD aA j7)) (List.map (eI) aA) hO (bU c9) ?_
        obtain ⟨c10, h2⟩ := aY h2
        refine cE 15 [0 ≤ j7 ∧ j7 < (lN aA)] ⟨c10, trivial⟩ ?_
        refine kB 0 lo0p 1 (0 + Int.toNat j7) (eI (gD aA j7)) (eI (gD aA (wR (j7 - (1 : Int))))) (List.map (eI) aA) [(lo0p, 1, List.map (eI) (List.set aA (Int.toNat j7) (gD aA (wR (j7 - (1 : Int))))))] hO (bU c10) (by simp only [List.set, gO]) ?_
        intro H hO
        replace hN : List.length (List.set aA (Int.toNat j7) (gD aA (wR (j7 - (1 : Int))))) = N0 := by simpa using hN
        obtain ⟨c11, h2⟩ := aY h2
        refine cE 17 [0 ≤ (wR (j7 - (1 : Int))) ∧ (wR (j7 - (1 : Int))) < (lN aA)] ⟨c11, trivial⟩ ?_
        refine kB 0 lo0p 1 (0 + Int.toNat (wR (j7 - (1 : Int)))) (eI (gD (List.set aA (Int.toNat j7) (gD aA (wR (j7 - (1 : Int))))) (wR (j7 - (1 : Int))))) (eI (gD aA j7)) (List.map (eI) (List.set aA (Int.toNat j7) (gD aA (wR (j7 - (1 : Int)))))) [(lo0p, 1, List.map (eI) (List.set (List.set aA (Int.toNat j7) (gD aA (wR (j7 - (1 : Int))))) (Int.toNat (wR (j7 - (1 : Int)))) (gD aA j7)))] hO (lO c11 (by simp [])) (by simp only [List.set, gO]) ?_
        intro H hO
        replace hN : List.length (List.set (List.set aA (Int.toNat j7) (gD aA (wR (j7 - (1 : Int))))) (Int.toNat (wR (j7 - (1 : Int)))) (gD aA j7)) = N0 := by simpa using hN
        refine mC (by kernel_rfl) ?_
        refine eY (l := [(0, (.msl 1 lo0p 0 (List.length (List.set (List.set aA (Int.toNat j7) (gD aA (wR (j7 - (1 : Int))))) (Int.toNat (wR (j7 - (1 : Int)))) (gD aA j7))))), (1, (eI a1)), (2, (eI b2)), (6, (eI i6)), (7, (eI j7))]) ⟨[(0, (.msl 1 lo0p 0 (List.length aA))), (1, (eI a1)), (2, (eI b2)), (6, (eI i6)), (7, (eI j7))], by kernel_rfl, rfl, ⟨aL.eq (by simp []), aL.refl _, aL.refl _, aL.refl _, aL.refl _, trivial⟩⟩ ?_
        refine aG (aV (aH (?_)))
        refine aP aC 3 ?_
        refine bC ?_
        exact aG (aH (⟨rfl, _, (oI h2).symm, .eq (by kernel_rfl), hO, hN⟩))
      refine jQ 2 ?_
      obtain rfl := oI h2
      obtain rfl : _ = rr1 := ho1
      replace h1 : fO aA a1 b2 i6 = some out1 := h1
      exact aG (aW (aW (cI (aV (aH (⟨rfl, _, .eq (by kernel_rfl), hO, hN, h1⟩))))))
  refine jQ 0 ?_
  obtain rfl := oI h1
  obtain rfl : _ = rr0 := ho0
  replace h0 : some aA = some r := h0
  obtain rfl := oI h0
  exact aG (aW (aW (cI (tD (x := (.tup [])) (by kernel_rfl) (aL.refl _) ⟨rfl, hO.ext, hO.at 0 (by kernel_rfl), by first | rfl | (simp only [List.length_map]; exact hN.trans hN0)⟩))))

theorem oF (lo0p : Nat) (aA : (List Int)) (lo1 : Int) (hi2 : Int) (aZ : Int) (r : List Int) (h0 : eT aA lo1 hi2 aZ = some r) : lS Try.prog 100 lo0p 1 (List.map (eI) aA) (List.map (eI) r) [(.msl 1 lo0p 0 (List.length aA)), (eI lo1), (eI hi2), (eI aZ)] (.tup []) := by
  intro H0 hl0
  refine dV Try.func100 ?_
  have hO := aJ.qX hl0
  clear hl0
  obtain ⟨N0, hN0⟩ : ∃ n, n = List.length aA := ⟨_, rfl⟩
  have hN : List.length aA = N0 := hN0.symm
  unfold eT at h0
  refine aS aC 2 [1] [(8, (eI lo1))] ?_
  refine cG 0 ?_
  refine iD [(0, (.msl 1 lo0p 0 (List.length aA))), (2, (eI hi2)), (3, (eI aZ)), (8, (eI lo1))] ?_
  refine iG (fun T H => ∃ aA : List Int, ∃ bX : Int, Has T [(0, (.msl 1 lo0p 0 (List.length aA))), (2, (eI hi2)), (3, (eI aZ)), (8, (eI bX))] ∧ aJ ⟨H0, [lo0p], []⟩ H [(lo0p, 1, List.map (eI) aA)] ∧ List.length aA = N0 ∧ jU aA hi2 aZ bX = some r) ?_ ⟨aA, lo1, .eq (by kernel_rfl), hO, hN, h0⟩
  clear hO hN h0
  rintro T H ⟨aA, bX, hT, hO, hN, h0⟩
  refine bM hT ?_
  clear hT
  unfold jU at h0
  obtain ⟨rr0, hl0, h0⟩ := aT h0
  refine eP (by kernel_rfl) (fun (s : List Int × Int) T H => Has T [(0, (.msl 1 lo0p 0 (List.length s.1))), (2, (eI hi2)), (3, (eI aZ)), (8, (eI s.2))] ∧ aJ ⟨H0, [lo0p], []⟩ H [(lo0p, 1, List.map (eI) s.1)] ∧ List.length s.1 = N0) hl0 ⟨.eq (by kernel_rfl), hO, hN⟩ ?_
  clear hO hN
  rintro k0 s out1 T H ⟨hT, hO, hN⟩ h1 ho0
  obtain ⟨aA, bX⟩ := s
  replace h1 : cT hi2 aZ aA bX = some out1 := h1
  try dsimp only at hT
  refine bM hT ?_
  clear hT
  unfold cT at h1
  refine cG 1 ?_
  refine aS aC 4 [] [(9, (eI (wR ((wR ((2 : Int) * bX)) + (1 : Int)))))] ?_
  refine aN ?_
  refine aS aC 3 [] [(16, (aB (decide (hi2 ≤ (wR ((wR ((2 : Int) * bX)) + (1 : Int)))))))] ?_
  refine bR h1 (fun h1 => ?_) (fun h1 => ?_)
  · refine jQ 0 ?_
    obtain rfl := oI h1
    obtain rfl : _ = rr0 := ho0
    replace h0 : some aA = some r := h0
    obtain rfl := oI h0
    exact aG (aW (pQ (by kernel_rfl) (aW (cI (tD (x := (.tup [])) (by kernel_rfl) (aL.refl _) ⟨rfl, hO.ext, hO.at 0 (by kernel_rfl), by first | rfl | (simp only [List.length_map]; exact hN.trans hN0)⟩)))))
  refine bS ?_
  refine bD [(0, (.msl 1 lo0p 0 (List.length aA))), (2, (eI hi2)), (3, (eI aZ)), (8, (eI bX)), (9, (eI (wR ((wR ((2 : Int) * bX)) + (1 : Int)))))] ?_
  refine jD (fun T H => ∃ aA : List Int, ∃ dM : Int, Has T [(0, (.msl 1 lo0p 0 (List.length aA))), (2, (eI hi2)), (3, (eI aZ)), (8, (eI bX)), (9, (eI dM))] ∧ aJ ⟨H0, [lo0p], []⟩ H [(lo0p, 1, List.map (eI) aA)] ∧ List.length aA = N0 ∧ fP aA hi2 aZ bX dM = some out1) ?_ ?_
  · clear hO hN h1
    rintro T H ⟨aA, dM, hT, hO, hN, h1⟩
    refine bM hT ?_
    clear hT
    unfold fP at h1
    refine aN ?_
    refine aN ?_
    refine gW (gU [51]) aC 14 ?_
    obtain ⟨c2, h1⟩ := aY h1
    refine cE 5 [0 ≤ (wR (aZ + bX)) ∧ (wR (aZ + bX)) < (lN aA)] ⟨c2, trivial⟩ ?_
    refine gJ 0 lo0p 1 (0 + Int.toNat (wR (aZ + bX))) (eI (gD aA (wR (aZ + bX)))) (eI (gD aA (wR (aZ + bX)))) (List.map (eI) aA) hO (bU c2) ?_
    obtain ⟨c3, h1⟩ := aY h1
    refine cE 11 [0 ≤ (wR (aZ + dM)) ∧ (wR (aZ + dM)) < (lN aA)] ⟨c3, trivial⟩ ?_
    refine gJ 0 lo0p 1 (0 + Int.toNat (wR (aZ + dM))) (eI (gD aA (wR (aZ + dM)))) (eI (gD aA (wR (aZ + dM)))) (List.map (eI) aA) hO (bU c3) ?_
    obtain ⟨x4, hx5, h1⟩ := aT h1
    refine wZ (fC (gD aA (wR (aZ + bX))) (gD aA (wR (aZ + dM))) _ hx5) hO ?_
    intro H hO
    refine kX ?_
    refine cD [] [(52, (aB (!x4)))] ?_
    refine bR h1 (fun h1 => ?_) (fun h1 => ?_)
    · refine bL ?_
      obtain rfl := oI h1
      obtain rfl : _ = rr0 := ho0
      replace h0 : some aA = some r := h0
      obtain rfl := oI h0
      exact aG (aR (bJ (aR (bJ (kZ (x := (.tup [])) (by kernel_rfl) (aL.refl _) ⟨rfl, hO.ext, hO.at 0 (by kernel_rfl), by first | rfl | (simp only [List.length_map]; exact hN.trans hN0)⟩)))))
    refine bS ?_
    refine bD [(0, (.msl 1 lo0p 0 (List.length aA))), (2, (eI hi2)), (3, (eI aZ)), (8, (eI bX)), (9, (eI dM))] ?_
    refine aN ?_
    refine gW (gU []) aC 24 ?_
    obtain ⟨c8, h1⟩ := aY h1
    refine cE 13 [0 ≤ (wR (aZ + dM)) ∧ (wR (aZ + dM)) < (lN aA)] ⟨c8, trivial⟩ ?_
    refine gJ 0 lo0p 1 (0 + Int.toNat (wR (aZ + dM))) (eI (gD aA (wR (aZ + dM)))) (eI (gD aA (wR (aZ + dM)))) (List.map (eI) aA) hO (bU c8) ?_
    obtain ⟨c9, h1⟩ := aY h1
    refine cE 19 [0 ≤ (wR (aZ + bX)) ∧ (wR (aZ + bX)) < (lN aA)] ⟨c9, trivial⟩ ?_
    refine gJ 0 lo0p 1 (0 + Int.toNat (wR (aZ + bX))) (eI (gD aA (wR (aZ + bX)))) (eI (gD aA (wR (aZ + bX)))) (List.map (eI) aA) hO (bU c9) ?_
    obtain ⟨c10, h1⟩ := aY h1
    refine cE 21 [0 ≤ (wR (aZ + bX)) ∧ (wR (aZ + bX)) < (lN aA)] ⟨c10, trivial⟩ ?_
    refine kB 0 lo0p 1 (0 + Int.toNat (wR (aZ + bX))) (eI (gD aA (wR (aZ + bX)))) (eI (gD aA (wR (aZ + dM)))) (List.map (eI) aA) [(lo0p, 1, List.map (eI) (List.set aA (Int.toNat (wR (aZ + bX))) (gD aA (wR (aZ + dM)))))] hO (bU c10) (by simp only [List.set, gO]) ?_
    intro H hO
    replace hN : List.length (List.set aA (Int.toNat (wR (aZ + bX))) (gD aA (wR (aZ + dM)))) = N0 := by simpa using hN
    obtain ⟨c11, h1⟩ := aY h1
    refine cE 23 [0 ≤ (wR (aZ + dM)) ∧ (wR (aZ + dM)) < (lN aA)] ⟨c11, trivial⟩ ?_
    refine kB 0 lo0p 1 (0 + Int.toNat (wR (aZ + dM))) (eI (gD (List.set aA (Int.toNat (wR (aZ + bX))) (gD aA (wR (aZ + dM)))) (wR (aZ + dM)))) (eI (gD aA (wR (aZ + bX)))) (List.map (eI) (List.set aA (Int.toNat (wR (aZ + bX))) (gD aA (wR (aZ + dM))))) [(lo0p, 1, List.map (eI) (List.set (List.set aA (Int.toNat (wR (aZ + bX))) (gD aA (wR (aZ + dM)))) (Int.toNat (wR (aZ + dM))) (gD aA (wR (aZ + bX)))))] hO (lO c11 (by simp [])) (by simp only [List.set, gO]) ?_
    intro H hO
    replace hN : List.length (List.set (List.set aA (Int.toNat (wR (aZ + bX))) (gD aA (wR (aZ + dM)))) (Int.toNat (wR (aZ + dM))) (gD aA (wR (aZ + bX)))) = N0 := by simpa using hN
    refine mC (by kernel_rfl) ?_
    refine eY (l := [(0, (.msl 1 lo0p 0 (List.length (List.set (List.set aA (Int.toNat (wR (aZ + bX))) (gD aA (wR (aZ + dM)))) (Int.toNat (wR (aZ + dM))) (gD aA (wR (aZ + bX))))))), (2, (eI hi2)), (3, (eI aZ)), (9, (eI dM))]) ⟨[(0, (.msl 1 lo0p 0 (List.length aA))), (2, (eI hi2)), (3, (eI aZ)), (9, (eI dM))], by kernel_rfl, rfl, ⟨aL.eq (by simp []), aL.refl _, aL.refl _, aL.refl _, trivial⟩⟩ ?_
    refine aG (aH (?_))
    refine aP aC 2 ?_
    refine bC ?_
    exact aG (aV (aH (⟨rfl, _, (oI h1).symm, .eq (by kernel_rfl), hO, hN⟩)))
  refine aN ?_
  obtain ⟨c12, h1⟩ := aY h1
  obtain ⟨c13, h1⟩ := aY h1
  obtain ⟨x14, hx15, h1⟩ := aT h1
  refine gW (gU []) aC 20 ?_
  refine pO (K := fun T H => Has (lift T) [(0, (.msl 1 lo0p 0 (List.length aA))), (2, (eI hi2)), (3, (eI aZ)), (8, (eI bX)), (9, (eI (wR ((wR ((2 : Int) * bX)) + (1 : Int))))), (36, (aB ((decide ((wR ((wR ((wR ((2 : Int) * bX)) + (1 : Int))) + (1 : Int))) < hi2)) && x14)))] ∧ aJ ⟨H0, [lo0p], []⟩ H [(lo0p, 1, List.map (eI) aA)]) ?_ ?_
  · refine lJ 5 ?_
    refine oH (t := 21) (e := decide ((wR ((wR ((wR ((2 : Int) * bX)) + (1 : Int))) + (1 : Int))) < hi2)) (by kernel_rfl) (fun hg16 => ?_) (fun hg16 => ?_)
    · refine cE 10 [0 ≤ (wR (aZ + (wR ((wR ((2 : Int) * bX)) + (1 : Int))))) ∧ (wR (aZ + (wR ((wR ((2 : Int) * bX)) + (1 : Int))))) < (lN aA)] ⟨(c12 hg16), trivial⟩ ?_
      refine iY 0 lo0p 1 (0 + Int.toNat (wR (aZ + (wR ((wR ((2 : Int) * bX)) + (1 : Int)))))) (eI (gD aA (wR (aZ + (wR ((wR ((2 : Int) * bX)) + (1 : Int))))))) (eI (gD aA (wR (aZ + (wR ((wR ((2 : Int) * bX)) + (1 : Int))))))) (List.map (eI) aA) (by kernel_rfl) (by kernel_rfl) (by kernel_rfl) hO (by kernel_rfl) (bU (c12 hg16)) ?_
      refine cE 17 [0 ≤ (wR ((wR (aZ + (wR ((wR ((2 : Int) * bX)) + (1 : Int))))) + (1 : Int))) ∧ (wR ((wR (aZ + (wR ((wR ((2 : Int) * bX)) + (1 : Int))))) + (1 : Int))) < (lN aA)] ⟨(c13 hg16), trivial⟩ ?_
      refine iY 0 lo0p 1 (0 + Int.toNat (wR ((wR (aZ + (wR ((wR ((2 : Int) * bX)) + (1 : Int))))) + (1 : Int)))) (eI (gD aA (wR ((wR (aZ + (wR ((wR ((2 : Int) * bX)) + (1 : Int))))) + (1 : Int))))) (eI (gD aA (wR ((wR (aZ + (wR ((wR ((2 : Int) * bX)) + (1 : Int))))) + (1 : Int))))) (List.map (eI) aA) (by kernel_rfl) (by kernel_rfl) (by kernel_rfl) hO (by kernel_rfl) (bU (c13 hg16)) ?_
      refine nV 84 [(eI (gD aA (wR (aZ + (wR ((wR ((2 : Int) * bX)) + (1 : Int))))))), (eI (gD aA (wR ((wR (aZ + (wR ((wR ((2 : Int) * bX)) + (1 : Int))))) + (1 : Int)))))] (aB x14) (by kernel_rfl) (by kernel_rfl) (fC (gD aA (wR (aZ + (wR ((wR ((2 : Int) * bX)) + (1 : Int)))))) (gD aA (wR ((wR (aZ + (wR ((wR ((2 : Int) * bX)) + (1 : Int))))) + (1 : Int)))) _ (kN hx15 hg16)) hO ?_
      intro H hO
      refine kX ?_
      exact ⟨⟨[(0, (.msl 1 lo0p 0 (List.length aA))), (2, (eI hi2)), (3, (eI aZ)), (8, (eI bX)), (9, (eI (wR ((wR ((2 : Int) * bX)) + (1 : Int))))), (36, (aB x14))], by kernel_rfl, rfl, ⟨aL.refl _, aL.refl _, aL.refl _, aL.refl _, aL.refl _, aL.eq (congrArg aB (mD hg16 rfl).symm), trivial⟩⟩, hO⟩
    refine kX ?_
    exact ⟨⟨[(0, (.msl 1 lo0p 0 (List.length aA))), (2, (eI hi2)), (3, (eI aZ)), (8, (eI bX)), (9, (eI (wR ((wR ((2 : Int) * bX)) + (1 : Int))))), (36, (aB false))], by kernel_rfl, rfl, ⟨aL.refl _, aL.refl _, aL.refl _, aL.refl _, aL.refl _, aL.eq (congrArg aB (mD hg16 rfl).symm), trivial⟩⟩, hO⟩
  · rintro T H ⟨hT, hO⟩
    refine eY hT ?_
    clear hT
    refine aG (aH ?_)
    refine bR h1 (fun h1 => ?_) (fun h1 => ?_)
    · refine aP aC 3 ?_
      refine bC ?_
      exact aG (aH (⟨rfl, _, _, .eq (by kernel_rfl), hO, hN, h1⟩))
    refine bS ?_
    exact aG (aH (⟨rfl, _, _, .eq (by kernel_rfl), hO, hN, h1⟩))

theorem tP (lo0p : Nat) (aA : (List Int)) (a1 : Int) (b2 : Int) (r : List Int) (h0 : iU aA a1 b2 = some r) : lS Try.prog 79 lo0p 1 (List.map (eI) aA) (List.map (eI) r) [(.msl 1 lo0p 0 (List.length aA)), (eI a1), (eI b2)] (.tup []) := by
  intro H0 hl0
  refine dV Try.func79 ?_
  have hO := aJ.qX hl0
  clear hl0
  obtain ⟨N0, hN0⟩ : ∃ n, n = List.length aA := ⟨_, rfl⟩
  have hN : List.length aA = N0 := hN0.symm
  unfold iU at h0
  refine aS aC 2 [] [(6, (eI a1))] ?_
  refine aS aC 1 [] [(7, (eI (0 : Int)))] ?_
  refine aS aC 4 [1, 2] [(8, (eI (wR (b2 - a1))))] ?_
  refine jD (fun T H => ∃ aA : List Int, ∃ bI : Int, ∃ lo7 : Int, ∃ hi8 : Int, Has T [(0, (.msl 1 lo0p 0 (List.length aA))), (6, (eI bI)), (7, (eI lo7)), (8, (eI hi8))] ∧ aJ ⟨H0, [lo0p], []⟩ H [(lo0p, 1, List.map (eI) aA)] ∧ List.length aA = N0 ∧ iL aA bI lo7 hi8 = some r) ?_ ?_
  · clear hO hN h0
    rintro T H ⟨aA, bI, lo7, hi8, hT, hO, hN, h0⟩
    refine bM hT ?_
    clear hT
    unfold iL at h0
    refine aS aC 3 [8] [(10, (eI (wR (hi8 - (1 : Int)))))] ?_
    refine cG 2 ?_
    refine iD [(0, (.msl 1 lo0p 0 (List.length aA))), (6, (eI bI)), (7, (eI lo7)), (10, (eI (wR (hi8 - (1 : Int)))))] ?_
    refine iG (fun T H => ∃ aA : List Int, ∃ i10 : Int, Has T [(0, (.msl 1 lo0p 0 (List.length aA))), (6, (eI bI)), (7, (eI lo7)), (10, (eI i10))] ∧ aJ ⟨H0, [lo0p], []⟩ H [(lo0p, 1, List.map (eI) aA)] ∧ List.length aA = N0 ∧ jV aA bI lo7 i10 = some r) ?_ ⟨aA, wR (hi8 - (1 : Int)), .eq (by kernel_rfl), hO, hN, h0⟩
    clear hO hN h0
    rintro T H ⟨aA, i10, hT, hO, hN, h0⟩
    refine bM hT ?_
    clear hT
    unfold jV at h0
    obtain ⟨rr0, hl0, h0⟩ := aT h0
    refine eP (by kernel_rfl) (fun (s : List Int × Int) T H => Has T [(0, (.msl 1 lo0p 0 (List.length s.1))), (6, (eI bI)), (7, (eI lo7)), (10, (eI s.2))] ∧ aJ ⟨H0, [lo0p], []⟩ H [(lo0p, 1, List.map (eI) s.1)] ∧ List.length s.1 = N0) hl0 ⟨.eq (by kernel_rfl), hO, hN⟩ ?_
    clear hO hN
    rintro k0 s out1 T H ⟨hT, hO, hN⟩ h1 ho0
    obtain ⟨aA, i10⟩ := s
    replace h1 : dN bI lo7 aA i10 = some out1 := h1
    try dsimp only at hT
    refine bM hT ?_
    clear hT
    unfold dN at h1
    refine aN ?_
    refine aS aC 2 [] [(30, (aB (decide ((0 : Int) ≤ i10))))] ?_
    refine bR h1 (fun h1 => ?_) (fun h1 => ?_)
    · refine bS ?_
      refine bD [(0, (.msl 1 lo0p 0 (List.length aA))), (6, (eI bI)), (7, (eI lo7)), (10, (eI i10))] ?_
      refine aN ?_
      refine cG 3 ?_
      refine aN ?_
      refine gW (gU []) aC 20 ?_
      obtain ⟨c2, h1⟩ := aY h1
      refine cE 11 [0 ≤ (wR (bI + i10)) ∧ (wR (bI + i10)) < (lN aA)] ⟨c2, trivial⟩ ?_
      refine gJ 0 lo0p 1 (0 + Int.toNat (wR (bI + i10))) (eI (gD aA (wR (bI + i10)))) (eI (gD aA (wR (bI + i10)))) (List.map (eI) aA) hO (bU c2) ?_
      obtain ⟨c3, h1⟩ := aY h1
      refine cE 15 [0 ≤ bI ∧ bI < (lN aA)] ⟨c3, trivial⟩ ?_
      refine gJ 0 lo0p 1 (0 + Int.toNat bI) (eI (gD aA bI)) (eI (gD aA bI)) (List.map (eI) aA) hO (bU c3) ?_
      obtain ⟨c4, h1⟩ := aY h1
      refine cE 17 [0 ≤ bI ∧ bI < (lN aA)] ⟨c4, trivial⟩ ?_
      refine kB 0 lo0p 1 (0 + Int.toNat bI) (eI (gD aA bI)) (eI (gD aA (wR (bI + i10)))) (List.map (eI) aA) [(lo0p, 1, List.map (eI) (List.set aA (Int.toNat bI) (gD aA (wR (bI + i10)))))] hO (bU c4) (by simp only [List.set, gO]) ?_
      intro H hO
      replace hN : List.length (List.set aA (Int.toNat bI) (gD aA (wR (bI + i10)))) = N0 := by simpa using hN
      obtain ⟨c5, h1⟩ := aY h1
      refine cE 19 [0 ≤ (wR (bI + i10)) ∧ (wR (bI + i10)) < (lN aA)] ⟨c5, trivial⟩ ?_
      refine kB 0 lo0p 1 (0 + Int.toNat (wR (bI + i10))) (eI (gD (List.set aA (Int.toNat bI) (gD aA (wR (bI + i10)))) (wR (bI + i10)))) (eI (gD aA bI)) (List.map (eI) (List.set aA (Int.toNat bI) (gD aA (wR (bI + i10))))) [(lo0p, 1, List.map (eI) (List.set (List.set aA (Int.toNat bI) (gD aA (wR (bI + i10)))) (Int.toNat (wR (bI + i10))) (gD aA bI)))] hO (lO c5 (by simp [])) (by simp only [List.set, gO]) ?_
      intro H hO
      replace hN : List.length (List.set (List.set aA (Int.toNat bI) (gD aA (wR (bI + i10)))) (Int.toNat (wR (bI + i10))) (gD aA bI)) = N0 := by simpa using hN
      refine mC (by kernel_rfl) ?_
      refine eY (l := [(0, (.msl 1 lo0p 0 (List.length (List.set (List.set aA (Int.toNat bI) (gD aA (wR (bI + i10)))) (Int.toNat (wR (bI + i10))) (gD aA bI))))), (6, (eI bI)), (7, (eI lo7)), (10, (eI i10))]) ⟨[(0, (.msl 1 lo0p 0 (List.length aA))), (6, (eI bI)), (7, (eI lo7)), (10, (eI i10))], by kernel_rfl, rfl, ⟨aL.eq (by simp []), aL.refl _, aL.refl _, aL.refl _, trivial⟩⟩ ?_
      refine aG (aH (?_))
      refine aP aC 5 ?_
      refine bN 4 ?_
      obtain ⟨x6, hx7, h1⟩ := aT h1
      refine tQ [(lo0p, 1, List.map (eI) x6)] 0 (oF lo0p (List.set (List.set aA (Int.toNat bI) (gD aA (wR (bI + i10)))) (Int.toNat (wR (bI + i10))) (gD aA bI)) lo7 i10 bI _ hx7) hO ?_
      intro H hO hl8
      simp only [List.length_map] at hl8
      replace hN := hl8.trans hN
      refine dP ?_
      refine eY (l := [(0, (.msl 1 lo0p 0 (List.length x6))), (6, (eI bI)), (7, (eI lo7)), (10, (eI i10))]) ⟨[(0, (.msl 1 lo0p 0 (List.length (List.set (List.set aA (Int.toNat bI) (gD aA (wR (bI + i10)))) (Int.toNat (wR (bI + i10))) (gD aA bI))))), (6, (eI bI)), (7, (eI lo7)), (10, (eI i10))], by kernel_rfl, rfl, ⟨aL.eq (by simp [hl8]), aL.refl _, aL.refl _, aL.refl _, trivial⟩⟩ ?_
      refine aG (aV (aH (?_)))
      refine aP aC 3 ?_
      refine bC ?_
      exact aG (aH (⟨rfl, _, (oI h1).symm, .eq (by kernel_rfl), hO, hN⟩))
    refine jQ 2 ?_
    obtain rfl := oI h1
    obtain rfl : _ = rr0 := ho0
    replace h0 : some aA = some r := h0
    obtain rfl := oI h0
    exact aG (aW (aW (cI (tD (x := (.tup [])) (by kernel_rfl) (aL.refl _) ⟨rfl, hO.ext, hO.at 0 (by kernel_rfl), by first | rfl | (simp only [List.length_map]; exact hN.trans hN0)⟩))))
  refine aN ?_
  refine aP aC 4 ?_
  obtain ⟨c9, h0⟩ := aY h0
  refine rX [(2 : Int) ≠ 0] ⟨c9, trivial⟩ ?_
  refine cD [] [(9, (eI (wR (Int.tdiv (wR ((wR (b2 - a1)) - (1 : Int))) (2 : Int)))))] ?_
  refine cG 0 ?_
  refine iD [(0, (.msl 1 lo0p 0 (List.length aA))), (6, (eI a1)), (7, (eI (0 : Int))), (8, (eI (wR (b2 - a1)))), (9, (eI (wR (Int.tdiv (wR ((wR (b2 - a1)) - (1 : Int))) (2 : Int)))))] ?_
  refine iG (fun T H => ∃ aA : List Int, ∃ bI : Int, ∃ lo7 : Int, ∃ hi8 : Int, ∃ i9 : Int, Has T [(0, (.msl 1 lo0p 0 (List.length aA))), (6, (eI bI)), (7, (eI lo7)), (8, (eI hi8)), (9, (eI i9))] ∧ aJ ⟨H0, [lo0p], []⟩ H [(lo0p, 1, List.map (eI) aA)] ∧ List.length aA = N0 ∧ jT aA bI lo7 hi8 i9 = some r) ?_ ⟨aA, a1, (0 : Int), wR (b2 - a1), wR (Int.tdiv (wR ((wR (b2 - a1)) - (1 : Int))) (2 : Int)), .eq (by kernel_rfl), hO, hN, h0⟩
  clear hO hN h0
  rintro T H ⟨aA, bI, lo7, hi8, i9, hT, hO, hN, h0⟩
  refine bM hT ?_
  clear hT
  unfold jT at h0
  obtain ⟨rr0, hl0, h0⟩ := aT h0
  refine eP (by kernel_rfl) (fun (s : List Int × Int) T H => Has T [(0, (.msl 1 lo0p 0 (List.length s.1))), (6, (eI bI)), (7, (eI lo7)), (8, (eI hi8)), (9, (eI s.2))] ∧ aJ ⟨H0, [lo0p], []⟩ H [(lo0p, 1, List.map (eI) s.1)] ∧ List.length s.1 = N0) hl0 ⟨.eq (by kernel_rfl), hO, hN⟩ ?_
  clear hO hN
  rintro k0 s out1 T H ⟨hT, hO, hN⟩ h1 ho0
  obtain ⟨aA, i9⟩ := s
  replace h1 : dO bI lo7 hi8 aA i9 = some out1 := h1
  try dsimp only at hT
  refine bM hT ?_
  clear hT
  unfold dO at h1
  refine aN ?_
  refine aS aC 2 [] [(19, (aB (decide ((0 : Int) ≤ i9))))] ?_
  refine bR h1 (fun h1 => ?_) (fun h1 => ?_)
  · refine bS ?_
    refine bD [(0, (.msl 1 lo0p 0 (List.length aA))), (6, (eI bI)), (7, (eI lo7)), (8, (eI hi8)), (9, (eI i9))] ?_
    refine aN ?_
    refine cG 1 ?_
    refine aP aC 5 ?_
    refine bN 4 ?_
    obtain ⟨x11, hx12, h1⟩ := aT h1
    refine tQ [(lo0p, 1, List.map (eI) x11)] 0 (oF lo0p aA i9 hi8 bI _ hx12) hO ?_
    intro H hO hl13
    simp only [List.length_map] at hl13
    replace hN := hl13.trans hN
    refine dP ?_
    refine eY (l := [(0, (.msl 1 lo0p 0 (List.length x11))), (6, (eI bI)), (7, (eI lo7)), (8, (eI hi8)), (9, (eI i9))]) ⟨[(0, (.msl 1 lo0p 0 (List.length aA))), (6, (eI bI)), (7, (eI lo7)), (8, (eI hi8)), (9, (eI i9))], by kernel_rfl, rfl, ⟨aL.eq (by simp [hl13]), aL.refl _, aL.refl _, aL.refl _, aL.refl _, trivial⟩⟩ ?_
    refine aG (aV (aH (?_)))
    refine aP aC 3 ?_
    refine bC ?_
    exact aG (aH (⟨rfl, _, (oI h1).symm, .eq (by kernel_rfl), hO, hN⟩))
  refine jQ 0 ?_
  obtain rfl := oI h1
  obtain rfl : _ = rr0 := ho0
  replace h0 : iL aA bI lo7 hi8 = some r := h0
  exact aG (aW (aW (cI (aH (⟨rfl, _, _, _, _, .eq (by kernel_rfl), hO, hN, h0⟩)))))

theorem wK (xO : Int) (r : Int) (h0 : kF xO = some r) : dZ Try.prog 101 [(eI xO)] (cS .u64 r) := by
  intro H0
  refine dV Try.func101 ?_
  have hO := aJ.start H0
  unfold kF at h0
  refine aS aC 1 [] [] ?_
  refine aN ?_
  refine aP aC 5 ?_
  refine bN 2 ?_
  obtain ⟨x1, hx2, h0⟩ := aT h0
  refine fB (wT (IntKind.u64.wrap xO) _ hx2) hO ?_
  intro H hO
  obtain ⟨c4, h0⟩ := aY h0
  refine rX [0 ≤ x1] ⟨c4, trivial⟩ ?_
  refine bD [(2, (cS .u64 (IntKind.u64.wrap ((1 : Int) * 2 ^ (min (Int.toNat x1) 64)))))] ?_
  refine bL ?_
  obtain rfl := oI h0
  exact aG (Q_r hO)

theorem xG (lo0p : Nat) (r0 : Int) (r : (Int × Int)) (h0 : kO r0 = some r) : vD Try.prog 102 [(.lp lo0p 0 0)] [(lo0p, 1, [(cS .u64 r0)])] (fun x L => x = (cS .u64 r.1) ∧ L = [(lo0p, 1, [(cS .u64 r.2)])]) := by
  intro F H0 hO
  obtain ⟨Fh, Fe, Fg⟩ := F
  refine dV Try.func102 ?_
  unfold kO at h0
  refine aS aC 1 [] [] ?_
  refine aN ?_
  refine gW (gU []) aC 10 ?_
  refine lJ 2 ?_
  refine gJ 0 lo0p 1 0 (cS .u64 r0) (cS .u64 r0) [(cS .u64 r0)] hO rfl ?_
  refine lJ 5 ?_
  refine gJ 0 lo0p 1 0 (cS .u64 r0) (cS .u64 r0) [(cS .u64 r0)] hO rfl ?_
  obtain ⟨c1, h0⟩ := aY h0
  refine cE 9 [0 ≤ (13 : Int)] ⟨c1, trivial⟩ ?_
  refine kB 0 lo0p 1 0 (cS .u64 r0) (cS .u64 (bH .xor .u64 r0 (IntKind.u64.wrap (r0 * 2 ^ (min (Int.toNat (13 : Int)) 64))))) [(cS .u64 r0)] [(lo0p, 1, [(cS .u64 (bH .xor .u64 r0 (IntKind.u64.wrap (r0 * 2 ^ (min (Int.toNat (13 : Int)) 64)))))])] hO rfl (by kernel_rfl) ?_
  intro H hO
  refine mC (by kernel_rfl) ?_
  refine cD [] [] ?_
  refine aN ?_
  refine gW (gU []) aC 10 ?_
  refine lJ 2 ?_
  refine gJ 0 lo0p 1 0 (cS .u64 (bH .xor .u64 r0 (IntKind.u64.wrap (r0 * 2 ^ (min (Int.toNat (13 : Int)) 64))))) (cS .u64 (bH .xor .u64 r0 (IntKind.u64.wrap (r0 * 2 ^ (min (Int.toNat (13 : Int)) 64))))) [(cS .u64 (bH .xor .u64 r0 (IntKind.u64.wrap (r0 * 2 ^ (min (Int.toNat (13 : Int)) 64)))))] hO rfl ?_
  refine lJ 5 ?_
  refine gJ 0 lo0p 1 0 (cS .u64 (bH .xor .u64 r0 (IntKind.u64.wrap (r0 * 2 ^ (min (Int.toNat (13 : Int)) 64))))) (cS .u64 (bH .xor .u64 r0 (IntKind.u64.wrap (r0 * 2 ^ (min (Int.toNat (13 : Int)) 64))))) [(cS .u64 (bH .xor .u64 r0 (IntKind.u64.wrap (r0 * 2 ^ (min (Int.toNat (13 : Int)) 64)))))] hO rfl ?_
  obtain ⟨c2, h0⟩ := aY h0
  refine cE 9 [0 ≤ (7 : Int)] ⟨c2, trivial⟩ ?_
  refine kB 0 lo0p 1 0 (cS .u64 (bH .xor .u64 r0 (IntKind.u64.wrap (r0 * 2 ^ (min (Int.toNat (13 : Int)) 64))))) (cS .u64 (bH .xor .u64 (bH .xor .u64 r0 (IntKind.u64.wrap (r0 * 2 ^ (min (Int.toNat (13 : Int)) 64)))) (Int.fdiv (bH .xor .u64 r0 (IntKind.u64.wrap (r0 * 2 ^ (min (Int.toNat (13 : Int)) 64)))) (2 ^ (min (Int.toNat (7 : Int)) 64))))) [(cS .u64 (bH .xor .u64 r0 (IntKind.u64.wrap (r0 * 2 ^ (min (Int.toNat (13 : Int)) 64)))))] [(lo0p, 1, [(cS .u64 (bH .xor .u64 (bH .xor .u64 r0 (IntKind.u64.wrap (r0 * 2 ^ (min (Int.toNat (13 : Int)) 64)))) (Int.fdiv (bH .xor .u64 r0 (IntKind.u64.wrap (r0 * 2 ^ (min (Int.toNat (13 : Int)) 64)))) (2 ^ (min (Int.toNat (7 : Int)) 64)))))])] hO rfl (by kernel_rfl) ?_
  intro H hO
  refine mC (by kernel_rfl) ?_
  refine cD [] [] ?_
  refine aN ?_
  refine gW (gU []) aC 10 ?_
  refine lJ 2 ?_
  refine gJ 0 lo0p 1 0 (cS .u64 (bH .xor .u64 (bH .xor .u64 r0 (IntKind.u64.wrap (r0 * 2 ^ (min (Int.toNat (13 : Int)) 64)))) (Int.fdiv (bH .xor .u64 r0 (IntKind.u64.wrap (r0 * 2 ^ (min (Int.toNat (13 : Int)) 64)))) (2 ^ (min (Int.toNat (7 : Int)) 64))))) (cS .u64 (bH .xor .u64 (bH .xor .u64 r0 (IntKind.u64.wrap (r0 * 2 ^ (min (Int.toNat (13 : Int)) 64)))) (Int.fdiv (bH .xor .u64 r0 (IntKind.u64.wrap (r0 * 2 ^ (min (Int.toNat (13 : Int)) 64)))) (2 ^ (min (Int.toNat (7 : Int)) 64))))) [(cS .u64 (bH .xor .u64 (bH .xor .u64 r0 (IntKind.u64.wrap (r0 * 2 ^ (min (Int.toNat (13 : Int)) 64)))) (Int.fdiv (bH .xor .u64 r0 (IntKind.u64.wrap (r0 * 2 ^ (min (Int.toNat (13 : Int)) 64)))) (2 ^ (min (Int.toNat (7 : Int)) 64)))))] hO rfl ?_
  refine lJ 5 ?_
  refine gJ 0 lo0p 1 0 (cS .u64 (bH .xor .u64 (bH .xor .u64 r0 (IntKind.u64.wrap (r0 * 2 ^ (min (Int.toNat (13 : Int)) 64)))) (Int.fdiv (bH .xor .u64 r0 (IntKind.u64.wrap (r0 * 2 ^ (min (Int.toNat (13 : Int)) 64)))) (2 ^ (min (Int.toNat (7 : Int)) 64))))) (cS .u64 (bH .xor .u64 (bH .xor .u64 r0 (IntKind.u64.wrap (r0 * 2 ^ (min (Int.toNat (13 : Int)) 64)))) (Int.fdiv (bH .xor .u64 r0 (IntKind.u64.wrap (r0 * 2 ^ (min (Int.toNat (13 : Int)) 64)))) (2 ^ (min (Int.toNat (7 : Int)) 64))))) [(cS .u64 (bH .xor .u64 (bH .xor .u64 r0 (IntKind.u64.wrap (r0 * 2 ^ (min (Int.toNat (13 : Int)) 64)))) (Int.fdiv (bH .xor .u64 r0 (IntKind.u64.wrap (r0 * 2 ^ (min (Int.toNat (13 : Int)) 64)))) (2 ^ (min (Int.toNat (7 : Int)) 64)))))] hO rfl ?_
  obtain ⟨c3, h0⟩ := aY h0
  refine cE 9 [0 ≤ (17 : Int)] ⟨c3, trivial⟩ ?_
  refine kB 0 lo0p 1 0 (cS .u64 (bH .xor .u64 (bH .xor .u64 r0 (IntKind.u64.wrap (r0 * 2 ^ (min (Int.toNat (13 : Int)) 64)))) (Int.fdiv (bH .xor .u64 r0 (IntKind.u64.wrap (r0 * 2 ^ (min (Int.toNat (13 : Int)) 64)))) (2 ^ (min (Int.toNat (7 : Int)) 64))))) (cS .u64 (bH .xor .u64 (bH .xor .u64 (bH .xor .u64 r0 (IntKind.u64.wrap (r0 * 2 ^ (min (Int.toNat (13 : Int)) 64)))) (Int.fdiv (bH .xor .u64 r0 (IntKind.u64.wrap (r0 * 2 ^ (min (Int.toNat (13 : Int)) 64)))) (2 ^ (min (Int.toNat (7 : Int)) 64)))) (IntKind.u64.wrap ((bH .xor .u64 (bH .xor .u64 r0 (IntKind.u64.wrap (r0 * 2 ^ (min (Int.toNat (13 : Int)) 64)))) (Int.fdiv (bH .xor .u64 r0 (IntKind.u64.wrap (r0 * 2 ^ (min (Int.toNat (13 : Int)) 64)))) (2 ^ (min (Int.toNat (7 : Int)) 64)))) * 2 ^ (min (Int.toNat (17 : Int)) 64))))) [(cS .u64 (bH .xor .u64 (bH .xor .u64 r0 (IntKind.u64.wrap (r0 * 2 ^ (min (Int.toNat (13 : Int)) 64)))) (Int.fdiv (bH .xor .u64 r0 (IntKind.u64.wrap (r0 * 2 ^ (min (Int.toNat (13 : Int)) 64)))) (2 ^ (min (Int.toNat (7 : Int)) 64)))))] [(lo0p, 1, [(cS .u64 (bH .xor .u64 (bH .xor .u64 (bH .xor .u64 r0 (IntKind.u64.wrap (r0 * 2 ^ (min (Int.toNat (13 : Int)) 64)))) (Int.fdiv (bH .xor .u64 r0 (IntKind.u64.wrap (r0 * 2 ^ (min (Int.toNat (13 : Int)) 64)))) (2 ^ (min (Int.toNat (7 : Int)) 64)))) (IntKind.u64.wrap ((bH .xor .u64 (bH .xor .u64 r0 (IntKind.u64.wrap (r0 * 2 ^ (min (Int.toNat (13 : Int)) 64)))) (Int.fdiv (bH .xor .u64 r0 (IntKind.u64.wrap (r0 * 2 ^ (min (Int.toNat (13 : Int)) 64)))) (2 ^ (min (Int.toNat (7 : Int)) 64)))) * 2 ^ (min (Int.toNat (17 : Int)) 64)))))])] hO rfl (by kernel_rfl) ?_
  intro H hO
  refine mC (by kernel_rfl) ?_
  refine cD [] [] ?_
  refine aN ?_
  refine aP aC 4 ?_
  refine bN 2 ?_
  refine mS 0 lo0p 1 0 (cS .u64 (bH .xor .u64 (bH .xor .u64 (bH .xor .u64 r0 (IntKind.u64.wrap (r0 * 2 ^ (min (Int.toNat (13 : Int)) 64)))) (Int.fdiv (bH .xor .u64 r0 (IntKind.u64.wrap (r0 * 2 ^ (min (Int.toNat (13 : Int)) 64)))) (2 ^ (min (Int.toNat (7 : Int)) 64)))) (IntKind.u64.wrap ((bH .xor .u64 (bH .xor .u64 r0 (IntKind.u64.wrap (r0 * 2 ^ (min (Int.toNat (13 : Int)) 64)))) (Int.fdiv (bH .xor .u64 r0 (IntKind.u64.wrap (r0 * 2 ^ (min (Int.toNat (13 : Int)) 64)))) (2 ^ (min (Int.toNat (7 : Int)) 64)))) * 2 ^ (min (Int.toNat (17 : Int)) 64))))) (cS .u64 (bH .xor .u64 (bH .xor .u64 (bH .xor .u64 r0 (IntKind.u64.wrap (r0 * 2 ^ (min (Int.toNat (13 : Int)) 64)))) (Int.fdiv (bH .xor .u64 r0 (IntKind.u64.wrap (r0 * 2 ^ (min (Int.toNat (13 : Int)) 64)))) (2 ^ (min (Int.toNat (7 : Int)) 64)))) (IntKind.u64.wrap ((bH .xor .u64 (bH .xor .u64 r0 (IntKind.u64.wrap (r0 * 2 ^ (min (Int.toNat (13 : Int)) 64)))) (Int.fdiv (bH .xor .u64 r0 (IntKind.u64.wrap (r0 * 2 ^ (min (Int.toNat (13 : Int)) 64)))) (2 ^ (min (Int.toNat (7 : Int)) 64)))) * 2 ^ (min (Int.toNat (17 : Int)) 64))))) [(cS .u64 (bH .xor .u64 (bH .xor .u64 (bH .xor .u64 r0 (IntKind.u64.wrap (r0 * 2 ^ (min (Int.toNat (13 : Int)) 64)))) (Int.fdiv (bH .xor .u64 r0 (IntKind.u64.wrap (r0 * 2 ^ (min (Int.toNat (13 : Int)) 64)))) (2 ^ (min (Int.toNat (7 : Int)) 64)))) (IntKind.u64.wrap ((bH .xor .u64 (bH .xor .u64 r0 (IntKind.u64.wrap (r0 * 2 ^ (min (Int.toNat (13 : Int)) 64)))) (Int.fdiv (bH .xor .u64 r0 (IntKind.u64.wrap (r0 * 2 ^ (min (Int.toNat (13 : Int)) 64)))) (2 ^ (min (Int.toNat (7 : Int)) 64)))) * 2 ^ (min (Int.toNat (17 : Int)) 64)))))] hO rfl ?_
  refine bC ?_
  refine bD [(0, (.lp lo0p 0 0)), (2, (cS .u64 (bH .xor .u64 (bH .xor .u64 (bH .xor .u64 r0 (IntKind.u64.wrap (r0 * 2 ^ (min (Int.toNat (13 : Int)) 64)))) (Int.fdiv (bH .xor .u64 r0 (IntKind.u64.wrap (r0 * 2 ^ (min (Int.toNat (13 : Int)) 64)))) (2 ^ (min (Int.toNat (7 : Int)) 64)))) (IntKind.u64.wrap ((bH .xor .u64 (bH .xor .u64 r0 (IntKind.u64.wrap (r0 * 2 ^ (min (Int.toNat (13 : Int)) 64)))) (Int.fdiv (bH .xor .u64 r0 (IntKind.u64.wrap (r0 * 2 ^ (min (Int.toNat (13 : Int)) 64)))) (2 ^ (min (Int.toNat (7 : Int)) 64)))) * 2 ^ (min (Int.toNat (17 : Int)) 64))))))] ?_
  refine bL ?_
  obtain rfl := oI h0
  exact aG (zI hO ⟨rfl, rfl⟩)

theorem sA (lo0p : Nat) (aA : (List Int)) (a1 : Int) (b2 : Int) (r : List Int) (h0 : fU aA a1 b2 = some r) : lS Try.prog 80 lo0p 1 (List.map (eI) aA) (List.map (eI) r) [(.msl 1 lo0p 0 (List.length aA)), (eI a1), (eI b2)] (.tup []) := by
  intro H0 hl0
  refine dV Try.func80 ?_
  have hO := aJ.qX hl0
  clear hl0
  obtain ⟨N0, hN0⟩ : ∃ n, n = List.length aA := ⟨_, rfl⟩
  have hN : List.length aA = N0 := hN0.symm
  unfold fU at h0
  refine aS aC 4 [2] [(6, (eI (wR (b2 - a1))))] ?_
  refine aS aC 2 [] [(15, (aB (decide ((8 : Int) ≤ (wR (b2 - a1))))))] ?_
  refine bR h0 (fun h0 => ?_) (fun h0 => ?_)
  · refine aN ?_
    refine aP aC 4 ?_
    refine bN 2 ?_
    refine kJ 1 (cS .u64 0) (by kernel_rfl) (by kernel_rfl) hO ?_
    intro lo2 H hO
    refine iS 1 lo2 1 0 (cS .u64 0) (cS .u64 (IntKind.u64.wrap (wR (b2 - a1)))) [(cS .u64 0)] [(lo0p, 1, List.map (eI) aA), (lo2, 1, [(cS .u64 (IntKind.u64.wrap (wR (b2 - a1))))])] hO rfl (by kernel_rfl) ?_
    intro H hO
    refine dP ?_
    refine cD [15] [(7, (.lp lo2 0 0))] ?_
    refine aN ?_
    refine aP aC 3 ?_
    refine bN 1 ?_
    obtain ⟨x3, hx4, h0⟩ := aT h0
    refine fB (wK (wR (b2 - a1)) _ hx4) hO ?_
    intro H hO
    refine bC ?_
    refine cD [] [(8, (cS .u64 x3))] ?_
    refine aN ?_
    refine aP aC 7 ?_
    obtain ⟨c6, h0⟩ := aY h0
    refine rX [(4 : Int) ≠ 0] ⟨c6, trivial⟩ ?_
    refine bD [(0, (.msl 1 lo0p 0 (List.length aA))), (1, (eI a1)), (6, (eI (wR (b2 - a1)))), (7, (.lp lo2 0 0)), (8, (cS .u64 x3)), (9, (eI (wR ((wR (a1 + (wR ((wR (Int.tdiv (wR (b2 - a1)) (4 : Int))) * (2 : Int))))) - (1 : Int)))))] ?_
    refine cG 0 ?_
    refine iD [(0, (.msl 1 lo0p 0 (List.length aA))), (1, (eI a1)), (6, (eI (wR (b2 - a1)))), (7, (.lp lo2 0 0)), (8, (cS .u64 x3)), (9, (eI (wR ((wR (a1 + (wR ((wR (Int.tdiv (wR (b2 - a1)) (4 : Int))) * (2 : Int))))) - (1 : Int)))))] ?_
    refine iG (fun T H => ∃ aA : List Int, ∃ jH : Int, ∃ kM : Int, ∃ iC : Int, ∃ idx9 : Int, Has T [(0, (.msl 1 lo0p 0 (List.length aA))), (1, (eI a1)), (6, (eI jH)), (7, (.lp lo2 0 0)), (8, (cS .u64 iC)), (9, (eI idx9))] ∧ aJ ⟨H0, [lo0p], []⟩ H [(lo0p, 1, List.map (eI) aA), (lo2, 1, [(cS .u64 kM)])] ∧ List.length aA = N0 ∧ iO aA a1 jH kM iC idx9 = some r) ?_ ⟨aA, wR (b2 - a1), IntKind.u64.wrap (wR (b2 - a1)), x3, wR ((wR (a1 + (wR ((wR (Int.tdiv (wR (b2 - a1)) (4 : Int))) * (2 : Int))))) - (1 : Int)), .eq (by kernel_rfl), hO, hN, h0⟩
    clear hO hN h0
    rintro T H ⟨aA, jH, kM, iC, idx9, hT, hO, hN, h0⟩
    refine bM hT ?_
    clear hT
    unfold iO at h0
    obtain ⟨rr0, hl0, h0⟩ := aT h0
    refine eP (by kernel_rfl) (fun (s : List Int × Int × Int) T H => Has T [(0, (.msl 1 lo0p 0 (List.length s.1))), (1, (eI a1)), (6, (eI jH)), (7, (.lp lo2 0 0)), (8, (cS .u64 iC)), (9, (eI s.2.2))] ∧ aJ ⟨H0, [lo0p], []⟩ H [(lo0p, 1, List.map (eI) s.1), (lo2, 1, [(cS .u64 s.2.1)])] ∧ List.length s.1 = N0) hl0 ⟨.eq (by kernel_rfl), hO, hN⟩ ?_
    clear hO hN
    rintro k0 s out1 T H ⟨hT, hO, hN⟩ h1 ho0
    obtain ⟨aA, kM, idx9⟩ := s
    replace h1 : cN a1 jH iC aA kM idx9 = some out1 := h1
    try dsimp only at hT
    refine bM hT ?_
    clear hT
    unfold cN at h1
    refine aN ?_
    refine aN ?_
    refine aP aC 8 ?_
    obtain ⟨c7, h1⟩ := aY h1
    refine rX [(4 : Int) ≠ 0] ⟨c7, trivial⟩ ?_
    refine cD [] [(33, (aB (decide (idx9 ≤ (wR ((wR (a1 + (wR ((wR (Int.tdiv jH (4 : Int))) * (2 : Int))))) + (1 : Int)))))))] ?_
    refine bR h1 (fun h1 => ?_) (fun h1 => ?_)
    · refine bS ?_
      refine bD [(0, (.msl 1 lo0p 0 (List.length aA))), (1, (eI a1)), (6, (eI jH)), (7, (.lp lo2 0 0)), (8, (cS .u64 iC)), (9, (eI idx9))] ?_
      refine aN ?_
      refine cG 1 ?_
      refine aN ?_
      refine aP aC 6 ?_
      obtain ⟨x9, hx10, h1⟩ := aT h1
      refine xF [(lo0p, 1, List.map (eI) aA)] [1, 0] (xG lo2 kM _ hx10) hO ?_
      intro r11 L12 H hP13 hO
      obtain ⟨rfl, rfl⟩ := hP13
      replace hO : aJ ⟨H0, [lo0p], []⟩ H [(lo2, 1, [(cS .u64 x9.2)]), (lo0p, 1, List.map (eI) aA)] := hO
      refine bC ?_
      replace hO := hO.pick (L' := [(lo0p, 1, List.map (eI) aA), (lo2, 1, [(cS .u64 x9.2)])]) [1, 0] (by decide) (by kernel_rfl)
      refine cD [] [(10, (eI (wR (bH .and .u64 x9.1 (IntKind.u64.wrap (iC - (1 : Int)))))))] ?_
      refine jD (fun T H => ∃ aA : List Int, ∃ kM : Int, ∃ eZ : Int, Has T [(0, (.msl 1 lo0p 0 (List.length aA))), (1, (eI a1)), (6, (eI jH)), (7, (.lp lo2 0 0)), (8, (cS .u64 iC)), (9, (eI idx9)), (10, (eI eZ))] ∧ aJ ⟨H0, [lo0p], []⟩ H [(lo0p, 1, List.map (eI) aA), (lo2, 1, [(cS .u64 kM)])] ∧ List.length aA = N0 ∧ eM aA a1 jH kM iC idx9 eZ = some out1) ?_ ?_
      · clear hO hN h1
        rintro T H ⟨aA, kM, eZ, hT, hO, hN, h1⟩
        refine bM hT ?_
        clear hT
        unfold eM at h1
        refine gW (gU []) aC 20 ?_
        obtain ⟨c14, h1⟩ := aY h1
        refine cE 11 [0 ≤ (wR (a1 + eZ)) ∧ (wR (a1 + eZ)) < (lN aA)] ⟨c14, trivial⟩ ?_
        refine gJ 0 lo0p 1 (0 + Int.toNat (wR (a1 + eZ))) (eI (gD aA (wR (a1 + eZ)))) (eI (gD aA (wR (a1 + eZ)))) (List.map (eI) aA) hO (bU c14) ?_
        obtain ⟨c15, h1⟩ := aY h1
        refine cE 15 [0 ≤ idx9 ∧ idx9 < (lN aA)] ⟨c15, trivial⟩ ?_
        refine gJ 0 lo0p 1 (0 + Int.toNat idx9) (eI (gD aA idx9)) (eI (gD aA idx9)) (List.map (eI) aA) hO (bU c15) ?_
        obtain ⟨c16, h1⟩ := aY h1
        refine cE 17 [0 ≤ idx9 ∧ idx9 < (lN aA)] ⟨c16, trivial⟩ ?_
        refine kB 0 lo0p 1 (0 + Int.toNat idx9) (eI (gD aA idx9)) (eI (gD aA (wR (a1 + eZ)))) (List.map (eI) aA) [(lo0p, 1, List.map (eI) (List.set aA (Int.toNat idx9) (gD aA (wR (a1 + eZ))))), (lo2, 1, [(cS .u64 kM)])] hO (bU c16) (by simp only [List.set, gO]) ?_
        intro H hO
        replace hN : List.length (List.set aA (Int.toNat idx9) (gD aA (wR (a1 + eZ)))) = N0 := by simpa using hN
        obtain ⟨c17, h1⟩ := aY h1
        refine cE 19 [0 ≤ (wR (a1 + eZ)) ∧ (wR (a1 + eZ)) < (lN aA)] ⟨c17, trivial⟩ ?_
        refine kB 0 lo0p 1 (0 + Int.toNat (wR (a1 + eZ))) (eI (gD (List.set aA (Int.toNat idx9) (gD aA (wR (a1 + eZ)))) (wR (a1 + eZ)))) (eI (gD aA idx9)) (List.map (eI) (List.set aA (Int.toNat idx9) (gD aA (wR (a1 + eZ))))) [(lo0p, 1, List.map (eI) (List.set (List.set aA (Int.toNat idx9) (gD aA (wR (a1 + eZ)))) (Int.toNat (wR (a1 + eZ))) (gD aA idx9))), (lo2, 1, [(cS .u64 kM)])] hO (lO c17 (by simp [])) (by simp only [List.set, gO]) ?_
        intro H hO
        replace hN : List.length (List.set (List.set aA (Int.toNat idx9) (gD aA (wR (a1 + eZ)))) (Int.toNat (wR (a1 + eZ))) (gD aA idx9)) = N0 := by simpa using hN
        refine mC (by kernel_rfl) ?_
        refine eY (l := [(0, (.msl 1 lo0p 0 (List.length (List.set (List.set aA (Int.toNat idx9) (gD aA (wR (a1 + eZ)))) (Int.toNat (wR (a1 + eZ))) (gD aA idx9))))), (1, (eI a1)), (6, (eI jH)), (7, (.lp lo2 0 0)), (8, (cS .u64 iC)), (9, (eI idx9))]) ⟨[(0, (.msl 1 lo0p 0 (List.length aA))), (1, (eI a1)), (6, (eI jH)), (7, (.lp lo2 0 0)), (8, (cS .u64 iC)), (9, (eI idx9))], by kernel_rfl, rfl, ⟨aL.eq (by simp []), aL.refl _, aL.refl _, aL.refl _, aL.refl _, aL.refl _, trivial⟩⟩ ?_
        refine aG (aV (aH (?_)))
        refine aP aC 3 ?_
        refine bC ?_
        exact aG (aH (⟨rfl, _, (oI h1).symm, .eq (by kernel_rfl), hO, hN⟩))
      refine aS aC 3 [] [(43, (aB (decide (jH ≤ (wR (bH .and .u64 x9.1 (IntKind.u64.wrap (iC - (1 : Int)))))))))] ?_
      refine bR h1 (fun h1 => ?_) (fun h1 => ?_)
      · refine aP aC 4 ?_
        refine bC ?_
        exact aG (aH (⟨rfl, _, _, _, .eq (by kernel_rfl), hO, hN, h1⟩))
      refine bS ?_
      exact aG (aH (⟨rfl, _, _, _, .eq (by kernel_rfl), hO, hN, h1⟩))
    refine jQ 0 ?_
    replace hO := hO.pick (L' := [(lo0p, 1, List.map (eI) aA)]) [0] (by decide) (by kernel_rfl)
    obtain rfl := oI h1
    obtain rfl : _ = rr0 := ho0
    replace h0 : some aA = some r := h0
    obtain rfl := oI h0
    exact aG (aW (aW (cI (tD (x := (.tup [])) (by kernel_rfl) (aL.refl _) ⟨rfl, hO.ext, hO.at 0 (by kernel_rfl), by first | rfl | (simp only [List.length_map]; exact hN.trans hN0)⟩))))
  refine bS ?_
  obtain rfl := oI h0
  exact aG (tD (x := (.tup [])) (by kernel_rfl) (aL.refl _) ⟨rfl, hO.ext, hO.at 0 (by kernel_rfl), by first | rfl | (simp only [List.length_map]; exact hN.trans hN0)⟩)

theorem mH (lo0p : Nat) (aA : (List Int)) (a1 : Int) (b2 : Int) (lo3p : Nat) (pH : Int) (r : ((Int × Int) × Int)) (h0 : fG aA a1 b2 pH = some r) : vD Try.prog 109 [(.msl 1 lo0p 0 (List.length aA)), (eI a1), (eI b2), (.lp lo3p 0 0)] [(lo0p, 1, List.map (eI) aA), (lo3p, 1, [(eI pH)])] (fun x L => x = (.tup [(eI r.1.1), (eI r.1.2)]) ∧ L = [(lo0p, 1, List.map (eI) aA), (lo3p, 1, [(eI r.2)])]) := by
  intro F H0 hO
  obtain ⟨Fh, Fe, Fg⟩ := F
  refine dV Try.func109 ?_
  unfold fG at h0
  refine aS aC 2 [] [] ?_
  refine aN ?_
  refine aN ?_
  refine gW (gU [18]) aC 9 ?_
  obtain ⟨c1, h0⟩ := aY h0
  refine cE 3 [0 ≤ b2 ∧ b2 < (lN aA)] ⟨c1, trivial⟩ ?_
  refine gJ 0 lo0p 1 (0 + Int.toNat b2) (eI (gD aA b2)) (eI (gD aA b2)) (List.map (eI) aA) hO (bU c1) ?_
  obtain ⟨c2, h0⟩ := aY h0
  refine cE 7 [0 ≤ a1 ∧ a1 < (lN aA)] ⟨c2, trivial⟩ ?_
  refine gJ 0 lo0p 1 (0 + Int.toNat a1) (eI (gD aA a1)) (eI (gD aA a1)) (List.map (eI) aA) hO (bU c2) ?_
  obtain ⟨x3, hx4, h0⟩ := aT h0
  refine wZ (fC (gD aA b2) (gD aA a1) _ hx4) hO ?_
  intro H hO
  refine mC (by kernel_rfl) ?_
  refine cD [] [(18, (aB x3))] ?_
  refine bR h0 (fun h0 => ?_) (fun h0 => ?_)
  · refine aN ?_
    refine aP aC 6 ?_
    refine bN 2 ?_
    refine mS 1 lo3p 1 0 (eI pH) (eI pH) [(eI pH)] hO rfl ?_
    refine bN 5 ?_
    refine iS 1 lo3p 1 0 (eI pH) (eI (wR (pH + (1 : Int)))) [(eI pH)] [(lo0p, 1, List.map (eI) aA), (lo3p, 1, [(eI (wR (pH + (1 : Int))))])] hO rfl (by kernel_rfl) ?_
    intro H hO
    refine dP ?_
    refine cD [18] [] ?_
    refine aS aC 4 [1, 2] [(8, (eI b2)), (9, (eI a1))] ?_
    refine bL ?_
    obtain rfl := oI h0
    exact aG (aR (zI hO ⟨rfl, rfl⟩))
  refine bS ?_
  refine bD [(0, (.msl 1 lo0p 0 (List.length aA))), (1, (eI a1)), (2, (eI b2)), (3, (.lp lo3p 0 0))] ?_
  refine aS aC 4 [1, 2] [(8, (eI a1)), (9, (eI b2))] ?_
  refine bL ?_
  obtain rfl := oI h0
  exact aG (zI hO ⟨rfl, rfl⟩)

theorem pG (lo0p : Nat) (aA : (List Int)) (a1 : Int) (b2 : Int) (c3 : Int) (lo4p : Nat) (AL : Int) (r : (Int × Int)) (h0 : gY aA a1 b2 c3 AL = some r) : vD Try.prog 104 [(.msl 1 lo0p 0 (List.length aA)), (eI a1), (eI b2), (eI c3), (.lp lo4p 0 0)] [(lo0p, 1, List.map (eI) aA), (lo4p, 1, [(eI AL)])] (fun x L => x = (eI r.1) ∧ L = [(lo0p, 1, List.map (eI) aA), (lo4p, 1, [(eI r.2)])]) := by
  intro F H0 hO
  obtain ⟨Fh, Fe, Fg⟩ := F
  refine dV Try.func104 ?_
  unfold gY at h0
  refine aS aC 1 [] [] ?_
  refine aN ?_
  refine aP aC 10 ?_
  refine bN 4 ?_
  obtain ⟨x1, hx2, h0⟩ := aT h0
  refine xF [] [0, 1] (mH lo0p aA a1 b2 lo4p AL _ hx2) hO ?_
  intro r3 L4 H hP5 hO
  obtain ⟨rfl, rfl⟩ := hP5
  replace hO : aJ ⟨Fh, Fe, Fg⟩ H [(lo0p, 1, List.map (eI) aA), (lo4p, 1, [(eI x1.2)])] := hO
  refine bC ?_
  refine cD [1, 2] [(1, (eI x1.1.1)), (2, (eI x1.1.2))] ?_
  refine aN ?_
  refine aP aC 10 ?_
  refine bN 4 ?_
  obtain ⟨x6, hx7, h0⟩ := aT h0
  refine xF [] [0, 1] (mH lo0p aA x1.1.2 c3 lo4p x1.2 _ hx7) hO ?_
  intro r8 L9 H hP10 hO
  obtain ⟨rfl, rfl⟩ := hP10
  replace hO : aJ ⟨Fh, Fe, Fg⟩ H [(lo0p, 1, List.map (eI) aA), (lo4p, 1, [(eI x6.2)])] := hO
  refine bC ?_
  refine cD [2, 3] [(2, (eI x6.1.1))] ?_
  refine aN ?_
  refine aP aC 10 ?_
  refine bN 4 ?_
  obtain ⟨x11, hx12, h0⟩ := aT h0
  refine xF [] [0, 1] (mH lo0p aA x1.1.1 x6.1.1 lo4p x6.2 _ hx12) hO ?_
  intro r13 L14 H hP15 hO
  obtain ⟨rfl, rfl⟩ := hP15
  replace hO : aJ ⟨Fh, Fe, Fg⟩ H [(lo0p, 1, List.map (eI) aA), (lo4p, 1, [(eI x11.2)])] := hO
  refine bC ?_
  refine cD [1, 2] [(2, (eI x11.1.2))] ?_
  refine cO aC 2 [(0, (.msl 1 lo0p 0 (List.length aA))), (4, (.lp lo4p 0 0)), (10, (eI x11.1.2))] ?_
  refine bL ?_
  obtain rfl := oI h0
  exact aG (zI hO ⟨rfl, rfl⟩)

theorem kG (lo0p : Nat) (aA : (List Int)) (a1 : Int) (lo2p : Nat) (AS : Int) (r : (Int × Int)) (h0 : dK aA a1 AS = some r) : vD Try.prog 103 [(.msl 1 lo0p 0 (List.length aA)), (eI a1), (.lp lo2p 0 0)] [(lo0p, 1, List.map (eI) aA), (lo2p, 1, [(eI AS)])] (fun x L => x = (eI r.1) ∧ L = [(lo0p, 1, List.map (eI) aA), (lo2p, 1, [(eI r.2)])]) := by
  intro F H0 hO
  obtain ⟨Fh, Fe, Fg⟩ := F
  refine dV Try.func103 ?_
  unfold dK at h0
  refine aS aC 1 [] [] ?_
  refine aN ?_
  refine aP aC 9 ?_
  refine bN 7 ?_
  obtain ⟨x1, hx2, h0⟩ := aT h0
  refine xF [] [0, 1] (pG lo0p aA (wR (a1 - (1 : Int))) a1 (wR (a1 + (1 : Int))) lo2p AS _ hx2) hO ?_
  intro r3 L4 H hP5 hO
  obtain ⟨rfl, rfl⟩ := hP5
  replace hO : aJ ⟨Fh, Fe, Fg⟩ H [(lo0p, 1, List.map (eI) aA), (lo2p, 1, [(eI x1.2)])] := hO
  refine bC ?_
  refine cD [1] [(6, (eI x1.1))] ?_
  refine bL ?_
  obtain rfl := oI h0
  exact aG (zI hO ⟨rfl, rfl⟩)

theorem sW (lo0p : Nat) (aA : (List Int)) (a1 : Int) (b2 : Int) (r : (Int × Int)) (h0 : gM aA a1 b2 = some r) : vD Try.prog 81 [(.msl 1 lo0p 0 (List.length aA)), (eI a1), (eI b2)] [(lo0p, 1, List.map (eI) aA)] (fun x L => x = (.tup [(eI r.1), (eI r.2)]) ∧ L = [(lo0p, 1, List.map (eI) aA)]) := by
  intro F H0 hO
  obtain ⟨Fh, Fe, Fg⟩ := F
  refine dV Try.func81 ?_
  unfold gM at h0
  refine aS aC 2 [] [] ?_
  refine aS aC 4 [2] [(8, (eI (wR (b2 - a1))))] ?_
  refine aN ?_
  refine aP aC 1 ?_
  refine kJ 1 (eI 0) (by kernel_rfl) (by kernel_rfl) hO ?_
  intro lo1 H hO
  refine dP ?_
  refine cD [] [(9, (.lp lo1 0 0))] ?_
  refine aN ?_
  refine aP aC 6 ?_
  obtain ⟨c2, h0⟩ := aY h0
  refine rX [(4 : Int) ≠ 0] ⟨c2, trivial⟩ ?_
  refine cD [] [(10, (eI (wR (a1 + (wR ((wR (Int.tdiv (wR (b2 - a1)) (4 : Int))) * (1 : Int)))))))] ?_
  refine aN ?_
  refine aP aC 6 ?_
  obtain ⟨c3, h0⟩ := aY h0
  refine rX [(4 : Int) ≠ 0] ⟨c3, trivial⟩ ?_
  refine bD [(0, (.msl 1 lo0p 0 (List.length aA))), (1, (eI a1)), (8, (eI (wR (b2 - a1)))), (9, (.lp lo1 0 0)), (10, (eI (wR (a1 + (wR ((wR (Int.tdiv (wR (b2 - a1)) (4 : Int))) * (1 : Int))))))), (11, (eI (wR (a1 + (wR ((wR (Int.tdiv (wR (b2 - a1)) (4 : Int))) * (2 : Int)))))))] ?_
  refine aN ?_
  refine aP aC 6 ?_
  obtain ⟨c4, h0⟩ := aY h0
  refine rX [(4 : Int) ≠ 0] ⟨c4, trivial⟩ ?_
  refine cD [1] [(12, (eI (wR (a1 + (wR ((wR (Int.tdiv (wR (b2 - a1)) (4 : Int))) * (3 : Int)))))))] ?_
  refine jD (fun T H => ∃ lC : Int, ∃ j11 : Int, Has T [(0, (.msl 1 lo0p 0 (List.length aA))), (9, (.lp lo1 0 0)), (11, (eI j11))] ∧ aJ ⟨Fh, Fe, Fg⟩ H [(lo0p, 1, List.map (eI) aA), (lo1, 1, [(eI lC)])] ∧ eU aA lC j11 = some r) ?_ ?_
  · clear hO h0
    rintro T H ⟨lC, j11, hT, hO, h0⟩
    refine bM hT ?_
    clear hT
    unfold eU at h0
    refine aN ?_
    refine aP aC 1 ?_
    refine mS 1 lo1 1 0 (eI lC) (eI lC) [(eI lC)] hO rfl ?_
    refine dP ?_
    replace hO := hO.pick (L' := [(lo0p, 1, List.map (eI) aA)]) [0] (by decide) (by kernel_rfl)
    refine cD [9] [(49, (eI lC))] ?_
    refine cG 0 ?_
    refine aS aC 2 [] [(51, (aB (decide (lC = (0 : Int)))))] ?_
    refine bR h0 (fun h0 => ?_) (fun h0 => ?_)
    · refine aS aC 3 [11, 49, 51] [(6, (eI j11)), (7, (eI (1 : Int)))] ?_
      refine bL ?_
      obtain rfl := oI h0
      exact aG (bJ (zI hO ⟨rfl, rfl⟩))
    refine aS aC 2 [49, 51] [(54, (aB (decide (lC = (12 : Int)))))] ?_
    refine bR h0 (fun h0 => ?_) (fun h0 => ?_)
    · refine aS aC 3 [11, 54] [(6, (eI j11)), (7, (eI (2 : Int)))] ?_
      refine bL ?_
      obtain rfl := oI h0
      exact aG (bJ (zI hO ⟨rfl, rfl⟩))
    refine aS aC 3 [11, 54] [(6, (eI j11)), (7, (eI (0 : Int)))] ?_
    refine bL ?_
    obtain rfl := oI h0
    exact aG (bJ (zI hO ⟨rfl, rfl⟩))
  refine aS aC 2 [] [(32, (aB (decide ((8 : Int) ≤ (wR (b2 - a1))))))] ?_
  refine bR h0 (fun h0 => ?_) (fun h0 => ?_)
  · refine jD (fun T H => ∃ lC : Int, ∃ i10 : Int, ∃ j11 : Int, ∃ k12 : Int, Has T [(0, (.msl 1 lo0p 0 (List.length aA))), (9, (.lp lo1 0 0)), (10, (eI i10)), (11, (eI j11)), (12, (eI k12))] ∧ aJ ⟨Fh, Fe, Fg⟩ H [(lo0p, 1, List.map (eI) aA), (lo1, 1, [(eI lC)])] ∧ eV aA lC i10 j11 k12 = some r) ?_ ?_
    · clear hO h0
      rintro T H ⟨lC, i10, j11, k12, hT, hO, h0⟩
      refine bM hT ?_
      clear hT
      unfold eV at h0
      refine aP aC 6 ?_
      refine bN 4 ?_
      obtain ⟨x8, hx9, h0⟩ := aT h0
      refine xF [] [0, 1] (pG lo0p aA i10 j11 k12 lo1 lC _ hx9) hO ?_
      intro r10 L11 H hP12 hO
      obtain ⟨rfl, rfl⟩ := hP12
      replace hO : aJ ⟨Fh, Fe, Fg⟩ H [(lo0p, 1, List.map (eI) aA), (lo1, 1, [(eI x8.2)])] := hO
      refine bC ?_
      exact aG (aH (⟨rfl, _, _, .eq (by kernel_rfl), hO, h0⟩))
    refine aS aC 2 [8, 32] [(34, (aB (decide ((50 : Int) ≤ (wR (b2 - a1))))))] ?_
    refine bR h0 (fun h0 => ?_) (fun h0 => ?_)
    · refine aN ?_
      refine aP aC 4 ?_
      refine bN 2 ?_
      obtain ⟨x14, hx15, h0⟩ := aT h0
      refine xF [] [0, 1] (kG lo0p aA (wR (a1 + (wR ((wR (Int.tdiv (wR (b2 - a1)) (4 : Int))) * (1 : Int))))) lo1 0 _ hx15) hO ?_
      intro r16 L17 H hP18 hO
      obtain ⟨rfl, rfl⟩ := hP18
      replace hO : aJ ⟨Fh, Fe, Fg⟩ H [(lo0p, 1, List.map (eI) aA), (lo1, 1, [(eI x14.2)])] := hO
      refine bC ?_
      refine cD [10, 34] [(10, (eI x14.1))] ?_
      refine aN ?_
      refine aP aC 4 ?_
      refine bN 2 ?_
      obtain ⟨x19, hx20, h0⟩ := aT h0
      refine xF [] [0, 1] (kG lo0p aA (wR (a1 + (wR ((wR (Int.tdiv (wR (b2 - a1)) (4 : Int))) * (2 : Int))))) lo1 x14.2 _ hx20) hO ?_
      intro r21 L22 H hP23 hO
      obtain ⟨rfl, rfl⟩ := hP23
      replace hO : aJ ⟨Fh, Fe, Fg⟩ H [(lo0p, 1, List.map (eI) aA), (lo1, 1, [(eI x19.2)])] := hO
      refine bC ?_
      refine bD [(0, (.msl 1 lo0p 0 (List.length aA))), (9, (.lp lo1 0 0)), (10, (eI x14.1)), (11, (eI x19.1)), (12, (eI (wR (a1 + (wR ((wR (Int.tdiv (wR (b2 - a1)) (4 : Int))) * (3 : Int)))))))] ?_
      refine aP aC 4 ?_
      refine bN 2 ?_
      obtain ⟨x24, hx25, h0⟩ := aT h0
      refine xF [] [0, 1] (kG lo0p aA (wR (a1 + (wR ((wR (Int.tdiv (wR (b2 - a1)) (4 : Int))) * (3 : Int))))) lo1 x19.2 _ hx25) hO ?_
      intro r26 L27 H hP28 hO
      obtain ⟨rfl, rfl⟩ := hP28
      replace hO : aJ ⟨Fh, Fe, Fg⟩ H [(lo0p, 1, List.map (eI) aA), (lo1, 1, [(eI x24.2)])] := hO
      refine bC ?_
      exact aG (aH (⟨rfl, _, _, _, _, .eq (by kernel_rfl), hO, h0⟩))
    refine bS ?_
    exact aG (aH (⟨rfl, _, _, _, _, .eq (by kernel_rfl), hO, h0⟩))
  refine bS ?_
  exact aG (aH (⟨rfl, _, _, .eq (by kernel_rfl), hO, h0⟩))

theorem sR (lo0p : Nat) (aA : (List Int)) (a1 : Int) (b2 : Int) (r : List Int) (h0 : gI aA a1 b2 = some r) : lS Try.prog 82 lo0p 1 (List.map (eI) aA) (List.map (eI) r) [(.msl 1 lo0p 0 (List.length aA)), (eI a1), (eI b2)] (.tup []) := by
  intro H0 hl0
  refine dV Try.func82 ?_
  have hO := aJ.qX hl0
  clear hl0
  obtain ⟨N0, hN0⟩ : ∃ n, n = List.length aA := ⟨_, rfl⟩
  have hN : List.length aA = N0 := hN0.symm
  unfold gI at h0
  refine aS aC 2 [1] [(6, (eI a1))] ?_
  refine aS aC 3 [2] [(7, (eI (wR (b2 - (1 : Int)))))] ?_
  refine cG 0 ?_
  refine iD [(0, (.msl 1 lo0p 0 (List.length aA))), (6, (eI a1)), (7, (eI (wR (b2 - (1 : Int)))))] ?_
  refine iG (fun T H => ∃ aA : List Int, ∃ i6 : Int, ∃ j7 : Int, Has T [(0, (.msl 1 lo0p 0 (List.length aA))), (6, (eI i6)), (7, (eI j7))] ∧ aJ ⟨H0, [lo0p], []⟩ H [(lo0p, 1, List.map (eI) aA)] ∧ List.length aA = N0 ∧ iV aA i6 j7 = some r) ?_ ⟨aA, a1, wR (b2 - (1 : Int)), .eq (by kernel_rfl), hO, hN, h0⟩
  clear hO hN h0
  rintro T H ⟨aA, i6, j7, hT, hO, hN, h0⟩
  refine bM hT ?_
  clear hT
  unfold iV at h0
  obtain ⟨rr0, hl0, h0⟩ := aT h0
  refine eP (by kernel_rfl) (fun (s : List Int × Int × Int) T H => Has T [(0, (.msl 1 lo0p 0 (List.length s.1))), (6, (eI s.2.1)), (7, (eI s.2.2))] ∧ aJ ⟨H0, [lo0p], []⟩ H [(lo0p, 1, List.map (eI) s.1)] ∧ List.length s.1 = N0) hl0 ⟨.eq (by kernel_rfl), hO, hN⟩ ?_
  clear hO hN
  rintro k0 s out1 T H ⟨hT, hO, hN⟩ h1 ho0
  obtain ⟨aA, i6, j7⟩ := s
  replace h1 : cZ aA i6 j7 = some out1 := h1
  try dsimp only at hT
  refine bM hT ?_
  clear hT
  unfold cZ at h1
  refine aN ?_
  refine aS aC 3 [] [(13, (aB (decide (i6 < j7))))] ?_
  refine bR h1 (fun h1 => ?_) (fun h1 => ?_)
  · refine bS ?_
    refine bD [(0, (.msl 1 lo0p 0 (List.length aA))), (6, (eI i6)), (7, (eI j7))] ?_
    refine cG 1 ?_
    refine aN ?_
    refine gW (gU []) aC 16 ?_
    obtain ⟨c2, h1⟩ := aY h1
    refine cE 7 [0 ≤ j7 ∧ j7 < (lN aA)] ⟨c2, trivial⟩ ?_
    refine gJ 0 lo0p 1 (0 + Int.toNat j7) (eI (gD aA j7)) (eI (gD aA j7)) (List.map (eI) aA) hO (bU c2) ?_
    obtain ⟨c3, h1⟩ := aY h1
    refine cE 11 [0 ≤ i6 ∧ i6 < (lN aA)] ⟨c3, trivial⟩ ?_
    refine gJ 0 lo0p 1 (0 + Int.toNat i6) (eI (gD aA i6)) (eI (gD aA i6)) (List.map (eI) aA) hO (bU c3) ?_
    obtain ⟨c4, h1⟩ := aY h1
    refine cE 13 [0 ≤ i6 ∧ i6 < (lN aA)] ⟨c4, trivial⟩ ?_
    refine kB 0 lo0p 1 (0 + Int.toNat i6) (eI (gD aA i6)) (eI (gD aA j7)) (List.map (eI) aA) [(lo0p, 1, List.map (eI) (List.set aA (Int.toNat i6) (gD aA j7)))] hO (bU c4) (by simp only [List.set, gO]) ?_
    intro H hO
    replace hN : List.length (List.set aA (Int.toNat i6) (gD aA j7)) = N0 := by simpa using hN
    obtain ⟨c5, h1⟩ := aY h1
    refine cE 15 [0 ≤ j7 ∧ j7 < (lN aA)] ⟨c5, trivial⟩ ?_
    refine kB 0 lo0p 1 (0 + Int.toNat j7) (eI (gD (List.set aA (Int.toNat i6) (gD aA j7)) j7)) (eI (gD aA i6)) (List.map (eI) (List.set aA (Int.toNat i6) (gD aA j7))) [(lo0p, 1, List.map (eI) (List.set (List.set aA (Int.toNat i6) (gD aA j7)) (Int.toNat j7) (gD aA i6)))] hO (lO c5 (by simp [])) (by simp only [List.set, gO]) ?_
    intro H hO
    replace hN : List.length (List.set (List.set aA (Int.toNat i6) (gD aA j7)) (Int.toNat j7) (gD aA i6)) = N0 := by simpa using hN
    refine mC (by kernel_rfl) ?_
    refine eY (l := [(0, (.msl 1 lo0p 0 (List.length (List.set (List.set aA (Int.toNat i6) (gD aA j7)) (Int.toNat j7) (gD aA i6))))), (6, (eI i6)), (7, (eI j7))]) ⟨[(0, (.msl 1 lo0p 0 (List.length aA))), (6, (eI i6)), (7, (eI j7))], by kernel_rfl, rfl, ⟨aL.eq (by simp []), aL.refl _, aL.refl _, trivial⟩⟩ ?_
    refine aG (aH (?_))
    refine aS aC 3 [6] [(6, (eI (wR (i6 + (1 : Int)))))] ?_
    refine aP aC 3 ?_
    refine bC ?_
    exact aG (aV (aH (⟨rfl, _, (oI h1).symm, .eq (by kernel_rfl), hO, hN⟩)))
  refine jQ 0 ?_
  obtain rfl := oI h1
  obtain rfl : _ = rr0 := ho0
  replace h0 : some aA = some r := h0
  obtain rfl := oI h0
  exact aG (aW (aW (cI (tD (x := (.tup [])) (by kernel_rfl) (aL.refl _) ⟨rfl, hO.ext, hO.at 0 (by kernel_rfl), by first | rfl | (simp only [List.length_map]; exact hN.trans hN0)⟩))))

end Go.Abs
