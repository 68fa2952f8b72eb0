/- What the law HopLags stands on: the framework, the given functions as plain functions, their walks, and the plain laws; part 3. -/
import Derived.Test.YteecjdpicjpnfaaHopLagsZ2
set_option linter.unusedSimpArgs false
set_option linter.unusedVariables false
namespace Go.Abs
open Go
noncomputable def oW (a0 : (List aD)) (b1 : (List aD)) : Option Bool :=
  (iZ a0 b1).bind fun x1 =>
  some x1

noncomputable def rS (r0 : (List aD)) : Option (List aD) :=
  bF (0 ≤ ((List.length r0 : Nat) : Int) ∧ (32 : Int) * ((List.length r0 : Nat) : Int) ≤ 281474976710656 ∧ ((List.length r0 : Nat) : Int) ≤ 9223372036854775807) <|
  bF ((List.length ([] : List aD) + List.length r0) * 32 ≤ 140737488355328 ∧ List.length ([] : List aD) + List.length r0 ≤ 9223372036854775807) <|
  some (([] : List aD) ++ r0)

noncomputable def mX {σ : Type} (cE : σ → (List aD) → (List aF) → Option (σ × Bool)) (sg : σ) (t1 : (List bE)) (i3 : Int) (r4 : (List aD)) (f5 : List aF) : Option ((σ × Int) ⊕ (σ ⊕ σ)) :=
  (rS r4).bind fun x7 =>
  (cE sg x7 f5).bind fun x10 =>
  cond (!x10.2)
  (some (.inr (.inr x10.1)))
  (some (.inl (x10.1, i3)))

noncomputable def jC {σ : Type} (cE : σ → (List aD) → (List aF) → Option (σ × Bool)) (t1 : (List bE)) (r4 : (List aD)) (sg : σ) (i3 : Int) (f5 : List aF) : Option ((σ × Int × List aF) ⊕ ((σ × Int × List aF))) :=
  bF ((((decide (i3 < ((List.length t1 : Nat) : Int)))) = true → 0 ≤ i3 ∧ i3 < ((List.length t1 : Nat) : Int))) <|
  (dR (decide (i3 < ((List.length t1 : Nat) : Int))) (oW ((List.getD t1 (Int.toNat i3) default).Row) r4)).bind fun x16 =>
  cond ((decide (i3 < ((List.length t1 : Nat) : Int))) && x16)
  (bF (0 ≤ i3 ∧ i3 < ((List.length t1 : Nat) : Int)) <|
  bF (0 ≤ i3 ∧ i3 < ((List.length t1 : Nat) : Int)) <|
  bF ((List.length f5 + List.length ([aF.mk ((List.getD t1 (Int.toNat i3) default).At) ((List.getD t1 (Int.toNat i3) default).Net)])) * 16 ≤ 140737488355328 ∧ List.length f5 + List.length ([aF.mk ((List.getD t1 (Int.toNat i3) default).At) ((List.getD t1 (Int.toNat i3) default).Net)]) ≤ 9223372036854775807) <|
  some (.inl (sg, IntKind.i64.wrap (i3 + (1 : Int)), f5 ++ ([aF.mk ((List.getD t1 (Int.toNat i3) default).At) ((List.getD t1 (Int.toNat i3) default).Net)]))))
  (some (.inr (sg, i3, f5)))

noncomputable def oS {σ : Type} (cE : σ → (List aD) → (List aF) → Option (σ × Bool)) (sg : σ) (t1 : (List bE)) (i3 : Int) (r4 : (List aD)) (f5 : List aF) : Option ((σ × Int) ⊕ (σ ⊕ σ)) :=
  (lp (fun s => jC cE t1 r4 s.1 s.2.1 s.2.2) (sg, i3, f5)).bind (fun rr => mX cE rr.1 t1 rr.2.1 r4 rr.2.2)

noncomputable def iE {σ : Type} (cE : σ → (List aD) → (List aF) → Option (σ × Bool)) (t1 : (List bE)) (sg : σ) (i3 : Int) : Option ((σ × Int) ⊕ (σ ⊕ σ)) :=
  cond (decide (i3 < ((List.length t1 : Nat) : Int)))
  (bF (0 ≤ i3 ∧ i3 < ((List.length t1 : Nat) : Int)) <|
  oS cE sg t1 i3 ((List.getD t1 (Int.toNat i3) default).Row) ([] : List aF))
  (some (.inr (.inl sg)))

noncomputable def oV {σ : Type} (cE : σ → (List aD) → (List aF) → Option (σ × Bool)) (sg : σ) (t1 : (List bE)) (i3 : Int) : Option σ :=
  (lp (fun s => iE cE t1 s.1 s.2) (sg, i3)).bind (Sum.elim (fun rr => some rr) (fun rr => some rr))

noncomputable def mC {σ : Type} (cE : σ → (List aD) → (List aF) → Option (σ × Bool)) (t1 : (List bE)) (sg0 : σ) : Option σ :=
  oV cE sg0 t1 (0 : Int)

noncomputable def eW (f1 : aD → Option Bool)  : Option Int :=
  some (-1 : Int)

noncomputable def gT (f1 : aD → Option Bool) (s0 : (List aD)) (t7 : Int) (t8 : Int) : Option ((Int) ⊕ (Unit ⊕ Int)) :=
  cond (decide (t8 < t7))
  (bF (0 ≤ t8 ∧ t8 < ((List.length s0 : Nat) : Int)) <|
  (f1 (List.getD s0 (Int.toNat t8) default)).bind fun x3 =>
  cond x3
  (some (.inr (.inr t8)))
  (some (.inl (IntKind.i64.wrap (t8 + (1 : Int))))))
  (some (.inr (.inl ())))

noncomputable def gS (f1 : aD → Option Bool) (s0 : (List aD)) (t7 : Int) (t8 : Int) : Option Int :=
  (lp (fun s => gT f1 s0 t7 s) t8).bind (Sum.elim (fun rr => eW f1 ) (fun rr => some rr))

noncomputable def iA (s0 : (List aD)) (f1 : aD → Option Bool) : Option Int :=
  gS f1 s0 ((List.length s0 : Nat) : Int) (0 : Int)

noncomputable def eN (s0 : (List aD)) (f1 : aD → Option Bool) : Option Bool :=
  (iA s0 f1).bind fun x1 =>
  some (decide ((0 : Int) ≤ x1))

noncomputable def kQ (v0 : aD) : Option (bA × Bool) :=
  cond ((decide (v0.Kind = (1 : Int))) && (nK v0.Text (⟨#[]⟩ : ByteArray)))
  (some (bA.k_number v0.Num, true))
  (cond (((decide (v0.Kind = (2 : Int))) && (decide (v0.Num = (0 : Int)))) && (decide (((ByteArray.size v0.Text : Nat) : Int) ≤ (64 : Int))))
  (some (bA.k_words v0.Text, true))
  (some (bA.none_, false)))

noncomputable def sG (v0 : aD) : Option Bool :=
  (kQ v0).bind fun (x1_0, x1_1) =>
  match x1_0 with
  | .none_ => (some x1_1)
  | .k_number y4 => (some x1_1)
  | .k_words y5 => (some x1_1)

noncomputable def sA (v0 : aD) : Option Bool :=
  (sG v0).bind fun x1 =>
  some (!x1)

noncomputable def qO (r0 : (List aD)) : Option Bool :=
  cond (decide ((8 : Int) < ((List.length r0 : Nat) : Int)))
  (some false)
  ((eN r0 (fun y0 => sA y0)).bind fun x2 =>
  some (!x2))

noncomputable def qE (t0 : (List aD)) : Option ((Int × (List aD))) :=
  some ((-1 : Int), t0)

noncomputable def eO {σ : Type} (f1 : σ → aD → Option (σ × Bool)) (sg : σ) : Option (σ × Int) :=
  some (sg, (-1 : Int))

noncomputable def bZ {σ : Type} (f1 : σ → aD → Option (σ × Bool)) (s0 : (List aD)) (t7 : Int) (sg : σ) (t8 : Int) : Option ((σ × Int) ⊕ (σ ⊕ (σ × Int))) :=
  cond (decide (t8 < t7))
  (bF (0 ≤ t8 ∧ t8 < ((List.length s0 : Nat) : Int)) <|
  (f1 sg (List.getD s0 (Int.toNat t8) default)).bind fun x3 =>
  cond x3.2
  (some (.inr (.inr (x3.1, t8))))
  (some (.inl (x3.1, IntKind.i64.wrap (t8 + (1 : Int))))))
  (some (.inr (.inl sg)))

noncomputable def gH {σ : Type} (f1 : σ → aD → Option (σ × Bool)) (sg : σ) (s0 : (List aD)) (t7 : Int) (t8 : Int) : Option (σ × Int) :=
  (lp (fun s => bZ f1 s0 t7 s.1 s.2) (sg, t8)).bind (Sum.elim (fun rr => eO f1 rr) (fun rr => some (rr.1, rr.2)))

noncomputable def gL {σ : Type} (s0 : (List aD)) (f1 : σ → aD → Option (σ × Bool)) (sg0 : σ) : Option (σ × Int) :=
  gH f1 sg0 s0 ((List.length s0 : Nat) : Int) (0 : Int)

noncomputable def jI (v0 : aD) (t1 : Int) (t2 : (List aD)) : Option (Bool × Int) :=
  bF (0 ≤ (IntKind.i64.wrap (t1 + (1 : Int))) ∧ (IntKind.i64.wrap (t1 + (1 : Int))) < ((List.length t2 : Nat) : Int)) <|
  some ((!((decide (v0.Kind = ((List.getD t2 (Int.toNat (IntKind.i64.wrap (t1 + (1 : Int)))) default).Kind))) && ((decide (v0.Num = ((List.getD t2 (Int.toNat (IntKind.i64.wrap (t1 + (1 : Int)))) default).Num))) && ((nK v0.Text ((List.getD t2 (Int.toNat (IntKind.i64.wrap (t1 + (1 : Int)))) default).Text)) && true)))), (IntKind.i64.wrap (t1 + (1 : Int))))

noncomputable def kK (x0 : Int) : Option Bool :=
  some (!decide (x0 = x0))

noncomputable def mJ (x0 : Int) (y1 : Int) : Option Int :=
  (kK x0).bind fun x1 =>
  (kK y1).bind fun x4 =>
  cond x1
  (cond x4
  (some (0 : Int))
  (some (-1 : Int)))
  (cond x4
  (some (1 : Int))
  (cond (decide (x0 < y1))
  (some (-1 : Int))
  (cond (decide (y1 < x0))
  (some (1 : Int))
  (some (0 : Int)))))

noncomputable def jX (x0 : Int) : Option Bool :=
  some (!decide (x0 = x0))

noncomputable def fH (x0 : Int) (y1 : Int) : Option Int :=
  (jX x0).bind fun x1 =>
  (jX y1).bind fun x4 =>
  cond x1
  (cond x4
  (some (0 : Int))
  (some (-1 : Int)))
  (cond x4
  (some (1 : Int))
  (cond (decide (x0 < y1))
  (some (-1 : Int))
  (cond (decide (y1 < x0))
  (some (1 : Int))
  (some (0 : Int)))))

noncomputable def jB (a0 : ByteArray) (b1 : ByteArray) : Option Int :=
  some (GA a0 b1)

noncomputable def lE (a0 : ByteArray) (b1 : ByteArray) : Option Int :=
  (jB a0 b1).bind fun x1 =>
  some x1

noncomputable def nN (a0 : aD) (b1 : aD) : Option Int :=
  (kQ a0).bind fun (x1_0, x1_1) =>
  match x1_0 with
  | .none_ => ((kQ b1).bind fun (x6_0, x6_1) =>
  match x6_0 with
  | .none_ => (cond ((!x1_1) || (!x6_1))
  (some (0 : Int))
  (none))
  | .k_number y9 => (cond ((!x1_1) || (!x6_1))
  (some (0 : Int))
  (some (1 : Int)))
  | .k_words y10 => (cond ((!x1_1) || (!x6_1))
  (some (0 : Int))
  (none)))
  | .k_number y4 => ((kQ b1).bind fun (x23_0, x23_1) =>
  match x23_0 with
  | .none_ => (cond ((!x1_1) || (!x23_1))
  (some (0 : Int))
  (some (-1 : Int)))
  | .k_number y26 => (cond ((!x1_1) || (!x23_1))
  (some (0 : Int))
  ((fH y4 y26).bind fun x33 =>
  some x33))
  | .k_words y27 => (cond ((!x1_1) || (!x23_1))
  (some (0 : Int))
  (some (-1 : Int))))
  | .k_words y5 => ((kQ b1).bind fun (x39_0, x39_1) =>
  match x39_0 with
  | .none_ => (cond ((!x1_1) || (!x39_1))
  (some (0 : Int))
  (none))
  | .k_number y42 => (cond ((!x1_1) || (!x39_1))
  (some (0 : Int))
  (some (1 : Int)))
  | .k_words y43 => (cond ((!x1_1) || (!x39_1))
  (some (0 : Int))
  ((lE y5 y43).bind fun x56 =>
  some x56)))

noncomputable def pM (a0 : (List aD)) (b1 : (List aD)) : Option Int :=
  (qO a0).bind fun x1 =>
  (dR (!(!x1)) (qO b1)).bind fun x4 =>
  cond ((!x1) || (!x4))
  (some (0 : Int))
  (bF (0 ≤ (if ((List.length b1 : Nat) : Int) < ((List.length a0 : Nat) : Int) then ((List.length b1 : Nat) : Int) else ((List.length a0 : Nat) : Int)) ∧ (if ((List.length b1 : Nat) : Int) < ((List.length a0 : Nat) : Int) then ((List.length b1 : Nat) : Int) else ((List.length a0 : Nat) : Int)) ≤ ((List.length a0 : Nat) : Int)) <|
  (qE b1).bind fun x9 =>
  (gL (List.take (Int.toNat (if ((List.length b1 : Nat) : Int) < ((List.length a0 : Nat) : Int) then ((List.length b1 : Nat) : Int) else ((List.length a0 : Nat) : Int))) a0) (fun st y0 => (jI y0 st x9.2).bind fun o => some (o.2, o.1)) x9.1).bind fun x12 =>
  cond (decide (x12.2 < (0 : Int)))
  ((mJ ((List.length a0 : Nat) : Int) ((List.length b1 : Nat) : Int)).bind fun x15 =>
  some x15)
  (bF (0 ≤ x12.2 ∧ x12.2 < ((List.length a0 : Nat) : Int)) <|
  bF (0 ≤ x12.2 ∧ x12.2 < ((List.length b1 : Nat) : Int)) <|
  (nN (List.getD a0 (Int.toNat x12.2) default) (List.getD b1 (Int.toNat x12.2) default)).bind fun x20 =>
  some x20))

noncomputable def mW (rA : (List aF) → Option Bool) (rR : (List bE)) (t4 : Bool) (mS : (List aD)) (jL : Bool) (t14 : (List aD)) (t15 : (List aF)) : Option ((Bool × (List aD) × Bool) ⊕ (Bool × (List aD) × Bool)) :=
  (qO t14).bind fun x7 =>
  (dR (jL && (!(!x7))) (pM mS t14)).bind fun x12 =>
  (dR (!((!x7) || (jL && (decide ((0 : Int) ≤ x12))))) (rA t15)).bind fun x15 =>
  cond (((!x7) || (jL && (decide ((0 : Int) ≤ x12)))) || (!x15))
  (some (.inr (false, mS, jL)))
  (some (.inl (t4, t14, true)))

noncomputable def tG (rA : (List aF) → Option Bool) (t4 : Bool) (mS : (List aD)) (jL : Bool) (rR : (List bE)) : Option Bool :=
  (mC (fun st t14 t15 => rnd (fun (s : Bool × (List aD) × Bool) => mW rA rR s.1 s.2.1 s.2.2 t14 t15) st) rR (.inl (t4, mS, jL))).bind (Sum.elim (fun (s : Bool × (List aD) × Bool) =>
  (some true))
  (fun (s : Bool × (List aD) × Bool) =>
  (some s.1)))

noncomputable def pS (l0 : (List bE)) (rA : (List aF) → Option Bool) : Option Bool :=
  cond (decide ((4096 : Int) < ((List.length l0 : Nat) : Int)))
  (some false)
  ((pR l0).bind fun x5 =>
  tG rA false ([]) false x5)

noncomputable def uE (n0 : Int) : Option Bool :=
  some ((decide (n0 ≤ (1048576 : Int))) && (decide ((-1048576 : Int) ≤ n0)))

noncomputable def sC  : Option Bool :=
  some true

noncomputable def kY (t9 : (List aF)) (t10 : Int) (nS : Int) (t11 : Int) : Option ((Int × Int) ⊕ (Unit ⊕ Bool)) :=
  cond (decide (t11 < t10))
  (bF (0 ≤ t11 ∧ t11 < ((List.length t9 : Nat) : Int)) <|
  (dR (!(((decide (((List.getD t9 (Int.toNat t11) default).At) ≤ nS)) || (decide ((1125899906842624 : Int) ≤ ((List.getD t9 (Int.toNat t11) default).At)))) || (decide (((List.getD t9 (Int.toNat t11) default).Net) = (0 : Int))))) (uE ((List.getD t9 (Int.toNat t11) default).Net))).bind fun x8 =>
  cond ((((decide (((List.getD t9 (Int.toNat t11) default).At) ≤ nS)) || (decide ((1125899906842624 : Int) ≤ ((List.getD t9 (Int.toNat t11) default).At)))) || (decide (((List.getD t9 (Int.toNat t11) default).Net) = (0 : Int)))) || (!x8))
  (some (.inr (.inr false)))
  (some (.inl ((List.getD t9 (Int.toNat t11) default).At, IntKind.i64.wrap (t11 + (1 : Int))))))
  (some (.inr (.inl ())))

noncomputable def tY (nS : Int) (t9 : (List aF)) (t10 : Int) (t11 : Int) : Option Bool :=
  (lp (fun s => kY t9 t10 s.1 s.2) (nS, t11)).bind (Sum.elim (fun rr => sC ) (fun rr => some rr))

noncomputable def mR (f0 : (List aF)) : Option Bool :=
  cond (decide ((1024 : Int) < ((List.length f0 : Nat) : Int)))
  (some false)
  (tY (-2 : Int) f0 ((List.length f0 : Nat) : Int) (0 : Int))

noncomputable def rM (l0 : (List bE)) : Option Bool :=
  (pS l0 (fun y0 => mR y0)).bind fun x1 =>
  some x1

noncomputable def pO (gP : Int) : Option Int :=
  some gP

noncomputable def lG (t24 : (List aF)) (t25 : Int) (v3 : Int) (gP : Int) (t26 : Int) : Option ((Int × Int × Int) ⊕ (Int)) :=
  cond (decide (t26 < t25))
  (bF (0 ≤ t26 ∧ t26 < ((List.length t24 : Nat) : Int)) <|
  some (.inl (IntKind.i64.wrap (v3 + ((List.getD t24 (Int.toNat t26) default).Net)), if (IntKind.i64.wrap (v3 + ((List.getD t24 (Int.toNat t26) default).Net))) < gP then (IntKind.i64.wrap (v3 + ((List.getD t24 (Int.toNat t26) default).Net))) else gP, IntKind.i64.wrap (t26 + (1 : Int)))))
  (some (.inr gP))

noncomputable def pL (v3 : Int) (gP : Int) (t24 : (List aF)) (t25 : Int) (t26 : Int) : Option Int :=
  (lp (fun s => lG t24 t25 s.1 s.2.1 s.2.2) (v3, gP, t26)).bind (fun rr => pO rr)

noncomputable def nH (f0 : (List aF)) (v3 : Int) (gP : Int) : Option Int :=
  pL v3 gP f0 ((List.length f0 : Nat) : Int) (0 : Int)

noncomputable def qU (f0 : (List aF)) : Option Int :=
  (mR f0).bind fun x1 =>
  cond ((!x1) || (decide (((List.length f0 : Nat) : Int) = (0 : Int))))
  (some (0 : Int))
  (bF (0 ≤ (0 : Int) ∧ (0 : Int) < ((List.length f0 : Nat) : Int)) <|
  cond (decide (((List.getD f0 (Int.toNat (0 : Int)) default).At) = (-1 : Int)))
  (bF (0 ≤ (0 : Int) ∧ (0 : Int) < ((List.length f0 : Nat) : Int)) <|
  nH f0 (0 : Int) ((List.getD f0 (Int.toNat (0 : Int)) default).Net))
  (nH f0 (0 : Int) (0 : Int)))

noncomputable def nW (f0 : (List aF)) : Option Bool :=
  (mR f0).bind fun x1 =>
  (dR x1 (qU f0)).bind fun x4 =>
  some (x1 && (decide ((0 : Int) ≤ x4)))

noncomputable def rB (l0 : (List bE)) : Option Bool :=
  (pS l0 (fun y0 => nW y0)).bind fun x1 =>
  some x1

noncomputable def sO (l0 : (List bE)) : Option ((List bE)) :=
  some l0

noncomputable def kA {σ : Type} (cE : σ → (List aD) → (List aF) → Option (σ × Bool)) (t9c0 : (List bE)) (sg : σ) (t10 : (List aD)) (t11 : (List aF)) : Option ((σ) ⊕ (σ)) :=
  (cE sg t10 t11).bind fun x7 =>
  cond (!x7.2)
  (some (.inr x7.1))
  (some (.inl x7.1))

noncomputable def nM {σ : Type} (cE : σ → (List aD) → (List aF) → Option (σ × Bool)) (sg : σ) (t9c0 : (List bE)) : Option σ :=
  (mC (fun st t10 t11 => rnd (fun (s : σ) => kA cE t9c0 s t10 t11) st) t9c0 (.inl sg)).bind (Sum.elim (fun (s : σ) =>
  (some s))
  (fun (s : σ) =>
  (some s)))

noncomputable def mL {σ : Type} (cE : σ → (List aD) → (List aF) → Option (σ × Bool)) (t1 : (List bE)) (sg0 : σ) : Option σ :=
  (rM t1).bind fun x1 =>
  cond (!x1)
  (some sg0)
  ((pR t1).bind fun x5 =>
  nM cE sg0 x5)

noncomputable def kV (x0 : Int) (n2 : Int) : Option Int :=
  bF (0 ≤ (IntKind.u8.wrap x0) ∧ (IntKind.u8.wrap x0) < ((ByteArray.size (⟨#[0, 1, 2, 2, 3, 3, 3, 3, 4, 4, 4, 4, 4, 4, 4, 4, 5, 5, 5, 5, 5, 5, 5, 5, 5, 5, 5, 5, 5, 5, 5, 5, 6, 6, 6, 6, 6, 6, 6, 6, 6, 6, 6, 6, 6, 6, 6, 6, 6, 6, 6, 6, 6, 6, 6, 6, 6, 6, 6, 6, 6, 6, 6, 6, 7, 7, 7, 7, 7, 7, 7, 7, 7, 7, 7, 7, 7, 7, 7, 7, 7, 7, 7, 7, 7, 7, 7, 7, 7, 7, 7, 7, 7, 7, 7, 7, 7, 7, 7, 7, 7, 7, 7, 7, 7, 7, 7, 7, 7, 7, 7, 7, 7, 7, 7, 7, 7, 7, 7, 7, 7, 7, 7, 7, 7, 7, 7, 7, 8, 8, 8, 8, 8, 8, 8, 8, 8, 8, 8, 8, 8, 8, 8, 8, 8, 8, 8, 8, 8, 8, 8, 8, 8, 8, 8, 8, 8, 8, 8, 8, 8, 8, 8, 8, 8, 8, 8, 8, 8, 8, 8, 8, 8, 8, 8, 8, 8, 8, 8, 8, 8, 8, 8, 8, 8, 8, 8, 8, 8, 8, 8, 8, 8, 8, 8, 8, 8, 8, 8, 8, 8, 8, 8, 8, 8, 8, 8, 8, 8, 8, 8, 8, 8, 8, 8, 8, 8, 8, 8, 8, 8, 8, 8, 8, 8, 8, 8, 8, 8, 8, 8, 8, 8, 8, 8, 8, 8, 8, 8, 8, 8, 8, 8, 8, 8, 8, 8, 8, 8, 8, 8, 8, 8, 8, 8, 8]⟩ : ByteArray) : Nat) : Int)) <|
  some (IntKind.i64.wrap (n2 + (IntKind.i64.wrap (bt (⟨#[0, 1, 2, 2, 3, 3, 3, 3, 4, 4, 4, 4, 4, 4, 4, 4, 5, 5, 5, 5, 5, 5, 5, 5, 5, 5, 5, 5, 5, 5, 5, 5, 6, 6, 6, 6, 6, 6, 6, 6, 6, 6, 6, 6, 6, 6, 6, 6, 6, 6, 6, 6, 6, 6, 6, 6, 6, 6, 6, 6, 6, 6, 6, 6, 7, 7, 7, 7, 7, 7, 7, 7, 7, 7, 7, 7, 7, 7, 7, 7, 7, 7, 7, 7, 7, 7, 7, 7, 7, 7, 7, 7, 7, 7, 7, 7, 7, 7, 7, 7, 7, 7, 7, 7, 7, 7, 7, 7, 7, 7, 7, 7, 7, 7, 7, 7, 7, 7, 7, 7, 7, 7, 7, 7, 7, 7, 7, 7, 8, 8, 8, 8, 8, 8, 8, 8, 8, 8, 8, 8, 8, 8, 8, 8, 8, 8, 8, 8, 8, 8, 8, 8, 8, 8, 8, 8, 8, 8, 8, 8, 8, 8, 8, 8, 8, 8, 8, 8, 8, 8, 8, 8, 8, 8, 8, 8, 8, 8, 8, 8, 8, 8, 8, 8, 8, 8, 8, 8, 8, 8, 8, 8, 8, 8, 8, 8, 8, 8, 8, 8, 8, 8, 8, 8, 8, 8, 8, 8, 8, 8, 8, 8, 8, 8, 8, 8, 8, 8, 8, 8, 8, 8, 8, 8, 8, 8, 8, 8, 8, 8, 8, 8, 8, 8, 8, 8, 8, 8, 8, 8, 8, 8, 8, 8, 8, 8, 8, 8, 8, 8, 8, 8, 8, 8, 8, 8]⟩ : ByteArray) (IntKind.u8.wrap x0)))))

noncomputable def jW (x0 : Int) (n2 : Int) : Option Int :=
  cond (decide ((256 : Int) ≤ x0))
  (bF (0 ≤ (8 : Int)) <|
  kV (Int.fdiv x0 (2 ^ (min (Int.toNat (8 : Int)) 64))) (IntKind.i64.wrap (n2 + (8 : Int))))
  (kV x0 n2)

noncomputable def jZ (x0 : Int) (n2 : Int) : Option Int :=
  cond (decide ((65536 : Int) ≤ x0))
  (bF (0 ≤ (16 : Int)) <|
  jW (Int.fdiv x0 (2 ^ (min (Int.toNat (16 : Int)) 64))) (IntKind.i64.wrap (n2 + (16 : Int))))
  (jW x0 n2)

noncomputable def mK (x0 : Int) : Option Int :=
  cond (decide ((4294967296 : Int) ≤ x0))
  (bF (0 ≤ (32 : Int)) <|
  jZ (Int.fdiv x0 (2 ^ (min (Int.toNat (32 : Int)) 64))) (32 : Int))
  (jZ x0 (0 : Int))

noncomputable def jO (x0 : Int) : Option Int :=
  (mK x0).bind fun x2 =>
  some x2

noncomputable def cU (x0 : Int) (y1 : Int) : Option Bool :=
  (kK x0).bind fun x1 =>
  (dR x1 (kK y1)).bind fun x4 =>
  some ((x1 && (!x4)) || (decide (x0 < y1)))

noncomputable def fN (aA : List Int) (a1 : Int) (b2 : Int) (i6 : Int) : Option ((List Int × Int) ⊕ ((List Int))) :=
  some (.inl (aA, IntKind.i64.wrap (i6 + (1 : Int))))

noncomputable def eK (a1 : Int) (b2 : Int) (i6 : Int) (aA : List Int) (j7 : Int) : Option ((List Int × Int) ⊕ ((List Int))) :=
  bF ((((decide (a1 < j7))) = true → 0 ≤ j7 ∧ j7 < ((List.length aA : Nat) : Int))) <|
  bF ((((decide (a1 < j7))) = true → 0 ≤ (IntKind.i64.wrap (j7 - (1 : Int))) ∧ (IntKind.i64.wrap (j7 - (1 : Int))) < ((List.length aA : Nat) : Int))) <|
  (dR (decide (a1 < j7)) (cU (List.getD aA (Int.toNat j7) default) (List.getD aA (Int.toNat (IntKind.i64.wrap (j7 - (1 : Int)))) default))).bind fun x4 =>
  cond ((decide (a1 < j7)) && x4)
  (bF (0 ≤ (IntKind.i64.wrap (j7 - (1 : Int))) ∧ (IntKind.i64.wrap (j7 - (1 : Int))) < ((List.length aA : Nat) : Int)) <|
  bF (0 ≤ j7 ∧ j7 < ((List.length aA : Nat) : Int)) <|
  bF (0 ≤ j7 ∧ j7 < ((List.length aA : Nat) : Int)) <|
  bF (0 ≤ (IntKind.i64.wrap (j7 - (1 : Int))) ∧ (IntKind.i64.wrap (j7 - (1 : Int))) < ((List.length aA : Nat) : Int)) <|
  some (.inl (List.set (List.set aA (Int.toNat j7) (List.getD aA (Int.toNat (IntKind.i64.wrap (j7 - (1 : Int)))) default)) (Int.toNat (IntKind.i64.wrap (j7 - (1 : Int)))) (List.getD aA (Int.toNat j7) default), IntKind.i64.wrap (j7 - (1 : Int)))))
  (some (.inr aA))

noncomputable def iO (aA : List Int) (a1 : Int) (b2 : Int) (i6 : Int) (j7 : Int) : Option ((List Int × Int) ⊕ ((List Int))) :=
  (lp (fun s => eK a1 b2 i6 s.1 s.2) (aA, j7)).bind (fun rr => fN rr a1 b2 i6)

noncomputable def cX (a1 : Int) (b2 : Int) (aA : List Int) (i6 : Int) : Option ((List Int × Int) ⊕ ((List Int))) :=
  cond (decide (i6 < b2))
  (iO aA a1 b2 i6 i6)
  (some (.inr aA))

noncomputable def iP (aA : List Int) (a1 : Int) (b2 : Int) (i6 : Int) : Option (List Int) :=
  (lp (fun s => cX a1 b2 s.1 s.2) (aA, i6)).bind (fun rr => some rr)

noncomputable def fT (aA : (List Int)) (a1 : Int) (b2 : Int) : Option (List Int) :=
  iP aA a1 b2 (IntKind.i64.wrap (a1 + (1 : Int)))

noncomputable def fP (aA : List Int) (hi2 : Int) (aZ : Int) (bX : Int) (dM : Int) : Option ((List Int × Int) ⊕ ((List Int) ⊕ (List Int))) :=
  bF (0 ≤ (IntKind.i64.wrap (aZ + bX)) ∧ (IntKind.i64.wrap (aZ + bX)) < ((List.length aA : Nat) : Int)) <|
  bF (0 ≤ (IntKind.i64.wrap (aZ + dM)) ∧ (IntKind.i64.wrap (aZ + dM)) < ((List.length aA : Nat) : Int)) <|
  (cU (List.getD aA (Int.toNat (IntKind.i64.wrap (aZ + bX))) default) (List.getD aA (Int.toNat (IntKind.i64.wrap (aZ + dM))) default)).bind fun x4 =>
  cond (!x4)
  (some (.inr (.inr aA)))
  (bF (0 ≤ (IntKind.i64.wrap (aZ + dM)) ∧ (IntKind.i64.wrap (aZ + dM)) < ((List.length aA : Nat) : Int)) <|
  bF (0 ≤ (IntKind.i64.wrap (aZ + bX)) ∧ (IntKind.i64.wrap (aZ + bX)) < ((List.length aA : Nat) : Int)) <|
  bF (0 ≤ (IntKind.i64.wrap (aZ + bX)) ∧ (IntKind.i64.wrap (aZ + bX)) < ((List.length aA : Nat) : Int)) <|
  bF (0 ≤ (IntKind.i64.wrap (aZ + dM)) ∧ (IntKind.i64.wrap (aZ + dM)) < ((List.length aA : Nat) : Int)) <|
  some (.inl (List.set (List.set aA (Int.toNat (IntKind.i64.wrap (aZ + bX))) (List.getD aA (Int.toNat (IntKind.i64.wrap (aZ + dM))) default)) (Int.toNat (IntKind.i64.wrap (aZ + dM))) (List.getD aA (Int.toNat (IntKind.i64.wrap (aZ + bX))) default), dM)))

noncomputable def cT (hi2 : Int) (aZ : Int) (aA : List Int) (bX : Int) : Option ((List Int × Int) ⊕ ((List Int) ⊕ (List Int))) :=
  cond (decide (hi2 ≤ (IntKind.i64.wrap ((IntKind.i64.wrap ((2 : Int) * bX)) + (1 : Int)))))
  (some (.inr (.inl aA)))
  (bF ((((decide ((IntKind.i64.wrap ((IntKind.i64.wrap ((IntKind.i64.wrap ((2 : Int) * bX)) + (1 : Int))) + (1 : Int))) < hi2))) = true → 0 ≤ (IntKind.i64.wrap (aZ + (IntKind.i64.wrap ((IntKind.i64.wrap ((2 : Int) * bX)) + (1 : Int))))) ∧ (IntKind.i64.wrap (aZ + (IntKind.i64.wrap ((IntKind.i64.wrap ((2 : Int) * bX)) + (1 : Int))))) < ((List.length aA : Nat) : Int))) <|
  bF ((((decide ((IntKind.i64.wrap ((IntKind.i64.wrap ((IntKind.i64.wrap ((2 : Int) * bX)) + (1 : Int))) + (1 : Int))) < hi2))) = true → 0 ≤ (IntKind.i64.wrap ((IntKind.i64.wrap (aZ + (IntKind.i64.wrap ((IntKind.i64.wrap ((2 : Int) * bX)) + (1 : Int))))) + (1 : Int))) ∧ (IntKind.i64.wrap ((IntKind.i64.wrap (aZ + (IntKind.i64.wrap ((IntKind.i64.wrap ((2 : Int) * bX)) + (1 : Int))))) + (1 : Int))) < ((List.length aA : Nat) : Int))) <|
  (dR (decide ((IntKind.i64.wrap ((IntKind.i64.wrap ((IntKind.i64.wrap ((2 : Int) * bX)) + (1 : Int))) + (1 : Int))) < hi2)) (cU (List.getD aA (Int.toNat (IntKind.i64.wrap (aZ + (IntKind.i64.wrap ((IntKind.i64.wrap ((2 : Int) * bX)) + (1 : Int)))))) default) (List.getD aA (Int.toNat (IntKind.i64.wrap ((IntKind.i64.wrap (aZ + (IntKind.i64.wrap ((IntKind.i64.wrap ((2 : Int) * bX)) + (1 : Int))))) + (1 : Int)))) default))).bind fun x14 =>
  cond ((decide ((IntKind.i64.wrap ((IntKind.i64.wrap ((IntKind.i64.wrap ((2 : Int) * bX)) + (1 : Int))) + (1 : Int))) < hi2)) && x14)
  (fP aA hi2 aZ bX (IntKind.i64.wrap ((IntKind.i64.wrap ((IntKind.i64.wrap ((2 : Int) * bX)) + (1 : Int))) + (1 : Int))))
  (fP aA hi2 aZ bX (IntKind.i64.wrap ((IntKind.i64.wrap ((2 : Int) * bX)) + (1 : Int)))))

noncomputable def jT (aA : List Int) (hi2 : Int) (aZ : Int) (bX : Int) : Option (List Int) :=
  (lp (fun s => cT hi2 aZ s.1 s.2) (aA, bX)).bind (Sum.elim (fun rr => some rr) (fun rr => some rr))

noncomputable def eU (aA : (List Int)) (lo1 : Int) (hi2 : Int) (aZ : Int) : Option (List Int) :=
  jT aA hi2 aZ lo1

noncomputable def dN (bI : Int) (lo7 : Int) (aA : List Int) (i10 : Int) : Option ((List Int × Int) ⊕ ((List Int))) :=
  cond (decide ((0 : Int) ≤ i10))
  (bF (0 ≤ (IntKind.i64.wrap (bI + i10)) ∧ (IntKind.i64.wrap (bI + i10)) < ((List.length aA : Nat) : Int)) <|
  bF (0 ≤ bI ∧ bI < ((List.length aA : Nat) : Int)) <|
  bF (0 ≤ bI ∧ bI < ((List.length aA : Nat) : Int)) <|
  bF (0 ≤ (IntKind.i64.wrap (bI + i10)) ∧ (IntKind.i64.wrap (bI + i10)) < ((List.length aA : Nat) : Int)) <|
  (eU (List.set (List.set aA (Int.toNat bI) (List.getD aA (Int.toNat (IntKind.i64.wrap (bI + i10))) default)) (Int.toNat (IntKind.i64.wrap (bI + i10))) (List.getD aA (Int.toNat bI) default)) lo7 i10 bI).bind fun x6 =>
  some (.inl (x6, IntKind.i64.wrap (i10 - (1 : Int)))))
  (some (.inr aA))

noncomputable def jU (aA : List Int) (bI : Int) (lo7 : Int) (i10 : Int) : Option (List Int) :=
  (lp (fun s => dN bI lo7 s.1 s.2) (aA, i10)).bind (fun rr => some rr)

noncomputable def iK (aA : List Int) (bI : Int) (lo7 : Int) (hi8 : Int) : Option (List Int) :=
  jU aA bI lo7 (IntKind.i64.wrap (hi8 - (1 : Int)))

noncomputable def dO (bI : Int) (lo7 : Int) (hi8 : Int) (aA : List Int) (i9 : Int) : Option ((List Int × Int) ⊕ ((List Int))) :=
  cond (decide ((0 : Int) ≤ i9))
  ((eU aA i9 hi8 bI).bind fun x11 =>
  some (.inl (x11, IntKind.i64.wrap (i9 - (1 : Int)))))
  (some (.inr aA))

noncomputable def jV (aA : List Int) (bI : Int) (lo7 : Int) (hi8 : Int) (i9 : Int) : Option (List Int) :=
  (lp (fun s => dO bI lo7 hi8 s.1 s.2) (aA, i9)).bind (fun rr => iK rr bI lo7 hi8)

noncomputable def iS (aA : (List Int)) (a1 : Int) (b2 : Int) : Option (List Int) :=
  bF ((2 : Int) ≠ 0) <|
  jV aA a1 (0 : Int) (IntKind.i64.wrap (b2 - a1)) (IntKind.i64.wrap (Int.tdiv (IntKind.i64.wrap ((IntKind.i64.wrap (b2 - a1)) - (1 : Int))) (2 : Int)))

noncomputable def kF (xS : Int) : Option Int :=
  (jO (IntKind.u64.wrap xS)).bind fun x1 =>
  bF (0 ≤ x1) <|
  some (IntKind.u64.wrap ((1 : Int) * 2 ^ (min (Int.toNat x1) 64)))

noncomputable def kN (r0 : Int) : Option (Int × Int) :=
  bF (0 ≤ (13 : Int)) <|
  bF (0 ≤ (7 : Int)) <|
  bF (0 ≤ (17 : Int)) <|
  some (bH .xor .u64 (bH .xor .u64 (bH .xor .u64 r0 (IntKind.u64.wrap (r0 * 2 ^ (min (Int.toNat (13 : Int)) 64)))) (Int.fdiv (bH .xor .u64 r0 (IntKind.u64.wrap (r0 * 2 ^ (min (Int.toNat (13 : Int)) 64)))) (2 ^ (min (Int.toNat (7 : Int)) 64)))) (IntKind.u64.wrap ((bH .xor .u64 (bH .xor .u64 r0 (IntKind.u64.wrap (r0 * 2 ^ (min (Int.toNat (13 : Int)) 64)))) (Int.fdiv (bH .xor .u64 r0 (IntKind.u64.wrap (r0 * 2 ^ (min (Int.toNat (13 : Int)) 64)))) (2 ^ (min (Int.toNat (7 : Int)) 64)))) * 2 ^ (min (Int.toNat (17 : Int)) 64))), bH .xor .u64 (bH .xor .u64 (bH .xor .u64 r0 (IntKind.u64.wrap (r0 * 2 ^ (min (Int.toNat (13 : Int)) 64)))) (Int.fdiv (bH .xor .u64 r0 (IntKind.u64.wrap (r0 * 2 ^ (min (Int.toNat (13 : Int)) 64)))) (2 ^ (min (Int.toNat (7 : Int)) 64)))) (IntKind.u64.wrap ((bH .xor .u64 (bH .xor .u64 r0 (IntKind.u64.wrap (r0 * 2 ^ (min (Int.toNat (13 : Int)) 64)))) (Int.fdiv (bH .xor .u64 r0 (IntKind.u64.wrap (r0 * 2 ^ (min (Int.toNat (13 : Int)) 64)))) (2 ^ (min (Int.toNat (7 : Int)) 64)))) * 2 ^ (min (Int.toNat (17 : Int)) 64))))

noncomputable def eM (aA : List Int) (a1 : Int) (jG : Int) (kM : Int) (iD : Int) (idx9 : Int) (eZ : Int) : Option ((List Int × Int × Int) ⊕ ((List Int))) :=
  bF (0 ≤ (IntKind.i64.wrap (a1 + eZ)) ∧ (IntKind.i64.wrap (a1 + eZ)) < ((List.length aA : Nat) : Int)) <|
  bF (0 ≤ idx9 ∧ idx9 < ((List.length aA : Nat) : Int)) <|
  bF (0 ≤ idx9 ∧ idx9 < ((List.length aA : Nat) : Int)) <|
  bF (0 ≤ (IntKind.i64.wrap (a1 + eZ)) ∧ (IntKind.i64.wrap (a1 + eZ)) < ((List.length aA : Nat) : Int)) <|
  some (.inl (List.set (List.set aA (Int.toNat idx9) (List.getD aA (Int.toNat (IntKind.i64.wrap (a1 + eZ))) default)) (Int.toNat (IntKind.i64.wrap (a1 + eZ))) (List.getD aA (Int.toNat idx9) default), kM, IntKind.i64.wrap (idx9 + (1 : Int))))

noncomputable def cN (a1 : Int) (jG : Int) (iD : Int) (aA : List Int) (kM : Int) (idx9 : Int) : Option ((List Int × Int × Int) ⊕ ((List Int))) :=
  bF ((4 : Int) ≠ 0) <|
  cond (decide (idx9 ≤ (IntKind.i64.wrap ((IntKind.i64.wrap (a1 + (IntKind.i64.wrap ((IntKind.i64.wrap (Int.tdiv jG (4 : Int))) * (2 : Int))))) + (1 : Int)))))
  ((kN kM).bind fun x9 =>
  cond (decide (jG ≤ (IntKind.i64.wrap (bH .and .u64 x9.1 (IntKind.u64.wrap (iD - (1 : Int)))))))
  (eM aA a1 jG x9.2 iD idx9 (IntKind.i64.wrap ((IntKind.i64.wrap (bH .and .u64 x9.1 (IntKind.u64.wrap (iD - (1 : Int))))) - jG)))
  (eM aA a1 jG x9.2 iD idx9 (IntKind.i64.wrap (bH .and .u64 x9.1 (IntKind.u64.wrap (iD - (1 : Int)))))))
  (some (.inr aA))

noncomputable def iQ (aA : List Int) (a1 : Int) (jG : Int) (kM : Int) (iD : Int) (idx9 : Int) : Option (List Int) :=
  (lp (fun s => cN a1 jG iD s.1 s.2.1 s.2.2) (aA, kM, idx9)).bind (fun rr => some rr)

noncomputable def fU (aA : (List Int)) (a1 : Int) (b2 : Int) : Option (List Int) :=
  cond (decide ((8 : Int) ≤ (IntKind.i64.wrap (b2 - a1))))
  ((kF (IntKind.i64.wrap (b2 - a1))).bind fun x3 =>
  bF ((4 : Int) ≠ 0) <|
  iQ aA a1 (IntKind.i64.wrap (b2 - a1)) (IntKind.u64.wrap (IntKind.i64.wrap (b2 - a1))) x3 (IntKind.i64.wrap ((IntKind.i64.wrap (a1 + (IntKind.i64.wrap ((IntKind.i64.wrap (Int.tdiv (IntKind.i64.wrap (b2 - a1)) (4 : Int))) * (2 : Int))))) - (1 : Int))))
  (some aA)

noncomputable def fG (aA : (List Int)) (a1 : Int) (b2 : Int) (pK : Int) : Option ((Int × Int) × Int) :=
  bF (0 ≤ b2 ∧ b2 < ((List.length aA : Nat) : Int)) <|
  bF (0 ≤ a1 ∧ a1 < ((List.length aA : Nat) : Int)) <|
  (cU (List.getD aA (Int.toNat b2) default) (List.getD aA (Int.toNat a1) default)).bind fun x3 =>
  cond x3
  (some ((b2, a1), IntKind.i64.wrap (pK + (1 : Int))))
  (some ((a1, b2), pK))

noncomputable def gY (aA : (List Int)) (a1 : Int) (b2 : Int) (c3 : Int) (zD : Int) : Option (Int × Int) :=
  (fG aA a1 b2 zD).bind fun x1 =>
  (fG aA x1.1.2 c3 x1.2).bind fun x6 =>
  (fG aA x1.1.1 x6.1.1 x6.2).bind fun x11 =>
  some (x11.1.2, x11.2)

noncomputable def dK (aA : (List Int)) (a1 : Int) (zW : Int) : Option (Int × Int) :=
  (gY aA (IntKind.i64.wrap (a1 - (1 : Int))) a1 (IntKind.i64.wrap (a1 + (1 : Int))) zW).bind fun x1 =>
  some (x1.1, x1.2)

noncomputable def eV (aA : List Int) (kZ : Int) (j11 : Int) : Option (Int × Int) :=
  cond (decide (kZ = (0 : Int)))
  (some (j11, (1 : Int)))
  (cond (decide (kZ = (12 : Int)))
  (some (j11, (2 : Int)))
  (some (j11, (0 : Int))))

noncomputable def eT (aA : List Int) (kZ : Int) (i10 : Int) (j11 : Int) (k12 : Int) : Option (Int × Int) :=
  (gY aA i10 j11 k12 kZ).bind fun x8 =>
  eV aA x8.2 x8.1

noncomputable def gQ (aA : (List Int)) (a1 : Int) (b2 : Int) : Option (Int × Int) :=
  bF ((4 : Int) ≠ 0) <|
  bF ((4 : Int) ≠ 0) <|
  bF ((4 : Int) ≠ 0) <|
  cond (decide ((8 : Int) ≤ (IntKind.i64.wrap (b2 - a1))))
  (cond (decide ((50 : Int) ≤ (IntKind.i64.wrap (b2 - a1))))
  ((dK aA (IntKind.i64.wrap (a1 + (IntKind.i64.wrap ((IntKind.i64.wrap (Int.tdiv (IntKind.i64.wrap (b2 - a1)) (4 : Int))) * (1 : Int))))) 0).bind fun x14 =>
  (dK aA (IntKind.i64.wrap (a1 + (IntKind.i64.wrap ((IntKind.i64.wrap (Int.tdiv (IntKind.i64.wrap (b2 - a1)) (4 : Int))) * (2 : Int))))) x14.2).bind fun x19 =>
  (dK aA (IntKind.i64.wrap (a1 + (IntKind.i64.wrap ((IntKind.i64.wrap (Int.tdiv (IntKind.i64.wrap (b2 - a1)) (4 : Int))) * (3 : Int))))) x19.2).bind fun x24 =>
  eT aA x24.2 x14.1 x19.1 x24.1)
  (eT aA 0 (IntKind.i64.wrap (a1 + (IntKind.i64.wrap ((IntKind.i64.wrap (Int.tdiv (IntKind.i64.wrap (b2 - a1)) (4 : Int))) * (1 : Int))))) (IntKind.i64.wrap (a1 + (IntKind.i64.wrap ((IntKind.i64.wrap (Int.tdiv (IntKind.i64.wrap (b2 - a1)) (4 : Int))) * (2 : Int))))) (IntKind.i64.wrap (a1 + (IntKind.i64.wrap ((IntKind.i64.wrap (Int.tdiv (IntKind.i64.wrap (b2 - a1)) (4 : Int))) * (3 : Int)))))))
  (eV aA 0 (IntKind.i64.wrap (a1 + (IntKind.i64.wrap ((IntKind.i64.wrap (Int.tdiv (IntKind.i64.wrap (b2 - a1)) (4 : Int))) * (2 : Int))))))

noncomputable def cZ  (aA : List Int) (i6 : Int) (j7 : Int) : Option ((List Int × Int × Int) ⊕ ((List Int))) :=
  cond (decide (i6 < j7))
  (bF (0 ≤ j7 ∧ j7 < ((List.length aA : Nat) : Int)) <|
  bF (0 ≤ i6 ∧ i6 < ((List.length aA : Nat) : Int)) <|
  bF (0 ≤ i6 ∧ i6 < ((List.length aA : Nat) : Int)) <|
  bF (0 ≤ j7 ∧ j7 < ((List.length aA : Nat) : Int)) <|
  some (.inl (List.set (List.set aA (Int.toNat i6) (List.getD aA (Int.toNat j7) default)) (Int.toNat j7) (List.getD aA (Int.toNat i6) default), IntKind.i64.wrap (i6 + (1 : Int)), IntKind.i64.wrap (j7 - (1 : Int)))))
  (some (.inr aA))

noncomputable def iW (aA : List Int) (i6 : Int) (j7 : Int) : Option (List Int) :=
  (lp (fun s => cZ s.1 s.2.1 s.2.2) (aA, i6, j7)).bind (fun rr => some rr)

noncomputable def gI (aA : (List Int)) (a1 : Int) (b2 : Int) : Option (List Int) :=
  iW aA a1 (IntKind.i64.wrap (b2 - (1 : Int)))

noncomputable def dW (aA : List Int) : Option (Bool × List Int) :=
  some (false, aA)

noncomputable def dB (aA : List Int) (a1 : Int) (b2 : Int) (i7 : Int) (j8 : Int) : Option ((List Int × Int × Int) ⊕ ((List Int) ⊕ (Bool × (List Int)))) :=
  some (.inl (aA, i7, IntKind.i64.wrap (j8 + (1 : Int))))

noncomputable def cK (a1 : Int) (b2 : Int) (i7 : Int) (j8 : Int) (aA : List Int) (j10 : Int) : Option ((List Int × Int) ⊕ ((List Int))) :=
  cond (decide (j10 < b2))
  (bF (0 ≤ j10 ∧ j10 < ((List.length aA : Nat) : Int)) <|
  bF (0 ≤ (IntKind.i64.wrap (j10 - (1 : Int))) ∧ (IntKind.i64.wrap (j10 - (1 : Int))) < ((List.length aA : Nat) : Int)) <|
  (cU (List.getD aA (Int.toNat j10) default) (List.getD aA (Int.toNat (IntKind.i64.wrap (j10 - (1 : Int)))) default)).bind fun x12 =>
  cond (!x12)
  (some (.inr aA))
  (bF (0 ≤ (IntKind.i64.wrap (j10 - (1 : Int))) ∧ (IntKind.i64.wrap (j10 - (1 : Int))) < ((List.length aA : Nat) : Int)) <|
  bF (0 ≤ j10 ∧ j10 < ((List.length aA : Nat) : Int)) <|
  bF (0 ≤ j10 ∧ j10 < ((List.length aA : Nat) : Int)) <|
  bF (0 ≤ (IntKind.i64.wrap (j10 - (1 : Int))) ∧ (IntKind.i64.wrap (j10 - (1 : Int))) < ((List.length aA : Nat) : Int)) <|
  some (.inl (List.set (List.set aA (Int.toNat j10) (List.getD aA (Int.toNat (IntKind.i64.wrap (j10 - (1 : Int)))) default)) (Int.toNat (IntKind.i64.wrap (j10 - (1 : Int)))) (List.getD aA (Int.toNat j10) default), IntKind.i64.wrap (j10 + (1 : Int))))))
  (some (.inr aA))

noncomputable def fJ (aA : List Int) (a1 : Int) (b2 : Int) (i7 : Int) (j8 : Int) (j10 : Int) : Option ((List Int × Int × Int) ⊕ ((List Int) ⊕ (Bool × (List Int)))) :=
  (lp (fun s => cK a1 b2 i7 j8 s.1 s.2) (aA, j10)).bind (fun rr => dB rr a1 b2 i7 j8)

noncomputable def cB (aA : List Int) (a1 : Int) (b2 : Int) (i7 : Int) (j8 : Int) : Option ((List Int × Int × Int) ⊕ ((List Int) ⊕ (Bool × (List Int)))) :=
  cond (decide ((2 : Int) ≤ (IntKind.i64.wrap (b2 - i7))))
  (fJ aA a1 b2 i7 j8 (IntKind.i64.wrap (i7 + (1 : Int))))
  (dB aA a1 b2 i7 j8)

noncomputable def cA (a1 : Int) (b2 : Int) (i7 : Int) (j8 : Int) (aA : List Int) (j9 : Int) : Option ((List Int × Int) ⊕ ((List Int))) :=
  cond (decide ((1 : Int) ≤ j9))
  (bF (0 ≤ j9 ∧ j9 < ((List.length aA : Nat) : Int)) <|
  bF (0 ≤ (IntKind.i64.wrap (j9 - (1 : Int))) ∧ (IntKind.i64.wrap (j9 - (1 : Int))) < ((List.length aA : Nat) : Int)) <|
  (cU (List.getD aA (Int.toNat j9) default) (List.getD aA (Int.toNat (IntKind.i64.wrap (j9 - (1 : Int)))) default)).bind fun x24 =>
  cond (!x24)
  (some (.inr aA))
  (bF (0 ≤ (IntKind.i64.wrap (j9 - (1 : Int))) ∧ (IntKind.i64.wrap (j9 - (1 : Int))) < ((List.length aA : Nat) : Int)) <|
  bF (0 ≤ j9 ∧ j9 < ((List.length aA : Nat) : Int)) <|
  bF (0 ≤ j9 ∧ j9 < ((List.length aA : Nat) : Int)) <|
  bF (0 ≤ (IntKind.i64.wrap (j9 - (1 : Int))) ∧ (IntKind.i64.wrap (j9 - (1 : Int))) < ((List.length aA : Nat) : Int)) <|
  some (.inl (List.set (List.set aA (Int.toNat j9) (List.getD aA (Int.toNat (IntKind.i64.wrap (j9 - (1 : Int)))) default)) (Int.toNat (IntKind.i64.wrap (j9 - (1 : Int)))) (List.getD aA (Int.toNat j9) default), IntKind.i64.wrap (j9 - (1 : Int))))))
  (some (.inr aA))

noncomputable def fM (aA : List Int) (a1 : Int) (b2 : Int) (i7 : Int) (j8 : Int) (j9 : Int) : Option ((List Int × Int × Int) ⊕ ((List Int) ⊕ (Bool × (List Int)))) :=
  (lp (fun s => cA a1 b2 i7 j8 s.1 s.2) (aA, j9)).bind (fun rr => cB rr a1 b2 i7 j8)

noncomputable def dX (aA : List Int) (a1 : Int) (b2 : Int) (i7 : Int) (j8 : Int) : Option ((List Int × Int × Int) ⊕ ((List Int) ⊕ (Bool × (List Int)))) :=
  cond (decide (i7 = b2))
  (some (.inr (.inr (true, aA))))
  (cond (decide ((IntKind.i64.wrap (b2 - a1)) < (50 : Int)))
  (some (.inr (.inr (false, aA))))
  (bF (0 ≤ (IntKind.i64.wrap (i7 - (1 : Int))) ∧ (IntKind.i64.wrap (i7 - (1 : Int))) < ((List.length aA : Nat) : Int)) <|
  bF (0 ≤ i7 ∧ i7 < ((List.length aA : Nat) : Int)) <|
  bF (0 ≤ i7 ∧ i7 < ((List.length aA : Nat) : Int)) <|
  bF (0 ≤ (IntKind.i64.wrap (i7 - (1 : Int))) ∧ (IntKind.i64.wrap (i7 - (1 : Int))) < ((List.length aA : Nat) : Int)) <|
  cond (decide ((2 : Int) ≤ (IntKind.i64.wrap (i7 - a1))))
  (fM (List.set (List.set aA (Int.toNat i7) (List.getD aA (Int.toNat (IntKind.i64.wrap (i7 - (1 : Int)))) default)) (Int.toNat (IntKind.i64.wrap (i7 - (1 : Int)))) (List.getD aA (Int.toNat i7) default)) a1 b2 i7 j8 (IntKind.i64.wrap (i7 - (1 : Int))))
  (cB (List.set (List.set aA (Int.toNat i7) (List.getD aA (Int.toNat (IntKind.i64.wrap (i7 - (1 : Int)))) default)) (Int.toNat (IntKind.i64.wrap (i7 - (1 : Int)))) (List.getD aA (Int.toNat i7) default)) a1 b2 i7 j8)))

noncomputable def cJ (a1 : Int) (b2 : Int) (j8 : Int) (aA : List Int) (i7 : Int) : Option ((List Int × Int) ⊕ ((List Int × Int))) :=
  bF ((((decide (i7 < b2))) = true → 0 ≤ i7 ∧ i7 < ((List.length aA : Nat) : Int))) <|
  bF ((((decide (i7 < b2))) = true → 0 ≤ (IntKind.i64.wrap (i7 - (1 : Int))) ∧ (IntKind.i64.wrap (i7 - (1 : Int))) < ((List.length aA : Nat) : Int))) <|
  (dR (decide (i7 < b2)) (cU (List.getD aA (Int.toNat i7) default) (List.getD aA (Int.toNat (IntKind.i64.wrap (i7 - (1 : Int)))) default))).bind fun x34 =>
  cond ((decide (i7 < b2)) && (!x34))
  (some (.inl (aA, IntKind.i64.wrap (i7 + (1 : Int)))))
  (some (.inr (aA, i7)))

noncomputable def cQ (aA : List Int) (a1 : Int) (b2 : Int) (i7 : Int) (j8 : Int) : Option ((List Int × Int × Int) ⊕ ((List Int) ⊕ (Bool × (List Int)))) :=
  (lp (fun s => cJ a1 b2 j8 s.1 s.2) (aA, i7)).bind (fun rr => dX rr.1 a1 b2 rr.2 j8)

noncomputable def bQ (a1 : Int) (b2 : Int) (aA : List Int) (i7 : Int) (j8 : Int) : Option ((List Int × Int × Int) ⊕ ((List Int) ⊕ (Bool × (List Int)))) :=
  cond (decide (j8 < (5 : Int)))
  (cQ aA a1 b2 i7 j8)
  (some (.inr (.inl aA)))

noncomputable def fK (aA : List Int) (a1 : Int) (b2 : Int) (i7 : Int) (j8 : Int) : Option (Bool × List Int) :=
  (lp (fun s => bQ a1 b2 s.1 s.2.1 s.2.2) (aA, i7, j8)).bind (Sum.elim (fun rr => dW rr) (fun rr => some (rr.1, rr.2)))

noncomputable def eG (aA : (List Int)) (a1 : Int) (b2 : Int) : Option (Bool × List Int) :=
  fK aA a1 b2 (IntKind.i64.wrap (a1 + (1 : Int))) (0 : Int)

noncomputable def iG (aA : List Int) (i9 : Int) : Option (Int × List Int) :=
  some (i9, aA)

noncomputable def dH (aA : List Int) (a1 : Int) (i9 : Int) (j10 : Int) : Option ((List Int × Int × Int) ⊕ ((List Int × Int))) :=
  cond (decide (j10 < i9))
  (some (.inr (aA, i9)))
  (bF (0 ≤ j10 ∧ j10 < ((List.length aA : Nat) : Int)) <|
  bF (0 ≤ i9 ∧ i9 < ((List.length aA : Nat) : Int)) <|
  bF (0 ≤ i9 ∧ i9 < ((List.length aA : Nat) : Int)) <|
  bF (0 ≤ j10 ∧ j10 < ((List.length aA : Nat) : Int)) <|
  some (.inl (List.set (List.set aA (Int.toNat i9) (List.getD aA (Int.toNat j10) default)) (Int.toNat j10) (List.getD aA (Int.toNat i9) default), IntKind.i64.wrap (i9 + (1 : Int)), IntKind.i64.wrap (j10 - (1 : Int)))))

noncomputable def dG (a1 : Int) (i9 : Int) (aA : List Int) (j10 : Int) : Option ((List Int × Int) ⊕ ((List Int × Int))) :=
  bF ((((decide (i9 ≤ j10))) = true → 0 ≤ a1 ∧ a1 < ((List.length aA : Nat) : Int))) <|
  bF ((((decide (i9 ≤ j10))) = true → 0 ≤ j10 ∧ j10 < ((List.length aA : Nat) : Int))) <|
  (dR (decide (i9 ≤ j10)) (cU (List.getD aA (Int.toNat a1) default) (List.getD aA (Int.toNat j10) default))).bind fun x12 =>
  cond ((decide (i9 ≤ j10)) && x12)
  (some (.inl (aA, IntKind.i64.wrap (j10 - (1 : Int)))))
  (some (.inr (aA, j10)))

noncomputable def iH (aA : List Int) (a1 : Int) (i9 : Int) (j10 : Int) : Option ((List Int × Int × Int) ⊕ ((List Int × Int))) :=
  (lp (fun s => dG a1 i9 s.1 s.2) (aA, j10)).bind (fun rr => dH rr.1 a1 i9 rr.2)

noncomputable def fE (aA : List Int) (a1 : Int) (i9 : Int) (j10 : Int) : Option ((List Int × Int × Int) ⊕ ((List Int × Int))) :=
  iH aA a1 i9 j10

noncomputable def dF (a1 : Int) (j10 : Int) (aA : List Int) (i9 : Int) : Option ((List Int × Int) ⊕ ((List Int × Int))) :=
  bF ((((decide (i9 ≤ j10))) = true → 0 ≤ a1 ∧ a1 < ((List.length aA : Nat) : Int))) <|
  bF ((((decide (i9 ≤ j10))) = true → 0 ≤ i9 ∧ i9 < ((List.length aA : Nat) : Int))) <|
  (dR (decide (i9 ≤ j10)) (cU (List.getD aA (Int.toNat a1) default) (List.getD aA (Int.toNat i9) default))).bind fun x18 =>
  cond ((decide (i9 ≤ j10)) && (!x18))
  (some (.inl (aA, IntKind.i64.wrap (i9 + (1 : Int)))))
  (some (.inr (aA, i9)))

noncomputable def iI (aA : List Int) (a1 : Int) (i9 : Int) (j10 : Int) : Option ((List Int × Int × Int) ⊕ ((List Int × Int))) :=
  (lp (fun s => dF a1 j10 s.1 s.2) (aA, i9)).bind (fun rr => fE rr.1 a1 rr.2 j10)

noncomputable def cM (a1 : Int) (aA : List Int) (i9 : Int) (j10 : Int) : Option ((List Int × Int × Int) ⊕ ((List Int × Int))) :=
  iI aA a1 i9 j10

noncomputable def iJ (aA : List Int) (a1 : Int) (i9 : Int) (j10 : Int) : Option (Int × List Int) :=
  (lp (fun s => cM a1 s.1 s.2.1 s.2.2) (aA, i9, j10)).bind (fun rr => iG rr.1 rr.2)

noncomputable def eJ (aA : (List Int)) (a1 : Int) (b2 : Int) (cC : Int) : Option (Int × List Int) :=
  bF (0 ≤ cC ∧ cC < ((List.length aA : Nat) : Int)) <|
  bF (0 ≤ a1 ∧ a1 < ((List.length aA : Nat) : Int)) <|
  bF (0 ≤ a1 ∧ a1 < ((List.length aA : Nat) : Int)) <|
  bF (0 ≤ cC ∧ cC < ((List.length aA : Nat) : Int)) <|
  iJ (List.set (List.set aA (Int.toNat a1) (List.getD aA (Int.toNat cC) default)) (Int.toNat cC) (List.getD aA (Int.toNat a1) default)) a1 (IntKind.i64.wrap (a1 + (1 : Int))) (IntKind.i64.wrap (b2 - (1 : Int)))

noncomputable def hU (aA : List Int) (a1 : Int) (j11 : Int) : Option ((Int × Bool) × List Int) :=
  bF (0 ≤ a1 ∧ a1 < ((List.length aA : Nat) : Int)) <|
  bF (0 ≤ j11 ∧ j11 < ((List.length aA : Nat) : Int)) <|
  bF (0 ≤ j11 ∧ j11 < ((List.length aA : Nat) : Int)) <|
  bF (0 ≤ a1 ∧ a1 < ((List.length aA : Nat) : Int)) <|
  some ((j11, false), (List.set (List.set aA (Int.toNat j11) (List.getD aA (Int.toNat a1) default)) (Int.toNat a1) (List.getD aA (Int.toNat j11) default)))

noncomputable def eB (aA : List Int) (a1 : Int) (i10 : Int) (j11 : Int) : Option ((List Int × Int × Int) ⊕ ((List Int × Int))) :=
  cond (decide (j11 < i10))
  (some (.inr (aA, j11)))
  (bF (0 ≤ j11 ∧ j11 < ((List.length aA : Nat) : Int)) <|
  bF (0 ≤ i10 ∧ i10 < ((List.length aA : Nat) : Int)) <|
  bF (0 ≤ i10 ∧ i10 < ((List.length aA : Nat) : Int)) <|
  bF (0 ≤ j11 ∧ j11 < ((List.length aA : Nat) : Int)) <|
  some (.inl (List.set (List.set aA (Int.toNat i10) (List.getD aA (Int.toNat j11) default)) (Int.toNat j11) (List.getD aA (Int.toNat i10) default), IntKind.i64.wrap (i10 + (1 : Int)), IntKind.i64.wrap (j11 - (1 : Int)))))

noncomputable def eF (a1 : Int) (i10 : Int) (aA : List Int) (j11 : Int) : Option ((List Int × Int) ⊕ ((List Int × Int))) :=
  bF ((((decide (i10 ≤ j11))) = true → 0 ≤ j11 ∧ j11 < ((List.length aA : Nat) : Int))) <|
  bF ((((decide (i10 ≤ j11))) = true → 0 ≤ a1 ∧ a1 < ((List.length aA : Nat) : Int))) <|
  (dR (decide (i10 ≤ j11)) (cU (List.getD aA (Int.toNat j11) default) (List.getD aA (Int.toNat a1) default))).bind fun x25 =>
  cond ((decide (i10 ≤ j11)) && (!x25))
  (some (.inl (aA, IntKind.i64.wrap (j11 - (1 : Int)))))
  (some (.inr (aA, j11)))

noncomputable def jJ (aA : List Int) (a1 : Int) (i10 : Int) (j11 : Int) : Option ((List Int × Int × Int) ⊕ ((List Int × Int))) :=
  (lp (fun s => eF a1 i10 s.1 s.2) (aA, j11)).bind (fun rr => eB rr.1 a1 i10 rr.2)

noncomputable def iB (aA : List Int) (a1 : Int) (i10 : Int) (j11 : Int) : Option ((List Int × Int × Int) ⊕ ((List Int × Int))) :=
  jJ aA a1 i10 j11

noncomputable def eC (a1 : Int) (j11 : Int) (aA : List Int) (i10 : Int) : Option ((List Int × Int) ⊕ ((List Int × Int))) :=
  bF ((((decide (i10 ≤ j11))) = true → 0 ≤ i10 ∧ i10 < ((List.length aA : Nat) : Int))) <|
  bF ((((decide (i10 ≤ j11))) = true → 0 ≤ a1 ∧ a1 < ((List.length aA : Nat) : Int))) <|
  (dR (decide (i10 ≤ j11)) (cU (List.getD aA (Int.toNat i10) default) (List.getD aA (Int.toNat a1) default))).bind fun x31 =>
  cond ((decide (i10 ≤ j11)) && x31)
  (some (.inl (aA, IntKind.i64.wrap (i10 + (1 : Int)))))
  (some (.inr (aA, i10)))

noncomputable def jN (aA : List Int) (a1 : Int) (i10 : Int) (j11 : Int) : Option ((List Int × Int × Int) ⊕ ((List Int × Int))) :=
  (lp (fun s => eC a1 j11 s.1 s.2) (aA, i10)).bind (fun rr => iB rr.1 a1 rr.2 j11)

noncomputable def cY (a1 : Int) (aA : List Int) (i10 : Int) (j11 : Int) : Option ((List Int × Int × Int) ⊕ ((List Int × Int))) :=
  jN aA a1 i10 j11

noncomputable def jM (aA : List Int) (a1 : Int) (i10 : Int) (j11 : Int) : Option ((Int × Bool) × List Int) :=
  (lp (fun s => cY a1 s.1 s.2.1 s.2.2) (aA, i10, j11)).bind (fun rr => hU rr.1 a1 rr.2)

noncomputable def eE (aA : List Int) (a1 : Int) (i10 : Int) (j11 : Int) : Option ((Int × Bool) × List Int) :=
  cond (decide (j11 < i10))
  (bF (0 ≤ a1 ∧ a1 < ((List.length aA : Nat) : Int)) <|
  bF (0 ≤ j11 ∧ j11 < ((List.length aA : Nat) : Int)) <|
  bF (0 ≤ j11 ∧ j11 < ((List.length aA : Nat) : Int)) <|
  bF (0 ≤ a1 ∧ a1 < ((List.length aA : Nat) : Int)) <|
  some ((j11, true), (List.set (List.set aA (Int.toNat j11) (List.getD aA (Int.toNat a1) default)) (Int.toNat a1) (List.getD aA (Int.toNat j11) default))))
  (bF (0 ≤ j11 ∧ j11 < ((List.length aA : Nat) : Int)) <|
  bF (0 ≤ i10 ∧ i10 < ((List.length aA : Nat) : Int)) <|
  bF (0 ≤ i10 ∧ i10 < ((List.length aA : Nat) : Int)) <|
  bF (0 ≤ j11 ∧ j11 < ((List.length aA : Nat) : Int)) <|
  jM (List.set (List.set aA (Int.toNat i10) (List.getD aA (Int.toNat j11) default)) (Int.toNat j11) (List.getD aA (Int.toNat i10) default)) a1 (IntKind.i64.wrap (i10 + (1 : Int))) (IntKind.i64.wrap (j11 - (1 : Int))))

noncomputable def eH (a1 : Int) (i10 : Int) (aA : List Int) (j11 : Int) : Option ((List Int × Int) ⊕ ((List Int × Int))) :=
  bF ((((decide (i10 ≤ j11))) = true → 0 ≤ j11 ∧ j11 < ((List.length aA : Nat) : Int))) <|
  bF ((((decide (i10 ≤ j11))) = true → 0 ≤ a1 ∧ a1 < ((List.length aA : Nat) : Int))) <|
  (dR (decide (i10 ≤ j11)) (cU (List.getD aA (Int.toNat j11) default) (List.getD aA (Int.toNat a1) default))).bind fun x37 =>
  cond ((decide (i10 ≤ j11)) && (!x37))
  (some (.inl (aA, IntKind.i64.wrap (j11 - (1 : Int)))))
  (some (.inr (aA, j11)))

noncomputable def jK (aA : List Int) (a1 : Int) (i10 : Int) (j11 : Int) : Option ((Int × Bool) × List Int) :=
  (lp (fun s => eH a1 i10 s.1 s.2) (aA, j11)).bind (fun rr => eE rr.1 a1 i10 rr.2)

noncomputable def hY (aA : List Int) (a1 : Int) (i10 : Int) (j11 : Int) : Option ((Int × Bool) × List Int) :=
  jK aA a1 i10 j11

noncomputable def dU (a1 : Int) (j11 : Int) (aA : List Int) (i10 : Int) : Option ((List Int × Int) ⊕ ((List Int × Int))) :=
  bF ((((decide (i10 ≤ j11))) = true → 0 ≤ i10 ∧ i10 < ((List.length aA : Nat) : Int))) <|
  bF ((((decide (i10 ≤ j11))) = true → 0 ≤ a1 ∧ a1 < ((List.length aA : Nat) : Int))) <|
  (dR (decide (i10 ≤ j11)) (cU (List.getD aA (Int.toNat i10) default) (List.getD aA (Int.toNat a1) default))).bind fun x43 =>
  cond ((decide (i10 ≤ j11)) && x43)
  (some (.inl (aA, IntKind.i64.wrap (i10 + (1 : Int)))))
  (some (.inr (aA, i10)))

noncomputable def fA (aA : List Int) (a1 : Int) (i10 : Int) (j11 : Int) : Option ((Int × Bool) × List Int) :=
  (lp (fun s => dU a1 j11 s.1 s.2) (aA, i10)).bind (fun rr => hY rr.1 a1 rr.2 j11)

noncomputable def fQ (aA : (List Int)) (a1 : Int) (b2 : Int) (cC : Int) : Option ((Int × Bool) × List Int) :=
  bF (0 ≤ cC ∧ cC < ((List.length aA : Nat) : Int)) <|
  bF (0 ≤ a1 ∧ a1 < ((List.length aA : Nat) : Int)) <|
  bF (0 ≤ a1 ∧ a1 < ((List.length aA : Nat) : Int)) <|
  bF (0 ≤ cC ∧ cC < ((List.length aA : Nat) : Int)) <|
  fA (List.set (List.set aA (Int.toNat a1) (List.getD aA (Int.toNat cC) default)) (Int.toNat cC) (List.getD aA (Int.toNat a1) default)) a1 (IntKind.i64.wrap (a1 + (1 : Int))) (IntKind.i64.wrap (b2 - (1 : Int)))

noncomputable def fW (rec : (List Int) → Int → Int → Int → Option (List Int)) (aA : List Int) (a1 : Int) (b2 : Int) (bT : Int) (bO : Bool) (bG : Bool) (dJ : Int) (fC : Int) : Option ((List Int × Int × Int × Int × Bool × Bool) ⊕ ((List Int))) :=
  bF ((((decide ((0 : Int) < a1))) = true → 0 ≤ (IntKind.i64.wrap (a1 - (1 : Int))) ∧ (IntKind.i64.wrap (a1 - (1 : Int))) < ((List.length aA : Nat) : Int))) <|
  bF ((((decide ((0 : Int) < a1))) = true → 0 ≤ fC ∧ fC < ((List.length aA : Nat) : Int))) <|
  (dR (decide ((0 : Int) < a1)) (cU (List.getD aA (Int.toNat (IntKind.i64.wrap (a1 - (1 : Int)))) default) (List.getD aA (Int.toNat fC) default))).bind fun x16 =>
  cond ((decide ((0 : Int) < a1)) && (!x16))
  ((eJ aA a1 b2 fC).bind fun x20 =>
  some (.inl (x20.2, x20.1, b2, bT, bO, bG)))
  ((fQ aA a1 b2 fC).bind fun x23 =>
  bF ((8 : Int) ≠ 0) <|
  cond (decide ((IntKind.i64.wrap (x23.1.1 - a1)) < (IntKind.i64.wrap (b2 - x23.1.1))))
  ((rec x23.2 a1 x23.1.1 bT).bind fun x28 =>
  some (.inl (x28, IntKind.i64.wrap (x23.1.1 + (1 : Int)), b2, bT, decide ((IntKind.i64.wrap (Int.tdiv dJ (8 : Int))) ≤ (IntKind.i64.wrap (x23.1.1 - a1))), x23.1.2)))
  ((rec x23.2 (IntKind.i64.wrap (x23.1.1 + (1 : Int))) b2 bT).bind fun x31 =>
  some (.inl (x31, a1, x23.1.1, bT, decide ((IntKind.i64.wrap (Int.tdiv dJ (8 : Int))) ≤ (IntKind.i64.wrap (b2 - x23.1.1))), x23.1.2))))

noncomputable def fX (rec : (List Int) → Int → Int → Int → Option (List Int)) (aA : List Int) (a1 : Int) (b2 : Int) (bT : Int) (bO : Bool) (bG : Bool) (dJ : Int) (fC : Int) (xO : Int) : Option ((List Int × Int × Int × Int × Bool × Bool) ⊕ ((List Int))) :=
  cond ((bO && bG) && (decide (xO = (1 : Int))))
  ((eG aA a1 b2).bind fun x35 =>
  cond x35.1
  (some (.inr x35.2))
  (fW rec x35.2 a1 b2 bT bO bG dJ fC))
  (fW rec aA a1 b2 bT bO bG dJ fC)

noncomputable def fV (rec : (List Int) → Int → Int → Int → Option (List Int)) (aA : List Int) (a1 : Int) (b2 : Int) (bT : Int) (bO : Bool) (bG : Bool) (dJ : Int) : Option ((List Int × Int × Int × Int × Bool × Bool) ⊕ ((List Int))) :=
  (gQ aA a1 b2).bind fun x9 =>
  cond (decide (x9.2 = (2 : Int)))
  ((gI aA a1 b2).bind fun x40 =>
  fX rec x40 a1 b2 bT bO bG dJ (IntKind.i64.wrap ((IntKind.i64.wrap (b2 - (1 : Int))) - (IntKind.i64.wrap (x9.1 - a1)))) (1 : Int))
  (fX rec aA a1 b2 bT bO bG dJ x9.1 x9.2)

noncomputable def dP (rec : (List Int) → Int → Int → Int → Option (List Int))  (aA : List Int) (a1 : Int) (b2 : Int) (bT : Int) (bO : Bool) (bG : Bool) : Option ((List Int × Int × Int × Int × Bool × Bool) ⊕ ((List Int))) :=
  cond (decide ((IntKind.i64.wrap (b2 - a1)) ≤ (12 : Int)))
  ((fT aA a1 b2).bind fun x2 =>
  some (.inr x2))
  (cond (decide (bT = (0 : Int)))
  ((iS aA a1 b2).bind fun x6 =>
  some (.inr x6))
  (cond (!bO)
  ((fU aA a1 b2).bind fun x44 =>
  fV rec x44 a1 b2 (IntKind.i64.wrap (bT - (1 : Int))) bO bG (IntKind.i64.wrap (b2 - a1)))
  (fV rec aA a1 b2 bT bO bG (IntKind.i64.wrap (b2 - a1)))))

noncomputable def kE (rec : (List Int) → Int → Int → Int → Option (List Int)) (aA : List Int) (a1 : Int) (b2 : Int) (bT : Int) (bO : Bool) (bG : Bool) : Option (List Int) :=
  (lp (fun s => dP rec s.1 s.2.1 s.2.2.1 s.2.2.2.1 s.2.2.2.2.1 s.2.2.2.2.2) (aA, a1, b2, bT, bO, bG)).bind (fun rr => some rr)

noncomputable def fD (rec : (List Int) → Int → Int → Int → Option (List Int)) (aA : (List Int)) (a1 : Int) (b2 : Int) (bT : Int) : Option (List Int) :=
  kE rec aA a1 b2 bT true true

noncomputable def cW  : Nat → (List Int) → Int → Int → Int → Option (List Int)
  | 0 => fun _ _ _ _ => none
  | k + 1 => fD (cW k)

noncomputable def iX (aA : (List Int)) (a1 : Int) (b2 : Int) (bT : Int) : Option (List Int) := JS (fun k => cW k aA a1 b2 bT)

noncomputable def jS (x0 : (List Int)) : Option (List Int) :=
  (jO (IntKind.u64.wrap ((List.length x0 : Nat) : Int))).bind fun x1 =>
  (iX x0 (0 : Int) ((List.length x0 : Nat) : Int) x1).bind fun x4 =>
  some x4

noncomputable def uA (f0 : (List aF)) : Option ((List aF)) :=
  some f0

noncomputable def lP {σ : Type} (cE : σ → bB → Option (σ × Bool)) (sg : σ) (n3 : Int) (jF : Int) : Option σ :=
  cond (decide ((0 : Int) < n3))
  ((cE sg (bB.mk jF (1125899906842624 : Int))).bind fun x2 =>
  some x2.1)
  (some sg)

noncomputable def kU {σ : Type} (cE : σ → bB → Option (σ × Bool)) (sg : σ) (n3 : Int) (jF : Int) (j6 : aF) (t7 : (List aF)) (t8 : Int) (t9 : Int) : Option ((σ × Int × Int × Int) ⊕ ((σ × Int × Int) ⊕ σ)) :=
  (zO (decide ((IntKind.i64.wrap (n3 + j6.Net)) = (0 : Int))) sg (cE sg (bB.mk jF j6.At))).bind fun (x10, x11) =>
  cond ((decide ((IntKind.i64.wrap (n3 + j6.Net)) = (0 : Int))) && (!x11))
  (some (.inr (.inr x10)))
  (some (.inl (x10, IntKind.i64.wrap (n3 + j6.Net), jF, IntKind.i64.wrap (t9 + (1 : Int)))))

noncomputable def fI {σ : Type} (cE : σ → bB → Option (σ × Bool)) (t7 : (List aF)) (t8 : Int) (sg : σ) (n3 : Int) (jF : Int) (t9 : Int) : Option ((σ × Int × Int × Int) ⊕ ((σ × Int × Int) ⊕ σ)) :=
  cond (decide (t9 < t8))
  (bF (0 ≤ t9 ∧ t9 < ((List.length t7 : Nat) : Int)) <|
  cond (decide (n3 = (0 : Int)))
  (kU cE sg n3 ((List.getD t7 (Int.toNat t9) default).At) (List.getD t7 (Int.toNat t9) default) t7 t8 t9)
  (kU cE sg n3 jF (List.getD t7 (Int.toNat t9) default) t7 t8 t9))
  (some (.inr (.inl (sg, n3, jF))))

noncomputable def oQ {σ : Type} (cE : σ → bB → Option (σ × Bool)) (sg : σ) (n3 : Int) (jF : Int) (t7 : (List aF)) (t8 : Int) (t9 : Int) : Option σ :=
  (lp (fun s => fI cE t7 t8 s.1 s.2.1 s.2.2.1 s.2.2.2) (sg, n3, jF, t9)).bind (Sum.elim (fun rr => lP cE rr.1 rr.2.1 rr.2.2) (fun rr => some rr))

noncomputable def nO {σ : Type} (cE : σ → bB → Option (σ × Bool)) (t1 : (List aF)) (sg0 : σ) : Option σ :=
  oQ cE sg0 (0 : Int) (0 : Int) t1 ((List.length t1 : Nat) : Int) (0 : Int)

noncomputable def rO (v5 : Int) : Option Int :=
  some v5

noncomputable def lV (t1 : Int) (t11 : (List aF)) (t12 : Int) (v5 : Int) (t13 : Int) : Option ((Int × Int) ⊕ (Int)) :=
  cond (decide (t13 < t12))
  (bF (0 ≤ t13 ∧ t13 < ((List.length t11 : Nat) : Int)) <|
  cond (decide (t1 < ((List.getD t11 (Int.toNat t13) default).At)))
  (some (.inr v5))
  (some (.inl (IntKind.i64.wrap (v5 + ((List.getD t11 (Int.toNat t13) default).Net)), IntKind.i64.wrap (t13 + (1 : Int))))))
  (some (.inr v5))

noncomputable def uX (t1 : Int) (v5 : Int) (t11 : (List aF)) (t12 : Int) (t13 : Int) : Option Int :=
  (lp (fun s => lV t1 t11 t12 s.1 s.2) (v5, t13)).bind (fun rr => rO rr)

noncomputable def uK (f0 : (List aF)) (t1 : Int) : Option Int :=
  (mR f0).bind fun x1 =>
  cond (!x1)
  (some (0 : Int))
  (uX t1 (0 : Int) f0 ((List.length f0 : Nat) : Int) (0 : Int))

noncomputable def rK (n5 : Int) : Option Int :=
  some n5

noncomputable def mT (w3 : bB) (n5 : Int) (t12 : (List aF)) (t13 : Int) (t14 : Int) : Option ((Int × Int) ⊕ (Int)) :=
  some (.inl (n5, IntKind.i64.wrap (t14 + (1 : Int))))

noncomputable def mV (w3 : bB) (t12 : (List aF)) (t13 : Int) (n5 : Int) (t14 : Int) : Option ((Int × Int) ⊕ (Int)) :=
  cond (decide (t14 < t13))
  (bF (0 ≤ t14 ∧ t14 < ((List.length t12 : Nat) : Int)) <|
  cond ((decide (w3.From < ((List.getD t12 (Int.toNat t14) default).At))) && (decide (((List.getD t12 (Int.toNat t14) default).At) < w3.To)))
  (mT w3 (IntKind.i64.wrap (n5 + (if (0 : Int) > ((List.getD t12 (Int.toNat t14) default).Net) then (0 : Int) else ((List.getD t12 (Int.toNat t14) default).Net)))) t12 t13 t14)
  (mT w3 n5 t12 t13 t14))
  (some (.inr n5))

noncomputable def rG (w3 : bB) (n5 : Int) (t12 : (List aF)) (t13 : Int) (t14 : Int) : Option Int :=
  (lp (fun s => mV w3 t12 t13 s.1 s.2) (n5, t14)).bind (fun rr => rK rr)

noncomputable def pG (f0 : (List aF)) (w1 : bB) : Option Int :=
  (uK f0 w1.From).bind fun x1 =>
  rG w1 x1 f0 ((List.length f0 : Nat) : Int) (0 : Int)

noncomputable def shP (a b : Nat) (p : aQ) : List (Nat × Nat × List V) := [(a, 3, [(.agg [(eI p.Span.From), (eI p.Span.To), (.msl 2 b 0 (List.length p.Rows))])]), (b, 2, List.map kS p.Rows)]

noncomputable def shF (a _b : Nat) (p : aQ) : List (Nat × Nat × List V) := [(a, 3, [(aU p)])]

noncomputable def mI (r : List aD) (f : List aF) (p : aQ) : Option aQ :=
  bF ((!(decide ((wR ((lN p.Rows) - (1 : Int))) < (0 : Int)))) = true → 0 ≤ (wR ((lN p.Rows) - (1 : Int))) ∧ (wR ((lN p.Rows) - (1 : Int))) < (lN p.Rows)) <|
  (dR (!(decide ((wR ((lN p.Rows) - (1 : Int))) < (0 : Int)))) (oW ((gD p.Rows (wR ((lN p.Rows) - (1 : Int)))).Row) r)).bind fun x1 =>
  cond ((decide ((wR ((lN p.Rows) - (1 : Int))) < (0 : Int))) || (!x1))
  ((rS r).bind fun x2 =>
  (pG f p.Span).bind fun x3 =>
  bF ((List.length p.Rows + List.length ([gW.mk x2 x3])) * 32 ≤ 140737488355328 ∧ List.length p.Rows + List.length ([gW.mk x2 x3]) ≤ 9223372036854775807) <|
  some (aQ.mk p.Span (p.Rows ++ [gW.mk x2 x3])))
  (some p)

noncomputable def lH (r : List aD) (f : List aF) (size : Int) (b : Bool) (m : List (Int × aQ)) (t : Int) : Option ((Bool × List (Int × aQ)) ⊕ (Bool × List (Int × aQ))) :=
  match eY m t with
  | none => cond (decide ((lN m) = (1024 : Int)))
    (some (.inr (false, m)))
    ((mI r f (aQ.mk (bB.mk t (if (1125899906842624 : Int) < (wR (t + size)) then (1125899906842624 : Int) else (wR (t + size)))) [])).bind fun p => some (.inl (b, gC m t p)))
  | some p => (mI r f p).bind fun p => some (.inl (b, gC m t p))

noncomputable def mG (r : List aD) (f : List aF) (size hop frm front : Int) (b : Bool) (m : List (Int × aQ)) (s : bB) : Option ((Bool × List (Int × aQ)) ⊕ (Bool × List (Int × aQ))) :=
  (oG size hop s frm front).bind fun x =>
  (lM (fun st t => rnd (fun (q : Bool × List (Int × aQ)) => lH r f size q.1 q.2 t) st) x.1 x.2.1 x.2.2.1 x.2.2.2.1 x.2.2.2.2 (.inl (b, m))).bind (Sum.elim (fun q => some (.inl q)) (fun q => some (.inr q)))

noncomputable def qQ (m : List (Int × aQ)) (r : List aD) (f : List aF) (size hop frm front : Int) : Option (Bool × List (Int × aQ)) :=
  (uA f).bind fun x =>
  (nO (fun st s => rnd (fun (q : Bool × List (Int × aQ)) => mG r f size hop frm front q.1 q.2 s) st) x (.inl (false, m))).bind (Sum.elim (fun q => some (true, q.2)) (fun q => some (q.1, q.2)))

noncomputable def lB (size hop frm front : Int) (t10 : List aQ) (t11 : Int) (m : List (Int × aQ)) (r : List aD) (f : List aF) : Option ((List aQ × Int × List (Int × aQ)) ⊕ (List aQ × Int × List (Int × aQ))) :=
  (qQ m r f size hop frm front).bind fun x =>
  cond (!x.1)
  (some (.inr ([], (7 : Int), x.2)))
  (some (.inl (t10, t11, x.2)))

noncomputable def oA (m : List (Int × aQ)) (b : List Int) (n : Int) (out : List aQ) (i : Int) : Option ((List aQ × Int) ⊕ (List aQ)) :=
  cond (decide (i < n))
  (bF (0 ≤ i ∧ i < (lN b)) <|
  match eY m (gD b i) with
  | none => none
  | some p =>
    bF ((List.length out + List.length ([p])) * 40 ≤ 140737488355328 ∧ List.length out + List.length ([p]) ≤ 9223372036854775807) <|
    some (.inl (out ++ [p], wR (i + (1 : Int)))))
  (some (.inr out))

noncomputable def wE (m : List (Int × aQ)) (b : List Int) : Option (List aQ × Int) :=
  (jS b).bind fun b =>
  bF (0 ≤ (lN b) ∧ (40 : Int) * (lN b) ≤ 281474976710656 ∧ (lN b) ≤ 9223372036854775807) <|
  (lp (fun s => oA m b (lN b) s.1 s.2) (([] : List aQ), (0 : Int))).bind fun out => some (out, (0 : Int))

noncomputable def nU (s : List Int) (k : Int) : Option (List Int) :=
  bF ((List.length s + List.length ([k])) * 8 ≤ 140737488355328 ∧ List.length s + List.length ([k]) ≤ 9223372036854775807) <|
  some (s ++ [k])

noncomputable def qV (m : List (Int × aQ)) : Option (List aQ × Int) :=
  bF (0 ≤ (lN m) ∧ (8 : Int) * (lN m) ≤ 281474976710656 ∧ (lN m) ≤ 9223372036854775807) <|
  rC (m.map (·.1)) (fun q => (dA nU ([] : List Int) q).bind (wE m))

noncomputable def wB (l : List bE) (size hop frm front : Int) (t10 : List aQ) (t11 : Int) : Option (List aQ × Int) :=
  (sO l).bind fun x =>
  (mL (fun st r f => rnd (fun (q : List aQ × Int × List (Int × aQ)) => lB size hop frm front q.1 q.2.1 q.2.2 r f) st) x (.inl (t10, t11, []))).bind (Sum.elim (fun q => qV q.2.2) (fun q => some (q.1, q.2.1)))

noncomputable def sK (l0 : (List bE)) (nJ : Int) (hop2 : Int) (gZ : Int) (eS : Int) : Option ((List aQ) × Int) :=
  (oM nJ hop2).bind fun x3 =>
  (dR (!(!x3)) (rM l0)).bind fun x6 =>
  cond ((!x3) || (!x6))
  (some ([], (2 : Int)))
  ((rB l0).bind fun x10 =>
  cond (!x10)
  (some ([], (20 : Int)))
  ((lX gZ).bind fun x14 =>
  (dR (!(!x14)) (lX eS)).bind fun x17 =>
  cond ((!x14) || (!x17))
  (some ([], (13 : Int)))
  (wB l0 nJ hop2 gZ eS ([]) 0)))

noncomputable def oE  : Option Bool :=
  (oP (10 : Int) (5 : Int) (12 : Int)).bind fun x1 =>
  (qR (10 : Int) (5 : Int) (bB.mk (3 : Int) (7 : Int)) (0 : Int) (100 : Int)).bind fun x4 =>
  (sK ([bE.mk ([aD.mk (1 : Int) (1 : Int) ByteArray.empty]) (3 : Int) (1 : Int), bE.mk ([aD.mk (1 : Int) (1 : Int) ByteArray.empty]) (7 : Int) (-1 : Int)]) (10 : Int) (5 : Int) (0 : Int) (100 : Int)).bind fun x7 =>
  bF (((((((decide (x1.1 = (5 : Int))) && (decide (x1.2 = (0 : Int)))) && (decide (x4.2 = (0 : Int)))) && (decide (((List.length x4.1 : Nat) : Int) = (2 : Int))))) = true → 0 ≤ (1 : Int) ∧ (1 : Int) < ((List.length x4.1 : Nat) : Int))) <|
  bF ((((((((((decide (x1.1 = (5 : Int))) && (decide (x1.2 = (0 : Int)))) && (decide (x4.2 = (0 : Int)))) && (decide (((List.length x4.1 : Nat) : Int) = (2 : Int)))) && (decide ((List.getD x4.1 (Int.toNat (1 : Int)) default) = (5 : Int)))) && (decide (x7.2 = (0 : Int)))) && (decide (((List.length x7.1 : Nat) : Int) = (2 : Int))))) = true → 0 ≤ (1 : Int) ∧ (1 : Int) < ((List.length x7.1 : Nat) : Int))) <|
  bF (((((((((((decide (x1.1 = (5 : Int))) && (decide (x1.2 = (0 : Int)))) && (decide (x4.2 = (0 : Int)))) && (decide (((List.length x4.1 : Nat) : Int) = (2 : Int)))) && (decide ((List.getD x4.1 (Int.toNat (1 : Int)) default) = (5 : Int)))) && (decide (x7.2 = (0 : Int)))) && (decide (((List.length x7.1 : Nat) : Int) = (2 : Int)))) && ((decide ((((List.getD x7.1 (Int.toNat (1 : Int)) default).Span).From) = ((bB.mk (5 : Int) (15 : Int)).From))) && ((decide ((((List.getD x7.1 (Int.toNat (1 : Int)) default).Span).To) = ((bB.mk (5 : Int) (15 : Int)).To))) && true)))) = true → 0 ≤ (1 : Int) ∧ (1 : Int) < ((List.length x7.1 : Nat) : Int))) <|
  some (((((((((decide (x1.1 = (5 : Int))) && (decide (x1.2 = (0 : Int)))) && (decide (x4.2 = (0 : Int)))) && (decide (((List.length x4.1 : Nat) : Int) = (2 : Int)))) && (decide ((List.getD x4.1 (Int.toNat (1 : Int)) default) = (5 : Int)))) && (decide (x7.2 = (0 : Int)))) && (decide (((List.length x7.1 : Nat) : Int) = (2 : Int)))) && ((decide ((((List.getD x7.1 (Int.toNat (1 : Int)) default).Span).From) = ((bB.mk (5 : Int) (15 : Int)).From))) && ((decide ((((List.getD x7.1 (Int.toNat (1 : Int)) default).Span).To) = ((bB.mk (5 : Int) (15 : Int)).To))) && true))) && (decide (((List.length ((List.getD x7.1 (Int.toNat (1 : Int)) default).Rows) : Nat) : Int) = (1 : Int))))

noncomputable def qH (eD : Int) (uB : Int) (t2 : Int) (u3 : Int) : Option Bool :=
  (oP eD uB t2).bind fun x1 =>
  (oP eD uB u3).bind fun x4 =>
  cond ((!decide (x1.2 = (0 : Int))) || (!decide (x4.2 = (0 : Int))))
  ((oE ).bind fun x8 =>
  some x8)
  (cond (((decide (x1.1 ≤ (IntKind.i64.wrap (t2 - eD)))) || ((decide (uB ≤ eD)) && (decide (t2 < x1.1)))) || ((decide (t2 ≤ u3)) && (decide (x4.1 < x1.1))))
  (some false)
  ((oE ).bind fun x12 =>
  some ((x12 && (decide ((0 : Int) ≤ x1.1))) && (decide (x1.1 ≤ (1125899906842624 : Int))))))

end Go.Abs
namespace Go.Abs
open Go Go.RowKit Go.Proofs
noncomputable def tt : TT := ⟨OR Try.prog, JF Try.prog⟩

theorem aC : fO Try.prog tt := fO.of Try.prog

theorem AF (eD : Int) (hop1 : Int) (r : Bool) (h0 : oM eD hop1 = some r) : dZ Try.prog 24 [(eI eD), (eI hop1)] (aB r) := by
  intro H0
  refine dV Try.func24 ?_
  have hO := aJ.start H0
  unfold oM at h0
  refine aS aC 1 [] [] ?_
  refine cO aC 15 [(4, (aB ((((decide ((1 : Int) ≤ eD)) && (decide (eD ≤ (1099511627776 : Int)))) && (decide ((1 : Int) ≤ hop1))) && (decide (hop1 ≤ (1099511627776 : Int))))))] ?_
  refine bL ?_
  obtain rfl := oI h0
  exact aG (Q_r hO)

theorem tL (t0 : Int) (r : Bool) (h0 : lX t0 = some r) : dZ Try.prog 25 [(eI t0)] (aB r) := by
  intro H0
  refine dV Try.func25 ?_
  have hO := aJ.start H0
  unfold lX at h0
  refine aS aC 1 [] [] ?_
  refine cO aC 7 [(2, (aB ((decide ((0 : Int) ≤ t0)) && (decide (t0 ≤ (1125899906842624 : Int))))))] ?_
  refine bL ?_
  obtain rfl := oI h0
  exact aG (Q_r hO)

theorem LV (a0 : Int) (b1 : Int) (r : (Int × Int × Int)) (h0 : sH a0 b1 = some r) : dZ Try.prog 53 [(eI a0), (eI b1)] (.tup [(eI r.1), (eI r.2.1), (eI r.2.2)]) := by
  intro H0
  refine dV Try.func53 ?_
  have hO := aJ.start H0
  unfold sH at h0
  refine aS aC 3 [] [] ?_
  refine aN ?_
  refine aS aC 2 [] [(10, (aB (decide (b1 < (1 : Int)))))] ?_
  refine bR h0 (fun h0 => ?_) (fun h0 => ?_)
  · refine cO aC 3 [(4, (eI (0 : Int))), (5, (eI (0 : Int))), (6, (eI (2 : Int)))] ?_
    refine bL ?_
    obtain rfl := oI h0
    exact aG (aR (Q_r hO))
  refine bS ?_
  refine bD [(0, (eI a0)), (1, (eI b1))] ?_
  refine aN ?_
  refine gU (gV []) aC 8 ?_
  obtain ⟨c2, h0⟩ := aY h0
  obtain ⟨c3, h0⟩ := aY h0
  refine IJ (Ds := [b1 ≠ 0, b1 ≠ 0]) (by kernel_rfl) ⟨c2, c3, trivial⟩ ?_
  refine cD [0] [(7, (eI (wR (Int.tdiv a0 b1)))), (8, (eI (Int.tmod a0 b1)))] ?_
  refine jD (fun T H => ∃ q7 : Int, ∃ r8 : Int, Has T [(7, (eI q7)), (8, (eI r8))] ∧ aJ ⟨H0, [], []⟩ H [] ∧ qX q7 r8 = some r) ?_ ?_
  · clear hO h0
    rintro T H ⟨q7, r8, hT, hO, h0⟩
    refine bM hT ?_
    clear hT
    unfold qX at h0
    refine cO aC 5 [(4, (eI q7)), (5, (eI r8)), (6, (eI (0 : Int)))] ?_
    refine bL ?_
    obtain rfl := oI h0
    exact aG (Q_r hO)
  refine aS aC 2 [] [(18, (aB (decide ((Int.tmod a0 b1) < (0 : Int)))))] ?_
  refine bR h0 (fun h0 => ?_) (fun h0 => ?_)
  · refine aP aC 7 ?_
    refine bC ?_
    exact aG (aH (⟨rfl, _, _, .eq (by kernel_rfl), hO, h0⟩))
  refine bS ?_
  exact aG (aH (⟨rfl, _, _, .eq (by kernel_rfl), hO, h0⟩))

theorem vP (hop0 : Int) (n1 : Int) (r : Int) (h0 : mZ hop0 n1 = some r) : dZ Try.prog 26 [(eI hop0), (eI n1)] (eI r) := by
  intro H0
  refine dV Try.func26 ?_
  have hO := aJ.start H0
  unfold mZ at h0
  refine aS aC 1 [] [] ?_
  refine aN ?_
  refine aS aC 2 [] [(9, (aB (decide (n1 < (0 : Int)))))] ?_
  refine bR h0 (fun h0 => ?_) (fun h0 => ?_)
  · refine cO aC 1 [(4, (eI (0 : Int)))] ?_
    refine bL ?_
    obtain rfl := oI h0
    exact aG (aR (Q_r hO))
  refine bS ?_
  refine bD [(0, (eI hop0)), (1, (eI n1))] ?_
  refine aN ?_
  refine aP aC 10 ?_
  refine bN 2 ?_
  obtain ⟨x2, hx3, h0⟩ := aT h0
  refine fB (LV n1 hop0 _ hx3) hO ?_
  intro H hO
  refine bC ?_
  refine cD [1] [(5, (eI x2.1))] ?_
  refine cO aC 5 [(4, (eI (wR ((wR (x2.1 + (1 : Int))) * hop0))))] ?_
  refine bL ?_
  obtain rfl := oI h0
  exact aG (Q_r hO)

theorem yF (eD : Int) (hop1 : Int) (t2 : Int) (r : (Int × Int)) (h0 : oP eD hop1 t2 = some r) : dZ Try.prog 9 [(eI eD), (eI hop1), (eI t2)] (.tup [(eI r.1), (eI r.2)]) := by
  intro H0
  refine dV Try.func9 ?_
  have hO := aJ.start H0
  unfold oP at h0
  refine aS aC 2 [] [] ?_
  refine aN ?_
  refine cG 0 ?_
  refine aN ?_
  refine aP aC 5 ?_
  refine bN 2 ?_
  obtain ⟨x1, hx2, h0⟩ := aT h0
  refine fB (AF eD hop1 _ hx2) hO ?_
  intro H hO
  refine bC ?_
  refine cD [] [(8, (aB (!x1)))] ?_
  refine bR h0 (fun h0 => ?_) (fun h0 => ?_)
  · refine cO aC 2 [(6, (eI (0 : Int))), (7, (eI (2 : Int)))] ?_
    refine bL ?_
    obtain rfl := oI h0
    exact aG (bJ (aR (Q_r hO)))
  refine aN ?_
  refine aP aC 4 ?_
  refine bN 1 ?_
  obtain ⟨x5, hx6, h0⟩ := aT h0
  refine fB (tL t2 _ hx6) hO ?_
  intro H hO
  refine bC ?_
  refine cD [8] [(13, (aB (!x5)))] ?_
  refine bR h0 (fun h0 => ?_) (fun h0 => ?_)
  · refine cO aC 2 [(6, (eI (0 : Int))), (7, (eI (13 : Int)))] ?_
    refine bL ?_
    obtain rfl := oI h0
    exact aG (bJ (aR (Q_r hO)))
  refine aS aC 3 [13] [(17, (aB (decide (t2 = (1125899906842624 : Int)))))] ?_
  refine bR h0 (fun h0 => ?_) (fun h0 => ?_)
  · refine cO aC 2 [(6, (eI (1125899906842624 : Int))), (7, (eI (0 : Int)))] ?_
    refine bL ?_
    obtain rfl := oI h0
    exact aG (bJ (aR (Q_r hO)))
  refine bS ?_
  refine iM [(0, (eI eD)), (1, (eI hop1)), (2, (eI t2))] ?_
  refine aG (aV (aH (?_)))
  refine aN ?_
  refine aP aC 8 ?_
  refine bN 4 ?_
  obtain ⟨x10, hx11, h0⟩ := aT h0
  refine fB (vP hop1 (wR (t2 - eD)) _ hx11) hO ?_
  intro H hO
  refine bC ?_
  refine bD [(6, (eI (if (1125899906842624 : Int) < x10 then (1125899906842624 : Int) else x10))), (7, (eI (0 : Int)))] ?_
  refine bL ?_
  obtain rfl := oI h0
  exact aG (Q_r hO)

theorem zE (eD : Int) (hop1 : Int) (s2 : bB) (gZ : Int) (eS : Int) (r : (Int × bB × Int × Int × Int)) (h0 : oG eD hop1 s2 gZ eS = some r) : dZ Try.prog 30 [(eI eD), (eI hop1), (bV s2), (eI gZ), (eI eS)] (.fn (.func 54) [] [(.rp (eI r.1)), (.rp (bV r.2.1)), (.rp (eI r.2.2.1)), (.rp (eI r.2.2.2.1)), (.rp (eI r.2.2.2.2))]) := by
  intro H0
  refine dV Try.func30 ?_
  have hO := aJ.start H0
  unfold oG at h0
  refine aN ?_
  refine aP aC 6 ?_
  refine gM 1 (eI eD) (by kernel_rfl) (by kernel_rfl) ?_
  refine gM 1 (eI hop1) (by kernel_rfl) (by kernel_rfl) ?_
  refine gM 2 (bV s2) (by kernel_rfl) (by kernel_rfl) ?_
  refine gM 1 (eI gZ) (by kernel_rfl) (by kernel_rfl) ?_
  refine gM 1 (eI eS) (by kernel_rfl) (by kernel_rfl) ?_
  refine bC ?_
  refine bD [(5, (.rp (eI eD))), (6, (.rp (eI hop1))), (7, (.rp (bV s2))), (8, (.rp (eI gZ))), (9, (.rp (eI eS)))] ?_
  refine cO aC 2 [(10, (.fn (.func 54) [] [(.rp (eI hop1)), (.rp (bV s2)), (.rp (eI eD)), (.rp (eI gZ)), (.rp (eI eS))]))] ?_
  refine bL ?_
  obtain rfl := oI h0
  exact aG (lC (x := (.fn (.func 54) [] [(.rp (eI hop1)), (.rp (bV s2)), (.rp (eI eD)), (.rp (eI gZ)), (.rp (eI eS))])) (by kernel_rfl) (aL.refl _) ⟨rfl, hO.out⟩)

theorem wI {σ : Type} (I : σ → Gs → Prop) (yield0_b : Nat) (cE : σ → Int → Option (σ × Bool)) (yield0_h : ∀ st a0 st2 r, cE st a0 = some (st2, r) → vA Try.prog (yv yield0_b) I st [(eI a0)] st2 (aB r)) (t1 : Int) (t2 : bB) (t3 : Int) (t4 : Int) (t5 : Int) (sg0 : σ) (r : σ) (h0 : lM cE t1 t2 t3 t4 t5 sg0 = some r) : sM Try.prog 54 I sg0 [(yv yield0_b), (.rp (eI t1)), (.rp (bV t2)), (.rp (eI t3)), (.rp (eI t4)), (.rp (eI t5))] r (.tup []) := by
  intro H0 G0 hI hg
  refine dV Try.func54 ?_
  obtain ⟨G, hO, hI⟩ : ∃ G, aJ ⟨H0, List.map (fun p : Nat × cR => p.1) G0, G⟩ H0 [] ∧ I sg0 G := ⟨G0, aJ.xU hg, hI⟩
  clear hg
  unfold lM at h0
  refine aN ?_
  refine gU (gV [9, 11, 12, 14, 15, 16, 18]) aC 12 ?_
  refine lI 5 ?_
  obtain ⟨x1, hx2, h0⟩ := aT h0
  refine xB (vP t1 (wR (t2.From - t3)) _ hx2) hO ?_
  intro H hO
  refine lI 9 ?_
  obtain ⟨x4, hx5, h0⟩ := aT h0
  refine xB (vP t1 (wR (t4 - (1 : Int))) _ hx5) hO ?_
  intro H hO
  refine kX ?_
  refine cD [3, 4] [(7, (eI (if x4 > x1 then x4 else x1)))] ?_
  refine aS aC 2 [7] [(8, (eI (if x4 > x1 then x4 else x1)))] ?_
  refine cG 0 ?_
  refine iC [(0, (yv yield0_b)), (1, (.rp (eI t1))), (2, (.rp (bV t2))), (5, (.rp (eI t5))), (8, (eI (if x4 > x1 then x4 else x1)))] ?_
  refine iF (fun T H => ∃ sg : σ, ∃ t8 : Int, ∃ G : Gs, Has T [(0, (yv yield0_b)), (1, (.rp (eI t1))), (2, (.rp (bV t2))), (5, (.rp (eI t5))), (8, (eI t8))] ∧ aJ ⟨H0, List.map (fun p : Nat × cR => p.1) G0, G⟩ H [] ∧ I sg G ∧ mN cE sg t1 t2 t5 t8 = some r) ?_ ⟨sg0, if x4 > x1 then x4 else x1, G, .eq (by kernel_rfl), hO, hI, h0⟩
  clear hO hI h0
  rintro T H ⟨sg, t8, G, hT, hO, hI, h0⟩
  refine bM hT ?_
  clear hT
  unfold mN at h0
  obtain ⟨rr0, hl0, h0⟩ := aT h0
  refine eP (by kernel_rfl) (fun (s : σ × Int) T H => ∃ G : Gs, Has T [(0, (yv yield0_b)), (1, (.rp (eI t1))), (2, (.rp (bV t2))), (5, (.rp (eI t5))), (8, (eI s.2))] ∧ aJ ⟨H0, List.map (fun p : Nat × cR => p.1) G0, G⟩ H [] ∧ I s.1 G) hl0 ⟨G, .eq (by kernel_rfl), hO, hI⟩ ?_
  clear hO hI
  rintro k0 s out1 T H ⟨G, hT, hO, hI⟩ h1 ho0
  obtain ⟨sg, t8⟩ := s
  replace h1 : iR cE t1 t2 t5 sg t8 = some out1 := h1
  try dsimp only at hT
  refine bM hT ?_
  clear hT
  unfold iR at h1
  refine aN ?_
  refine aS aC 6 [] [(26, (aB (decide (t8 < (if (1125899906842624 : Int) < (if t5 < t2.To then t5 else t2.To) then (1125899906842624 : Int) else (if t5 < t2.To then t5 else t2.To))))))] ?_
  refine bR h1 (fun h1 => ?_) (fun h1 => ?_)
  · refine bS ?_
    refine bD [(0, (yv yield0_b)), (1, (.rp (eI t1))), (2, (.rp (bV t2))), (5, (.rp (eI t5))), (8, (eI t8))] ?_
    refine aN ?_
    refine cG 1 ?_
    refine aN ?_
    refine aP aC 4 ?_
    refine bN 2 ?_
    obtain ⟨x8, hx9, h1⟩ := aT h1
    refine BD (I := I) (yv yield0_b) [(eI t8)] (aB x8.2) (by kernel_rfl) (by kernel_rfl) (yield0_h _ t8 x8.1 x8.2 hx9) hO hI ?_
    intro G H hO hI
    refine bC ?_
    refine cD [] [(33, (aB (!x8.2)))] ?_
    refine bR h1 (fun h1 => ?_) (fun h1 => ?_)
    · refine bL ?_
      obtain rfl := oI h1
      obtain rfl : _ = rr0 := ho0
      replace h0 : some x8.1 = some r := h0
      obtain rfl := oI h0
      exact aG (bJ (aR (aR (bJ (lC (x := (.tup [])) (by kernel_rfl) (aL.refl _) ⟨rfl, G, hI, hO.tU⟩)))))
    refine bS ?_
    refine iM [(0, (yv yield0_b)), (1, (.rp (eI t1))), (2, (.rp (bV t2))), (5, (.rp (eI t5))), (8, (eI t8))] ?_
    refine aG (aV (aH (?_)))
    refine aP aC 4 ?_
    refine bC ?_
    exact aG (aH (⟨rfl, _, (oI h1).symm, _, .eq (by kernel_rfl), hO, hI⟩))
  refine jP 0 ?_
  obtain rfl := oI h1
  obtain rfl : _ = rr0 := ho0
  replace h0 : some sg = some r := h0
  obtain rfl := oI h0
  exact aG (aW (aW (cI (tI (x := (.tup [])) (by kernel_rfl) (aL.refl _) ⟨rfl, G, hI, hO.tU⟩))))

theorem KJ (eD : Int) (hop1 : Int) (s2 : bB) (gZ : Int) (eS : Int) (r : ((List Int) × Int)) (h0 : qR eD hop1 s2 gZ eS = some r) : dZ Try.prog 12 [(eI eD), (eI hop1), (bV s2), (eI gZ), (eI eS)] (.tup [(eL (eI) r.1), (eI r.2)]) := by
  intro H0
  refine xN aC Try.func12 (by kernel_rfl) (by kernel_rfl) (by kernel_rfl) ?_
  have hO := aJ.start H0
  unfold qR at h0
  refine aN ?_
  refine aP aC 3 ?_
  refine gM 2 (bV s2) (by kernel_rfl) (by kernel_rfl) ?_
  refine yM 1 (.sl true 0 (fun _ => .bad)) (eL (eI) ([])) (by kernel_rfl) (by kernel_rfl) (by kernel_rfl) (nE) (by kernel_rfl) (by kernel_rfl) hO ?_
  intro lo1 H hO
  refine kI 1 (eI 0) (by kernel_rfl) (by kernel_rfl) hO ?_
  intro lo2 H hO
  refine dQ ?_
  refine cD [2] [(7, (.rp (bV s2))), (10, (.lp lo1 0 0)), (11, (.lp lo2 0 0))] ?_
  refine aN ?_
  refine cG 0 ?_
  refine aN ?_
  refine aP aC 5 ?_
  refine bN 2 ?_
  obtain ⟨x3, hx4, h0⟩ := aT h0
  refine fB (AF eD hop1 _ hx4) hO ?_
  intro H hO
  refine bC ?_
  refine cD [] [(14, (aB (!x3)))] ?_
  refine bR h0 (fun h0 => ?_) (fun h0 => ?_)
  · refine aN ?_
    refine aP aC 2 ?_
    refine iT 0 lo1 1 0 (eL (eI) ([])) (.sl true 0 (fun _ => .bad)) [(eL (eI) ([]))] [(lo1, 1, [(.sl true 0 (fun _ => .bad))]), (lo2, 1, [(eI 0)])] hO rfl (by kernel_rfl) ?_
    intro H hO
    refine iT 1 lo2 1 0 (eI 0) (eI (2 : Int)) [(eI 0)] [(lo1, 1, [(.sl true 0 (fun _ => .bad))]), (lo2, 1, [(eI (2 : Int))])] hO rfl (by kernel_rfl) ?_
    intro H hO
    refine dQ ?_
    refine qN 0 lo1 1 (.sl true 0 (fun _ => .bad)) (eL (eI) ([])) [(lo1, 1, [(eL (eI) ([]))]), (lo2, 1, [(eI (2 : Int))])] hO (by kernel_rfl) (by kernel_rfl) nE (by kernel_rfl) ?_
    intro H hO
    refine bD [(10, (.lp lo1 0 0)), (11, (.lp lo2 0 0))] ?_
    refine bL ?_
    obtain rfl := oI h0
    exact aG (bJ (aR (QM0 (.inr rfl) (rs := [.cell 10 30, .cell 11 22]) (xs := [(eL (eI) ([])), (eI (2 : Int))]) (x := (.tup [(eL (eI) ([])), (eI (2 : Int))])) (by kernel_rfl) (gX (lo := lo1) (k := 1) (y := (eL (eI) ([]))) (x := (eL (eI) ([]))) 0 hO (by kernel_rfl) (by kernel_rfl) (by kernel_rfl) (by kernel_rfl) (gX (lo := lo2) (k := 1) (y := (eI (2 : Int))) (x := (eI (2 : Int))) 1 hO (by kernel_rfl) (by kernel_rfl) (by kernel_rfl) (by kernel_rfl) lK)) (by kernel_rfl) ⟨rfl, hO.out⟩)))
  refine aN ?_
  refine aP aC 9 ?_
  refine bN 1 ?_
  obtain ⟨x7, hx8, h0⟩ := aT h0
  refine fB (tL gZ _ hx8) hO ?_
  intro H hO
  refine bN 5 ?_
  obtain ⟨x10, hx11, h0⟩ := aT h0
  refine nF [(23, false)] 25 [(eI eS)] (aB x10) (!(!x7)) (by kernel_rfl) (by kernel_rfl) (by kernel_rfl) (fun hb12 => (tL eS _ (kO hx11 hb12))) hO ?_
  intro H hO
  refine bC ?_
  refine cD [14] [(19, (aB ((!x7) || (!x10))))] ?_
  refine bR h0 (fun h0 => ?_) (fun h0 => ?_)
  · refine aN ?_
    refine aP aC 2 ?_
    refine iT 0 lo1 1 0 (eL (eI) ([])) (.sl true 0 (fun _ => .bad)) [(eL (eI) ([]))] [(lo1, 1, [(.sl true 0 (fun _ => .bad))]), (lo2, 1, [(eI 0)])] hO rfl (by kernel_rfl) ?_
    intro H hO
    refine iT 1 lo2 1 0 (eI 0) (eI (13 : Int)) [(eI 0)] [(lo1, 1, [(.sl true 0 (fun _ => .bad))]), (lo2, 1, [(eI (13 : Int))])] hO rfl (by kernel_rfl) ?_
    intro H hO
    refine dQ ?_
    refine qN 0 lo1 1 (.sl true 0 (fun _ => .bad)) (eL (eI) ([])) [(lo1, 1, [(eL (eI) ([]))]), (lo2, 1, [(eI (13 : Int))])] hO (by kernel_rfl) (by kernel_rfl) nE (by kernel_rfl) ?_
    intro H hO
    refine bD [(10, (.lp lo1 0 0)), (11, (.lp lo2 0 0))] ?_
    refine bL ?_
    obtain rfl := oI h0
    exact aG (bJ (aR (QM0 (.inr rfl) (rs := [.cell 10 30, .cell 11 22]) (xs := [(eL (eI) ([])), (eI (13 : Int))]) (x := (.tup [(eL (eI) ([])), (eI (13 : Int))])) (by kernel_rfl) (gX (lo := lo1) (k := 1) (y := (eL (eI) ([]))) (x := (eL (eI) ([]))) 0 hO (by kernel_rfl) (by kernel_rfl) (by kernel_rfl) (by kernel_rfl) (gX (lo := lo2) (k := 1) (y := (eI (13 : Int))) (x := (eI (13 : Int))) 1 hO (by kernel_rfl) (by kernel_rfl) (by kernel_rfl) (by kernel_rfl) lK)) (by kernel_rfl) ⟨rfl, hO.out⟩)))
  refine aS aC 16 [19] [(28, (aB (((decide (s2.From < (-1 : Int))) || (decide (s2.To ≤ s2.From))) || (decide ((1125899906842624 : Int) < s2.To)))))] ?_
  refine bR h0 (fun h0 => ?_) (fun h0 => ?_)
  · refine aN ?_
    refine aP aC 2 ?_
    refine iT 0 lo1 1 0 (eL (eI) ([])) (.sl true 0 (fun _ => .bad)) [(eL (eI) ([]))] [(lo1, 1, [(.sl true 0 (fun _ => .bad))]), (lo2, 1, [(eI 0)])] hO rfl (by kernel_rfl) ?_
    intro H hO
    refine iT 1 lo2 1 0 (eI 0) (eI (14 : Int)) [(eI 0)] [(lo1, 1, [(.sl true 0 (fun _ => .bad))]), (lo2, 1, [(eI (14 : Int))])] hO rfl (by kernel_rfl) ?_
    intro H hO
    refine dQ ?_
    refine qN 0 lo1 1 (.sl true 0 (fun _ => .bad)) (eL (eI) ([])) [(lo1, 1, [(eL (eI) ([]))]), (lo2, 1, [(eI (14 : Int))])] hO (by kernel_rfl) (by kernel_rfl) nE (by kernel_rfl) ?_
    intro H hO
    refine bD [(10, (.lp lo1 0 0)), (11, (.lp lo2 0 0))] ?_
    refine bL ?_
    obtain rfl := oI h0
    exact aG (bJ (aR (QM0 (.inr rfl) (rs := [.cell 10 30, .cell 11 22]) (xs := [(eL (eI) ([])), (eI (14 : Int))]) (x := (.tup [(eL (eI) ([])), (eI (14 : Int))])) (by kernel_rfl) (gX (lo := lo1) (k := 1) (y := (eL (eI) ([]))) (x := (eL (eI) ([]))) 0 hO (by kernel_rfl) (by kernel_rfl) (by kernel_rfl) (by kernel_rfl) (gX (lo := lo2) (k := 1) (y := (eI (14 : Int))) (x := (eI (14 : Int))) 1 hO (by kernel_rfl) (by kernel_rfl) (by kernel_rfl) (by kernel_rfl) lK)) (by kernel_rfl) ⟨rfl, hO.out⟩)))
  refine bS ?_
  refine iM [(0, (eI eD)), (1, (eI hop1)), (3, (eI gZ)), (4, (eI eS)), (7, (.rp (bV s2))), (10, (.lp lo1 0 0)), (11, (.lp lo2 0 0))] ?_
  refine aG (aV (aH (?_)))
  refine aN ?_
  refine aP aC 3 ?_
  refine wQ (xs := []) (k := 1) (by kernel_rfl) (by kernel_rfl) ?_
  refine yM 1 (.sl true 0 (fun _ => .bad)) (eL (eI) ([])) (by kernel_rfl) (by kernel_rfl) (by kernel_rfl) (nE) (by kernel_rfl) (by kernel_rfl) hO ?_
  intro lo15 H hO
  refine YB 44 1 (fun _ => .bad) (by kernel_rfl) hO (by kernel_rfl) ?_
  intro lo16 H hO
  refine iT 2 lo15 1 0 (eL (eI) ([])) (.msl 1 lo16 0 (List.length ([] : List Int))) [(eL (eI) ([]))] [(lo1, 1, [(eL (eI) ([]))]), (lo2, 1, [(eI 0)]), (lo15, 1, [(.msl 1 lo16 0 (List.length ([] : List Int)))]), (lo16, 1, List.map (eI) ([] : List Int))] hO rfl (by kernel_rfl) ?_
  intro H hO
  refine dQ ?_
  refine cD [] [(12, (.lp lo15 0 0))] ?_
  refine aN ?_
  refine aN ?_
  refine aP aC 6 ?_
  refine bN 5 ?_
  obtain ⟨x17, hx18, h0⟩ := aT h0
  refine fB (zE eD hop1 s2 gZ eS _ hx18) hO ?_
  intro H hO
  refine dQ ?_
  refine cD [0, 1, 3, 4, 7] [(50, (.fn (.func 54) [] [(.rp (eI x17.1)), (.rp (bV x17.2.1)), (.rp (eI x17.2.2.1)), (.rp (eI x17.2.2.2.1)), (.rp (eI x17.2.2.2.2))]))] ?_
  refine cG 1 ?_
  refine iC [(10, (.lp lo1 0 0)), (11, (.lp lo2 0 0)), (12, (.lp lo15 0 0)), (50, (.fn (.func 54) [] [(.rp (eI x17.1)), (.rp (bV x17.2.1)), (.rp (eI x17.2.2.1)), (.rp (eI x17.2.2.2.1)), (.rp (eI x17.2.2.2.2))]))] ?_
  refine iF (fun T H => ∃ t10 : (List Int), ∃ t11 : Int, ∃ gR : List Int, ∃ rL : Int, ∃ rN : bB, ∃ rQ : Int, ∃ rP : Int, ∃ rJ : Int, ∃ lo19 : Nat, Has T [(10, (.lp lo1 0 0)), (11, (.lp lo2 0 0)), (12, (.lp lo15 0 0)), (50, (.fn (.func 54) [] [(.rp (eI rL)), (.rp (bV rN)), (.rp (eI rQ)), (.rp (eI rP)), (.rp (eI rJ))]))] ∧ aJ ⟨H0, [], []⟩ H [(lo1, 1, [(eL (eI) t10)]), (lo2, 1, [(eI t11)]), (lo15, 1, [(.msl 1 lo19 0 (List.length gR))]), (lo19, 1, List.map (eI) gR)] ∧ sP t10 t11 gR rL rN rQ rP rJ = some r) ?_ ⟨[], 0, ([] : List Int), x17.1, x17.2.1, x17.2.2.1, x17.2.2.2.1, x17.2.2.2.2, lo16, .eq (by kernel_rfl), hO, h0⟩
  clear hO h0
  rintro T H ⟨t10, t11, gR, rL, rN, rQ, rP, rJ, lo19, hT, hO, h0⟩
  refine bM (l := [(10, (.lp lo1 0 0)), (11, (.lp lo2 0 0)), (12, (.lp lo15 0 0)), (50, (.fn (.func 54) [] [(.rp (eI rL)), (.rp (bV rN)), (.rp (eI rQ)), (.rp (eI rP)), (.rp (eI rJ))]))]) hT ?_
  clear hT
  unfold sP at h0
  obtain ⟨o0, hl0, h0⟩ := aT h0
  refine wJ (fid := 54) (ys := []) (cs := [(.rp (eI rL)), (.rp (bV rN)), (.rp (eI rQ)), (.rp (eI rP)), (.rp (eI rJ))]) #[51] (fun (A : qI) (b lL : Nat) (st : ((List Int) × Int × List Int) ⊕ ((List Int) × Int × List Int)) (G' : Gs) => Sum.elim (fun (s : (List Int) × Int × List Int) => ∃ lo19 : Nat, G' = (lL, .raw (fR b A .ready none)) :: (up [(lo1, 1, [(eL (eI) s.1)]), (lo2, 1, [(eI s.2.1)]), (lo15, 1, [(.msl 1 lo19 0 (List.length s.2.2))]), (lo19, 1, List.map (eI) s.2.2)] ++ [])) (fun (s : (List Int) × Int × List Int) => ∃ lo19 : Nat, G' = (lL, .raw (fR b A .done (some .ret))) :: (up [(lo1, 1, [(eL (eI) s.1)]), (lo2, 1, [(eI s.2.1)]), (lo15, 1, [(.msl 1 lo19 0 (List.length s.2.2))]), (lo19, 1, List.map (eI) s.2.2)] ++ [])) st) (.inl (t10, t11, gR)) o0 (.tup []) (by kernel_rfl) (by kernel_rfl) (by kernel_rfl) hO (fun _ _ => ⟨lo19, rfl⟩) ?_ ?_
  · intro b lL
    clear hO h0
    refine wI _ b (fun st t51 => rnd (fun (s : (List Int) × Int × List Int) => kR rL rN rQ rP rJ s.1 s.2.1 s.2.2 t51) st) ?_ rL rN rQ rP rJ _ _ hl0
    intro st t51 out1 rr hr
    obtain ⟨s, rfl, h1, rfl⟩ := FY hr
    clear hr
    intro Hr Gr hi hg
    obtain ⟨t10, t11, gR⟩ := s
    dsimp only [Sum.elim_inl] at hi
    obtain ⟨lo19, rfl⟩ := hi
    replace h1 : kR rL rN rQ rP rJ t10 t11 gR t51 = some out1 := h1
    unfold kR at h1
    obtain ⟨E1, hE, hO⟩ := pZ hg
    refine pT (tW (hO.gm 0 _ rfl).2 (by kernel_rfl) (by kernel_rfl) ?_)
    refine iC [(10, (.lp lo1 0 0)), (11, (.lp lo2 0 0)), (12, (.lp lo15 0 0)), (50, (.fn (.func 54) [] [(.rp (eI rL)), (.rp (bV rN)), (.rp (eI rQ)), (.rp (eI rP)), (.rp (eI rJ))])), (51, (eI t51))] ?_
    refine aP aC 1 ?_
    refine bC ?_
    refine iM [(10, (.lp lo1 0 0)), (11, (.lp lo2 0 0)), (12, (.lp lo15 0 0)), (13, (eI t51))] ?_
    refine aG (⟨rfl, rfl, (hO.gm 0 _ rfl).2, ?_⟩)
    intro o1 ho1
    replace hO := hO.mY o1
    refine cG 2 ?_
    refine aN ?_
    refine aN ?_
    refine aP aC 3 ?_
    refine mQ 2 lo15 1 0 (.msl 1 lo19 0 (List.length gR)) (.msl 1 lo19 0 (List.length gR)) [(.msl 1 lo19 0 (List.length gR))] hO rfl ?_
    refine bC ?_
    refine cD [] [(54, (aB (decide ((lN gR) = (1024 : Int)))))] ?_
    refine bR h1 (fun h1 => ?_) (fun h1 => ?_)
    · refine aN ?_
      refine aP aC 2 ?_
      refine iT 0 lo1 1 0 (eL (eI) t10) (.sl true 0 (fun _ => .bad)) [(eL (eI) t10)] [(lo1, 1, [(.sl true 0 (fun _ => .bad))]), (lo2, 1, [(eI t11)]), (lo15, 1, [(.msl 1 lo19 0 (List.length gR))]), (lo19, 1, List.map (eI) gR)] hO rfl (by kernel_rfl) ?_
      intro H hO
      refine iT 1 lo2 1 0 (eI t11) (eI (7 : Int)) [(eI t11)] [(lo1, 1, [(.sl true 0 (fun _ => .bad))]), (lo2, 1, [(eI (7 : Int))]), (lo15, 1, [(.msl 1 lo19 0 (List.length gR))]), (lo19, 1, List.map (eI) gR)] hO rfl (by kernel_rfl) ?_
      intro H hO
      refine dQ ?_
      refine qN 0 lo1 1 (.sl true 0 (fun _ => .bad)) (eL (eI) ([])) [(lo1, 1, [(eL (eI) ([]))]), (lo2, 1, [(eI (7 : Int))]), (lo15, 1, [(.msl 1 lo19 0 (List.length gR))]), (lo19, 1, List.map (eI) gR)] hO (by kernel_rfl) (by kernel_rfl) nE (by kernel_rfl) ?_
      intro H hO
      refine bD [(10, (.lp lo1 0 0)), (11, (.lp lo2 0 0)), (12, (.lp lo15 0 0))] ?_
      refine bL ?_
      refine iM [(10, (.lp lo1 0 0)), (11, (.lp lo2 0 0)), (12, (.lp lo15 0 0))] ?_
      obtain rfl := oI h1
      exact aG (aR (bJ (⟨(eA hO hE ho1 .dead).1, rfl, _, ⟨lo19, rfl⟩, (eA hO hE ho1 _).2⟩)))
    refine bS ?_
    refine bD [(10, (.lp lo1 0 0)), (11, (.lp lo2 0 0)), (12, (.lp lo15 0 0)), (13, (eI t51))] ?_
    refine aP aC 5 ?_
    refine mQ 2 lo15 1 0 (.msl 1 lo19 0 (List.length gR)) (.msl 1 lo19 0 (List.length gR)) [(.msl 1 lo19 0 (List.length gR))] hO rfl ?_
    refine bN 2 ?_
    refine wQ (xs := [(eI t51)]) (k := 1) (by kernel_rfl) (by kernel_rfl) ?_
    obtain ⟨c22, h1⟩ := aY h1
    refine AZ (e := (eI)) gR ([t51]) 3 lo19 1 8 (iU [(eI t51)]) (fun lo21 => [(lo1, 1, [(eL (eI) t10)]), (lo2, 1, [(eI t11)]), (lo15, 1, [(.msl 1 lo19 0 (List.length gR))]), (lo21, 1, List.map (eI) (gR ++ ([t51])))]) (by kernel_rfl) (by kernel_rfl) hO (by kernel_rfl) (by kernel_rfl) c22 (fun _ => by kernel_rfl) ?_
    intro lo21 H hO
    refine iT 2 lo15 1 0 (.msl 1 lo19 0 (List.length gR)) (.msl 1 lo21 0 (List.length (gR ++ ([t51])))) [(.msl 1 lo19 0 (List.length gR))] [(lo1, 1, [(eL (eI) t10)]), (lo2, 1, [(eI t11)]), (lo15, 1, [(.msl 1 lo21 0 (List.length (gR ++ ([t51]))))]), (lo21, 1, List.map (eI) (gR ++ ([t51])))] hO rfl (by kernel_rfl) ?_
    intro H hO
    refine dQ ?_
    refine iM [(10, (.lp lo1 0 0)), (11, (.lp lo2 0 0)), (12, (.lp lo15 0 0))] ?_
    obtain rfl := oI h1
    exact aG (aV (⟨(eA hO hE ho1 .dead).1, rfl, _, ⟨lo21, rfl⟩, (eA hO hE ho1 _).2⟩))
  · intro b lD23 lL H' G' hi hO
    rcases o0 with s | s
    · dsimp only [Sum.elim_inl] at hi
      obtain ⟨lo19, rfl⟩ := hi
      replace h0 : (some (s.2.2, (0 : Int))) = some r := h0
      obtain ⟨hlL, hO⟩ := lW hO
      refine ⟨_, _, hlL, (by intro e; cases e), ?_⟩
      refine iM [(10, (.lp lo1 0 0)), (11, (.lp lo2 0 0)), (12, (.lp lo15 0 0))] ?_
      refine aG (aV (aH (?_)))
      refine aN ?_
      refine OB (e := (eI)) s.2.2 2 3 1 1 lo15 lo19 (List.length s.2.2) [(lo1, 1, [(eL (eI) s.1)]), (lo2, 1, [(eI s.2.1)]), (lo15, 1, [(eL (eI) s.2.2)])] hO (by kernel_rfl) (by kernel_rfl) (by kernel_rfl) (.inr (by decide)) (by kernel_rfl) ?_
      intro H hO
      refine aP aC 3 ?_
      refine mQ 2 lo15 1 0 (eL (eI) s.2.2) (eL (eI) s.2.2) [(eL (eI) s.2.2)] hO rfl ?_
      refine iT 0 lo1 1 0 (eL (eI) s.1) (eL (eI) s.2.2) [(eL (eI) s.1)] [(lo1, 1, [(eL (eI) s.2.2)]), (lo2, 1, [(eI s.2.1)]), (lo15, 1, [(eL (eI) s.2.2)])] hO rfl (by kernel_rfl) ?_
      intro H hO
      refine iT 1 lo2 1 0 (eI s.2.1) (eI (0 : Int)) [(eI s.2.1)] [(lo1, 1, [(eL (eI) s.2.2)]), (lo2, 1, [(eI (0 : Int))]), (lo15, 1, [(eL (eI) s.2.2)])] hO rfl (by kernel_rfl) ?_
      intro H hO
      refine dQ ?_
      replace hO := hO.pick (L' := [(lo1, 1, [(eL (eI) s.2.2)]), (lo2, 1, [(eI (0 : Int))])]) [0, 1] (by decide) (by kernel_rfl)
      refine cD [12] [] ?_
      refine bL ?_
      obtain rfl := oI h0
      have hD := (hO.gm 0 _ rfl).2
      replace hO := (hO.mY .dead).nL
      exact aG (QM1 (.inr rfl) hD (rs := [.cell 10 30, .cell 11 22]) (xs := [(eL (eI) s.2.2), (eI (0 : Int))]) (x := (.tup [(eL (eI) s.2.2), (eI (0 : Int))])) (by kernel_rfl) (gX (lo := lo1) (k := 1) (y := (eL (eI) s.2.2)) (x := (eL (eI) s.2.2)) 0 hO (by kernel_rfl) (by kernel_rfl) (by kernel_rfl) (by kernel_rfl) (gX (lo := lo2) (k := 1) (y := (eI (0 : Int))) (x := (eI (0 : Int))) 1 hO (by kernel_rfl) (by kernel_rfl) (by kernel_rfl) (by kernel_rfl) lK)) (by kernel_rfl) ⟨rfl, hO.out⟩)
    · dsimp only [Sum.elim_inr] at hi
      obtain ⟨lo19, rfl⟩ := hi
      replace h0 : (some (s.1, s.2.1)) = some r := h0
      obtain ⟨hlL, hO⟩ := lW hO
      refine ⟨_, _, hlL, (by intro e; cases e), ?_⟩
      refine bL ?_
      replace hO := hO.pick (L' := [(lo1, 1, [(eL (eI) s.1)]), (lo2, 1, [(eI s.2.1)])]) [0, 1] (by decide) (by kernel_rfl)
      obtain rfl := oI h0
      have hD := (hO.gm 0 _ rfl).2
      replace hO := (hO.mY .dead).nL
      exact aG (bJ (aR (QM1 (.inr rfl) hD (rs := [.cell 10 30, .cell 11 22]) (xs := [(eL (eI) s.1), (eI s.2.1)]) (x := (.tup [(eL (eI) s.1), (eI s.2.1)])) (by kernel_rfl) (gX (lo := lo1) (k := 1) (y := (eL (eI) s.1)) (x := (eL (eI) s.1)) 0 hO (by kernel_rfl) (by kernel_rfl) (by kernel_rfl) (by kernel_rfl) (gX (lo := lo2) (k := 1) (y := (eI s.2.1)) (x := (eI s.2.1)) 1 hO (by kernel_rfl) (by kernel_rfl) (by kernel_rfl) (by kernel_rfl) lK)) (by kernel_rfl) ⟨rfl, hO.out⟩)))

theorem BZ (l0 : (List bE)) (r : (List bE)) (h0 : pR l0 = some r) : dZ Try.prog 56 [(eL bP l0)] (.fn (.func 74) [] [(.rp (eL bP r))]) := by
  intro H0
  refine dV Try.func56 ?_
  have hO := aJ.start H0
  unfold pR at h0
  refine aN ?_
  refine aP aC 2 ?_
  refine gM 1 (eL bP l0) (by kernel_rfl) (by kernel_rfl) ?_
  refine bC ?_
  refine bD [(1, (.rp (eL bP l0)))] ?_
  refine cO aC 2 [(2, (.fn (.func 74) [] [(.rp (eL bP l0))]))] ?_
  refine bL ?_
  obtain rfl := oI h0
  exact aG (lC (x := (.fn (.func 74) [] [(.rp (eL bP l0))])) (by kernel_rfl) (aL.refl _) ⟨rfl, hO.out⟩)

theorem sQ (s10 : (List aD)) (s21 : (List aD)) (r : Bool) (h0 : iZ s10 s21 = some r) : dZ Try.prog 76 [(eL aI s10), (eL aI s21)] (aB r) := by
  intro H0
  refine dV Try.func76 ?_
  have hO := aJ.start H0
  unfold iZ at h0
  refine aS aC 1 [] [] ?_
  refine aN ?_
  refine aS aC 5 [] [(10, (aB (!decide ((lN s10) = (lN s21)))))] ?_
  refine bR h0 (fun h0 => ?_) (fun h0 => ?_)
  · refine cO aC 1 [(4, (aB false))] ?_
    refine bL ?_
    obtain rfl := oI h0
    exact aG (aR (Q_r hO))
  refine bS ?_
  refine bD [(0, (eL aI s10)), (1, (eL aI s21))] ?_
  refine jD (fun T H => Has T [] ∧ aJ ⟨H0, [], []⟩ H [] ∧ fS  = some r) ?_ ?_
  · clear hO h0
    rintro T H ⟨hT, hO, h0⟩
    refine bM hT ?_
    clear hT
    unfold fS at h0
    refine cO aC 1 [(4, (aB true))] ?_
    refine bL ?_
    obtain rfl := oI h0
    exact aG (Q_r hO)
  refine aS aC 3 [] [(12, (eI (lN s10))), (13, (eI (0 : Int)))] ?_
  refine cG 0 ?_
  refine iC [(0, (eL aI s10)), (1, (eL aI s21)), (12, (eI (lN s10))), (13, (eI (0 : Int)))] ?_
  refine iF (fun T H => ∃ t12 : Int, ∃ t13 : Int, Has T [(0, (eL aI s10)), (1, (eL aI s21)), (12, (eI t12)), (13, (eI t13))] ∧ aJ ⟨H0, [], []⟩ H [] ∧ iV s10 s21 t12 t13 = some r) ?_ ⟨(lN s10), (0 : Int), .eq (by kernel_rfl), hO, h0⟩
  clear hO h0
  rintro T H ⟨t12, t13, hT, hO, h0⟩
  refine bM hT ?_
  clear hT
  unfold iV at h0
  obtain ⟨rr0, hl0, h0⟩ := aT h0
  refine eP (by kernel_rfl) (fun (s : Int) T H => Has T [(0, (eL aI s10)), (1, (eL aI s21)), (12, (eI t12)), (13, (eI s))] ∧ aJ ⟨H0, [], []⟩ H []) hl0 ⟨.eq (by kernel_rfl), hO⟩ ?_
  clear hO
  rintro k0 s out1 T H ⟨hT, hO⟩ h1 ho0
  obtain ⟨t13, rfl⟩ : ∃ x, x = s := ⟨_, rfl⟩
  replace h1 : eR s10 s21 t12 t13 = some out1 := h1
  refine bM hT ?_
  clear hT
  unfold eR at h1
  refine aS aC 1 [] [(14, (aB (decide (t13 < t12))))] ?_
  refine aN ?_
  refine bR h1 (fun h1 => ?_) (fun h1 => ?_)
  · refine bS ?_
    refine bD [(0, (eL aI s10)), (1, (eL aI s21)), (12, (eI t12)), (13, (eI t13))] ?_
    refine aN ?_
    refine cG 1 ?_
    refine aS aC 2 [] [(5, (eI t13))] ?_
    refine aN ?_
    refine gU (gV [19, 23]) aC 9 ?_
    obtain ⟨c3, h1⟩ := aY h1
    obtain ⟨c4, h1⟩ := aY h1
    refine IJ (Ds := [0 ≤ t13 ∧ t13 < (lN s10), 0 ≤ t13 ∧ t13 < (lN s21)]) (by kernel_rfl) ⟨c3, c4, trivial⟩ ?_
    refine cD [5] [(24, (aB (!((decide (((gD s10 t13).Kind) = ((gD s21 t13).Kind))) && ((decide (((gD s10 t13).Num) = ((gD s21 t13).Num))) && ((nK ((gD s10 t13).Text) ((gD s21 t13).Text)) && true))))))] ?_
    refine bR h1 (fun h1 => ?_) (fun h1 => ?_)
    · refine cO aC 1 [(4, (aB false))] ?_
      refine bL ?_
      obtain rfl := oI h1
      obtain rfl : _ = rr0 := ho0
      replace h0 : some false = some r := h0
      obtain rfl := oI h0
      exact aG (bJ (aR (aR (bJ (aR (Q_r hO))))))
    refine bS ?_
    refine iM [(0, (eL aI s10)), (1, (eL aI s21)), (12, (eI t12)), (13, (eI t13))] ?_
    refine aG (aV (aH (?_)))
    refine aP aC 2 ?_
    refine bC ?_
    exact aG (aH (⟨rfl, _, (oI h1).symm, .eq (by kernel_rfl), hO⟩))
  refine jP 0 ?_
  obtain rfl := oI h1
  obtain rfl : _ = rr0 := ho0
  replace h0 : fS  = some r := h0
  exact aG (aW (aW (cI (aH (⟨rfl, .eq (by kernel_rfl), hO, h0⟩)))))

theorem DO (a0 : (List aD)) (b1 : (List aD)) (r : Bool) (h0 : oW a0 b1 = some r) : dZ Try.prog 58 [(eL aI a0), (eL aI b1)] (aB r) := by
  intro H0
  refine dV Try.func58 ?_
  have hO := aJ.start H0
  unfold oW at h0
  refine aS aC 1 [] [] ?_
  refine aN ?_
  refine aP aC 4 ?_
  refine bN 2 ?_
  obtain ⟨x1, hx2, h0⟩ := aT h0
  refine fB (sQ a0 b1 _ hx2) hO ?_
  intro H hO
  refine bC ?_
  refine bD [(4, (aB x1))] ?_
  refine bL ?_
  obtain rfl := oI h0
  exact aG (Q_r hO)

theorem DL (r0 : (List aD)) (r : (List aD)) (h0 : rS r0 = some r) : dZ Try.prog 59 [(eL aI r0)] (eL aI r) := by
  intro H0
  refine dV Try.func59 ?_
  have hO := aJ.start H0
  unfold rS at h0
  refine aS aC 1 [] [] ?_
  refine aN ?_
  refine aP aC 6 ?_
  refine bN 2 ?_
  obtain ⟨c1, h0⟩ := aY h0
  refine GB 3 32 (lN r0) (by kernel_rfl) (by kernel_rfl) c1 hO ?_
  intro lo2 H hO
  refine bN 4 ?_
  obtain ⟨c4, h0⟩ := aY h0
  refine AZ (e := aI) ([] : List aD) r0 0 lo2 3 32 (eL aI r0) (fun lo3 => [(lo3, 3, List.map aI (([] : List aD) ++ r0))]) (by kernel_rfl) (by kernel_rfl) hO (by kernel_rfl) (VZ (fun _ => by kernel_rfl)) c4 (fun _ => by kernel_rfl) ?_
  intro lo3 H hO
  refine bC ?_
  refine bD [(2, (.msl 3 lo3 0 (List.length (([] : List aD) ++ r0))))] ?_
  refine bL ?_
  refine iM [(2, (.msl 3 lo3 0 (List.length (([] : List aD) ++ r0))))] ?_
  refine HA (en := aI) (([] : List aD) ++ r0) 0 0 2 3 lo3 (List.length (([] : List aD) ++ r0)) hO (by kernel_rfl) (by kernel_rfl) (by kernel_rfl) (L' := []) (by kernel_rfl) ?_
  intro H5 hO
  obtain rfl := oI h0
  exact aG (Q_r hO)

theorem wV {σ : Type} (I : σ → Gs → Prop) (yield0_b : Nat) (cE : σ → (List aD) → (List aF) → Option (σ × Bool)) (yield0_h : ∀ st a0 a1 st2 r, cE st a0 a1 = some (st2, r) → vA Try.prog (yv yield0_b) I st [(eL aI a0), (eL aK a1)] st2 (aB r)) (t1 : (List bE)) (sg0 : σ) (r : σ) (h0 : mC cE t1 sg0 = some r) : sM Try.prog 74 I sg0 [(yv yield0_b), (.rp (eL bP t1))] r (.tup []) := by
  intro H0 G0 hI hg
  refine dV Try.func74 ?_
  obtain ⟨G, hO, hI⟩ : ∃ G, aJ ⟨H0, List.map (fun p : Nat × cR => p.1) G0, G⟩ H0 [] ∧ I sg0 G := ⟨G0, aJ.xU hg, hI⟩
  clear hg
  unfold mC at h0
  refine aS aC 1 [] [(3, (eI (0 : Int)))] ?_
  refine cG 0 ?_
  refine iC [(0, (yv yield0_b)), (1, (.rp (eL bP t1))), (3, (eI (0 : Int)))] ?_
  refine iF (fun T H => ∃ sg : σ, ∃ i3 : Int, ∃ G : Gs, Has T [(0, (yv yield0_b)), (1, (.rp (eL bP t1))), (3, (eI i3))] ∧ aJ ⟨H0, List.map (fun p : Nat × cR => p.1) G0, G⟩ H [] ∧ I sg G ∧ oV cE sg t1 i3 = some r) ?_ ⟨sg0, (0 : Int), G, .eq (by kernel_rfl), hO, hI, h0⟩
  clear hO hI h0
  rintro T H ⟨sg, i3, G, hT, hO, hI, h0⟩
  refine bM hT ?_
  clear hT
  unfold oV at h0
  obtain ⟨rr0, hl0, h0⟩ := aT h0
  refine eP (by kernel_rfl) (fun (s : σ × Int) T H => ∃ G : Gs, Has T [(0, (yv yield0_b)), (1, (.rp (eL bP t1))), (3, (eI s.2))] ∧ aJ ⟨H0, List.map (fun p : Nat × cR => p.1) G0, G⟩ H [] ∧ I s.1 G) hl0 ⟨G, .eq (by kernel_rfl), hO, hI⟩ ?_
  clear hO hI
  rintro k0 s out1 T H ⟨G, hT, hO, hI⟩ h1 ho0
  obtain ⟨sg, i3⟩ := s
  replace h1 : iE cE t1 sg i3 = some out1 := h1
  try dsimp only at hT
  refine bM hT ?_
  clear hT
  unfold iE at h1
  refine aN ?_
  refine aS aC 4 [] [(9, (aB (decide (i3 < (lN t1)))))] ?_
  refine bR h1 (fun h1 => ?_) (fun h1 => ?_)
  · refine bS ?_
    refine bD [(0, (yv yield0_b)), (1, (.rp (eL bP t1))), (3, (eI i3))] ?_
    refine cG 1 ?_
    refine aN ?_
    refine aP aC 6 ?_
    obtain ⟨c2, h1⟩ := aY h1
    refine rY [0 ≤ i3 ∧ i3 < (lN t1)] ⟨c2, trivial⟩ ?_
    refine cD [] [(4, (eL aI ((gD t1 i3).Row)))] ?_
    refine aN ?_
    refine aP aC 2 ?_
    refine wQ (xs := []) (k := 2) (by kernel_rfl) (by kernel_rfl) ?_
    refine bC ?_
    refine cD [] [(5, (.sl true 0 (fun _ => .bad)))] ?_
    refine jD (fun T H => ∃ sg : σ, ∃ i3 : Int, ∃ r4 : (List aD), ∃ f5 : List aF, ∃ lo3 : Nat, ∃ G : Gs, Has T [(0, (yv yield0_b)), (1, (.rp (eL bP t1))), (3, (eI i3)), (4, (eL aI r4)), (5, (.msl 2 lo3 0 (List.length f5)))] ∧ aJ ⟨H0, List.map (fun p : Nat × cR => p.1) G0, G⟩ H [(lo3, 2, List.map aK f5)] ∧ I sg G ∧ mX cE sg t1 i3 r4 f5 = some out1) ?_ ?_
    · clear hO hI h1
      rintro T H ⟨sg, i3, r4, f5, lo3, G, hT, hO, hI, h1⟩
      refine bM hT ?_
      clear hT
      unfold mX at h1
      refine aN ?_
      refine aP aC 6 ?_
      refine RA (e := aK) f5 0 5 2 lo3 (List.length f5) [] (by kernel_rfl) hO (by kernel_rfl) (by kernel_rfl) (by kernel_rfl) (by kernel_rfl) ?_
      intro H hO
      refine bN 2 ?_
      obtain ⟨x7, hx8, h1⟩ := aT h1
      refine fB (DL r4 _ hx8) hO ?_
      intro H hO
      refine bN 4 ?_
      obtain ⟨x10, hx11, h1⟩ := aT h1
      refine BD (I := I) (yv yield0_b) [(eL aI x7), (eL aK f5)] (aB x10.2) (by kernel_rfl) (by kernel_rfl) (yield0_h _ x7 f5 x10.1 x10.2 hx11) hO hI ?_
      intro G H hO hI
      refine bC ?_
      refine cD [4, 5] [(50, (aB (!x10.2)))] ?_
      refine bR h1 (fun h1 => ?_) (fun h1 => ?_)
      · refine bL ?_
        obtain rfl := oI h1
        obtain rfl : _ = rr0 := ho0
        replace h0 : some x10.1 = some r := h0
        obtain rfl := oI h0
        exact aG (bJ (aR (bJ (lC (x := (.tup [])) (by kernel_rfl) (aL.refl _) ⟨rfl, G, hI, hO.tU⟩))))
      refine bS ?_
      exact aG (aV (aH (⟨rfl, _, (oI h1).symm, _, .eq (by kernel_rfl), hO, hI⟩)))
    refine cG 2 ?_
    refine iC [(0, (yv yield0_b)), (1, (.rp (eL bP t1))), (3, (eI i3)), (4, (eL aI ((gD t1 i3).Row))), (5, (.sl true 0 (fun _ => .bad)))] ?_
    refine ZB (el := (fun _ => .bad)) 4 5 2 hO (by kernel_rfl) ?_
    intro lo24 H25 hO
    refine iF (fun T H => ∃ sg : σ, ∃ i3 : Int, ∃ r4 : (List aD), ∃ f5 : List aF, ∃ lo14 : Nat, ∃ G : Gs, Has T [(0, (yv yield0_b)), (1, (.rp (eL bP t1))), (3, (eI i3)), (4, (eL aI r4)), (5, (.msl 2 lo14 0 (List.length f5)))] ∧ aJ ⟨H0, List.map (fun p : Nat × cR => p.1) G0, G⟩ H [(lo14, 2, List.map aK f5)] ∧ I sg G ∧ oS cE sg t1 i3 r4 f5 = some out1) ?_ ⟨sg, i3, (gD t1 i3).Row, ([] : List aF), lo24, G, .eq (by kernel_rfl), hO, hI, h1⟩
    clear hO hI h1
    rintro T H ⟨sg, i3, r4, f5, lo14, G, hT, hO, hI, h1⟩
    refine bM hT ?_
    clear hT
    unfold oS at h1
    obtain ⟨rr1, hl1, h1⟩ := aT h1
    refine eP (by kernel_rfl) (fun (s : σ × Int × List aF) T H => ∃ lo14 : Nat, ∃ G : Gs, Has T [(0, (yv yield0_b)), (1, (.rp (eL bP t1))), (3, (eI s.2.1)), (4, (eL aI r4)), (5, (.msl 2 lo14 0 (List.length s.2.2)))] ∧ aJ ⟨H0, List.map (fun p : Nat × cR => p.1) G0, G⟩ H [(lo14, 2, List.map aK s.2.2)] ∧ I s.1 G) hl1 ⟨lo14, G, .eq (by kernel_rfl), hO, hI⟩ ?_
    clear hO hI
    rintro k1 s out2 T H ⟨lo14, G, hT, hO, hI⟩ h2 ho1
    obtain ⟨sg, i3, f5⟩ := s
    replace h2 : jC cE t1 r4 sg i3 f5 = some out2 := h2
    try dsimp only at hT
    refine bM hT ?_
    clear hT
    unfold jC at h2
    refine aN ?_
    refine aN ?_
    refine aP aC 13 ?_
    obtain ⟨c15, h2⟩ := aY h2
    refine yB 11 [(((decide (i3 < (lN t1)))) = true → 0 ≤ i3 ∧ i3 < (lN t1))] ⟨c15, trivial⟩ ?_
    obtain ⟨x16, hx17, h2⟩ := aT h2
    refine nF [(20, true)] 58 [(eL aI ((gD t1 i3).Row)), (eL aI r4)] (aB x16) (decide (i3 < (lN t1))) (by kernel_rfl) (by kernel_rfl) (by kernel_rfl) (fun hb18 => (DO ((gD t1 i3).Row) r4 _ (kO hx17 hb18))) hO ?_
    intro H hO
    refine bC ?_
    refine cD [] [(28, (aB ((decide (i3 < (lN t1))) && x16)))] ?_
    refine bR h2 (fun h2 => ?_) (fun h2 => ?_)
    · refine bS ?_
      refine bD [(0, (yv yield0_b)), (1, (.rp (eL bP t1))), (3, (eI i3)), (4, (eL aI r4)), (5, (.msl 2 lo14 0 (List.length f5)))] ?_
      refine aN ?_
      refine cG 3 ?_
      refine gU (gV [32, 36, 37, 41, 43]) aC 15 ?_
      obtain ⟨c20, h2⟩ := aY h2
      obtain ⟨c21, h2⟩ := aY h2
      refine cF 12 [0 ≤ i3 ∧ i3 < (lN t1), 0 ≤ i3 ∧ i3 < (lN t1)] ⟨c20, c21, trivial⟩ ?_
      refine VF (xs := [(aK (aF.mk ((gD t1 i3).At) ((gD t1 i3).Net)))]) (k := 2) (by kernel_rfl) (by kernel_rfl) ?_
      obtain ⟨c23, h2⟩ := aY h2
      refine MV (e := aK) f5 ([aF.mk ((gD t1 i3).At) ((gD t1 i3).Net)]) 0 lo14 2 16 (iU [(aK (aF.mk ((gD t1 i3).At) ((gD t1 i3).Net)))]) (fun lo22 => [(lo22, 2, List.map aK (f5 ++ ([aF.mk ((gD t1 i3).At) ((gD t1 i3).Net)])))]) (by kernel_rfl) (by kernel_rfl) hO (by kernel_rfl) (by kernel_rfl) c23 (fun _ => by kernel_rfl) ?_
      intro lo22 H hO
      refine kX ?_
      refine iM [(0, (yv yield0_b)), (1, (.rp (eL bP t1))), (3, (eI i3)), (4, (eL aI r4)), (5, (.msl 2 lo22 0 (List.length (f5 ++ ([aF.mk ((gD t1 i3).At) ((gD t1 i3).Net)])))))] ?_
      refine aG (aV (aH (?_)))
      refine aP aC 3 ?_
      refine bC ?_
      exact aG (aH (⟨rfl, _, (oI h2).symm, _, _, .eq (by kernel_rfl), hO, hI⟩))
    refine jP 2 ?_
    obtain rfl := oI h2
    obtain rfl : _ = rr1 := ho1
    replace h1 : mX cE sg t1 i3 r4 f5 = some out1 := h1
    exact aG (aW (aW (cI (aH (⟨rfl, _, _, _, _, _, _, .eq (by kernel_rfl), hO, hI, h1⟩)))))
  refine jP 0 ?_
  obtain rfl := oI h1
  obtain rfl : _ = rr0 := ho0
  replace h0 : some sg = some r := h0
  obtain rfl := oI h0
  exact aG (aW (aW (cI (tI (x := (.tup [])) (by kernel_rfl) (aL.refl _) ⟨rfl, G, hI, hO.tU⟩))))

theorem qS (s0 : (List aD)) (f1_f : Nat) (f1_a f1_c : List V) (f1 : aD → Option Bool) (f1_h : ∀ a0 r, f1 a0 = some r → dZ Try.prog f1_f (f1_a ++ [(aI a0)] ++ f1_c) (aB r)) (r : Int) (h0 : iA s0 f1 = some r) : dZ Try.prog 95 [(eL aI s0), (.fn (.func f1_f) f1_a f1_c)] (eI r) := by
  intro H0
  refine dV Try.func95 ?_
  have hO := aJ.start H0
  unfold iA at h0
  refine aS aC 1 [] [] ?_
  refine jD (fun T H => Has T [] ∧ aJ ⟨H0, [], []⟩ H [] ∧ eW f1  = some r) ?_ ?_
  · clear hO h0
    rintro T H ⟨hT, hO, h0⟩
    refine bM hT ?_
    clear hT
    unfold eW at h0
    refine cO aC 1 [(4, (eI (-1 : Int)))] ?_
    refine bL ?_
    obtain rfl := oI h0
    exact aG (Q_r hO)
  refine aS aC 3 [] [(7, (eI (lN s0))), (8, (eI (0 : Int)))] ?_
  refine cG 0 ?_
  refine iC [(0, (eL aI s0)), (1, (.fn (.func f1_f) f1_a f1_c)), (7, (eI (lN s0))), (8, (eI (0 : Int)))] ?_
  refine iF (fun T H => ∃ t7 : Int, ∃ t8 : Int, Has T [(0, (eL aI s0)), (1, (.fn (.func f1_f) f1_a f1_c)), (7, (eI t7)), (8, (eI t8))] ∧ aJ ⟨H0, [], []⟩ H [] ∧ gS f1 s0 t7 t8 = some r) ?_ ⟨(lN s0), (0 : Int), .eq (by kernel_rfl), hO, h0⟩
  clear hO h0
  rintro T H ⟨t7, t8, hT, hO, h0⟩
  refine bM hT ?_
  clear hT
  unfold gS at h0
  obtain ⟨rr0, hl0, h0⟩ := aT h0
  refine eP (by kernel_rfl) (fun (s : Int) T H => Has T [(0, (eL aI s0)), (1, (.fn (.func f1_f) f1_a f1_c)), (7, (eI t7)), (8, (eI s))] ∧ aJ ⟨H0, [], []⟩ H []) hl0 ⟨.eq (by kernel_rfl), hO⟩ ?_
  clear hO
  rintro k0 s out1 T H ⟨hT, hO⟩ h1 ho0
  obtain ⟨t8, rfl⟩ : ∃ x, x = s := ⟨_, rfl⟩
  replace h1 : gT f1 s0 t7 t8 = some out1 := h1
  refine bM hT ?_
  clear hT
  unfold gT at h1
  refine aS aC 1 [] [(9, (aB (decide (t8 < t7))))] ?_
  refine aN ?_
  refine bR h1 (fun h1 => ?_) (fun h1 => ?_)
  · refine bS ?_
    refine bD [(0, (eL aI s0)), (1, (.fn (.func f1_f) f1_a f1_c)), (7, (eI t7)), (8, (eI t8))] ?_
    refine aN ?_
    refine cG 1 ?_
    refine aS aC 2 [] [(5, (eI t8))] ?_
    refine aN ?_
    refine aP aC 6 ?_
    obtain ⟨c2, h1⟩ := aY h1
    refine yB 5 [0 ≤ t8 ∧ t8 < (lN s0)] ⟨c2, trivial⟩ ?_
    obtain ⟨x3, hx4, h1⟩ := aT h1
    refine fB (f1_h (gD s0 t8) _ hx4) hO ?_
    intro H hO
    refine dQ ?_
    refine cD [] [(16, (aB x3))] ?_
    refine bR h1 (fun h1 => ?_) (fun h1 => ?_)
    · refine cO aC 2 [(4, (eI t8))] ?_
      refine bL ?_
      obtain rfl := oI h1
      obtain rfl : _ = rr0 := ho0
      replace h0 : some t8 = some r := h0
      obtain rfl := oI h0
      exact aG (bJ (aR (aR (bJ (aR (Q_r hO))))))
    refine bS ?_
    refine iM [(0, (eL aI s0)), (1, (.fn (.func f1_f) f1_a f1_c)), (7, (eI t7)), (8, (eI t8))] ?_
    refine aG (aV (aH (?_)))
    refine aP aC 2 ?_
    refine bC ?_
    exact aG (aH (⟨rfl, _, (oI h1).symm, .eq (by kernel_rfl), hO⟩))
  refine jP 0 ?_
  obtain rfl := oI h1
  obtain rfl : _ = rr0 := ho0
  replace h0 : eW f1  = some r := h0
  exact aG (aW (aW (cI (aH (⟨rfl, .eq (by kernel_rfl), hO, h0⟩)))))

theorem pH (s0 : (List aD)) (f1_f : Nat) (f1_a f1_c : List V) (f1 : aD → Option Bool) (f1_h : ∀ a0 r, f1 a0 = some r → dZ Try.prog f1_f (f1_a ++ [(aI a0)] ++ f1_c) (aB r)) (r : Bool) (h0 : eN s0 f1 = some r) : dZ Try.prog 92 [(eL aI s0), (.fn (.func f1_f) f1_a f1_c)] (aB r) := by
  intro H0
  refine dV Try.func92 ?_
  have hO := aJ.start H0
  unfold eN at h0
  refine aS aC 1 [] [] ?_
  refine aN ?_
  refine aP aC 5 ?_
  refine bN 2 ?_
  obtain ⟨x1, hx2, h0⟩ := aT h0
  refine fB (qS s0 f1_f f1_a f1_c f1 f1_h _ hx2) hO ?_
  intro H hO
  refine bC ?_
  refine bD [(4, (aB (decide ((0 : Int) ≤ x1))))] ?_
  refine bL ?_
  obtain rfl := oI h0
  exact aG (Q_r hO)

theorem tB (v0 : aD) (r : (bA × Bool)) (h0 : kQ v0 = some r) : dZ Try.prog 106 [(aI v0)] (.tup [(aX r.1), (aB r.2)]) := by
  intro H0
  refine dV Try.func106 ?_
  have hO := aJ.start H0
  unfold kQ at h0
  refine aN ?_
  refine aP aC 3 ?_
  refine gM 3 (aI v0) (by kernel_rfl) (by kernel_rfl) ?_
  refine bC ?_
  refine bD [(1, (.rp (aI v0)))] ?_
  refine aN ?_
  refine cG 0 ?_
  refine aS aC 9 [] [(4, (aB ((decide (v0.Kind = (1 : Int))) && (nK v0.Text (⟨#[]⟩ : ByteArray)))))] ?_
  refine bR h0 (fun h0 => ?_) (fun h0 => ?_)
  · refine cO aC 5 [(2, (aX (bA.k_number v0.Num))), (3, (aB true))] ?_
    refine bL ?_
    obtain rfl := oI h0
    exact aG (bJ (aR (Q_r hO)))
  refine aS aC 15 [4] [(16, (aB (((decide (v0.Kind = (2 : Int))) && (decide (v0.Num = (0 : Int)))) && (decide (((ByteArray.size v0.Text : Nat) : Int) ≤ (64 : Int))))))] ?_
  refine bR h0 (fun h0 => ?_) (fun h0 => ?_)
  · refine cO aC 5 [(2, (aX (bA.k_words v0.Text))), (3, (aB true))] ?_
    refine bL ?_
    obtain rfl := oI h0
    exact aG (bJ (aR (Q_r hO)))
  refine bS ?_
  refine iM [] ?_
  refine aG (aV (aH (?_)))
  refine cO aC 2 [(2, (aX bA.none_)), (3, (aB false))] ?_
  refine bL ?_
  obtain rfl := oI h0
  exact aG (Q_r hO)

theorem MJ (v0 : aD) (r : Bool) (h0 : sG v0 = some r) : dZ Try.prog 94 [(aI v0)] (aB r) := by
  intro H0
  refine dV Try.func94 ?_
  have hO := aJ.start H0
  unfold sG at h0
  refine aN ?_
  refine aP aC 2 ?_
  refine gM 3 (aI v0) (by kernel_rfl) (by kernel_rfl) ?_
  refine bC ?_
  refine bD [(1, (.rp (aI v0)))] ?_
  refine aN ?_
  refine aP aC 7 ?_
  refine bN 1 ?_
  obtain ⟨⟨x1_0, x1_1⟩, hx2, h0⟩ := aT h0
  refine fB (tB v0 _ hx2) hO ?_
  intro H hO
  rcases x1_0 with _ | y4 | y5
  · replace h0 : (some x1_1) = some r := h0
    refine bC ?_
    refine bD [(4, (aB x1_1))] ?_
    refine cO aC 2 [(2, (aB x1_1))] ?_
    refine bL ?_
    obtain rfl := oI h0
    exact aG (Q_r hO)
  · replace h0 : (some x1_1) = some r := h0
    refine bC ?_
    refine bD [(4, (aB x1_1))] ?_
    refine cO aC 2 [(2, (aB x1_1))] ?_
    refine bL ?_
    obtain rfl := oI h0
    exact aG (Q_r hO)
  · replace h0 : (some x1_1) = some r := h0
    refine bC ?_
    refine bD [(4, (aB x1_1))] ?_
    refine cO aC 2 [(2, (aB x1_1))] ?_
    refine bL ?_
    obtain rfl := oI h0
    exact aG (Q_r hO)

theorem LO (v0 : aD) (r : Bool) (h0 : sA v0 = some r) : dZ Try.prog 93 [(aI v0)] (aB r) := by
  intro H0
  refine dV Try.func93 ?_
  have hO := aJ.start H0
  unfold sA at h0
  refine aN ?_
  refine aP aC 2 ?_
  refine gM 3 (aI v0) (by kernel_rfl) (by kernel_rfl) ?_
  refine bC ?_
  refine bD [(1, (.rp (aI v0)))] ?_
  refine aN ?_
  refine aP aC 4 ?_
  refine bN 1 ?_
  obtain ⟨x1, hx2, h0⟩ := aT h0
  refine fB (MJ v0 _ hx2) hO ?_
  intro H hO
  refine bC ?_
  refine bD [(2, (aB (!x1)))] ?_
  refine bL ?_
  obtain rfl := oI h0
  exact aG (Q_r hO)

theorem AI (r0 : (List aD)) (r : Bool) (h0 : qO r0 = some r) : dZ Try.prog 71 [(eL aI r0)] (aB r) := by
  intro H0
  refine dV Try.func71 ?_
  have hO := aJ.start H0
  unfold qO at h0
  refine aS aC 1 [] [] ?_
  refine aN ?_
  refine aS aC 3 [] [(5, (aB (decide ((8 : Int) < (lN r0)))))] ?_
  refine bR h0 (fun h0 => ?_) (fun h0 => ?_)
  · refine cO aC 1 [(2, (aB false))] ?_
    refine bL ?_
    obtain rfl := oI h0
    exact aG (aR (Q_r hO))
  refine bS ?_
  refine bD [(0, (eL aI r0))] ?_
  refine aN ?_
  refine aP aC 4 ?_
  refine bN 1 ?_
  obtain ⟨x2, hx3, h0⟩ := aT h0
  refine fB (pH r0 93 [] [] (fun y0 => sA y0) (fun y0 r h => LO y0 r h) _ hx3) hO ?_
  intro H hO
  refine bC ?_
  refine bD [(2, (aB (!x2)))] ?_
  refine bL ?_
  obtain rfl := oI h0
  exact aG (Q_r hO)

theorem EZ (t0 : (List aD)) (r : (Int × (List aD))) (h0 : qE t0 = some r) : wW Try.prog 96 [(.rp (eL aI t0))] (fun lo => (.fn (.func 97) [] [(.lp lo 0 0), (.rp (eL aI r.2))])) 1 [(eI r.1)] := by
  intro H0
  refine dV Try.func96 ?_
  have hO := aJ.start H0
  unfold qE at h0
  refine aS aC 1 [] [] ?_
  refine aN ?_
  refine aP aC 2 ?_
  refine kI 1 (eI 0) (by kernel_rfl) (by kernel_rfl) hO ?_
  intro lo1 H hO
  refine iT 0 lo1 1 0 (eI 0) (eI (-1 : Int)) [(eI 0)] [(lo1, 1, [(eI (-1 : Int))])] hO rfl (by kernel_rfl) ?_
  intro H hO
  refine dQ ?_
  refine cD [] [(2, (.lp lo1 0 0))] ?_
  refine aS aC 2 [0] [(1, (.fn (.func 97) [] [(.lp lo1 0 0), (.rp (eL aI t0))]))] ?_
  refine bL ?_
  obtain rfl := oI h0
  exact aG (lC (x := (.fn (.func 97) [] [(.lp lo1 0 0), (.rp (eL aI t0))])) (by kernel_rfl) (aL.refl _) ⟨lo1, rfl, hO⟩)

theorem qC {σ : Type} (I : σ → Gs → Prop) (s0 : (List aD)) (f1_v : V) (f1 : σ → aD → Option (σ × Bool)) (f1_h : ∀ st a0 st2 r, f1 st a0 = some (st2, r) → vA Try.prog f1_v I st [(aI a0)] st2 (aB r)) (sg0 : σ) (r : (σ × Int)) (h0 : gL s0 f1 sg0 = some r) : sM Try.prog 95 I sg0 [(eL aI s0), f1_v] r.1 (eI r.2) := by
  intro H0 G0 hI hg
  refine dV Try.func95 ?_
  obtain ⟨G, hO, hI⟩ : ∃ G, aJ ⟨H0, List.map (fun p : Nat × cR => p.1) G0, G⟩ H0 [] ∧ I sg0 G := ⟨G0, aJ.xU hg, hI⟩
  clear hg
  unfold gL at h0
  refine aS aC 1 [] [] ?_
  refine jD (fun T H => ∃ sg : σ, ∃ G : Gs, Has T [] ∧ aJ ⟨H0, List.map (fun p : Nat × cR => p.1) G0, G⟩ H [] ∧ I sg G ∧ eO f1 sg = some r) ?_ ?_
  · clear hO hI h0
    rintro T H ⟨sg, G, hT, hO, hI, h0⟩
    refine bM hT ?_
    clear hT
    unfold eO at h0
    refine cO aC 1 [(4, (eI (-1 : Int)))] ?_
    refine bL ?_
    obtain rfl := oI h0
    exact aG (lC (x := (eI (-1 : Int))) (by kernel_rfl) (aL.refl _) ⟨rfl, G, hI, hO.tU⟩)
  refine aS aC 3 [] [(7, (eI (lN s0))), (8, (eI (0 : Int)))] ?_
  refine cG 0 ?_
  refine iC [(0, (eL aI s0)), (1, f1_v), (7, (eI (lN s0))), (8, (eI (0 : Int)))] ?_
  refine iF (fun T H => ∃ sg : σ, ∃ t7 : Int, ∃ t8 : Int, ∃ G : Gs, Has T [(0, (eL aI s0)), (1, f1_v), (7, (eI t7)), (8, (eI t8))] ∧ aJ ⟨H0, List.map (fun p : Nat × cR => p.1) G0, G⟩ H [] ∧ I sg G ∧ gH f1 sg s0 t7 t8 = some r) ?_ ⟨sg0, (lN s0), (0 : Int), G, .eq (by kernel_rfl), hO, hI, h0⟩
  clear hO hI h0
  rintro T H ⟨sg, t7, t8, G, hT, hO, hI, h0⟩
  refine bM hT ?_
  clear hT
  unfold gH at h0
  obtain ⟨rr0, hl0, h0⟩ := aT h0
  refine eP (by kernel_rfl) (fun (s : σ × Int) T H => ∃ G : Gs, Has T [(0, (eL aI s0)), (1, f1_v), (7, (eI t7)), (8, (eI s.2))] ∧ aJ ⟨H0, List.map (fun p : Nat × cR => p.1) G0, G⟩ H [] ∧ I s.1 G) hl0 ⟨G, .eq (by kernel_rfl), hO, hI⟩ ?_
  clear hO hI
  rintro k0 s out1 T H ⟨G, hT, hO, hI⟩ h1 ho0
  obtain ⟨sg, t8⟩ := s
  replace h1 : bZ f1 s0 t7 sg t8 = some out1 := h1
  try dsimp only at hT
  refine bM hT ?_
  clear hT
  unfold bZ at h1
  refine aS aC 1 [] [(9, (aB (decide (t8 < t7))))] ?_
  refine aN ?_
  refine bR h1 (fun h1 => ?_) (fun h1 => ?_)
  · refine bS ?_
    refine bD [(0, (eL aI s0)), (1, f1_v), (7, (eI t7)), (8, (eI t8))] ?_
    refine aN ?_
    refine cG 1 ?_
    refine aS aC 2 [] [(5, (eI t8))] ?_
    refine aN ?_
    refine aP aC 6 ?_
    obtain ⟨c2, h1⟩ := aY h1
    refine yB 5 [0 ≤ t8 ∧ t8 < (lN s0)] ⟨c2, trivial⟩ ?_
    obtain ⟨x3, hx4, h1⟩ := aT h1
    refine BD (I := I) f1_v [(aI (gD s0 t8))] (aB x3.2) (by kernel_rfl) (by kernel_rfl) (f1_h _ (gD s0 t8) x3.1 x3.2 hx4) hO hI ?_
    intro G H hO hI
    refine dQ ?_
    refine cD [] [(16, (aB x3.2))] ?_
    refine bR h1 (fun h1 => ?_) (fun h1 => ?_)
    · refine cO aC 2 [(4, (eI t8))] ?_
      refine bL ?_
      obtain rfl := oI h1
      obtain rfl : _ = rr0 := ho0
      replace h0 : some (x3.1, t8) = some r := h0
      obtain rfl := oI h0
      exact aG (bJ (aR (aR (bJ (aR (lC (x := (eI t8)) (by kernel_rfl) (aL.refl _) ⟨rfl, G, hI, hO.tU⟩))))))
    refine bS ?_
    refine iM [(0, (eL aI s0)), (1, f1_v), (7, (eI t7)), (8, (eI t8))] ?_
    refine aG (aV (aH (?_)))
    refine aP aC 2 ?_
    refine bC ?_
    exact aG (aH (⟨rfl, _, (oI h1).symm, _, .eq (by kernel_rfl), hO, hI⟩))
  refine jP 0 ?_
  obtain rfl := oI h1
  obtain rfl : _ = rr0 := ho0
  replace h0 : eO f1 sg = some r := h0
  exact aG (aW (aW (cI (aH (⟨rfl, _, _, .eq (by kernel_rfl), hO, hI, h0⟩)))))

theorem BM (v0 : aD) (lo1p : Nat) (t1 : Int) (t2 : (List aD)) (r : (Bool × Int)) (h0 : jI v0 t1 t2 = some r) : lS Try.prog 97 lo1p 1 [(eI t1)] [(eI r.2)] [(aI v0), (.lp lo1p 0 0), (.rp (eL aI t2))] (aB r.1) := by
  intro H0 hl0
  refine dV Try.func97 ?_
  have hO := aJ.qM hl0
  clear hl0
  unfold jI at h0
  refine aN ?_
  refine aP aC 2 ?_
  refine gM 3 (aI v0) (by kernel_rfl) (by kernel_rfl) ?_
  refine bC ?_
  refine cD [0] [(3, (.rp (aI v0)))] ?_
  refine aN ?_
  refine aP aC 3 ?_
  refine mQ 0 lo1p 1 0 (eI t1) (eI t1) [(eI t1)] hO rfl ?_
  refine bN 2 ?_
  refine iT 0 lo1p 1 0 (eI t1) (eI (wR (t1 + (1 : Int)))) [(eI t1)] [(lo1p, 1, [(eI (wR (t1 + (1 : Int))))])] hO rfl (by kernel_rfl) ?_
  intro H hO
  refine dQ ?_
  refine cD [] [] ?_
  refine aN ?_
  refine gU (gV [7, 8, 11]) aC 7 ?_
  refine lI 2 ?_
  refine gJ 0 lo1p 1 0 (eI (wR (t1 + (1 : Int)))) (eI (wR (t1 + (1 : Int)))) [(eI (wR (t1 + (1 : Int))))] hO rfl ?_
  obtain ⟨c1, h0⟩ := aY h0
  refine IJ (Ds := [0 ≤ (wR (t1 + (1 : Int))) ∧ (wR (t1 + (1 : Int))) < (lN t2)]) (by kernel_rfl) ⟨c1, trivial⟩ ?_
  refine bD [(1, (.lp lo1p 0 0)), (4, (aB (!((decide (v0.Kind = ((gD t2 (wR (t1 + (1 : Int)))).Kind))) && ((decide (v0.Num = ((gD t2 (wR (t1 + (1 : Int)))).Num))) && ((nK v0.Text ((gD t2 (wR (t1 + (1 : Int)))).Text)) && true))))))] ?_
  refine bL ?_
  obtain rfl := oI h0
  exact aG (lC (x := (aB (!((decide (v0.Kind = ((gD t2 (wR (t1 + (1 : Int)))).Kind))) && ((decide (v0.Num = ((gD t2 (wR (t1 + (1 : Int)))).Num))) && ((nK v0.Text ((gD t2 (wR (t1 + (1 : Int)))).Text)) && true)))))) (by kernel_rfl) (aL.refl _) ⟨rfl, hO.ext, hO.at 0 (by kernel_rfl), rfl⟩)

theorem qF (x0 : Int) (r : Bool) (h0 : kK x0 = some r) : dZ Try.prog 105 [(eI x0)] (aB r) := by
  intro H0
  refine dV Try.func105 ?_
  have hO := aJ.start H0
  unfold kK at h0
  refine aS aC 1 [] [] ?_
  refine cO aC 4 [(2, (aB (!decide (x0 = x0))))] ?_
  refine bL ?_
  obtain rfl := oI h0
  exact aG (Q_r hO)

theorem BK (x0 : Int) (y1 : Int) (r : Int) (h0 : mJ x0 y1 = some r) : dZ Try.prog 98 [(eI x0), (eI y1)] (eI r) := by
  intro H0
  refine dV Try.func98 ?_
  have hO := aJ.start H0
  unfold mJ at h0
  refine aS aC 1 [] [] ?_
  refine aN ?_
  refine aP aC 3 ?_
  refine bN 1 ?_
  obtain ⟨x1, hx2, h0⟩ := aT h0
  refine fB (qF x0 _ hx2) hO ?_
  intro H hO
  refine bC ?_
  refine cD [] [(5, (aB x1))] ?_
  refine aN ?_
  refine aP aC 3 ?_
  refine bN 1 ?_
  obtain ⟨x4, hx5, h0⟩ := aT h0
  refine fB (qF y1 _ hx5) hO ?_
  intro H hO
  refine bC ?_
  refine cD [] [(6, (aB x4))] ?_
  refine aN ?_
  refine aS aC 1 [5] [(11, (aB x1))] ?_
  refine bR h0 (fun h0 => ?_) (fun h0 => ?_)
  · refine aN ?_
    refine cO aC 1 [(12, (aB x4))] ?_
    refine bR h0 (fun h0 => ?_) (fun h0 => ?_)
    · refine cO aC 1 [(4, (eI (0 : Int)))] ?_
      refine bL ?_
      obtain rfl := oI h0
      exact aG (aR (aR (Q_r hO)))
    refine bS ?_
    refine bD [] ?_
    refine cO aC 1 [(4, (eI (-1 : Int)))] ?_
    refine bL ?_
    obtain rfl := oI h0
    exact aG (aR (Q_r hO))
  refine bS ?_
  refine bD [(0, (eI x0)), (1, (eI y1)), (6, (aB x4))] ?_
  refine aN ?_
  refine aS aC 1 [6] [(13, (aB x4))] ?_
  refine bR h0 (fun h0 => ?_) (fun h0 => ?_)
  · refine cO aC 1 [(4, (eI (1 : Int)))] ?_
    refine bL ?_
    obtain rfl := oI h0
    exact aG (aR (Q_r hO))
  refine bS ?_
  refine bD [(0, (eI x0)), (1, (eI y1))] ?_
  refine aN ?_
  refine aS aC 3 [] [(16, (aB (decide (x0 < y1))))] ?_
  refine bR h0 (fun h0 => ?_) (fun h0 => ?_)
  · refine cO aC 1 [(4, (eI (-1 : Int)))] ?_
    refine bL ?_
    obtain rfl := oI h0
    exact aG (aR (Q_r hO))
  refine bS ?_
  refine bD [(0, (eI x0)), (1, (eI y1))] ?_
  refine aN ?_
  refine cO aC 3 [(19, (aB (decide (y1 < x0))))] ?_
  refine bR h0 (fun h0 => ?_) (fun h0 => ?_)
  · refine cO aC 1 [(4, (eI (1 : Int)))] ?_
    refine bL ?_
    obtain rfl := oI h0
    exact aG (aR (Q_r hO))
  refine bS ?_
  refine bD [] ?_
  refine cO aC 1 [(4, (eI (0 : Int)))] ?_
  refine bL ?_
  obtain rfl := oI h0
  exact aG (Q_r hO)

theorem qZ (x0 : Int) (r : Bool) (h0 : jX x0 = some r) : dZ Try.prog 110 [(eI x0)] (aB r) := by
  intro H0
  refine dV Try.func110 ?_
  have hO := aJ.start H0
  unfold jX at h0
  refine aS aC 1 [] [] ?_
  refine cO aC 4 [(2, (aB (!decide (x0 = x0))))] ?_
  refine bL ?_
  obtain rfl := oI h0
  exact aG (Q_r hO)

theorem uT (x0 : Int) (y1 : Int) (r : Int) (h0 : fH x0 y1 = some r) : dZ Try.prog 107 [(eI x0), (eI y1)] (eI r) := by
  intro H0
  refine dV Try.func107 ?_
  have hO := aJ.start H0
  unfold fH at h0
  refine aS aC 1 [] [] ?_
  refine aN ?_
  refine aP aC 3 ?_
  refine bN 1 ?_
  obtain ⟨x1, hx2, h0⟩ := aT h0
  refine fB (qZ x0 _ hx2) hO ?_
  intro H hO
  refine bC ?_
  refine cD [] [(5, (aB x1))] ?_
  refine aN ?_
  refine aP aC 3 ?_
  refine bN 1 ?_
  obtain ⟨x4, hx5, h0⟩ := aT h0
  refine fB (qZ y1 _ hx5) hO ?_
  intro H hO
  refine bC ?_
  refine cD [] [(6, (aB x4))] ?_
  refine aN ?_
  refine aS aC 1 [5] [(11, (aB x1))] ?_
  refine bR h0 (fun h0 => ?_) (fun h0 => ?_)
  · refine aN ?_
    refine cO aC 1 [(12, (aB x4))] ?_
    refine bR h0 (fun h0 => ?_) (fun h0 => ?_)
    · refine cO aC 1 [(4, (eI (0 : Int)))] ?_
      refine bL ?_
      obtain rfl := oI h0
      exact aG (aR (aR (Q_r hO)))
    refine bS ?_
    refine bD [] ?_
    refine cO aC 1 [(4, (eI (-1 : Int)))] ?_
    refine bL ?_
    obtain rfl := oI h0
    exact aG (aR (Q_r hO))
  refine bS ?_
  refine bD [(0, (eI x0)), (1, (eI y1)), (6, (aB x4))] ?_
  refine aN ?_
  refine aS aC 1 [6] [(13, (aB x4))] ?_
  refine bR h0 (fun h0 => ?_) (fun h0 => ?_)
  · refine cO aC 1 [(4, (eI (1 : Int)))] ?_
    refine bL ?_
    obtain rfl := oI h0
    exact aG (aR (Q_r hO))
  refine bS ?_
  refine bD [(0, (eI x0)), (1, (eI y1))] ?_
  refine aN ?_
  refine aS aC 3 [] [(16, (aB (decide (x0 < y1))))] ?_
  refine bR h0 (fun h0 => ?_) (fun h0 => ?_)
  · refine cO aC 1 [(4, (eI (-1 : Int)))] ?_
    refine bL ?_
    obtain rfl := oI h0
    exact aG (aR (Q_r hO))
  refine bS ?_
  refine bD [(0, (eI x0)), (1, (eI y1))] ?_
  refine aN ?_
  refine cO aC 3 [(19, (aB (decide (y1 < x0))))] ?_
  refine bR h0 (fun h0 => ?_) (fun h0 => ?_)
  · refine cO aC 1 [(4, (eI (1 : Int)))] ?_
    refine bL ?_
    obtain rfl := oI h0
    exact aG (aR (Q_r hO))
  refine bS ?_
  refine bD [] ?_
  refine cO aC 1 [(4, (eI (0 : Int)))] ?_
  refine bL ?_
  obtain rfl := oI h0
  exact aG (Q_r hO)

theorem sR (a0 : ByteArray) (b1 : ByteArray) (r : Int) (h0 : jB a0 b1 = some r) : dZ Try.prog 111 [(wX a0), (wX b1)] (eI r) := by
  intro H0
  refine dV Try.func111 ?_
  have hO := aJ.start H0
  unfold jB at h0
  refine aS aC 1 [] [] ?_
  refine aN ?_
  refine aP aC 4 ?_
  refine bN 2 ?_
  refine WE 112 [(wX a0), (wX b1)] (eI (GA a0 b1)) (by kernel_rfl) (by kernel_rfl) (UL Try.func112 (by kernel_rfl) (by kernel_rfl) (by kernel_rfl) (by kernel_rfl) a0 b1) hO ?_
  intro H hO
  refine bC ?_
  refine bD [(4, (eI (GA a0 b1)))] ?_
  refine bL ?_
  obtain rfl := oI h0
  exact aG (Q_r hO)

theorem BN (a0 : ByteArray) (b1 : ByteArray) (r : Int) (h0 : lE a0 b1 = some r) : dZ Try.prog 108 [(wX a0), (wX b1)] (eI r) := by
  intro H0
  refine dV Try.func108 ?_
  have hO := aJ.start H0
  unfold lE at h0
  refine aS aC 1 [] [] ?_
  refine aN ?_
  refine aP aC 4 ?_
  refine bN 2 ?_
  obtain ⟨x1, hx2, h0⟩ := aT h0
  refine fB (sR a0 b1 _ hx2) hO ?_
  intro H hO
  refine bC ?_
  refine bD [(4, (eI x1))] ?_
  refine bL ?_
  obtain rfl := oI h0
  exact aG (Q_r hO)

theorem EX (a0 : aD) (b1 : aD) (r : Int) (h0 : nN a0 b1 = some r) : dZ Try.prog 99 [(aI a0), (aI b1)] (eI r) := by
  intro H0
  refine dV Try.func99 ?_
  have hO := aJ.start H0
  unfold nN at h0
  refine aN ?_
  refine aP aC 3 ?_
  refine gM 3 (aI a0) (by kernel_rfl) (by kernel_rfl) ?_
  refine gM 3 (aI b1) (by kernel_rfl) (by kernel_rfl) ?_
  refine bC ?_
  refine bD [(2, (.rp (aI a0))), (3, (.rp (aI b1)))] ?_
  refine aN ?_
  refine aP aC 7 ?_
  refine bN 1 ?_
  obtain ⟨⟨x1_0, x1_1⟩, hx2, h0⟩ := aT h0
  refine fB (tB a0 _ hx2) hO ?_
  intro H hO
  rcases x1_0 with _ | y4 | y5
  · replace h0 : ((kQ b1).bind fun (x6_0, x6_1) => match x6_0 with | .none_ => (cond ((!x1_1) || (!x6_1)) (some (0 : Int)) (none)) | .k_number y9 => (cond ((!x1_1) || (!x6_1)) (some (0 : Int)) (some (1 : Int))) | .k_words y10 => (cond ((!x1_1) || (!x6_1)) (some (0 : Int)) (none))) = some r := h0
    refine bC ?_
    refine cD [2] [(5, (aX bA.none_)), (6, (aB x1_1))] ?_
    refine aN ?_
    refine aP aC 7 ?_
    refine bN 1 ?_
    obtain ⟨⟨x6_0, x6_1⟩, hx7, h0⟩ := aT h0
    refine fB (tB b1 _ hx7) hO ?_
    intro H hO
    rcases x6_0 with _ | y9 | y10
    · replace h0 : (cond ((!x1_1) || (!x6_1)) (some (0 : Int)) (none)) = some r := h0
      refine bC ?_
      refine cD [3] [(7, (aX bA.none_)), (8, (aB x6_1))] ?_
      refine aN ?_
      refine aS aC 6 [6, 8] [(28, (aB ((!x1_1) || (!x6_1))))] ?_
      refine bR h0 (fun h0 => ?_) (fun h0 => ?_)
      · refine cO aC 1 [(4, (eI (0 : Int)))] ?_
        refine bL ?_
        obtain rfl := oI h0
        exact aG (aR (Q_r hO))
      refine bS ?_
      refine bD [(5, (aX bA.none_)), (7, (aX bA.none_))] ?_
      refine aS aC 7 [] [(9, (eI 0)), (10, (aB false))] ?_
      refine aS aC 7 [] [(11, (eI 0)), (12, (aB false))] ?_
      refine aN ?_
      refine cG 0 ?_
      refine aS aC 5 [] [(39, (aB false))] ?_
      refine lJ (false) (fun hc12 => ?_) (fun hc12 => ?_)
      · cases hc12
      · refine aS aC 2 [9, 10, 11, 39] [(47, (aB false))] ?_
        refine lJ (false) (fun hc13 => ?_) (fun hc13 => ?_)
        · cases hc13
        · refine cO aC 2 [(5, (aX bA.none_)), (7, (aX bA.none_)), (49, (aB false))] ?_
          refine lJ (false) (fun hc14 => ?_) (fun hc14 => ?_)
          · cases hc14
          · refine bS ?_
            refine iM [(5, (aX bA.none_)), (7, (aX bA.none_))] ?_
            refine aG (aV (aH (?_)))
            refine aN ?_
            refine gU (gV []) aC 6 ?_
            cases h0
    · replace h0 : (cond ((!x1_1) || (!x6_1)) (some (0 : Int)) (some (1 : Int))) = some r := h0
      refine bC ?_
      refine cD [3] [(7, (aX (bA.k_number y9))), (8, (aB x6_1))] ?_
      refine aN ?_
      refine aS aC 6 [6, 8] [(28, (aB ((!x1_1) || (!x6_1))))] ?_
      refine bR h0 (fun h0 => ?_) (fun h0 => ?_)
      · refine cO aC 1 [(4, (eI (0 : Int)))] ?_
        refine bL ?_
        obtain rfl := oI h0
        exact aG (aR (Q_r hO))
      refine bS ?_
      refine bD [(5, (aX bA.none_)), (7, (aX (bA.k_number y9)))] ?_
      refine aS aC 7 [] [(9, (eI 0)), (10, (aB false))] ?_
      refine aS aC 7 [] [(11, (eI y9)), (12, (aB true))] ?_
      refine aN ?_
      refine cG 0 ?_
      refine aS aC 5 [] [(39, (aB false))] ?_
      refine lJ (false) (fun hc16 => ?_) (fun hc16 => ?_)
      · cases hc16
      · refine aS aC 2 [9, 10, 11, 39] [(47, (aB false))] ?_
        refine lJ (false) (fun hc17 => ?_) (fun hc17 => ?_)
        · cases hc17
        · refine cO aC 2 [(5, (aX bA.none_)), (7, (aX (bA.k_number y9))), (49, (aB true))] ?_
          refine lJ (true) (fun hc18 => ?_) (fun hc18 => ?_)
          · refine cO aC 1 [(4, (eI (1 : Int)))] ?_
            refine bL ?_
            obtain rfl := oI h0
            exact aG (bJ (aR (Q_r hO)))
          · cases hc18
    · replace h0 : (cond ((!x1_1) || (!x6_1)) (some (0 : Int)) (none)) = some r := h0
      refine bC ?_
      refine cD [3] [(7, (aX (bA.k_words y10))), (8, (aB x6_1))] ?_
      refine aN ?_
      refine aS aC 6 [6, 8] [(28, (aB ((!x1_1) || (!x6_1))))] ?_
      refine bR h0 (fun h0 => ?_) (fun h0 => ?_)
      · refine cO aC 1 [(4, (eI (0 : Int)))] ?_
        refine bL ?_
        obtain rfl := oI h0
        exact aG (aR (Q_r hO))
      refine bS ?_
      refine bD [(5, (aX bA.none_)), (7, (aX (bA.k_words y10)))] ?_
      refine aS aC 7 [] [(9, (eI 0)), (10, (aB false))] ?_
      refine aS aC 7 [] [(11, (eI 0)), (12, (aB false))] ?_
      refine aN ?_
      refine cG 0 ?_
      refine aS aC 5 [] [(39, (aB false))] ?_
      refine lJ (false) (fun hc20 => ?_) (fun hc20 => ?_)
      · cases hc20
      · refine aS aC 2 [9, 10, 11, 39] [(47, (aB false))] ?_
        refine lJ (false) (fun hc21 => ?_) (fun hc21 => ?_)
        · cases hc21
        · refine cO aC 2 [(5, (aX bA.none_)), (7, (aX (bA.k_words y10))), (49, (aB false))] ?_
          refine lJ (false) (fun hc22 => ?_) (fun hc22 => ?_)
          · cases hc22
          · refine bS ?_
            refine iM [(5, (aX bA.none_)), (7, (aX (bA.k_words y10)))] ?_
            refine aG (aV (aH (?_)))
            refine aN ?_
            refine gU (gV []) aC 6 ?_
            cases h0
  · replace h0 : ((kQ b1).bind fun (x23_0, x23_1) => match x23_0 with | .none_ => (cond ((!x1_1) || (!x23_1)) (some (0 : Int)) (some (-1 : Int))) | .k_number y26 => (cond ((!x1_1) || (!x23_1)) (some (0 : Int)) ((fH y4 y26).bind fun x33 => some x33)) | .k_words y27 => (cond ((!x1_1) || (!x23_1)) (some (0 : Int)) (some (-1 : Int)))) = some r := h0
    refine bC ?_
    refine cD [2] [(5, (aX (bA.k_number y4))), (6, (aB x1_1))] ?_
    refine aN ?_
    refine aP aC 7 ?_
    refine bN 1 ?_
    obtain ⟨⟨x23_0, x23_1⟩, hx24, h0⟩ := aT h0
    refine fB (tB b1 _ hx24) hO ?_
    intro H hO
    rcases x23_0 with _ | y26 | y27
    · replace h0 : (cond ((!x1_1) || (!x23_1)) (some (0 : Int)) (some (-1 : Int))) = some r := h0
      refine bC ?_
      refine cD [3] [(7, (aX bA.none_)), (8, (aB x23_1))] ?_
      refine aN ?_
      refine aS aC 6 [6, 8] [(28, (aB ((!x1_1) || (!x23_1))))] ?_
      refine bR h0 (fun h0 => ?_) (fun h0 => ?_)
      · refine cO aC 1 [(4, (eI (0 : Int)))] ?_
        refine bL ?_
        obtain rfl := oI h0
        exact aG (aR (Q_r hO))
      refine bS ?_
      refine bD [(5, (aX (bA.k_number y4))), (7, (aX bA.none_))] ?_
      refine aS aC 7 [] [(9, (eI y4)), (10, (aB true))] ?_
      refine aS aC 7 [] [(11, (eI 0)), (12, (aB false))] ?_
      refine aN ?_
      refine cG 0 ?_
      refine aS aC 5 [] [(39, (aB false))] ?_
      refine lJ (false) (fun hc29 => ?_) (fun hc29 => ?_)
      · cases hc29
      · refine aS aC 2 [9, 10, 11, 39] [(47, (aB true))] ?_
        refine lJ (true) (fun hc30 => ?_) (fun hc30 => ?_)
        · refine cO aC 1 [(4, (eI (-1 : Int)))] ?_
          refine bL ?_
          obtain rfl := oI h0
          exact aG (bJ (aR (Q_r hO)))
        · cases hc30
    · replace h0 : (cond ((!x1_1) || (!x23_1)) (some (0 : Int)) ((fH y4 y26).bind fun x33 => some x33)) = some r := h0
      refine bC ?_
      refine cD [3] [(7, (aX (bA.k_number y26))), (8, (aB x23_1))] ?_
      refine aN ?_
      refine aS aC 6 [6, 8] [(28, (aB ((!x1_1) || (!x23_1))))] ?_
      refine bR h0 (fun h0 => ?_) (fun h0 => ?_)
      · refine cO aC 1 [(4, (eI (0 : Int)))] ?_
        refine bL ?_
        obtain rfl := oI h0
        exact aG (aR (Q_r hO))
      refine bS ?_
      refine bD [(5, (aX (bA.k_number y4))), (7, (aX (bA.k_number y26)))] ?_
      refine aS aC 7 [] [(9, (eI y4)), (10, (aB true))] ?_
      refine aS aC 7 [] [(11, (eI y26)), (12, (aB true))] ?_
      refine aN ?_
      refine cG 0 ?_
      refine aS aC 5 [] [(39, (aB true))] ?_
      refine lJ (true) (fun hc32 => ?_) (fun hc32 => ?_)
      · refine aN ?_
        refine aP aC 4 ?_
        refine bN 2 ?_
        obtain ⟨x33, hx34, h0⟩ := aT h0
        refine fB (uT y4 y26 _ hx34) hO ?_
        intro H hO
        refine bC ?_
        refine bD [(4, (eI x33))] ?_
        refine bL ?_
        obtain rfl := oI h0
        exact aG (bJ (aR (Q_r hO)))
      · cases hc32
    · replace h0 : (cond ((!x1_1) || (!x23_1)) (some (0 : Int)) (some (-1 : Int))) = some r := h0
      refine bC ?_
      refine cD [3] [(7, (aX (bA.k_words y27))), (8, (aB x23_1))] ?_
      refine aN ?_
      refine aS aC 6 [6, 8] [(28, (aB ((!x1_1) || (!x23_1))))] ?_
      refine bR h0 (fun h0 => ?_) (fun h0 => ?_)
      · refine cO aC 1 [(4, (eI (0 : Int)))] ?_
        refine bL ?_
        obtain rfl := oI h0
        exact aG (aR (Q_r hO))
      refine bS ?_
      refine bD [(5, (aX (bA.k_number y4))), (7, (aX (bA.k_words y27)))] ?_
      refine aS aC 7 [] [(9, (eI y4)), (10, (aB true))] ?_
      refine aS aC 7 [] [(11, (eI 0)), (12, (aB false))] ?_
      refine aN ?_
      refine cG 0 ?_
      refine aS aC 5 [] [(39, (aB false))] ?_
      refine lJ (false) (fun hc37 => ?_) (fun hc37 => ?_)
      · cases hc37
      · refine aS aC 2 [9, 10, 11, 39] [(47, (aB true))] ?_
        refine lJ (true) (fun hc38 => ?_) (fun hc38 => ?_)
        · refine cO aC 1 [(4, (eI (-1 : Int)))] ?_
          refine bL ?_
          obtain rfl := oI h0
          exact aG (bJ (aR (Q_r hO)))
        · cases hc38
  · replace h0 : ((kQ b1).bind fun (x39_0, x39_1) => match x39_0 with | .none_ => (cond ((!x1_1) || (!x39_1)) (some (0 : Int)) (none)) | .k_number y42 => (cond ((!x1_1) || (!x39_1)) (some (0 : Int)) (some (1 : Int))) | .k_words y43 => (cond ((!x1_1) || (!x39_1)) (some (0 : Int)) ((lE y5 y43).bind fun x56 => some x56))) = some r := h0
    refine bC ?_
    refine cD [2] [(5, (aX (bA.k_words y5))), (6, (aB x1_1))] ?_
    refine aN ?_
    refine aP aC 7 ?_
    refine bN 1 ?_
    obtain ⟨⟨x39_0, x39_1⟩, hx40, h0⟩ := aT h0
    refine fB (tB b1 _ hx40) hO ?_
    intro H hO
    rcases x39_0 with _ | y42 | y43
    · replace h0 : (cond ((!x1_1) || (!x39_1)) (some (0 : Int)) (none)) = some r := h0
      refine bC ?_
      refine cD [3] [(7, (aX bA.none_)), (8, (aB x39_1))] ?_
      refine aN ?_
      refine aS aC 6 [6, 8] [(28, (aB ((!x1_1) || (!x39_1))))] ?_
      refine bR h0 (fun h0 => ?_) (fun h0 => ?_)
      · refine cO aC 1 [(4, (eI (0 : Int)))] ?_
        refine bL ?_
        obtain rfl := oI h0
        exact aG (aR (Q_r hO))
      refine bS ?_
      refine bD [(5, (aX (bA.k_words y5))), (7, (aX bA.none_))] ?_
      refine aS aC 7 [] [(9, (eI 0)), (10, (aB false))] ?_
      refine aS aC 7 [] [(11, (eI 0)), (12, (aB false))] ?_
      refine aN ?_
      refine cG 0 ?_
      refine aS aC 5 [] [(39, (aB false))] ?_
      refine lJ (false) (fun hc45 => ?_) (fun hc45 => ?_)
      · cases hc45
      · refine aS aC 2 [9, 10, 11, 39] [(47, (aB false))] ?_
        refine lJ (false) (fun hc46 => ?_) (fun hc46 => ?_)
        · cases hc46
        · refine cO aC 2 [(5, (aX (bA.k_words y5))), (7, (aX bA.none_)), (49, (aB false))] ?_
          refine lJ (false) (fun hc47 => ?_) (fun hc47 => ?_)
          · cases hc47
          · refine bS ?_
            refine iM [(5, (aX (bA.k_words y5))), (7, (aX bA.none_))] ?_
            refine aG (aV (aH (?_)))
            refine aN ?_
            refine gU (gV []) aC 6 ?_
            cases h0
    · replace h0 : (cond ((!x1_1) || (!x39_1)) (some (0 : Int)) (some (1 : Int))) = some r := h0
      refine bC ?_
      refine cD [3] [(7, (aX (bA.k_number y42))), (8, (aB x39_1))] ?_
      refine aN ?_
      refine aS aC 6 [6, 8] [(28, (aB ((!x1_1) || (!x39_1))))] ?_
      refine bR h0 (fun h0 => ?_) (fun h0 => ?_)
      · refine cO aC 1 [(4, (eI (0 : Int)))] ?_
        refine bL ?_
        obtain rfl := oI h0
        exact aG (aR (Q_r hO))
      refine bS ?_
      refine bD [(5, (aX (bA.k_words y5))), (7, (aX (bA.k_number y42)))] ?_
      refine aS aC 7 [] [(9, (eI 0)), (10, (aB false))] ?_
      refine aS aC 7 [] [(11, (eI y42)), (12, (aB true))] ?_
      refine aN ?_
      refine cG 0 ?_
      refine aS aC 5 [] [(39, (aB false))] ?_
      refine lJ (false) (fun hc49 => ?_) (fun hc49 => ?_)
      · cases hc49
      · refine aS aC 2 [9, 10, 11, 39] [(47, (aB false))] ?_
        refine lJ (false) (fun hc50 => ?_) (fun hc50 => ?_)
        · cases hc50
        · refine cO aC 2 [(5, (aX (bA.k_words y5))), (7, (aX (bA.k_number y42))), (49, (aB true))] ?_
          refine lJ (true) (fun hc51 => ?_) (fun hc51 => ?_)
          · refine cO aC 1 [(4, (eI (1 : Int)))] ?_
            refine bL ?_
            obtain rfl := oI h0
            exact aG (bJ (aR (Q_r hO)))
          · cases hc51
    · replace h0 : (cond ((!x1_1) || (!x39_1)) (some (0 : Int)) ((lE y5 y43).bind fun x56 => some x56)) = some r := h0
      refine bC ?_
      refine cD [3] [(7, (aX (bA.k_words y43))), (8, (aB x39_1))] ?_
      refine aN ?_
      refine aS aC 6 [6, 8] [(28, (aB ((!x1_1) || (!x39_1))))] ?_
      refine bR h0 (fun h0 => ?_) (fun h0 => ?_)
      · refine cO aC 1 [(4, (eI (0 : Int)))] ?_
        refine bL ?_
        obtain rfl := oI h0
        exact aG (aR (Q_r hO))
      refine bS ?_
      refine bD [(5, (aX (bA.k_words y5))), (7, (aX (bA.k_words y43)))] ?_
      refine aS aC 7 [] [(9, (eI 0)), (10, (aB false))] ?_
      refine aS aC 7 [] [(11, (eI 0)), (12, (aB false))] ?_
      refine aN ?_
      refine cG 0 ?_
      refine aS aC 5 [] [(39, (aB false))] ?_
      refine lJ (false) (fun hc53 => ?_) (fun hc53 => ?_)
      · cases hc53
      · refine aS aC 2 [9, 10, 11, 39] [(47, (aB false))] ?_
        refine lJ (false) (fun hc54 => ?_) (fun hc54 => ?_)
        · cases hc54
        · refine cO aC 2 [(5, (aX (bA.k_words y5))), (7, (aX (bA.k_words y43))), (49, (aB false))] ?_
          refine lJ (false) (fun hc55 => ?_) (fun hc55 => ?_)
          · cases hc55
          · refine bS ?_
            refine iM [(5, (aX (bA.k_words y5))), (7, (aX (bA.k_words y43)))] ?_
            refine aG (aV (aH (?_)))
            refine aN ?_
            refine gU (gV []) aC 6 ?_
            refine lI 4 ?_
            obtain ⟨x56, hx57, h0⟩ := aT h0
            refine xB (BN y5 y43 _ hx57) hO ?_
            intro H hO
            refine kX ?_
            refine bD [(4, (eI x56))] ?_
            refine bL ?_
            obtain rfl := oI h0
            exact aG (Q_r hO)

theorem HT (a0 : (List aD)) (b1 : (List aD)) (r : Int) (h0 : pM a0 b1 = some r) : dZ Try.prog 72 [(eL aI a0), (eL aI b1)] (eI r) := by
  intro H0
  refine dV Try.func72 ?_
  have hO := aJ.start H0
  unfold pM at h0
  refine aN ?_
  refine aP aC 2 ?_
  refine gM 1 (eL aI b1) (by kernel_rfl) (by kernel_rfl) ?_
  refine bC ?_
  refine cD [1] [(3, (.rp (eL aI b1)))] ?_
  refine aN ?_
  refine aN ?_
  refine aP aC 8 ?_
  refine bN 1 ?_
  obtain ⟨x1, hx2, h0⟩ := aT h0
  refine fB (AI a0 _ hx2) hO ?_
  intro H hO
  refine bN 5 ?_
  obtain ⟨x4, hx5, h0⟩ := aT h0
  refine nF [(10, false)] 71 [(eL aI b1)] (aB x4) (!(!x1)) (by kernel_rfl) (by kernel_rfl) (by kernel_rfl) (fun hb6 => (AI b1 _ (kO hx5 hb6))) hO ?_
  intro H hO
  refine bC ?_
  refine cD [] [(14, (aB ((!x1) || (!x4))))] ?_
  refine bR h0 (fun h0 => ?_) (fun h0 => ?_)
  · refine cO aC 1 [(4, (eI (0 : Int)))] ?_
    refine bL ?_
    obtain rfl := oI h0
    exact aG (aR (Q_r hO))
  refine bS ?_
  refine bD [(0, (eL aI a0)), (3, (.rp (eL aI b1)))] ?_
  refine aS aC 6 [] [(5, (eI (if (lN b1) < (lN a0) then (lN b1) else (lN a0))))] ?_
  refine aN ?_
  refine gU (gV []) aC 7 ?_
  obtain ⟨c8, h0⟩ := aY h0
  refine cF 4 [0 ≤ (if (lN b1) < (lN a0) then (lN b1) else (lN a0)) ∧ (if (lN b1) < (lN a0) then (lN b1) else (lN a0)) ≤ (lN a0)] ⟨c8, trivial⟩ ?_
  obtain ⟨x9, hx10, h0⟩ := aT h0
  refine WV (L' := fun lo11 => [(lo11, 1, [(eI x9.1)])]) 1 [(eI x9.1)] 96 [(.rp (eL aI b1))] (fun lo11 => (.fn (.func 97) [] [(.lp lo11 0 0), (.rp (eL aI x9.2))])) (by kernel_rfl) (by kernel_rfl) (EZ b1 _ hx10) hO (fun _ => by kernel_rfl) ?_
  intro lo11 H hO
  obtain ⟨x12, hx13, h0⟩ := aT h0
  refine WY (fun st G' => G' = up [(lo11, 1, [(eI st)])] ++ []) [(lo11, 1, [(eI x12.1)])] x9.1 x12.1 95 [(.sl false (Int.toNat (if (lN b1) < (lN a0) then (lN b1) else (lN a0))) (fun i => aI (List.getD a0 i default))), (.fn (.func 97) [] [(.lp lo11 0 0), (.rp (eL aI x9.2))])] (eI x12.2) (by kernel_rfl) (by kernel_rfl) (sM.sub (as0' := [(eL aI (List.take (Int.toNat (if (lN b1) < (lN a0) then (lN b1) else (lN a0))) a0)), (.fn (.func 97) [] [(.lp lo11 0 0), (.rp (eL aI x9.2))])]) (qC _ (List.take (Int.toNat (if (lN b1) < (lN a0) then (lN b1) else (lN a0))) a0) (.fn (.func 97) [] [(.lp lo11 0 0), (.rp (eL aI x9.2))]) (fun st y0 => (jI y0 st x9.2).bind fun o => some (o.2, o.1)) (fun st y0 st2 rr hr => (BM y0 lo11 st x9.2 _ (ZM hr)).toV (ys := []) (zs := [(aI y0)]) (cs := [(.lp lo11 0 0), (.rp (eL aI x9.2))]) (fun Gx hG => ⟨up [], up [] ++ [], hG, rfl⟩)) _ _ hx13) ⟨XB (Int.toNat_le.2 (And.right c8)), aL.refl _, trivial⟩) hO rfl (fun _ h => h) ?_
  intro H hO
  refine kX ?_
  replace hO := hO.pick (L' := []) [] (by decide) (by kernel_rfl)
  refine cD [5] [(6, (eI x12.2))] ?_
  refine aN ?_
  refine aS aC 2 [] [(27, (aB (decide (x12.2 < (0 : Int)))))] ?_
  refine bR h0 (fun h0 => ?_) (fun h0 => ?_)
  · refine aN ?_
    refine aP aC 6 ?_
    refine bN 4 ?_
    obtain ⟨x15, hx16, h0⟩ := aT h0
    refine fB (BK (lN a0) (lN b1) _ hx16) hO ?_
    intro H hO
    refine bC ?_
    refine bD [(4, (eI x15))] ?_
    refine bL ?_
    obtain rfl := oI h0
    exact aG (aR (Q_r hO))
  refine bS ?_
  refine bD [(0, (eL aI a0)), (3, (.rp (eL aI b1))), (6, (eI x12.2))] ?_
  refine aN ?_
  refine gU (gV [36, 37, 40, 41]) aC 10 ?_
  obtain ⟨c18, h0⟩ := aY h0
  obtain ⟨c19, h0⟩ := aY h0
  refine cF 8 [0 ≤ x12.2 ∧ x12.2 < (lN a0), 0 ≤ x12.2 ∧ x12.2 < (lN b1)] ⟨c18, c19, trivial⟩ ?_
  obtain ⟨x20, hx21, h0⟩ := aT h0
  refine xB (EX (gD a0 x12.2) (gD b1 x12.2) _ hx21) hO ?_
  intro H hO
  refine kX ?_
  refine bD [(4, (eI x20))] ?_
  refine bL ?_
  obtain rfl := oI h0
  exact aG (Q_r hO)

theorem BX (l0 : (List bE)) (holds1_f : Nat) (holds1_a holds1_c : List V) (rA : (List aF) → Option Bool) (holds1_h : ∀ a0 r, rA a0 = some r → dZ Try.prog holds1_f (holds1_a ++ [(eL aK a0)] ++ holds1_c) (aB r)) (r : Bool) (h0 : pS l0 rA = some r) : dZ Try.prog 49 [(eL bP l0), (.fn (.func holds1_f) holds1_a holds1_c)] (aB r) := by
  intro H0
  refine xN aC Try.func49 (by kernel_rfl) (by kernel_rfl) (by kernel_rfl) ?_
  have hO := aJ.start H0
  unfold pS at h0
  refine aN ?_
  refine aP aC 2 ?_
  refine gM 1 (.fn (.func holds1_f) holds1_a holds1_c) (by kernel_rfl) (by kernel_rfl) ?_
  refine kI 1 (aB false) (by kernel_rfl) (by kernel_rfl) hO ?_
  intro lo1 H hO
  refine dQ ?_
  refine cD [1] [(3, (.rp (.fn (.func holds1_f) holds1_a holds1_c))), (4, (.lp lo1 0 0))] ?_
  refine aN ?_
  refine aS aC 3 [] [(11, (aB (decide ((4096 : Int) < (lN l0)))))] ?_
  refine bR h0 (fun h0 => ?_) (fun h0 => ?_)
  · refine aN ?_
    refine aP aC 1 ?_
    refine iT 0 lo1 1 0 (aB false) (aB false) [(aB false)] [(lo1, 1, [(aB false)])] hO rfl (by kernel_rfl) ?_
    intro H hO
    refine dQ ?_
    refine bD [(4, (.lp lo1 0 0))] ?_
    refine bL ?_
    obtain rfl := oI h0
    exact aG (aR (QM0 (.inr rfl) (rs := [.cell 4 4]) (xs := [(aB false)]) (x := (aB false)) (by kernel_rfl) (gX (lo := lo1) (k := 1) (y := (aB false)) (x := (aB false)) 0 hO (by kernel_rfl) (by kernel_rfl) (by kernel_rfl) (by kernel_rfl) lK) (by kernel_rfl) ⟨rfl, hO.out⟩))
  refine bS ?_
  refine bD [(0, (eL bP l0)), (3, (.rp (.fn (.func holds1_f) holds1_a holds1_c))), (4, (.lp lo1 0 0))] ?_
  refine aN ?_
  refine aP aC 1 ?_
  refine yM 1 (.sl true 0 (fun _ => .bad)) (eL aI ([])) (by kernel_rfl) (by kernel_rfl) (by kernel_rfl) (nE) (by kernel_rfl) (by kernel_rfl) hO ?_
  intro lo3 H hO
  refine dQ ?_
  refine cD [] [(5, (.lp lo3 0 0))] ?_
  refine aN ?_
  refine aP aC 2 ?_
  refine kI 1 (aB false) (by kernel_rfl) (by kernel_rfl) hO ?_
  intro lo4 H hO
  refine iT 2 lo4 1 0 (aB false) (aB false) [(aB false)] [(lo1, 1, [(aB false)]), (lo3, 1, [(eL aI ([]))]), (lo4, 1, [(aB false)])] hO rfl (by kernel_rfl) ?_
  intro H hO
  refine dQ ?_
  refine cD [] [(6, (.lp lo4 0 0))] ?_
  refine aN ?_
  refine aN ?_
  refine aP aC 2 ?_
  refine bN 1 ?_
  obtain ⟨x5, hx6, h0⟩ := aT h0
  refine fB (BZ l0 _ hx6) hO ?_
  intro H hO
  refine dQ ?_
  refine cD [0] [(13, (.fn (.func 74) [] [(.rp (eL bP x5))]))] ?_
  refine cG 0 ?_
  refine iC [(3, (.rp (.fn (.func holds1_f) holds1_a holds1_c))), (4, (.lp lo1 0 0)), (5, (.lp lo3 0 0)), (6, (.lp lo4 0 0)), (13, (.fn (.func 74) [] [(.rp (eL bP x5))]))] ?_
  refine iF (fun T H => ∃ t4 : Bool, ∃ mS : (List aD), ∃ jL : Bool, ∃ rR : (List bE), Has T [(3, (.rp (.fn (.func holds1_f) holds1_a holds1_c))), (4, (.lp lo1 0 0)), (5, (.lp lo3 0 0)), (6, (.lp lo4 0 0)), (13, (.fn (.func 74) [] [(.rp (eL bP rR))]))] ∧ aJ ⟨H0, [], []⟩ H [(lo1, 1, [(aB t4)]), (lo3, 1, [(eL aI mS)]), (lo4, 1, [(aB jL)])] ∧ tG rA t4 mS jL rR = some r) ?_ ⟨false, [], false, x5, .eq (by kernel_rfl), hO, h0⟩
  clear hO h0
  rintro T H ⟨t4, mS, jL, rR, hT, hO, h0⟩
  refine bM (l := [(3, (.rp (.fn (.func holds1_f) holds1_a holds1_c))), (4, (.lp lo1 0 0)), (5, (.lp lo3 0 0)), (6, (.lp lo4 0 0)), (13, (.fn (.func 74) [] [(.rp (eL bP rR))]))]) hT ?_
  clear hT
  unfold tG at h0
  obtain ⟨o0, hl0, h0⟩ := aT h0
  refine wJ (fid := 74) (ys := []) (cs := [(.rp (eL bP rR))]) #[14, 15] (fun (A : qI) (b lL : Nat) (st : (Bool × (List aD) × Bool) ⊕ (Bool × (List aD) × Bool)) (G' : Gs) => Sum.elim (fun (s : Bool × (List aD) × Bool) => G' = (lL, .raw (fR b A .ready none)) :: (up [(lo1, 1, [(aB s.1)]), (lo3, 1, [(eL aI s.2.1)]), (lo4, 1, [(aB s.2.2)])] ++ [])) (fun (s : Bool × (List aD) × Bool) => G' = (lL, .raw (fR b A .done (some .ret))) :: (up [(lo1, 1, [(aB s.1)]), (lo3, 1, [(eL aI s.2.1)]), (lo4, 1, [(aB s.2.2)])] ++ [])) st) (.inl (t4, mS, jL)) o0 (.tup []) (by kernel_rfl) (by kernel_rfl) (by kernel_rfl) hO (fun _ _ => rfl) ?_ ?_
  · intro b lL
    clear hO h0
    refine wV _ b (fun st t14 t15 => rnd (fun (s : Bool × (List aD) × Bool) => mW rA rR s.1 s.2.1 s.2.2 t14 t15) st) ?_ rR _ _ hl0
    intro st t14 t15 out1 rr hr
    obtain ⟨s, rfl, h1, rfl⟩ := FY hr
    clear hr
    intro Hr Gr hi hg
    obtain ⟨t4, mS, jL⟩ := s
    dsimp only [Sum.elim_inl] at hi
    obtain rfl := hi
    replace h1 : mW rA rR t4 mS jL t14 t15 = some out1 := h1
    unfold mW at h1
    obtain ⟨E1, hE, hO⟩ := pZ hg
    refine pT (tW (hO.gm 0 _ rfl).2 (by kernel_rfl) (by kernel_rfl) ?_)
    refine iC [(3, (.rp (.fn (.func holds1_f) holds1_a holds1_c))), (4, (.lp lo1 0 0)), (5, (.lp lo3 0 0)), (6, (.lp lo4 0 0)), (13, (.fn (.func 74) [] [(.rp (eL bP rR))])), (14, (eL aI t14)), (15, (eL aK t15))] ?_
    refine aS aC 1 [13, 14] [(7, (eL aI t14))] ?_
    refine aP aC 1 ?_
    refine bC ?_
    refine iM [(3, (.rp (.fn (.func holds1_f) holds1_a holds1_c))), (4, (.lp lo1 0 0)), (5, (.lp lo3 0 0)), (6, (.lp lo4 0 0)), (7, (eL aI t14)), (8, (eL aK t15))] ?_
    refine aG (⟨rfl, rfl, (hO.gm 0 _ rfl).2, ?_⟩)
    intro o1 ho1
    replace hO := hO.mY o1
    refine cG 1 ?_
    refine aN ?_
    refine aN ?_
    refine aP aC 18 ?_
    refine bN 1 ?_
    obtain ⟨x7, hx8, h1⟩ := aT h1
    refine fB (AI t14 _ hx8) hO ?_
    intro H hO
    refine bN 4 ?_
    refine sV [(19, false)] 2 lo4 1 0 (aB jL) (aB jL) [(aB jL)] (by kernel_rfl) (by kernel_rfl) hO (by kernel_rfl) (!(!x7)) (by kernel_rfl) (fun hb10 => rfl) ?_
    refine bN 6 ?_
    refine sV [(21, true), (19, false)] 1 lo3 1 0 (eL aI mS) (eL aI mS) [(eL aI mS)] (by kernel_rfl) (by kernel_rfl) hO (by kernel_rfl) (jL && (!(!x7))) (by kernel_rfl) (fun hb11 => rfl) ?_
    refine bN 8 ?_
    obtain ⟨x12, hx13, h1⟩ := aT h1
    refine nF [(21, true), (19, false)] 72 [(eL aI mS), (eL aI t14)] (eI x12) (jL && (!(!x7))) (by kernel_rfl) (by kernel_rfl) (by kernel_rfl) (fun hb14 => (HT mS t14 _ (kO hx13 hb14))) hO ?_
    intro H hO
    refine bN 15 ?_
    obtain ⟨x15, hx16, h1⟩ := aT h1
    refine nF [(28, false)] holds1_f (holds1_a ++ [(eL aK t15)] ++ holds1_c) (aB x15) (!((!x7) || (jL && (decide ((0 : Int) ≤ x12))))) (by kernel_rfl) (by kernel_rfl) (by kernel_rfl) (fun hb17 => (holds1_h t15 _ (kO hx16 hb17))) hO ?_
    intro H hO
    refine bC ?_
    refine cD [3, 8] [(33, (aB (((!x7) || (jL && (decide ((0 : Int) ≤ x12)))) || (!x15))))] ?_
    refine bR h1 (fun h1 => ?_) (fun h1 => ?_)
    · refine aN ?_
      refine aP aC 1 ?_
      refine iT 0 lo1 1 0 (aB t4) (aB false) [(aB t4)] [(lo1, 1, [(aB false)]), (lo3, 1, [(eL aI mS)]), (lo4, 1, [(aB jL)])] hO rfl (by kernel_rfl) ?_
      intro H hO
      refine dQ ?_
      refine cD [7, 33] [] ?_
      refine bL ?_
      refine iM [(4, (.lp lo1 0 0)), (5, (.lp lo3 0 0)), (6, (.lp lo4 0 0))] ?_
      obtain rfl := oI h1
      exact aG (aR (bJ (⟨(eA hO hE ho1 .dead).1, rfl, _, rfl, (eA hO hE ho1 _).2⟩)))
    refine bS ?_
    refine bD [(4, (.lp lo1 0 0)), (5, (.lp lo3 0 0)), (6, (.lp lo4 0 0)), (7, (eL aI t14))] ?_
    refine aP aC 3 ?_
    refine bN 1 ?_
    refine iT 1 lo3 1 0 (eL aI mS) (eL aI t14) [(eL aI mS)] [(lo1, 1, [(aB t4)]), (lo3, 1, [(eL aI t14)]), (lo4, 1, [(aB jL)])] hO rfl (by kernel_rfl) ?_
    intro H hO
    refine iT 2 lo4 1 0 (aB jL) (aB true) [(aB jL)] [(lo1, 1, [(aB t4)]), (lo3, 1, [(eL aI t14)]), (lo4, 1, [(aB true)])] hO rfl (by kernel_rfl) ?_
    intro H hO
    refine dQ ?_
    refine iM [(4, (.lp lo1 0 0)), (5, (.lp lo3 0 0)), (6, (.lp lo4 0 0))] ?_
    obtain rfl := oI h1
    exact aG (aV (⟨(eA hO hE ho1 .dead).1, rfl, _, rfl, (eA hO hE ho1 _).2⟩))
  · intro b lD19 lL H' G' hi hO
    rcases o0 with s | s
    · dsimp only [Sum.elim_inl] at hi
      obtain rfl := hi
      replace h0 : (some true) = some r := h0
      obtain ⟨hlL, hO⟩ := lW hO
      refine ⟨_, _, hlL, (by intro e; cases e), ?_⟩
      refine iM [(4, (.lp lo1 0 0))] ?_
      replace hO := hO.pick (L' := [(lo1, 1, [(aB s.1)])]) [0] (by decide) (by kernel_rfl)
      refine aG (aV (aH (?_)))
      refine aN ?_
      refine aP aC 1 ?_
      refine iT 0 lo1 1 0 (aB s.1) (aB true) [(aB s.1)] [(lo1, 1, [(aB true)])] hO rfl (by kernel_rfl) ?_
      intro H hO
      refine dQ ?_
      refine bD [(4, (.lp lo1 0 0))] ?_
      refine bL ?_
      obtain rfl := oI h0
      have hD := (hO.gm 0 _ rfl).2
      replace hO := (hO.mY .dead).nL
      exact aG (QM1 (.inr rfl) hD (rs := [.cell 4 4]) (xs := [(aB true)]) (x := (aB true)) (by kernel_rfl) (gX (lo := lo1) (k := 1) (y := (aB true)) (x := (aB true)) 0 hO (by kernel_rfl) (by kernel_rfl) (by kernel_rfl) (by kernel_rfl) lK) (by kernel_rfl) ⟨rfl, hO.out⟩)
    · dsimp only [Sum.elim_inr] at hi
      obtain rfl := hi
      replace h0 : (some s.1) = some r := h0
      obtain ⟨hlL, hO⟩ := lW hO
      refine ⟨_, _, hlL, (by intro e; cases e), ?_⟩
      refine bL ?_
      replace hO := hO.pick (L' := [(lo1, 1, [(aB s.1)])]) [0] (by decide) (by kernel_rfl)
      obtain rfl := oI h0
      have hD := (hO.gm 0 _ rfl).2
      replace hO := (hO.mY .dead).nL
      exact aG (bJ (aR (QM1 (.inr rfl) hD (rs := [.cell 4 4]) (xs := [(aB s.1)]) (x := (aB s.1)) (by kernel_rfl) (gX (lo := lo1) (k := 1) (y := (aB s.1)) (x := (aB s.1)) 0 hO (by kernel_rfl) (by kernel_rfl) (by kernel_rfl) (by kernel_rfl) lK) (by kernel_rfl) ⟨rfl, hO.out⟩)))

theorem LU (n0 : Int) (r : Bool) (h0 : uE n0 = some r) : dZ Try.prog 73 [(eI n0)] (aB r) := by
  intro H0
  refine dV Try.func73 ?_
  have hO := aJ.start H0
  unfold uE at h0
  refine aS aC 1 [] [] ?_
  refine cO aC 7 [(2, (aB ((decide (n0 ≤ (1048576 : Int))) && (decide ((-1048576 : Int) ≤ n0)))))] ?_
  refine bL ?_
  obtain rfl := oI h0
  exact aG (Q_r hO)

theorem uY (f0 : (List aF)) (r : Bool) (h0 : mR f0 = some r) : dZ Try.prog 51 [(eL aK f0)] (aB r) := by
  intro H0
  refine dV Try.func51 ?_
  have hO := aJ.start H0
  unfold mR at h0
  refine aS aC 1 [] [] ?_
  refine aN ?_
  refine aS aC 3 [] [(8, (aB (decide ((1024 : Int) < (lN f0)))))] ?_
  refine bR h0 (fun h0 => ?_) (fun h0 => ?_)
  · refine cO aC 1 [(2, (aB false))] ?_
    refine bL ?_
    obtain rfl := oI h0
    exact aG (aR (Q_r hO))
  refine bS ?_
  refine bD [(0, (eL aK f0))] ?_
  refine aS aC 1 [] [(3, (eI (-2 : Int)))] ?_
  refine jD (fun T H => Has T [] ∧ aJ ⟨H0, [], []⟩ H [] ∧ sC  = some r) ?_ ?_
  · clear hO h0
    rintro T H ⟨hT, hO, h0⟩
    refine bM hT ?_
    clear hT
    unfold sC at h0
    refine cO aC 1 [(2, (aB true))] ?_
    refine bL ?_
    obtain rfl := oI h0
    exact aG (Q_r hO)
  refine aS aC 3 [0] [(9, (eL aK f0)), (10, (eI (lN f0))), (11, (eI (0 : Int)))] ?_
  refine cG 0 ?_
  refine iC [(3, (eI (-2 : Int))), (9, (eL aK f0)), (10, (eI (lN f0))), (11, (eI (0 : Int)))] ?_
  refine iF (fun T H => ∃ nS : Int, ∃ t9 : (List aF), ∃ t10 : Int, ∃ t11 : Int, Has T [(3, (eI nS)), (9, (eL aK t9)), (10, (eI t10)), (11, (eI t11))] ∧ aJ ⟨H0, [], []⟩ H [] ∧ tY nS t9 t10 t11 = some r) ?_ ⟨(-2 : Int), f0, (lN f0), (0 : Int), .eq (by kernel_rfl), hO, h0⟩
  clear hO h0
  rintro T H ⟨nS, t9, t10, t11, hT, hO, h0⟩
  refine bM hT ?_
  clear hT
  unfold tY at h0
  obtain ⟨rr0, hl0, h0⟩ := aT h0
  refine eP (by kernel_rfl) (fun (s : Int × Int) T H => Has T [(3, (eI s.1)), (9, (eL aK t9)), (10, (eI t10)), (11, (eI s.2))] ∧ aJ ⟨H0, [], []⟩ H []) hl0 ⟨.eq (by kernel_rfl), hO⟩ ?_
  clear hO
  rintro k0 s out1 T H ⟨hT, hO⟩ h1 ho0
  obtain ⟨nS, t11⟩ := s
  replace h1 : kY t9 t10 nS t11 = some out1 := h1
  try dsimp only at hT
  refine bM hT ?_
  clear hT
  unfold kY at h1
  refine aS aC 1 [] [(12, (aB (decide (t11 < t10))))] ?_
  refine aN ?_
  refine bR h1 (fun h1 => ?_) (fun h1 => ?_)
  · refine bS ?_
    refine bD [(3, (eI nS)), (9, (eL aK t9)), (10, (eI t10)), (11, (eI t11))] ?_
    refine aN ?_
    refine cG 1 ?_
    refine aN ?_
    refine aP aC 4 ?_
    obtain ⟨c3, h1⟩ := aY h1
    refine yB 2 [0 ≤ t11 ∧ t11 < (lN t9)] ⟨c3, trivial⟩ ?_
    refine kI 2 (aK (aF.mk 0 0)) (by kernel_rfl) (by kernel_rfl) hO ?_
    intro lo4 H hO
    refine iT 0 lo4 2 0 (aK (aF.mk 0 0)) (aK (gD t9 t11)) [(aK (aF.mk 0 0))] [(lo4, 2, [(aK (gD t9 t11))])] hO rfl (by kernel_rfl) ?_
    intro H hO
    refine dQ ?_
    refine cD [] [(5, (.lp lo4 0 0))] ?_
    refine aN ?_
    refine aN ?_
    refine aP aC 20 ?_
    refine bN 1 ?_
    refine mQ 0 lo4 2 0 (aK (gD t9 t11)) (eI ((gD t9 t11).At)) [(aK (gD t9 t11))] hO rfl ?_
    refine bN 6 ?_
    refine sV [(19, false)] 0 lo4 2 0 (aK (gD t9 t11)) (eI ((gD t9 t11).At)) [(aK (gD t9 t11))] (by kernel_rfl) (by kernel_rfl) hO (by kernel_rfl) (!(decide (((gD t9 t11).At) ≤ nS))) (by kernel_rfl) (fun hb5 => rfl) ?_
    refine bN 11 ?_
    refine sV [(24, false)] 0 lo4 2 0 (aK (gD t9 t11)) (eI ((gD t9 t11).Net)) [(aK (gD t9 t11))] (by kernel_rfl) (by kernel_rfl) hO (by kernel_rfl) (!((decide (((gD t9 t11).At) ≤ nS)) || (decide ((1125899906842624 : Int) ≤ ((gD t9 t11).At))))) (by kernel_rfl) (fun hb6 => rfl) ?_
    refine bN 16 ?_
    refine sV [(29, false)] 0 lo4 2 0 (aK (gD t9 t11)) (eI ((gD t9 t11).Net)) [(aK (gD t9 t11))] (by kernel_rfl) (by kernel_rfl) hO (by kernel_rfl) (!(((decide (((gD t9 t11).At) ≤ nS)) || (decide ((1125899906842624 : Int) ≤ ((gD t9 t11).At)))) || (decide (((gD t9 t11).Net) = (0 : Int))))) (by kernel_rfl) (fun hb7 => rfl) ?_
    obtain ⟨x8, hx9, h1⟩ := aT h1
    refine nF [(29, false)] 73 [(eI ((gD t9 t11).Net))] (aB x8) (!(((decide (((gD t9 t11).At) ≤ nS)) || (decide ((1125899906842624 : Int) ≤ ((gD t9 t11).At)))) || (decide (((gD t9 t11).Net) = (0 : Int))))) (by kernel_rfl) (by kernel_rfl) (by kernel_rfl) (fun hb10 => (LU ((gD t9 t11).Net) _ (kO hx9 hb10))) hO ?_
    intro H hO
    refine bC ?_
    refine cD [3] [(34, (aB ((((decide (((gD t9 t11).At) ≤ nS)) || (decide ((1125899906842624 : Int) ≤ ((gD t9 t11).At)))) || (decide (((gD t9 t11).Net) = (0 : Int)))) || (!x8))))] ?_
    refine bR h1 (fun h1 => ?_) (fun h1 => ?_)
    · refine aN ?_
      refine aP aC 1 ?_
      refine bC ?_
      refine iM [(2, (aB false))] ?_
      replace hO := hO.pick (L' := []) [] (by decide) (by kernel_rfl)
      refine aG (aH (?_))
      refine bL ?_
      obtain rfl := oI h1
      obtain rfl : _ = rr0 := ho0
      replace h0 : some false = some r := h0
      obtain rfl := oI h0
      exact aG (aR (bJ (aR (aR (bJ (aR (Q_r hO)))))))
    refine bS ?_
    refine bD [(5, (.lp lo4 0 0)), (9, (eL aK t9)), (10, (eI t10)), (11, (eI t11))] ?_
    refine aP aC 3 ?_
    refine bN 1 ?_
    refine mQ 0 lo4 2 0 (aK (gD t9 t11)) (eI ((gD t9 t11).At)) [(aK (gD t9 t11))] hO rfl ?_
    refine bC ?_
    refine iM [(3, (eI ((gD t9 t11).At))), (9, (eL aK t9)), (10, (eI t10)), (11, (eI t11))] ?_
    replace hO := hO.pick (L' := []) [] (by decide) (by kernel_rfl)
    refine aG (aV (aH (?_)))
    refine aP aC 2 ?_
    refine bC ?_
    exact aG (aH (⟨rfl, _, (oI h1).symm, .eq (by kernel_rfl), hO⟩))
  refine jP 0 ?_
  obtain rfl := oI h1
  obtain rfl : _ = rr0 := ho0
  replace h0 : sC  = some r := h0
  exact aG (aW (aW (cI (aH (⟨rfl, .eq (by kernel_rfl), hO, h0⟩)))))

theorem DH (l0 : (List bE)) (r : Bool) (h0 : rM l0 = some r) : dZ Try.prog 31 [(eL bP l0)] (aB r) := by
  intro H0
  refine dV Try.func31 ?_
  have hO := aJ.start H0
  unfold rM at h0
  refine aS aC 1 [] [] ?_
  refine aN ?_
  refine aP aC 3 ?_
  refine bN 1 ?_
  obtain ⟨x1, hx2, h0⟩ := aT h0
  refine fB (BX l0 51 [] [] (fun y0 => mR y0) (fun y0 r h => uY y0 r h) _ hx2) hO ?_
  intro H hO
  refine bC ?_
  refine bD [(2, (aB x1))] ?_
  refine bL ?_
  obtain rfl := oI h0
  exact aG (Q_r hO)

theorem KW (f0 : (List aF)) (r : Int) (h0 : qU f0 = some r) : dZ Try.prog 52 [(eL aK f0)] (eI r) := by
  intro H0
  refine dV Try.func52 ?_
  have hO := aJ.start H0
  unfold qU at h0
  refine aS aC 1 [] [] ?_
  refine aN ?_
  refine aN ?_
  refine aP aC 8 ?_
  refine bN 1 ?_
  obtain ⟨x1, hx2, h0⟩ := aT h0
  refine fB (uY f0 _ hx2) hO ?_
  intro H hO
  refine bC ?_
  refine cD [] [(14, (aB ((!x1) || (decide ((lN f0) = (0 : Int))))))] ?_
  refine bR h0 (fun h0 => ?_) (fun h0 => ?_)
  · refine cO aC 1 [(2, (eI (0 : Int)))] ?_
    refine bL ?_
    obtain rfl := oI h0
    exact aG (aR (Q_r hO))
  refine bS ?_
  refine bD [(0, (eL aK f0))] ?_
  refine aS aC 2 [] [(3, (eI (0 : Int))), (4, (eI (0 : Int)))] ?_
  refine jD (fun T H => ∃ v3 : Int, ∃ gP : Int, Has T [(0, (eL aK f0)), (3, (eI v3)), (4, (eI gP))] ∧ aJ ⟨H0, [], []⟩ H [] ∧ nH f0 v3 gP = some r) ?_ ?_
  · clear hO h0
    rintro T H ⟨v3, gP, hT, hO, h0⟩
    refine bM hT ?_
    clear hT
    unfold nH at h0
    refine jD (fun T H => ∃ gP : Int, Has T [(4, (eI gP))] ∧ aJ ⟨H0, [], []⟩ H [] ∧ pO gP = some r) ?_ ?_
    · clear hO h0
      rintro T H ⟨gP, hT, hO, h0⟩
      refine bM hT ?_
      clear hT
      unfold pO at h0
      refine cO aC 2 [(2, (eI gP))] ?_
      refine bL ?_
      obtain rfl := oI h0
      exact aG (Q_r hO)
    refine aS aC 3 [0] [(24, (eL aK f0)), (25, (eI (lN f0))), (26, (eI (0 : Int)))] ?_
    refine cG 0 ?_
    refine iC [(3, (eI v3)), (4, (eI gP)), (24, (eL aK f0)), (25, (eI (lN f0))), (26, (eI (0 : Int)))] ?_
    refine iF (fun T H => ∃ v3 : Int, ∃ gP : Int, ∃ t24 : (List aF), ∃ t25 : Int, ∃ t26 : Int, Has T [(3, (eI v3)), (4, (eI gP)), (24, (eL aK t24)), (25, (eI t25)), (26, (eI t26))] ∧ aJ ⟨H0, [], []⟩ H [] ∧ pL v3 gP t24 t25 t26 = some r) ?_ ⟨v3, gP, f0, (lN f0), (0 : Int), .eq (by kernel_rfl), hO, h0⟩
    clear hO h0
    rintro T H ⟨v3, gP, t24, t25, t26, hT, hO, h0⟩
    refine bM hT ?_
    clear hT
    unfold pL at h0
    obtain ⟨rr0, hl0, h0⟩ := aT h0
    refine eP (by kernel_rfl) (fun (s : Int × Int × Int) T H => Has T [(3, (eI s.1)), (4, (eI s.2.1)), (24, (eL aK t24)), (25, (eI t25)), (26, (eI s.2.2))] ∧ aJ ⟨H0, [], []⟩ H []) hl0 ⟨.eq (by kernel_rfl), hO⟩ ?_
    clear hO
    rintro k0 s out1 T H ⟨hT, hO⟩ h1 ho0
    obtain ⟨v3, gP, t26⟩ := s
    replace h1 : lG t24 t25 v3 gP t26 = some out1 := h1
    try dsimp only at hT
    refine bM hT ?_
    clear hT
    unfold lG at h1
    refine aS aC 1 [] [(27, (aB (decide (t26 < t25))))] ?_
    refine aN ?_
    refine bR h1 (fun h1 => ?_) (fun h1 => ?_)
    · refine bS ?_
      refine bD [(3, (eI v3)), (4, (eI gP)), (24, (eL aK t24)), (25, (eI t25)), (26, (eI t26))] ?_
      refine aN ?_
      refine cG 1 ?_
      refine aN ?_
      refine aP aC 4 ?_
      obtain ⟨c6, h1⟩ := aY h1
      refine yB 2 [0 ≤ t26 ∧ t26 < (lN t24)] ⟨c6, trivial⟩ ?_
      refine kI 2 (aK (aF.mk 0 0)) (by kernel_rfl) (by kernel_rfl) hO ?_
      intro lo7 H hO
      refine iT 0 lo7 2 0 (aK (aF.mk 0 0)) (aK (gD t24 t26)) [(aK (aF.mk 0 0))] [(lo7, 2, [(aK (gD t24 t26))])] hO rfl (by kernel_rfl) ?_
      intro H hO
      refine dQ ?_
      refine cD [] [(6, (.lp lo7 0 0))] ?_
      refine aN ?_
      refine aP aC 5 ?_
      refine bN 2 ?_
      refine mQ 0 lo7 2 0 (aK (gD t24 t26)) (eI ((gD t24 t26).Net)) [(aK (gD t24 t26))] hO rfl ?_
      refine bC ?_
      replace hO := hO.pick (L' := []) [] (by decide) (by kernel_rfl)
      refine cD [3, 6] [(3, (eI (wR (v3 + ((gD t24 t26).Net)))))] ?_
      refine aP aC 4 ?_
      refine bC ?_
      refine iM [(3, (eI (wR (v3 + ((gD t24 t26).Net))))), (4, (eI (if (wR (v3 + ((gD t24 t26).Net))) < gP then (wR (v3 + ((gD t24 t26).Net))) else gP))), (24, (eL aK t24)), (25, (eI t25)), (26, (eI t26))] ?_
      refine aG (aV (aH (?_)))
      refine aP aC 2 ?_
      refine bC ?_
      exact aG (aH (⟨rfl, _, (oI h1).symm, .eq (by kernel_rfl), hO⟩))
    refine jP 0 ?_
    obtain rfl := oI h1
    obtain rfl : _ = rr0 := ho0
    replace h0 : pO gP = some r := h0
    exact aG (aW (aW (cI (aH (⟨rfl, _, .eq (by kernel_rfl), hO, h0⟩)))))
  refine aN ?_
  refine aP aC 5 ?_
  obtain ⟨c8, h0⟩ := aY h0
  refine rY [0 ≤ (0 : Int) ∧ (0 : Int) < (lN f0)] ⟨c8, trivial⟩ ?_
  refine cD [] [(19, (aB (decide (((gD f0 (0 : Int)).At) = (-1 : Int)))))] ?_
  refine bR h0 (fun h0 => ?_) (fun h0 => ?_)
  · refine aP aC 5 ?_
    obtain ⟨c10, h0⟩ := aY h0
    refine rY [0 ≤ (0 : Int) ∧ (0 : Int) < (lN f0)] ⟨c10, trivial⟩ ?_
    exact aG (aH (⟨rfl, _, _, .eq (by kernel_rfl), hO, h0⟩))
  refine bS ?_
  exact aG (aH (⟨rfl, _, _, .eq (by kernel_rfl), hO, h0⟩))

theorem FK (f0 : (List aF)) (r : Bool) (h0 : nW f0 = some r) : dZ Try.prog 50 [(eL aK f0)] (aB r) := by
  intro H0
  refine dV Try.func50 ?_
  have hO := aJ.start H0
  unfold nW at h0
  refine aS aC 1 [] [] ?_
  refine aN ?_
  refine aP aC 8 ?_
  refine bN 1 ?_
  obtain ⟨x1, hx2, h0⟩ := aT h0
  refine fB (uY f0 _ hx2) hO ?_
  intro H hO
  refine bN 4 ?_
  obtain ⟨x4, hx5, h0⟩ := aT h0
  refine nF [(5, true)] 52 [(eL aK f0)] (eI x4) x1 (by kernel_rfl) (by kernel_rfl) (by kernel_rfl) (fun hb6 => (KW f0 _ (kO hx5 hb6))) hO ?_
  intro H hO
  refine bC ?_
  refine bD [(2, (aB (x1 && (decide ((0 : Int) ≤ x4)))))] ?_
  refine bL ?_
  obtain rfl := oI h0
  exact aG (Q_r hO)

theorem IV (l0 : (List bE)) (r : Bool) (h0 : rB l0 = some r) : dZ Try.prog 23 [(eL bP l0)] (aB r) := by
  intro H0
  refine dV Try.func23 ?_
  have hO := aJ.start H0
  unfold rB at h0
  refine aS aC 1 [] [] ?_
  refine aN ?_
  refine aP aC 3 ?_
  refine bN 1 ?_
  obtain ⟨x1, hx2, h0⟩ := aT h0
  refine fB (BX l0 50 [] [] (fun y0 => nW y0) (fun y0 r h => FK y0 r h) _ hx2) hO ?_
  intro H hO
  refine bC ?_
  refine bD [(2, (aB x1))] ?_
  refine bL ?_
  obtain rfl := oI h0
  exact aG (Q_r hO)

theorem HV (l0 : (List bE)) (r : (List bE)) (h0 : sO l0 = some r) : dZ Try.prog 32 [(eL bP l0)] (.fn (.func 55) [] [(.rp (eL bP r))]) := by
  intro H0
  refine dV Try.func32 ?_
  have hO := aJ.start H0
  unfold sO at h0
  refine aN ?_
  refine aP aC 2 ?_
  refine gM 1 (eL bP l0) (by kernel_rfl) (by kernel_rfl) ?_
  refine bC ?_
  refine bD [(1, (.rp (eL bP l0)))] ?_
  refine cO aC 2 [(2, (.fn (.func 55) [] [(.rp (eL bP l0))]))] ?_
  refine bL ?_
  obtain rfl := oI h0
  exact aG (lC (x := (.fn (.func 55) [] [(.rp (eL bP l0))])) (by kernel_rfl) (aL.refl _) ⟨rfl, hO.out⟩)

theorem BO {σ : Type} (I : σ → Gs → Prop) (yield0_b : Nat) (cE : σ → (List aD) → (List aF) → Option (σ × Bool)) (yield0_h : ∀ st a0 a1 st2 r, cE st a0 a1 = some (st2, r) → vA Try.prog (yv yield0_b) I st [(eL aI a0), (eL aK a1)] st2 (aB r)) (t1 : (List bE)) (sg0 : σ) (r : σ) (h0 : mL cE t1 sg0 = some r) : sM Try.prog 55 I sg0 [(yv yield0_b), (.rp (eL bP t1))] r (.tup []) := by
  intro H0 G0 hI hg
  refine xN aC Try.func55 (by kernel_rfl) (by kernel_rfl) (by kernel_rfl) ?_
  obtain ⟨G, hO, hI⟩ : ∃ G, aJ ⟨H0, List.map (fun p : Nat × cR => p.1) G0, G⟩ H0 [] ∧ I sg0 G := ⟨G0, aJ.xU hg, hI⟩
  clear hg
  unfold mL at h0
  refine aN ?_
  refine aP aC 1 ?_
  refine gM 1 (yv yield0_b) (by kernel_rfl) (by kernel_rfl) ?_
  refine dQ ?_
  refine cD [0] [(2, (.rp (yv yield0_b)))] ?_
  refine aN ?_
  refine aN ?_
  refine aP aC 3 ?_
  refine bN 1 ?_
  obtain ⟨x1, hx2, h0⟩ := aT h0
  refine fB (DH t1 _ hx2) hO ?_
  intro H hO
  refine bC ?_
  refine cD [] [(7, (aB (!x1)))] ?_
  refine bR h0 (fun h0 => ?_) (fun h0 => ?_)
  · refine bL ?_
    obtain rfl := oI h0
    exact aG (aR (QM0 (.inr rfl) (rs := []) (xs := []) (x := (.tup [])) (by kernel_rfl) lK (by kernel_rfl) ⟨rfl, G, hI, hO.tU⟩))
  refine bS ?_
  refine bD [(1, (.rp (eL bP t1))), (2, (.rp (yv yield0_b)))] ?_
  refine aN ?_
  refine aP aC 2 ?_
  refine bN 1 ?_
  obtain ⟨x5, hx6, h0⟩ := aT h0
  refine fB (BZ t1 _ hx6) hO ?_
  intro H hO
  refine dQ ?_
  refine cD [1] [(9, (.fn (.func 74) [] [(.rp (eL bP x5))]))] ?_
  refine cG 0 ?_
  refine iC [(2, (.rp (yv yield0_b))), (9, (.fn (.func 74) [] [(.rp (eL bP x5))]))] ?_
  refine iF (fun T H => ∃ sg : σ, ∃ t9c0 : (List bE), ∃ G : Gs, Has T [(2, (.rp (yv yield0_b))), (9, (.fn (.func 74) [] [(.rp (eL bP t9c0))]))] ∧ aJ ⟨H0, List.map (fun p : Nat × cR => p.1) G0, G⟩ H [] ∧ I sg G ∧ nM cE sg t9c0 = some r) ?_ ⟨sg0, x5, G, .eq (by kernel_rfl), hO, hI, h0⟩
  clear hO hI h0
  rintro T H ⟨sg, t9c0, G, hT, hO, hI, h0⟩
  refine bM (l := [(2, (.rp (yv yield0_b))), (9, (.fn (.func 74) [] [(.rp (eL bP t9c0))]))]) hT ?_
  clear hT
  unfold nM at h0
  obtain ⟨o0, hl0, h0⟩ := aT h0
  refine wJ (fid := 74) (ys := []) (cs := [(.rp (eL bP t9c0))]) #[10, 11] (fun (A : qI) (b lL : Nat) (st : (σ) ⊕ (σ)) (G' : Gs) => Sum.elim (fun (s : σ) => ∃ G : Gs, I s G ∧ G' = (lL, .raw (fR b A .ready none)) :: (up [] ++ G)) (fun (s : σ) => ∃ G : Gs, I s G ∧ G' = (lL, .raw (fR b A .done (some .ret))) :: (up [] ++ G)) st) (.inl sg) o0 (.tup []) (by kernel_rfl) (by kernel_rfl) (by kernel_rfl) hO (fun _ _ => ⟨G, hI, rfl⟩) ?_ ?_
  · intro b lL
    clear hO hI h0
    refine wV _ b (fun st t10 t11 => rnd (fun (s : σ) => kA cE t9c0 s t10 t11) st) ?_ t9c0 _ _ hl0
    intro st t10 t11 out1 rr hr
    obtain ⟨s, rfl, h1, rfl⟩ := FY hr
    clear hr
    intro Hr Gr hi hg
    obtain ⟨sg, rfl⟩ : ∃ x, x = s := ⟨_, rfl⟩
    dsimp only [Sum.elim_inl] at hi
    obtain ⟨G, hI, rfl⟩ := hi
    replace h1 : kA cE t9c0 sg t10 t11 = some out1 := h1
    unfold kA at h1
    obtain ⟨E1, hE, hO⟩ := pZ hg
    refine pT (tW (hO.gm 0 _ rfl).2 (by kernel_rfl) (by kernel_rfl) ?_)
    refine iC [(2, (.rp (yv yield0_b))), (9, (.fn (.func 74) [] [(.rp (eL bP t9c0))])), (10, (eL aI t10)), (11, (eL aK t11))] ?_
    refine aS aC 1 [9, 10] [(3, (eL aI t10))] ?_
    refine aP aC 1 ?_
    refine bC ?_
    refine iM [(2, (.rp (yv yield0_b))), (3, (eL aI t10)), (4, (eL aK t11))] ?_
    refine aG (⟨rfl, rfl, (hO.gm 0 _ rfl).2, ?_⟩)
    intro o1 ho1
    replace hO := hO.mY o1
    refine cG 1 ?_
    refine aN ?_
    refine aP aC 5 ?_
    refine bN 3 ?_
    obtain ⟨x7, hx8, h1⟩ := aT h1
    refine UG (I := I) (yv yield0_b) [(eL aI t10), (eL aK t11)] (aB x7.2) (by kernel_rfl) (by kernel_rfl) (yield0_h _ t10 t11 x7.1 x7.2 hx8) hO hI ?_
    intro G H hO hI
    refine bC ?_
    refine bD [(16, (aB (!x7.2)))] ?_
    refine bR h1 (fun h1 => ?_) (fun h1 => ?_)
    · refine bL ?_
      refine iM [] ?_
      obtain rfl := oI h1
      exact aG (bJ (⟨(eA hO hE ho1 .dead).1, rfl, _, ⟨G, hI, rfl⟩, (eA hO hE ho1 _).2⟩))
    refine bS ?_
    refine iM [] ?_
    obtain rfl := oI h1
    exact aG (aV (⟨(eA hO hE ho1 .dead).1, rfl, _, ⟨G, hI, rfl⟩, (eA hO hE ho1 _).2⟩))
  · intro b lD10 lL H' G' hi hO
    rcases o0 with s | s
    · dsimp only [Sum.elim_inl] at hi
      obtain ⟨G, hI, rfl⟩ := hi
      replace h0 : (some s) = some r := h0
      obtain ⟨hlL, hO⟩ := lW hO
      refine ⟨_, _, hlL, (by intro e; cases e), ?_⟩
      obtain rfl := oI h0
      have hD := (hO.gm 0 _ rfl).2
      replace hO := (hO.mY .dead).nL
      exact aG (aV (QM1 (.inl rfl) hD (rs := []) (xs := []) (x := (.tup [])) (by kernel_rfl) lK (by kernel_rfl) ⟨rfl, G, hI, hO.tU⟩))
    · dsimp only [Sum.elim_inr] at hi
      obtain ⟨G, hI, rfl⟩ := hi
      replace h0 : (some s) = some r := h0
      obtain ⟨hlL, hO⟩ := lW hO
      refine ⟨_, _, hlL, (by intro e; cases e), ?_⟩
      refine bL ?_
      obtain rfl := oI h0
      have hD := (hO.gm 0 _ rfl).2
      replace hO := (hO.mY .dead).nL
      exact aG (bJ (QM1 (.inr rfl) hD (rs := []) (xs := []) (x := (.tup [])) (by kernel_rfl) lK (by kernel_rfl) ⟨rfl, G, hI, hO.tU⟩))

theorem BL (x0 : Int) (r : Int) (h0 : mK x0 = some r) : dZ Try.prog 88 [(cS .u64 x0)] (eI r) := by
  intro H0
  refine dV Try.func88 ?_
  have hO := aJ.start H0
  unfold mK at h0
  refine aS aC 1 [] [(2, (eI (0 : Int)))] ?_
  refine jD (fun T H => ∃ x0 : Int, ∃ n2 : Int, Has T [(0, (cS .u64 x0)), (2, (eI n2))] ∧ aJ ⟨H0, [], []⟩ H [] ∧ jZ x0 n2 = some r) ?_ ?_
  · clear hO h0
    rintro T H ⟨x0, n2, hT, hO, h0⟩
    refine bM hT ?_
    clear hT
    unfold jZ at h0
    refine jD (fun T H => ∃ x0 : Int, ∃ n2 : Int, Has T [(0, (cS .u64 x0)), (2, (eI n2))] ∧ aJ ⟨H0, [], []⟩ H [] ∧ jW x0 n2 = some r) ?_ ?_
    · clear hO h0
      rintro T H ⟨x0, n2, hT, hO, h0⟩
      refine bM hT ?_
      clear hT
      unfold jW at h0
      refine jD (fun T H => ∃ x0 : Int, ∃ n2 : Int, Has T [(0, (cS .u64 x0)), (2, (eI n2))] ∧ aJ ⟨H0, [], []⟩ H [] ∧ kV x0 n2 = some r) ?_ ?_
      · clear hO h0
        rintro T H ⟨x0, n2, hT, hO, h0⟩
        refine bM hT ?_
        clear hT
        unfold kV at h0
        refine aN ?_
        refine aP aC 7 ?_
        obtain ⟨c1, h0⟩ := aY h0
        refine rY [0 ≤ (IntKind.u8.wrap x0) ∧ (IntKind.u8.wrap x0) < ((ByteArray.size (⟨#[0, 1, 2, 2, 3, 3, 3, 3, 4, 4, 4, 4, 4, 4, 4, 4, 5, 5, 5, 5, 5, 5, 5, 5, 5, 5, 5, 5, 5, 5, 5, 5, 6, 6, 6, 6, 6, 6, 6, 6, 6, 6, 6, 6, 6, 6, 6, 6, 6, 6, 6, 6, 6, 6, 6, 6, 6, 6, 6, 6, 6, 6, 6, 6, 7, 7, 7, 7, 7, 7, 7, 7, 7, 7, 7, 7, 7, 7, 7, 7, 7, 7, 7, 7, 7, 7, 7, 7, 7, 7, 7, 7, 7, 7, 7, 7, 7, 7, 7, 7, 7, 7, 7, 7, 7, 7, 7, 7, 7, 7, 7, 7, 7, 7, 7, 7, 7, 7, 7, 7, 7, 7, 7, 7, 7, 7, 7, 7, 8, 8, 8, 8, 8, 8, 8, 8, 8, 8, 8, 8, 8, 8, 8, 8, 8, 8, 8, 8, 8, 8, 8, 8, 8, 8, 8, 8, 8, 8, 8, 8, 8, 8, 8, 8, 8, 8, 8, 8, 8, 8, 8, 8, 8, 8, 8, 8, 8, 8, 8, 8, 8, 8, 8, 8, 8, 8, 8, 8, 8, 8, 8, 8, 8, 8, 8, 8, 8, 8, 8, 8, 8, 8, 8, 8, 8, 8, 8, 8, 8, 8, 8, 8, 8, 8, 8, 8, 8, 8, 8, 8, 8, 8, 8, 8, 8, 8, 8, 8, 8, 8, 8, 8, 8, 8, 8, 8, 8, 8, 8, 8, 8, 8, 8, 8, 8, 8, 8, 8, 8, 8, 8, 8, 8, 8, 8, 8]⟩ : ByteArray) : Nat) : Int)] ⟨c1, trivial⟩ ?_
        refine bD [(2, (eI (wR (n2 + (wR (bt (⟨#[0, 1, 2, 2, 3, 3, 3, 3, 4, 4, 4, 4, 4, 4, 4, 4, 5, 5, 5, 5, 5, 5, 5, 5, 5, 5, 5, 5, 5, 5, 5, 5, 6, 6, 6, 6, 6, 6, 6, 6, 6, 6, 6, 6, 6, 6, 6, 6, 6, 6, 6, 6, 6, 6, 6, 6, 6, 6, 6, 6, 6, 6, 6, 6, 7, 7, 7, 7, 7, 7, 7, 7, 7, 7, 7, 7, 7, 7, 7, 7, 7, 7, 7, 7, 7, 7, 7, 7, 7, 7, 7, 7, 7, 7, 7, 7, 7, 7, 7, 7, 7, 7, 7, 7, 7, 7, 7, 7, 7, 7, 7, 7, 7, 7, 7, 7, 7, 7, 7, 7, 7, 7, 7, 7, 7, 7, 7, 7, 8, 8, 8, 8, 8, 8, 8, 8, 8, 8, 8, 8, 8, 8, 8, 8, 8, 8, 8, 8, 8, 8, 8, 8, 8, 8, 8, 8, 8, 8, 8, 8, 8, 8, 8, 8, 8, 8, 8, 8, 8, 8, 8, 8, 8, 8, 8, 8, 8, 8, 8, 8, 8, 8, 8, 8, 8, 8, 8, 8, 8, 8, 8, 8, 8, 8, 8, 8, 8, 8, 8, 8, 8, 8, 8, 8, 8, 8, 8, 8, 8, 8, 8, 8, 8, 8, 8, 8, 8, 8, 8, 8, 8, 8, 8, 8, 8, 8, 8, 8, 8, 8, 8, 8, 8, 8, 8, 8, 8, 8, 8, 8, 8, 8, 8, 8, 8, 8, 8, 8, 8, 8, 8, 8, 8, 8, 8, 8]⟩ : ByteArray) (IntKind.u8.wrap x0)))))))] ?_
        refine bL ?_
        obtain rfl := oI h0
        exact aG (Q_r hO)
      refine aS aC 2 [] [(14, (aB (decide ((256 : Int) ≤ x0))))] ?_
      refine bR h0 (fun h0 => ?_) (fun h0 => ?_)
      · refine aN ?_
        refine aP aC 3 ?_
        obtain ⟨c3, h0⟩ := aY h0
        refine rY [0 ≤ (8 : Int)] ⟨c3, trivial⟩ ?_
        refine bD [(0, (cS .u64 (Int.fdiv x0 (2 ^ (min (Int.toNat (8 : Int)) 64))))), (2, (eI n2))] ?_
        refine aP aC 3 ?_
        refine bC ?_
        exact aG (aH (⟨rfl, _, _, .eq (by kernel_rfl), hO, h0⟩))
      refine bS ?_
      exact aG (aH (⟨rfl, _, _, .eq (by kernel_rfl), hO, h0⟩))
    refine aS aC 2 [] [(8, (aB (decide ((65536 : Int) ≤ x0))))] ?_
    refine bR h0 (fun h0 => ?_) (fun h0 => ?_)
    · refine aN ?_
      refine aP aC 3 ?_
      obtain ⟨c5, h0⟩ := aY h0
      refine rY [0 ≤ (16 : Int)] ⟨c5, trivial⟩ ?_
      refine bD [(0, (cS .u64 (Int.fdiv x0 (2 ^ (min (Int.toNat (16 : Int)) 64))))), (2, (eI n2))] ?_
      refine aP aC 3 ?_
      refine bC ?_
      exact aG (aH (⟨rfl, _, _, .eq (by kernel_rfl), hO, h0⟩))
    refine bS ?_
    exact aG (aH (⟨rfl, _, _, .eq (by kernel_rfl), hO, h0⟩))
  refine aS aC 2 [] [(4, (aB (decide ((4294967296 : Int) ≤ x0))))] ?_
  refine bR h0 (fun h0 => ?_) (fun h0 => ?_)
  · refine aN ?_
    refine aP aC 3 ?_
    obtain ⟨c7, h0⟩ := aY h0
    refine rY [0 ≤ (32 : Int)] ⟨c7, trivial⟩ ?_
    refine bD [(0, (cS .u64 (Int.fdiv x0 (2 ^ (min (Int.toNat (32 : Int)) 64)))))] ?_
    refine aP aC 1 ?_
    refine bC ?_
    exact aG (aH (⟨rfl, _, _, .eq (by kernel_rfl), hO, h0⟩))
  refine bS ?_
  exact aG (aH (⟨rfl, _, _, .eq (by kernel_rfl), hO, h0⟩))

theorem wN (x0 : Int) (r : Int) (h0 : jO x0 = some r) : dZ Try.prog 62 [(cS .u64 x0)] (eI r) := by
  intro H0
  refine dV Try.func62 ?_
  have hO := aJ.start H0
  unfold jO at h0
  refine aS aC 1 [] [] ?_
  refine aN ?_
  refine lJ (false) (fun hc1 => ?_) (fun hc1 => ?_)
  · cases hc1
  · refine bS ?_
    refine aG (aH ?_)
    refine aN ?_
    refine aP aC 3 ?_
    refine bN 1 ?_
    obtain ⟨x2, hx3, h0⟩ := aT h0
    refine fB (BL x0 _ hx3) hO ?_
    intro H hO
    refine bC ?_
    refine bD [(2, (eI x2))] ?_
    refine bL ?_
    obtain rfl := oI h0
    exact aG (Q_r hO)

theorem fF (x0 : Int) (y1 : Int) (r : Bool) (h0 : cU x0 y1 = some r) : dZ Try.prog 84 [(eI x0), (eI y1)] (aB r) := by
  intro H0
  refine dV Try.func84 ?_
  have hO := aJ.start H0
  unfold cU at h0
  refine aS aC 1 [] [] ?_
  refine aN ?_
  refine aP aC 13 ?_
  refine bN 1 ?_
  obtain ⟨x1, hx2, h0⟩ := aT h0
  refine fB (qF x0 _ hx2) hO ?_
  intro H hO
  refine bN 4 ?_
  obtain ⟨x4, hx5, h0⟩ := aT h0
  refine nF [(7, true)] 105 [(eI y1)] (aB x4) x1 (by kernel_rfl) (by kernel_rfl) (by kernel_rfl) (fun hb6 => (qF y1 _ (kO hx5 hb6))) hO ?_
  intro H hO
  refine bC ?_
  refine bD [(4, (aB ((x1 && (!x4)) || (decide (x0 < y1)))))] ?_
  refine bL ?_
  obtain rfl := oI h0
  exact aG (Q_r hO)

theorem sE (lo0p : Nat) (aA : (List Int)) (a1 : Int) (b2 : Int) (r : List Int) (h0 : fT aA a1 b2 = some r) : lS Try.prog 78 lo0p 1 (List.map (eI) aA) (List.map (eI) r) [(.msl 1 lo0p 0 (List.length aA)), (eI a1), (eI b2)] (.tup []) := by
  intro H0 hl0
  refine dV Try.func78 ?_
  have hO := aJ.qM hl0
  clear hl0
  obtain ⟨N0, hN0⟩ : ∃ n, n = List.length aA := ⟨_, rfl⟩
  have hN : List.length aA = N0 := hN0.symm
  unfold fT at h0
  refine aS aC 3 [] [(6, (eI (wR (a1 + (1 : Int)))))] ?_
  refine cG 0 ?_
  refine iC [(0, (.msl 1 lo0p 0 (List.length aA))), (1, (eI a1)), (2, (eI b2)), (6, (eI (wR (a1 + (1 : Int)))))] ?_
  refine iF (fun T H => ∃ aA : List Int, ∃ i6 : Int, Has T [(0, (.msl 1 lo0p 0 (List.length aA))), (1, (eI a1)), (2, (eI b2)), (6, (eI i6))] ∧ aJ ⟨H0, [lo0p], []⟩ H [(lo0p, 1, List.map (eI) aA)] ∧ List.length aA = N0 ∧ iP aA a1 b2 i6 = some r) ?_ ⟨aA, wR (a1 + (1 : Int)), .eq (by kernel_rfl), hO, hN, h0⟩
  clear hO hN h0
  rintro T H ⟨aA, i6, hT, hO, hN, h0⟩
  refine bM hT ?_
  clear hT
  unfold iP at h0
  obtain ⟨rr0, hl0, h0⟩ := aT h0
  refine eP (by kernel_rfl) (fun (s : List Int × Int) T H => Has T [(0, (.msl 1 lo0p 0 (List.length s.1))), (1, (eI a1)), (2, (eI b2)), (6, (eI s.2))] ∧ aJ ⟨H0, [lo0p], []⟩ H [(lo0p, 1, List.map (eI) s.1)] ∧ List.length s.1 = N0) hl0 ⟨.eq (by kernel_rfl), hO, hN⟩ ?_
  clear hO hN
  rintro k0 s out1 T H ⟨hT, hO, hN⟩ h1 ho0
  obtain ⟨aA, i6⟩ := s
  replace h1 : cX a1 b2 aA i6 = some out1 := h1
  try dsimp only at hT
  refine bM hT ?_
  clear hT
  unfold cX at h1
  refine aN ?_
  refine aS aC 3 [] [(12, (aB (decide (i6 < b2))))] ?_
  refine bR h1 (fun h1 => ?_) (fun h1 => ?_)
  · refine bS ?_
    refine bD [(0, (.msl 1 lo0p 0 (List.length aA))), (1, (eI a1)), (2, (eI b2)), (6, (eI i6))] ?_
    refine jD (fun T H => ∃ aA : List Int, Has T [(0, (.msl 1 lo0p 0 (List.length aA))), (1, (eI a1)), (2, (eI b2)), (6, (eI i6))] ∧ aJ ⟨H0, [lo0p], []⟩ H [(lo0p, 1, List.map (eI) aA)] ∧ List.length aA = N0 ∧ fN aA a1 b2 i6 = some out1) ?_ ?_
    · clear hO hN h1
      rintro T H ⟨aA, hT, hO, hN, h1⟩
      refine bM hT ?_
      clear hT
      unfold fN at h1
      refine aP aC 3 ?_
      refine bC ?_
      exact aG (aH (⟨rfl, _, (oI h1).symm, .eq (by kernel_rfl), hO, hN⟩))
    refine cG 1 ?_
    refine aS aC 2 [] [(7, (eI i6))] ?_
    refine cG 2 ?_
    refine iC [(0, (.msl 1 lo0p 0 (List.length aA))), (1, (eI a1)), (2, (eI b2)), (6, (eI i6)), (7, (eI i6))] ?_
    refine iF (fun T H => ∃ aA : List Int, ∃ j7 : Int, Has T [(0, (.msl 1 lo0p 0 (List.length aA))), (1, (eI a1)), (2, (eI b2)), (6, (eI i6)), (7, (eI j7))] ∧ aJ ⟨H0, [lo0p], []⟩ H [(lo0p, 1, List.map (eI) aA)] ∧ List.length aA = N0 ∧ iO aA a1 b2 i6 j7 = some out1) ?_ ⟨aA, i6, .eq (by kernel_rfl), hO, hN, h1⟩
    clear hO hN h1
    rintro T H ⟨aA, j7, hT, hO, hN, h1⟩
    refine bM hT ?_
    clear hT
    unfold iO at h1
    obtain ⟨rr1, hl1, h1⟩ := aT h1
    refine eP (by kernel_rfl) (fun (s : List Int × Int) T H => Has T [(0, (.msl 1 lo0p 0 (List.length s.1))), (1, (eI a1)), (2, (eI b2)), (6, (eI i6)), (7, (eI s.2))] ∧ aJ ⟨H0, [lo0p], []⟩ H [(lo0p, 1, List.map (eI) s.1)] ∧ List.length s.1 = N0) hl1 ⟨.eq (by kernel_rfl), hO, hN⟩ ?_
    clear hO hN
    rintro k1 s out2 T H ⟨hT, hO, hN⟩ h2 ho1
    obtain ⟨aA, j7⟩ := s
    replace h2 : eK a1 b2 i6 aA j7 = some out2 := h2
    try dsimp only at hT
    refine bM hT ?_
    clear hT
    unfold eK at h2
    refine aN ?_
    refine aN ?_
    obtain ⟨c2, h2⟩ := aY h2
    obtain ⟨c3, h2⟩ := aY h2
    obtain ⟨x4, hx5, h2⟩ := aT h2
    refine gU (gV []) aC 15 ?_
    refine pN (K := fun T H => Has (lift T) [(0, (.msl 1 lo0p 0 (List.length aA))), (1, (eI a1)), (2, (eI b2)), (6, (eI i6)), (7, (eI j7)), (30, (aB ((decide (a1 < j7)) && x4)))] ∧ aJ ⟨H0, [lo0p], []⟩ H [(lo0p, 1, List.map (eI) aA)]) ?_ ?_
    · refine lI 4 ?_
      refine oD (t := 19) (e := decide (a1 < j7)) (by kernel_rfl) (fun hg6 => ?_) (fun hg6 => ?_)
      · refine cF 7 [0 ≤ j7 ∧ j7 < (lN aA)] ⟨(c2 hg6), trivial⟩ ?_
        refine iY 0 lo0p 1 (0 + Int.toNat j7) (eI (gD aA j7)) (eI (gD aA j7)) (List.map (eI) aA) (by kernel_rfl) (by kernel_rfl) (by kernel_rfl) hO (by kernel_rfl) (bU (c2 hg6)) ?_
        refine cF 12 [0 ≤ (wR (j7 - (1 : Int))) ∧ (wR (j7 - (1 : Int))) < (lN aA)] ⟨(c3 hg6), trivial⟩ ?_
        refine iY 0 lo0p 1 (0 + Int.toNat (wR (j7 - (1 : Int)))) (eI (gD aA (wR (j7 - (1 : Int))))) (eI (gD aA (wR (j7 - (1 : Int))))) (List.map (eI) aA) (by kernel_rfl) (by kernel_rfl) (by kernel_rfl) hO (by kernel_rfl) (bU (c3 hg6)) ?_
        refine nX 84 [(eI (gD aA j7)), (eI (gD aA (wR (j7 - (1 : Int)))))] (aB x4) (by kernel_rfl) (by kernel_rfl) (fF (gD aA j7) (gD aA (wR (j7 - (1 : Int)))) _ (kO hx5 hg6)) hO ?_
        intro H hO
        refine kX ?_
        exact ⟨⟨[(0, (.msl 1 lo0p 0 (List.length aA))), (1, (eI a1)), (2, (eI b2)), (6, (eI i6)), (7, (eI j7)), (30, (aB x4))], by kernel_rfl, rfl, ⟨aL.refl _, aL.refl _, aL.refl _, aL.refl _, aL.refl _, aL.eq (congrArg aB (mE hg6 rfl).symm), trivial⟩⟩, hO⟩
      refine kX ?_
      exact ⟨⟨[(0, (.msl 1 lo0p 0 (List.length aA))), (1, (eI a1)), (2, (eI b2)), (6, (eI i6)), (7, (eI j7)), (30, (aB false))], by kernel_rfl, rfl, ⟨aL.refl _, aL.refl _, aL.refl _, aL.refl _, aL.refl _, aL.eq (congrArg aB (mE hg6 rfl).symm), trivial⟩⟩, hO⟩
    · rintro T H ⟨hT, hO⟩
      refine eX hT ?_
      clear hT
      refine aG (aH ?_)
      refine bR h2 (fun h2 => ?_) (fun h2 => ?_)
      · refine bS ?_
        refine bD [(0, (.msl 1 lo0p 0 (List.length aA))), (1, (eI a1)), (2, (eI b2)), (6, (eI i6)), (7, (eI j7))] ?_
        refine aN ?_
        refine cG 3 ?_
        refine gU (gV []) aC 18 ?_
        obtain ⟨c8, h2⟩ := aY h2
        refine cF 9 [0 ≤ (wR (j7 - (1 : Int))) ∧ (wR (j7 - (1 : Int))) < (lN aA)] ⟨c8, trivial⟩ ?_
        refine gJ 0 lo0p 1 (0 + Int.toNat (wR (j7 - (1 : Int)))) (eI (gD aA (wR (j7 - (1 : Int))))) (eI (gD aA (wR (j7 - (1 : Int))))) (List.map (eI) aA) hO (bU c8) ?_
        obtain ⟨c9, h2⟩ := aY h2
        refine cF 13 [0 ≤ j7 ∧ j7 < (lN aA)] ⟨c9, trivial⟩ ?_
        refine gJ 0 lo0p 1 (0 + Int.toNat j7) (eI (gD aA j7)) (eI (gD aA j7)) (List.map (eI) aA) hO (bU c9) ?_
        obtain ⟨c10, h2⟩ := aY h2
        refine cF 15 [0 ≤ j7 ∧ j7 < (lN aA)] ⟨c10, trivial⟩ ?_
        refine kD 0 lo0p 1 (0 + Int.toNat j7) (eI (gD aA j7)) (eI (gD aA (wR (j7 - (1 : Int))))) (List.map (eI) aA) [(lo0p, 1, List.map (eI) (List.set aA (Int.toNat j7) (gD aA (wR (j7 - (1 : Int))))))] hO (bU c10) (by simp only [List.set, gO]) ?_
        intro H hO
        replace hN : List.length (List.set aA (Int.toNat j7) (gD aA (wR (j7 - (1 : Int))))) = N0 := by simpa using hN
        obtain ⟨c11, h2⟩ := aY h2
        refine cF 17 [0 ≤ (wR (j7 - (1 : Int))) ∧ (wR (j7 - (1 : Int))) < (lN aA)] ⟨c11, trivial⟩ ?_
        refine kD 0 lo0p 1 (0 + Int.toNat (wR (j7 - (1 : Int)))) (eI (gD (List.set aA (Int.toNat j7) (gD aA (wR (j7 - (1 : Int))))) (wR (j7 - (1 : Int))))) (eI (gD aA j7)) (List.map (eI) (List.set aA (Int.toNat j7) (gD aA (wR (j7 - (1 : Int)))))) [(lo0p, 1, List.map (eI) (List.set (List.set aA (Int.toNat j7) (gD aA (wR (j7 - (1 : Int))))) (Int.toNat (wR (j7 - (1 : Int)))) (gD aA j7)))] hO (lR c11 (by simp [])) (by simp only [List.set, gO]) ?_
        intro H hO
        replace hN : List.length (List.set (List.set aA (Int.toNat j7) (gD aA (wR (j7 - (1 : Int))))) (Int.toNat (wR (j7 - (1 : Int)))) (gD aA j7)) = N0 := by simpa using hN
        refine mB (by kernel_rfl) ?_
        refine eX (l := [(0, (.msl 1 lo0p 0 (List.length (List.set (List.set aA (Int.toNat j7) (gD aA (wR (j7 - (1 : Int))))) (Int.toNat (wR (j7 - (1 : Int)))) (gD aA j7))))), (1, (eI a1)), (2, (eI b2)), (6, (eI i6)), (7, (eI j7))]) ⟨[(0, (.msl 1 lo0p 0 (List.length aA))), (1, (eI a1)), (2, (eI b2)), (6, (eI i6)), (7, (eI j7))], by kernel_rfl, rfl, ⟨aL.eq (by simp []), aL.refl _, aL.refl _, aL.refl _, aL.refl _, trivial⟩⟩ ?_
        refine aG (aV (aH (?_)))
        refine aP aC 3 ?_
        refine bC ?_
        exact aG (aH (⟨rfl, _, (oI h2).symm, .eq (by kernel_rfl), hO, hN⟩))
      refine jP 2 ?_
      obtain rfl := oI h2
      obtain rfl : _ = rr1 := ho1
      replace h1 : fN aA a1 b2 i6 = some out1 := h1
      exact aG (aW (aW (cI (aV (aH (⟨rfl, _, .eq (by kernel_rfl), hO, hN, h1⟩))))))
  refine jP 0 ?_
  obtain rfl := oI h1
  obtain rfl : _ = rr0 := ho0
  replace h0 : some aA = some r := h0
  obtain rfl := oI h0
  exact aG (aW (aW (cI (tI (x := (.tup [])) (by kernel_rfl) (aL.refl _) ⟨rfl, hO.ext, hO.at 0 (by kernel_rfl), by first | rfl | (simp only [List.length_map]; exact hN.trans hN0)⟩))))

theorem nZ (lo0p : Nat) (aA : (List Int)) (lo1 : Int) (hi2 : Int) (aZ : Int) (r : List Int) (h0 : eU aA lo1 hi2 aZ = some r) : lS Try.prog 100 lo0p 1 (List.map (eI) aA) (List.map (eI) r) [(.msl 1 lo0p 0 (List.length aA)), (eI lo1), (eI hi2), (eI aZ)] (.tup []) := by
  intro H0 hl0
  refine dV Try.func100 ?_
  have hO := aJ.qM hl0
  clear hl0
  obtain ⟨N0, hN0⟩ : ∃ n, n = List.length aA := ⟨_, rfl⟩
  have hN : List.length aA = N0 := hN0.symm
  unfold eU at h0
  refine aS aC 2 [1] [(8, (eI lo1))] ?_
  refine cG 0 ?_
  refine iC [(0, (.msl 1 lo0p 0 (List.length aA))), (2, (eI hi2)), (3, (eI aZ)), (8, (eI lo1))] ?_
  refine iF (fun T H => ∃ aA : List Int, ∃ bX : Int, Has T [(0, (.msl 1 lo0p 0 (List.length aA))), (2, (eI hi2)), (3, (eI aZ)), (8, (eI bX))] ∧ aJ ⟨H0, [lo0p], []⟩ H [(lo0p, 1, List.map (eI) aA)] ∧ List.length aA = N0 ∧ jT aA hi2 aZ bX = some r) ?_ ⟨aA, lo1, .eq (by kernel_rfl), hO, hN, h0⟩
  clear hO hN h0
  rintro T H ⟨aA, bX, hT, hO, hN, h0⟩
  refine bM hT ?_
  clear hT
  unfold jT at h0
  obtain ⟨rr0, hl0, h0⟩ := aT h0
  refine eP (by kernel_rfl) (fun (s : List Int × Int) T H => Has T [(0, (.msl 1 lo0p 0 (List.length s.1))), (2, (eI hi2)), (3, (eI aZ)), (8, (eI s.2))] ∧ aJ ⟨H0, [lo0p], []⟩ H [(lo0p, 1, List.map (eI) s.1)] ∧ List.length s.1 = N0) hl0 ⟨.eq (by kernel_rfl), hO, hN⟩ ?_
  clear hO hN
  rintro k0 s out1 T H ⟨hT, hO, hN⟩ h1 ho0
  obtain ⟨aA, bX⟩ := s
  replace h1 : cT hi2 aZ aA bX = some out1 := h1
  try dsimp only at hT
  refine bM hT ?_
  clear hT
  unfold cT at h1
  refine cG 1 ?_
  refine aS aC 4 [] [(9, (eI (wR ((wR ((2 : Int) * bX)) + (1 : Int)))))] ?_
  refine aN ?_
  refine aS aC 3 [] [(16, (aB (decide (hi2 ≤ (wR ((wR ((2 : Int) * bX)) + (1 : Int)))))))] ?_
  refine bR h1 (fun h1 => ?_) (fun h1 => ?_)
  · refine jP 0 ?_
    obtain rfl := oI h1
    obtain rfl : _ = rr0 := ho0
    replace h0 : some aA = some r := h0
    obtain rfl := oI h0
    exact aG (aW (pX (by kernel_rfl) (aW (cI (tI (x := (.tup [])) (by kernel_rfl) (aL.refl _) ⟨rfl, hO.ext, hO.at 0 (by kernel_rfl), by first | rfl | (simp only [List.length_map]; exact hN.trans hN0)⟩)))))
  refine bS ?_
  refine bD [(0, (.msl 1 lo0p 0 (List.length aA))), (2, (eI hi2)), (3, (eI aZ)), (8, (eI bX)), (9, (eI (wR ((wR ((2 : Int) * bX)) + (1 : Int)))))] ?_
  refine jD (fun T H => ∃ aA : List Int, ∃ dM : Int, Has T [(0, (.msl 1 lo0p 0 (List.length aA))), (2, (eI hi2)), (3, (eI aZ)), (8, (eI bX)), (9, (eI dM))] ∧ aJ ⟨H0, [lo0p], []⟩ H [(lo0p, 1, List.map (eI) aA)] ∧ List.length aA = N0 ∧ fP aA hi2 aZ bX dM = some out1) ?_ ?_
  · clear hO hN h1
    rintro T H ⟨aA, dM, hT, hO, hN, h1⟩
    refine bM hT ?_
    clear hT
    unfold fP at h1
    refine aN ?_
    refine aN ?_
    refine gU (gV [51]) aC 14 ?_
    obtain ⟨c2, h1⟩ := aY h1
    refine cF 5 [0 ≤ (wR (aZ + bX)) ∧ (wR (aZ + bX)) < (lN aA)] ⟨c2, trivial⟩ ?_
    refine gJ 0 lo0p 1 (0 + Int.toNat (wR (aZ + bX))) (eI (gD aA (wR (aZ + bX)))) (eI (gD aA (wR (aZ + bX)))) (List.map (eI) aA) hO (bU c2) ?_
    obtain ⟨c3, h1⟩ := aY h1
    refine cF 11 [0 ≤ (wR (aZ + dM)) ∧ (wR (aZ + dM)) < (lN aA)] ⟨c3, trivial⟩ ?_
    refine gJ 0 lo0p 1 (0 + Int.toNat (wR (aZ + dM))) (eI (gD aA (wR (aZ + dM)))) (eI (gD aA (wR (aZ + dM)))) (List.map (eI) aA) hO (bU c3) ?_
    obtain ⟨x4, hx5, h1⟩ := aT h1
    refine xB (fF (gD aA (wR (aZ + bX))) (gD aA (wR (aZ + dM))) _ hx5) hO ?_
    intro H hO
    refine kX ?_
    refine cD [] [(52, (aB (!x4)))] ?_
    refine bR h1 (fun h1 => ?_) (fun h1 => ?_)
    · refine bL ?_
      obtain rfl := oI h1
      obtain rfl : _ = rr0 := ho0
      replace h0 : some aA = some r := h0
      obtain rfl := oI h0
      exact aG (aR (bJ (aR (bJ (lC (x := (.tup [])) (by kernel_rfl) (aL.refl _) ⟨rfl, hO.ext, hO.at 0 (by kernel_rfl), by first | rfl | (simp only [List.length_map]; exact hN.trans hN0)⟩)))))
    refine bS ?_
    refine bD [(0, (.msl 1 lo0p 0 (List.length aA))), (2, (eI hi2)), (3, (eI aZ)), (8, (eI bX)), (9, (eI dM))] ?_
    refine aN ?_
    refine gU (gV []) aC 24 ?_
    obtain ⟨c8, h1⟩ := aY h1
    refine cF 13 [0 ≤ (wR (aZ + dM)) ∧ (wR (aZ + dM)) < (lN aA)] ⟨c8, trivial⟩ ?_
    refine gJ 0 lo0p 1 (0 + Int.toNat (wR (aZ + dM))) (eI (gD aA (wR (aZ + dM)))) (eI (gD aA (wR (aZ + dM)))) (List.map (eI) aA) hO (bU c8) ?_
    obtain ⟨c9, h1⟩ := aY h1
    refine cF 19 [0 ≤ (wR (aZ + bX)) ∧ (wR (aZ + bX)) < (lN aA)] ⟨c9, trivial⟩ ?_
    refine gJ 0 lo0p 1 (0 + Int.toNat (wR (aZ + bX))) (eI (gD aA (wR (aZ + bX)))) (eI (gD aA (wR (aZ + bX)))) (List.map (eI) aA) hO (bU c9) ?_
    obtain ⟨c10, h1⟩ := aY h1
    refine cF 21 [0 ≤ (wR (aZ + bX)) ∧ (wR (aZ + bX)) < (lN aA)] ⟨c10, trivial⟩ ?_
    refine kD 0 lo0p 1 (0 + Int.toNat (wR (aZ + bX))) (eI (gD aA (wR (aZ + bX)))) (eI (gD aA (wR (aZ + dM)))) (List.map (eI) aA) [(lo0p, 1, List.map (eI) (List.set aA (Int.toNat (wR (aZ + bX))) (gD aA (wR (aZ + dM)))))] hO (bU c10) (by simp only [List.set, gO]) ?_
    intro H hO
    replace hN : List.length (List.set aA (Int.toNat (wR (aZ + bX))) (gD aA (wR (aZ + dM)))) = N0 := by simpa using hN
    obtain ⟨c11, h1⟩ := aY h1
    refine cF 23 [0 ≤ (wR (aZ + dM)) ∧ (wR (aZ + dM)) < (lN aA)] ⟨c11, trivial⟩ ?_
    refine kD 0 lo0p 1 (0 + Int.toNat (wR (aZ + dM))) (eI (gD (List.set aA (Int.toNat (wR (aZ + bX))) (gD aA (wR (aZ + dM)))) (wR (aZ + dM)))) (eI (gD aA (wR (aZ + bX)))) (List.map (eI) (List.set aA (Int.toNat (wR (aZ + bX))) (gD aA (wR (aZ + dM))))) [(lo0p, 1, List.map (eI) (List.set (List.set aA (Int.toNat (wR (aZ + bX))) (gD aA (wR (aZ + dM)))) (Int.toNat (wR (aZ + dM))) (gD aA (wR (aZ + bX)))))] hO (lR c11 (by simp [])) (by simp only [List.set, gO]) ?_
    intro H hO
    replace hN : List.length (List.set (List.set aA (Int.toNat (wR (aZ + bX))) (gD aA (wR (aZ + dM)))) (Int.toNat (wR (aZ + dM))) (gD aA (wR (aZ + bX)))) = N0 := by simpa using hN
    refine mB (by kernel_rfl) ?_
    refine eX (l := [(0, (.msl 1 lo0p 0 (List.length (List.set (List.set aA (Int.toNat (wR (aZ + bX))) (gD aA (wR (aZ + dM)))) (Int.toNat (wR (aZ + dM))) (gD aA (wR (aZ + bX))))))), (2, (eI hi2)), (3, (eI aZ)), (9, (eI dM))]) ⟨[(0, (.msl 1 lo0p 0 (List.length aA))), (2, (eI hi2)), (3, (eI aZ)), (9, (eI dM))], by kernel_rfl, rfl, ⟨aL.eq (by simp []), aL.refl _, aL.refl _, aL.refl _, trivial⟩⟩ ?_
    refine aG (aH (?_))
    refine aP aC 2 ?_
    refine bC ?_
    exact aG (aV (aH (⟨rfl, _, (oI h1).symm, .eq (by kernel_rfl), hO, hN⟩)))
  refine aN ?_
  obtain ⟨c12, h1⟩ := aY h1
  obtain ⟨c13, h1⟩ := aY h1
  obtain ⟨x14, hx15, h1⟩ := aT h1
  refine gU (gV []) aC 20 ?_
  refine pN (K := fun T H => Has (lift T) [(0, (.msl 1 lo0p 0 (List.length aA))), (2, (eI hi2)), (3, (eI aZ)), (8, (eI bX)), (9, (eI (wR ((wR ((2 : Int) * bX)) + (1 : Int))))), (36, (aB ((decide ((wR ((wR ((wR ((2 : Int) * bX)) + (1 : Int))) + (1 : Int))) < hi2)) && x14)))] ∧ aJ ⟨H0, [lo0p], []⟩ H [(lo0p, 1, List.map (eI) aA)]) ?_ ?_
  · refine lI 5 ?_
    refine oD (t := 21) (e := decide ((wR ((wR ((wR ((2 : Int) * bX)) + (1 : Int))) + (1 : Int))) < hi2)) (by kernel_rfl) (fun hg16 => ?_) (fun hg16 => ?_)
    · refine cF 10 [0 ≤ (wR (aZ + (wR ((wR ((2 : Int) * bX)) + (1 : Int))))) ∧ (wR (aZ + (wR ((wR ((2 : Int) * bX)) + (1 : Int))))) < (lN aA)] ⟨(c12 hg16), trivial⟩ ?_
      refine iY 0 lo0p 1 (0 + Int.toNat (wR (aZ + (wR ((wR ((2 : Int) * bX)) + (1 : Int)))))) (eI (gD aA (wR (aZ + (wR ((wR ((2 : Int) * bX)) + (1 : Int))))))) (eI (gD aA (wR (aZ + (wR ((wR ((2 : Int) * bX)) + (1 : Int))))))) (List.map (eI) aA) (by kernel_rfl) (by kernel_rfl) (by kernel_rfl) hO (by kernel_rfl) (bU (c12 hg16)) ?_
      refine cF 17 [0 ≤ (wR ((wR (aZ + (wR ((wR ((2 : Int) * bX)) + (1 : Int))))) + (1 : Int))) ∧ (wR ((wR (aZ + (wR ((wR ((2 : Int) * bX)) + (1 : Int))))) + (1 : Int))) < (lN aA)] ⟨(c13 hg16), trivial⟩ ?_
      refine iY 0 lo0p 1 (0 + Int.toNat (wR ((wR (aZ + (wR ((wR ((2 : Int) * bX)) + (1 : Int))))) + (1 : Int)))) (eI (gD aA (wR ((wR (aZ + (wR ((wR ((2 : Int) * bX)) + (1 : Int))))) + (1 : Int))))) (eI (gD aA (wR ((wR (aZ + (wR ((wR ((2 : Int) * bX)) + (1 : Int))))) + (1 : Int))))) (List.map (eI) aA) (by kernel_rfl) (by kernel_rfl) (by kernel_rfl) hO (by kernel_rfl) (bU (c13 hg16)) ?_
      refine nX 84 [(eI (gD aA (wR (aZ + (wR ((wR ((2 : Int) * bX)) + (1 : Int))))))), (eI (gD aA (wR ((wR (aZ + (wR ((wR ((2 : Int) * bX)) + (1 : Int))))) + (1 : Int)))))] (aB x14) (by kernel_rfl) (by kernel_rfl) (fF (gD aA (wR (aZ + (wR ((wR ((2 : Int) * bX)) + (1 : Int)))))) (gD aA (wR ((wR (aZ + (wR ((wR ((2 : Int) * bX)) + (1 : Int))))) + (1 : Int)))) _ (kO hx15 hg16)) hO ?_
      intro H hO
      refine kX ?_
      exact ⟨⟨[(0, (.msl 1 lo0p 0 (List.length aA))), (2, (eI hi2)), (3, (eI aZ)), (8, (eI bX)), (9, (eI (wR ((wR ((2 : Int) * bX)) + (1 : Int))))), (36, (aB x14))], by kernel_rfl, rfl, ⟨aL.refl _, aL.refl _, aL.refl _, aL.refl _, aL.refl _, aL.eq (congrArg aB (mE hg16 rfl).symm), trivial⟩⟩, hO⟩
    refine kX ?_
    exact ⟨⟨[(0, (.msl 1 lo0p 0 (List.length aA))), (2, (eI hi2)), (3, (eI aZ)), (8, (eI bX)), (9, (eI (wR ((wR ((2 : Int) * bX)) + (1 : Int))))), (36, (aB false))], by kernel_rfl, rfl, ⟨aL.refl _, aL.refl _, aL.refl _, aL.refl _, aL.refl _, aL.eq (congrArg aB (mE hg16 rfl).symm), trivial⟩⟩, hO⟩
  · rintro T H ⟨hT, hO⟩
    refine eX hT ?_
    clear hT
    refine aG (aH ?_)
    refine bR h1 (fun h1 => ?_) (fun h1 => ?_)
    · refine aP aC 3 ?_
      refine bC ?_
      exact aG (aH (⟨rfl, _, _, .eq (by kernel_rfl), hO, hN, h1⟩))
    refine bS ?_
    exact aG (aH (⟨rfl, _, _, .eq (by kernel_rfl), hO, hN, h1⟩))

theorem tV (lo0p : Nat) (aA : (List Int)) (a1 : Int) (b2 : Int) (r : List Int) (h0 : iS aA a1 b2 = some r) : lS Try.prog 79 lo0p 1 (List.map (eI) aA) (List.map (eI) r) [(.msl 1 lo0p 0 (List.length aA)), (eI a1), (eI b2)] (.tup []) := by
  intro H0 hl0
  refine dV Try.func79 ?_
  have hO := aJ.qM hl0
  clear hl0
  obtain ⟨N0, hN0⟩ : ∃ n, n = List.length aA := ⟨_, rfl⟩
  have hN : List.length aA = N0 := hN0.symm
  unfold iS at h0
  refine aS aC 2 [] [(6, (eI a1))] ?_
  refine aS aC 1 [] [(7, (eI (0 : Int)))] ?_
  refine aS aC 4 [1, 2] [(8, (eI (wR (b2 - a1))))] ?_
  refine jD (fun T H => ∃ aA : List Int, ∃ bI : Int, ∃ lo7 : Int, ∃ hi8 : Int, Has T [(0, (.msl 1 lo0p 0 (List.length aA))), (6, (eI bI)), (7, (eI lo7)), (8, (eI hi8))] ∧ aJ ⟨H0, [lo0p], []⟩ H [(lo0p, 1, List.map (eI) aA)] ∧ List.length aA = N0 ∧ iK aA bI lo7 hi8 = some r) ?_ ?_
  · clear hO hN h0
    rintro T H ⟨aA, bI, lo7, hi8, hT, hO, hN, h0⟩
    refine bM hT ?_
    clear hT
    unfold iK at h0
    refine aS aC 3 [8] [(10, (eI (wR (hi8 - (1 : Int)))))] ?_
    refine cG 2 ?_
    refine iC [(0, (.msl 1 lo0p 0 (List.length aA))), (6, (eI bI)), (7, (eI lo7)), (10, (eI (wR (hi8 - (1 : Int)))))] ?_
    refine iF (fun T H => ∃ aA : List Int, ∃ i10 : Int, Has T [(0, (.msl 1 lo0p 0 (List.length aA))), (6, (eI bI)), (7, (eI lo7)), (10, (eI i10))] ∧ aJ ⟨H0, [lo0p], []⟩ H [(lo0p, 1, List.map (eI) aA)] ∧ List.length aA = N0 ∧ jU aA bI lo7 i10 = some r) ?_ ⟨aA, wR (hi8 - (1 : Int)), .eq (by kernel_rfl), hO, hN, h0⟩
    clear hO hN h0
    rintro T H ⟨aA, i10, hT, hO, hN, h0⟩
    refine bM hT ?_
    clear hT
    unfold jU at h0
    obtain ⟨rr0, hl0, h0⟩ := aT h0
    refine eP (by kernel_rfl) (fun (s : List Int × Int) T H => Has T [(0, (.msl 1 lo0p 0 (List.length s.1))), (6, (eI bI)), (7, (eI lo7)), (10, (eI s.2))] ∧ aJ ⟨H0, [lo0p], []⟩ H [(lo0p, 1, List.map (eI) s.1)] ∧ List.length s.1 = N0) hl0 ⟨.eq (by kernel_rfl), hO, hN⟩ ?_
    clear hO hN
    rintro k0 s out1 T H ⟨hT, hO, hN⟩ h1 ho0
    obtain ⟨aA, i10⟩ := s
    replace h1 : dN bI lo7 aA i10 = some out1 := h1
    try dsimp only at hT
    refine bM hT ?_
    clear hT
    unfold dN at h1
    refine aN ?_
    refine aS aC 2 [] [(30, (aB (decide ((0 : Int) ≤ i10))))] ?_
    refine bR h1 (fun h1 => ?_) (fun h1 => ?_)
    · refine bS ?_
      refine bD [(0, (.msl 1 lo0p 0 (List.length aA))), (6, (eI bI)), (7, (eI lo7)), (10, (eI i10))] ?_
      refine aN ?_
      refine cG 3 ?_
      refine aN ?_
      refine gU (gV []) aC 20 ?_
      obtain ⟨c2, h1⟩ := aY h1
      refine cF 11 [0 ≤ (wR (bI + i10)) ∧ (wR (bI + i10)) < (lN aA)] ⟨c2, trivial⟩ ?_
      refine gJ 0 lo0p 1 (0 + Int.toNat (wR (bI + i10))) (eI (gD aA (wR (bI + i10)))) (eI (gD aA (wR (bI + i10)))) (List.map (eI) aA) hO (bU c2) ?_
      obtain ⟨c3, h1⟩ := aY h1
      refine cF 15 [0 ≤ bI ∧ bI < (lN aA)] ⟨c3, trivial⟩ ?_
      refine gJ 0 lo0p 1 (0 + Int.toNat bI) (eI (gD aA bI)) (eI (gD aA bI)) (List.map (eI) aA) hO (bU c3) ?_
      obtain ⟨c4, h1⟩ := aY h1
      refine cF 17 [0 ≤ bI ∧ bI < (lN aA)] ⟨c4, trivial⟩ ?_
      refine kD 0 lo0p 1 (0 + Int.toNat bI) (eI (gD aA bI)) (eI (gD aA (wR (bI + i10)))) (List.map (eI) aA) [(lo0p, 1, List.map (eI) (List.set aA (Int.toNat bI) (gD aA (wR (bI + i10)))))] hO (bU c4) (by simp only [List.set, gO]) ?_
      intro H hO
      replace hN : List.length (List.set aA (Int.toNat bI) (gD aA (wR (bI + i10)))) = N0 := by simpa using hN
      obtain ⟨c5, h1⟩ := aY h1
      refine cF 19 [0 ≤ (wR (bI + i10)) ∧ (wR (bI + i10)) < (lN aA)] ⟨c5, trivial⟩ ?_
      refine kD 0 lo0p 1 (0 + Int.toNat (wR (bI + i10))) (eI (gD (List.set aA (Int.toNat bI) (gD aA (wR (bI + i10)))) (wR (bI + i10)))) (eI (gD aA bI)) (List.map (eI) (List.set aA (Int.toNat bI) (gD aA (wR (bI + i10))))) [(lo0p, 1, List.map (eI) (List.set (List.set aA (Int.toNat bI) (gD aA (wR (bI + i10)))) (Int.toNat (wR (bI + i10))) (gD aA bI)))] hO (lR c5 (by simp [])) (by simp only [List.set, gO]) ?_
      intro H hO
      replace hN : List.length (List.set (List.set aA (Int.toNat bI) (gD aA (wR (bI + i10)))) (Int.toNat (wR (bI + i10))) (gD aA bI)) = N0 := by simpa using hN
      refine mB (by kernel_rfl) ?_
      refine eX (l := [(0, (.msl 1 lo0p 0 (List.length (List.set (List.set aA (Int.toNat bI) (gD aA (wR (bI + i10)))) (Int.toNat (wR (bI + i10))) (gD aA bI))))), (6, (eI bI)), (7, (eI lo7)), (10, (eI i10))]) ⟨[(0, (.msl 1 lo0p 0 (List.length aA))), (6, (eI bI)), (7, (eI lo7)), (10, (eI i10))], by kernel_rfl, rfl, ⟨aL.eq (by simp []), aL.refl _, aL.refl _, aL.refl _, trivial⟩⟩ ?_
      refine aG (aH (?_))
      refine aP aC 5 ?_
      refine bN 4 ?_
      obtain ⟨x6, hx7, h1⟩ := aT h1
      refine tO [(lo0p, 1, List.map (eI) x6)] 0 (nZ lo0p (List.set (List.set aA (Int.toNat bI) (gD aA (wR (bI + i10)))) (Int.toNat (wR (bI + i10))) (gD aA bI)) lo7 i10 bI _ hx7) hO ?_
      intro H hO hl8
      simp only [List.length_map] at hl8
      replace hN := hl8.trans hN
      refine dQ ?_
      refine eX (l := [(0, (.msl 1 lo0p 0 (List.length x6))), (6, (eI bI)), (7, (eI lo7)), (10, (eI i10))]) ⟨[(0, (.msl 1 lo0p 0 (List.length (List.set (List.set aA (Int.toNat bI) (gD aA (wR (bI + i10)))) (Int.toNat (wR (bI + i10))) (gD aA bI))))), (6, (eI bI)), (7, (eI lo7)), (10, (eI i10))], by kernel_rfl, rfl, ⟨aL.eq (by simp [hl8]), aL.refl _, aL.refl _, aL.refl _, trivial⟩⟩ ?_
      refine aG (aV (aH (?_)))
      refine aP aC 3 ?_
      refine bC ?_
      exact aG (aH (⟨rfl, _, (oI h1).symm, .eq (by kernel_rfl), hO, hN⟩))
    refine jP 2 ?_
    obtain rfl := oI h1
    obtain rfl : _ = rr0 := ho0
    replace h0 : some aA = some r := h0
    obtain rfl := oI h0
    exact aG (aW (aW (cI (tI (x := (.tup [])) (by kernel_rfl) (aL.refl _) ⟨rfl, hO.ext, hO.at 0 (by kernel_rfl), by first | rfl | (simp only [List.length_map]; exact hN.trans hN0)⟩))))
  refine aN ?_
  refine aP aC 4 ?_
  obtain ⟨c9, h0⟩ := aY h0
  refine rY [(2 : Int) ≠ 0] ⟨c9, trivial⟩ ?_
  refine cD [] [(9, (eI (wR (Int.tdiv (wR ((wR (b2 - a1)) - (1 : Int))) (2 : Int)))))] ?_
  refine cG 0 ?_
  refine iC [(0, (.msl 1 lo0p 0 (List.length aA))), (6, (eI a1)), (7, (eI (0 : Int))), (8, (eI (wR (b2 - a1)))), (9, (eI (wR (Int.tdiv (wR ((wR (b2 - a1)) - (1 : Int))) (2 : Int)))))] ?_
  refine iF (fun T H => ∃ aA : List Int, ∃ bI : Int, ∃ lo7 : Int, ∃ hi8 : Int, ∃ i9 : Int, Has T [(0, (.msl 1 lo0p 0 (List.length aA))), (6, (eI bI)), (7, (eI lo7)), (8, (eI hi8)), (9, (eI i9))] ∧ aJ ⟨H0, [lo0p], []⟩ H [(lo0p, 1, List.map (eI) aA)] ∧ List.length aA = N0 ∧ jV aA bI lo7 hi8 i9 = some r) ?_ ⟨aA, a1, (0 : Int), wR (b2 - a1), wR (Int.tdiv (wR ((wR (b2 - a1)) - (1 : Int))) (2 : Int)), .eq (by kernel_rfl), hO, hN, h0⟩
  clear hO hN h0
  rintro T H ⟨aA, bI, lo7, hi8, i9, hT, hO, hN, h0⟩
  refine bM hT ?_
  clear hT
  unfold jV at h0
  obtain ⟨rr0, hl0, h0⟩ := aT h0
  refine eP (by kernel_rfl) (fun (s : List Int × Int) T H => Has T [(0, (.msl 1 lo0p 0 (List.length s.1))), (6, (eI bI)), (7, (eI lo7)), (8, (eI hi8)), (9, (eI s.2))] ∧ aJ ⟨H0, [lo0p], []⟩ H [(lo0p, 1, List.map (eI) s.1)] ∧ List.length s.1 = N0) hl0 ⟨.eq (by kernel_rfl), hO, hN⟩ ?_
  clear hO hN
  rintro k0 s out1 T H ⟨hT, hO, hN⟩ h1 ho0
  obtain ⟨aA, i9⟩ := s
  replace h1 : dO bI lo7 hi8 aA i9 = some out1 := h1
  try dsimp only at hT
  refine bM hT ?_
  clear hT
  unfold dO at h1
  refine aN ?_
  refine aS aC 2 [] [(19, (aB (decide ((0 : Int) ≤ i9))))] ?_
  refine bR h1 (fun h1 => ?_) (fun h1 => ?_)
  · refine bS ?_
    refine bD [(0, (.msl 1 lo0p 0 (List.length aA))), (6, (eI bI)), (7, (eI lo7)), (8, (eI hi8)), (9, (eI i9))] ?_
    refine aN ?_
    refine cG 1 ?_
    refine aP aC 5 ?_
    refine bN 4 ?_
    obtain ⟨x11, hx12, h1⟩ := aT h1
    refine tO [(lo0p, 1, List.map (eI) x11)] 0 (nZ lo0p aA i9 hi8 bI _ hx12) hO ?_
    intro H hO hl13
    simp only [List.length_map] at hl13
    replace hN := hl13.trans hN
    refine dQ ?_
    refine eX (l := [(0, (.msl 1 lo0p 0 (List.length x11))), (6, (eI bI)), (7, (eI lo7)), (8, (eI hi8)), (9, (eI i9))]) ⟨[(0, (.msl 1 lo0p 0 (List.length aA))), (6, (eI bI)), (7, (eI lo7)), (8, (eI hi8)), (9, (eI i9))], by kernel_rfl, rfl, ⟨aL.eq (by simp [hl13]), aL.refl _, aL.refl _, aL.refl _, aL.refl _, trivial⟩⟩ ?_
    refine aG (aV (aH (?_)))
    refine aP aC 3 ?_
    refine bC ?_
    exact aG (aH (⟨rfl, _, (oI h1).symm, .eq (by kernel_rfl), hO, hN⟩))
  refine jP 0 ?_
  obtain rfl := oI h1
  obtain rfl : _ = rr0 := ho0
  replace h0 : iK aA bI lo7 hi8 = some r := h0
  exact aG (aW (aW (cI (aH (⟨rfl, _, _, _, _, .eq (by kernel_rfl), hO, hN, h0⟩)))))

theorem wK (xS : Int) (r : Int) (h0 : kF xS = some r) : dZ Try.prog 101 [(eI xS)] (cS .u64 r) := by
  intro H0
  refine dV Try.func101 ?_
  have hO := aJ.start H0
  unfold kF at h0
  refine aS aC 1 [] [] ?_
  refine aN ?_
  refine aP aC 5 ?_
  refine bN 2 ?_
  obtain ⟨x1, hx2, h0⟩ := aT h0
  refine fB (wN (IntKind.u64.wrap xS) _ hx2) hO ?_
  intro H hO
  obtain ⟨c4, h0⟩ := aY h0
  refine rY [0 ≤ x1] ⟨c4, trivial⟩ ?_
  refine bD [(2, (cS .u64 (IntKind.u64.wrap ((1 : Int) * 2 ^ (min (Int.toNat x1) 64)))))] ?_
  refine bL ?_
  obtain rfl := oI h0
  exact aG (Q_r hO)

theorem xC (lo0p : Nat) (r0 : Int) (r : (Int × Int)) (h0 : kN r0 = some r) : vD Try.prog 102 [(.lp lo0p 0 0)] [(lo0p, 1, [(cS .u64 r0)])] (fun x L => x = (cS .u64 r.1) ∧ L = [(lo0p, 1, [(cS .u64 r.2)])]) := by
  intro F H0 hO
  obtain ⟨Fh, Fe, Fg⟩ := F
  refine dV Try.func102 ?_
  unfold kN at h0
  refine aS aC 1 [] [] ?_
  refine aN ?_
  refine gU (gV []) aC 10 ?_
  refine lI 2 ?_
  refine gJ 0 lo0p 1 0 (cS .u64 r0) (cS .u64 r0) [(cS .u64 r0)] hO rfl ?_
  refine lI 5 ?_
  refine gJ 0 lo0p 1 0 (cS .u64 r0) (cS .u64 r0) [(cS .u64 r0)] hO rfl ?_
  obtain ⟨c1, h0⟩ := aY h0
  refine cF 9 [0 ≤ (13 : Int)] ⟨c1, trivial⟩ ?_
  refine kD 0 lo0p 1 0 (cS .u64 r0) (cS .u64 (bH .xor .u64 r0 (IntKind.u64.wrap (r0 * 2 ^ (min (Int.toNat (13 : Int)) 64))))) [(cS .u64 r0)] [(lo0p, 1, [(cS .u64 (bH .xor .u64 r0 (IntKind.u64.wrap (r0 * 2 ^ (min (Int.toNat (13 : Int)) 64)))))])] hO rfl (by kernel_rfl) ?_
  intro H hO
  refine mB (by kernel_rfl) ?_
  refine cD [] [] ?_
  refine aN ?_
  refine gU (gV []) aC 10 ?_
  refine lI 2 ?_
  refine gJ 0 lo0p 1 0 (cS .u64 (bH .xor .u64 r0 (IntKind.u64.wrap (r0 * 2 ^ (min (Int.toNat (13 : Int)) 64))))) (cS .u64 (bH .xor .u64 r0 (IntKind.u64.wrap (r0 * 2 ^ (min (Int.toNat (13 : Int)) 64))))) [(cS .u64 (bH .xor .u64 r0 (IntKind.u64.wrap (r0 * 2 ^ (min (Int.toNat (13 : Int)) 64)))))] hO rfl ?_
  refine lI 5 ?_
  refine gJ 0 lo0p 1 0 (cS .u64 (bH .xor .u64 r0 (IntKind.u64.wrap (r0 * 2 ^ (min (Int.toNat (13 : Int)) 64))))) (cS .u64 (bH .xor .u64 r0 (IntKind.u64.wrap (r0 * 2 ^ (min (Int.toNat (13 : Int)) 64))))) [(cS .u64 (bH .xor .u64 r0 (IntKind.u64.wrap (r0 * 2 ^ (min (Int.toNat (13 : Int)) 64)))))] hO rfl ?_
  obtain ⟨c2, h0⟩ := aY h0
  refine cF 9 [0 ≤ (7 : Int)] ⟨c2, trivial⟩ ?_
  refine kD 0 lo0p 1 0 (cS .u64 (bH .xor .u64 r0 (IntKind.u64.wrap (r0 * 2 ^ (min (Int.toNat (13 : Int)) 64))))) (cS .u64 (bH .xor .u64 (bH .xor .u64 r0 (IntKind.u64.wrap (r0 * 2 ^ (min (Int.toNat (13 : Int)) 64)))) (Int.fdiv (bH .xor .u64 r0 (IntKind.u64.wrap (r0 * 2 ^ (min (Int.toNat (13 : Int)) 64)))) (2 ^ (min (Int.toNat (7 : Int)) 64))))) [(cS .u64 (bH .xor .u64 r0 (IntKind.u64.wrap (r0 * 2 ^ (min (Int.toNat (13 : Int)) 64)))))] [(lo0p, 1, [(cS .u64 (bH .xor .u64 (bH .xor .u64 r0 (IntKind.u64.wrap (r0 * 2 ^ (min (Int.toNat (13 : Int)) 64)))) (Int.fdiv (bH .xor .u64 r0 (IntKind.u64.wrap (r0 * 2 ^ (min (Int.toNat (13 : Int)) 64)))) (2 ^ (min (Int.toNat (7 : Int)) 64)))))])] hO rfl (by kernel_rfl) ?_
  intro H hO
  refine mB (by kernel_rfl) ?_
  refine cD [] [] ?_
  refine aN ?_
  refine gU (gV []) aC 10 ?_
  refine lI 2 ?_
  refine gJ 0 lo0p 1 0 (cS .u64 (bH .xor .u64 (bH .xor .u64 r0 (IntKind.u64.wrap (r0 * 2 ^ (min (Int.toNat (13 : Int)) 64)))) (Int.fdiv (bH .xor .u64 r0 (IntKind.u64.wrap (r0 * 2 ^ (min (Int.toNat (13 : Int)) 64)))) (2 ^ (min (Int.toNat (7 : Int)) 64))))) (cS .u64 (bH .xor .u64 (bH .xor .u64 r0 (IntKind.u64.wrap (r0 * 2 ^ (min (Int.toNat (13 : Int)) 64)))) (Int.fdiv (bH .xor .u64 r0 (IntKind.u64.wrap (r0 * 2 ^ (min (Int.toNat (13 : Int)) 64)))) (2 ^ (min (Int.toNat (7 : Int)) 64))))) [(cS .u64 (bH .xor .u64 (bH .xor .u64 r0 (IntKind.u64.wrap (r0 * 2 ^ (min (Int.toNat (13 : Int)) 64)))) (Int.fdiv (bH .xor .u64 r0 (IntKind.u64.wrap (r0 * 2 ^ (min (Int.toNat (13 : Int)) 64)))) (2 ^ (min (Int.toNat (7 : Int)) 64)))))] hO rfl ?_
  refine lI 5 ?_
  refine gJ 0 lo0p 1 0 (cS .u64 (bH .xor .u64 (bH .xor .u64 r0 (IntKind.u64.wrap (r0 * 2 ^ (min (Int.toNat (13 : Int)) 64)))) (Int.fdiv (bH .xor .u64 r0 (IntKind.u64.wrap (r0 * 2 ^ (min (Int.toNat (13 : Int)) 64)))) (2 ^ (min (Int.toNat (7 : Int)) 64))))) (cS .u64 (bH .xor .u64 (bH .xor .u64 r0 (IntKind.u64.wrap (r0 * 2 ^ (min (Int.toNat (13 : Int)) 64)))) (Int.fdiv (bH .xor .u64 r0 (IntKind.u64.wrap (r0 * 2 ^ (min (Int.toNat (13 : Int)) 64)))) (2 ^ (min (Int.toNat (7 : Int)) 64))))) [(cS .u64 (bH .xor .u64 (bH .xor .u64 r0 (IntKind.u64.wrap (r0 * 2 ^ (min (Int.toNat (13 : Int)) 64)))) (Int.fdiv (bH .xor .u64 r0 (IntKind.u64.wrap (r0 * 2 ^ (min (Int.toNat (13 : Int)) 64)))) (2 ^ (min (Int.toNat (7 : Int)) 64)))))] hO rfl ?_
  obtain ⟨c3, h0⟩ := aY h0
  refine cF 9 [0 ≤ (17 : Int)] ⟨c3, trivial⟩ ?_
  refine kD 0 lo0p 1 0 (cS .u64 (bH .xor .u64 (bH .xor .u64 r0 (IntKind.u64.wrap (r0 * 2 ^ (min (Int.toNat (13 : Int)) 64)))) (Int.fdiv (bH .xor .u64 r0 (IntKind.u64.wrap (r0 * 2 ^ (min (Int.toNat (13 : Int)) 64)))) (2 ^ (min (Int.toNat (7 : Int)) 64))))) (cS .u64 (bH .xor .u64 (bH .xor .u64 (bH .xor .u64 r0 (IntKind.u64.wrap (r0 * 2 ^ (min (Int.toNat (13 : Int)) 64)))) (Int.fdiv (bH .xor .u64 r0 (IntKind.u64.wrap (r0 * 2 ^ (min (Int.toNat (13 : Int)) 64)))) (2 ^ (min (Int.toNat (7 : Int)) 64)))) (IntKind.u64.wrap ((bH .xor .u64 (bH .xor .u64 r0 (IntKind.u64.wrap (r0 * 2 ^ (min (Int.toNat (13 : Int)) 64)))) (Int.fdiv (bH .xor .u64 r0 (IntKind.u64.wrap (r0 * 2 ^ (min (Int.toNat (13 : Int)) 64)))) (2 ^ (min (Int.toNat (7 : Int)) 64)))) * 2 ^ (min (Int.toNat (17 : Int)) 64))))) [(cS .u64 (bH .xor .u64 (bH .xor .u64 r0 (IntKind.u64.wrap (r0 * 2 ^ (min (Int.toNat (13 : Int)) 64)))) (Int.fdiv (bH .xor .u64 r0 (IntKind.u64.wrap (r0 * 2 ^ (min (Int.toNat (13 : Int)) 64)))) (2 ^ (min (Int.toNat (7 : Int)) 64)))))] [(lo0p, 1, [(cS .u64 (bH .xor .u64 (bH .xor .u64 (bH .xor .u64 r0 (IntKind.u64.wrap (r0 * 2 ^ (min (Int.toNat (13 : Int)) 64)))) (Int.fdiv (bH .xor .u64 r0 (IntKind.u64.wrap (r0 * 2 ^ (min (Int.toNat (13 : Int)) 64)))) (2 ^ (min (Int.toNat (7 : Int)) 64)))) (IntKind.u64.wrap ((bH .xor .u64 (bH .xor .u64 r0 (IntKind.u64.wrap (r0 * 2 ^ (min (Int.toNat (13 : Int)) 64)))) (Int.fdiv (bH .xor .u64 r0 (IntKind.u64.wrap (r0 * 2 ^ (min (Int.toNat (13 : Int)) 64)))) (2 ^ (min (Int.toNat (7 : Int)) 64)))) * 2 ^ (min (Int.toNat (17 : Int)) 64)))))])] hO rfl (by kernel_rfl) ?_
  intro H hO
  refine mB (by kernel_rfl) ?_
  refine cD [] [] ?_
  refine aN ?_
  refine aP aC 4 ?_
  refine bN 2 ?_
  refine mQ 0 lo0p 1 0 (cS .u64 (bH .xor .u64 (bH .xor .u64 (bH .xor .u64 r0 (IntKind.u64.wrap (r0 * 2 ^ (min (Int.toNat (13 : Int)) 64)))) (Int.fdiv (bH .xor .u64 r0 (IntKind.u64.wrap (r0 * 2 ^ (min (Int.toNat (13 : Int)) 64)))) (2 ^ (min (Int.toNat (7 : Int)) 64)))) (IntKind.u64.wrap ((bH .xor .u64 (bH .xor .u64 r0 (IntKind.u64.wrap (r0 * 2 ^ (min (Int.toNat (13 : Int)) 64)))) (Int.fdiv (bH .xor .u64 r0 (IntKind.u64.wrap (r0 * 2 ^ (min (Int.toNat (13 : Int)) 64)))) (2 ^ (min (Int.toNat (7 : Int)) 64)))) * 2 ^ (min (Int.toNat (17 : Int)) 64))))) (cS .u64 (bH .xor .u64 (bH .xor .u64 (bH .xor .u64 r0 (IntKind.u64.wrap (r0 * 2 ^ (min (Int.toNat (13 : Int)) 64)))) (Int.fdiv (bH .xor .u64 r0 (IntKind.u64.wrap (r0 * 2 ^ (min (Int.toNat (13 : Int)) 64)))) (2 ^ (min (Int.toNat (7 : Int)) 64)))) (IntKind.u64.wrap ((bH .xor .u64 (bH .xor .u64 r0 (IntKind.u64.wrap (r0 * 2 ^ (min (Int.toNat (13 : Int)) 64)))) (Int.fdiv (bH .xor .u64 r0 (IntKind.u64.wrap (r0 * 2 ^ (min (Int.toNat (13 : Int)) 64)))) (2 ^ (min (Int.toNat (7 : Int)) 64)))) * 2 ^ (min (Int.toNat (17 : Int)) 64))))) [(cS .u64 (bH .xor .u64 (bH .xor .u64 (bH .xor .u64 r0 (IntKind.u64.wrap (r0 * 2 ^ (min (Int.toNat (13 : Int)) 64)))) (Int.fdiv (bH .xor .u64 r0 (IntKind.u64.wrap (r0 * 2 ^ (min (Int.toNat (13 : Int)) 64)))) (2 ^ (min (Int.toNat (7 : Int)) 64)))) (IntKind.u64.wrap ((bH .xor .u64 (bH .xor .u64 r0 (IntKind.u64.wrap (r0 * 2 ^ (min (Int.toNat (13 : Int)) 64)))) (Int.fdiv (bH .xor .u64 r0 (IntKind.u64.wrap (r0 * 2 ^ (min (Int.toNat (13 : Int)) 64)))) (2 ^ (min (Int.toNat (7 : Int)) 64)))) * 2 ^ (min (Int.toNat (17 : Int)) 64)))))] hO rfl ?_
  refine bC ?_
  refine bD [(0, (.lp lo0p 0 0)), (2, (cS .u64 (bH .xor .u64 (bH .xor .u64 (bH .xor .u64 r0 (IntKind.u64.wrap (r0 * 2 ^ (min (Int.toNat (13 : Int)) 64)))) (Int.fdiv (bH .xor .u64 r0 (IntKind.u64.wrap (r0 * 2 ^ (min (Int.toNat (13 : Int)) 64)))) (2 ^ (min (Int.toNat (7 : Int)) 64)))) (IntKind.u64.wrap ((bH .xor .u64 (bH .xor .u64 r0 (IntKind.u64.wrap (r0 * 2 ^ (min (Int.toNat (13 : Int)) 64)))) (Int.fdiv (bH .xor .u64 r0 (IntKind.u64.wrap (r0 * 2 ^ (min (Int.toNat (13 : Int)) 64)))) (2 ^ (min (Int.toNat (7 : Int)) 64)))) * 2 ^ (min (Int.toNat (17 : Int)) 64))))))] ?_
  refine bL ?_
  obtain rfl := oI h0
  exact aG (zM hO ⟨rfl, rfl⟩)

theorem sF (lo0p : Nat) (aA : (List Int)) (a1 : Int) (b2 : Int) (r : List Int) (h0 : fU aA a1 b2 = some r) : lS Try.prog 80 lo0p 1 (List.map (eI) aA) (List.map (eI) r) [(.msl 1 lo0p 0 (List.length aA)), (eI a1), (eI b2)] (.tup []) := by
  intro H0 hl0
  refine dV Try.func80 ?_
  have hO := aJ.qM hl0
  clear hl0
  obtain ⟨N0, hN0⟩ : ∃ n, n = List.length aA := ⟨_, rfl⟩
  have hN : List.length aA = N0 := hN0.symm
  unfold fU at h0
  refine aS aC 4 [2] [(6, (eI (wR (b2 - a1))))] ?_
  refine aS aC 2 [] [(15, (aB (decide ((8 : Int) ≤ (wR (b2 - a1))))))] ?_
  refine bR h0 (fun h0 => ?_) (fun h0 => ?_)
  · refine aN ?_
    refine aP aC 4 ?_
    refine bN 2 ?_
    refine kI 1 (cS .u64 0) (by kernel_rfl) (by kernel_rfl) hO ?_
    intro lo2 H hO
    refine iT 1 lo2 1 0 (cS .u64 0) (cS .u64 (IntKind.u64.wrap (wR (b2 - a1)))) [(cS .u64 0)] [(lo0p, 1, List.map (eI) aA), (lo2, 1, [(cS .u64 (IntKind.u64.wrap (wR (b2 - a1))))])] hO rfl (by kernel_rfl) ?_
    intro H hO
    refine dQ ?_
    refine cD [15] [(7, (.lp lo2 0 0))] ?_
    refine aN ?_
    refine aP aC 3 ?_
    refine bN 1 ?_
    obtain ⟨x3, hx4, h0⟩ := aT h0
    refine fB (wK (wR (b2 - a1)) _ hx4) hO ?_
    intro H hO
    refine bC ?_
    refine cD [] [(8, (cS .u64 x3))] ?_
    refine aN ?_
    refine aP aC 7 ?_
    obtain ⟨c6, h0⟩ := aY h0
    refine rY [(4 : Int) ≠ 0] ⟨c6, trivial⟩ ?_
    refine bD [(0, (.msl 1 lo0p 0 (List.length aA))), (1, (eI a1)), (6, (eI (wR (b2 - a1)))), (7, (.lp lo2 0 0)), (8, (cS .u64 x3)), (9, (eI (wR ((wR (a1 + (wR ((wR (Int.tdiv (wR (b2 - a1)) (4 : Int))) * (2 : Int))))) - (1 : Int)))))] ?_
    refine cG 0 ?_
    refine iC [(0, (.msl 1 lo0p 0 (List.length aA))), (1, (eI a1)), (6, (eI (wR (b2 - a1)))), (7, (.lp lo2 0 0)), (8, (cS .u64 x3)), (9, (eI (wR ((wR (a1 + (wR ((wR (Int.tdiv (wR (b2 - a1)) (4 : Int))) * (2 : Int))))) - (1 : Int)))))] ?_
    refine iF (fun T H => ∃ aA : List Int, ∃ jG : Int, ∃ kM : Int, ∃ iD : Int, ∃ idx9 : Int, Has T [(0, (.msl 1 lo0p 0 (List.length aA))), (1, (eI a1)), (6, (eI jG)), (7, (.lp lo2 0 0)), (8, (cS .u64 iD)), (9, (eI idx9))] ∧ aJ ⟨H0, [lo0p], []⟩ H [(lo0p, 1, List.map (eI) aA), (lo2, 1, [(cS .u64 kM)])] ∧ List.length aA = N0 ∧ iQ aA a1 jG kM iD idx9 = some r) ?_ ⟨aA, wR (b2 - a1), IntKind.u64.wrap (wR (b2 - a1)), x3, wR ((wR (a1 + (wR ((wR (Int.tdiv (wR (b2 - a1)) (4 : Int))) * (2 : Int))))) - (1 : Int)), .eq (by kernel_rfl), hO, hN, h0⟩
    clear hO hN h0
    rintro T H ⟨aA, jG, kM, iD, idx9, hT, hO, hN, h0⟩
    refine bM hT ?_
    clear hT
    unfold iQ at h0
    obtain ⟨rr0, hl0, h0⟩ := aT h0
    refine eP (by kernel_rfl) (fun (s : List Int × Int × Int) T H => Has T [(0, (.msl 1 lo0p 0 (List.length s.1))), (1, (eI a1)), (6, (eI jG)), (7, (.lp lo2 0 0)), (8, (cS .u64 iD)), (9, (eI s.2.2))] ∧ aJ ⟨H0, [lo0p], []⟩ H [(lo0p, 1, List.map (eI) s.1), (lo2, 1, [(cS .u64 s.2.1)])] ∧ List.length s.1 = N0) hl0 ⟨.eq (by kernel_rfl), hO, hN⟩ ?_
    clear hO hN
    rintro k0 s out1 T H ⟨hT, hO, hN⟩ h1 ho0
    obtain ⟨aA, kM, idx9⟩ := s
    replace h1 : cN a1 jG iD aA kM idx9 = some out1 := h1
    try dsimp only at hT
    refine bM hT ?_
    clear hT
    unfold cN at h1
    refine aN ?_
    refine aN ?_
    refine aP aC 8 ?_
    obtain ⟨c7, h1⟩ := aY h1
    refine rY [(4 : Int) ≠ 0] ⟨c7, trivial⟩ ?_
    refine cD [] [(33, (aB (decide (idx9 ≤ (wR ((wR (a1 + (wR ((wR (Int.tdiv jG (4 : Int))) * (2 : Int))))) + (1 : Int)))))))] ?_
    refine bR h1 (fun h1 => ?_) (fun h1 => ?_)
    · refine bS ?_
      refine bD [(0, (.msl 1 lo0p 0 (List.length aA))), (1, (eI a1)), (6, (eI jG)), (7, (.lp lo2 0 0)), (8, (cS .u64 iD)), (9, (eI idx9))] ?_
      refine aN ?_
      refine cG 1 ?_
      refine aN ?_
      refine aP aC 6 ?_
      obtain ⟨x9, hx10, h1⟩ := aT h1
      refine xD [(lo0p, 1, List.map (eI) aA)] [1, 0] (xC lo2 kM _ hx10) hO ?_
      intro r11 L12 H hP13 hO
      obtain ⟨rfl, rfl⟩ := hP13
      replace hO : aJ ⟨H0, [lo0p], []⟩ H [(lo2, 1, [(cS .u64 x9.2)]), (lo0p, 1, List.map (eI) aA)] := hO
      refine bC ?_
      replace hO := hO.pick (L' := [(lo0p, 1, List.map (eI) aA), (lo2, 1, [(cS .u64 x9.2)])]) [1, 0] (by decide) (by kernel_rfl)
      refine cD [] [(10, (eI (wR (bH .and .u64 x9.1 (IntKind.u64.wrap (iD - (1 : Int)))))))] ?_
      refine jD (fun T H => ∃ aA : List Int, ∃ kM : Int, ∃ eZ : Int, Has T [(0, (.msl 1 lo0p 0 (List.length aA))), (1, (eI a1)), (6, (eI jG)), (7, (.lp lo2 0 0)), (8, (cS .u64 iD)), (9, (eI idx9)), (10, (eI eZ))] ∧ aJ ⟨H0, [lo0p], []⟩ H [(lo0p, 1, List.map (eI) aA), (lo2, 1, [(cS .u64 kM)])] ∧ List.length aA = N0 ∧ eM aA a1 jG kM iD idx9 eZ = some out1) ?_ ?_
      · clear hO hN h1
        rintro T H ⟨aA, kM, eZ, hT, hO, hN, h1⟩
        refine bM hT ?_
        clear hT
        unfold eM at h1
        refine gU (gV []) aC 20 ?_
        obtain ⟨c14, h1⟩ := aY h1
        refine cF 11 [0 ≤ (wR (a1 + eZ)) ∧ (wR (a1 + eZ)) < (lN aA)] ⟨c14, trivial⟩ ?_
        refine gJ 0 lo0p 1 (0 + Int.toNat (wR (a1 + eZ))) (eI (gD aA (wR (a1 + eZ)))) (eI (gD aA (wR (a1 + eZ)))) (List.map (eI) aA) hO (bU c14) ?_
        obtain ⟨c15, h1⟩ := aY h1
        refine cF 15 [0 ≤ idx9 ∧ idx9 < (lN aA)] ⟨c15, trivial⟩ ?_
        refine gJ 0 lo0p 1 (0 + Int.toNat idx9) (eI (gD aA idx9)) (eI (gD aA idx9)) (List.map (eI) aA) hO (bU c15) ?_
        obtain ⟨c16, h1⟩ := aY h1
        refine cF 17 [0 ≤ idx9 ∧ idx9 < (lN aA)] ⟨c16, trivial⟩ ?_
        refine kD 0 lo0p 1 (0 + Int.toNat idx9) (eI (gD aA idx9)) (eI (gD aA (wR (a1 + eZ)))) (List.map (eI) aA) [(lo0p, 1, List.map (eI) (List.set aA (Int.toNat idx9) (gD aA (wR (a1 + eZ))))), (lo2, 1, [(cS .u64 kM)])] hO (bU c16) (by simp only [List.set, gO]) ?_
        intro H hO
        replace hN : List.length (List.set aA (Int.toNat idx9) (gD aA (wR (a1 + eZ)))) = N0 := by simpa using hN
        obtain ⟨c17, h1⟩ := aY h1
        refine cF 19 [0 ≤ (wR (a1 + eZ)) ∧ (wR (a1 + eZ)) < (lN aA)] ⟨c17, trivial⟩ ?_
        refine kD 0 lo0p 1 (0 + Int.toNat (wR (a1 + eZ))) (eI (gD (List.set aA (Int.toNat idx9) (gD aA (wR (a1 + eZ)))) (wR (a1 + eZ)))) (eI (gD aA idx9)) (List.map (eI) (List.set aA (Int.toNat idx9) (gD aA (wR (a1 + eZ))))) [(lo0p, 1, List.map (eI) (List.set (List.set aA (Int.toNat idx9) (gD aA (wR (a1 + eZ)))) (Int.toNat (wR (a1 + eZ))) (gD aA idx9))), (lo2, 1, [(cS .u64 kM)])] hO (lR c17 (by simp [])) (by simp only [List.set, gO]) ?_
        intro H hO
        replace hN : List.length (List.set (List.set aA (Int.toNat idx9) (gD aA (wR (a1 + eZ)))) (Int.toNat (wR (a1 + eZ))) (gD aA idx9)) = N0 := by simpa using hN
        refine mB (by kernel_rfl) ?_
        refine eX (l := [(0, (.msl 1 lo0p 0 (List.length (List.set (List.set aA (Int.toNat idx9) (gD aA (wR (a1 + eZ)))) (Int.toNat (wR (a1 + eZ))) (gD aA idx9))))), (1, (eI a1)), (6, (eI jG)), (7, (.lp lo2 0 0)), (8, (cS .u64 iD)), (9, (eI idx9))]) ⟨[(0, (.msl 1 lo0p 0 (List.length aA))), (1, (eI a1)), (6, (eI jG)), (7, (.lp lo2 0 0)), (8, (cS .u64 iD)), (9, (eI idx9))], by kernel_rfl, rfl, ⟨aL.eq (by simp []), aL.refl _, aL.refl _, aL.refl _, aL.refl _, aL.refl _, trivial⟩⟩ ?_
        refine aG (aV (aH (?_)))
        refine aP aC 3 ?_
        refine bC ?_
        exact aG (aH (⟨rfl, _, (oI h1).symm, .eq (by kernel_rfl), hO, hN⟩))
      refine aS aC 3 [] [(43, (aB (decide (jG ≤ (wR (bH .and .u64 x9.1 (IntKind.u64.wrap (iD - (1 : Int)))))))))] ?_
      refine bR h1 (fun h1 => ?_) (fun h1 => ?_)
      · refine aP aC 4 ?_
        refine bC ?_
        exact aG (aH (⟨rfl, _, _, _, .eq (by kernel_rfl), hO, hN, h1⟩))
      refine bS ?_
      exact aG (aH (⟨rfl, _, _, _, .eq (by kernel_rfl), hO, hN, h1⟩))
    refine jP 0 ?_
    replace hO := hO.pick (L' := [(lo0p, 1, List.map (eI) aA)]) [0] (by decide) (by kernel_rfl)
    obtain rfl := oI h1
    obtain rfl : _ = rr0 := ho0
    replace h0 : some aA = some r := h0
    obtain rfl := oI h0
    exact aG (aW (aW (cI (tI (x := (.tup [])) (by kernel_rfl) (aL.refl _) ⟨rfl, hO.ext, hO.at 0 (by kernel_rfl), by first | rfl | (simp only [List.length_map]; exact hN.trans hN0)⟩))))
  refine bS ?_
  obtain rfl := oI h0
  exact aG (tI (x := (.tup [])) (by kernel_rfl) (aL.refl _) ⟨rfl, hO.ext, hO.at 0 (by kernel_rfl), by first | rfl | (simp only [List.length_map]; exact hN.trans hN0)⟩)

theorem mF (lo0p : Nat) (aA : (List Int)) (a1 : Int) (b2 : Int) (lo3p : Nat) (pK : Int) (r : ((Int × Int) × Int)) (h0 : fG aA a1 b2 pK = some r) : vD Try.prog 109 [(.msl 1 lo0p 0 (List.length aA)), (eI a1), (eI b2), (.lp lo3p 0 0)] [(lo0p, 1, List.map (eI) aA), (lo3p, 1, [(eI pK)])] (fun x L => x = (.tup [(eI r.1.1), (eI r.1.2)]) ∧ L = [(lo0p, 1, List.map (eI) aA), (lo3p, 1, [(eI r.2)])]) := by
  intro F H0 hO
  obtain ⟨Fh, Fe, Fg⟩ := F
  refine dV Try.func109 ?_
  unfold fG at h0
  refine aS aC 2 [] [] ?_
  refine aN ?_
  refine aN ?_
  refine gU (gV [18]) aC 9 ?_
  obtain ⟨c1, h0⟩ := aY h0
  refine cF 3 [0 ≤ b2 ∧ b2 < (lN aA)] ⟨c1, trivial⟩ ?_
  refine gJ 0 lo0p 1 (0 + Int.toNat b2) (eI (gD aA b2)) (eI (gD aA b2)) (List.map (eI) aA) hO (bU c1) ?_
  obtain ⟨c2, h0⟩ := aY h0
  refine cF 7 [0 ≤ a1 ∧ a1 < (lN aA)] ⟨c2, trivial⟩ ?_
  refine gJ 0 lo0p 1 (0 + Int.toNat a1) (eI (gD aA a1)) (eI (gD aA a1)) (List.map (eI) aA) hO (bU c2) ?_
  obtain ⟨x3, hx4, h0⟩ := aT h0
  refine xB (fF (gD aA b2) (gD aA a1) _ hx4) hO ?_
  intro H hO
  refine mB (by kernel_rfl) ?_
  refine cD [] [(18, (aB x3))] ?_
  refine bR h0 (fun h0 => ?_) (fun h0 => ?_)
  · refine aN ?_
    refine aP aC 6 ?_
    refine bN 2 ?_
    refine mQ 1 lo3p 1 0 (eI pK) (eI pK) [(eI pK)] hO rfl ?_
    refine bN 5 ?_
    refine iT 1 lo3p 1 0 (eI pK) (eI (wR (pK + (1 : Int)))) [(eI pK)] [(lo0p, 1, List.map (eI) aA), (lo3p, 1, [(eI (wR (pK + (1 : Int))))])] hO rfl (by kernel_rfl) ?_
    intro H hO
    refine dQ ?_
    refine cD [18] [] ?_
    refine aS aC 4 [1, 2] [(8, (eI b2)), (9, (eI a1))] ?_
    refine bL ?_
    obtain rfl := oI h0
    exact aG (aR (zM hO ⟨rfl, rfl⟩))
  refine bS ?_
  refine bD [(0, (.msl 1 lo0p 0 (List.length aA))), (1, (eI a1)), (2, (eI b2)), (3, (.lp lo3p 0 0))] ?_
  refine aS aC 4 [1, 2] [(8, (eI a1)), (9, (eI b2))] ?_
  refine bL ?_
  obtain rfl := oI h0
  exact aG (zM hO ⟨rfl, rfl⟩)

theorem pP (lo0p : Nat) (aA : (List Int)) (a1 : Int) (b2 : Int) (c3 : Int) (lo4p : Nat) (zD : Int) (r : (Int × Int)) (h0 : gY aA a1 b2 c3 zD = some r) : vD Try.prog 104 [(.msl 1 lo0p 0 (List.length aA)), (eI a1), (eI b2), (eI c3), (.lp lo4p 0 0)] [(lo0p, 1, List.map (eI) aA), (lo4p, 1, [(eI zD)])] (fun x L => x = (eI r.1) ∧ L = [(lo0p, 1, List.map (eI) aA), (lo4p, 1, [(eI r.2)])]) := by
  intro F H0 hO
  obtain ⟨Fh, Fe, Fg⟩ := F
  refine dV Try.func104 ?_
  unfold gY at h0
  refine aS aC 1 [] [] ?_
  refine aN ?_
  refine aP aC 10 ?_
  refine bN 4 ?_
  obtain ⟨x1, hx2, h0⟩ := aT h0
  refine xD [] [0, 1] (mF lo0p aA a1 b2 lo4p zD _ hx2) hO ?_
  intro r3 L4 H hP5 hO
  obtain ⟨rfl, rfl⟩ := hP5
  replace hO : aJ ⟨Fh, Fe, Fg⟩ H [(lo0p, 1, List.map (eI) aA), (lo4p, 1, [(eI x1.2)])] := hO
  refine bC ?_
  refine cD [1, 2] [(1, (eI x1.1.1)), (2, (eI x1.1.2))] ?_
  refine aN ?_
  refine aP aC 10 ?_
  refine bN 4 ?_
  obtain ⟨x6, hx7, h0⟩ := aT h0
  refine xD [] [0, 1] (mF lo0p aA x1.1.2 c3 lo4p x1.2 _ hx7) hO ?_
  intro r8 L9 H hP10 hO
  obtain ⟨rfl, rfl⟩ := hP10
  replace hO : aJ ⟨Fh, Fe, Fg⟩ H [(lo0p, 1, List.map (eI) aA), (lo4p, 1, [(eI x6.2)])] := hO
  refine bC ?_
  refine cD [2, 3] [(2, (eI x6.1.1))] ?_
  refine aN ?_
  refine aP aC 10 ?_
  refine bN 4 ?_
  obtain ⟨x11, hx12, h0⟩ := aT h0
  refine xD [] [0, 1] (mF lo0p aA x1.1.1 x6.1.1 lo4p x6.2 _ hx12) hO ?_
  intro r13 L14 H hP15 hO
  obtain ⟨rfl, rfl⟩ := hP15
  replace hO : aJ ⟨Fh, Fe, Fg⟩ H [(lo0p, 1, List.map (eI) aA), (lo4p, 1, [(eI x11.2)])] := hO
  refine bC ?_
  refine cD [1, 2] [(2, (eI x11.1.2))] ?_
  refine cO aC 2 [(0, (.msl 1 lo0p 0 (List.length aA))), (4, (.lp lo4p 0 0)), (10, (eI x11.1.2))] ?_
  refine bL ?_
  obtain rfl := oI h0
  exact aG (zM hO ⟨rfl, rfl⟩)

theorem kG (lo0p : Nat) (aA : (List Int)) (a1 : Int) (lo2p : Nat) (zW : Int) (r : (Int × Int)) (h0 : dK aA a1 zW = some r) : vD Try.prog 103 [(.msl 1 lo0p 0 (List.length aA)), (eI a1), (.lp lo2p 0 0)] [(lo0p, 1, List.map (eI) aA), (lo2p, 1, [(eI zW)])] (fun x L => x = (eI r.1) ∧ L = [(lo0p, 1, List.map (eI) aA), (lo2p, 1, [(eI r.2)])]) := by
  intro F H0 hO
  obtain ⟨Fh, Fe, Fg⟩ := F
  refine dV Try.func103 ?_
  unfold dK at h0
  refine aS aC 1 [] [] ?_
  refine aN ?_
  refine aP aC 9 ?_
  refine bN 7 ?_
  obtain ⟨x1, hx2, h0⟩ := aT h0
  refine xD [] [0, 1] (pP lo0p aA (wR (a1 - (1 : Int))) a1 (wR (a1 + (1 : Int))) lo2p zW _ hx2) hO ?_
  intro r3 L4 H hP5 hO
  obtain ⟨rfl, rfl⟩ := hP5
  replace hO : aJ ⟨Fh, Fe, Fg⟩ H [(lo0p, 1, List.map (eI) aA), (lo2p, 1, [(eI x1.2)])] := hO
  refine bC ?_
  refine cD [1] [(6, (eI x1.1))] ?_
  refine bL ?_
  obtain rfl := oI h0
  exact aG (zM hO ⟨rfl, rfl⟩)

theorem sW (lo0p : Nat) (aA : (List Int)) (a1 : Int) (b2 : Int) (r : (Int × Int)) (h0 : gQ aA a1 b2 = some r) : vD Try.prog 81 [(.msl 1 lo0p 0 (List.length aA)), (eI a1), (eI b2)] [(lo0p, 1, List.map (eI) aA)] (fun x L => x = (.tup [(eI r.1), (eI r.2)]) ∧ L = [(lo0p, 1, List.map (eI) aA)]) := by
  intro F H0 hO
  obtain ⟨Fh, Fe, Fg⟩ := F
  refine dV Try.func81 ?_
  unfold gQ at h0
  refine aS aC 2 [] [] ?_
  refine aS aC 4 [2] [(8, (eI (wR (b2 - a1))))] ?_
  refine aN ?_
  refine aP aC 1 ?_
  refine kI 1 (eI 0) (by kernel_rfl) (by kernel_rfl) hO ?_
  intro lo1 H hO
  refine dQ ?_
  refine cD [] [(9, (.lp lo1 0 0))] ?_
  refine aN ?_
  refine aP aC 6 ?_
  obtain ⟨c2, h0⟩ := aY h0
  refine rY [(4 : Int) ≠ 0] ⟨c2, trivial⟩ ?_
  refine cD [] [(10, (eI (wR (a1 + (wR ((wR (Int.tdiv (wR (b2 - a1)) (4 : Int))) * (1 : Int)))))))] ?_
  refine aN ?_
  refine aP aC 6 ?_
  obtain ⟨c3, h0⟩ := aY h0
  refine rY [(4 : Int) ≠ 0] ⟨c3, trivial⟩ ?_
  refine bD [(0, (.msl 1 lo0p 0 (List.length aA))), (1, (eI a1)), (8, (eI (wR (b2 - a1)))), (9, (.lp lo1 0 0)), (10, (eI (wR (a1 + (wR ((wR (Int.tdiv (wR (b2 - a1)) (4 : Int))) * (1 : Int))))))), (11, (eI (wR (a1 + (wR ((wR (Int.tdiv (wR (b2 - a1)) (4 : Int))) * (2 : Int)))))))] ?_
  refine aN ?_
  refine aP aC 6 ?_
  obtain ⟨c4, h0⟩ := aY h0
  refine rY [(4 : Int) ≠ 0] ⟨c4, trivial⟩ ?_
  refine cD [1] [(12, (eI (wR (a1 + (wR ((wR (Int.tdiv (wR (b2 - a1)) (4 : Int))) * (3 : Int)))))))] ?_
  refine jD (fun T H => ∃ kZ : Int, ∃ j11 : Int, Has T [(0, (.msl 1 lo0p 0 (List.length aA))), (9, (.lp lo1 0 0)), (11, (eI j11))] ∧ aJ ⟨Fh, Fe, Fg⟩ H [(lo0p, 1, List.map (eI) aA), (lo1, 1, [(eI kZ)])] ∧ eV aA kZ j11 = some r) ?_ ?_
  · clear hO h0
    rintro T H ⟨kZ, j11, hT, hO, h0⟩
    refine bM hT ?_
    clear hT
    unfold eV at h0
    refine aN ?_
    refine aP aC 1 ?_
    refine mQ 1 lo1 1 0 (eI kZ) (eI kZ) [(eI kZ)] hO rfl ?_
    refine dQ ?_
    replace hO := hO.pick (L' := [(lo0p, 1, List.map (eI) aA)]) [0] (by decide) (by kernel_rfl)
    refine cD [9] [(49, (eI kZ))] ?_
    refine cG 0 ?_
    refine aS aC 2 [] [(51, (aB (decide (kZ = (0 : Int)))))] ?_
    refine bR h0 (fun h0 => ?_) (fun h0 => ?_)
    · refine aS aC 3 [11, 49, 51] [(6, (eI j11)), (7, (eI (1 : Int)))] ?_
      refine bL ?_
      obtain rfl := oI h0
      exact aG (bJ (zM hO ⟨rfl, rfl⟩))
    refine aS aC 2 [49, 51] [(54, (aB (decide (kZ = (12 : Int)))))] ?_
    refine bR h0 (fun h0 => ?_) (fun h0 => ?_)
    · refine aS aC 3 [11, 54] [(6, (eI j11)), (7, (eI (2 : Int)))] ?_
      refine bL ?_
      obtain rfl := oI h0
      exact aG (bJ (zM hO ⟨rfl, rfl⟩))
    refine aS aC 3 [11, 54] [(6, (eI j11)), (7, (eI (0 : Int)))] ?_
    refine bL ?_
    obtain rfl := oI h0
    exact aG (bJ (zM hO ⟨rfl, rfl⟩))
  refine aS aC 2 [] [(32, (aB (decide ((8 : Int) ≤ (wR (b2 - a1))))))] ?_
  refine bR h0 (fun h0 => ?_) (fun h0 => ?_)
  · refine jD (fun T H => ∃ kZ : Int, ∃ i10 : Int, ∃ j11 : Int, ∃ k12 : Int, Has T [(0, (.msl 1 lo0p 0 (List.length aA))), (9, (.lp lo1 0 0)), (10, (eI i10)), (11, (eI j11)), (12, (eI k12))] ∧ aJ ⟨Fh, Fe, Fg⟩ H [(lo0p, 1, List.map (eI) aA), (lo1, 1, [(eI kZ)])] ∧ eT aA kZ i10 j11 k12 = some r) ?_ ?_
    · clear hO h0
      rintro T H ⟨kZ, i10, j11, k12, hT, hO, h0⟩
      refine bM hT ?_
      clear hT
      unfold eT at h0
      refine aP aC 6 ?_
      refine bN 4 ?_
      obtain ⟨x8, hx9, h0⟩ := aT h0
      refine xD [] [0, 1] (pP lo0p aA i10 j11 k12 lo1 kZ _ hx9) hO ?_
      intro r10 L11 H hP12 hO
      obtain ⟨rfl, rfl⟩ := hP12
      replace hO : aJ ⟨Fh, Fe, Fg⟩ H [(lo0p, 1, List.map (eI) aA), (lo1, 1, [(eI x8.2)])] := hO
      refine bC ?_
      exact aG (aH (⟨rfl, _, _, .eq (by kernel_rfl), hO, h0⟩))
    refine aS aC 2 [8, 32] [(34, (aB (decide ((50 : Int) ≤ (wR (b2 - a1))))))] ?_
    refine bR h0 (fun h0 => ?_) (fun h0 => ?_)
    · refine aN ?_
      refine aP aC 4 ?_
      refine bN 2 ?_
      obtain ⟨x14, hx15, h0⟩ := aT h0
      refine xD [] [0, 1] (kG lo0p aA (wR (a1 + (wR ((wR (Int.tdiv (wR (b2 - a1)) (4 : Int))) * (1 : Int))))) lo1 0 _ hx15) hO ?_
      intro r16 L17 H hP18 hO
      obtain ⟨rfl, rfl⟩ := hP18
      replace hO : aJ ⟨Fh, Fe, Fg⟩ H [(lo0p, 1, List.map (eI) aA), (lo1, 1, [(eI x14.2)])] := hO
      refine bC ?_
      refine cD [10, 34] [(10, (eI x14.1))] ?_
      refine aN ?_
      refine aP aC 4 ?_
      refine bN 2 ?_
      obtain ⟨x19, hx20, h0⟩ := aT h0
      refine xD [] [0, 1] (kG lo0p aA (wR (a1 + (wR ((wR (Int.tdiv (wR (b2 - a1)) (4 : Int))) * (2 : Int))))) lo1 x14.2 _ hx20) hO ?_
      intro r21 L22 H hP23 hO
      obtain ⟨rfl, rfl⟩ := hP23
      replace hO : aJ ⟨Fh, Fe, Fg⟩ H [(lo0p, 1, List.map (eI) aA), (lo1, 1, [(eI x19.2)])] := hO
      refine bC ?_
      refine bD [(0, (.msl 1 lo0p 0 (List.length aA))), (9, (.lp lo1 0 0)), (10, (eI x14.1)), (11, (eI x19.1)), (12, (eI (wR (a1 + (wR ((wR (Int.tdiv (wR (b2 - a1)) (4 : Int))) * (3 : Int)))))))] ?_
      refine aP aC 4 ?_
      refine bN 2 ?_
      obtain ⟨x24, hx25, h0⟩ := aT h0
      refine xD [] [0, 1] (kG lo0p aA (wR (a1 + (wR ((wR (Int.tdiv (wR (b2 - a1)) (4 : Int))) * (3 : Int))))) lo1 x19.2 _ hx25) hO ?_
      intro r26 L27 H hP28 hO
      obtain ⟨rfl, rfl⟩ := hP28
      replace hO : aJ ⟨Fh, Fe, Fg⟩ H [(lo0p, 1, List.map (eI) aA), (lo1, 1, [(eI x24.2)])] := hO
      refine bC ?_
      exact aG (aH (⟨rfl, _, _, _, _, .eq (by kernel_rfl), hO, h0⟩))
    refine bS ?_
    exact aG (aH (⟨rfl, _, _, _, _, .eq (by kernel_rfl), hO, h0⟩))
  refine bS ?_
  exact aG (aH (⟨rfl, _, _, .eq (by kernel_rfl), hO, h0⟩))

theorem sU (lo0p : Nat) (aA : (List Int)) (a1 : Int) (b2 : Int) (r : List Int) (h0 : gI aA a1 b2 = some r) : lS Try.prog 82 lo0p 1 (List.map (eI) aA) (List.map (eI) r) [(.msl 1 lo0p 0 (List.length aA)), (eI a1), (eI b2)] (.tup []) := by
  intro H0 hl0
  refine dV Try.func82 ?_
  have hO := aJ.qM hl0
  clear hl0
  obtain ⟨N0, hN0⟩ : ∃ n, n = List.length aA := ⟨_, rfl⟩
  have hN : List.length aA = N0 := hN0.symm
  unfold gI at h0
  refine aS aC 2 [1] [(6, (eI a1))] ?_
  refine aS aC 3 [2] [(7, (eI (wR (b2 - (1 : Int)))))] ?_
  refine cG 0 ?_
  refine iC [(0, (.msl 1 lo0p 0 (List.length aA))), (6, (eI a1)), (7, (eI (wR (b2 - (1 : Int)))))] ?_
  refine iF (fun T H => ∃ aA : List Int, ∃ i6 : Int, ∃ j7 : Int, Has T [(0, (.msl 1 lo0p 0 (List.length aA))), (6, (eI i6)), (7, (eI j7))] ∧ aJ ⟨H0, [lo0p], []⟩ H [(lo0p, 1, List.map (eI) aA)] ∧ List.length aA = N0 ∧ iW aA i6 j7 = some r) ?_ ⟨aA, a1, wR (b2 - (1 : Int)), .eq (by kernel_rfl), hO, hN, h0⟩
  clear hO hN h0
  rintro T H ⟨aA, i6, j7, hT, hO, hN, h0⟩
  refine bM hT ?_
  clear hT
  unfold iW at h0
  obtain ⟨rr0, hl0, h0⟩ := aT h0
  refine eP (by kernel_rfl) (fun (s : List Int × Int × Int) T H => Has T [(0, (.msl 1 lo0p 0 (List.length s.1))), (6, (eI s.2.1)), (7, (eI s.2.2))] ∧ aJ ⟨H0, [lo0p], []⟩ H [(lo0p, 1, List.map (eI) s.1)] ∧ List.length s.1 = N0) hl0 ⟨.eq (by kernel_rfl), hO, hN⟩ ?_
  clear hO hN
  rintro k0 s out1 T H ⟨hT, hO, hN⟩ h1 ho0
  obtain ⟨aA, i6, j7⟩ := s
  replace h1 : cZ aA i6 j7 = some out1 := h1
  try dsimp only at hT
  refine bM hT ?_
  clear hT
  unfold cZ at h1
  refine aN ?_
  refine aS aC 3 [] [(13, (aB (decide (i6 < j7))))] ?_
  refine bR h1 (fun h1 => ?_) (fun h1 => ?_)
  · refine bS ?_
    refine bD [(0, (.msl 1 lo0p 0 (List.length aA))), (6, (eI i6)), (7, (eI j7))] ?_
    refine cG 1 ?_
    refine aN ?_
    refine gU (gV []) aC 16 ?_
    obtain ⟨c2, h1⟩ := aY h1
    refine cF 7 [0 ≤ j7 ∧ j7 < (lN aA)] ⟨c2, trivial⟩ ?_
    refine gJ 0 lo0p 1 (0 + Int.toNat j7) (eI (gD aA j7)) (eI (gD aA j7)) (List.map (eI) aA) hO (bU c2) ?_
    obtain ⟨c3, h1⟩ := aY h1
    refine cF 11 [0 ≤ i6 ∧ i6 < (lN aA)] ⟨c3, trivial⟩ ?_
    refine gJ 0 lo0p 1 (0 + Int.toNat i6) (eI (gD aA i6)) (eI (gD aA i6)) (List.map (eI) aA) hO (bU c3) ?_
    obtain ⟨c4, h1⟩ := aY h1
    refine cF 13 [0 ≤ i6 ∧ i6 < (lN aA)] ⟨c4, trivial⟩ ?_
    refine kD 0 lo0p 1 (0 + Int.toNat i6) (eI (gD aA i6)) (eI (gD aA j7)) (List.map (eI) aA) [(lo0p, 1, List.map (eI) (List.set aA (Int.toNat i6) (gD aA j7)))] hO (bU c4) (by simp only [List.set, gO]) ?_
    intro H hO
    replace hN : List.length (List.set aA (Int.toNat i6) (gD aA j7)) = N0 := by simpa using hN
    obtain ⟨c5, h1⟩ := aY h1
    refine cF 15 [0 ≤ j7 ∧ j7 < (lN aA)] ⟨c5, trivial⟩ ?_
    refine kD 0 lo0p 1 (0 + Int.toNat j7) (eI (gD (List.set aA (Int.toNat i6) (gD aA j7)) j7)) (eI (gD aA i6)) (List.map (eI) (List.set aA (Int.toNat i6) (gD aA j7))) [(lo0p, 1, List.map (eI) (List.set (List.set aA (Int.toNat i6) (gD aA j7)) (Int.toNat j7) (gD aA i6)))] hO (lR c5 (by simp [])) (by simp only [List.set, gO]) ?_
    intro H hO
    replace hN : List.length (List.set (List.set aA (Int.toNat i6) (gD aA j7)) (Int.toNat j7) (gD aA i6)) = N0 := by simpa using hN
    refine mB (by kernel_rfl) ?_
    refine eX (l := [(0, (.msl 1 lo0p 0 (List.length (List.set (List.set aA (Int.toNat i6) (gD aA j7)) (Int.toNat j7) (gD aA i6))))), (6, (eI i6)), (7, (eI j7))]) ⟨[(0, (.msl 1 lo0p 0 (List.length aA))), (6, (eI i6)), (7, (eI j7))], by kernel_rfl, rfl, ⟨aL.eq (by simp []), aL.refl _, aL.refl _, trivial⟩⟩ ?_
    refine aG (aH (?_))
    refine aS aC 3 [6] [(6, (eI (wR (i6 + (1 : Int)))))] ?_
    refine aP aC 3 ?_
    refine bC ?_
    exact aG (aV (aH (⟨rfl, _, (oI h1).symm, .eq (by kernel_rfl), hO, hN⟩)))
  refine jP 0 ?_
  obtain rfl := oI h1
  obtain rfl : _ = rr0 := ho0
  replace h0 : some aA = some r := h0
  obtain rfl := oI h0
  exact aG (aW (aW (cI (tI (x := (.tup [])) (by kernel_rfl) (aL.refl _) ⟨rfl, hO.ext, hO.at 0 (by kernel_rfl), by first | rfl | (simp only [List.length_map]; exact hN.trans hN0)⟩))))

end Go.Abs
