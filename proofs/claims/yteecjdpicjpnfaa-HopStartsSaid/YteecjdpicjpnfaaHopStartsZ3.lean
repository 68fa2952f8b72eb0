/- What the law HopStarts stands on: the framework, the given functions as plain functions, their walks, and the plain laws; part 3. -/
import Derived.Test.YteecjdpicjpnfaaHopStartsZ2
set_option linter.unusedSimpArgs false
set_option linter.unusedVariables false
namespace Go.Abs
open Go
noncomputable def tL (bT : Int) (hop1 : Int) (t2 : Int) : Option (Int × Int) :=
  (oX bT hop1).bind fun x1 =>
  cond (!x1)
  (some ((0 : Int), (2 : Int)))
  ((mA t2).bind fun x5 =>
  cond (!x5)
  (some ((0 : Int), (13 : Int)))
  (cond (decide (t2 = (1125899906842624 : Int)))
  (some ((1125899906842624 : Int), (0 : Int)))
  ((nE hop1 (IntKind.i64.wrap (t2 - bT))).bind fun x10 =>
  some (if (1125899906842624 : Int) < x10 then (1125899906842624 : Int) else x10, (0 : Int)))))

noncomputable def sJ (bT : Int) (hop1 : Int) : Option Bool :=
  some ((((decide ((0 : Int) < bT)) && (decide (bT ≤ (1099511627776 : Int)))) && (decide ((0 : Int) < hop1))) && (decide (hop1 ≤ (1099511627776 : Int))))

noncomputable def oJ (t0 : Int) : Option Bool :=
  some ((decide ((0 : Int) ≤ t0)) && (decide (t0 ≤ (1125899906842624 : Int))))

noncomputable def sP (bT : Int) (t1 : Int) : Option Int :=
  cond (decide ((1125899906842624 : Int) < (IntKind.i64.wrap (t1 + bT))))
  (some (1125899906842624 : Int))
  (some (IntKind.i64.wrap (t1 + bT)))

noncomputable def oO (bT : Int) (hop1 : Int) (s2 : aX) (cD : Int) (bV : Int) : Option ((Int × aX × Int × Int × Int)) :=
  some (hop1, s2, bT, cD, bV)

noncomputable def iT {σ : Type} (cK : σ → Int → Option (σ × Bool)) (t1 : Int) (t2 : aX) (t5 : Int) (sg : σ) (t8 : Int) : Option ((σ × Int) ⊕ (σ ⊕ σ)) :=
  cond (decide (t8 < (if (1125899906842624 : Int) < (if t5 < t2.To then t5 else t2.To) then (1125899906842624 : Int) else (if t5 < t2.To then t5 else t2.To))))
  ((cK sg t8).bind fun x8 =>
  cond (!x8.2)
  (some (.inr (.inr x8.1)))
  (some (.inl (x8.1, IntKind.i64.wrap (t8 + t1)))))
  (some (.inr (.inl sg)))

noncomputable def mR {σ : Type} (cK : σ → Int → Option (σ × Bool)) (sg : σ) (t1 : Int) (t2 : aX) (t5 : Int) (t8 : Int) : Option σ :=
  (lp (fun s => iT cK t1 t2 t5 s.1 s.2) (sg, t8)).bind (Sum.elim (fun rr => some rr) (fun rr => some rr))

noncomputable def lW {σ : Type} (cK : σ → Int → Option (σ × Bool)) (t1 : Int) (t2 : aX) (t3 : Int) (t4 : Int) (t5 : Int) (sg0 : σ) : Option σ :=
  (nE t1 (IntKind.i64.wrap (t2.From - t3))).bind fun x1 =>
  (nE t1 (IntKind.i64.wrap (t4 - (1 : Int)))).bind fun x4 =>
  mR cK sg0 t1 t2 t5 (if x4 > x1 then x4 else x1)

noncomputable def kV (sA : Int) (sC : aX) (rZ : Int) (rU : Int) (rW : Int) (t10 : (List Int)) (t11 : Int) (gZ : List Int) (t51 : Int) : Option (((List Int) × Int × List Int) ⊕ ((List Int) × Int × List Int)) :=
  cond (decide (((List.length gZ : Nat) : Int) = (1024 : Int)))
  (some (.inr ([], (7 : Int), gZ)))
  (bF ((List.length gZ + List.length ([t51])) * 8 ≤ 140737488355328 ∧ List.length gZ + List.length ([t51]) ≤ 9223372036854775807) <|
  some (.inl (t10, t11, gZ ++ ([t51]))))

noncomputable def tC (t10 : (List Int)) (t11 : Int) (gZ : List Int) (sA : Int) (sC : aX) (rZ : Int) (rU : Int) (rW : Int) : Option ((List Int) × Int) :=
  (lW (fun st t51 => rnd (fun (s : (List Int) × Int × List Int) => kV sA sC rZ rU rW s.1 s.2.1 s.2.2 t51) st) sA sC rZ rU rW (.inl (t10, t11, gZ))).bind (Sum.elim (fun (s : (List Int) × Int × List Int) =>
  (some (s.2.2, (0 : Int))))
  (fun (s : (List Int) × Int × List Int) =>
  (some (s.1, s.2.1))))

noncomputable def oG (bT : Int) (hop1 : Int) (s2 : aX) (cD : Int) (bV : Int) : Option ((List Int) × Int) :=
  (oX bT hop1).bind fun x3 =>
  cond (!x3)
  (some ([], (2 : Int)))
  ((mA cD).bind fun x7 =>
  (dG (!(!x7)) (mA bV)).bind fun x10 =>
  cond ((!x7) || (!x10))
  (some ([], (13 : Int)))
  (cond (((decide (s2.From < (-1 : Int))) || (decide (s2.To ≤ s2.From))) || (decide ((1125899906842624 : Int) < s2.To)))
  (some ([], (14 : Int)))
  ((oO bT hop1 s2 cD bV).bind fun x17 =>
  tC ([]) 0 ([] : List Int) x17.1 x17.2.1 x17.2.2.1 x17.2.2.2.1 x17.2.2.2.2)))

noncomputable def qI (l0 : (List bH)) : Option ((List bH)) :=
  some l0

noncomputable def fZ  : Option Bool :=
  some true

noncomputable def eV (s10 : (List aE)) (s21 : (List aE)) (t12 : Int) (t13 : Int) : Option ((Int) ⊕ (Unit ⊕ Bool)) :=
  cond (decide (t13 < t12))
  (bF (0 ≤ t13 ∧ t13 < ((List.length s10 : Nat) : Int)) <|
  bF (0 ≤ t13 ∧ t13 < ((List.length s21 : Nat) : Int)) <|
  cond (!((decide (((List.getD s10 (Int.toNat t13) default).Kind) = ((List.getD s21 (Int.toNat t13) default).Kind))) && ((decide (((List.getD s10 (Int.toNat t13) default).Num) = ((List.getD s21 (Int.toNat t13) default).Num))) && ((nU ((List.getD s10 (Int.toNat t13) default).Text) ((List.getD s21 (Int.toNat t13) default).Text)) && true))))
  (some (.inr (.inr false)))
  (some (.inl (IntKind.i64.wrap (t13 + (1 : Int))))))
  (some (.inr (.inl ())))

noncomputable def jA (s10 : (List aE)) (s21 : (List aE)) (t12 : Int) (t13 : Int) : Option Bool :=
  (lp (fun s => eV s10 s21 t12 s) t13).bind (Sum.elim (fun rr => fZ ) (fun rr => some rr))

noncomputable def jD (s10 : (List aE)) (s21 : (List aE)) : Option Bool :=
  cond (!decide (((List.length s10 : Nat) : Int) = ((List.length s21 : Nat) : Int)))
  (some false)
  (jA s10 s21 ((List.length s10 : Nat) : Int) (0 : Int))

noncomputable def pI (a0 : (List aE)) (b1 : (List aE)) : Option Bool :=
  (jD a0 b1).bind fun x1 =>
  some x1

noncomputable def sB (r0 : (List aE)) : Option (List aE) :=
  bF (0 ≤ ((List.length r0 : Nat) : Int) ∧ (32 : Int) * ((List.length r0 : Nat) : Int) ≤ 281474976710656 ∧ ((List.length r0 : Nat) : Int) ≤ 9223372036854775807) <|
  bF ((List.length ([] : List aE) + List.length r0) * 32 ≤ 140737488355328 ∧ List.length ([] : List aE) + List.length r0 ≤ 9223372036854775807) <|
  some (([] : List aE) ++ r0)

noncomputable def nF {σ : Type} (cK : σ → (List aE) → (List aH) → Option (σ × Bool)) (sg : σ) (t1 : (List bH)) (i3 : Int) (r4 : (List aE)) (f5 : List aH) : Option ((σ × Int) ⊕ (σ ⊕ σ)) :=
  (sB r4).bind fun x7 =>
  (cK sg x7 f5).bind fun x10 =>
  cond (!x10.2)
  (some (.inr (.inr x10.1)))
  (some (.inl (x10.1, i3)))

noncomputable def jF {σ : Type} (cK : σ → (List aE) → (List aH) → Option (σ × Bool)) (t1 : (List bH)) (r4 : (List aE)) (sg : σ) (i3 : Int) (f5 : List aH) : Option ((σ × Int × List aH) ⊕ ((σ × Int × List aH))) :=
  bF ((((decide (i3 < ((List.length t1 : Nat) : Int)))) = true → 0 ≤ i3 ∧ i3 < ((List.length t1 : Nat) : Int))) <|
  (dG (decide (i3 < ((List.length t1 : Nat) : Int))) (pI ((List.getD t1 (Int.toNat i3) default).Row) r4)).bind fun x16 =>
  cond ((decide (i3 < ((List.length t1 : Nat) : Int))) && x16)
  (bF (0 ≤ i3 ∧ i3 < ((List.length t1 : Nat) : Int)) <|
  bF (0 ≤ i3 ∧ i3 < ((List.length t1 : Nat) : Int)) <|
  bF ((List.length f5 + List.length ([aH.mk ((List.getD t1 (Int.toNat i3) default).At) ((List.getD t1 (Int.toNat i3) default).Net)])) * 16 ≤ 140737488355328 ∧ List.length f5 + List.length ([aH.mk ((List.getD t1 (Int.toNat i3) default).At) ((List.getD t1 (Int.toNat i3) default).Net)]) ≤ 9223372036854775807) <|
  some (.inl (sg, IntKind.i64.wrap (i3 + (1 : Int)), f5 ++ ([aH.mk ((List.getD t1 (Int.toNat i3) default).At) ((List.getD t1 (Int.toNat i3) default).Net)]))))
  (some (.inr (sg, i3, f5)))

noncomputable def oZ {σ : Type} (cK : σ → (List aE) → (List aH) → Option (σ × Bool)) (sg : σ) (t1 : (List bH)) (i3 : Int) (r4 : (List aE)) (f5 : List aH) : Option ((σ × Int) ⊕ (σ ⊕ σ)) :=
  (lp (fun s => jF cK t1 r4 s.1 s.2.1 s.2.2) (sg, i3, f5)).bind (fun rr => nF cK rr.1 t1 rr.2.1 r4 rr.2.2)

noncomputable def iI {σ : Type} (cK : σ → (List aE) → (List aH) → Option (σ × Bool)) (t1 : (List bH)) (sg : σ) (i3 : Int) : Option ((σ × Int) ⊕ (σ ⊕ σ)) :=
  cond (decide (i3 < ((List.length t1 : Nat) : Int)))
  (bF (0 ≤ i3 ∧ i3 < ((List.length t1 : Nat) : Int)) <|
  oZ cK sg t1 i3 ((List.getD t1 (Int.toNat i3) default).Row) ([] : List aH))
  (some (.inr (.inl sg)))

noncomputable def pK {σ : Type} (cK : σ → (List aE) → (List aH) → Option (σ × Bool)) (sg : σ) (t1 : (List bH)) (i3 : Int) : Option σ :=
  (lp (fun s => iI cK t1 s.1 s.2) (sg, i3)).bind (Sum.elim (fun rr => some rr) (fun rr => some rr))

noncomputable def mG {σ : Type} (cK : σ → (List aE) → (List aH) → Option (σ × Bool)) (t1 : (List bH)) (sg0 : σ) : Option σ :=
  pK cK sg0 t1 (0 : Int)

noncomputable def eZ (f1 : aE → Option Bool)  : Option Int :=
  some (-1 : Int)

noncomputable def gX (f1 : aE → Option Bool) (s0 : (List aE)) (t7 : Int) (t8 : Int) : Option ((Int) ⊕ (Unit ⊕ Int)) :=
  cond (decide (t8 < t7))
  (bF (0 ≤ t8 ∧ t8 < ((List.length s0 : Nat) : Int)) <|
  (f1 (List.getD s0 (Int.toNat t8) default)).bind fun x3 =>
  cond x3
  (some (.inr (.inr t8)))
  (some (.inl (IntKind.i64.wrap (t8 + (1 : Int))))))
  (some (.inr (.inl ())))

noncomputable def hU (f1 : aE → Option Bool) (s0 : (List aE)) (t7 : Int) (t8 : Int) : Option Int :=
  (lp (fun s => gX f1 s0 t7 s) t8).bind (Sum.elim (fun rr => eZ f1 ) (fun rr => some rr))

noncomputable def iE (s0 : (List aE)) (f1 : aE → Option Bool) : Option Int :=
  hU f1 s0 ((List.length s0 : Nat) : Int) (0 : Int)

noncomputable def eT (s0 : (List aE)) (f1 : aE → Option Bool) : Option Bool :=
  (iE s0 f1).bind fun x1 =>
  some (decide ((0 : Int) ≤ x1))

noncomputable def kY (v0 : aE) : Option (bB × Bool) :=
  cond ((decide (v0.Kind = (1 : Int))) && (nU v0.Text (⟨#[]⟩ : ByteArray)))
  (some (bB.k_number v0.Num, true))
  (cond (((decide (v0.Kind = (2 : Int))) && (decide (v0.Num = (0 : Int)))) && (decide (((ByteArray.size v0.Text : Nat) : Int) ≤ (64 : Int))))
  (some (bB.k_words v0.Text, true))
  (some (bB.none_, false)))

noncomputable def sO (v0 : aE) : Option Bool :=
  (kY v0).bind fun (x1_0, x1_1) =>
  match x1_0 with
  | .none_ => (some x1_1)
  | .k_number y4 => (some x1_1)
  | .k_words y5 => (some x1_1)

noncomputable def sU (v0 : aE) : Option Bool :=
  (sO v0).bind fun x1 =>
  some (!x1)

noncomputable def rF (r0 : (List aE)) : Option Bool :=
  cond (decide ((8 : Int) < ((List.length r0 : Nat) : Int)))
  (some false)
  ((eT r0 (fun y0 => sU y0)).bind fun x2 =>
  some (!x2))

noncomputable def qR (t0 : (List aE)) : Option ((Int × (List aE))) :=
  some ((-1 : Int), t0)

noncomputable def eU {σ : Type} (f1 : σ → aE → Option (σ × Bool)) (sg : σ) : Option (σ × Int) :=
  some (sg, (-1 : Int))

noncomputable def cB {σ : Type} (f1 : σ → aE → Option (σ × Bool)) (s0 : (List aE)) (t7 : Int) (sg : σ) (t8 : Int) : Option ((σ × Int) ⊕ (σ ⊕ (σ × Int))) :=
  cond (decide (t8 < t7))
  (bF (0 ≤ t8 ∧ t8 < ((List.length s0 : Nat) : Int)) <|
  (f1 sg (List.getD s0 (Int.toNat t8) default)).bind fun x3 =>
  cond x3.2
  (some (.inr (.inr (x3.1, t8))))
  (some (.inl (x3.1, IntKind.i64.wrap (t8 + (1 : Int))))))
  (some (.inr (.inl sg)))

noncomputable def gJ {σ : Type} (f1 : σ → aE → Option (σ × Bool)) (sg : σ) (s0 : (List aE)) (t7 : Int) (t8 : Int) : Option (σ × Int) :=
  (lp (fun s => cB f1 s0 t7 s.1 s.2) (sg, t8)).bind (Sum.elim (fun rr => eU f1 rr) (fun rr => some (rr.1, rr.2)))

noncomputable def gR {σ : Type} (s0 : (List aE)) (f1 : σ → aE → Option (σ × Bool)) (sg0 : σ) : Option (σ × Int) :=
  gJ f1 sg0 s0 ((List.length s0 : Nat) : Int) (0 : Int)

noncomputable def jM (v0 : aE) (t1 : Int) (t2 : (List aE)) : Option (Bool × Int) :=
  bF (0 ≤ (IntKind.i64.wrap (t1 + (1 : Int))) ∧ (IntKind.i64.wrap (t1 + (1 : Int))) < ((List.length t2 : Nat) : Int)) <|
  some ((!((decide (v0.Kind = ((List.getD t2 (Int.toNat (IntKind.i64.wrap (t1 + (1 : Int)))) default).Kind))) && ((decide (v0.Num = ((List.getD t2 (Int.toNat (IntKind.i64.wrap (t1 + (1 : Int)))) default).Num))) && ((nU v0.Text ((List.getD t2 (Int.toNat (IntKind.i64.wrap (t1 + (1 : Int)))) default).Text)) && true)))), (IntKind.i64.wrap (t1 + (1 : Int))))

noncomputable def kP (x0 : Int) : Option Bool :=
  some (!decide (x0 = x0))

noncomputable def mS (x0 : Int) (y1 : Int) : Option Int :=
  (kP x0).bind fun x1 =>
  (kP y1).bind fun x4 =>
  cond x1
  (cond x4
  (some (0 : Int))
  (some (-1 : Int)))
  (cond x4
  (some (1 : Int))
  (cond (decide (x0 < y1))
  (some (-1 : Int))
  (cond (decide (y1 < x0))
  (some (1 : Int))
  (some (0 : Int)))))

noncomputable def kE (x0 : Int) : Option Bool :=
  some (!decide (x0 = x0))

noncomputable def fL (x0 : Int) (y1 : Int) : Option Int :=
  (kE x0).bind fun x1 =>
  (kE y1).bind fun x4 =>
  cond x1
  (cond x4
  (some (0 : Int))
  (some (-1 : Int)))
  (cond x4
  (some (1 : Int))
  (cond (decide (x0 < y1))
  (some (-1 : Int))
  (cond (decide (y1 < x0))
  (some (1 : Int))
  (some (0 : Int)))))

noncomputable def jH (a0 : ByteArray) (b1 : ByteArray) : Option Int :=
  some (GZ a0 b1)

noncomputable def lM (a0 : ByteArray) (b1 : ByteArray) : Option Int :=
  (jH a0 b1).bind fun x1 =>
  some x1

noncomputable def nX (a0 : aE) (b1 : aE) : Option Int :=
  (kY a0).bind fun (x1_0, x1_1) =>
  match x1_0 with
  | .none_ => ((kY b1).bind fun (x6_0, x6_1) =>
  match x6_0 with
  | .none_ => (cond ((!x1_1) || (!x6_1))
  (some (0 : Int))
  (none))
  | .k_number y9 => (cond ((!x1_1) || (!x6_1))
  (some (0 : Int))
  (some (1 : Int)))
  | .k_words y10 => (cond ((!x1_1) || (!x6_1))
  (some (0 : Int))
  (none)))
  | .k_number y4 => ((kY b1).bind fun (x23_0, x23_1) =>
  match x23_0 with
  | .none_ => (cond ((!x1_1) || (!x23_1))
  (some (0 : Int))
  (some (-1 : Int)))
  | .k_number y26 => (cond ((!x1_1) || (!x23_1))
  (some (0 : Int))
  ((fL y4 y26).bind fun x33 =>
  some x33))
  | .k_words y27 => (cond ((!x1_1) || (!x23_1))
  (some (0 : Int))
  (some (-1 : Int))))
  | .k_words y5 => ((kY b1).bind fun (x39_0, x39_1) =>
  match x39_0 with
  | .none_ => (cond ((!x1_1) || (!x39_1))
  (some (0 : Int))
  (none))
  | .k_number y42 => (cond ((!x1_1) || (!x39_1))
  (some (0 : Int))
  (some (1 : Int)))
  | .k_words y43 => (cond ((!x1_1) || (!x39_1))
  (some (0 : Int))
  ((lM y5 y43).bind fun x56 =>
  some x56)))

noncomputable def pS (a0 : (List aE)) (b1 : (List aE)) : Option Int :=
  (rF a0).bind fun x1 =>
  (dG (!(!x1)) (rF b1)).bind fun x4 =>
  cond ((!x1) || (!x4))
  (some (0 : Int))
  (bF (0 ≤ (if ((List.length b1 : Nat) : Int) < ((List.length a0 : Nat) : Int) then ((List.length b1 : Nat) : Int) else ((List.length a0 : Nat) : Int)) ∧ (if ((List.length b1 : Nat) : Int) < ((List.length a0 : Nat) : Int) then ((List.length b1 : Nat) : Int) else ((List.length a0 : Nat) : Int)) ≤ ((List.length a0 : Nat) : Int)) <|
  (qR b1).bind fun x9 =>
  (gR (List.take (Int.toNat (if ((List.length b1 : Nat) : Int) < ((List.length a0 : Nat) : Int) then ((List.length b1 : Nat) : Int) else ((List.length a0 : Nat) : Int))) a0) (fun st y0 => (jM y0 st x9.2).bind fun o => some (o.2, o.1)) x9.1).bind fun x12 =>
  cond (decide (x12.2 < (0 : Int)))
  ((mS ((List.length a0 : Nat) : Int) ((List.length b1 : Nat) : Int)).bind fun x15 =>
  some x15)
  (bF (0 ≤ x12.2 ∧ x12.2 < ((List.length a0 : Nat) : Int)) <|
  bF (0 ≤ x12.2 ∧ x12.2 < ((List.length b1 : Nat) : Int)) <|
  (nX (List.getD a0 (Int.toNat x12.2) default) (List.getD b1 (Int.toNat x12.2) default)).bind fun x20 =>
  some x20))

noncomputable def nH (rD : (List aH) → Option Bool) (rY : (List bH)) (t4 : Bool) (mZ : (List aE)) (jT : Bool) (t14 : (List aE)) (t15 : (List aH)) : Option ((Bool × (List aE) × Bool) ⊕ (Bool × (List aE) × Bool)) :=
  (rF t14).bind fun x7 =>
  (dG (jT && (!(!x7))) (pS mZ t14)).bind fun x12 =>
  (dG (!((!x7) || (jT && (decide ((0 : Int) ≤ x12))))) (rD t15)).bind fun x15 =>
  cond (((!x7) || (jT && (decide ((0 : Int) ≤ x12)))) || (!x15))
  (some (.inr (false, mZ, jT)))
  (some (.inl (t4, t14, true)))

noncomputable def tP (rD : (List aH) → Option Bool) (t4 : Bool) (mZ : (List aE)) (jT : Bool) (rY : (List bH)) : Option Bool :=
  (mG (fun st t14 t15 => rnd (fun (s : Bool × (List aE) × Bool) => nH rD rY s.1 s.2.1 s.2.2 t14 t15) st) rY (.inl (t4, mZ, jT))).bind (Sum.elim (fun (s : Bool × (List aE) × Bool) =>
  (some true))
  (fun (s : Bool × (List aE) × Bool) =>
  (some s.1)))

noncomputable def qB (l0 : (List bH)) (rD : (List aH) → Option Bool) : Option Bool :=
  cond (decide ((4096 : Int) < ((List.length l0 : Nat) : Int)))
  (some false)
  ((qI l0).bind fun x5 =>
  tP rD false ([]) false x5)

noncomputable def uU (n0 : Int) : Option Bool :=
  some ((decide (n0 ≤ (1048576 : Int))) && (decide ((-1048576 : Int) ≤ n0)))

noncomputable def sW  : Option Bool :=
  some true

noncomputable def lE (t9 : (List aH)) (t10 : Int) (oE : Int) (t11 : Int) : Option ((Int × Int) ⊕ (Unit ⊕ Bool)) :=
  cond (decide (t11 < t10))
  (bF (0 ≤ t11 ∧ t11 < ((List.length t9 : Nat) : Int)) <|
  (dG (!(((decide (((List.getD t9 (Int.toNat t11) default).At) ≤ oE)) || (decide ((1125899906842624 : Int) ≤ ((List.getD t9 (Int.toNat t11) default).At)))) || (decide (((List.getD t9 (Int.toNat t11) default).Net) = (0 : Int))))) (uU ((List.getD t9 (Int.toNat t11) default).Net))).bind fun x8 =>
  cond ((((decide (((List.getD t9 (Int.toNat t11) default).At) ≤ oE)) || (decide ((1125899906842624 : Int) ≤ ((List.getD t9 (Int.toNat t11) default).At)))) || (decide (((List.getD t9 (Int.toNat t11) default).Net) = (0 : Int)))) || (!x8))
  (some (.inr (.inr false)))
  (some (.inl ((List.getD t9 (Int.toNat t11) default).At, IntKind.i64.wrap (t11 + (1 : Int))))))
  (some (.inr (.inl ())))

noncomputable def uN (oE : Int) (t9 : (List aH)) (t10 : Int) (t11 : Int) : Option Bool :=
  (lp (fun s => lE t9 t10 s.1 s.2) (oE, t11)).bind (Sum.elim (fun rr => sW ) (fun rr => some rr))

noncomputable def mX (f0 : (List aH)) : Option Bool :=
  cond (decide ((1024 : Int) < ((List.length f0 : Nat) : Int)))
  (some false)
  (uN (-2 : Int) f0 ((List.length f0 : Nat) : Int) (0 : Int))

noncomputable def rS (l0 : (List bH)) : Option Bool :=
  (qB l0 (fun y0 => mX y0)).bind fun x1 =>
  some x1

noncomputable def pV (gU : Int) : Option Int :=
  some gU

noncomputable def lQ (t24 : (List aH)) (t25 : Int) (v3 : Int) (gU : Int) (t26 : Int) : Option ((Int × Int × Int) ⊕ (Int)) :=
  cond (decide (t26 < t25))
  (bF (0 ≤ t26 ∧ t26 < ((List.length t24 : Nat) : Int)) <|
  some (.inl (IntKind.i64.wrap (v3 + ((List.getD t24 (Int.toNat t26) default).Net)), if (IntKind.i64.wrap (v3 + ((List.getD t24 (Int.toNat t26) default).Net))) < gU then (IntKind.i64.wrap (v3 + ((List.getD t24 (Int.toNat t26) default).Net))) else gU, IntKind.i64.wrap (t26 + (1 : Int)))))
  (some (.inr gU))

noncomputable def pZ (v3 : Int) (gU : Int) (t24 : (List aH)) (t25 : Int) (t26 : Int) : Option Int :=
  (lp (fun s => lQ t24 t25 s.1 s.2.1 s.2.2) (v3, gU, t26)).bind (fun rr => pV rr)

noncomputable def nR (f0 : (List aH)) (v3 : Int) (gU : Int) : Option Int :=
  pZ v3 gU f0 ((List.length f0 : Nat) : Int) (0 : Int)

noncomputable def rA (f0 : (List aH)) : Option Int :=
  (mX f0).bind fun x1 =>
  cond ((!x1) || (decide (((List.length f0 : Nat) : Int) = (0 : Int))))
  (some (0 : Int))
  (bF (0 ≤ (0 : Int) ∧ (0 : Int) < ((List.length f0 : Nat) : Int)) <|
  cond (decide (((List.getD f0 (Int.toNat (0 : Int)) default).At) = (-1 : Int)))
  (bF (0 ≤ (0 : Int) ∧ (0 : Int) < ((List.length f0 : Nat) : Int)) <|
  nR f0 (0 : Int) ((List.getD f0 (Int.toNat (0 : Int)) default).Net))
  (nR f0 (0 : Int) (0 : Int)))

noncomputable def oR (f0 : (List aH)) : Option Bool :=
  (mX f0).bind fun x1 =>
  (dG x1 (rA f0)).bind fun x4 =>
  some (x1 && (decide ((0 : Int) ≤ x4)))

noncomputable def rO (l0 : (List bH)) : Option Bool :=
  (qB l0 (fun y0 => oR y0)).bind fun x1 =>
  some x1

noncomputable def sZ (l0 : (List bH)) : Option ((List bH)) :=
  some l0

noncomputable def kD {σ : Type} (cK : σ → (List aE) → (List aH) → Option (σ × Bool)) (t9c0 : (List bH)) (sg : σ) (t10 : (List aE)) (t11 : (List aH)) : Option ((σ) ⊕ (σ)) :=
  (cK sg t10 t11).bind fun x7 =>
  cond (!x7.2)
  (some (.inr x7.1))
  (some (.inl x7.1))

noncomputable def nY {σ : Type} (cK : σ → (List aE) → (List aH) → Option (σ × Bool)) (sg : σ) (t9c0 : (List bH)) : Option σ :=
  (mG (fun st t10 t11 => rnd (fun (s : σ) => kD cK t9c0 s t10 t11) st) t9c0 (.inl sg)).bind (Sum.elim (fun (s : σ) =>
  (some s))
  (fun (s : σ) =>
  (some s)))

noncomputable def mV {σ : Type} (cK : σ → (List aE) → (List aH) → Option (σ × Bool)) (t1 : (List bH)) (sg0 : σ) : Option σ :=
  (rS t1).bind fun x1 =>
  cond (!x1)
  (some sg0)
  ((qI t1).bind fun x5 =>
  nY cK sg0 x5)

noncomputable def lB (x0 : Int) (n2 : Int) : Option Int :=
  bF (0 ≤ (IntKind.u8.wrap x0) ∧ (IntKind.u8.wrap x0) < ((ByteArray.size (⟨#[0, 1, 2, 2, 3, 3, 3, 3, 4, 4, 4, 4, 4, 4, 4, 4, 5, 5, 5, 5, 5, 5, 5, 5, 5, 5, 5, 5, 5, 5, 5, 5, 6, 6, 6, 6, 6, 6, 6, 6, 6, 6, 6, 6, 6, 6, 6, 6, 6, 6, 6, 6, 6, 6, 6, 6, 6, 6, 6, 6, 6, 6, 6, 6, 7, 7, 7, 7, 7, 7, 7, 7, 7, 7, 7, 7, 7, 7, 7, 7, 7, 7, 7, 7, 7, 7, 7, 7, 7, 7, 7, 7, 7, 7, 7, 7, 7, 7, 7, 7, 7, 7, 7, 7, 7, 7, 7, 7, 7, 7, 7, 7, 7, 7, 7, 7, 7, 7, 7, 7, 7, 7, 7, 7, 7, 7, 7, 7, 8, 8, 8, 8, 8, 8, 8, 8, 8, 8, 8, 8, 8, 8, 8, 8, 8, 8, 8, 8, 8, 8, 8, 8, 8, 8, 8, 8, 8, 8, 8, 8, 8, 8, 8, 8, 8, 8, 8, 8, 8, 8, 8, 8, 8, 8, 8, 8, 8, 8, 8, 8, 8, 8, 8, 8, 8, 8, 8, 8, 8, 8, 8, 8, 8, 8, 8, 8, 8, 8, 8, 8, 8, 8, 8, 8, 8, 8, 8, 8, 8, 8, 8, 8, 8, 8, 8, 8, 8, 8, 8, 8, 8, 8, 8, 8, 8, 8, 8, 8, 8, 8, 8, 8, 8, 8, 8, 8, 8, 8, 8, 8, 8, 8, 8, 8, 8, 8, 8, 8, 8, 8, 8, 8, 8, 8, 8, 8]⟩ : ByteArray) : Nat) : Int)) <|
  some (IntKind.i64.wrap (n2 + (IntKind.i64.wrap (bt (⟨#[0, 1, 2, 2, 3, 3, 3, 3, 4, 4, 4, 4, 4, 4, 4, 4, 5, 5, 5, 5, 5, 5, 5, 5, 5, 5, 5, 5, 5, 5, 5, 5, 6, 6, 6, 6, 6, 6, 6, 6, 6, 6, 6, 6, 6, 6, 6, 6, 6, 6, 6, 6, 6, 6, 6, 6, 6, 6, 6, 6, 6, 6, 6, 6, 7, 7, 7, 7, 7, 7, 7, 7, 7, 7, 7, 7, 7, 7, 7, 7, 7, 7, 7, 7, 7, 7, 7, 7, 7, 7, 7, 7, 7, 7, 7, 7, 7, 7, 7, 7, 7, 7, 7, 7, 7, 7, 7, 7, 7, 7, 7, 7, 7, 7, 7, 7, 7, 7, 7, 7, 7, 7, 7, 7, 7, 7, 7, 7, 8, 8, 8, 8, 8, 8, 8, 8, 8, 8, 8, 8, 8, 8, 8, 8, 8, 8, 8, 8, 8, 8, 8, 8, 8, 8, 8, 8, 8, 8, 8, 8, 8, 8, 8, 8, 8, 8, 8, 8, 8, 8, 8, 8, 8, 8, 8, 8, 8, 8, 8, 8, 8, 8, 8, 8, 8, 8, 8, 8, 8, 8, 8, 8, 8, 8, 8, 8, 8, 8, 8, 8, 8, 8, 8, 8, 8, 8, 8, 8, 8, 8, 8, 8, 8, 8, 8, 8, 8, 8, 8, 8, 8, 8, 8, 8, 8, 8, 8, 8, 8, 8, 8, 8, 8, 8, 8, 8, 8, 8, 8, 8, 8, 8, 8, 8, 8, 8, 8, 8, 8, 8, 8, 8, 8, 8, 8, 8]⟩ : ByteArray) (IntKind.u8.wrap x0)))))

noncomputable def kA (x0 : Int) (n2 : Int) : Option Int :=
  cond (decide ((256 : Int) ≤ x0))
  (bF (0 ≤ (8 : Int)) <|
  lB (Int.fdiv x0 (2 ^ (min (Int.toNat (8 : Int)) 64))) (IntKind.i64.wrap (n2 + (8 : Int))))
  (lB x0 n2)

noncomputable def kC (x0 : Int) (n2 : Int) : Option Int :=
  cond (decide ((65536 : Int) ≤ x0))
  (bF (0 ≤ (16 : Int)) <|
  kA (Int.fdiv x0 (2 ^ (min (Int.toNat (16 : Int)) 64))) (IntKind.i64.wrap (n2 + (16 : Int))))
  (kA x0 n2)

noncomputable def mU (x0 : Int) : Option Int :=
  cond (decide ((4294967296 : Int) ≤ x0))
  (bF (0 ≤ (32 : Int)) <|
  kC (Int.fdiv x0 (2 ^ (min (Int.toNat (32 : Int)) 64))) (32 : Int))
  (kC x0 (0 : Int))

noncomputable def jR (x0 : Int) : Option Int :=
  (mU x0).bind fun x2 =>
  some x2

noncomputable def cZ (x0 : Int) (y1 : Int) : Option Bool :=
  (kP x0).bind fun x1 =>
  (dG x1 (kP y1)).bind fun x4 =>
  some ((x1 && (!x4)) || (decide (x0 < y1)))

noncomputable def fR (aA : List Int) (a1 : Int) (b2 : Int) (i6 : Int) : Option ((List Int × Int) ⊕ ((List Int))) :=
  some (.inl (aA, IntKind.i64.wrap (i6 + (1 : Int))))

noncomputable def eS (a1 : Int) (b2 : Int) (i6 : Int) (aA : List Int) (j7 : Int) : Option ((List Int × Int) ⊕ ((List Int))) :=
  bF ((((decide (a1 < j7))) = true → 0 ≤ j7 ∧ j7 < ((List.length aA : Nat) : Int))) <|
  bF ((((decide (a1 < j7))) = true → 0 ≤ (IntKind.i64.wrap (j7 - (1 : Int))) ∧ (IntKind.i64.wrap (j7 - (1 : Int))) < ((List.length aA : Nat) : Int))) <|
  (dG (decide (a1 < j7)) (cZ (List.getD aA (Int.toNat j7) default) (List.getD aA (Int.toNat (IntKind.i64.wrap (j7 - (1 : Int)))) default))).bind fun x4 =>
  cond ((decide (a1 < j7)) && x4)
  (bF (0 ≤ (IntKind.i64.wrap (j7 - (1 : Int))) ∧ (IntKind.i64.wrap (j7 - (1 : Int))) < ((List.length aA : Nat) : Int)) <|
  bF (0 ≤ j7 ∧ j7 < ((List.length aA : Nat) : Int)) <|
  bF (0 ≤ j7 ∧ j7 < ((List.length aA : Nat) : Int)) <|
  bF (0 ≤ (IntKind.i64.wrap (j7 - (1 : Int))) ∧ (IntKind.i64.wrap (j7 - (1 : Int))) < ((List.length aA : Nat) : Int)) <|
  some (.inl (List.set (List.set aA (Int.toNat j7) (List.getD aA (Int.toNat (IntKind.i64.wrap (j7 - (1 : Int)))) default)) (Int.toNat (IntKind.i64.wrap (j7 - (1 : Int)))) (List.getD aA (Int.toNat j7) default), IntKind.i64.wrap (j7 - (1 : Int)))))
  (some (.inr aA))

noncomputable def iV (aA : List Int) (a1 : Int) (b2 : Int) (i6 : Int) (j7 : Int) : Option ((List Int × Int) ⊕ ((List Int))) :=
  (lp (fun s => eS a1 b2 i6 s.1 s.2) (aA, j7)).bind (fun rr => fR rr a1 b2 i6)

noncomputable def dA (a1 : Int) (b2 : Int) (aA : List Int) (i6 : Int) : Option ((List Int × Int) ⊕ ((List Int))) :=
  cond (decide (i6 < b2))
  (iV aA a1 b2 i6 i6)
  (some (.inr aA))

noncomputable def iW (aA : List Int) (a1 : Int) (b2 : Int) (i6 : Int) : Option (List Int) :=
  (lp (fun s => dA a1 b2 s.1 s.2) (aA, i6)).bind (fun rr => some rr)

noncomputable def fY (aA : (List Int)) (a1 : Int) (b2 : Int) : Option (List Int) :=
  iW aA a1 b2 (IntKind.i64.wrap (a1 + (1 : Int)))

noncomputable def fU (aA : List Int) (hi2 : Int) (bA : Int) (bZ : Int) (dS : Int) : Option ((List Int × Int) ⊕ ((List Int) ⊕ (List Int))) :=
  bF (0 ≤ (IntKind.i64.wrap (bA + bZ)) ∧ (IntKind.i64.wrap (bA + bZ)) < ((List.length aA : Nat) : Int)) <|
  bF (0 ≤ (IntKind.i64.wrap (bA + dS)) ∧ (IntKind.i64.wrap (bA + dS)) < ((List.length aA : Nat) : Int)) <|
  (cZ (List.getD aA (Int.toNat (IntKind.i64.wrap (bA + bZ))) default) (List.getD aA (Int.toNat (IntKind.i64.wrap (bA + dS))) default)).bind fun x4 =>
  cond (!x4)
  (some (.inr (.inr aA)))
  (bF (0 ≤ (IntKind.i64.wrap (bA + dS)) ∧ (IntKind.i64.wrap (bA + dS)) < ((List.length aA : Nat) : Int)) <|
  bF (0 ≤ (IntKind.i64.wrap (bA + bZ)) ∧ (IntKind.i64.wrap (bA + bZ)) < ((List.length aA : Nat) : Int)) <|
  bF (0 ≤ (IntKind.i64.wrap (bA + bZ)) ∧ (IntKind.i64.wrap (bA + bZ)) < ((List.length aA : Nat) : Int)) <|
  bF (0 ≤ (IntKind.i64.wrap (bA + dS)) ∧ (IntKind.i64.wrap (bA + dS)) < ((List.length aA : Nat) : Int)) <|
  some (.inl (List.set (List.set aA (Int.toNat (IntKind.i64.wrap (bA + bZ))) (List.getD aA (Int.toNat (IntKind.i64.wrap (bA + dS))) default)) (Int.toNat (IntKind.i64.wrap (bA + dS))) (List.getD aA (Int.toNat (IntKind.i64.wrap (bA + bZ))) default), dS)))

noncomputable def cX (hi2 : Int) (bA : Int) (aA : List Int) (bZ : Int) : Option ((List Int × Int) ⊕ ((List Int) ⊕ (List Int))) :=
  cond (decide (hi2 ≤ (IntKind.i64.wrap ((IntKind.i64.wrap ((2 : Int) * bZ)) + (1 : Int)))))
  (some (.inr (.inl aA)))
  (bF ((((decide ((IntKind.i64.wrap ((IntKind.i64.wrap ((IntKind.i64.wrap ((2 : Int) * bZ)) + (1 : Int))) + (1 : Int))) < hi2))) = true → 0 ≤ (IntKind.i64.wrap (bA + (IntKind.i64.wrap ((IntKind.i64.wrap ((2 : Int) * bZ)) + (1 : Int))))) ∧ (IntKind.i64.wrap (bA + (IntKind.i64.wrap ((IntKind.i64.wrap ((2 : Int) * bZ)) + (1 : Int))))) < ((List.length aA : Nat) : Int))) <|
  bF ((((decide ((IntKind.i64.wrap ((IntKind.i64.wrap ((IntKind.i64.wrap ((2 : Int) * bZ)) + (1 : Int))) + (1 : Int))) < hi2))) = true → 0 ≤ (IntKind.i64.wrap ((IntKind.i64.wrap (bA + (IntKind.i64.wrap ((IntKind.i64.wrap ((2 : Int) * bZ)) + (1 : Int))))) + (1 : Int))) ∧ (IntKind.i64.wrap ((IntKind.i64.wrap (bA + (IntKind.i64.wrap ((IntKind.i64.wrap ((2 : Int) * bZ)) + (1 : Int))))) + (1 : Int))) < ((List.length aA : Nat) : Int))) <|
  (dG (decide ((IntKind.i64.wrap ((IntKind.i64.wrap ((IntKind.i64.wrap ((2 : Int) * bZ)) + (1 : Int))) + (1 : Int))) < hi2)) (cZ (List.getD aA (Int.toNat (IntKind.i64.wrap (bA + (IntKind.i64.wrap ((IntKind.i64.wrap ((2 : Int) * bZ)) + (1 : Int)))))) default) (List.getD aA (Int.toNat (IntKind.i64.wrap ((IntKind.i64.wrap (bA + (IntKind.i64.wrap ((IntKind.i64.wrap ((2 : Int) * bZ)) + (1 : Int))))) + (1 : Int)))) default))).bind fun x14 =>
  cond ((decide ((IntKind.i64.wrap ((IntKind.i64.wrap ((IntKind.i64.wrap ((2 : Int) * bZ)) + (1 : Int))) + (1 : Int))) < hi2)) && x14)
  (fU aA hi2 bA bZ (IntKind.i64.wrap ((IntKind.i64.wrap ((IntKind.i64.wrap ((2 : Int) * bZ)) + (1 : Int))) + (1 : Int))))
  (fU aA hi2 bA bZ (IntKind.i64.wrap ((IntKind.i64.wrap ((2 : Int) * bZ)) + (1 : Int)))))

noncomputable def jX (aA : List Int) (hi2 : Int) (bA : Int) (bZ : Int) : Option (List Int) :=
  (lp (fun s => cX hi2 bA s.1 s.2) (aA, bZ)).bind (Sum.elim (fun rr => some rr) (fun rr => some rr))

noncomputable def eW (aA : (List Int)) (lo1 : Int) (hi2 : Int) (bA : Int) : Option (List Int) :=
  jX aA hi2 bA lo1

noncomputable def dV (bK : Int) (lo7 : Int) (aA : List Int) (i10 : Int) : Option ((List Int × Int) ⊕ ((List Int))) :=
  cond (decide ((0 : Int) ≤ i10))
  (bF (0 ≤ (IntKind.i64.wrap (bK + i10)) ∧ (IntKind.i64.wrap (bK + i10)) < ((List.length aA : Nat) : Int)) <|
  bF (0 ≤ bK ∧ bK < ((List.length aA : Nat) : Int)) <|
  bF (0 ≤ bK ∧ bK < ((List.length aA : Nat) : Int)) <|
  bF (0 ≤ (IntKind.i64.wrap (bK + i10)) ∧ (IntKind.i64.wrap (bK + i10)) < ((List.length aA : Nat) : Int)) <|
  (eW (List.set (List.set aA (Int.toNat bK) (List.getD aA (Int.toNat (IntKind.i64.wrap (bK + i10))) default)) (Int.toNat (IntKind.i64.wrap (bK + i10))) (List.getD aA (Int.toNat bK) default)) lo7 i10 bK).bind fun x6 =>
  some (.inl (x6, IntKind.i64.wrap (i10 - (1 : Int)))))
  (some (.inr aA))

noncomputable def jZ (aA : List Int) (bK : Int) (lo7 : Int) (i10 : Int) : Option (List Int) :=
  (lp (fun s => dV bK lo7 s.1 s.2) (aA, i10)).bind (fun rr => some rr)

noncomputable def iQ (aA : List Int) (bK : Int) (lo7 : Int) (hi8 : Int) : Option (List Int) :=
  jZ aA bK lo7 (IntKind.i64.wrap (hi8 - (1 : Int)))

noncomputable def dW (bK : Int) (lo7 : Int) (hi8 : Int) (aA : List Int) (i9 : Int) : Option ((List Int × Int) ⊕ ((List Int))) :=
  cond (decide ((0 : Int) ≤ i9))
  ((eW aA i9 hi8 bK).bind fun x11 =>
  some (.inl (x11, IntKind.i64.wrap (i9 - (1 : Int)))))
  (some (.inr aA))

noncomputable def jY (aA : List Int) (bK : Int) (lo7 : Int) (hi8 : Int) (i9 : Int) : Option (List Int) :=
  (lp (fun s => dW bK lo7 hi8 s.1 s.2) (aA, i9)).bind (fun rr => iQ rr bK lo7 hi8)

noncomputable def iX (aA : (List Int)) (a1 : Int) (b2 : Int) : Option (List Int) :=
  bF ((2 : Int) ≠ 0) <|
  jY aA a1 (0 : Int) (IntKind.i64.wrap (b2 - a1)) (IntKind.i64.wrap (Int.tdiv (IntKind.i64.wrap ((IntKind.i64.wrap (b2 - a1)) - (1 : Int))) (2 : Int)))

noncomputable def kK (yK : Int) : Option Int :=
  (jR (IntKind.u64.wrap yK)).bind fun x1 =>
  bF (0 ≤ x1) <|
  some (IntKind.u64.wrap ((1 : Int) * 2 ^ (min (Int.toNat x1) 64)))

noncomputable def kS (r0 : Int) : Option (Int × Int) :=
  bF (0 ≤ (13 : Int)) <|
  bF (0 ≤ (7 : Int)) <|
  bF (0 ≤ (17 : Int)) <|
  some (bJ .xor .u64 (bJ .xor .u64 (bJ .xor .u64 r0 (IntKind.u64.wrap (r0 * 2 ^ (min (Int.toNat (13 : Int)) 64)))) (Int.fdiv (bJ .xor .u64 r0 (IntKind.u64.wrap (r0 * 2 ^ (min (Int.toNat (13 : Int)) 64)))) (2 ^ (min (Int.toNat (7 : Int)) 64)))) (IntKind.u64.wrap ((bJ .xor .u64 (bJ .xor .u64 r0 (IntKind.u64.wrap (r0 * 2 ^ (min (Int.toNat (13 : Int)) 64)))) (Int.fdiv (bJ .xor .u64 r0 (IntKind.u64.wrap (r0 * 2 ^ (min (Int.toNat (13 : Int)) 64)))) (2 ^ (min (Int.toNat (7 : Int)) 64)))) * 2 ^ (min (Int.toNat (17 : Int)) 64))), bJ .xor .u64 (bJ .xor .u64 (bJ .xor .u64 r0 (IntKind.u64.wrap (r0 * 2 ^ (min (Int.toNat (13 : Int)) 64)))) (Int.fdiv (bJ .xor .u64 r0 (IntKind.u64.wrap (r0 * 2 ^ (min (Int.toNat (13 : Int)) 64)))) (2 ^ (min (Int.toNat (7 : Int)) 64)))) (IntKind.u64.wrap ((bJ .xor .u64 (bJ .xor .u64 r0 (IntKind.u64.wrap (r0 * 2 ^ (min (Int.toNat (13 : Int)) 64)))) (Int.fdiv (bJ .xor .u64 r0 (IntKind.u64.wrap (r0 * 2 ^ (min (Int.toNat (13 : Int)) 64)))) (2 ^ (min (Int.toNat (7 : Int)) 64)))) * 2 ^ (min (Int.toNat (17 : Int)) 64))))

noncomputable def eP (aA : List Int) (a1 : Int) (jK : Int) (kQ : Int) (iH : Int) (idx9 : Int) (fE : Int) : Option ((List Int × Int × Int) ⊕ ((List Int))) :=
  bF (0 ≤ (IntKind.i64.wrap (a1 + fE)) ∧ (IntKind.i64.wrap (a1 + fE)) < ((List.length aA : Nat) : Int)) <|
  bF (0 ≤ idx9 ∧ idx9 < ((List.length aA : Nat) : Int)) <|
  bF (0 ≤ idx9 ∧ idx9 < ((List.length aA : Nat) : Int)) <|
  bF (0 ≤ (IntKind.i64.wrap (a1 + fE)) ∧ (IntKind.i64.wrap (a1 + fE)) < ((List.length aA : Nat) : Int)) <|
  some (.inl (List.set (List.set aA (Int.toNat idx9) (List.getD aA (Int.toNat (IntKind.i64.wrap (a1 + fE))) default)) (Int.toNat (IntKind.i64.wrap (a1 + fE))) (List.getD aA (Int.toNat idx9) default), kQ, IntKind.i64.wrap (idx9 + (1 : Int))))

noncomputable def cR (a1 : Int) (jK : Int) (iH : Int) (aA : List Int) (kQ : Int) (idx9 : Int) : Option ((List Int × Int × Int) ⊕ ((List Int))) :=
  bF ((4 : Int) ≠ 0) <|
  cond (decide (idx9 ≤ (IntKind.i64.wrap ((IntKind.i64.wrap (a1 + (IntKind.i64.wrap ((IntKind.i64.wrap (Int.tdiv jK (4 : Int))) * (2 : Int))))) + (1 : Int)))))
  ((kS kQ).bind fun x9 =>
  cond (decide (jK ≤ (IntKind.i64.wrap (bJ .and .u64 x9.1 (IntKind.u64.wrap (iH - (1 : Int)))))))
  (eP aA a1 jK x9.2 iH idx9 (IntKind.i64.wrap ((IntKind.i64.wrap (bJ .and .u64 x9.1 (IntKind.u64.wrap (iH - (1 : Int))))) - jK)))
  (eP aA a1 jK x9.2 iH idx9 (IntKind.i64.wrap (bJ .and .u64 x9.1 (IntKind.u64.wrap (iH - (1 : Int)))))))
  (some (.inr aA))

noncomputable def iS (aA : List Int) (a1 : Int) (jK : Int) (kQ : Int) (iH : Int) (idx9 : Int) : Option (List Int) :=
  (lp (fun s => cR a1 jK iH s.1 s.2.1 s.2.2) (aA, kQ, idx9)).bind (fun rr => some rr)

noncomputable def fW (aA : (List Int)) (a1 : Int) (b2 : Int) : Option (List Int) :=
  cond (decide ((8 : Int) ≤ (IntKind.i64.wrap (b2 - a1))))
  ((kK (IntKind.i64.wrap (b2 - a1))).bind fun x3 =>
  bF ((4 : Int) ≠ 0) <|
  iS aA a1 (IntKind.i64.wrap (b2 - a1)) (IntKind.u64.wrap (IntKind.i64.wrap (b2 - a1))) x3 (IntKind.i64.wrap ((IntKind.i64.wrap (a1 + (IntKind.i64.wrap ((IntKind.i64.wrap (Int.tdiv (IntKind.i64.wrap (b2 - a1)) (4 : Int))) * (2 : Int))))) - (1 : Int))))
  (some aA)

noncomputable def fK (aA : (List Int)) (a1 : Int) (b2 : Int) (pU : Int) : Option ((Int × Int) × Int) :=
  bF (0 ≤ b2 ∧ b2 < ((List.length aA : Nat) : Int)) <|
  bF (0 ≤ a1 ∧ a1 < ((List.length aA : Nat) : Int)) <|
  (cZ (List.getD aA (Int.toNat b2) default) (List.getD aA (Int.toNat a1) default)).bind fun x3 =>
  cond x3
  (some ((b2, a1), IntKind.i64.wrap (pU + (1 : Int))))
  (some ((a1, b2), pU))

noncomputable def iB (aA : (List Int)) (a1 : Int) (b2 : Int) (c3 : Int) (AB : Int) : Option (Int × Int) :=
  (fK aA a1 b2 AB).bind fun x1 =>
  (fK aA x1.1.2 c3 x1.2).bind fun x6 =>
  (fK aA x1.1.1 x6.1.1 x6.2).bind fun x11 =>
  some (x11.1.2, x11.2)

noncomputable def dP (aA : (List Int)) (a1 : Int) (AX : Int) : Option (Int × Int) :=
  (iB aA (IntKind.i64.wrap (a1 - (1 : Int))) a1 (IntKind.i64.wrap (a1 + (1 : Int))) AX).bind fun x1 =>
  some (x1.1, x1.2)

noncomputable def eY (aA : List Int) (lJ : Int) (j11 : Int) : Option (Int × Int) :=
  cond (decide (lJ = (0 : Int)))
  (some (j11, (1 : Int)))
  (cond (decide (lJ = (12 : Int)))
  (some (j11, (2 : Int)))
  (some (j11, (0 : Int))))

noncomputable def eX (aA : List Int) (lJ : Int) (i10 : Int) (j11 : Int) (k12 : Int) : Option (Int × Int) :=
  (iB aA i10 j11 k12 lJ).bind fun x8 =>
  eY aA x8.2 x8.1

noncomputable def gW (aA : (List Int)) (a1 : Int) (b2 : Int) : Option (Int × Int) :=
  bF ((4 : Int) ≠ 0) <|
  bF ((4 : Int) ≠ 0) <|
  bF ((4 : Int) ≠ 0) <|
  cond (decide ((8 : Int) ≤ (IntKind.i64.wrap (b2 - a1))))
  (cond (decide ((50 : Int) ≤ (IntKind.i64.wrap (b2 - a1))))
  ((dP aA (IntKind.i64.wrap (a1 + (IntKind.i64.wrap ((IntKind.i64.wrap (Int.tdiv (IntKind.i64.wrap (b2 - a1)) (4 : Int))) * (1 : Int))))) 0).bind fun x14 =>
  (dP aA (IntKind.i64.wrap (a1 + (IntKind.i64.wrap ((IntKind.i64.wrap (Int.tdiv (IntKind.i64.wrap (b2 - a1)) (4 : Int))) * (2 : Int))))) x14.2).bind fun x19 =>
  (dP aA (IntKind.i64.wrap (a1 + (IntKind.i64.wrap ((IntKind.i64.wrap (Int.tdiv (IntKind.i64.wrap (b2 - a1)) (4 : Int))) * (3 : Int))))) x19.2).bind fun x24 =>
  eX aA x24.2 x14.1 x19.1 x24.1)
  (eX aA 0 (IntKind.i64.wrap (a1 + (IntKind.i64.wrap ((IntKind.i64.wrap (Int.tdiv (IntKind.i64.wrap (b2 - a1)) (4 : Int))) * (1 : Int))))) (IntKind.i64.wrap (a1 + (IntKind.i64.wrap ((IntKind.i64.wrap (Int.tdiv (IntKind.i64.wrap (b2 - a1)) (4 : Int))) * (2 : Int))))) (IntKind.i64.wrap (a1 + (IntKind.i64.wrap ((IntKind.i64.wrap (Int.tdiv (IntKind.i64.wrap (b2 - a1)) (4 : Int))) * (3 : Int)))))))
  (eY aA 0 (IntKind.i64.wrap (a1 + (IntKind.i64.wrap ((IntKind.i64.wrap (Int.tdiv (IntKind.i64.wrap (b2 - a1)) (4 : Int))) * (2 : Int))))))

noncomputable def dD  (aA : List Int) (i6 : Int) (j7 : Int) : Option ((List Int × Int × Int) ⊕ ((List Int))) :=
  cond (decide (i6 < j7))
  (bF (0 ≤ j7 ∧ j7 < ((List.length aA : Nat) : Int)) <|
  bF (0 ≤ i6 ∧ i6 < ((List.length aA : Nat) : Int)) <|
  bF (0 ≤ i6 ∧ i6 < ((List.length aA : Nat) : Int)) <|
  bF (0 ≤ j7 ∧ j7 < ((List.length aA : Nat) : Int)) <|
  some (.inl (List.set (List.set aA (Int.toNat i6) (List.getD aA (Int.toNat j7) default)) (Int.toNat j7) (List.getD aA (Int.toNat i6) default), IntKind.i64.wrap (i6 + (1 : Int)), IntKind.i64.wrap (j7 - (1 : Int)))))
  (some (.inr aA))

noncomputable def iZ (aA : List Int) (i6 : Int) (j7 : Int) : Option (List Int) :=
  (lp (fun s => dD s.1 s.2.1 s.2.2) (aA, i6, j7)).bind (fun rr => some rr)

noncomputable def gP (aA : (List Int)) (a1 : Int) (b2 : Int) : Option (List Int) :=
  iZ aA a1 (IntKind.i64.wrap (b2 - (1 : Int)))

noncomputable def eD (aA : List Int) : Option (Bool × List Int) :=
  some (false, aA)

noncomputable def dH (aA : List Int) (a1 : Int) (b2 : Int) (i7 : Int) (j8 : Int) : Option ((List Int × Int × Int) ⊕ ((List Int) ⊕ (Bool × (List Int)))) :=
  some (.inl (aA, i7, IntKind.i64.wrap (j8 + (1 : Int))))

noncomputable def cM (a1 : Int) (b2 : Int) (i7 : Int) (j8 : Int) (aA : List Int) (j10 : Int) : Option ((List Int × Int) ⊕ ((List Int))) :=
  cond (decide (j10 < b2))
  (bF (0 ≤ j10 ∧ j10 < ((List.length aA : Nat) : Int)) <|
  bF (0 ≤ (IntKind.i64.wrap (j10 - (1 : Int))) ∧ (IntKind.i64.wrap (j10 - (1 : Int))) < ((List.length aA : Nat) : Int)) <|
  (cZ (List.getD aA (Int.toNat j10) default) (List.getD aA (Int.toNat (IntKind.i64.wrap (j10 - (1 : Int)))) default)).bind fun x12 =>
  cond (!x12)
  (some (.inr aA))
  (bF (0 ≤ (IntKind.i64.wrap (j10 - (1 : Int))) ∧ (IntKind.i64.wrap (j10 - (1 : Int))) < ((List.length aA : Nat) : Int)) <|
  bF (0 ≤ j10 ∧ j10 < ((List.length aA : Nat) : Int)) <|
  bF (0 ≤ j10 ∧ j10 < ((List.length aA : Nat) : Int)) <|
  bF (0 ≤ (IntKind.i64.wrap (j10 - (1 : Int))) ∧ (IntKind.i64.wrap (j10 - (1 : Int))) < ((List.length aA : Nat) : Int)) <|
  some (.inl (List.set (List.set aA (Int.toNat j10) (List.getD aA (Int.toNat (IntKind.i64.wrap (j10 - (1 : Int)))) default)) (Int.toNat (IntKind.i64.wrap (j10 - (1 : Int)))) (List.getD aA (Int.toNat j10) default), IntKind.i64.wrap (j10 + (1 : Int))))))
  (some (.inr aA))

noncomputable def fO (aA : List Int) (a1 : Int) (b2 : Int) (i7 : Int) (j8 : Int) (j10 : Int) : Option ((List Int × Int × Int) ⊕ ((List Int) ⊕ (Bool × (List Int)))) :=
  (lp (fun s => cM a1 b2 i7 j8 s.1 s.2) (aA, j10)).bind (fun rr => dH rr a1 b2 i7 j8)

noncomputable def cF (aA : List Int) (a1 : Int) (b2 : Int) (i7 : Int) (j8 : Int) : Option ((List Int × Int × Int) ⊕ ((List Int) ⊕ (Bool × (List Int)))) :=
  cond (decide ((2 : Int) ≤ (IntKind.i64.wrap (b2 - i7))))
  (fO aA a1 b2 i7 j8 (IntKind.i64.wrap (i7 + (1 : Int))))
  (dH aA a1 b2 i7 j8)

noncomputable def cE (a1 : Int) (b2 : Int) (i7 : Int) (j8 : Int) (aA : List Int) (j9 : Int) : Option ((List Int × Int) ⊕ ((List Int))) :=
  cond (decide ((1 : Int) ≤ j9))
  (bF (0 ≤ j9 ∧ j9 < ((List.length aA : Nat) : Int)) <|
  bF (0 ≤ (IntKind.i64.wrap (j9 - (1 : Int))) ∧ (IntKind.i64.wrap (j9 - (1 : Int))) < ((List.length aA : Nat) : Int)) <|
  (cZ (List.getD aA (Int.toNat j9) default) (List.getD aA (Int.toNat (IntKind.i64.wrap (j9 - (1 : Int)))) default)).bind fun x24 =>
  cond (!x24)
  (some (.inr aA))
  (bF (0 ≤ (IntKind.i64.wrap (j9 - (1 : Int))) ∧ (IntKind.i64.wrap (j9 - (1 : Int))) < ((List.length aA : Nat) : Int)) <|
  bF (0 ≤ j9 ∧ j9 < ((List.length aA : Nat) : Int)) <|
  bF (0 ≤ j9 ∧ j9 < ((List.length aA : Nat) : Int)) <|
  bF (0 ≤ (IntKind.i64.wrap (j9 - (1 : Int))) ∧ (IntKind.i64.wrap (j9 - (1 : Int))) < ((List.length aA : Nat) : Int)) <|
  some (.inl (List.set (List.set aA (Int.toNat j9) (List.getD aA (Int.toNat (IntKind.i64.wrap (j9 - (1 : Int)))) default)) (Int.toNat (IntKind.i64.wrap (j9 - (1 : Int)))) (List.getD aA (Int.toNat j9) default), IntKind.i64.wrap (j9 - (1 : Int))))))
  (some (.inr aA))

noncomputable def fN (aA : List Int) (a1 : Int) (b2 : Int) (i7 : Int) (j8 : Int) (j9 : Int) : Option ((List Int × Int × Int) ⊕ ((List Int) ⊕ (Bool × (List Int)))) :=
  (lp (fun s => cE a1 b2 i7 j8 s.1 s.2) (aA, j9)).bind (fun rr => cF rr a1 b2 i7 j8)

noncomputable def eC (aA : List Int) (a1 : Int) (b2 : Int) (i7 : Int) (j8 : Int) : Option ((List Int × Int × Int) ⊕ ((List Int) ⊕ (Bool × (List Int)))) :=
  cond (decide (i7 = b2))
  (some (.inr (.inr (true, aA))))
  (cond (decide ((IntKind.i64.wrap (b2 - a1)) < (50 : Int)))
  (some (.inr (.inr (false, aA))))
  (bF (0 ≤ (IntKind.i64.wrap (i7 - (1 : Int))) ∧ (IntKind.i64.wrap (i7 - (1 : Int))) < ((List.length aA : Nat) : Int)) <|
  bF (0 ≤ i7 ∧ i7 < ((List.length aA : Nat) : Int)) <|
  bF (0 ≤ i7 ∧ i7 < ((List.length aA : Nat) : Int)) <|
  bF (0 ≤ (IntKind.i64.wrap (i7 - (1 : Int))) ∧ (IntKind.i64.wrap (i7 - (1 : Int))) < ((List.length aA : Nat) : Int)) <|
  cond (decide ((2 : Int) ≤ (IntKind.i64.wrap (i7 - a1))))
  (fN (List.set (List.set aA (Int.toNat i7) (List.getD aA (Int.toNat (IntKind.i64.wrap (i7 - (1 : Int)))) default)) (Int.toNat (IntKind.i64.wrap (i7 - (1 : Int)))) (List.getD aA (Int.toNat i7) default)) a1 b2 i7 j8 (IntKind.i64.wrap (i7 - (1 : Int))))
  (cF (List.set (List.set aA (Int.toNat i7) (List.getD aA (Int.toNat (IntKind.i64.wrap (i7 - (1 : Int)))) default)) (Int.toNat (IntKind.i64.wrap (i7 - (1 : Int)))) (List.getD aA (Int.toNat i7) default)) a1 b2 i7 j8)))

noncomputable def cN (a1 : Int) (b2 : Int) (j8 : Int) (aA : List Int) (i7 : Int) : Option ((List Int × Int) ⊕ ((List Int × Int))) :=
  bF ((((decide (i7 < b2))) = true → 0 ≤ i7 ∧ i7 < ((List.length aA : Nat) : Int))) <|
  bF ((((decide (i7 < b2))) = true → 0 ≤ (IntKind.i64.wrap (i7 - (1 : Int))) ∧ (IntKind.i64.wrap (i7 - (1 : Int))) < ((List.length aA : Nat) : Int))) <|
  (dG (decide (i7 < b2)) (cZ (List.getD aA (Int.toNat i7) default) (List.getD aA (Int.toNat (IntKind.i64.wrap (i7 - (1 : Int)))) default))).bind fun x34 =>
  cond ((decide (i7 < b2)) && (!x34))
  (some (.inl (aA, IntKind.i64.wrap (i7 + (1 : Int)))))
  (some (.inr (aA, i7)))

noncomputable def cW (aA : List Int) (a1 : Int) (b2 : Int) (i7 : Int) (j8 : Int) : Option ((List Int × Int × Int) ⊕ ((List Int) ⊕ (Bool × (List Int)))) :=
  (lp (fun s => cN a1 b2 j8 s.1 s.2) (aA, i7)).bind (fun rr => eC rr.1 a1 b2 rr.2 j8)

noncomputable def bU (a1 : Int) (b2 : Int) (aA : List Int) (i7 : Int) (j8 : Int) : Option ((List Int × Int × Int) ⊕ ((List Int) ⊕ (Bool × (List Int)))) :=
  cond (decide (j8 < (5 : Int)))
  (cW aA a1 b2 i7 j8)
  (some (.inr (.inl aA)))

noncomputable def fQ (aA : List Int) (a1 : Int) (b2 : Int) (i7 : Int) (j8 : Int) : Option (Bool × List Int) :=
  (lp (fun s => bU a1 b2 s.1 s.2.1 s.2.2) (aA, i7, j8)).bind (Sum.elim (fun rr => eD rr) (fun rr => some (rr.1, rr.2)))

noncomputable def eK (aA : (List Int)) (a1 : Int) (b2 : Int) : Option (Bool × List Int) :=
  fQ aA a1 b2 (IntKind.i64.wrap (a1 + (1 : Int))) (0 : Int)

noncomputable def iK (aA : List Int) (i9 : Int) : Option (Int × List Int) :=
  some (i9, aA)

noncomputable def dJ (aA : List Int) (a1 : Int) (i9 : Int) (j10 : Int) : Option ((List Int × Int × Int) ⊕ ((List Int × Int))) :=
  cond (decide (j10 < i9))
  (some (.inr (aA, i9)))
  (bF (0 ≤ j10 ∧ j10 < ((List.length aA : Nat) : Int)) <|
  bF (0 ≤ i9 ∧ i9 < ((List.length aA : Nat) : Int)) <|
  bF (0 ≤ i9 ∧ i9 < ((List.length aA : Nat) : Int)) <|
  bF (0 ≤ j10 ∧ j10 < ((List.length aA : Nat) : Int)) <|
  some (.inl (List.set (List.set aA (Int.toNat i9) (List.getD aA (Int.toNat j10) default)) (Int.toNat j10) (List.getD aA (Int.toNat i9) default), IntKind.i64.wrap (i9 + (1 : Int)), IntKind.i64.wrap (j10 - (1 : Int)))))

noncomputable def dL (a1 : Int) (i9 : Int) (aA : List Int) (j10 : Int) : Option ((List Int × Int) ⊕ ((List Int × Int))) :=
  bF ((((decide (i9 ≤ j10))) = true → 0 ≤ a1 ∧ a1 < ((List.length aA : Nat) : Int))) <|
  bF ((((decide (i9 ≤ j10))) = true → 0 ≤ j10 ∧ j10 < ((List.length aA : Nat) : Int))) <|
  (dG (decide (i9 ≤ j10)) (cZ (List.getD aA (Int.toNat a1) default) (List.getD aA (Int.toNat j10) default))).bind fun x12 =>
  cond ((decide (i9 ≤ j10)) && x12)
  (some (.inl (aA, IntKind.i64.wrap (j10 - (1 : Int)))))
  (some (.inr (aA, j10)))

noncomputable def iL (aA : List Int) (a1 : Int) (i9 : Int) (j10 : Int) : Option ((List Int × Int × Int) ⊕ ((List Int × Int))) :=
  (lp (fun s => dL a1 i9 s.1 s.2) (aA, j10)).bind (fun rr => dJ rr.1 a1 i9 rr.2)

noncomputable def fH (aA : List Int) (a1 : Int) (i9 : Int) (j10 : Int) : Option ((List Int × Int × Int) ⊕ ((List Int × Int))) :=
  iL aA a1 i9 j10

noncomputable def dN (a1 : Int) (j10 : Int) (aA : List Int) (i9 : Int) : Option ((List Int × Int) ⊕ ((List Int × Int))) :=
  bF ((((decide (i9 ≤ j10))) = true → 0 ≤ a1 ∧ a1 < ((List.length aA : Nat) : Int))) <|
  bF ((((decide (i9 ≤ j10))) = true → 0 ≤ i9 ∧ i9 < ((List.length aA : Nat) : Int))) <|
  (dG (decide (i9 ≤ j10)) (cZ (List.getD aA (Int.toNat a1) default) (List.getD aA (Int.toNat i9) default))).bind fun x18 =>
  cond ((decide (i9 ≤ j10)) && (!x18))
  (some (.inl (aA, IntKind.i64.wrap (i9 + (1 : Int)))))
  (some (.inr (aA, i9)))

noncomputable def iM (aA : List Int) (a1 : Int) (i9 : Int) (j10 : Int) : Option ((List Int × Int × Int) ⊕ ((List Int × Int))) :=
  (lp (fun s => dN a1 j10 s.1 s.2) (aA, i9)).bind (fun rr => fH rr.1 a1 rr.2 j10)

noncomputable def cQ (a1 : Int) (aA : List Int) (i9 : Int) (j10 : Int) : Option ((List Int × Int × Int) ⊕ ((List Int × Int))) :=
  iM aA a1 i9 j10

noncomputable def iN (aA : List Int) (a1 : Int) (i9 : Int) (j10 : Int) : Option (Int × List Int) :=
  (lp (fun s => cQ a1 s.1 s.2.1 s.2.2) (aA, i9, j10)).bind (fun rr => iK rr.1 rr.2)

noncomputable def eR (aA : (List Int)) (a1 : Int) (b2 : Int) (cG : Int) : Option (Int × List Int) :=
  bF (0 ≤ cG ∧ cG < ((List.length aA : Nat) : Int)) <|
  bF (0 ≤ a1 ∧ a1 < ((List.length aA : Nat) : Int)) <|
  bF (0 ≤ a1 ∧ a1 < ((List.length aA : Nat) : Int)) <|
  bF (0 ≤ cG ∧ cG < ((List.length aA : Nat) : Int)) <|
  iN (List.set (List.set aA (Int.toNat a1) (List.getD aA (Int.toNat cG) default)) (Int.toNat cG) (List.getD aA (Int.toNat a1) default)) a1 (IntKind.i64.wrap (a1 + (1 : Int))) (IntKind.i64.wrap (b2 - (1 : Int)))

noncomputable def iF (aA : List Int) (a1 : Int) (j11 : Int) : Option ((Int × Bool) × List Int) :=
  bF (0 ≤ a1 ∧ a1 < ((List.length aA : Nat) : Int)) <|
  bF (0 ≤ j11 ∧ j11 < ((List.length aA : Nat) : Int)) <|
  bF (0 ≤ j11 ∧ j11 < ((List.length aA : Nat) : Int)) <|
  bF (0 ≤ a1 ∧ a1 < ((List.length aA : Nat) : Int)) <|
  some ((j11, false), (List.set (List.set aA (Int.toNat j11) (List.getD aA (Int.toNat a1) default)) (Int.toNat a1) (List.getD aA (Int.toNat j11) default)))

noncomputable def eO (aA : List Int) (a1 : Int) (i10 : Int) (j11 : Int) : Option ((List Int × Int × Int) ⊕ ((List Int × Int))) :=
  cond (decide (j11 < i10))
  (some (.inr (aA, j11)))
  (bF (0 ≤ j11 ∧ j11 < ((List.length aA : Nat) : Int)) <|
  bF (0 ≤ i10 ∧ i10 < ((List.length aA : Nat) : Int)) <|
  bF (0 ≤ i10 ∧ i10 < ((List.length aA : Nat) : Int)) <|
  bF (0 ≤ j11 ∧ j11 < ((List.length aA : Nat) : Int)) <|
  some (.inl (List.set (List.set aA (Int.toNat i10) (List.getD aA (Int.toNat j11) default)) (Int.toNat j11) (List.getD aA (Int.toNat i10) default), IntKind.i64.wrap (i10 + (1 : Int)), IntKind.i64.wrap (j11 - (1 : Int)))))

noncomputable def eN (a1 : Int) (i10 : Int) (aA : List Int) (j11 : Int) : Option ((List Int × Int) ⊕ ((List Int × Int))) :=
  bF ((((decide (i10 ≤ j11))) = true → 0 ≤ j11 ∧ j11 < ((List.length aA : Nat) : Int))) <|
  bF ((((decide (i10 ≤ j11))) = true → 0 ≤ a1 ∧ a1 < ((List.length aA : Nat) : Int))) <|
  (dG (decide (i10 ≤ j11)) (cZ (List.getD aA (Int.toNat j11) default) (List.getD aA (Int.toNat a1) default))).bind fun x25 =>
  cond ((decide (i10 ≤ j11)) && (!x25))
  (some (.inl (aA, IntKind.i64.wrap (j11 - (1 : Int)))))
  (some (.inr (aA, j11)))

noncomputable def jQ (aA : List Int) (a1 : Int) (i10 : Int) (j11 : Int) : Option ((List Int × Int × Int) ⊕ ((List Int × Int))) :=
  (lp (fun s => eN a1 i10 s.1 s.2) (aA, j11)).bind (fun rr => eO rr.1 a1 i10 rr.2)

noncomputable def iD (aA : List Int) (a1 : Int) (i10 : Int) (j11 : Int) : Option ((List Int × Int × Int) ⊕ ((List Int × Int))) :=
  jQ aA a1 i10 j11

noncomputable def eM (a1 : Int) (j11 : Int) (aA : List Int) (i10 : Int) : Option ((List Int × Int) ⊕ ((List Int × Int))) :=
  bF ((((decide (i10 ≤ j11))) = true → 0 ≤ i10 ∧ i10 < ((List.length aA : Nat) : Int))) <|
  bF ((((decide (i10 ≤ j11))) = true → 0 ≤ a1 ∧ a1 < ((List.length aA : Nat) : Int))) <|
  (dG (decide (i10 ≤ j11)) (cZ (List.getD aA (Int.toNat i10) default) (List.getD aA (Int.toNat a1) default))).bind fun x31 =>
  cond ((decide (i10 ≤ j11)) && x31)
  (some (.inl (aA, IntKind.i64.wrap (i10 + (1 : Int)))))
  (some (.inr (aA, i10)))

noncomputable def jN (aA : List Int) (a1 : Int) (i10 : Int) (j11 : Int) : Option ((List Int × Int × Int) ⊕ ((List Int × Int))) :=
  (lp (fun s => eM a1 j11 s.1 s.2) (aA, i10)).bind (fun rr => iD rr.1 a1 rr.2 j11)

noncomputable def dB (a1 : Int) (aA : List Int) (i10 : Int) (j11 : Int) : Option ((List Int × Int × Int) ⊕ ((List Int × Int))) :=
  jN aA a1 i10 j11

noncomputable def jS (aA : List Int) (a1 : Int) (i10 : Int) (j11 : Int) : Option ((Int × Bool) × List Int) :=
  (lp (fun s => dB a1 s.1 s.2.1 s.2.2) (aA, i10, j11)).bind (fun rr => iF rr.1 a1 rr.2)

noncomputable def eH (aA : List Int) (a1 : Int) (i10 : Int) (j11 : Int) : Option ((Int × Bool) × List Int) :=
  cond (decide (j11 < i10))
  (bF (0 ≤ a1 ∧ a1 < ((List.length aA : Nat) : Int)) <|
  bF (0 ≤ j11 ∧ j11 < ((List.length aA : Nat) : Int)) <|
  bF (0 ≤ j11 ∧ j11 < ((List.length aA : Nat) : Int)) <|
  bF (0 ≤ a1 ∧ a1 < ((List.length aA : Nat) : Int)) <|
  some ((j11, true), (List.set (List.set aA (Int.toNat j11) (List.getD aA (Int.toNat a1) default)) (Int.toNat a1) (List.getD aA (Int.toNat j11) default))))
  (bF (0 ≤ j11 ∧ j11 < ((List.length aA : Nat) : Int)) <|
  bF (0 ≤ i10 ∧ i10 < ((List.length aA : Nat) : Int)) <|
  bF (0 ≤ i10 ∧ i10 < ((List.length aA : Nat) : Int)) <|
  bF (0 ≤ j11 ∧ j11 < ((List.length aA : Nat) : Int)) <|
  jS (List.set (List.set aA (Int.toNat i10) (List.getD aA (Int.toNat j11) default)) (Int.toNat j11) (List.getD aA (Int.toNat i10) default)) a1 (IntKind.i64.wrap (i10 + (1 : Int))) (IntKind.i64.wrap (j11 - (1 : Int))))

noncomputable def eJ (a1 : Int) (i10 : Int) (aA : List Int) (j11 : Int) : Option ((List Int × Int) ⊕ ((List Int × Int))) :=
  bF ((((decide (i10 ≤ j11))) = true → 0 ≤ j11 ∧ j11 < ((List.length aA : Nat) : Int))) <|
  bF ((((decide (i10 ≤ j11))) = true → 0 ≤ a1 ∧ a1 < ((List.length aA : Nat) : Int))) <|
  (dG (decide (i10 ≤ j11)) (cZ (List.getD aA (Int.toNat j11) default) (List.getD aA (Int.toNat a1) default))).bind fun x37 =>
  cond ((decide (i10 ≤ j11)) && (!x37))
  (some (.inl (aA, IntKind.i64.wrap (j11 - (1 : Int)))))
  (some (.inr (aA, j11)))

noncomputable def jP (aA : List Int) (a1 : Int) (i10 : Int) (j11 : Int) : Option ((Int × Bool) × List Int) :=
  (lp (fun s => eJ a1 i10 s.1 s.2) (aA, j11)).bind (fun rr => eH rr.1 a1 i10 rr.2)

noncomputable def iG (aA : List Int) (a1 : Int) (i10 : Int) (j11 : Int) : Option ((Int × Bool) × List Int) :=
  jP aA a1 i10 j11

noncomputable def eB (a1 : Int) (j11 : Int) (aA : List Int) (i10 : Int) : Option ((List Int × Int) ⊕ ((List Int × Int))) :=
  bF ((((decide (i10 ≤ j11))) = true → 0 ≤ i10 ∧ i10 < ((List.length aA : Nat) : Int))) <|
  bF ((((decide (i10 ≤ j11))) = true → 0 ≤ a1 ∧ a1 < ((List.length aA : Nat) : Int))) <|
  (dG (decide (i10 ≤ j11)) (cZ (List.getD aA (Int.toNat i10) default) (List.getD aA (Int.toNat a1) default))).bind fun x43 =>
  cond ((decide (i10 ≤ j11)) && x43)
  (some (.inl (aA, IntKind.i64.wrap (i10 + (1 : Int)))))
  (some (.inr (aA, i10)))

noncomputable def fD (aA : List Int) (a1 : Int) (i10 : Int) (j11 : Int) : Option ((Int × Bool) × List Int) :=
  (lp (fun s => eB a1 j11 s.1 s.2) (aA, i10)).bind (fun rr => iG rr.1 a1 rr.2 j11)

noncomputable def fT (aA : (List Int)) (a1 : Int) (b2 : Int) (cG : Int) : Option ((Int × Bool) × List Int) :=
  bF (0 ≤ cG ∧ cG < ((List.length aA : Nat) : Int)) <|
  bF (0 ≤ a1 ∧ a1 < ((List.length aA : Nat) : Int)) <|
  bF (0 ≤ a1 ∧ a1 < ((List.length aA : Nat) : Int)) <|
  bF (0 ≤ cG ∧ cG < ((List.length aA : Nat) : Int)) <|
  fD (List.set (List.set aA (Int.toNat a1) (List.getD aA (Int.toNat cG) default)) (Int.toNat cG) (List.getD aA (Int.toNat a1) default)) a1 (IntKind.i64.wrap (a1 + (1 : Int))) (IntKind.i64.wrap (b2 - (1 : Int)))

noncomputable def gF (rec : (List Int) → Int → Int → Int → Option (List Int)) (aA : List Int) (a1 : Int) (b2 : Int) (bW : Int) (bR : Bool) (bI : Bool) (dO : Int) (fI : Int) : Option ((List Int × Int × Int × Int × Bool × Bool) ⊕ ((List Int))) :=
  bF ((((decide ((0 : Int) < a1))) = true → 0 ≤ (IntKind.i64.wrap (a1 - (1 : Int))) ∧ (IntKind.i64.wrap (a1 - (1 : Int))) < ((List.length aA : Nat) : Int))) <|
  bF ((((decide ((0 : Int) < a1))) = true → 0 ≤ fI ∧ fI < ((List.length aA : Nat) : Int))) <|
  (dG (decide ((0 : Int) < a1)) (cZ (List.getD aA (Int.toNat (IntKind.i64.wrap (a1 - (1 : Int)))) default) (List.getD aA (Int.toNat fI) default))).bind fun x16 =>
  cond ((decide ((0 : Int) < a1)) && (!x16))
  ((eR aA a1 b2 fI).bind fun x20 =>
  some (.inl (x20.2, x20.1, b2, bW, bR, bI)))
  ((fT aA a1 b2 fI).bind fun x23 =>
  bF ((8 : Int) ≠ 0) <|
  cond (decide ((IntKind.i64.wrap (x23.1.1 - a1)) < (IntKind.i64.wrap (b2 - x23.1.1))))
  ((rec x23.2 a1 x23.1.1 bW).bind fun x28 =>
  some (.inl (x28, IntKind.i64.wrap (x23.1.1 + (1 : Int)), b2, bW, decide ((IntKind.i64.wrap (Int.tdiv dO (8 : Int))) ≤ (IntKind.i64.wrap (x23.1.1 - a1))), x23.1.2)))
  ((rec x23.2 (IntKind.i64.wrap (x23.1.1 + (1 : Int))) b2 bW).bind fun x31 =>
  some (.inl (x31, a1, x23.1.1, bW, decide ((IntKind.i64.wrap (Int.tdiv dO (8 : Int))) ≤ (IntKind.i64.wrap (b2 - x23.1.1))), x23.1.2))))

noncomputable def gH (rec : (List Int) → Int → Int → Int → Option (List Int)) (aA : List Int) (a1 : Int) (b2 : Int) (bW : Int) (bR : Bool) (bI : Bool) (dO : Int) (fI : Int) (yP : Int) : Option ((List Int × Int × Int × Int × Bool × Bool) ⊕ ((List Int))) :=
  cond ((bR && bI) && (decide (yP = (1 : Int))))
  ((eK aA a1 b2).bind fun x35 =>
  cond x35.1
  (some (.inr x35.2))
  (gF rec x35.2 a1 b2 bW bR bI dO fI))
  (gF rec aA a1 b2 bW bR bI dO fI)

noncomputable def gC (rec : (List Int) → Int → Int → Int → Option (List Int)) (aA : List Int) (a1 : Int) (b2 : Int) (bW : Int) (bR : Bool) (bI : Bool) (dO : Int) : Option ((List Int × Int × Int × Int × Bool × Bool) ⊕ ((List Int))) :=
  (gW aA a1 b2).bind fun x9 =>
  cond (decide (x9.2 = (2 : Int)))
  ((gP aA a1 b2).bind fun x40 =>
  gH rec x40 a1 b2 bW bR bI dO (IntKind.i64.wrap ((IntKind.i64.wrap (b2 - (1 : Int))) - (IntKind.i64.wrap (x9.1 - a1)))) (1 : Int))
  (gH rec aA a1 b2 bW bR bI dO x9.1 x9.2)

noncomputable def dZ (rec : (List Int) → Int → Int → Int → Option (List Int))  (aA : List Int) (a1 : Int) (b2 : Int) (bW : Int) (bR : Bool) (bI : Bool) : Option ((List Int × Int × Int × Int × Bool × Bool) ⊕ ((List Int))) :=
  cond (decide ((IntKind.i64.wrap (b2 - a1)) ≤ (12 : Int)))
  ((fY aA a1 b2).bind fun x2 =>
  some (.inr x2))
  (cond (decide (bW = (0 : Int)))
  ((iX aA a1 b2).bind fun x6 =>
  some (.inr x6))
  (cond (!bR)
  ((fW aA a1 b2).bind fun x44 =>
  gC rec x44 a1 b2 (IntKind.i64.wrap (bW - (1 : Int))) bR bI (IntKind.i64.wrap (b2 - a1)))
  (gC rec aA a1 b2 bW bR bI (IntKind.i64.wrap (b2 - a1)))))

noncomputable def kJ (rec : (List Int) → Int → Int → Int → Option (List Int)) (aA : List Int) (a1 : Int) (b2 : Int) (bW : Int) (bR : Bool) (bI : Bool) : Option (List Int) :=
  (lp (fun s => dZ rec s.1 s.2.1 s.2.2.1 s.2.2.2.1 s.2.2.2.2.1 s.2.2.2.2.2) (aA, a1, b2, bW, bR, bI)).bind (fun rr => some rr)

noncomputable def fG (rec : (List Int) → Int → Int → Int → Option (List Int)) (aA : (List Int)) (a1 : Int) (b2 : Int) (bW : Int) : Option (List Int) :=
  kJ rec aA a1 b2 bW true true

noncomputable def cY  : Nat → (List Int) → Int → Int → Int → Option (List Int)
  | 0 => fun _ _ _ _ => none
  | k + 1 => fG (cY k)

noncomputable def jB (aA : (List Int)) (a1 : Int) (b2 : Int) (bW : Int) : Option (List Int) := KQ (fun k => cY k aA a1 b2 bW)

noncomputable def jW (x0 : (List Int)) : Option (List Int) :=
  (jR (IntKind.u64.wrap ((List.length x0 : Nat) : Int))).bind fun x1 =>
  (jB x0 (0 : Int) ((List.length x0 : Nat) : Int) x1).bind fun x4 =>
  some x4

noncomputable def uR (f0 : (List aH)) : Option ((List aH)) :=
  some f0

noncomputable def lY {σ : Type} (cK : σ → aX → Option (σ × Bool)) (sg : σ) (n3 : Int) (jJ : Int) : Option σ :=
  cond (decide ((0 : Int) < n3))
  ((cK sg (aX.mk jJ (1125899906842624 : Int))).bind fun x2 =>
  some x2.1)
  (some sg)

noncomputable def kZ {σ : Type} (cK : σ → aX → Option (σ × Bool)) (sg : σ) (n3 : Int) (jJ : Int) (j6 : aH) (t7 : (List aH)) (t8 : Int) (t9 : Int) : Option ((σ × Int × Int × Int) ⊕ ((σ × Int × Int) ⊕ σ)) :=
  (AI (decide ((IntKind.i64.wrap (n3 + j6.Net)) = (0 : Int))) sg (cK sg (aX.mk jJ j6.At))).bind fun (x10, x11) =>
  cond ((decide ((IntKind.i64.wrap (n3 + j6.Net)) = (0 : Int))) && (!x11))
  (some (.inr (.inr x10)))
  (some (.inl (x10, IntKind.i64.wrap (n3 + j6.Net), jJ, IntKind.i64.wrap (t9 + (1 : Int)))))

noncomputable def fM {σ : Type} (cK : σ → aX → Option (σ × Bool)) (t7 : (List aH)) (t8 : Int) (sg : σ) (n3 : Int) (jJ : Int) (t9 : Int) : Option ((σ × Int × Int × Int) ⊕ ((σ × Int × Int) ⊕ σ)) :=
  cond (decide (t9 < t8))
  (bF (0 ≤ t9 ∧ t9 < ((List.length t7 : Nat) : Int)) <|
  cond (decide (n3 = (0 : Int)))
  (kZ cK sg n3 ((List.getD t7 (Int.toNat t9) default).At) (List.getD t7 (Int.toNat t9) default) t7 t8 t9)
  (kZ cK sg n3 jJ (List.getD t7 (Int.toNat t9) default) t7 t8 t9))
  (some (.inr (.inl (sg, n3, jJ))))

noncomputable def pL {σ : Type} (cK : σ → aX → Option (σ × Bool)) (sg : σ) (n3 : Int) (jJ : Int) (t7 : (List aH)) (t8 : Int) (t9 : Int) : Option σ :=
  (lp (fun s => fM cK t7 t8 s.1 s.2.1 s.2.2.1 s.2.2.2) (sg, n3, jJ, t9)).bind (Sum.elim (fun rr => lY cK rr.1 rr.2.1 rr.2.2) (fun rr => some rr))

noncomputable def nZ {σ : Type} (cK : σ → aX → Option (σ × Bool)) (t1 : (List aH)) (sg0 : σ) : Option σ :=
  pL cK sg0 (0 : Int) (0 : Int) t1 ((List.length t1 : Nat) : Int) (0 : Int)

noncomputable def rV (v5 : Int) : Option Int :=
  some v5

noncomputable def mB (t1 : Int) (t11 : (List aH)) (t12 : Int) (v5 : Int) (t13 : Int) : Option ((Int × Int) ⊕ (Int)) :=
  cond (decide (t13 < t12))
  (bF (0 ≤ t13 ∧ t13 < ((List.length t11 : Nat) : Int)) <|
  cond (decide (t1 < ((List.getD t11 (Int.toNat t13) default).At)))
  (some (.inr v5))
  (some (.inl (IntKind.i64.wrap (v5 + ((List.getD t11 (Int.toNat t13) default).Net)), IntKind.i64.wrap (t13 + (1 : Int))))))
  (some (.inr v5))

noncomputable def vO (t1 : Int) (v5 : Int) (t11 : (List aH)) (t12 : Int) (t13 : Int) : Option Int :=
  (lp (fun s => mB t1 t11 t12 s.1 s.2) (v5, t13)).bind (fun rr => rV rr)

noncomputable def vC (f0 : (List aH)) (t1 : Int) : Option Int :=
  (mX f0).bind fun x1 =>
  cond (!x1)
  (some (0 : Int))
  (vO t1 (0 : Int) f0 ((List.length f0 : Nat) : Int) (0 : Int))

noncomputable def rT (n5 : Int) : Option Int :=
  some n5

noncomputable def nB (w3 : aX) (n5 : Int) (t12 : (List aH)) (t13 : Int) (t14 : Int) : Option ((Int × Int) ⊕ (Int)) :=
  some (.inl (n5, IntKind.i64.wrap (t14 + (1 : Int))))

noncomputable def nC (w3 : aX) (t12 : (List aH)) (t13 : Int) (n5 : Int) (t14 : Int) : Option ((Int × Int) ⊕ (Int)) :=
  cond (decide (t14 < t13))
  (bF (0 ≤ t14 ∧ t14 < ((List.length t12 : Nat) : Int)) <|
  cond ((decide (w3.From < ((List.getD t12 (Int.toNat t14) default).At))) && (decide (((List.getD t12 (Int.toNat t14) default).At) < w3.To)))
  (nB w3 (IntKind.i64.wrap (n5 + (if (0 : Int) > ((List.getD t12 (Int.toNat t14) default).Net) then (0 : Int) else ((List.getD t12 (Int.toNat t14) default).Net)))) t12 t13 t14)
  (nB w3 n5 t12 t13 t14))
  (some (.inr n5))

noncomputable def rQ (w3 : aX) (n5 : Int) (t12 : (List aH)) (t13 : Int) (t14 : Int) : Option Int :=
  (lp (fun s => nC w3 t12 t13 s.1 s.2) (n5, t14)).bind (fun rr => rT rr)

noncomputable def pR (f0 : (List aH)) (w1 : aX) : Option Int :=
  (vC f0 w1.From).bind fun x1 =>
  rQ w1 x1 f0 ((List.length f0 : Nat) : Int) (0 : Int)

noncomputable def shP (a b : Nat) (p : aR) : List (Nat × Nat × List V) := [(a, 3, [(.agg [(eI p.Span.From), (eI p.Span.To), (.msl 2 b 0 (List.length p.Rows))])]), (b, 2, List.map kW p.Rows)]

noncomputable def shF (a _b : Nat) (p : aR) : List (Nat × Nat × List V) := [(a, 3, [(aW p)])]

noncomputable def mN (r : List aE) (f : List aH) (p : aR) : Option aR :=
  bF ((!(decide ((wR ((lN p.Rows) - (1 : Int))) < (0 : Int)))) = true → 0 ≤ (wR ((lN p.Rows) - (1 : Int))) ∧ (wR ((lN p.Rows) - (1 : Int))) < (lN p.Rows)) <|
  (dG (!(decide ((wR ((lN p.Rows) - (1 : Int))) < (0 : Int)))) (pI ((gD p.Rows (wR ((lN p.Rows) - (1 : Int)))).Row) r)).bind fun x1 =>
  cond ((decide ((wR ((lN p.Rows) - (1 : Int))) < (0 : Int))) || (!x1))
  ((sB r).bind fun x2 =>
  (pR f p.Span).bind fun x3 =>
  bF ((List.length p.Rows + List.length ([hY.mk x2 x3])) * 32 ≤ 140737488355328 ∧ List.length p.Rows + List.length ([hY.mk x2 x3]) ≤ 9223372036854775807) <|
  some (aR.mk p.Span (p.Rows ++ [hY.mk x2 x3])))
  (some p)

noncomputable def lP (r : List aE) (f : List aH) (size : Int) (b : Bool) (m : List (Int × aR)) (t : Int) : Option ((Bool × List (Int × aR)) ⊕ (Bool × List (Int × aR))) :=
  match fA m t with
  | none => cond (decide ((lN m) = (1024 : Int)))
    (some (.inr (false, m)))
    ((mN r f (aR.mk (aX.mk t (if (1125899906842624 : Int) < (wR (t + size)) then (1125899906842624 : Int) else (wR (t + size)))) [])).bind fun p => some (.inl (b, gE m t p)))
  | some p => (mN r f p).bind fun p => some (.inl (b, gE m t p))

noncomputable def mO (r : List aE) (f : List aH) (size hop frm front : Int) (b : Bool) (m : List (Int × aR)) (s : aX) : Option ((Bool × List (Int × aR)) ⊕ (Bool × List (Int × aR))) :=
  (oO size hop s frm front).bind fun x =>
  (lW (fun st t => rnd (fun (q : Bool × List (Int × aR)) => lP r f size q.1 q.2 t) st) x.1 x.2.1 x.2.2.1 x.2.2.2.1 x.2.2.2.2 (.inl (b, m))).bind (Sum.elim (fun q => some (.inl q)) (fun q => some (.inr q)))

noncomputable def rH (m : List (Int × aR)) (r : List aE) (f : List aH) (size hop frm front : Int) : Option (Bool × List (Int × aR)) :=
  (uR f).bind fun x =>
  (nZ (fun st s => rnd (fun (q : Bool × List (Int × aR)) => mO r f size hop frm front q.1 q.2 s) st) x (.inl (false, m))).bind (Sum.elim (fun q => some (true, q.2)) (fun q => some (q.1, q.2)))

noncomputable def lH (size hop frm front : Int) (t10 : List aR) (t11 : Int) (m : List (Int × aR)) (r : List aE) (f : List aH) : Option ((List aR × Int × List (Int × aR)) ⊕ (List aR × Int × List (Int × aR))) :=
  (rH m r f size hop frm front).bind fun x =>
  cond (!x.1)
  (some (.inr ([], (7 : Int), x.2)))
  (some (.inl (t10, t11, x.2)))

noncomputable def oQ (m : List (Int × aR)) (b : List Int) (n : Int) (out : List aR) (i : Int) : Option ((List aR × Int) ⊕ (List aR)) :=
  cond (decide (i < n))
  (bF (0 ≤ i ∧ i < (lN b)) <|
  match fA m (gD b i) with
  | none => none
  | some p =>
    bF ((List.length out + List.length ([p])) * 40 ≤ 140737488355328 ∧ List.length out + List.length ([p]) ≤ 9223372036854775807) <|
    some (.inl (out ++ [p], wR (i + (1 : Int)))))
  (some (.inr out))

noncomputable def wM (m : List (Int × aR)) (b : List Int) : Option (List aR × Int) :=
  (jW b).bind fun b =>
  bF (0 ≤ (lN b) ∧ (40 : Int) * (lN b) ≤ 281474976710656 ∧ (lN b) ≤ 9223372036854775807) <|
  (lp (fun s => oQ m b (lN b) s.1 s.2) (([] : List aR), (0 : Int))).bind fun out => some (out, (0 : Int))

noncomputable def oW (s : List Int) (k : Int) : Option (List Int) :=
  bF ((List.length s + List.length ([k])) * 8 ≤ 140737488355328 ∧ List.length s + List.length ([k]) ≤ 9223372036854775807) <|
  some (s ++ [k])

noncomputable def rG (m : List (Int × aR)) : Option (List aR × Int) :=
  bF (0 ≤ (lN m) ∧ (8 : Int) * (lN m) ≤ 281474976710656 ∧ (lN m) ≤ 9223372036854775807) <|
  rC (m.map (·.1)) (fun q => (dF oW ([] : List Int) q).bind (wM m))

noncomputable def wL (l : List bH) (size hop frm front : Int) (t10 : List aR) (t11 : Int) : Option (List aR × Int) :=
  (sZ l).bind fun x =>
  (mV (fun st r f => rnd (fun (q : List aR × Int × List (Int × aR)) => lH size hop frm front q.1 q.2.1 q.2.2 r f) st) x (.inl (t10, t11, []))).bind (Sum.elim (fun q => rG q.2.2) (fun q => some (q.1, q.2.1)))

noncomputable def sM (l0 : (List bH)) (nV : Int) (hop2 : Int) (cD : Int) (bV : Int) : Option ((List aR) × Int) :=
  (oX nV hop2).bind fun x3 =>
  (dG (!(!x3)) (rS l0)).bind fun x6 =>
  cond ((!x3) || (!x6))
  (some ([], (2 : Int)))
  ((rO l0).bind fun x10 =>
  cond (!x10)
  (some ([], (20 : Int)))
  ((mA cD).bind fun x14 =>
  (dG (!(!x14)) (mA bV)).bind fun x17 =>
  cond ((!x14) || (!x17))
  (some ([], (13 : Int)))
  (wL l0 nV hop2 cD bV ([]) 0)))

noncomputable def rE  : Option Bool :=
  (tL (10 : Int) (5 : Int) (12 : Int)).bind fun x1 =>
  (oG (10 : Int) (5 : Int) (aX.mk (3 : Int) (7 : Int)) (0 : Int) (100 : Int)).bind fun x4 =>
  (sM ([bH.mk ([aE.mk (1 : Int) (1 : Int) ByteArray.empty]) (3 : Int) (1 : Int), bH.mk ([aE.mk (1 : Int) (1 : Int) ByteArray.empty]) (7 : Int) (-1 : Int)]) (10 : Int) (5 : Int) (0 : Int) (100 : Int)).bind fun x7 =>
  bF (((((((decide (x1.1 = (5 : Int))) && (decide (x1.2 = (0 : Int)))) && (decide (x4.2 = (0 : Int)))) && (decide (((List.length x4.1 : Nat) : Int) = (2 : Int))))) = true → 0 ≤ (1 : Int) ∧ (1 : Int) < ((List.length x4.1 : Nat) : Int))) <|
  bF ((((((((((decide (x1.1 = (5 : Int))) && (decide (x1.2 = (0 : Int)))) && (decide (x4.2 = (0 : Int)))) && (decide (((List.length x4.1 : Nat) : Int) = (2 : Int)))) && (decide ((List.getD x4.1 (Int.toNat (1 : Int)) default) = (5 : Int)))) && (decide (x7.2 = (0 : Int)))) && (decide (((List.length x7.1 : Nat) : Int) = (2 : Int))))) = true → 0 ≤ (1 : Int) ∧ (1 : Int) < ((List.length x7.1 : Nat) : Int))) <|
  bF (((((((((((decide (x1.1 = (5 : Int))) && (decide (x1.2 = (0 : Int)))) && (decide (x4.2 = (0 : Int)))) && (decide (((List.length x4.1 : Nat) : Int) = (2 : Int)))) && (decide ((List.getD x4.1 (Int.toNat (1 : Int)) default) = (5 : Int)))) && (decide (x7.2 = (0 : Int)))) && (decide (((List.length x7.1 : Nat) : Int) = (2 : Int)))) && ((decide ((((List.getD x7.1 (Int.toNat (1 : Int)) default).Span).From) = ((aX.mk (5 : Int) (15 : Int)).From))) && ((decide ((((List.getD x7.1 (Int.toNat (1 : Int)) default).Span).To) = ((aX.mk (5 : Int) (15 : Int)).To))) && true)))) = true → 0 ≤ (1 : Int) ∧ (1 : Int) < ((List.length x7.1 : Nat) : Int))) <|
  some (((((((((decide (x1.1 = (5 : Int))) && (decide (x1.2 = (0 : Int)))) && (decide (x4.2 = (0 : Int)))) && (decide (((List.length x4.1 : Nat) : Int) = (2 : Int)))) && (decide ((List.getD x4.1 (Int.toNat (1 : Int)) default) = (5 : Int)))) && (decide (x7.2 = (0 : Int)))) && (decide (((List.length x7.1 : Nat) : Int) = (2 : Int)))) && ((decide ((((List.getD x7.1 (Int.toNat (1 : Int)) default).Span).From) = ((aX.mk (5 : Int) (15 : Int)).From))) && ((decide ((((List.getD x7.1 (Int.toNat (1 : Int)) default).Span).To) = ((aX.mk (5 : Int) (15 : Int)).To))) && true))) && (decide (((List.length ((List.getD x7.1 (Int.toNat (1 : Int)) default).Rows) : Nat) : Int) = (1 : Int))))

noncomputable def oA (fB : List Int) : Option ((List Int) × Int) :=
  some (fB, (0 : Int))

noncomputable def lF (bT : Int) (hop1 : Int) (cD : Int) (bV : Int) (s7 : aX) (fB : List Int) (t14 : Int) : Option ((List Int × Int) ⊕ ((List Int) ⊕ ((List Int) × Int))) :=
  cond (decide ((1024 : Int) < ((List.length fB : Nat) : Int)))
  (some (.inr (.inr ([], (7 : Int)))))
  (some (.inl (fB, IntKind.i64.wrap (t14 + hop1))))

noncomputable def dX (bT : Int) (hop1 : Int) (cD : Int) (bV : Int) (s7 : aX) (fB : List Int) (t14 : Int) : Option ((List Int × Int) ⊕ ((List Int) ⊕ ((List Int) × Int))) :=
  cond (((decide (t14 < bV)) && (decide (t14 < s7.To))) && (decide (t14 < (1125899906842624 : Int))))
  ((dG (decide (cD ≤ t14)) (sP bT t14)).bind fun x21 =>
  cond ((decide (cD ≤ t14)) && (decide (s7.From < x21)))
  (bF ((List.length fB + List.length ([t14])) * 8 ≤ 140737488355328 ∧ List.length fB + List.length ([t14]) ≤ 9223372036854775807) <|
  lF bT hop1 cD bV s7 (fB ++ ([t14])) t14)
  (lF bT hop1 cD bV s7 fB t14))
  (some (.inr (.inl fB)))

noncomputable def qP (bT : Int) (hop1 : Int) (cD : Int) (bV : Int) (s7 : aX) (fB : List Int) (t14 : Int) : Option ((List Int) × Int) :=
  (lp (fun s => dX bT hop1 cD bV s7 s.1 s.2) (fB, t14)).bind (Sum.elim (fun rr => oA rr) (fun rr => some (rr.1, rr.2)))

noncomputable def mL (bT : Int) (hop1 : Int) (cD : Int) (bV : Int) (s7 : aX) (xD : Int) : Option ((List Int) × Int) :=
  bF (hop1 ≠ 0) <|
  qP bT hop1 cD bV s7 ([] : List Int) (IntKind.i64.wrap ((IntKind.i64.wrap (Int.tdiv xD hop1)) * hop1))

noncomputable def oM (bT : Int) (hop1 : Int) (s2 : aX) (cD : Int) (bV : Int) : Option ((List Int) × Int) :=
  (sJ bT hop1).bind fun x1 =>
  cond (!x1)
  (some ([], (2 : Int)))
  ((oJ cD).bind fun x5 =>
  (dG (!(!x5)) (oJ bV)).bind fun x8 =>
  cond ((!x5) || (!x8))
  (some ([], (13 : Int)))
  (cond (((decide (s2.From < (-1 : Int))) || (decide (s2.To ≤ s2.From))) || (decide ((1125899906842624 : Int) < s2.To)))
  (some ([], (14 : Int)))
  (cond (decide ((IntKind.i64.wrap (s2.From - bT)) < cD))
  (mL bT hop1 cD bV s2 cD)
  (mL bT hop1 cD bV s2 (IntKind.i64.wrap (s2.From - bT))))))

noncomputable def oU  : Option Bool :=
  some true

noncomputable def nD (a0 : (List Int)) (b1 : (List Int)) (i5 : Int) : Option ((Int) ⊕ (Unit ⊕ Bool)) :=
  cond (decide (i5 < ((List.length a0 : Nat) : Int)))
  (bF (0 ≤ i5 ∧ i5 < ((List.length a0 : Nat) : Int)) <|
  bF (0 ≤ i5 ∧ i5 < ((List.length b1 : Nat) : Int)) <|
  cond (!decide ((List.getD a0 (Int.toNat i5) default) = (List.getD b1 (Int.toNat i5) default)))
  (some (.inr (.inr false)))
  (some (.inl (IntKind.i64.wrap (i5 + (1 : Int))))))
  (some (.inr (.inl ())))

noncomputable def sD (a0 : (List Int)) (b1 : (List Int)) (i5 : Int) : Option Bool :=
  (lp (fun s => nD a0 b1 s) i5).bind (Sum.elim (fun rr => oU ) (fun rr => some rr))

noncomputable def pX (a0 : (List Int)) (b1 : (List Int)) : Option Bool :=
  cond (!decide (((List.length a0 : Nat) : Int) = ((List.length b1 : Nat) : Int)))
  (some false)
  (sD a0 b1 (0 : Int))

noncomputable def oD (bT : Int) (zC : Int) (s2 : aX) (cD : Int) (bV : Int) : Option Bool :=
  (oG bT zC s2 cD bV).bind fun x1 =>
  (oM bT zC s2 cD bV).bind fun x4 =>
  (rE ).bind fun x7 =>
  (dG (x7 && (decide (x1.2 = x4.2))) (pX x1.1 x4.1)).bind fun x10 =>
  some ((x7 && (decide (x1.2 = x4.2))) && x10)

end Go.Abs
namespace Go.Abs
open Go Go.RowKit
def uO (x : aX) : Prop := xU x.From ∧ xU x.To ∧ True

end Go.Abs
namespace Go.Abs
open Go Go.RowKit Go.Proofs
noncomputable def tt : TT := ⟨PZ Try.prog, KJ Try.prog⟩

theorem aC : fS Try.prog tt := fS.of Try.prog

theorem BB (bT : Int) (hop1 : Int) (r : Bool) (h0 : oX bT hop1 = some r) : dU Try.prog 24 [(eI bT), (eI hop1)] (aB r) := by
  intro H0
  refine dQ Try.func24 ?_
  have hO := aJ.start H0
  unfold oX at h0
  refine aS aC 1 [] [] ?_
  refine cO aC 15 [(4, (aB ((((decide ((1 : Int) ≤ bT)) && (decide (bT ≤ (1099511627776 : Int)))) && (decide ((1 : Int) ≤ hop1))) && (decide (hop1 ≤ (1099511627776 : Int))))))] ?_
  refine bL ?_
  obtain rfl := oI h0
  exact aD (Q_r hO)

theorem tV (t0 : Int) (r : Bool) (h0 : mA t0 = some r) : dU Try.prog 25 [(eI t0)] (aB r) := by
  intro H0
  refine dQ Try.func25 ?_
  have hO := aJ.start H0
  unfold mA at h0
  refine aS aC 1 [] [] ?_
  refine cO aC 7 [(2, (aB ((decide ((0 : Int) ≤ t0)) && (decide (t0 ≤ (1125899906842624 : Int))))))] ?_
  refine bL ?_
  obtain rfl := oI h0
  exact aD (Q_r hO)

theorem NK (a0 : Int) (b1 : Int) (r : (Int × Int × Int)) (h0 : sN a0 b1 = some r) : dU Try.prog 53 [(eI a0), (eI b1)] (.tup [(eI r.1), (eI r.2.1), (eI r.2.2)]) := by
  intro H0
  refine dQ Try.func53 ?_
  have hO := aJ.start H0
  unfold sN at h0
  refine aS aC 3 [] [] ?_
  refine aM ?_
  refine aS aC 2 [] [(10, (aB (decide (b1 < (1 : Int)))))] ?_
  refine bP h0 (fun h0 => ?_) (fun h0 => ?_)
  · refine cO aC 3 [(4, (eI (0 : Int))), (5, (eI (0 : Int))), (6, (eI (2 : Int)))] ?_
    refine bL ?_
    obtain rfl := oI h0
    exact aD (aP (Q_r hO))
  refine bQ ?_
  refine bE [(0, (eI a0)), (1, (eI b1))] ?_
  refine aM ?_
  refine gQ (gM []) aC 8 ?_
  obtain ⟨c2, h0⟩ := aY h0
  obtain ⟨c3, h0⟩ := aY h0
  refine FI (Ds := [b1 ≠ 0, b1 ≠ 0]) (by kernel_rfl) ⟨c2, c3, trivial⟩ ?_
  refine cC [0] [(7, (eI (wR (Int.tdiv a0 b1)))), (8, (eI (Int.tmod a0 b1)))] ?_
  refine iR (fun T H => ∃ q7 : Int, ∃ r8 : Int, Has T [(7, (eI q7)), (8, (eI r8))] ∧ aJ ⟨H0, [], []⟩ H [] ∧ rM q7 r8 = some r) ?_ ?_
  · clear hO h0
    rintro T H ⟨q7, r8, hT, hO, h0⟩
    refine bM hT ?_
    clear hT
    unfold rM at h0
    refine cO aC 5 [(4, (eI q7)), (5, (eI r8)), (6, (eI (0 : Int)))] ?_
    refine bL ?_
    obtain rfl := oI h0
    exact aD (Q_r hO)
  refine aS aC 2 [] [(18, (aB (decide ((Int.tmod a0 b1) < (0 : Int)))))] ?_
  refine bP h0 (fun h0 => ?_) (fun h0 => ?_)
  · refine aQ aC 7 ?_
    refine bC ?_
    exact aD (aF (⟨rfl, _, _, .eq (by kernel_rfl), hO, h0⟩))
  refine bQ ?_
  exact aD (aF (⟨rfl, _, _, .eq (by kernel_rfl), hO, h0⟩))

theorem wK (hop0 : Int) (n1 : Int) (r : Int) (h0 : nE hop0 n1 = some r) : dU Try.prog 26 [(eI hop0), (eI n1)] (eI r) := by
  intro H0
  refine dQ Try.func26 ?_
  have hO := aJ.start H0
  unfold nE at h0
  refine aS aC 1 [] [] ?_
  refine aM ?_
  refine aS aC 2 [] [(9, (aB (decide (n1 < (0 : Int)))))] ?_
  refine bP h0 (fun h0 => ?_) (fun h0 => ?_)
  · refine cO aC 1 [(4, (eI (0 : Int)))] ?_
    refine bL ?_
    obtain rfl := oI h0
    exact aD (aP (Q_r hO))
  refine bQ ?_
  refine bE [(0, (eI hop0)), (1, (eI n1))] ?_
  refine aM ?_
  refine aQ aC 10 ?_
  refine bO 2 ?_
  obtain ⟨x2, hx3, h0⟩ := aT h0
  refine fC (NK n1 hop0 _ hx3) hO ?_
  intro H hO
  refine bC ?_
  refine cC [1] [(5, (eI x2.1))] ?_
  refine cO aC 5 [(4, (eI (wR ((wR (x2.1 + (1 : Int))) * hop0))))] ?_
  refine bL ?_
  obtain rfl := oI h0
  exact aD (Q_r hO)

theorem QF (bT : Int) (hop1 : Int) (t2 : Int) (r : (Int × Int)) (h0 : tL bT hop1 t2 = some r) : dU Try.prog 9 [(eI bT), (eI hop1), (eI t2)] (.tup [(eI r.1), (eI r.2)]) := by
  intro H0
  refine dQ Try.func9 ?_
  have hO := aJ.start H0
  unfold tL at h0
  refine aS aC 2 [] [] ?_
  refine aM ?_
  refine cI 0 ?_
  refine aM ?_
  refine aQ aC 5 ?_
  refine bO 2 ?_
  obtain ⟨x1, hx2, h0⟩ := aT h0
  refine fC (BB bT hop1 _ hx2) hO ?_
  intro H hO
  refine bC ?_
  refine cC [] [(8, (aB (!x1)))] ?_
  refine bP h0 (fun h0 => ?_) (fun h0 => ?_)
  · refine cO aC 2 [(6, (eI (0 : Int))), (7, (eI (2 : Int)))] ?_
    refine bL ?_
    obtain rfl := oI h0
    exact aD (bG (aP (Q_r hO)))
  refine aM ?_
  refine aQ aC 4 ?_
  refine bO 1 ?_
  obtain ⟨x5, hx6, h0⟩ := aT h0
  refine fC (tV t2 _ hx6) hO ?_
  intro H hO
  refine bC ?_
  refine cC [8] [(13, (aB (!x5)))] ?_
  refine bP h0 (fun h0 => ?_) (fun h0 => ?_)
  · refine cO aC 2 [(6, (eI (0 : Int))), (7, (eI (13 : Int)))] ?_
    refine bL ?_
    obtain rfl := oI h0
    exact aD (bG (aP (Q_r hO)))
  refine aS aC 3 [13] [(17, (aB (decide (t2 = (1125899906842624 : Int)))))] ?_
  refine bP h0 (fun h0 => ?_) (fun h0 => ?_)
  · refine cO aC 2 [(6, (eI (1125899906842624 : Int))), (7, (eI (0 : Int)))] ?_
    refine bL ?_
    obtain rfl := oI h0
    exact aD (bG (aP (Q_r hO)))
  refine bQ ?_
  refine gT [(0, (eI bT)), (1, (eI hop1)), (2, (eI t2))] ?_
  refine aD (aU (aF (?_)))
  refine aM ?_
  refine aQ aC 8 ?_
  refine bO 4 ?_
  obtain ⟨x10, hx11, h0⟩ := aT h0
  refine fC (wK hop1 (wR (t2 - bT)) _ hx11) hO ?_
  intro H hO
  refine bC ?_
  refine bE [(6, (eI (if (1125899906842624 : Int) < x10 then (1125899906842624 : Int) else x10))), (7, (eI (0 : Int)))] ?_
  refine bL ?_
  obtain rfl := oI h0
  exact aD (Q_r hO)

theorem NV (bT : Int) (hop1 : Int) (r : Bool) (h0 : sJ bT hop1 = some r) : dU Try.prog 27 [(eI bT), (eI hop1)] (aB r) := by
  intro H0
  refine dQ Try.func27 ?_
  have hO := aJ.start H0
  unfold sJ at h0
  refine aS aC 1 [] [] ?_
  refine cO aC 15 [(4, (aB ((((decide ((0 : Int) < bT)) && (decide (bT ≤ (1099511627776 : Int)))) && (decide ((0 : Int) < hop1))) && (decide (hop1 ≤ (1099511627776 : Int))))))] ?_
  refine bL ?_
  obtain rfl := oI h0
  exact aD (Q_r hO)

theorem AE (t0 : Int) (r : Bool) (h0 : oJ t0 = some r) : dU Try.prog 28 [(eI t0)] (aB r) := by
  intro H0
  refine dQ Try.func28 ?_
  have hO := aJ.start H0
  unfold oJ at h0
  refine aS aC 1 [] [] ?_
  refine cO aC 7 [(2, (aB ((decide ((0 : Int) ≤ t0)) && (decide (t0 ≤ (1125899906842624 : Int))))))] ?_
  refine bL ?_
  obtain rfl := oI h0
  exact aD (Q_r hO)

theorem MY (bT : Int) (t1 : Int) (r : Int) (h0 : sP bT t1 = some r) : dU Try.prog 29 [(eI bT), (eI t1)] (eI r) := by
  intro H0
  refine dQ Try.func29 ?_
  have hO := aJ.start H0
  unfold sP at h0
  refine aS aC 1 [] [] ?_
  refine aM ?_
  refine aS aC 4 [] [(8, (aB (decide ((1125899906842624 : Int) < (wR (t1 + bT))))))] ?_
  refine bP h0 (fun h0 => ?_) (fun h0 => ?_)
  · refine cO aC 1 [(4, (eI (1125899906842624 : Int)))] ?_
    refine bL ?_
    obtain rfl := oI h0
    exact aD (aP (Q_r hO))
  refine bQ ?_
  refine bE [(0, (eI bT)), (1, (eI t1))] ?_
  refine cO aC 4 [(4, (eI (wR (t1 + bT))))] ?_
  refine bL ?_
  obtain rfl := oI h0
  exact aD (Q_r hO)

theorem BW (bT : Int) (hop1 : Int) (s2 : aX) (cD : Int) (bV : Int) (r : (Int × aX × Int × Int × Int)) (h0 : oO bT hop1 s2 cD bV = some r) : dU Try.prog 30 [(eI bT), (eI hop1), (bD s2), (eI cD), (eI bV)] (.fn (.func 54) [] [(.rp (eI r.1)), (.rp (bD r.2.1)), (.rp (eI r.2.2.1)), (.rp (eI r.2.2.2.1)), (.rp (eI r.2.2.2.2))]) := by
  intro H0
  refine dQ Try.func30 ?_
  have hO := aJ.start H0
  unfold oO at h0
  refine aM ?_
  refine aQ aC 6 ?_
  refine fX 1 (eI bT) (by kernel_rfl) (by kernel_rfl) ?_
  refine fX 1 (eI hop1) (by kernel_rfl) (by kernel_rfl) ?_
  refine fX 2 (bD s2) (by kernel_rfl) (by kernel_rfl) ?_
  refine fX 1 (eI cD) (by kernel_rfl) (by kernel_rfl) ?_
  refine fX 1 (eI bV) (by kernel_rfl) (by kernel_rfl) ?_
  refine bC ?_
  refine bE [(5, (.rp (eI bT))), (6, (.rp (eI hop1))), (7, (.rp (bD s2))), (8, (.rp (eI cD))), (9, (.rp (eI bV)))] ?_
  refine cO aC 2 [(10, (.fn (.func 54) [] [(.rp (eI hop1)), (.rp (bD s2)), (.rp (eI bT)), (.rp (eI cD)), (.rp (eI bV))]))] ?_
  refine bL ?_
  obtain rfl := oI h0
  exact aD (lG (x := (.fn (.func 54) [] [(.rp (eI hop1)), (.rp (bD s2)), (.rp (eI bT)), (.rp (eI cD)), (.rp (eI bV))])) (by kernel_rfl) (aL.refl _) ⟨rfl, hO.out⟩)

theorem wP {σ : Type} (I : σ → Gs → Prop) (yield0_b : Nat) (cK : σ → Int → Option (σ × Bool)) (yield0_h : ∀ st a0 st2 r, cK st a0 = some (st2, r) → vU Try.prog (yv yield0_b) I st [(eI a0)] st2 (aB r)) (t1 : Int) (t2 : aX) (t3 : Int) (t4 : Int) (t5 : Int) (sg0 : σ) (r : σ) (h0 : lW cK t1 t2 t3 t4 t5 sg0 = some r) : tA Try.prog 54 I sg0 [(yv yield0_b), (.rp (eI t1)), (.rp (bD t2)), (.rp (eI t3)), (.rp (eI t4)), (.rp (eI t5))] r (.tup []) := by
  intro H0 G0 hI hg
  refine dQ Try.func54 ?_
  obtain ⟨G, hO, hI⟩ : ∃ G, aJ ⟨H0, List.map (fun p : Nat × cV => p.1) G0, G⟩ H0 [] ∧ I sg0 G := ⟨G0, aJ.yC hg, hI⟩
  clear hg
  unfold lW at h0
  refine aM ?_
  refine gQ (gM [9, 11, 12, 14, 15, 16, 18]) aC 12 ?_
  refine lC 5 ?_
  obtain ⟨x1, hx2, h0⟩ := aT h0
  refine xT (wK t1 (wR (t2.From - t3)) _ hx2) hO ?_
  intro H hO
  refine lC 9 ?_
  obtain ⟨x4, hx5, h0⟩ := aT h0
  refine xT (wK t1 (wR (t4 - (1 : Int))) _ hx5) hO ?_
  intro H hO
  refine kT ?_
  refine cC [3, 4] [(7, (eI (if x4 > x1 then x4 else x1)))] ?_
  refine aS aC 2 [7] [(8, (eI (if x4 > x1 then x4 else x1)))] ?_
  refine cI 0 ?_
  refine iA [(0, (yv yield0_b)), (1, (.rp (eI t1))), (2, (.rp (bD t2))), (5, (.rp (eI t5))), (8, (eI (if x4 > x1 then x4 else x1)))] ?_
  refine gY (fun T H => ∃ sg : σ, ∃ t8 : Int, ∃ G : Gs, Has T [(0, (yv yield0_b)), (1, (.rp (eI t1))), (2, (.rp (bD t2))), (5, (.rp (eI t5))), (8, (eI t8))] ∧ aJ ⟨H0, List.map (fun p : Nat × cV => p.1) G0, G⟩ H [] ∧ I sg G ∧ mR cK sg t1 t2 t5 t8 = some r) ?_ ⟨sg0, if x4 > x1 then x4 else x1, G, .eq (by kernel_rfl), hO, hI, h0⟩
  clear hO hI h0
  rintro T H ⟨sg, t8, G, hT, hO, hI, h0⟩
  refine bM hT ?_
  clear hT
  unfold mR at h0
  obtain ⟨rr0, hl0, h0⟩ := aT h0
  refine eE (by kernel_rfl) (fun (s : σ × Int) T H => ∃ G : Gs, Has T [(0, (yv yield0_b)), (1, (.rp (eI t1))), (2, (.rp (bD t2))), (5, (.rp (eI t5))), (8, (eI s.2))] ∧ aJ ⟨H0, List.map (fun p : Nat × cV => p.1) G0, G⟩ H [] ∧ I s.1 G) hl0 ⟨G, .eq (by kernel_rfl), hO, hI⟩ ?_
  clear hO hI
  rintro k0 s out1 T H ⟨G, hT, hO, hI⟩ h1 ho0
  obtain ⟨sg, t8⟩ := s
  replace h1 : iT cK t1 t2 t5 sg t8 = some out1 := h1
  try dsimp only at hT
  refine bM hT ?_
  clear hT
  unfold iT at h1
  refine aM ?_
  refine aS aC 6 [] [(26, (aB (decide (t8 < (if (1125899906842624 : Int) < (if t5 < t2.To then t5 else t2.To) then (1125899906842624 : Int) else (if t5 < t2.To then t5 else t2.To))))))] ?_
  refine bP h1 (fun h1 => ?_) (fun h1 => ?_)
  · refine bQ ?_
    refine bE [(0, (yv yield0_b)), (1, (.rp (eI t1))), (2, (.rp (bD t2))), (5, (.rp (eI t5))), (8, (eI t8))] ?_
    refine aM ?_
    refine cI 1 ?_
    refine aM ?_
    refine aQ aC 4 ?_
    refine bO 2 ?_
    obtain ⟨x8, hx9, h1⟩ := aT h1
    refine CE (I := I) (yv yield0_b) [(eI t8)] (aB x8.2) (by kernel_rfl) (by kernel_rfl) (yield0_h _ t8 x8.1 x8.2 hx9) hO hI ?_
    intro G H hO hI
    refine bC ?_
    refine cC [] [(33, (aB (!x8.2)))] ?_
    refine bP h1 (fun h1 => ?_) (fun h1 => ?_)
    · refine bL ?_
      obtain rfl := oI h1
      obtain rfl : _ = rr0 := ho0
      replace h0 : some x8.1 = some r := h0
      obtain rfl := oI h0
      exact aD (bG (aP (aP (bG (lG (x := (.tup [])) (by kernel_rfl) (aL.refl _) ⟨rfl, G, hI, hO.uD⟩)))))
    refine bQ ?_
    refine gT [(0, (yv yield0_b)), (1, (.rp (eI t1))), (2, (.rp (bD t2))), (5, (.rp (eI t5))), (8, (eI t8))] ?_
    refine aD (aU (aF (?_)))
    refine aQ aC 4 ?_
    refine bC ?_
    exact aD (aF (⟨rfl, _, (oI h1).symm, _, .eq (by kernel_rfl), hO, hI⟩))
  refine jI 0 ?_
  obtain rfl := oI h1
  obtain rfl : _ = rr0 := ho0
  replace h0 : some sg = some r := h0
  obtain rfl := oI h0
  exact aD (aV (aV (cH (tT (x := (.tup [])) (by kernel_rfl) (aL.refl _) ⟨rfl, G, hI, hO.uD⟩))))

theorem AK (bT : Int) (hop1 : Int) (s2 : aX) (cD : Int) (bV : Int) (r : ((List Int) × Int)) (h0 : oG bT hop1 s2 cD bV = some r) : dU Try.prog 12 [(eI bT), (eI hop1), (bD s2), (eI cD), (eI bV)] (.tup [(eL (eI) r.1), (eI r.2)]) := by
  intro H0
  refine yN aC Try.func12 (by kernel_rfl) (by kernel_rfl) (by kernel_rfl) ?_
  have hO := aJ.start H0
  unfold oG at h0
  refine aM ?_
  refine aQ aC 3 ?_
  refine fX 2 (bD s2) (by kernel_rfl) (by kernel_rfl) ?_
  refine yX 1 (.sl true 0 (fun _ => .bad)) (eL (eI) ([])) (by kernel_rfl) (by kernel_rfl) (by kernel_rfl) (lO) (by kernel_rfl) (by kernel_rfl) hO ?_
  intro lo1 H hO
  refine kN 1 (eI 0) (by kernel_rfl) (by kernel_rfl) hO ?_
  intro lo2 H hO
  refine dY ?_
  refine cC [2] [(7, (.rp (bD s2))), (10, (.lp lo1 0 0)), (11, (.lp lo2 0 0))] ?_
  refine aM ?_
  refine cI 0 ?_
  refine aM ?_
  refine aQ aC 5 ?_
  refine bO 2 ?_
  obtain ⟨x3, hx4, h0⟩ := aT h0
  refine fC (BB bT hop1 _ hx4) hO ?_
  intro H hO
  refine bC ?_
  refine cC [] [(14, (aB (!x3)))] ?_
  refine bP h0 (fun h0 => ?_) (fun h0 => ?_)
  · refine aM ?_
    refine aQ aC 2 ?_
    refine iY 0 lo1 1 0 (eL (eI) ([])) (.sl true 0 (fun _ => .bad)) [(eL (eI) ([]))] [(lo1, 1, [(.sl true 0 (fun _ => .bad))]), (lo2, 1, [(eI 0)])] hO rfl (by kernel_rfl) ?_
    intro H hO
    refine iY 1 lo2 1 0 (eI 0) (eI (2 : Int)) [(eI 0)] [(lo1, 1, [(.sl true 0 (fun _ => .bad))]), (lo2, 1, [(eI (2 : Int))])] hO rfl (by kernel_rfl) ?_
    intro H hO
    refine dY ?_
    refine rK 0 lo1 1 (.sl true 0 (fun _ => .bad)) (eL (eI) ([])) [(lo1, 1, [(eL (eI) ([]))]), (lo2, 1, [(eI (2 : Int))])] hO (by kernel_rfl) (by kernel_rfl) lO (by kernel_rfl) ?_
    intro H hO
    refine bE [(10, (.lp lo1 0 0)), (11, (.lp lo2 0 0))] ?_
    refine bL ?_
    obtain rfl := oI h0
    exact aD (bG (aP (QM0 (.inr rfl) (rs := [.cell 10 30, .cell 11 22]) (xs := [(eL (eI) ([])), (eI (2 : Int))]) (x := (.tup [(eL (eI) ([])), (eI (2 : Int))])) (by kernel_rfl) (iC (lo := lo1) (k := 1) (y := (eL (eI) ([]))) (x := (eL (eI) ([]))) 0 hO (by kernel_rfl) (by kernel_rfl) (by kernel_rfl) (by kernel_rfl) (iC (lo := lo2) (k := 1) (y := (eI (2 : Int))) (x := (eI (2 : Int))) 1 hO (by kernel_rfl) (by kernel_rfl) (by kernel_rfl) (by kernel_rfl) lU)) (by kernel_rfl) ⟨rfl, hO.out⟩)))
  refine aM ?_
  refine aQ aC 9 ?_
  refine bO 1 ?_
  obtain ⟨x7, hx8, h0⟩ := aT h0
  refine fC (tV cD _ hx8) hO ?_
  intro H hO
  refine bO 5 ?_
  obtain ⟨x10, hx11, h0⟩ := aT h0
  refine mJ [(23, false)] 25 [(eI bV)] (aB x10) (!(!x7)) (by kernel_rfl) (by kernel_rfl) (by kernel_rfl) (fun hb12 => (tV bV _ (jO hx11 hb12))) hO ?_
  intro H hO
  refine bC ?_
  refine cC [14] [(19, (aB ((!x7) || (!x10))))] ?_
  refine bP h0 (fun h0 => ?_) (fun h0 => ?_)
  · refine aM ?_
    refine aQ aC 2 ?_
    refine iY 0 lo1 1 0 (eL (eI) ([])) (.sl true 0 (fun _ => .bad)) [(eL (eI) ([]))] [(lo1, 1, [(.sl true 0 (fun _ => .bad))]), (lo2, 1, [(eI 0)])] hO rfl (by kernel_rfl) ?_
    intro H hO
    refine iY 1 lo2 1 0 (eI 0) (eI (13 : Int)) [(eI 0)] [(lo1, 1, [(.sl true 0 (fun _ => .bad))]), (lo2, 1, [(eI (13 : Int))])] hO rfl (by kernel_rfl) ?_
    intro H hO
    refine dY ?_
    refine rK 0 lo1 1 (.sl true 0 (fun _ => .bad)) (eL (eI) ([])) [(lo1, 1, [(eL (eI) ([]))]), (lo2, 1, [(eI (13 : Int))])] hO (by kernel_rfl) (by kernel_rfl) lO (by kernel_rfl) ?_
    intro H hO
    refine bE [(10, (.lp lo1 0 0)), (11, (.lp lo2 0 0))] ?_
    refine bL ?_
    obtain rfl := oI h0
    exact aD (bG (aP (QM0 (.inr rfl) (rs := [.cell 10 30, .cell 11 22]) (xs := [(eL (eI) ([])), (eI (13 : Int))]) (x := (.tup [(eL (eI) ([])), (eI (13 : Int))])) (by kernel_rfl) (iC (lo := lo1) (k := 1) (y := (eL (eI) ([]))) (x := (eL (eI) ([]))) 0 hO (by kernel_rfl) (by kernel_rfl) (by kernel_rfl) (by kernel_rfl) (iC (lo := lo2) (k := 1) (y := (eI (13 : Int))) (x := (eI (13 : Int))) 1 hO (by kernel_rfl) (by kernel_rfl) (by kernel_rfl) (by kernel_rfl) lU)) (by kernel_rfl) ⟨rfl, hO.out⟩)))
  refine aS aC 16 [19] [(28, (aB (((decide (s2.From < (-1 : Int))) || (decide (s2.To ≤ s2.From))) || (decide ((1125899906842624 : Int) < s2.To)))))] ?_
  refine bP h0 (fun h0 => ?_) (fun h0 => ?_)
  · refine aM ?_
    refine aQ aC 2 ?_
    refine iY 0 lo1 1 0 (eL (eI) ([])) (.sl true 0 (fun _ => .bad)) [(eL (eI) ([]))] [(lo1, 1, [(.sl true 0 (fun _ => .bad))]), (lo2, 1, [(eI 0)])] hO rfl (by kernel_rfl) ?_
    intro H hO
    refine iY 1 lo2 1 0 (eI 0) (eI (14 : Int)) [(eI 0)] [(lo1, 1, [(.sl true 0 (fun _ => .bad))]), (lo2, 1, [(eI (14 : Int))])] hO rfl (by kernel_rfl) ?_
    intro H hO
    refine dY ?_
    refine rK 0 lo1 1 (.sl true 0 (fun _ => .bad)) (eL (eI) ([])) [(lo1, 1, [(eL (eI) ([]))]), (lo2, 1, [(eI (14 : Int))])] hO (by kernel_rfl) (by kernel_rfl) lO (by kernel_rfl) ?_
    intro H hO
    refine bE [(10, (.lp lo1 0 0)), (11, (.lp lo2 0 0))] ?_
    refine bL ?_
    obtain rfl := oI h0
    exact aD (bG (aP (QM0 (.inr rfl) (rs := [.cell 10 30, .cell 11 22]) (xs := [(eL (eI) ([])), (eI (14 : Int))]) (x := (.tup [(eL (eI) ([])), (eI (14 : Int))])) (by kernel_rfl) (iC (lo := lo1) (k := 1) (y := (eL (eI) ([]))) (x := (eL (eI) ([]))) 0 hO (by kernel_rfl) (by kernel_rfl) (by kernel_rfl) (by kernel_rfl) (iC (lo := lo2) (k := 1) (y := (eI (14 : Int))) (x := (eI (14 : Int))) 1 hO (by kernel_rfl) (by kernel_rfl) (by kernel_rfl) (by kernel_rfl) lU)) (by kernel_rfl) ⟨rfl, hO.out⟩)))
  refine bQ ?_
  refine gT [(0, (eI bT)), (1, (eI hop1)), (3, (eI cD)), (4, (eI bV)), (7, (.rp (bD s2))), (10, (.lp lo1 0 0)), (11, (.lp lo2 0 0))] ?_
  refine aD (aU (aF (?_)))
  refine aM ?_
  refine aQ aC 3 ?_
  refine uT (xs := []) (k := 1) (by kernel_rfl) (by kernel_rfl) ?_
  refine yX 1 (.sl true 0 (fun _ => .bad)) (eL (eI) ([])) (by kernel_rfl) (by kernel_rfl) (by kernel_rfl) (lO) (by kernel_rfl) (by kernel_rfl) hO ?_
  intro lo15 H hO
  refine aAl 44 1 (fun _ => .bad) (by kernel_rfl) hO (by kernel_rfl) ?_
  intro lo16 H hO
  refine iY 2 lo15 1 0 (eL (eI) ([])) (.msl 1 lo16 0 (List.length ([] : List Int))) [(eL (eI) ([]))] [(lo1, 1, [(eL (eI) ([]))]), (lo2, 1, [(eI 0)]), (lo15, 1, [(.msl 1 lo16 0 (List.length ([] : List Int)))]), (lo16, 1, List.map (eI) ([] : List Int))] hO rfl (by kernel_rfl) ?_
  intro H hO
  refine dY ?_
  refine cC [] [(12, (.lp lo15 0 0))] ?_
  refine aM ?_
  refine aM ?_
  refine aQ aC 6 ?_
  refine bO 5 ?_
  obtain ⟨x17, hx18, h0⟩ := aT h0
  refine fC (BW bT hop1 s2 cD bV _ hx18) hO ?_
  intro H hO
  refine dY ?_
  refine cC [0, 1, 3, 4, 7] [(50, (.fn (.func 54) [] [(.rp (eI x17.1)), (.rp (bD x17.2.1)), (.rp (eI x17.2.2.1)), (.rp (eI x17.2.2.2.1)), (.rp (eI x17.2.2.2.2))]))] ?_
  refine cI 1 ?_
  refine iA [(10, (.lp lo1 0 0)), (11, (.lp lo2 0 0)), (12, (.lp lo15 0 0)), (50, (.fn (.func 54) [] [(.rp (eI x17.1)), (.rp (bD x17.2.1)), (.rp (eI x17.2.2.1)), (.rp (eI x17.2.2.2.1)), (.rp (eI x17.2.2.2.2))]))] ?_
  refine gY (fun T H => ∃ t10 : (List Int), ∃ t11 : Int, ∃ gZ : List Int, ∃ sA : Int, ∃ sC : aX, ∃ rZ : Int, ∃ rU : Int, ∃ rW : Int, ∃ lo19 : Nat, Has T [(10, (.lp lo1 0 0)), (11, (.lp lo2 0 0)), (12, (.lp lo15 0 0)), (50, (.fn (.func 54) [] [(.rp (eI sA)), (.rp (bD sC)), (.rp (eI rZ)), (.rp (eI rU)), (.rp (eI rW))]))] ∧ aJ ⟨H0, [], []⟩ H [(lo1, 1, [(eL (eI) t10)]), (lo2, 1, [(eI t11)]), (lo15, 1, [(.msl 1 lo19 0 (List.length gZ))]), (lo19, 1, List.map (eI) gZ)] ∧ tC t10 t11 gZ sA sC rZ rU rW = some r) ?_ ⟨[], 0, ([] : List Int), x17.1, x17.2.1, x17.2.2.1, x17.2.2.2.1, x17.2.2.2.2, lo16, .eq (by kernel_rfl), hO, h0⟩
  clear hO h0
  rintro T H ⟨t10, t11, gZ, sA, sC, rZ, rU, rW, lo19, hT, hO, h0⟩
  refine bM (l := [(10, (.lp lo1 0 0)), (11, (.lp lo2 0 0)), (12, (.lp lo15 0 0)), (50, (.fn (.func 54) [] [(.rp (eI sA)), (.rp (bD sC)), (.rp (eI rZ)), (.rp (eI rU)), (.rp (eI rW))]))]) hT ?_
  clear hT
  unfold tC at h0
  obtain ⟨o0, hl0, h0⟩ := aT h0
  refine wV (fid := 54) (ys := []) (cs := [(.rp (eI sA)), (.rp (bD sC)), (.rp (eI rZ)), (.rp (eI rU)), (.rp (eI rW))]) #[51] (fun (A : qQ) (b lL : Nat) (st : ((List Int) × Int × List Int) ⊕ ((List Int) × Int × List Int)) (G' : Gs) => Sum.elim (fun (s : (List Int) × Int × List Int) => ∃ lo19 : Nat, G' = (lL, .raw (fV b A .ready none)) :: (up [(lo1, 1, [(eL (eI) s.1)]), (lo2, 1, [(eI s.2.1)]), (lo15, 1, [(.msl 1 lo19 0 (List.length s.2.2))]), (lo19, 1, List.map (eI) s.2.2)] ++ [])) (fun (s : (List Int) × Int × List Int) => ∃ lo19 : Nat, G' = (lL, .raw (fV b A .done (some .ret))) :: (up [(lo1, 1, [(eL (eI) s.1)]), (lo2, 1, [(eI s.2.1)]), (lo15, 1, [(.msl 1 lo19 0 (List.length s.2.2))]), (lo19, 1, List.map (eI) s.2.2)] ++ [])) st) (.inl (t10, t11, gZ)) o0 (.tup []) (by kernel_rfl) (by kernel_rfl) (by kernel_rfl) hO (fun _ _ => ⟨lo19, rfl⟩) ?_ ?_
  · intro b lL
    clear hO h0
    refine wP _ b (fun st t51 => rnd (fun (s : (List Int) × Int × List Int) => kV sA sC rZ rU rW s.1 s.2.1 s.2.2 t51) st) ?_ sA sC rZ rU rW _ _ hl0
    intro st t51 out1 rr hr
    obtain ⟨s, rfl, h1, rfl⟩ := HD hr
    clear hr
    intro Hr Gr hi hg
    obtain ⟨t10, t11, gZ⟩ := s
    dsimp only [Sum.elim_inl] at hi
    obtain ⟨lo19, rfl⟩ := hi
    replace h1 : kV sA sC rZ rU rW t10 t11 gZ t51 = some out1 := h1
    unfold kV at h1
    obtain ⟨E1, hE, hO⟩ := qF hg
    refine qA (uH (hO.gm 0 _ rfl).2 (by kernel_rfl) (by kernel_rfl) ?_)
    refine iA [(10, (.lp lo1 0 0)), (11, (.lp lo2 0 0)), (12, (.lp lo15 0 0)), (50, (.fn (.func 54) [] [(.rp (eI sA)), (.rp (bD sC)), (.rp (eI rZ)), (.rp (eI rU)), (.rp (eI rW))])), (51, (eI t51))] ?_
    refine aQ aC 1 ?_
    refine bC ?_
    refine gT [(10, (.lp lo1 0 0)), (11, (.lp lo2 0 0)), (12, (.lp lo15 0 0)), (13, (eI t51))] ?_
    refine aD (⟨rfl, rfl, (hO.gm 0 _ rfl).2, ?_⟩)
    intro o1 ho1
    replace hO := hO.nG o1
    refine cI 2 ?_
    refine aM ?_
    refine aM ?_
    refine aQ aC 3 ?_
    refine mW 2 lo15 1 0 (.msl 1 lo19 0 (List.length gZ)) (.msl 1 lo19 0 (List.length gZ)) [(.msl 1 lo19 0 (List.length gZ))] hO rfl ?_
    refine bC ?_
    refine cC [] [(54, (aB (decide ((lN gZ) = (1024 : Int)))))] ?_
    refine bP h1 (fun h1 => ?_) (fun h1 => ?_)
    · refine aM ?_
      refine aQ aC 2 ?_
      refine iY 0 lo1 1 0 (eL (eI) t10) (.sl true 0 (fun _ => .bad)) [(eL (eI) t10)] [(lo1, 1, [(.sl true 0 (fun _ => .bad))]), (lo2, 1, [(eI t11)]), (lo15, 1, [(.msl 1 lo19 0 (List.length gZ))]), (lo19, 1, List.map (eI) gZ)] hO rfl (by kernel_rfl) ?_
      intro H hO
      refine iY 1 lo2 1 0 (eI t11) (eI (7 : Int)) [(eI t11)] [(lo1, 1, [(.sl true 0 (fun _ => .bad))]), (lo2, 1, [(eI (7 : Int))]), (lo15, 1, [(.msl 1 lo19 0 (List.length gZ))]), (lo19, 1, List.map (eI) gZ)] hO rfl (by kernel_rfl) ?_
      intro H hO
      refine dY ?_
      refine rK 0 lo1 1 (.sl true 0 (fun _ => .bad)) (eL (eI) ([])) [(lo1, 1, [(eL (eI) ([]))]), (lo2, 1, [(eI (7 : Int))]), (lo15, 1, [(.msl 1 lo19 0 (List.length gZ))]), (lo19, 1, List.map (eI) gZ)] hO (by kernel_rfl) (by kernel_rfl) lO (by kernel_rfl) ?_
      intro H hO
      refine bE [(10, (.lp lo1 0 0)), (11, (.lp lo2 0 0)), (12, (.lp lo15 0 0))] ?_
      refine bL ?_
      refine gT [(10, (.lp lo1 0 0)), (11, (.lp lo2 0 0)), (12, (.lp lo15 0 0))] ?_
      obtain rfl := oI h1
      exact aD (aP (bG (⟨(eG hO hE ho1 .dead).1, rfl, _, ⟨lo19, rfl⟩, (eG hO hE ho1 _).2⟩)))
    refine bQ ?_
    refine bE [(10, (.lp lo1 0 0)), (11, (.lp lo2 0 0)), (12, (.lp lo15 0 0)), (13, (eI t51))] ?_
    refine aQ aC 5 ?_
    refine mW 2 lo15 1 0 (.msl 1 lo19 0 (List.length gZ)) (.msl 1 lo19 0 (List.length gZ)) [(.msl 1 lo19 0 (List.length gZ))] hO rfl ?_
    refine bO 2 ?_
    refine uT (xs := [(eI t51)]) (k := 1) (by kernel_rfl) (by kernel_rfl) ?_
    obtain ⟨c22, h1⟩ := aY h1
    refine yO (e := (eI)) gZ ([t51]) 3 lo19 1 8 (iJ [(eI t51)]) (fun lo21 => [(lo1, 1, [(eL (eI) t10)]), (lo2, 1, [(eI t11)]), (lo15, 1, [(.msl 1 lo19 0 (List.length gZ))]), (lo21, 1, List.map (eI) (gZ ++ ([t51])))]) (by kernel_rfl) (by kernel_rfl) hO (by kernel_rfl) (by kernel_rfl) c22 (fun _ => by kernel_rfl) ?_
    intro lo21 H hO
    refine iY 2 lo15 1 0 (.msl 1 lo19 0 (List.length gZ)) (.msl 1 lo21 0 (List.length (gZ ++ ([t51])))) [(.msl 1 lo19 0 (List.length gZ))] [(lo1, 1, [(eL (eI) t10)]), (lo2, 1, [(eI t11)]), (lo15, 1, [(.msl 1 lo21 0 (List.length (gZ ++ ([t51]))))]), (lo21, 1, List.map (eI) (gZ ++ ([t51])))] hO rfl (by kernel_rfl) ?_
    intro H hO
    refine dY ?_
    refine gT [(10, (.lp lo1 0 0)), (11, (.lp lo2 0 0)), (12, (.lp lo15 0 0))] ?_
    obtain rfl := oI h1
    exact aD (aU (⟨(eG hO hE ho1 .dead).1, rfl, _, ⟨lo21, rfl⟩, (eG hO hE ho1 _).2⟩))
  · intro b lD23 lL H' G' hi hO
    rcases o0 with s | s
    · dsimp only [Sum.elim_inl] at hi
      obtain ⟨lo19, rfl⟩ := hi
      replace h0 : (some (s.2.2, (0 : Int))) = some r := h0
      obtain ⟨hlL, hO⟩ := mC hO
      refine ⟨_, _, hlL, (by intro e; cases e), ?_⟩
      refine gT [(10, (.lp lo1 0 0)), (11, (.lp lo2 0 0)), (12, (.lp lo15 0 0))] ?_
      refine aD (aU (aF (?_)))
      refine aM ?_
      refine QB (e := (eI)) s.2.2 2 3 1 1 lo15 lo19 (List.length s.2.2) [(lo1, 1, [(eL (eI) s.1)]), (lo2, 1, [(eI s.2.1)]), (lo15, 1, [(eL (eI) s.2.2)])] hO (by kernel_rfl) (by kernel_rfl) (by kernel_rfl) (.inr (by decide)) (by kernel_rfl) ?_
      intro H hO
      refine aQ aC 3 ?_
      refine mW 2 lo15 1 0 (eL (eI) s.2.2) (eL (eI) s.2.2) [(eL (eI) s.2.2)] hO rfl ?_
      refine iY 0 lo1 1 0 (eL (eI) s.1) (eL (eI) s.2.2) [(eL (eI) s.1)] [(lo1, 1, [(eL (eI) s.2.2)]), (lo2, 1, [(eI s.2.1)]), (lo15, 1, [(eL (eI) s.2.2)])] hO rfl (by kernel_rfl) ?_
      intro H hO
      refine iY 1 lo2 1 0 (eI s.2.1) (eI (0 : Int)) [(eI s.2.1)] [(lo1, 1, [(eL (eI) s.2.2)]), (lo2, 1, [(eI (0 : Int))]), (lo15, 1, [(eL (eI) s.2.2)])] hO rfl (by kernel_rfl) ?_
      intro H hO
      refine dY ?_
      replace hO := hO.pick (L' := [(lo1, 1, [(eL (eI) s.2.2)]), (lo2, 1, [(eI (0 : Int))])]) [0, 1] (by decide) (by kernel_rfl)
      refine cC [12] [] ?_
      refine bL ?_
      obtain rfl := oI h0
      have hD := (hO.gm 0 _ rfl).2
      replace hO := (hO.nG .dead).nT
      exact aD (QM1 (.inr rfl) hD (rs := [.cell 10 30, .cell 11 22]) (xs := [(eL (eI) s.2.2), (eI (0 : Int))]) (x := (.tup [(eL (eI) s.2.2), (eI (0 : Int))])) (by kernel_rfl) (iC (lo := lo1) (k := 1) (y := (eL (eI) s.2.2)) (x := (eL (eI) s.2.2)) 0 hO (by kernel_rfl) (by kernel_rfl) (by kernel_rfl) (by kernel_rfl) (iC (lo := lo2) (k := 1) (y := (eI (0 : Int))) (x := (eI (0 : Int))) 1 hO (by kernel_rfl) (by kernel_rfl) (by kernel_rfl) (by kernel_rfl) lU)) (by kernel_rfl) ⟨rfl, hO.out⟩)
    · dsimp only [Sum.elim_inr] at hi
      obtain ⟨lo19, rfl⟩ := hi
      replace h0 : (some (s.1, s.2.1)) = some r := h0
      obtain ⟨hlL, hO⟩ := mC hO
      refine ⟨_, _, hlL, (by intro e; cases e), ?_⟩
      refine bL ?_
      replace hO := hO.pick (L' := [(lo1, 1, [(eL (eI) s.1)]), (lo2, 1, [(eI s.2.1)])]) [0, 1] (by decide) (by kernel_rfl)
      obtain rfl := oI h0
      have hD := (hO.gm 0 _ rfl).2
      replace hO := (hO.nG .dead).nT
      exact aD (bG (aP (QM1 (.inr rfl) hD (rs := [.cell 10 30, .cell 11 22]) (xs := [(eL (eI) s.1), (eI s.2.1)]) (x := (.tup [(eL (eI) s.1), (eI s.2.1)])) (by kernel_rfl) (iC (lo := lo1) (k := 1) (y := (eL (eI) s.1)) (x := (eL (eI) s.1)) 0 hO (by kernel_rfl) (by kernel_rfl) (by kernel_rfl) (by kernel_rfl) (iC (lo := lo2) (k := 1) (y := (eI s.2.1)) (x := (eI s.2.1)) 1 hO (by kernel_rfl) (by kernel_rfl) (by kernel_rfl) (by kernel_rfl) lU)) (by kernel_rfl) ⟨rfl, hO.out⟩)))

theorem CS (l0 : (List bH)) (r : (List bH)) (h0 : qI l0 = some r) : dU Try.prog 56 [(eL bS l0)] (.fn (.func 74) [] [(.rp (eL bS r))]) := by
  intro H0
  refine dQ Try.func56 ?_
  have hO := aJ.start H0
  unfold qI at h0
  refine aM ?_
  refine aQ aC 2 ?_
  refine fX 1 (eL bS l0) (by kernel_rfl) (by kernel_rfl) ?_
  refine bC ?_
  refine bE [(1, (.rp (eL bS l0)))] ?_
  refine cO aC 2 [(2, (.fn (.func 74) [] [(.rp (eL bS l0))]))] ?_
  refine bL ?_
  obtain rfl := oI h0
  exact aD (lG (x := (.fn (.func 74) [] [(.rp (eL bS l0))])) (by kernel_rfl) (aL.refl _) ⟨rfl, hO.out⟩)

theorem tI (s10 : (List aE)) (s21 : (List aE)) (r : Bool) (h0 : jD s10 s21 = some r) : dU Try.prog 76 [(eL aI s10), (eL aI s21)] (aB r) := by
  intro H0
  refine dQ Try.func76 ?_
  have hO := aJ.start H0
  unfold jD at h0
  refine aS aC 1 [] [] ?_
  refine aM ?_
  refine aS aC 5 [] [(10, (aB (!decide ((lN s10) = (lN s21)))))] ?_
  refine bP h0 (fun h0 => ?_) (fun h0 => ?_)
  · refine cO aC 1 [(4, (aB false))] ?_
    refine bL ?_
    obtain rfl := oI h0
    exact aD (aP (Q_r hO))
  refine bQ ?_
  refine bE [(0, (eL aI s10)), (1, (eL aI s21))] ?_
  refine iR (fun T H => Has T [] ∧ aJ ⟨H0, [], []⟩ H [] ∧ fZ  = some r) ?_ ?_
  · clear hO h0
    rintro T H ⟨hT, hO, h0⟩
    refine bM hT ?_
    clear hT
    unfold fZ at h0
    refine cO aC 1 [(4, (aB true))] ?_
    refine bL ?_
    obtain rfl := oI h0
    exact aD (Q_r hO)
  refine aS aC 3 [] [(12, (eI (lN s10))), (13, (eI (0 : Int)))] ?_
  refine cI 0 ?_
  refine iA [(0, (eL aI s10)), (1, (eL aI s21)), (12, (eI (lN s10))), (13, (eI (0 : Int)))] ?_
  refine gY (fun T H => ∃ t12 : Int, ∃ t13 : Int, Has T [(0, (eL aI s10)), (1, (eL aI s21)), (12, (eI t12)), (13, (eI t13))] ∧ aJ ⟨H0, [], []⟩ H [] ∧ jA s10 s21 t12 t13 = some r) ?_ ⟨(lN s10), (0 : Int), .eq (by kernel_rfl), hO, h0⟩
  clear hO h0
  rintro T H ⟨t12, t13, hT, hO, h0⟩
  refine bM hT ?_
  clear hT
  unfold jA at h0
  obtain ⟨rr0, hl0, h0⟩ := aT h0
  refine eE (by kernel_rfl) (fun (s : Int) T H => Has T [(0, (eL aI s10)), (1, (eL aI s21)), (12, (eI t12)), (13, (eI s))] ∧ aJ ⟨H0, [], []⟩ H []) hl0 ⟨.eq (by kernel_rfl), hO⟩ ?_
  clear hO
  rintro k0 s out1 T H ⟨hT, hO⟩ h1 ho0
  obtain ⟨t13, rfl⟩ : ∃ x, x = s := ⟨_, rfl⟩
  replace h1 : eV s10 s21 t12 t13 = some out1 := h1
  refine bM hT ?_
  clear hT
  unfold eV at h1
  refine aS aC 1 [] [(14, (aB (decide (t13 < t12))))] ?_
  refine aM ?_
  refine bP h1 (fun h1 => ?_) (fun h1 => ?_)
  · refine bQ ?_
    refine bE [(0, (eL aI s10)), (1, (eL aI s21)), (12, (eI t12)), (13, (eI t13))] ?_
    refine aM ?_
    refine cI 1 ?_
    refine aS aC 2 [] [(5, (eI t13))] ?_
    refine aM ?_
    refine gQ (gM [19, 23]) aC 9 ?_
    obtain ⟨c3, h1⟩ := aY h1
    obtain ⟨c4, h1⟩ := aY h1
    refine FI (Ds := [0 ≤ t13 ∧ t13 < (lN s10), 0 ≤ t13 ∧ t13 < (lN s21)]) (by kernel_rfl) ⟨c3, c4, trivial⟩ ?_
    refine cC [5] [(24, (aB (!((decide (((gD s10 t13).Kind) = ((gD s21 t13).Kind))) && ((decide (((gD s10 t13).Num) = ((gD s21 t13).Num))) && ((nU ((gD s10 t13).Text) ((gD s21 t13).Text)) && true))))))] ?_
    refine bP h1 (fun h1 => ?_) (fun h1 => ?_)
    · refine cO aC 1 [(4, (aB false))] ?_
      refine bL ?_
      obtain rfl := oI h1
      obtain rfl : _ = rr0 := ho0
      replace h0 : some false = some r := h0
      obtain rfl := oI h0
      exact aD (bG (aP (aP (bG (aP (Q_r hO))))))
    refine bQ ?_
    refine gT [(0, (eL aI s10)), (1, (eL aI s21)), (12, (eI t12)), (13, (eI t13))] ?_
    refine aD (aU (aF (?_)))
    refine aQ aC 2 ?_
    refine bC ?_
    exact aD (aF (⟨rfl, _, (oI h1).symm, .eq (by kernel_rfl), hO⟩))
  refine jI 0 ?_
  obtain rfl := oI h1
  obtain rfl : _ = rr0 := ho0
  replace h0 : fZ  = some r := h0
  exact aD (aV (aV (cH (aF (⟨rfl, .eq (by kernel_rfl), hO, h0⟩)))))

theorem FM (a0 : (List aE)) (b1 : (List aE)) (r : Bool) (h0 : pI a0 b1 = some r) : dU Try.prog 58 [(eL aI a0), (eL aI b1)] (aB r) := by
  intro H0
  refine dQ Try.func58 ?_
  have hO := aJ.start H0
  unfold pI at h0
  refine aS aC 1 [] [] ?_
  refine aM ?_
  refine aQ aC 4 ?_
  refine bO 2 ?_
  obtain ⟨x1, hx2, h0⟩ := aT h0
  refine fC (tI a0 b1 _ hx2) hO ?_
  intro H hO
  refine bC ?_
  refine bE [(4, (aB x1))] ?_
  refine bL ?_
  obtain rfl := oI h0
  exact aD (Q_r hO)

theorem EY (r0 : (List aE)) (r : (List aE)) (h0 : sB r0 = some r) : dU Try.prog 59 [(eL aI r0)] (eL aI r) := by
  intro H0
  refine dQ Try.func59 ?_
  have hO := aJ.start H0
  unfold sB at h0
  refine aS aC 1 [] [] ?_
  refine aM ?_
  refine aQ aC 6 ?_
  refine bO 2 ?_
  obtain ⟨c1, h0⟩ := aY h0
  refine GJ 3 32 (lN r0) (by kernel_rfl) (by kernel_rfl) c1 hO ?_
  intro lo2 H hO
  refine bO 4 ?_
  obtain ⟨c4, h0⟩ := aY h0
  refine yO (e := aI) ([] : List aE) r0 0 lo2 3 32 (eL aI r0) (fun lo3 => [(lo3, 3, List.map aI (([] : List aE) ++ r0))]) (by kernel_rfl) (by kernel_rfl) hO (by kernel_rfl) (XW (fun _ => by kernel_rfl)) c4 (fun _ => by kernel_rfl) ?_
  intro lo3 H hO
  refine bC ?_
  refine bE [(2, (.msl 3 lo3 0 (List.length (([] : List aE) ++ r0))))] ?_
  refine bL ?_
  refine gT [(2, (.msl 3 lo3 0 (List.length (([] : List aE) ++ r0))))] ?_
  refine BP (en := aI) (([] : List aE) ++ r0) 0 0 2 3 lo3 (List.length (([] : List aE) ++ r0)) hO (by kernel_rfl) (by kernel_rfl) (by kernel_rfl) (L' := []) (by kernel_rfl) ?_
  intro H5 hO
  obtain rfl := oI h0
  exact aD (Q_r hO)

theorem xK {σ : Type} (I : σ → Gs → Prop) (yield0_b : Nat) (cK : σ → (List aE) → (List aH) → Option (σ × Bool)) (yield0_h : ∀ st a0 a1 st2 r, cK st a0 a1 = some (st2, r) → vU Try.prog (yv yield0_b) I st [(eL aI a0), (eL aK a1)] st2 (aB r)) (t1 : (List bH)) (sg0 : σ) (r : σ) (h0 : mG cK t1 sg0 = some r) : tA Try.prog 74 I sg0 [(yv yield0_b), (.rp (eL bS t1))] r (.tup []) := by
  intro H0 G0 hI hg
  refine dQ Try.func74 ?_
  obtain ⟨G, hO, hI⟩ : ∃ G, aJ ⟨H0, List.map (fun p : Nat × cV => p.1) G0, G⟩ H0 [] ∧ I sg0 G := ⟨G0, aJ.yC hg, hI⟩
  clear hg
  unfold mG at h0
  refine aS aC 1 [] [(3, (eI (0 : Int)))] ?_
  refine cI 0 ?_
  refine iA [(0, (yv yield0_b)), (1, (.rp (eL bS t1))), (3, (eI (0 : Int)))] ?_
  refine gY (fun T H => ∃ sg : σ, ∃ i3 : Int, ∃ G : Gs, Has T [(0, (yv yield0_b)), (1, (.rp (eL bS t1))), (3, (eI i3))] ∧ aJ ⟨H0, List.map (fun p : Nat × cV => p.1) G0, G⟩ H [] ∧ I sg G ∧ pK cK sg t1 i3 = some r) ?_ ⟨sg0, (0 : Int), G, .eq (by kernel_rfl), hO, hI, h0⟩
  clear hO hI h0
  rintro T H ⟨sg, i3, G, hT, hO, hI, h0⟩
  refine bM hT ?_
  clear hT
  unfold pK at h0
  obtain ⟨rr0, hl0, h0⟩ := aT h0
  refine eE (by kernel_rfl) (fun (s : σ × Int) T H => ∃ G : Gs, Has T [(0, (yv yield0_b)), (1, (.rp (eL bS t1))), (3, (eI s.2))] ∧ aJ ⟨H0, List.map (fun p : Nat × cV => p.1) G0, G⟩ H [] ∧ I s.1 G) hl0 ⟨G, .eq (by kernel_rfl), hO, hI⟩ ?_
  clear hO hI
  rintro k0 s out1 T H ⟨G, hT, hO, hI⟩ h1 ho0
  obtain ⟨sg, i3⟩ := s
  replace h1 : iI cK t1 sg i3 = some out1 := h1
  try dsimp only at hT
  refine bM hT ?_
  clear hT
  unfold iI at h1
  refine aM ?_
  refine aS aC 4 [] [(9, (aB (decide (i3 < (lN t1)))))] ?_
  refine bP h1 (fun h1 => ?_) (fun h1 => ?_)
  · refine bQ ?_
    refine bE [(0, (yv yield0_b)), (1, (.rp (eL bS t1))), (3, (eI i3))] ?_
    refine cI 1 ?_
    refine aM ?_
    refine aQ aC 6 ?_
    obtain ⟨c2, h1⟩ := aY h1
    refine rL [0 ≤ i3 ∧ i3 < (lN t1)] ⟨c2, trivial⟩ ?_
    refine cC [] [(4, (eL aI ((gD t1 i3).Row)))] ?_
    refine aM ?_
    refine aQ aC 2 ?_
    refine uT (xs := []) (k := 2) (by kernel_rfl) (by kernel_rfl) ?_
    refine bC ?_
    refine cC [] [(5, (.sl true 0 (fun _ => .bad)))] ?_
    refine iR (fun T H => ∃ sg : σ, ∃ i3 : Int, ∃ r4 : (List aE), ∃ f5 : List aH, ∃ lo3 : Nat, ∃ G : Gs, Has T [(0, (yv yield0_b)), (1, (.rp (eL bS t1))), (3, (eI i3)), (4, (eL aI r4)), (5, (.msl 2 lo3 0 (List.length f5)))] ∧ aJ ⟨H0, List.map (fun p : Nat × cV => p.1) G0, G⟩ H [(lo3, 2, List.map aK f5)] ∧ I sg G ∧ nF cK sg t1 i3 r4 f5 = some out1) ?_ ?_
    · clear hO hI h1
      rintro T H ⟨sg, i3, r4, f5, lo3, G, hT, hO, hI, h1⟩
      refine bM hT ?_
      clear hT
      unfold nF at h1
      refine aM ?_
      refine aQ aC 6 ?_
      refine SV (e := aK) f5 0 5 2 lo3 (List.length f5) [] (by kernel_rfl) hO (by kernel_rfl) (by kernel_rfl) (by kernel_rfl) (by kernel_rfl) ?_
      intro H hO
      refine bO 2 ?_
      obtain ⟨x7, hx8, h1⟩ := aT h1
      refine fC (EY r4 _ hx8) hO ?_
      intro H hO
      refine bO 4 ?_
      obtain ⟨x10, hx11, h1⟩ := aT h1
      refine CE (I := I) (yv yield0_b) [(eL aI x7), (eL aK f5)] (aB x10.2) (by kernel_rfl) (by kernel_rfl) (yield0_h _ x7 f5 x10.1 x10.2 hx11) hO hI ?_
      intro G H hO hI
      refine bC ?_
      refine cC [4, 5] [(50, (aB (!x10.2)))] ?_
      refine bP h1 (fun h1 => ?_) (fun h1 => ?_)
      · refine bL ?_
        obtain rfl := oI h1
        obtain rfl : _ = rr0 := ho0
        replace h0 : some x10.1 = some r := h0
        obtain rfl := oI h0
        exact aD (bG (aP (bG (lG (x := (.tup [])) (by kernel_rfl) (aL.refl _) ⟨rfl, G, hI, hO.uD⟩))))
      refine bQ ?_
      exact aD (aU (aF (⟨rfl, _, (oI h1).symm, _, .eq (by kernel_rfl), hO, hI⟩)))
    refine cI 2 ?_
    refine iA [(0, (yv yield0_b)), (1, (.rp (eL bS t1))), (3, (eI i3)), (4, (eL aI ((gD t1 i3).Row))), (5, (.sl true 0 (fun _ => .bad)))] ?_
    refine TG (el := (fun _ => .bad)) 4 5 2 hO (by kernel_rfl) ?_
    intro lo24 H25 hO
    refine gY (fun T H => ∃ sg : σ, ∃ i3 : Int, ∃ r4 : (List aE), ∃ f5 : List aH, ∃ lo14 : Nat, ∃ G : Gs, Has T [(0, (yv yield0_b)), (1, (.rp (eL bS t1))), (3, (eI i3)), (4, (eL aI r4)), (5, (.msl 2 lo14 0 (List.length f5)))] ∧ aJ ⟨H0, List.map (fun p : Nat × cV => p.1) G0, G⟩ H [(lo14, 2, List.map aK f5)] ∧ I sg G ∧ oZ cK sg t1 i3 r4 f5 = some out1) ?_ ⟨sg, i3, (gD t1 i3).Row, ([] : List aH), lo24, G, .eq (by kernel_rfl), hO, hI, h1⟩
    clear hO hI h1
    rintro T H ⟨sg, i3, r4, f5, lo14, G, hT, hO, hI, h1⟩
    refine bM hT ?_
    clear hT
    unfold oZ at h1
    obtain ⟨rr1, hl1, h1⟩ := aT h1
    refine eE (by kernel_rfl) (fun (s : σ × Int × List aH) T H => ∃ lo14 : Nat, ∃ G : Gs, Has T [(0, (yv yield0_b)), (1, (.rp (eL bS t1))), (3, (eI s.2.1)), (4, (eL aI r4)), (5, (.msl 2 lo14 0 (List.length s.2.2)))] ∧ aJ ⟨H0, List.map (fun p : Nat × cV => p.1) G0, G⟩ H [(lo14, 2, List.map aK s.2.2)] ∧ I s.1 G) hl1 ⟨lo14, G, .eq (by kernel_rfl), hO, hI⟩ ?_
    clear hO hI
    rintro k1 s out2 T H ⟨lo14, G, hT, hO, hI⟩ h2 ho1
    obtain ⟨sg, i3, f5⟩ := s
    replace h2 : jF cK t1 r4 sg i3 f5 = some out2 := h2
    try dsimp only at hT
    refine bM hT ?_
    clear hT
    unfold jF at h2
    refine aM ?_
    refine aM ?_
    refine aQ aC 13 ?_
    obtain ⟨c15, h2⟩ := aY h2
    refine yS 11 [(((decide (i3 < (lN t1)))) = true → 0 ≤ i3 ∧ i3 < (lN t1))] ⟨c15, trivial⟩ ?_
    obtain ⟨x16, hx17, h2⟩ := aT h2
    refine mJ [(20, true)] 58 [(eL aI ((gD t1 i3).Row)), (eL aI r4)] (aB x16) (decide (i3 < (lN t1))) (by kernel_rfl) (by kernel_rfl) (by kernel_rfl) (fun hb18 => (FM ((gD t1 i3).Row) r4 _ (jO hx17 hb18))) hO ?_
    intro H hO
    refine bC ?_
    refine cC [] [(28, (aB ((decide (i3 < (lN t1))) && x16)))] ?_
    refine bP h2 (fun h2 => ?_) (fun h2 => ?_)
    · refine bQ ?_
      refine bE [(0, (yv yield0_b)), (1, (.rp (eL bS t1))), (3, (eI i3)), (4, (eL aI r4)), (5, (.msl 2 lo14 0 (List.length f5)))] ?_
      refine aM ?_
      refine cI 3 ?_
      refine gQ (gM [32, 36, 37, 41, 43]) aC 15 ?_
      obtain ⟨c20, h2⟩ := aY h2
      obtain ⟨c21, h2⟩ := aY h2
      refine cJ 12 [0 ≤ i3 ∧ i3 < (lN t1), 0 ≤ i3 ∧ i3 < (lN t1)] ⟨c20, c21, trivial⟩ ?_
      refine XA (xs := [(aK (aH.mk ((gD t1 i3).At) ((gD t1 i3).Net)))]) (k := 2) (by kernel_rfl) (by kernel_rfl) ?_
      obtain ⟨c23, h2⟩ := aY h2
      refine OT (e := aK) f5 ([aH.mk ((gD t1 i3).At) ((gD t1 i3).Net)]) 0 lo14 2 16 (iJ [(aK (aH.mk ((gD t1 i3).At) ((gD t1 i3).Net)))]) (fun lo22 => [(lo22, 2, List.map aK (f5 ++ ([aH.mk ((gD t1 i3).At) ((gD t1 i3).Net)])))]) (by kernel_rfl) (by kernel_rfl) hO (by kernel_rfl) (by kernel_rfl) c23 (fun _ => by kernel_rfl) ?_
      intro lo22 H hO
      refine kT ?_
      refine gT [(0, (yv yield0_b)), (1, (.rp (eL bS t1))), (3, (eI i3)), (4, (eL aI r4)), (5, (.msl 2 lo22 0 (List.length (f5 ++ ([aH.mk ((gD t1 i3).At) ((gD t1 i3).Net)])))))] ?_
      refine aD (aU (aF (?_)))
      refine aQ aC 3 ?_
      refine bC ?_
      exact aD (aF (⟨rfl, _, (oI h2).symm, _, _, .eq (by kernel_rfl), hO, hI⟩))
    refine jI 2 ?_
    obtain rfl := oI h2
    obtain rfl : _ = rr1 := ho1
    replace h1 : nF cK sg t1 i3 r4 f5 = some out1 := h1
    exact aD (aV (aV (cH (aF (⟨rfl, _, _, _, _, _, _, .eq (by kernel_rfl), hO, hI, h1⟩)))))
  refine jI 0 ?_
  obtain rfl := oI h1
  obtain rfl : _ = rr0 := ho0
  replace h0 : some sg = some r := h0
  obtain rfl := oI h0
  exact aD (aV (aV (cH (tT (x := (.tup [])) (by kernel_rfl) (aL.refl _) ⟨rfl, G, hI, hO.uD⟩))))

theorem qW (s0 : (List aE)) (f1_f : Nat) (f1_a f1_c : List V) (f1 : aE → Option Bool) (f1_h : ∀ a0 r, f1 a0 = some r → dU Try.prog f1_f (f1_a ++ [(aI a0)] ++ f1_c) (aB r)) (r : Int) (h0 : iE s0 f1 = some r) : dU Try.prog 95 [(eL aI s0), (.fn (.func f1_f) f1_a f1_c)] (eI r) := by
  intro H0
  refine dQ Try.func95 ?_
  have hO := aJ.start H0
  unfold iE at h0
  refine aS aC 1 [] [] ?_
  refine iR (fun T H => Has T [] ∧ aJ ⟨H0, [], []⟩ H [] ∧ eZ f1  = some r) ?_ ?_
  · clear hO h0
    rintro T H ⟨hT, hO, h0⟩
    refine bM hT ?_
    clear hT
    unfold eZ at h0
    refine cO aC 1 [(4, (eI (-1 : Int)))] ?_
    refine bL ?_
    obtain rfl := oI h0
    exact aD (Q_r hO)
  refine aS aC 3 [] [(7, (eI (lN s0))), (8, (eI (0 : Int)))] ?_
  refine cI 0 ?_
  refine iA [(0, (eL aI s0)), (1, (.fn (.func f1_f) f1_a f1_c)), (7, (eI (lN s0))), (8, (eI (0 : Int)))] ?_
  refine gY (fun T H => ∃ t7 : Int, ∃ t8 : Int, Has T [(0, (eL aI s0)), (1, (.fn (.func f1_f) f1_a f1_c)), (7, (eI t7)), (8, (eI t8))] ∧ aJ ⟨H0, [], []⟩ H [] ∧ hU f1 s0 t7 t8 = some r) ?_ ⟨(lN s0), (0 : Int), .eq (by kernel_rfl), hO, h0⟩
  clear hO h0
  rintro T H ⟨t7, t8, hT, hO, h0⟩
  refine bM hT ?_
  clear hT
  unfold hU at h0
  obtain ⟨rr0, hl0, h0⟩ := aT h0
  refine eE (by kernel_rfl) (fun (s : Int) T H => Has T [(0, (eL aI s0)), (1, (.fn (.func f1_f) f1_a f1_c)), (7, (eI t7)), (8, (eI s))] ∧ aJ ⟨H0, [], []⟩ H []) hl0 ⟨.eq (by kernel_rfl), hO⟩ ?_
  clear hO
  rintro k0 s out1 T H ⟨hT, hO⟩ h1 ho0
  obtain ⟨t8, rfl⟩ : ∃ x, x = s := ⟨_, rfl⟩
  replace h1 : gX f1 s0 t7 t8 = some out1 := h1
  refine bM hT ?_
  clear hT
  unfold gX at h1
  refine aS aC 1 [] [(9, (aB (decide (t8 < t7))))] ?_
  refine aM ?_
  refine bP h1 (fun h1 => ?_) (fun h1 => ?_)
  · refine bQ ?_
    refine bE [(0, (eL aI s0)), (1, (.fn (.func f1_f) f1_a f1_c)), (7, (eI t7)), (8, (eI t8))] ?_
    refine aM ?_
    refine cI 1 ?_
    refine aS aC 2 [] [(5, (eI t8))] ?_
    refine aM ?_
    refine aQ aC 6 ?_
    obtain ⟨c2, h1⟩ := aY h1
    refine yS 5 [0 ≤ t8 ∧ t8 < (lN s0)] ⟨c2, trivial⟩ ?_
    obtain ⟨x3, hx4, h1⟩ := aT h1
    refine fC (f1_h (gD s0 t8) _ hx4) hO ?_
    intro H hO
    refine dY ?_
    refine cC [] [(16, (aB x3))] ?_
    refine bP h1 (fun h1 => ?_) (fun h1 => ?_)
    · refine cO aC 2 [(4, (eI t8))] ?_
      refine bL ?_
      obtain rfl := oI h1
      obtain rfl : _ = rr0 := ho0
      replace h0 : some t8 = some r := h0
      obtain rfl := oI h0
      exact aD (bG (aP (aP (bG (aP (Q_r hO))))))
    refine bQ ?_
    refine gT [(0, (eL aI s0)), (1, (.fn (.func f1_f) f1_a f1_c)), (7, (eI t7)), (8, (eI t8))] ?_
    refine aD (aU (aF (?_)))
    refine aQ aC 2 ?_
    refine bC ?_
    exact aD (aF (⟨rfl, _, (oI h1).symm, .eq (by kernel_rfl), hO⟩))
  refine jI 0 ?_
  obtain rfl := oI h1
  obtain rfl : _ = rr0 := ho0
  replace h0 : eZ f1  = some r := h0
  exact aD (aV (aV (cH (aF (⟨rfl, .eq (by kernel_rfl), hO, h0⟩)))))

theorem pT (s0 : (List aE)) (f1_f : Nat) (f1_a f1_c : List V) (f1 : aE → Option Bool) (f1_h : ∀ a0 r, f1 a0 = some r → dU Try.prog f1_f (f1_a ++ [(aI a0)] ++ f1_c) (aB r)) (r : Bool) (h0 : eT s0 f1 = some r) : dU Try.prog 92 [(eL aI s0), (.fn (.func f1_f) f1_a f1_c)] (aB r) := by
  intro H0
  refine dQ Try.func92 ?_
  have hO := aJ.start H0
  unfold eT at h0
  refine aS aC 1 [] [] ?_
  refine aM ?_
  refine aQ aC 5 ?_
  refine bO 2 ?_
  obtain ⟨x1, hx2, h0⟩ := aT h0
  refine fC (qW s0 f1_f f1_a f1_c f1 f1_h _ hx2) hO ?_
  intro H hO
  refine bC ?_
  refine bE [(4, (aB (decide ((0 : Int) ≤ x1))))] ?_
  refine bL ?_
  obtain rfl := oI h0
  exact aD (Q_r hO)

theorem tZ (v0 : aE) (r : (bB × Bool)) (h0 : kY v0 = some r) : dU Try.prog 106 [(aI v0)] (.tup [(aZ r.1), (aB r.2)]) := by
  intro H0
  refine dQ Try.func106 ?_
  have hO := aJ.start H0
  unfold kY at h0
  refine aM ?_
  refine aQ aC 3 ?_
  refine fX 3 (aI v0) (by kernel_rfl) (by kernel_rfl) ?_
  refine bC ?_
  refine bE [(1, (.rp (aI v0)))] ?_
  refine aM ?_
  refine cI 0 ?_
  refine aS aC 9 [] [(4, (aB ((decide (v0.Kind = (1 : Int))) && (nU v0.Text (⟨#[]⟩ : ByteArray)))))] ?_
  refine bP h0 (fun h0 => ?_) (fun h0 => ?_)
  · refine cO aC 5 [(2, (aZ (bB.k_number v0.Num))), (3, (aB true))] ?_
    refine bL ?_
    obtain rfl := oI h0
    exact aD (bG (aP (Q_r hO)))
  refine aS aC 15 [4] [(16, (aB (((decide (v0.Kind = (2 : Int))) && (decide (v0.Num = (0 : Int)))) && (decide (((ByteArray.size v0.Text : Nat) : Int) ≤ (64 : Int))))))] ?_
  refine bP h0 (fun h0 => ?_) (fun h0 => ?_)
  · refine cO aC 5 [(2, (aZ (bB.k_words v0.Text))), (3, (aB true))] ?_
    refine bL ?_
    obtain rfl := oI h0
    exact aD (bG (aP (Q_r hO)))
  refine bQ ?_
  refine gT [] ?_
  refine aD (aU (aF (?_)))
  refine cO aC 2 [(2, (aZ bB.none_)), (3, (aB false))] ?_
  refine bL ?_
  obtain rfl := oI h0
  exact aD (Q_r hO)

theorem NJ (v0 : aE) (r : Bool) (h0 : sO v0 = some r) : dU Try.prog 94 [(aI v0)] (aB r) := by
  intro H0
  refine dQ Try.func94 ?_
  have hO := aJ.start H0
  unfold sO at h0
  refine aM ?_
  refine aQ aC 2 ?_
  refine fX 3 (aI v0) (by kernel_rfl) (by kernel_rfl) ?_
  refine bC ?_
  refine bE [(1, (.rp (aI v0)))] ?_
  refine aM ?_
  refine aQ aC 7 ?_
  refine bO 1 ?_
  obtain ⟨⟨x1_0, x1_1⟩, hx2, h0⟩ := aT h0
  refine fC (tZ v0 _ hx2) hO ?_
  intro H hO
  rcases x1_0 with _ | y4 | y5
  · replace h0 : (some x1_1) = some r := h0
    refine bC ?_
    refine bE [(4, (aB x1_1))] ?_
    refine cO aC 2 [(2, (aB x1_1))] ?_
    refine bL ?_
    obtain rfl := oI h0
    exact aD (Q_r hO)
  · replace h0 : (some x1_1) = some r := h0
    refine bC ?_
    refine bE [(4, (aB x1_1))] ?_
    refine cO aC 2 [(2, (aB x1_1))] ?_
    refine bL ?_
    obtain rfl := oI h0
    exact aD (Q_r hO)
  · replace h0 : (some x1_1) = some r := h0
    refine bC ?_
    refine bE [(4, (aB x1_1))] ?_
    refine cO aC 2 [(2, (aB x1_1))] ?_
    refine bL ?_
    obtain rfl := oI h0
    exact aD (Q_r hO)

theorem NQ (v0 : aE) (r : Bool) (h0 : sU v0 = some r) : dU Try.prog 93 [(aI v0)] (aB r) := by
  intro H0
  refine dQ Try.func93 ?_
  have hO := aJ.start H0
  unfold sU at h0
  refine aM ?_
  refine aQ aC 2 ?_
  refine fX 3 (aI v0) (by kernel_rfl) (by kernel_rfl) ?_
  refine bC ?_
  refine bE [(1, (.rp (aI v0)))] ?_
  refine aM ?_
  refine aQ aC 4 ?_
  refine bO 1 ?_
  obtain ⟨x1, hx2, h0⟩ := aT h0
  refine fC (NJ v0 _ hx2) hO ?_
  intro H hO
  refine bC ?_
  refine bE [(2, (aB (!x1)))] ?_
  refine bL ?_
  obtain rfl := oI h0
  exact aD (Q_r hO)

theorem AN (r0 : (List aE)) (r : Bool) (h0 : rF r0 = some r) : dU Try.prog 71 [(eL aI r0)] (aB r) := by
  intro H0
  refine dQ Try.func71 ?_
  have hO := aJ.start H0
  unfold rF at h0
  refine aS aC 1 [] [] ?_
  refine aM ?_
  refine aS aC 3 [] [(5, (aB (decide ((8 : Int) < (lN r0)))))] ?_
  refine bP h0 (fun h0 => ?_) (fun h0 => ?_)
  · refine cO aC 1 [(2, (aB false))] ?_
    refine bL ?_
    obtain rfl := oI h0
    exact aD (aP (Q_r hO))
  refine bQ ?_
  refine bE [(0, (eL aI r0))] ?_
  refine aM ?_
  refine aQ aC 4 ?_
  refine bO 1 ?_
  obtain ⟨x2, hx3, h0⟩ := aT h0
  refine fC (pT r0 93 [] [] (fun y0 => sU y0) (fun y0 r h => NQ y0 r h) _ hx3) hO ?_
  intro H hO
  refine bC ?_
  refine bE [(2, (aB (!x2)))] ?_
  refine bL ?_
  obtain rfl := oI h0
  exact aD (Q_r hO)

theorem EZ (t0 : (List aE)) (r : (Int × (List aE))) (h0 : qR t0 = some r) : xM Try.prog 96 [(.rp (eL aI t0))] (fun lo => (.fn (.func 97) [] [(.lp lo 0 0), (.rp (eL aI r.2))])) 1 [(eI r.1)] := by
  intro H0
  refine dQ Try.func96 ?_
  have hO := aJ.start H0
  unfold qR at h0
  refine aS aC 1 [] [] ?_
  refine aM ?_
  refine aQ aC 2 ?_
  refine kN 1 (eI 0) (by kernel_rfl) (by kernel_rfl) hO ?_
  intro lo1 H hO
  refine iY 0 lo1 1 0 (eI 0) (eI (-1 : Int)) [(eI 0)] [(lo1, 1, [(eI (-1 : Int))])] hO rfl (by kernel_rfl) ?_
  intro H hO
  refine dY ?_
  refine cC [] [(2, (.lp lo1 0 0))] ?_
  refine aS aC 2 [0] [(1, (.fn (.func 97) [] [(.lp lo1 0 0), (.rp (eL aI t0))]))] ?_
  refine bL ?_
  obtain rfl := oI h0
  exact aD (lG (x := (.fn (.func 97) [] [(.lp lo1 0 0), (.rp (eL aI t0))])) (by kernel_rfl) (aL.refl _) ⟨lo1, rfl, hO⟩)

theorem qL {σ : Type} (I : σ → Gs → Prop) (s0 : (List aE)) (f1_v : V) (f1 : σ → aE → Option (σ × Bool)) (f1_h : ∀ st a0 st2 r, f1 st a0 = some (st2, r) → vU Try.prog f1_v I st [(aI a0)] st2 (aB r)) (sg0 : σ) (r : (σ × Int)) (h0 : gR s0 f1 sg0 = some r) : tA Try.prog 95 I sg0 [(eL aI s0), f1_v] r.1 (eI r.2) := by
  intro H0 G0 hI hg
  refine dQ Try.func95 ?_
  obtain ⟨G, hO, hI⟩ : ∃ G, aJ ⟨H0, List.map (fun p : Nat × cV => p.1) G0, G⟩ H0 [] ∧ I sg0 G := ⟨G0, aJ.yC hg, hI⟩
  clear hg
  unfold gR at h0
  refine aS aC 1 [] [] ?_
  refine iR (fun T H => ∃ sg : σ, ∃ G : Gs, Has T [] ∧ aJ ⟨H0, List.map (fun p : Nat × cV => p.1) G0, G⟩ H [] ∧ I sg G ∧ eU f1 sg = some r) ?_ ?_
  · clear hO hI h0
    rintro T H ⟨sg, G, hT, hO, hI, h0⟩
    refine bM hT ?_
    clear hT
    unfold eU at h0
    refine cO aC 1 [(4, (eI (-1 : Int)))] ?_
    refine bL ?_
    obtain rfl := oI h0
    exact aD (lG (x := (eI (-1 : Int))) (by kernel_rfl) (aL.refl _) ⟨rfl, G, hI, hO.uD⟩)
  refine aS aC 3 [] [(7, (eI (lN s0))), (8, (eI (0 : Int)))] ?_
  refine cI 0 ?_
  refine iA [(0, (eL aI s0)), (1, f1_v), (7, (eI (lN s0))), (8, (eI (0 : Int)))] ?_
  refine gY (fun T H => ∃ sg : σ, ∃ t7 : Int, ∃ t8 : Int, ∃ G : Gs, Has T [(0, (eL aI s0)), (1, f1_v), (7, (eI t7)), (8, (eI t8))] ∧ aJ ⟨H0, List.map (fun p : Nat × cV => p.1) G0, G⟩ H [] ∧ I sg G ∧ gJ f1 sg s0 t7 t8 = some r) ?_ ⟨sg0, (lN s0), (0 : Int), G, .eq (by kernel_rfl), hO, hI, h0⟩
  clear hO hI h0
  rintro T H ⟨sg, t7, t8, G, hT, hO, hI, h0⟩
  refine bM hT ?_
  clear hT
  unfold gJ at h0
  obtain ⟨rr0, hl0, h0⟩ := aT h0
  refine eE (by kernel_rfl) (fun (s : σ × Int) T H => ∃ G : Gs, Has T [(0, (eL aI s0)), (1, f1_v), (7, (eI t7)), (8, (eI s.2))] ∧ aJ ⟨H0, List.map (fun p : Nat × cV => p.1) G0, G⟩ H [] ∧ I s.1 G) hl0 ⟨G, .eq (by kernel_rfl), hO, hI⟩ ?_
  clear hO hI
  rintro k0 s out1 T H ⟨G, hT, hO, hI⟩ h1 ho0
  obtain ⟨sg, t8⟩ := s
  replace h1 : cB f1 s0 t7 sg t8 = some out1 := h1
  try dsimp only at hT
  refine bM hT ?_
  clear hT
  unfold cB at h1
  refine aS aC 1 [] [(9, (aB (decide (t8 < t7))))] ?_
  refine aM ?_
  refine bP h1 (fun h1 => ?_) (fun h1 => ?_)
  · refine bQ ?_
    refine bE [(0, (eL aI s0)), (1, f1_v), (7, (eI t7)), (8, (eI t8))] ?_
    refine aM ?_
    refine cI 1 ?_
    refine aS aC 2 [] [(5, (eI t8))] ?_
    refine aM ?_
    refine aQ aC 6 ?_
    obtain ⟨c2, h1⟩ := aY h1
    refine yS 5 [0 ≤ t8 ∧ t8 < (lN s0)] ⟨c2, trivial⟩ ?_
    obtain ⟨x3, hx4, h1⟩ := aT h1
    refine CE (I := I) f1_v [(aI (gD s0 t8))] (aB x3.2) (by kernel_rfl) (by kernel_rfl) (f1_h _ (gD s0 t8) x3.1 x3.2 hx4) hO hI ?_
    intro G H hO hI
    refine dY ?_
    refine cC [] [(16, (aB x3.2))] ?_
    refine bP h1 (fun h1 => ?_) (fun h1 => ?_)
    · refine cO aC 2 [(4, (eI t8))] ?_
      refine bL ?_
      obtain rfl := oI h1
      obtain rfl : _ = rr0 := ho0
      replace h0 : some (x3.1, t8) = some r := h0
      obtain rfl := oI h0
      exact aD (bG (aP (aP (bG (aP (lG (x := (eI t8)) (by kernel_rfl) (aL.refl _) ⟨rfl, G, hI, hO.uD⟩))))))
    refine bQ ?_
    refine gT [(0, (eL aI s0)), (1, f1_v), (7, (eI t7)), (8, (eI t8))] ?_
    refine aD (aU (aF (?_)))
    refine aQ aC 2 ?_
    refine bC ?_
    exact aD (aF (⟨rfl, _, (oI h1).symm, _, .eq (by kernel_rfl), hO, hI⟩))
  refine jI 0 ?_
  obtain rfl := oI h1
  obtain rfl : _ = rr0 := ho0
  replace h0 : eU f1 sg = some r := h0
  exact aD (aV (aV (cH (aF (⟨rfl, _, _, .eq (by kernel_rfl), hO, hI, h0⟩)))))

theorem CI (v0 : aE) (lo1p : Nat) (t1 : Int) (t2 : (List aE)) (r : (Bool × Int)) (h0 : jM v0 t1 t2 = some r) : lZ Try.prog 97 lo1p 1 [(eI t1)] [(eI r.2)] [(aI v0), (.lp lo1p 0 0), (.rp (eL aI t2))] (aB r.1) := by
  intro H0 hl0
  refine dQ Try.func97 ?_
  have hO := aJ.rN hl0
  clear hl0
  unfold jM at h0
  refine aM ?_
  refine aQ aC 2 ?_
  refine fX 3 (aI v0) (by kernel_rfl) (by kernel_rfl) ?_
  refine bC ?_
  refine cC [0] [(3, (.rp (aI v0)))] ?_
  refine aM ?_
  refine aQ aC 3 ?_
  refine mW 0 lo1p 1 0 (eI t1) (eI t1) [(eI t1)] hO rfl ?_
  refine bO 2 ?_
  refine iY 0 lo1p 1 0 (eI t1) (eI (wR (t1 + (1 : Int)))) [(eI t1)] [(lo1p, 1, [(eI (wR (t1 + (1 : Int))))])] hO rfl (by kernel_rfl) ?_
  intro H hO
  refine dY ?_
  refine cC [] [] ?_
  refine aM ?_
  refine gQ (gM [7, 8, 11]) aC 7 ?_
  refine lC 2 ?_
  refine gO 0 lo1p 1 0 (eI (wR (t1 + (1 : Int)))) (eI (wR (t1 + (1 : Int)))) [(eI (wR (t1 + (1 : Int))))] hO rfl ?_
  obtain ⟨c1, h0⟩ := aY h0
  refine FI (Ds := [0 ≤ (wR (t1 + (1 : Int))) ∧ (wR (t1 + (1 : Int))) < (lN t2)]) (by kernel_rfl) ⟨c1, trivial⟩ ?_
  refine bE [(1, (.lp lo1p 0 0)), (4, (aB (!((decide (v0.Kind = ((gD t2 (wR (t1 + (1 : Int)))).Kind))) && ((decide (v0.Num = ((gD t2 (wR (t1 + (1 : Int)))).Num))) && ((nU v0.Text ((gD t2 (wR (t1 + (1 : Int)))).Text)) && true))))))] ?_
  refine bL ?_
  obtain rfl := oI h0
  exact aD (lG (x := (aB (!((decide (v0.Kind = ((gD t2 (wR (t1 + (1 : Int)))).Kind))) && ((decide (v0.Num = ((gD t2 (wR (t1 + (1 : Int)))).Num))) && ((nU v0.Text ((gD t2 (wR (t1 + (1 : Int)))).Text)) && true)))))) (by kernel_rfl) (aL.refl _) ⟨rfl, hO.ext, hO.at 0 (by kernel_rfl), rfl⟩)

theorem qO (x0 : Int) (r : Bool) (h0 : kP x0 = some r) : dU Try.prog 105 [(eI x0)] (aB r) := by
  intro H0
  refine dQ Try.func105 ?_
  have hO := aJ.start H0
  unfold kP at h0
  refine aS aC 1 [] [] ?_
  refine cO aC 4 [(2, (aB (!decide (x0 = x0))))] ?_
  refine bL ?_
  obtain rfl := oI h0
  exact aD (Q_r hO)

theorem CL (x0 : Int) (y1 : Int) (r : Int) (h0 : mS x0 y1 = some r) : dU Try.prog 98 [(eI x0), (eI y1)] (eI r) := by
  intro H0
  refine dQ Try.func98 ?_
  have hO := aJ.start H0
  unfold mS at h0
  refine aS aC 1 [] [] ?_
  refine aM ?_
  refine aQ aC 3 ?_
  refine bO 1 ?_
  obtain ⟨x1, hx2, h0⟩ := aT h0
  refine fC (qO x0 _ hx2) hO ?_
  intro H hO
  refine bC ?_
  refine cC [] [(5, (aB x1))] ?_
  refine aM ?_
  refine aQ aC 3 ?_
  refine bO 1 ?_
  obtain ⟨x4, hx5, h0⟩ := aT h0
  refine fC (qO y1 _ hx5) hO ?_
  intro H hO
  refine bC ?_
  refine cC [] [(6, (aB x4))] ?_
  refine aM ?_
  refine aS aC 1 [5] [(11, (aB x1))] ?_
  refine bP h0 (fun h0 => ?_) (fun h0 => ?_)
  · refine aM ?_
    refine cO aC 1 [(12, (aB x4))] ?_
    refine bP h0 (fun h0 => ?_) (fun h0 => ?_)
    · refine cO aC 1 [(4, (eI (0 : Int)))] ?_
      refine bL ?_
      obtain rfl := oI h0
      exact aD (aP (aP (Q_r hO)))
    refine bQ ?_
    refine bE [] ?_
    refine cO aC 1 [(4, (eI (-1 : Int)))] ?_
    refine bL ?_
    obtain rfl := oI h0
    exact aD (aP (Q_r hO))
  refine bQ ?_
  refine bE [(0, (eI x0)), (1, (eI y1)), (6, (aB x4))] ?_
  refine aM ?_
  refine aS aC 1 [6] [(13, (aB x4))] ?_
  refine bP h0 (fun h0 => ?_) (fun h0 => ?_)
  · refine cO aC 1 [(4, (eI (1 : Int)))] ?_
    refine bL ?_
    obtain rfl := oI h0
    exact aD (aP (Q_r hO))
  refine bQ ?_
  refine bE [(0, (eI x0)), (1, (eI y1))] ?_
  refine aM ?_
  refine aS aC 3 [] [(16, (aB (decide (x0 < y1))))] ?_
  refine bP h0 (fun h0 => ?_) (fun h0 => ?_)
  · refine cO aC 1 [(4, (eI (-1 : Int)))] ?_
    refine bL ?_
    obtain rfl := oI h0
    exact aD (aP (Q_r hO))
  refine bQ ?_
  refine bE [(0, (eI x0)), (1, (eI y1))] ?_
  refine aM ?_
  refine cO aC 3 [(19, (aB (decide (y1 < x0))))] ?_
  refine bP h0 (fun h0 => ?_) (fun h0 => ?_)
  · refine cO aC 1 [(4, (eI (1 : Int)))] ?_
    refine bL ?_
    obtain rfl := oI h0
    exact aD (aP (Q_r hO))
  refine bQ ?_
  refine bE [] ?_
  refine cO aC 1 [(4, (eI (0 : Int)))] ?_
  refine bL ?_
  obtain rfl := oI h0
  exact aD (Q_r hO)

theorem qZ (x0 : Int) (r : Bool) (h0 : kE x0 = some r) : dU Try.prog 110 [(eI x0)] (aB r) := by
  intro H0
  refine dQ Try.func110 ?_
  have hO := aJ.start H0
  unfold kE at h0
  refine aS aC 1 [] [] ?_
  refine cO aC 4 [(2, (aB (!decide (x0 = x0))))] ?_
  refine bL ?_
  obtain rfl := oI h0
  exact aD (Q_r hO)

theorem vG (x0 : Int) (y1 : Int) (r : Int) (h0 : fL x0 y1 = some r) : dU Try.prog 107 [(eI x0), (eI y1)] (eI r) := by
  intro H0
  refine dQ Try.func107 ?_
  have hO := aJ.start H0
  unfold fL at h0
  refine aS aC 1 [] [] ?_
  refine aM ?_
  refine aQ aC 3 ?_
  refine bO 1 ?_
  obtain ⟨x1, hx2, h0⟩ := aT h0
  refine fC (qZ x0 _ hx2) hO ?_
  intro H hO
  refine bC ?_
  refine cC [] [(5, (aB x1))] ?_
  refine aM ?_
  refine aQ aC 3 ?_
  refine bO 1 ?_
  obtain ⟨x4, hx5, h0⟩ := aT h0
  refine fC (qZ y1 _ hx5) hO ?_
  intro H hO
  refine bC ?_
  refine cC [] [(6, (aB x4))] ?_
  refine aM ?_
  refine aS aC 1 [5] [(11, (aB x1))] ?_
  refine bP h0 (fun h0 => ?_) (fun h0 => ?_)
  · refine aM ?_
    refine cO aC 1 [(12, (aB x4))] ?_
    refine bP h0 (fun h0 => ?_) (fun h0 => ?_)
    · refine cO aC 1 [(4, (eI (0 : Int)))] ?_
      refine bL ?_
      obtain rfl := oI h0
      exact aD (aP (aP (Q_r hO)))
    refine bQ ?_
    refine bE [] ?_
    refine cO aC 1 [(4, (eI (-1 : Int)))] ?_
    refine bL ?_
    obtain rfl := oI h0
    exact aD (aP (Q_r hO))
  refine bQ ?_
  refine bE [(0, (eI x0)), (1, (eI y1)), (6, (aB x4))] ?_
  refine aM ?_
  refine aS aC 1 [6] [(13, (aB x4))] ?_
  refine bP h0 (fun h0 => ?_) (fun h0 => ?_)
  · refine cO aC 1 [(4, (eI (1 : Int)))] ?_
    refine bL ?_
    obtain rfl := oI h0
    exact aD (aP (Q_r hO))
  refine bQ ?_
  refine bE [(0, (eI x0)), (1, (eI y1))] ?_
  refine aM ?_
  refine aS aC 3 [] [(16, (aB (decide (x0 < y1))))] ?_
  refine bP h0 (fun h0 => ?_) (fun h0 => ?_)
  · refine cO aC 1 [(4, (eI (-1 : Int)))] ?_
    refine bL ?_
    obtain rfl := oI h0
    exact aD (aP (Q_r hO))
  refine bQ ?_
  refine bE [(0, (eI x0)), (1, (eI y1))] ?_
  refine aM ?_
  refine cO aC 3 [(19, (aB (decide (y1 < x0))))] ?_
  refine bP h0 (fun h0 => ?_) (fun h0 => ?_)
  · refine cO aC 1 [(4, (eI (1 : Int)))] ?_
    refine bL ?_
    obtain rfl := oI h0
    exact aD (aP (Q_r hO))
  refine bQ ?_
  refine bE [] ?_
  refine cO aC 1 [(4, (eI (0 : Int)))] ?_
  refine bL ?_
  obtain rfl := oI h0
  exact aD (Q_r hO)

theorem tE (a0 : ByteArray) (b1 : ByteArray) (r : Int) (h0 : jH a0 b1 = some r) : dU Try.prog 111 [(xO a0), (xO b1)] (eI r) := by
  intro H0
  refine dQ Try.func111 ?_
  have hO := aJ.start H0
  unfold jH at h0
  refine aS aC 1 [] [] ?_
  refine aM ?_
  refine aQ aC 4 ?_
  refine bO 2 ?_
  refine YU 112 [(xO a0), (xO b1)] (eI (GZ a0 b1)) (by kernel_rfl) (by kernel_rfl) (VX Try.func112 (by kernel_rfl) (by kernel_rfl) (by kernel_rfl) (by kernel_rfl) a0 b1) hO ?_
  intro H hO
  refine bC ?_
  refine bE [(4, (eI (GZ a0 b1)))] ?_
  refine bL ?_
  obtain rfl := oI h0
  exact aD (Q_r hO)

theorem CO (a0 : ByteArray) (b1 : ByteArray) (r : Int) (h0 : lM a0 b1 = some r) : dU Try.prog 108 [(xO a0), (xO b1)] (eI r) := by
  intro H0
  refine dQ Try.func108 ?_
  have hO := aJ.start H0
  unfold lM at h0
  refine aS aC 1 [] [] ?_
  refine aM ?_
  refine aQ aC 4 ?_
  refine bO 2 ?_
  obtain ⟨x1, hx2, h0⟩ := aT h0
  refine fC (tE a0 b1 _ hx2) hO ?_
  intro H hO
  refine bC ?_
  refine bE [(4, (eI x1))] ?_
  refine bL ?_
  obtain rfl := oI h0
  exact aD (Q_r hO)

theorem EJ (a0 : aE) (b1 : aE) (r : Int) (h0 : nX a0 b1 = some r) : dU Try.prog 99 [(aI a0), (aI b1)] (eI r) := by
  intro H0
  refine dQ Try.func99 ?_
  have hO := aJ.start H0
  unfold nX at h0
  refine aM ?_
  refine aQ aC 3 ?_
  refine fX 3 (aI a0) (by kernel_rfl) (by kernel_rfl) ?_
  refine fX 3 (aI b1) (by kernel_rfl) (by kernel_rfl) ?_
  refine bC ?_
  refine bE [(2, (.rp (aI a0))), (3, (.rp (aI b1)))] ?_
  refine aM ?_
  refine aQ aC 7 ?_
  refine bO 1 ?_
  obtain ⟨⟨x1_0, x1_1⟩, hx2, h0⟩ := aT h0
  refine fC (tZ a0 _ hx2) hO ?_
  intro H hO
  rcases x1_0 with _ | y4 | y5
  · replace h0 : ((kY b1).bind fun (x6_0, x6_1) => match x6_0 with | .none_ => (cond ((!x1_1) || (!x6_1)) (some (0 : Int)) (none)) | .k_number y9 => (cond ((!x1_1) || (!x6_1)) (some (0 : Int)) (some (1 : Int))) | .k_words y10 => (cond ((!x1_1) || (!x6_1)) (some (0 : Int)) (none))) = some r := h0
    refine bC ?_
    refine cC [2] [(5, (aZ bB.none_)), (6, (aB x1_1))] ?_
    refine aM ?_
    refine aQ aC 7 ?_
    refine bO 1 ?_
    obtain ⟨⟨x6_0, x6_1⟩, hx7, h0⟩ := aT h0
    refine fC (tZ b1 _ hx7) hO ?_
    intro H hO
    rcases x6_0 with _ | y9 | y10
    · replace h0 : (cond ((!x1_1) || (!x6_1)) (some (0 : Int)) (none)) = some r := h0
      refine bC ?_
      refine cC [3] [(7, (aZ bB.none_)), (8, (aB x6_1))] ?_
      refine aM ?_
      refine aS aC 6 [6, 8] [(28, (aB ((!x1_1) || (!x6_1))))] ?_
      refine bP h0 (fun h0 => ?_) (fun h0 => ?_)
      · refine cO aC 1 [(4, (eI (0 : Int)))] ?_
        refine bL ?_
        obtain rfl := oI h0
        exact aD (aP (Q_r hO))
      refine bQ ?_
      refine bE [(5, (aZ bB.none_)), (7, (aZ bB.none_))] ?_
      refine aS aC 7 [] [(9, (eI 0)), (10, (aB false))] ?_
      refine aS aC 7 [] [(11, (eI 0)), (12, (aB false))] ?_
      refine aM ?_
      refine cI 0 ?_
      refine aS aC 5 [] [(39, (aB false))] ?_
      refine lS (false) (fun hc12 => ?_) (fun hc12 => ?_)
      · cases hc12
      · refine aS aC 2 [9, 10, 11, 39] [(47, (aB false))] ?_
        refine lS (false) (fun hc13 => ?_) (fun hc13 => ?_)
        · cases hc13
        · refine cO aC 2 [(5, (aZ bB.none_)), (7, (aZ bB.none_)), (49, (aB false))] ?_
          refine lS (false) (fun hc14 => ?_) (fun hc14 => ?_)
          · cases hc14
          · refine bQ ?_
            refine gT [(5, (aZ bB.none_)), (7, (aZ bB.none_))] ?_
            refine aD (aU (aF (?_)))
            refine aM ?_
            refine gQ (gM []) aC 6 ?_
            cases h0
    · replace h0 : (cond ((!x1_1) || (!x6_1)) (some (0 : Int)) (some (1 : Int))) = some r := h0
      refine bC ?_
      refine cC [3] [(7, (aZ (bB.k_number y9))), (8, (aB x6_1))] ?_
      refine aM ?_
      refine aS aC 6 [6, 8] [(28, (aB ((!x1_1) || (!x6_1))))] ?_
      refine bP h0 (fun h0 => ?_) (fun h0 => ?_)
      · refine cO aC 1 [(4, (eI (0 : Int)))] ?_
        refine bL ?_
        obtain rfl := oI h0
        exact aD (aP (Q_r hO))
      refine bQ ?_
      refine bE [(5, (aZ bB.none_)), (7, (aZ (bB.k_number y9)))] ?_
      refine aS aC 7 [] [(9, (eI 0)), (10, (aB false))] ?_
      refine aS aC 7 [] [(11, (eI y9)), (12, (aB true))] ?_
      refine aM ?_
      refine cI 0 ?_
      refine aS aC 5 [] [(39, (aB false))] ?_
      refine lS (false) (fun hc16 => ?_) (fun hc16 => ?_)
      · cases hc16
      · refine aS aC 2 [9, 10, 11, 39] [(47, (aB false))] ?_
        refine lS (false) (fun hc17 => ?_) (fun hc17 => ?_)
        · cases hc17
        · refine cO aC 2 [(5, (aZ bB.none_)), (7, (aZ (bB.k_number y9))), (49, (aB true))] ?_
          refine lS (true) (fun hc18 => ?_) (fun hc18 => ?_)
          · refine cO aC 1 [(4, (eI (1 : Int)))] ?_
            refine bL ?_
            obtain rfl := oI h0
            exact aD (bG (aP (Q_r hO)))
          · cases hc18
    · replace h0 : (cond ((!x1_1) || (!x6_1)) (some (0 : Int)) (none)) = some r := h0
      refine bC ?_
      refine cC [3] [(7, (aZ (bB.k_words y10))), (8, (aB x6_1))] ?_
      refine aM ?_
      refine aS aC 6 [6, 8] [(28, (aB ((!x1_1) || (!x6_1))))] ?_
      refine bP h0 (fun h0 => ?_) (fun h0 => ?_)
      · refine cO aC 1 [(4, (eI (0 : Int)))] ?_
        refine bL ?_
        obtain rfl := oI h0
        exact aD (aP (Q_r hO))
      refine bQ ?_
      refine bE [(5, (aZ bB.none_)), (7, (aZ (bB.k_words y10)))] ?_
      refine aS aC 7 [] [(9, (eI 0)), (10, (aB false))] ?_
      refine aS aC 7 [] [(11, (eI 0)), (12, (aB false))] ?_
      refine aM ?_
      refine cI 0 ?_
      refine aS aC 5 [] [(39, (aB false))] ?_
      refine lS (false) (fun hc20 => ?_) (fun hc20 => ?_)
      · cases hc20
      · refine aS aC 2 [9, 10, 11, 39] [(47, (aB false))] ?_
        refine lS (false) (fun hc21 => ?_) (fun hc21 => ?_)
        · cases hc21
        · refine cO aC 2 [(5, (aZ bB.none_)), (7, (aZ (bB.k_words y10))), (49, (aB false))] ?_
          refine lS (false) (fun hc22 => ?_) (fun hc22 => ?_)
          · cases hc22
          · refine bQ ?_
            refine gT [(5, (aZ bB.none_)), (7, (aZ (bB.k_words y10)))] ?_
            refine aD (aU (aF (?_)))
            refine aM ?_
            refine gQ (gM []) aC 6 ?_
            cases h0
  · replace h0 : ((kY b1).bind fun (x23_0, x23_1) => match x23_0 with | .none_ => (cond ((!x1_1) || (!x23_1)) (some (0 : Int)) (some (-1 : Int))) | .k_number y26 => (cond ((!x1_1) || (!x23_1)) (some (0 : Int)) ((fL y4 y26).bind fun x33 => some x33)) | .k_words y27 => (cond ((!x1_1) || (!x23_1)) (some (0 : Int)) (some (-1 : Int)))) = some r := h0
    refine bC ?_
    refine cC [2] [(5, (aZ (bB.k_number y4))), (6, (aB x1_1))] ?_
    refine aM ?_
    refine aQ aC 7 ?_
    refine bO 1 ?_
    obtain ⟨⟨x23_0, x23_1⟩, hx24, h0⟩ := aT h0
    refine fC (tZ b1 _ hx24) hO ?_
    intro H hO
    rcases x23_0 with _ | y26 | y27
    · replace h0 : (cond ((!x1_1) || (!x23_1)) (some (0 : Int)) (some (-1 : Int))) = some r := h0
      refine bC ?_
      refine cC [3] [(7, (aZ bB.none_)), (8, (aB x23_1))] ?_
      refine aM ?_
      refine aS aC 6 [6, 8] [(28, (aB ((!x1_1) || (!x23_1))))] ?_
      refine bP h0 (fun h0 => ?_) (fun h0 => ?_)
      · refine cO aC 1 [(4, (eI (0 : Int)))] ?_
        refine bL ?_
        obtain rfl := oI h0
        exact aD (aP (Q_r hO))
      refine bQ ?_
      refine bE [(5, (aZ (bB.k_number y4))), (7, (aZ bB.none_))] ?_
      refine aS aC 7 [] [(9, (eI y4)), (10, (aB true))] ?_
      refine aS aC 7 [] [(11, (eI 0)), (12, (aB false))] ?_
      refine aM ?_
      refine cI 0 ?_
      refine aS aC 5 [] [(39, (aB false))] ?_
      refine lS (false) (fun hc29 => ?_) (fun hc29 => ?_)
      · cases hc29
      · refine aS aC 2 [9, 10, 11, 39] [(47, (aB true))] ?_
        refine lS (true) (fun hc30 => ?_) (fun hc30 => ?_)
        · refine cO aC 1 [(4, (eI (-1 : Int)))] ?_
          refine bL ?_
          obtain rfl := oI h0
          exact aD (bG (aP (Q_r hO)))
        · cases hc30
    · replace h0 : (cond ((!x1_1) || (!x23_1)) (some (0 : Int)) ((fL y4 y26).bind fun x33 => some x33)) = some r := h0
      refine bC ?_
      refine cC [3] [(7, (aZ (bB.k_number y26))), (8, (aB x23_1))] ?_
      refine aM ?_
      refine aS aC 6 [6, 8] [(28, (aB ((!x1_1) || (!x23_1))))] ?_
      refine bP h0 (fun h0 => ?_) (fun h0 => ?_)
      · refine cO aC 1 [(4, (eI (0 : Int)))] ?_
        refine bL ?_
        obtain rfl := oI h0
        exact aD (aP (Q_r hO))
      refine bQ ?_
      refine bE [(5, (aZ (bB.k_number y4))), (7, (aZ (bB.k_number y26)))] ?_
      refine aS aC 7 [] [(9, (eI y4)), (10, (aB true))] ?_
      refine aS aC 7 [] [(11, (eI y26)), (12, (aB true))] ?_
      refine aM ?_
      refine cI 0 ?_
      refine aS aC 5 [] [(39, (aB true))] ?_
      refine lS (true) (fun hc32 => ?_) (fun hc32 => ?_)
      · refine aM ?_
        refine aQ aC 4 ?_
        refine bO 2 ?_
        obtain ⟨x33, hx34, h0⟩ := aT h0
        refine fC (vG y4 y26 _ hx34) hO ?_
        intro H hO
        refine bC ?_
        refine bE [(4, (eI x33))] ?_
        refine bL ?_
        obtain rfl := oI h0
        exact aD (bG (aP (Q_r hO)))
      · cases hc32
    · replace h0 : (cond ((!x1_1) || (!x23_1)) (some (0 : Int)) (some (-1 : Int))) = some r := h0
      refine bC ?_
      refine cC [3] [(7, (aZ (bB.k_words y27))), (8, (aB x23_1))] ?_
      refine aM ?_
      refine aS aC 6 [6, 8] [(28, (aB ((!x1_1) || (!x23_1))))] ?_
      refine bP h0 (fun h0 => ?_) (fun h0 => ?_)
      · refine cO aC 1 [(4, (eI (0 : Int)))] ?_
        refine bL ?_
        obtain rfl := oI h0
        exact aD (aP (Q_r hO))
      refine bQ ?_
      refine bE [(5, (aZ (bB.k_number y4))), (7, (aZ (bB.k_words y27)))] ?_
      refine aS aC 7 [] [(9, (eI y4)), (10, (aB true))] ?_
      refine aS aC 7 [] [(11, (eI 0)), (12, (aB false))] ?_
      refine aM ?_
      refine cI 0 ?_
      refine aS aC 5 [] [(39, (aB false))] ?_
      refine lS (false) (fun hc37 => ?_) (fun hc37 => ?_)
      · cases hc37
      · refine aS aC 2 [9, 10, 11, 39] [(47, (aB true))] ?_
        refine lS (true) (fun hc38 => ?_) (fun hc38 => ?_)
        · refine cO aC 1 [(4, (eI (-1 : Int)))] ?_
          refine bL ?_
          obtain rfl := oI h0
          exact aD (bG (aP (Q_r hO)))
        · cases hc38
  · replace h0 : ((kY b1).bind fun (x39_0, x39_1) => match x39_0 with | .none_ => (cond ((!x1_1) || (!x39_1)) (some (0 : Int)) (none)) | .k_number y42 => (cond ((!x1_1) || (!x39_1)) (some (0 : Int)) (some (1 : Int))) | .k_words y43 => (cond ((!x1_1) || (!x39_1)) (some (0 : Int)) ((lM y5 y43).bind fun x56 => some x56))) = some r := h0
    refine bC ?_
    refine cC [2] [(5, (aZ (bB.k_words y5))), (6, (aB x1_1))] ?_
    refine aM ?_
    refine aQ aC 7 ?_
    refine bO 1 ?_
    obtain ⟨⟨x39_0, x39_1⟩, hx40, h0⟩ := aT h0
    refine fC (tZ b1 _ hx40) hO ?_
    intro H hO
    rcases x39_0 with _ | y42 | y43
    · replace h0 : (cond ((!x1_1) || (!x39_1)) (some (0 : Int)) (none)) = some r := h0
      refine bC ?_
      refine cC [3] [(7, (aZ bB.none_)), (8, (aB x39_1))] ?_
      refine aM ?_
      refine aS aC 6 [6, 8] [(28, (aB ((!x1_1) || (!x39_1))))] ?_
      refine bP h0 (fun h0 => ?_) (fun h0 => ?_)
      · refine cO aC 1 [(4, (eI (0 : Int)))] ?_
        refine bL ?_
        obtain rfl := oI h0
        exact aD (aP (Q_r hO))
      refine bQ ?_
      refine bE [(5, (aZ (bB.k_words y5))), (7, (aZ bB.none_))] ?_
      refine aS aC 7 [] [(9, (eI 0)), (10, (aB false))] ?_
      refine aS aC 7 [] [(11, (eI 0)), (12, (aB false))] ?_
      refine aM ?_
      refine cI 0 ?_
      refine aS aC 5 [] [(39, (aB false))] ?_
      refine lS (false) (fun hc45 => ?_) (fun hc45 => ?_)
      · cases hc45
      · refine aS aC 2 [9, 10, 11, 39] [(47, (aB false))] ?_
        refine lS (false) (fun hc46 => ?_) (fun hc46 => ?_)
        · cases hc46
        · refine cO aC 2 [(5, (aZ (bB.k_words y5))), (7, (aZ bB.none_)), (49, (aB false))] ?_
          refine lS (false) (fun hc47 => ?_) (fun hc47 => ?_)
          · cases hc47
          · refine bQ ?_
            refine gT [(5, (aZ (bB.k_words y5))), (7, (aZ bB.none_))] ?_
            refine aD (aU (aF (?_)))
            refine aM ?_
            refine gQ (gM []) aC 6 ?_
            cases h0
    · replace h0 : (cond ((!x1_1) || (!x39_1)) (some (0 : Int)) (some (1 : Int))) = some r := h0
      refine bC ?_
      refine cC [3] [(7, (aZ (bB.k_number y42))), (8, (aB x39_1))] ?_
      refine aM ?_
      refine aS aC 6 [6, 8] [(28, (aB ((!x1_1) || (!x39_1))))] ?_
      refine bP h0 (fun h0 => ?_) (fun h0 => ?_)
      · refine cO aC 1 [(4, (eI (0 : Int)))] ?_
        refine bL ?_
        obtain rfl := oI h0
        exact aD (aP (Q_r hO))
      refine bQ ?_
      refine bE [(5, (aZ (bB.k_words y5))), (7, (aZ (bB.k_number y42)))] ?_
      refine aS aC 7 [] [(9, (eI 0)), (10, (aB false))] ?_
      refine aS aC 7 [] [(11, (eI y42)), (12, (aB true))] ?_
      refine aM ?_
      refine cI 0 ?_
      refine aS aC 5 [] [(39, (aB false))] ?_
      refine lS (false) (fun hc49 => ?_) (fun hc49 => ?_)
      · cases hc49
      · refine aS aC 2 [9, 10, 11, 39] [(47, (aB false))] ?_
        refine lS (false) (fun hc50 => ?_) (fun hc50 => ?_)
        · cases hc50
        · refine cO aC 2 [(5, (aZ (bB.k_words y5))), (7, (aZ (bB.k_number y42))), (49, (aB true))] ?_
          refine lS (true) (fun hc51 => ?_) (fun hc51 => ?_)
          · refine cO aC 1 [(4, (eI (1 : Int)))] ?_
            refine bL ?_
            obtain rfl := oI h0
            exact aD (bG (aP (Q_r hO)))
          · cases hc51
    · replace h0 : (cond ((!x1_1) || (!x39_1)) (some (0 : Int)) ((lM y5 y43).bind fun x56 => some x56)) = some r := h0
      refine bC ?_
      refine cC [3] [(7, (aZ (bB.k_words y43))), (8, (aB x39_1))] ?_
      refine aM ?_
      refine aS aC 6 [6, 8] [(28, (aB ((!x1_1) || (!x39_1))))] ?_
      refine bP h0 (fun h0 => ?_) (fun h0 => ?_)
      · refine cO aC 1 [(4, (eI (0 : Int)))] ?_
        refine bL ?_
        obtain rfl := oI h0
        exact aD (aP (Q_r hO))
      refine bQ ?_
      refine bE [(5, (aZ (bB.k_words y5))), (7, (aZ (bB.k_words y43)))] ?_
      refine aS aC 7 [] [(9, (eI 0)), (10, (aB false))] ?_
      refine aS aC 7 [] [(11, (eI 0)), (12, (aB false))] ?_
      refine aM ?_
      refine cI 0 ?_
      refine aS aC 5 [] [(39, (aB false))] ?_
      refine lS (false) (fun hc53 => ?_) (fun hc53 => ?_)
      · cases hc53
      · refine aS aC 2 [9, 10, 11, 39] [(47, (aB false))] ?_
        refine lS (false) (fun hc54 => ?_) (fun hc54 => ?_)
        · cases hc54
        · refine cO aC 2 [(5, (aZ (bB.k_words y5))), (7, (aZ (bB.k_words y43))), (49, (aB false))] ?_
          refine lS (false) (fun hc55 => ?_) (fun hc55 => ?_)
          · cases hc55
          · refine bQ ?_
            refine gT [(5, (aZ (bB.k_words y5))), (7, (aZ (bB.k_words y43)))] ?_
            refine aD (aU (aF (?_)))
            refine aM ?_
            refine gQ (gM []) aC 6 ?_
            refine lC 4 ?_
            obtain ⟨x56, hx57, h0⟩ := aT h0
            refine xT (CO y5 y43 _ hx57) hO ?_
            intro H hO
            refine kT ?_
            refine bE [(4, (eI x56))] ?_
            refine bL ?_
            obtain rfl := oI h0
            exact aD (Q_r hO)

theorem JB (a0 : (List aE)) (b1 : (List aE)) (r : Int) (h0 : pS a0 b1 = some r) : dU Try.prog 72 [(eL aI a0), (eL aI b1)] (eI r) := by
  intro H0
  refine dQ Try.func72 ?_
  have hO := aJ.start H0
  unfold pS at h0
  refine aM ?_
  refine aQ aC 2 ?_
  refine fX 1 (eL aI b1) (by kernel_rfl) (by kernel_rfl) ?_
  refine bC ?_
  refine cC [1] [(3, (.rp (eL aI b1)))] ?_
  refine aM ?_
  refine aM ?_
  refine aQ aC 8 ?_
  refine bO 1 ?_
  obtain ⟨x1, hx2, h0⟩ := aT h0
  refine fC (AN a0 _ hx2) hO ?_
  intro H hO
  refine bO 5 ?_
  obtain ⟨x4, hx5, h0⟩ := aT h0
  refine mJ [(10, false)] 71 [(eL aI b1)] (aB x4) (!(!x1)) (by kernel_rfl) (by kernel_rfl) (by kernel_rfl) (fun hb6 => (AN b1 _ (jO hx5 hb6))) hO ?_
  intro H hO
  refine bC ?_
  refine cC [] [(14, (aB ((!x1) || (!x4))))] ?_
  refine bP h0 (fun h0 => ?_) (fun h0 => ?_)
  · refine cO aC 1 [(4, (eI (0 : Int)))] ?_
    refine bL ?_
    obtain rfl := oI h0
    exact aD (aP (Q_r hO))
  refine bQ ?_
  refine bE [(0, (eL aI a0)), (3, (.rp (eL aI b1)))] ?_
  refine aS aC 6 [] [(5, (eI (if (lN b1) < (lN a0) then (lN b1) else (lN a0))))] ?_
  refine aM ?_
  refine gQ (gM []) aC 7 ?_
  obtain ⟨c8, h0⟩ := aY h0
  refine cJ 4 [0 ≤ (if (lN b1) < (lN a0) then (lN b1) else (lN a0)) ∧ (if (lN b1) < (lN a0) then (lN b1) else (lN a0)) ≤ (lN a0)] ⟨c8, trivial⟩ ?_
  obtain ⟨x9, hx10, h0⟩ := aT h0
  refine XL (L' := fun lo11 => [(lo11, 1, [(eI x9.1)])]) 1 [(eI x9.1)] 96 [(.rp (eL aI b1))] (fun lo11 => (.fn (.func 97) [] [(.lp lo11 0 0), (.rp (eL aI x9.2))])) (by kernel_rfl) (by kernel_rfl) (EZ b1 _ hx10) hO (fun _ => by kernel_rfl) ?_
  intro lo11 H hO
  obtain ⟨x12, hx13, h0⟩ := aT h0
  refine YA (fun st G' => G' = up [(lo11, 1, [(eI st)])] ++ []) [(lo11, 1, [(eI x12.1)])] x9.1 x12.1 95 [(.sl false (Int.toNat (if (lN b1) < (lN a0) then (lN b1) else (lN a0))) (fun i => aI (List.getD a0 i default))), (.fn (.func 97) [] [(.lp lo11 0 0), (.rp (eL aI x9.2))])] (eI x12.2) (by kernel_rfl) (by kernel_rfl) (tA.sub (as0' := [(eL aI (List.take (Int.toNat (if (lN b1) < (lN a0) then (lN b1) else (lN a0))) a0)), (.fn (.func 97) [] [(.lp lo11 0 0), (.rp (eL aI x9.2))])]) (qL _ (List.take (Int.toNat (if (lN b1) < (lN a0) then (lN b1) else (lN a0))) a0) (.fn (.func 97) [] [(.lp lo11 0 0), (.rp (eL aI x9.2))]) (fun st y0 => (jM y0 st x9.2).bind fun o => some (o.2, o.1)) (fun st y0 st2 rr hr => (CI y0 lo11 st x9.2 _ (aAp hr)).toV (ys := []) (zs := [(aI y0)]) (cs := [(.lp lo11 0 0), (.rp (eL aI x9.2))]) (fun Gx hG => ⟨up [], up [] ++ [], hG, rfl⟩)) _ _ hx13) ⟨XX (Int.toNat_le.2 (And.right c8)), aL.refl _, trivial⟩) hO rfl (fun _ h => h) ?_
  intro H hO
  refine kT ?_
  replace hO := hO.pick (L' := []) [] (by decide) (by kernel_rfl)
  refine cC [5] [(6, (eI x12.2))] ?_
  refine aM ?_
  refine aS aC 2 [] [(27, (aB (decide (x12.2 < (0 : Int)))))] ?_
  refine bP h0 (fun h0 => ?_) (fun h0 => ?_)
  · refine aM ?_
    refine aQ aC 6 ?_
    refine bO 4 ?_
    obtain ⟨x15, hx16, h0⟩ := aT h0
    refine fC (CL (lN a0) (lN b1) _ hx16) hO ?_
    intro H hO
    refine bC ?_
    refine bE [(4, (eI x15))] ?_
    refine bL ?_
    obtain rfl := oI h0
    exact aD (aP (Q_r hO))
  refine bQ ?_
  refine bE [(0, (eL aI a0)), (3, (.rp (eL aI b1))), (6, (eI x12.2))] ?_
  refine aM ?_
  refine gQ (gM [36, 37, 40, 41]) aC 10 ?_
  obtain ⟨c18, h0⟩ := aY h0
  obtain ⟨c19, h0⟩ := aY h0
  refine cJ 8 [0 ≤ x12.2 ∧ x12.2 < (lN a0), 0 ≤ x12.2 ∧ x12.2 < (lN b1)] ⟨c18, c19, trivial⟩ ?_
  obtain ⟨x20, hx21, h0⟩ := aT h0
  refine xT (EJ (gD a0 x12.2) (gD b1 x12.2) _ hx21) hO ?_
  intro H hO
  refine kT ?_
  refine bE [(4, (eI x20))] ?_
  refine bL ?_
  obtain rfl := oI h0
  exact aD (Q_r hO)

theorem CV (l0 : (List bH)) (holds1_f : Nat) (holds1_a holds1_c : List V) (rD : (List aH) → Option Bool) (holds1_h : ∀ a0 r, rD a0 = some r → dU Try.prog holds1_f (holds1_a ++ [(eL aK a0)] ++ holds1_c) (aB r)) (r : Bool) (h0 : qB l0 rD = some r) : dU Try.prog 49 [(eL bS l0), (.fn (.func holds1_f) holds1_a holds1_c)] (aB r) := by
  intro H0
  refine yN aC Try.func49 (by kernel_rfl) (by kernel_rfl) (by kernel_rfl) ?_
  have hO := aJ.start H0
  unfold qB at h0
  refine aM ?_
  refine aQ aC 2 ?_
  refine fX 1 (.fn (.func holds1_f) holds1_a holds1_c) (by kernel_rfl) (by kernel_rfl) ?_
  refine kN 1 (aB false) (by kernel_rfl) (by kernel_rfl) hO ?_
  intro lo1 H hO
  refine dY ?_
  refine cC [1] [(3, (.rp (.fn (.func holds1_f) holds1_a holds1_c))), (4, (.lp lo1 0 0))] ?_
  refine aM ?_
  refine aS aC 3 [] [(11, (aB (decide ((4096 : Int) < (lN l0)))))] ?_
  refine bP h0 (fun h0 => ?_) (fun h0 => ?_)
  · refine aM ?_
    refine aQ aC 1 ?_
    refine iY 0 lo1 1 0 (aB false) (aB false) [(aB false)] [(lo1, 1, [(aB false)])] hO rfl (by kernel_rfl) ?_
    intro H hO
    refine dY ?_
    refine bE [(4, (.lp lo1 0 0))] ?_
    refine bL ?_
    obtain rfl := oI h0
    exact aD (aP (QM0 (.inr rfl) (rs := [.cell 4 4]) (xs := [(aB false)]) (x := (aB false)) (by kernel_rfl) (iC (lo := lo1) (k := 1) (y := (aB false)) (x := (aB false)) 0 hO (by kernel_rfl) (by kernel_rfl) (by kernel_rfl) (by kernel_rfl) lU) (by kernel_rfl) ⟨rfl, hO.out⟩))
  refine bQ ?_
  refine bE [(0, (eL bS l0)), (3, (.rp (.fn (.func holds1_f) holds1_a holds1_c))), (4, (.lp lo1 0 0))] ?_
  refine aM ?_
  refine aQ aC 1 ?_
  refine yX 1 (.sl true 0 (fun _ => .bad)) (eL aI ([])) (by kernel_rfl) (by kernel_rfl) (by kernel_rfl) (lO) (by kernel_rfl) (by kernel_rfl) hO ?_
  intro lo3 H hO
  refine dY ?_
  refine cC [] [(5, (.lp lo3 0 0))] ?_
  refine aM ?_
  refine aQ aC 2 ?_
  refine kN 1 (aB false) (by kernel_rfl) (by kernel_rfl) hO ?_
  intro lo4 H hO
  refine iY 2 lo4 1 0 (aB false) (aB false) [(aB false)] [(lo1, 1, [(aB false)]), (lo3, 1, [(eL aI ([]))]), (lo4, 1, [(aB false)])] hO rfl (by kernel_rfl) ?_
  intro H hO
  refine dY ?_
  refine cC [] [(6, (.lp lo4 0 0))] ?_
  refine aM ?_
  refine aM ?_
  refine aQ aC 2 ?_
  refine bO 1 ?_
  obtain ⟨x5, hx6, h0⟩ := aT h0
  refine fC (CS l0 _ hx6) hO ?_
  intro H hO
  refine dY ?_
  refine cC [0] [(13, (.fn (.func 74) [] [(.rp (eL bS x5))]))] ?_
  refine cI 0 ?_
  refine iA [(3, (.rp (.fn (.func holds1_f) holds1_a holds1_c))), (4, (.lp lo1 0 0)), (5, (.lp lo3 0 0)), (6, (.lp lo4 0 0)), (13, (.fn (.func 74) [] [(.rp (eL bS x5))]))] ?_
  refine gY (fun T H => ∃ t4 : Bool, ∃ mZ : (List aE), ∃ jT : Bool, ∃ rY : (List bH), Has T [(3, (.rp (.fn (.func holds1_f) holds1_a holds1_c))), (4, (.lp lo1 0 0)), (5, (.lp lo3 0 0)), (6, (.lp lo4 0 0)), (13, (.fn (.func 74) [] [(.rp (eL bS rY))]))] ∧ aJ ⟨H0, [], []⟩ H [(lo1, 1, [(aB t4)]), (lo3, 1, [(eL aI mZ)]), (lo4, 1, [(aB jT)])] ∧ tP rD t4 mZ jT rY = some r) ?_ ⟨false, [], false, x5, .eq (by kernel_rfl), hO, h0⟩
  clear hO h0
  rintro T H ⟨t4, mZ, jT, rY, hT, hO, h0⟩
  refine bM (l := [(3, (.rp (.fn (.func holds1_f) holds1_a holds1_c))), (4, (.lp lo1 0 0)), (5, (.lp lo3 0 0)), (6, (.lp lo4 0 0)), (13, (.fn (.func 74) [] [(.rp (eL bS rY))]))]) hT ?_
  clear hT
  unfold tP at h0
  obtain ⟨o0, hl0, h0⟩ := aT h0
  refine wV (fid := 74) (ys := []) (cs := [(.rp (eL bS rY))]) #[14, 15] (fun (A : qQ) (b lL : Nat) (st : (Bool × (List aE) × Bool) ⊕ (Bool × (List aE) × Bool)) (G' : Gs) => Sum.elim (fun (s : Bool × (List aE) × Bool) => G' = (lL, .raw (fV b A .ready none)) :: (up [(lo1, 1, [(aB s.1)]), (lo3, 1, [(eL aI s.2.1)]), (lo4, 1, [(aB s.2.2)])] ++ [])) (fun (s : Bool × (List aE) × Bool) => G' = (lL, .raw (fV b A .done (some .ret))) :: (up [(lo1, 1, [(aB s.1)]), (lo3, 1, [(eL aI s.2.1)]), (lo4, 1, [(aB s.2.2)])] ++ [])) st) (.inl (t4, mZ, jT)) o0 (.tup []) (by kernel_rfl) (by kernel_rfl) (by kernel_rfl) hO (fun _ _ => rfl) ?_ ?_
  · intro b lL
    clear hO h0
    refine xK _ b (fun st t14 t15 => rnd (fun (s : Bool × (List aE) × Bool) => nH rD rY s.1 s.2.1 s.2.2 t14 t15) st) ?_ rY _ _ hl0
    intro st t14 t15 out1 rr hr
    obtain ⟨s, rfl, h1, rfl⟩ := HD hr
    clear hr
    intro Hr Gr hi hg
    obtain ⟨t4, mZ, jT⟩ := s
    dsimp only [Sum.elim_inl] at hi
    obtain rfl := hi
    replace h1 : nH rD rY t4 mZ jT t14 t15 = some out1 := h1
    unfold nH at h1
    obtain ⟨E1, hE, hO⟩ := qF hg
    refine qA (uH (hO.gm 0 _ rfl).2 (by kernel_rfl) (by kernel_rfl) ?_)
    refine iA [(3, (.rp (.fn (.func holds1_f) holds1_a holds1_c))), (4, (.lp lo1 0 0)), (5, (.lp lo3 0 0)), (6, (.lp lo4 0 0)), (13, (.fn (.func 74) [] [(.rp (eL bS rY))])), (14, (eL aI t14)), (15, (eL aK t15))] ?_
    refine aS aC 1 [13, 14] [(7, (eL aI t14))] ?_
    refine aQ aC 1 ?_
    refine bC ?_
    refine gT [(3, (.rp (.fn (.func holds1_f) holds1_a holds1_c))), (4, (.lp lo1 0 0)), (5, (.lp lo3 0 0)), (6, (.lp lo4 0 0)), (7, (eL aI t14)), (8, (eL aK t15))] ?_
    refine aD (⟨rfl, rfl, (hO.gm 0 _ rfl).2, ?_⟩)
    intro o1 ho1
    replace hO := hO.nG o1
    refine cI 1 ?_
    refine aM ?_
    refine aM ?_
    refine aQ aC 18 ?_
    refine bO 1 ?_
    obtain ⟨x7, hx8, h1⟩ := aT h1
    refine fC (AN t14 _ hx8) hO ?_
    intro H hO
    refine bO 4 ?_
    refine tJ [(19, false)] 2 lo4 1 0 (aB jT) (aB jT) [(aB jT)] (by kernel_rfl) (by kernel_rfl) hO (by kernel_rfl) (!(!x7)) (by kernel_rfl) (fun hb10 => rfl) ?_
    refine bO 6 ?_
    refine tJ [(21, true), (19, false)] 1 lo3 1 0 (eL aI mZ) (eL aI mZ) [(eL aI mZ)] (by kernel_rfl) (by kernel_rfl) hO (by kernel_rfl) (jT && (!(!x7))) (by kernel_rfl) (fun hb11 => rfl) ?_
    refine bO 8 ?_
    obtain ⟨x12, hx13, h1⟩ := aT h1
    refine mJ [(21, true), (19, false)] 72 [(eL aI mZ), (eL aI t14)] (eI x12) (jT && (!(!x7))) (by kernel_rfl) (by kernel_rfl) (by kernel_rfl) (fun hb14 => (JB mZ t14 _ (jO hx13 hb14))) hO ?_
    intro H hO
    refine bO 15 ?_
    obtain ⟨x15, hx16, h1⟩ := aT h1
    refine mJ [(28, false)] holds1_f (holds1_a ++ [(eL aK t15)] ++ holds1_c) (aB x15) (!((!x7) || (jT && (decide ((0 : Int) ≤ x12))))) (by kernel_rfl) (by kernel_rfl) (by kernel_rfl) (fun hb17 => (holds1_h t15 _ (jO hx16 hb17))) hO ?_
    intro H hO
    refine bC ?_
    refine cC [3, 8] [(33, (aB (((!x7) || (jT && (decide ((0 : Int) ≤ x12)))) || (!x15))))] ?_
    refine bP h1 (fun h1 => ?_) (fun h1 => ?_)
    · refine aM ?_
      refine aQ aC 1 ?_
      refine iY 0 lo1 1 0 (aB t4) (aB false) [(aB t4)] [(lo1, 1, [(aB false)]), (lo3, 1, [(eL aI mZ)]), (lo4, 1, [(aB jT)])] hO rfl (by kernel_rfl) ?_
      intro H hO
      refine dY ?_
      refine cC [7, 33] [] ?_
      refine bL ?_
      refine gT [(4, (.lp lo1 0 0)), (5, (.lp lo3 0 0)), (6, (.lp lo4 0 0))] ?_
      obtain rfl := oI h1
      exact aD (aP (bG (⟨(eG hO hE ho1 .dead).1, rfl, _, rfl, (eG hO hE ho1 _).2⟩)))
    refine bQ ?_
    refine bE [(4, (.lp lo1 0 0)), (5, (.lp lo3 0 0)), (6, (.lp lo4 0 0)), (7, (eL aI t14))] ?_
    refine aQ aC 3 ?_
    refine bO 1 ?_
    refine iY 1 lo3 1 0 (eL aI mZ) (eL aI t14) [(eL aI mZ)] [(lo1, 1, [(aB t4)]), (lo3, 1, [(eL aI t14)]), (lo4, 1, [(aB jT)])] hO rfl (by kernel_rfl) ?_
    intro H hO
    refine iY 2 lo4 1 0 (aB jT) (aB true) [(aB jT)] [(lo1, 1, [(aB t4)]), (lo3, 1, [(eL aI t14)]), (lo4, 1, [(aB true)])] hO rfl (by kernel_rfl) ?_
    intro H hO
    refine dY ?_
    refine gT [(4, (.lp lo1 0 0)), (5, (.lp lo3 0 0)), (6, (.lp lo4 0 0))] ?_
    obtain rfl := oI h1
    exact aD (aU (⟨(eG hO hE ho1 .dead).1, rfl, _, rfl, (eG hO hE ho1 _).2⟩))
  · intro b lD19 lL H' G' hi hO
    rcases o0 with s | s
    · dsimp only [Sum.elim_inl] at hi
      obtain rfl := hi
      replace h0 : (some true) = some r := h0
      obtain ⟨hlL, hO⟩ := mC hO
      refine ⟨_, _, hlL, (by intro e; cases e), ?_⟩
      refine gT [(4, (.lp lo1 0 0))] ?_
      replace hO := hO.pick (L' := [(lo1, 1, [(aB s.1)])]) [0] (by decide) (by kernel_rfl)
      refine aD (aU (aF (?_)))
      refine aM ?_
      refine aQ aC 1 ?_
      refine iY 0 lo1 1 0 (aB s.1) (aB true) [(aB s.1)] [(lo1, 1, [(aB true)])] hO rfl (by kernel_rfl) ?_
      intro H hO
      refine dY ?_
      refine bE [(4, (.lp lo1 0 0))] ?_
      refine bL ?_
      obtain rfl := oI h0
      have hD := (hO.gm 0 _ rfl).2
      replace hO := (hO.nG .dead).nT
      exact aD (QM1 (.inr rfl) hD (rs := [.cell 4 4]) (xs := [(aB true)]) (x := (aB true)) (by kernel_rfl) (iC (lo := lo1) (k := 1) (y := (aB true)) (x := (aB true)) 0 hO (by kernel_rfl) (by kernel_rfl) (by kernel_rfl) (by kernel_rfl) lU) (by kernel_rfl) ⟨rfl, hO.out⟩)
    · dsimp only [Sum.elim_inr] at hi
      obtain rfl := hi
      replace h0 : (some s.1) = some r := h0
      obtain ⟨hlL, hO⟩ := mC hO
      refine ⟨_, _, hlL, (by intro e; cases e), ?_⟩
      refine bL ?_
      replace hO := hO.pick (L' := [(lo1, 1, [(aB s.1)])]) [0] (by decide) (by kernel_rfl)
      obtain rfl := oI h0
      have hD := (hO.gm 0 _ rfl).2
      replace hO := (hO.nG .dead).nT
      exact aD (bG (aP (QM1 (.inr rfl) hD (rs := [.cell 4 4]) (xs := [(aB s.1)]) (x := (aB s.1)) (by kernel_rfl) (iC (lo := lo1) (k := 1) (y := (aB s.1)) (x := (aB s.1)) 0 hO (by kernel_rfl) (by kernel_rfl) (by kernel_rfl) (by kernel_rfl) lU) (by kernel_rfl) ⟨rfl, hO.out⟩)))

theorem MZ (n0 : Int) (r : Bool) (h0 : uU n0 = some r) : dU Try.prog 73 [(eI n0)] (aB r) := by
  intro H0
  refine dQ Try.func73 ?_
  have hO := aJ.start H0
  unfold uU at h0
  refine aS aC 1 [] [] ?_
  refine cO aC 7 [(2, (aB ((decide (n0 ≤ (1048576 : Int))) && (decide ((-1048576 : Int) ≤ n0)))))] ?_
  refine bL ?_
  obtain rfl := oI h0
  exact aD (Q_r hO)

theorem vK (f0 : (List aH)) (r : Bool) (h0 : mX f0 = some r) : dU Try.prog 51 [(eL aK f0)] (aB r) := by
  intro H0
  refine dQ Try.func51 ?_
  have hO := aJ.start H0
  unfold mX at h0
  refine aS aC 1 [] [] ?_
  refine aM ?_
  refine aS aC 3 [] [(8, (aB (decide ((1024 : Int) < (lN f0)))))] ?_
  refine bP h0 (fun h0 => ?_) (fun h0 => ?_)
  · refine cO aC 1 [(2, (aB false))] ?_
    refine bL ?_
    obtain rfl := oI h0
    exact aD (aP (Q_r hO))
  refine bQ ?_
  refine bE [(0, (eL aK f0))] ?_
  refine aS aC 1 [] [(3, (eI (-2 : Int)))] ?_
  refine iR (fun T H => Has T [] ∧ aJ ⟨H0, [], []⟩ H [] ∧ sW  = some r) ?_ ?_
  · clear hO h0
    rintro T H ⟨hT, hO, h0⟩
    refine bM hT ?_
    clear hT
    unfold sW at h0
    refine cO aC 1 [(2, (aB true))] ?_
    refine bL ?_
    obtain rfl := oI h0
    exact aD (Q_r hO)
  refine aS aC 3 [0] [(9, (eL aK f0)), (10, (eI (lN f0))), (11, (eI (0 : Int)))] ?_
  refine cI 0 ?_
  refine iA [(3, (eI (-2 : Int))), (9, (eL aK f0)), (10, (eI (lN f0))), (11, (eI (0 : Int)))] ?_
  refine gY (fun T H => ∃ oE : Int, ∃ t9 : (List aH), ∃ t10 : Int, ∃ t11 : Int, Has T [(3, (eI oE)), (9, (eL aK t9)), (10, (eI t10)), (11, (eI t11))] ∧ aJ ⟨H0, [], []⟩ H [] ∧ uN oE t9 t10 t11 = some r) ?_ ⟨(-2 : Int), f0, (lN f0), (0 : Int), .eq (by kernel_rfl), hO, h0⟩
  clear hO h0
  rintro T H ⟨oE, t9, t10, t11, hT, hO, h0⟩
  refine bM hT ?_
  clear hT
  unfold uN at h0
  obtain ⟨rr0, hl0, h0⟩ := aT h0
  refine eE (by kernel_rfl) (fun (s : Int × Int) T H => Has T [(3, (eI s.1)), (9, (eL aK t9)), (10, (eI t10)), (11, (eI s.2))] ∧ aJ ⟨H0, [], []⟩ H []) hl0 ⟨.eq (by kernel_rfl), hO⟩ ?_
  clear hO
  rintro k0 s out1 T H ⟨hT, hO⟩ h1 ho0
  obtain ⟨oE, t11⟩ := s
  replace h1 : lE t9 t10 oE t11 = some out1 := h1
  try dsimp only at hT
  refine bM hT ?_
  clear hT
  unfold lE at h1
  refine aS aC 1 [] [(12, (aB (decide (t11 < t10))))] ?_
  refine aM ?_
  refine bP h1 (fun h1 => ?_) (fun h1 => ?_)
  · refine bQ ?_
    refine bE [(3, (eI oE)), (9, (eL aK t9)), (10, (eI t10)), (11, (eI t11))] ?_
    refine aM ?_
    refine cI 1 ?_
    refine aM ?_
    refine aQ aC 4 ?_
    obtain ⟨c3, h1⟩ := aY h1
    refine yS 2 [0 ≤ t11 ∧ t11 < (lN t9)] ⟨c3, trivial⟩ ?_
    refine kN 2 (aK (aH.mk 0 0)) (by kernel_rfl) (by kernel_rfl) hO ?_
    intro lo4 H hO
    refine iY 0 lo4 2 0 (aK (aH.mk 0 0)) (aK (gD t9 t11)) [(aK (aH.mk 0 0))] [(lo4, 2, [(aK (gD t9 t11))])] hO rfl (by kernel_rfl) ?_
    intro H hO
    refine dY ?_
    refine cC [] [(5, (.lp lo4 0 0))] ?_
    refine aM ?_
    refine aM ?_
    refine aQ aC 20 ?_
    refine bO 1 ?_
    refine mW 0 lo4 2 0 (aK (gD t9 t11)) (eI ((gD t9 t11).At)) [(aK (gD t9 t11))] hO rfl ?_
    refine bO 6 ?_
    refine tJ [(19, false)] 0 lo4 2 0 (aK (gD t9 t11)) (eI ((gD t9 t11).At)) [(aK (gD t9 t11))] (by kernel_rfl) (by kernel_rfl) hO (by kernel_rfl) (!(decide (((gD t9 t11).At) ≤ oE))) (by kernel_rfl) (fun hb5 => rfl) ?_
    refine bO 11 ?_
    refine tJ [(24, false)] 0 lo4 2 0 (aK (gD t9 t11)) (eI ((gD t9 t11).Net)) [(aK (gD t9 t11))] (by kernel_rfl) (by kernel_rfl) hO (by kernel_rfl) (!((decide (((gD t9 t11).At) ≤ oE)) || (decide ((1125899906842624 : Int) ≤ ((gD t9 t11).At))))) (by kernel_rfl) (fun hb6 => rfl) ?_
    refine bO 16 ?_
    refine tJ [(29, false)] 0 lo4 2 0 (aK (gD t9 t11)) (eI ((gD t9 t11).Net)) [(aK (gD t9 t11))] (by kernel_rfl) (by kernel_rfl) hO (by kernel_rfl) (!(((decide (((gD t9 t11).At) ≤ oE)) || (decide ((1125899906842624 : Int) ≤ ((gD t9 t11).At)))) || (decide (((gD t9 t11).Net) = (0 : Int))))) (by kernel_rfl) (fun hb7 => rfl) ?_
    obtain ⟨x8, hx9, h1⟩ := aT h1
    refine mJ [(29, false)] 73 [(eI ((gD t9 t11).Net))] (aB x8) (!(((decide (((gD t9 t11).At) ≤ oE)) || (decide ((1125899906842624 : Int) ≤ ((gD t9 t11).At)))) || (decide (((gD t9 t11).Net) = (0 : Int))))) (by kernel_rfl) (by kernel_rfl) (by kernel_rfl) (fun hb10 => (MZ ((gD t9 t11).Net) _ (jO hx9 hb10))) hO ?_
    intro H hO
    refine bC ?_
    refine cC [3] [(34, (aB ((((decide (((gD t9 t11).At) ≤ oE)) || (decide ((1125899906842624 : Int) ≤ ((gD t9 t11).At)))) || (decide (((gD t9 t11).Net) = (0 : Int)))) || (!x8))))] ?_
    refine bP h1 (fun h1 => ?_) (fun h1 => ?_)
    · refine aM ?_
      refine aQ aC 1 ?_
      refine bC ?_
      refine gT [(2, (aB false))] ?_
      replace hO := hO.pick (L' := []) [] (by decide) (by kernel_rfl)
      refine aD (aF (?_))
      refine bL ?_
      obtain rfl := oI h1
      obtain rfl : _ = rr0 := ho0
      replace h0 : some false = some r := h0
      obtain rfl := oI h0
      exact aD (aP (bG (aP (aP (bG (aP (Q_r hO)))))))
    refine bQ ?_
    refine bE [(5, (.lp lo4 0 0)), (9, (eL aK t9)), (10, (eI t10)), (11, (eI t11))] ?_
    refine aQ aC 3 ?_
    refine bO 1 ?_
    refine mW 0 lo4 2 0 (aK (gD t9 t11)) (eI ((gD t9 t11).At)) [(aK (gD t9 t11))] hO rfl ?_
    refine bC ?_
    refine gT [(3, (eI ((gD t9 t11).At))), (9, (eL aK t9)), (10, (eI t10)), (11, (eI t11))] ?_
    replace hO := hO.pick (L' := []) [] (by decide) (by kernel_rfl)
    refine aD (aU (aF (?_)))
    refine aQ aC 2 ?_
    refine bC ?_
    exact aD (aF (⟨rfl, _, (oI h1).symm, .eq (by kernel_rfl), hO⟩))
  refine jI 0 ?_
  obtain rfl := oI h1
  obtain rfl : _ = rr0 := ho0
  replace h0 : sW  = some r := h0
  exact aD (aV (aV (cH (aF (⟨rfl, .eq (by kernel_rfl), hO, h0⟩)))))

theorem FB (l0 : (List bH)) (r : Bool) (h0 : rS l0 = some r) : dU Try.prog 31 [(eL bS l0)] (aB r) := by
  intro H0
  refine dQ Try.func31 ?_
  have hO := aJ.start H0
  unfold rS at h0
  refine aS aC 1 [] [] ?_
  refine aM ?_
  refine aQ aC 3 ?_
  refine bO 1 ?_
  obtain ⟨x1, hx2, h0⟩ := aT h0
  refine fC (CV l0 51 [] [] (fun y0 => mX y0) (fun y0 r h => vK y0 r h) _ hx2) hO ?_
  intro H hO
  refine bC ?_
  refine bE [(2, (aB x1))] ?_
  refine bL ?_
  obtain rfl := oI h0
  exact aD (Q_r hO)

theorem ME (f0 : (List aH)) (r : Int) (h0 : rA f0 = some r) : dU Try.prog 52 [(eL aK f0)] (eI r) := by
  intro H0
  refine dQ Try.func52 ?_
  have hO := aJ.start H0
  unfold rA at h0
  refine aS aC 1 [] [] ?_
  refine aM ?_
  refine aM ?_
  refine aQ aC 8 ?_
  refine bO 1 ?_
  obtain ⟨x1, hx2, h0⟩ := aT h0
  refine fC (vK f0 _ hx2) hO ?_
  intro H hO
  refine bC ?_
  refine cC [] [(14, (aB ((!x1) || (decide ((lN f0) = (0 : Int))))))] ?_
  refine bP h0 (fun h0 => ?_) (fun h0 => ?_)
  · refine cO aC 1 [(2, (eI (0 : Int)))] ?_
    refine bL ?_
    obtain rfl := oI h0
    exact aD (aP (Q_r hO))
  refine bQ ?_
  refine bE [(0, (eL aK f0))] ?_
  refine aS aC 2 [] [(3, (eI (0 : Int))), (4, (eI (0 : Int)))] ?_
  refine iR (fun T H => ∃ v3 : Int, ∃ gU : Int, Has T [(0, (eL aK f0)), (3, (eI v3)), (4, (eI gU))] ∧ aJ ⟨H0, [], []⟩ H [] ∧ nR f0 v3 gU = some r) ?_ ?_
  · clear hO h0
    rintro T H ⟨v3, gU, hT, hO, h0⟩
    refine bM hT ?_
    clear hT
    unfold nR at h0
    refine iR (fun T H => ∃ gU : Int, Has T [(4, (eI gU))] ∧ aJ ⟨H0, [], []⟩ H [] ∧ pV gU = some r) ?_ ?_
    · clear hO h0
      rintro T H ⟨gU, hT, hO, h0⟩
      refine bM hT ?_
      clear hT
      unfold pV at h0
      refine cO aC 2 [(2, (eI gU))] ?_
      refine bL ?_
      obtain rfl := oI h0
      exact aD (Q_r hO)
    refine aS aC 3 [0] [(24, (eL aK f0)), (25, (eI (lN f0))), (26, (eI (0 : Int)))] ?_
    refine cI 0 ?_
    refine iA [(3, (eI v3)), (4, (eI gU)), (24, (eL aK f0)), (25, (eI (lN f0))), (26, (eI (0 : Int)))] ?_
    refine gY (fun T H => ∃ v3 : Int, ∃ gU : Int, ∃ t24 : (List aH), ∃ t25 : Int, ∃ t26 : Int, Has T [(3, (eI v3)), (4, (eI gU)), (24, (eL aK t24)), (25, (eI t25)), (26, (eI t26))] ∧ aJ ⟨H0, [], []⟩ H [] ∧ pZ v3 gU t24 t25 t26 = some r) ?_ ⟨v3, gU, f0, (lN f0), (0 : Int), .eq (by kernel_rfl), hO, h0⟩
    clear hO h0
    rintro T H ⟨v3, gU, t24, t25, t26, hT, hO, h0⟩
    refine bM hT ?_
    clear hT
    unfold pZ at h0
    obtain ⟨rr0, hl0, h0⟩ := aT h0
    refine eE (by kernel_rfl) (fun (s : Int × Int × Int) T H => Has T [(3, (eI s.1)), (4, (eI s.2.1)), (24, (eL aK t24)), (25, (eI t25)), (26, (eI s.2.2))] ∧ aJ ⟨H0, [], []⟩ H []) hl0 ⟨.eq (by kernel_rfl), hO⟩ ?_
    clear hO
    rintro k0 s out1 T H ⟨hT, hO⟩ h1 ho0
    obtain ⟨v3, gU, t26⟩ := s
    replace h1 : lQ t24 t25 v3 gU t26 = some out1 := h1
    try dsimp only at hT
    refine bM hT ?_
    clear hT
    unfold lQ at h1
    refine aS aC 1 [] [(27, (aB (decide (t26 < t25))))] ?_
    refine aM ?_
    refine bP h1 (fun h1 => ?_) (fun h1 => ?_)
    · refine bQ ?_
      refine bE [(3, (eI v3)), (4, (eI gU)), (24, (eL aK t24)), (25, (eI t25)), (26, (eI t26))] ?_
      refine aM ?_
      refine cI 1 ?_
      refine aM ?_
      refine aQ aC 4 ?_
      obtain ⟨c6, h1⟩ := aY h1
      refine yS 2 [0 ≤ t26 ∧ t26 < (lN t24)] ⟨c6, trivial⟩ ?_
      refine kN 2 (aK (aH.mk 0 0)) (by kernel_rfl) (by kernel_rfl) hO ?_
      intro lo7 H hO
      refine iY 0 lo7 2 0 (aK (aH.mk 0 0)) (aK (gD t24 t26)) [(aK (aH.mk 0 0))] [(lo7, 2, [(aK (gD t24 t26))])] hO rfl (by kernel_rfl) ?_
      intro H hO
      refine dY ?_
      refine cC [] [(6, (.lp lo7 0 0))] ?_
      refine aM ?_
      refine aQ aC 5 ?_
      refine bO 2 ?_
      refine mW 0 lo7 2 0 (aK (gD t24 t26)) (eI ((gD t24 t26).Net)) [(aK (gD t24 t26))] hO rfl ?_
      refine bC ?_
      replace hO := hO.pick (L' := []) [] (by decide) (by kernel_rfl)
      refine cC [3, 6] [(3, (eI (wR (v3 + ((gD t24 t26).Net)))))] ?_
      refine aQ aC 4 ?_
      refine bC ?_
      refine gT [(3, (eI (wR (v3 + ((gD t24 t26).Net))))), (4, (eI (if (wR (v3 + ((gD t24 t26).Net))) < gU then (wR (v3 + ((gD t24 t26).Net))) else gU))), (24, (eL aK t24)), (25, (eI t25)), (26, (eI t26))] ?_
      refine aD (aU (aF (?_)))
      refine aQ aC 2 ?_
      refine bC ?_
      exact aD (aF (⟨rfl, _, (oI h1).symm, .eq (by kernel_rfl), hO⟩))
    refine jI 0 ?_
    obtain rfl := oI h1
    obtain rfl : _ = rr0 := ho0
    replace h0 : pV gU = some r := h0
    exact aD (aV (aV (cH (aF (⟨rfl, _, .eq (by kernel_rfl), hO, h0⟩)))))
  refine aM ?_
  refine aQ aC 5 ?_
  obtain ⟨c8, h0⟩ := aY h0
  refine rL [0 ≤ (0 : Int) ∧ (0 : Int) < (lN f0)] ⟨c8, trivial⟩ ?_
  refine cC [] [(19, (aB (decide (((gD f0 (0 : Int)).At) = (-1 : Int)))))] ?_
  refine bP h0 (fun h0 => ?_) (fun h0 => ?_)
  · refine aQ aC 5 ?_
    obtain ⟨c10, h0⟩ := aY h0
    refine rL [0 ≤ (0 : Int) ∧ (0 : Int) < (lN f0)] ⟨c10, trivial⟩ ?_
    exact aD (aF (⟨rfl, _, _, .eq (by kernel_rfl), hO, h0⟩))
  refine bQ ?_
  exact aD (aF (⟨rfl, _, _, .eq (by kernel_rfl), hO, h0⟩))

theorem HB (f0 : (List aH)) (r : Bool) (h0 : oR f0 = some r) : dU Try.prog 50 [(eL aK f0)] (aB r) := by
  intro H0
  refine dQ Try.func50 ?_
  have hO := aJ.start H0
  unfold oR at h0
  refine aS aC 1 [] [] ?_
  refine aM ?_
  refine aQ aC 8 ?_
  refine bO 1 ?_
  obtain ⟨x1, hx2, h0⟩ := aT h0
  refine fC (vK f0 _ hx2) hO ?_
  intro H hO
  refine bO 4 ?_
  obtain ⟨x4, hx5, h0⟩ := aT h0
  refine mJ [(5, true)] 52 [(eL aK f0)] (eI x4) x1 (by kernel_rfl) (by kernel_rfl) (by kernel_rfl) (fun hb6 => (ME f0 _ (jO hx5 hb6))) hO ?_
  intro H hO
  refine bC ?_
  refine bE [(2, (aB (x1 && (decide ((0 : Int) ≤ x4)))))] ?_
  refine bL ?_
  obtain rfl := oI h0
  exact aD (Q_r hO)

theorem KM (l0 : (List bH)) (r : Bool) (h0 : rO l0 = some r) : dU Try.prog 23 [(eL bS l0)] (aB r) := by
  intro H0
  refine dQ Try.func23 ?_
  have hO := aJ.start H0
  unfold rO at h0
  refine aS aC 1 [] [] ?_
  refine aM ?_
  refine aQ aC 3 ?_
  refine bO 1 ?_
  obtain ⟨x1, hx2, h0⟩ := aT h0
  refine fC (CV l0 50 [] [] (fun y0 => oR y0) (fun y0 r h => HB y0 r h) _ hx2) hO ?_
  intro H hO
  refine bC ?_
  refine bE [(2, (aB x1))] ?_
  refine bL ?_
  obtain rfl := oI h0
  exact aD (Q_r hO)

theorem JD (l0 : (List bH)) (r : (List bH)) (h0 : sZ l0 = some r) : dU Try.prog 32 [(eL bS l0)] (.fn (.func 55) [] [(.rp (eL bS r))]) := by
  intro H0
  refine dQ Try.func32 ?_
  have hO := aJ.start H0
  unfold sZ at h0
  refine aM ?_
  refine aQ aC 2 ?_
  refine fX 1 (eL bS l0) (by kernel_rfl) (by kernel_rfl) ?_
  refine bC ?_
  refine bE [(1, (.rp (eL bS l0)))] ?_
  refine cO aC 2 [(2, (.fn (.func 55) [] [(.rp (eL bS l0))]))] ?_
  refine bL ?_
  obtain rfl := oI h0
  exact aD (lG (x := (.fn (.func 55) [] [(.rp (eL bS l0))])) (by kernel_rfl) (aL.refl _) ⟨rfl, hO.out⟩)

theorem CN {σ : Type} (I : σ → Gs → Prop) (yield0_b : Nat) (cK : σ → (List aE) → (List aH) → Option (σ × Bool)) (yield0_h : ∀ st a0 a1 st2 r, cK st a0 a1 = some (st2, r) → vU Try.prog (yv yield0_b) I st [(eL aI a0), (eL aK a1)] st2 (aB r)) (t1 : (List bH)) (sg0 : σ) (r : σ) (h0 : mV cK t1 sg0 = some r) : tA Try.prog 55 I sg0 [(yv yield0_b), (.rp (eL bS t1))] r (.tup []) := by
  intro H0 G0 hI hg
  refine yN aC Try.func55 (by kernel_rfl) (by kernel_rfl) (by kernel_rfl) ?_
  obtain ⟨G, hO, hI⟩ : ∃ G, aJ ⟨H0, List.map (fun p : Nat × cV => p.1) G0, G⟩ H0 [] ∧ I sg0 G := ⟨G0, aJ.yC hg, hI⟩
  clear hg
  unfold mV at h0
  refine aM ?_
  refine aQ aC 1 ?_
  refine fX 1 (yv yield0_b) (by kernel_rfl) (by kernel_rfl) ?_
  refine dY ?_
  refine cC [0] [(2, (.rp (yv yield0_b)))] ?_
  refine aM ?_
  refine aM ?_
  refine aQ aC 3 ?_
  refine bO 1 ?_
  obtain ⟨x1, hx2, h0⟩ := aT h0
  refine fC (FB t1 _ hx2) hO ?_
  intro H hO
  refine bC ?_
  refine cC [] [(7, (aB (!x1)))] ?_
  refine bP h0 (fun h0 => ?_) (fun h0 => ?_)
  · refine bL ?_
    obtain rfl := oI h0
    exact aD (aP (QM0 (.inr rfl) (rs := []) (xs := []) (x := (.tup [])) (by kernel_rfl) lU (by kernel_rfl) ⟨rfl, G, hI, hO.uD⟩))
  refine bQ ?_
  refine bE [(1, (.rp (eL bS t1))), (2, (.rp (yv yield0_b)))] ?_
  refine aM ?_
  refine aQ aC 2 ?_
  refine bO 1 ?_
  obtain ⟨x5, hx6, h0⟩ := aT h0
  refine fC (CS t1 _ hx6) hO ?_
  intro H hO
  refine dY ?_
  refine cC [1] [(9, (.fn (.func 74) [] [(.rp (eL bS x5))]))] ?_
  refine cI 0 ?_
  refine iA [(2, (.rp (yv yield0_b))), (9, (.fn (.func 74) [] [(.rp (eL bS x5))]))] ?_
  refine gY (fun T H => ∃ sg : σ, ∃ t9c0 : (List bH), ∃ G : Gs, Has T [(2, (.rp (yv yield0_b))), (9, (.fn (.func 74) [] [(.rp (eL bS t9c0))]))] ∧ aJ ⟨H0, List.map (fun p : Nat × cV => p.1) G0, G⟩ H [] ∧ I sg G ∧ nY cK sg t9c0 = some r) ?_ ⟨sg0, x5, G, .eq (by kernel_rfl), hO, hI, h0⟩
  clear hO hI h0
  rintro T H ⟨sg, t9c0, G, hT, hO, hI, h0⟩
  refine bM (l := [(2, (.rp (yv yield0_b))), (9, (.fn (.func 74) [] [(.rp (eL bS t9c0))]))]) hT ?_
  clear hT
  unfold nY at h0
  obtain ⟨o0, hl0, h0⟩ := aT h0
  refine wV (fid := 74) (ys := []) (cs := [(.rp (eL bS t9c0))]) #[10, 11] (fun (A : qQ) (b lL : Nat) (st : (σ) ⊕ (σ)) (G' : Gs) => Sum.elim (fun (s : σ) => ∃ G : Gs, I s G ∧ G' = (lL, .raw (fV b A .ready none)) :: (up [] ++ G)) (fun (s : σ) => ∃ G : Gs, I s G ∧ G' = (lL, .raw (fV b A .done (some .ret))) :: (up [] ++ G)) st) (.inl sg) o0 (.tup []) (by kernel_rfl) (by kernel_rfl) (by kernel_rfl) hO (fun _ _ => ⟨G, hI, rfl⟩) ?_ ?_
  · intro b lL
    clear hO hI h0
    refine xK _ b (fun st t10 t11 => rnd (fun (s : σ) => kD cK t9c0 s t10 t11) st) ?_ t9c0 _ _ hl0
    intro st t10 t11 out1 rr hr
    obtain ⟨s, rfl, h1, rfl⟩ := HD hr
    clear hr
    intro Hr Gr hi hg
    obtain ⟨sg, rfl⟩ : ∃ x, x = s := ⟨_, rfl⟩
    dsimp only [Sum.elim_inl] at hi
    obtain ⟨G, hI, rfl⟩ := hi
    replace h1 : kD cK t9c0 sg t10 t11 = some out1 := h1
    unfold kD at h1
    obtain ⟨E1, hE, hO⟩ := qF hg
    refine qA (uH (hO.gm 0 _ rfl).2 (by kernel_rfl) (by kernel_rfl) ?_)
    refine iA [(2, (.rp (yv yield0_b))), (9, (.fn (.func 74) [] [(.rp (eL bS t9c0))])), (10, (eL aI t10)), (11, (eL aK t11))] ?_
    refine aS aC 1 [9, 10] [(3, (eL aI t10))] ?_
    refine aQ aC 1 ?_
    refine bC ?_
    refine gT [(2, (.rp (yv yield0_b))), (3, (eL aI t10)), (4, (eL aK t11))] ?_
    refine aD (⟨rfl, rfl, (hO.gm 0 _ rfl).2, ?_⟩)
    intro o1 ho1
    replace hO := hO.nG o1
    refine cI 1 ?_
    refine aM ?_
    refine aQ aC 5 ?_
    refine bO 3 ?_
    obtain ⟨x7, hx8, h1⟩ := aT h1
    refine WI (I := I) (yv yield0_b) [(eL aI t10), (eL aK t11)] (aB x7.2) (by kernel_rfl) (by kernel_rfl) (yield0_h _ t10 t11 x7.1 x7.2 hx8) hO hI ?_
    intro G H hO hI
    refine bC ?_
    refine bE [(16, (aB (!x7.2)))] ?_
    refine bP h1 (fun h1 => ?_) (fun h1 => ?_)
    · refine bL ?_
      refine gT [] ?_
      obtain rfl := oI h1
      exact aD (bG (⟨(eG hO hE ho1 .dead).1, rfl, _, ⟨G, hI, rfl⟩, (eG hO hE ho1 _).2⟩))
    refine bQ ?_
    refine gT [] ?_
    obtain rfl := oI h1
    exact aD (aU (⟨(eG hO hE ho1 .dead).1, rfl, _, ⟨G, hI, rfl⟩, (eG hO hE ho1 _).2⟩))
  · intro b lD10 lL H' G' hi hO
    rcases o0 with s | s
    · dsimp only [Sum.elim_inl] at hi
      obtain ⟨G, hI, rfl⟩ := hi
      replace h0 : (some s) = some r := h0
      obtain ⟨hlL, hO⟩ := mC hO
      refine ⟨_, _, hlL, (by intro e; cases e), ?_⟩
      obtain rfl := oI h0
      have hD := (hO.gm 0 _ rfl).2
      replace hO := (hO.nG .dead).nT
      exact aD (aU (QM1 (.inl rfl) hD (rs := []) (xs := []) (x := (.tup [])) (by kernel_rfl) lU (by kernel_rfl) ⟨rfl, G, hI, hO.uD⟩))
    · dsimp only [Sum.elim_inr] at hi
      obtain ⟨G, hI, rfl⟩ := hi
      replace h0 : (some s) = some r := h0
      obtain ⟨hlL, hO⟩ := mC hO
      refine ⟨_, _, hlL, (by intro e; cases e), ?_⟩
      refine bL ?_
      obtain rfl := oI h0
      have hD := (hO.gm 0 _ rfl).2
      replace hO := (hO.nG .dead).nT
      exact aD (bG (QM1 (.inr rfl) hD (rs := []) (xs := []) (x := (.tup [])) (by kernel_rfl) lU (by kernel_rfl) ⟨rfl, G, hI, hO.uD⟩))

theorem CM (x0 : Int) (r : Int) (h0 : mU x0 = some r) : dU Try.prog 88 [(cS .u64 x0)] (eI r) := by
  intro H0
  refine dQ Try.func88 ?_
  have hO := aJ.start H0
  unfold mU at h0
  refine aS aC 1 [] [(2, (eI (0 : Int)))] ?_
  refine iR (fun T H => ∃ x0 : Int, ∃ n2 : Int, Has T [(0, (cS .u64 x0)), (2, (eI n2))] ∧ aJ ⟨H0, [], []⟩ H [] ∧ kC x0 n2 = some r) ?_ ?_
  · clear hO h0
    rintro T H ⟨x0, n2, hT, hO, h0⟩
    refine bM hT ?_
    clear hT
    unfold kC at h0
    refine iR (fun T H => ∃ x0 : Int, ∃ n2 : Int, Has T [(0, (cS .u64 x0)), (2, (eI n2))] ∧ aJ ⟨H0, [], []⟩ H [] ∧ kA x0 n2 = some r) ?_ ?_
    · clear hO h0
      rintro T H ⟨x0, n2, hT, hO, h0⟩
      refine bM hT ?_
      clear hT
      unfold kA at h0
      refine iR (fun T H => ∃ x0 : Int, ∃ n2 : Int, Has T [(0, (cS .u64 x0)), (2, (eI n2))] ∧ aJ ⟨H0, [], []⟩ H [] ∧ lB x0 n2 = some r) ?_ ?_
      · clear hO h0
        rintro T H ⟨x0, n2, hT, hO, h0⟩
        refine bM hT ?_
        clear hT
        unfold lB at h0
        refine aM ?_
        refine aQ aC 7 ?_
        obtain ⟨c1, h0⟩ := aY h0
        refine rL [0 ≤ (IntKind.u8.wrap x0) ∧ (IntKind.u8.wrap x0) < ((ByteArray.size (⟨#[0, 1, 2, 2, 3, 3, 3, 3, 4, 4, 4, 4, 4, 4, 4, 4, 5, 5, 5, 5, 5, 5, 5, 5, 5, 5, 5, 5, 5, 5, 5, 5, 6, 6, 6, 6, 6, 6, 6, 6, 6, 6, 6, 6, 6, 6, 6, 6, 6, 6, 6, 6, 6, 6, 6, 6, 6, 6, 6, 6, 6, 6, 6, 6, 7, 7, 7, 7, 7, 7, 7, 7, 7, 7, 7, 7, 7, 7, 7, 7, 7, 7, 7, 7, 7, 7, 7, 7, 7, 7, 7, 7, 7, 7, 7, 7, 7, 7, 7, 7, 7, 7, 7, 7, 7, 7, 7, 7, 7, 7, 7, 7, 7, 7, 7, 7, 7, 7, 7, 7, 7, 7, 7, 7, 7, 7, 7, 7, 8, 8, 8, 8, 8, 8, 8, 8, 8, 8, 8, 8, 8, 8, 8, 8, 8, 8, 8, 8, 8, 8, 8, 8, 8, 8, 8, 8, 8, 8, 8, 8, 8, 8, 8, 8, 8, 8, 8, 8, 8, 8, 8, 8, 8, 8, 8, 8, 8, 8, 8, 8, 8, 8, 8, 8, 8, 8, 8, 8, 8, 8, 8, 8, 8, 8, 8, 8, 8, 8, 8, 8, 8, 8, 8, 8, 8, 8, 8, 8, 8, 8, 8, 8, 8, 8, 8, 8, 8, 8, 8, 8, 8, 8, 8, 8, 8, 8, 8, 8, 8, 8, 8, 8, 8, 8, 8, 8, 8, 8, 8, 8, 8, 8, 8, 8, 8, 8, 8, 8, 8, 8, 8, 8, 8, 8, 8, 8]⟩ : ByteArray) : Nat) : Int)] ⟨c1, trivial⟩ ?_
        refine bE [(2, (eI (wR (n2 + (wR (bt (⟨#[0, 1, 2, 2, 3, 3, 3, 3, 4, 4, 4, 4, 4, 4, 4, 4, 5, 5, 5, 5, 5, 5, 5, 5, 5, 5, 5, 5, 5, 5, 5, 5, 6, 6, 6, 6, 6, 6, 6, 6, 6, 6, 6, 6, 6, 6, 6, 6, 6, 6, 6, 6, 6, 6, 6, 6, 6, 6, 6, 6, 6, 6, 6, 6, 7, 7, 7, 7, 7, 7, 7, 7, 7, 7, 7, 7, 7, 7, 7, 7, 7, 7, 7, 7, 7, 7, 7, 7, 7, 7, 7, 7, 7, 7, 7, 7, 7, 7, 7, 7, 7, 7, 7, 7, 7, 7, 7, 7, 7, 7, 7, 7, 7, 7, 7, 7, 7, 7, 7, 7, 7, 7, 7, 7, 7, 7, 7, 7, 8, 8, 8, 8, 8, 8, 8, 8, 8, 8, 8, 8, 8, 8, 8, 8, 8, 8, 8, 8, 8, 8, 8, 8, 8, 8, 8, 8, 8, 8, 8, 8, 8, 8, 8, 8, 8, 8, 8, 8, 8, 8, 8, 8, 8, 8, 8, 8, 8, 8, 8, 8, 8, 8, 8, 8, 8, 8, 8, 8, 8, 8, 8, 8, 8, 8, 8, 8, 8, 8, 8, 8, 8, 8, 8, 8, 8, 8, 8, 8, 8, 8, 8, 8, 8, 8, 8, 8, 8, 8, 8, 8, 8, 8, 8, 8, 8, 8, 8, 8, 8, 8, 8, 8, 8, 8, 8, 8, 8, 8, 8, 8, 8, 8, 8, 8, 8, 8, 8, 8, 8, 8, 8, 8, 8, 8, 8, 8]⟩ : ByteArray) (IntKind.u8.wrap x0)))))))] ?_
        refine bL ?_
        obtain rfl := oI h0
        exact aD (Q_r hO)
      refine aS aC 2 [] [(14, (aB (decide ((256 : Int) ≤ x0))))] ?_
      refine bP h0 (fun h0 => ?_) (fun h0 => ?_)
      · refine aM ?_
        refine aQ aC 3 ?_
        obtain ⟨c3, h0⟩ := aY h0
        refine rL [0 ≤ (8 : Int)] ⟨c3, trivial⟩ ?_
        refine bE [(0, (cS .u64 (Int.fdiv x0 (2 ^ (min (Int.toNat (8 : Int)) 64))))), (2, (eI n2))] ?_
        refine aQ aC 3 ?_
        refine bC ?_
        exact aD (aF (⟨rfl, _, _, .eq (by kernel_rfl), hO, h0⟩))
      refine bQ ?_
      exact aD (aF (⟨rfl, _, _, .eq (by kernel_rfl), hO, h0⟩))
    refine aS aC 2 [] [(8, (aB (decide ((65536 : Int) ≤ x0))))] ?_
    refine bP h0 (fun h0 => ?_) (fun h0 => ?_)
    · refine aM ?_
      refine aQ aC 3 ?_
      obtain ⟨c5, h0⟩ := aY h0
      refine rL [0 ≤ (16 : Int)] ⟨c5, trivial⟩ ?_
      refine bE [(0, (cS .u64 (Int.fdiv x0 (2 ^ (min (Int.toNat (16 : Int)) 64))))), (2, (eI n2))] ?_
      refine aQ aC 3 ?_
      refine bC ?_
      exact aD (aF (⟨rfl, _, _, .eq (by kernel_rfl), hO, h0⟩))
    refine bQ ?_
    exact aD (aF (⟨rfl, _, _, .eq (by kernel_rfl), hO, h0⟩))
  refine aS aC 2 [] [(4, (aB (decide ((4294967296 : Int) ≤ x0))))] ?_
  refine bP h0 (fun h0 => ?_) (fun h0 => ?_)
  · refine aM ?_
    refine aQ aC 3 ?_
    obtain ⟨c7, h0⟩ := aY h0
    refine rL [0 ≤ (32 : Int)] ⟨c7, trivial⟩ ?_
    refine bE [(0, (cS .u64 (Int.fdiv x0 (2 ^ (min (Int.toNat (32 : Int)) 64)))))] ?_
    refine aQ aC 1 ?_
    refine bC ?_
    exact aD (aF (⟨rfl, _, _, .eq (by kernel_rfl), hO, h0⟩))
  refine bQ ?_
  exact aD (aF (⟨rfl, _, _, .eq (by kernel_rfl), hO, h0⟩))

theorem xJ (x0 : Int) (r : Int) (h0 : jR x0 = some r) : dU Try.prog 62 [(cS .u64 x0)] (eI r) := by
  intro H0
  refine dQ Try.func62 ?_
  have hO := aJ.start H0
  unfold jR at h0
  refine aS aC 1 [] [] ?_
  refine aM ?_
  refine lS (false) (fun hc1 => ?_) (fun hc1 => ?_)
  · cases hc1
  · refine bQ ?_
    refine aD (aF ?_)
    refine aM ?_
    refine aQ aC 3 ?_
    refine bO 1 ?_
    obtain ⟨x2, hx3, h0⟩ := aT h0
    refine fC (CM x0 _ hx3) hO ?_
    intro H hO
    refine bC ?_
    refine bE [(2, (eI x2))] ?_
    refine bL ?_
    obtain rfl := oI h0
    exact aD (Q_r hO)

theorem fF (x0 : Int) (y1 : Int) (r : Bool) (h0 : cZ x0 y1 = some r) : dU Try.prog 84 [(eI x0), (eI y1)] (aB r) := by
  intro H0
  refine dQ Try.func84 ?_
  have hO := aJ.start H0
  unfold cZ at h0
  refine aS aC 1 [] [] ?_
  refine aM ?_
  refine aQ aC 13 ?_
  refine bO 1 ?_
  obtain ⟨x1, hx2, h0⟩ := aT h0
  refine fC (qO x0 _ hx2) hO ?_
  intro H hO
  refine bO 4 ?_
  obtain ⟨x4, hx5, h0⟩ := aT h0
  refine mJ [(7, true)] 105 [(eI y1)] (aB x4) x1 (by kernel_rfl) (by kernel_rfl) (by kernel_rfl) (fun hb6 => (qO y1 _ (jO hx5 hb6))) hO ?_
  intro H hO
  refine bC ?_
  refine bE [(4, (aB ((x1 && (!x4)) || (decide (x0 < y1)))))] ?_
  refine bL ?_
  obtain rfl := oI h0
  exact aD (Q_r hO)

theorem sQ (lo0p : Nat) (aA : (List Int)) (a1 : Int) (b2 : Int) (r : List Int) (h0 : fY aA a1 b2 = some r) : lZ Try.prog 78 lo0p 1 (List.map (eI) aA) (List.map (eI) r) [(.msl 1 lo0p 0 (List.length aA)), (eI a1), (eI b2)] (.tup []) := by
  intro H0 hl0
  refine dQ Try.func78 ?_
  have hO := aJ.rN hl0
  clear hl0
  obtain ⟨N0, hN0⟩ : ∃ n, n = List.length aA := ⟨_, rfl⟩
  have hN : List.length aA = N0 := hN0.symm
  unfold fY at h0
  refine aS aC 3 [] [(6, (eI (wR (a1 + (1 : Int)))))] ?_
  refine cI 0 ?_
  refine iA [(0, (.msl 1 lo0p 0 (List.length aA))), (1, (eI a1)), (2, (eI b2)), (6, (eI (wR (a1 + (1 : Int)))))] ?_
  refine gY (fun T H => ∃ aA : List Int, ∃ i6 : Int, Has T [(0, (.msl 1 lo0p 0 (List.length aA))), (1, (eI a1)), (2, (eI b2)), (6, (eI i6))] ∧ aJ ⟨H0, [lo0p], []⟩ H [(lo0p, 1, List.map (eI) aA)] ∧ List.length aA = N0 ∧ iW aA a1 b2 i6 = some r) ?_ ⟨aA, wR (a1 + (1 : Int)), .eq (by kernel_rfl), hO, hN, h0⟩
  clear hO hN h0
  rintro T H ⟨aA, i6, hT, hO, hN, h0⟩
  refine bM hT ?_
  clear hT
  unfold iW at h0
  obtain ⟨rr0, hl0, h0⟩ := aT h0
  refine eE (by kernel_rfl) (fun (s : List Int × Int) T H => Has T [(0, (.msl 1 lo0p 0 (List.length s.1))), (1, (eI a1)), (2, (eI b2)), (6, (eI s.2))] ∧ aJ ⟨H0, [lo0p], []⟩ H [(lo0p, 1, List.map (eI) s.1)] ∧ List.length s.1 = N0) hl0 ⟨.eq (by kernel_rfl), hO, hN⟩ ?_
  clear hO hN
  rintro k0 s out1 T H ⟨hT, hO, hN⟩ h1 ho0
  obtain ⟨aA, i6⟩ := s
  replace h1 : dA a1 b2 aA i6 = some out1 := h1
  try dsimp only at hT
  refine bM hT ?_
  clear hT
  unfold dA at h1
  refine aM ?_
  refine aS aC 3 [] [(12, (aB (decide (i6 < b2))))] ?_
  refine bP h1 (fun h1 => ?_) (fun h1 => ?_)
  · refine bQ ?_
    refine bE [(0, (.msl 1 lo0p 0 (List.length aA))), (1, (eI a1)), (2, (eI b2)), (6, (eI i6))] ?_
    refine iR (fun T H => ∃ aA : List Int, Has T [(0, (.msl 1 lo0p 0 (List.length aA))), (1, (eI a1)), (2, (eI b2)), (6, (eI i6))] ∧ aJ ⟨H0, [lo0p], []⟩ H [(lo0p, 1, List.map (eI) aA)] ∧ List.length aA = N0 ∧ fR aA a1 b2 i6 = some out1) ?_ ?_
    · clear hO hN h1
      rintro T H ⟨aA, hT, hO, hN, h1⟩
      refine bM hT ?_
      clear hT
      unfold fR at h1
      refine aQ aC 3 ?_
      refine bC ?_
      exact aD (aF (⟨rfl, _, (oI h1).symm, .eq (by kernel_rfl), hO, hN⟩))
    refine cI 1 ?_
    refine aS aC 2 [] [(7, (eI i6))] ?_
    refine cI 2 ?_
    refine iA [(0, (.msl 1 lo0p 0 (List.length aA))), (1, (eI a1)), (2, (eI b2)), (6, (eI i6)), (7, (eI i6))] ?_
    refine gY (fun T H => ∃ aA : List Int, ∃ j7 : Int, Has T [(0, (.msl 1 lo0p 0 (List.length aA))), (1, (eI a1)), (2, (eI b2)), (6, (eI i6)), (7, (eI j7))] ∧ aJ ⟨H0, [lo0p], []⟩ H [(lo0p, 1, List.map (eI) aA)] ∧ List.length aA = N0 ∧ iV aA a1 b2 i6 j7 = some out1) ?_ ⟨aA, i6, .eq (by kernel_rfl), hO, hN, h1⟩
    clear hO hN h1
    rintro T H ⟨aA, j7, hT, hO, hN, h1⟩
    refine bM hT ?_
    clear hT
    unfold iV at h1
    obtain ⟨rr1, hl1, h1⟩ := aT h1
    refine eE (by kernel_rfl) (fun (s : List Int × Int) T H => Has T [(0, (.msl 1 lo0p 0 (List.length s.1))), (1, (eI a1)), (2, (eI b2)), (6, (eI i6)), (7, (eI s.2))] ∧ aJ ⟨H0, [lo0p], []⟩ H [(lo0p, 1, List.map (eI) s.1)] ∧ List.length s.1 = N0) hl1 ⟨.eq (by kernel_rfl), hO, hN⟩ ?_
    clear hO hN
    rintro k1 s out2 T H ⟨hT, hO, hN⟩ h2 ho1
    obtain ⟨aA, j7⟩ := s
    replace h2 : eS a1 b2 i6 aA j7 = some out2 := h2
    try dsimp only at hT
    refine bM hT ?_
    clear hT
    unfold eS at h2
    refine aM ?_
    refine aM ?_
    obtain ⟨c2, h2⟩ := aY h2
    obtain ⟨c3, h2⟩ := aY h2
    obtain ⟨x4, hx5, h2⟩ := aT h2
    refine gQ (gM []) aC 15 ?_
    refine oK (K := fun T H => Has (lift T) [(0, (.msl 1 lo0p 0 (List.length aA))), (1, (eI a1)), (2, (eI b2)), (6, (eI i6)), (7, (eI j7)), (30, (aB ((decide (a1 < j7)) && x4)))] ∧ aJ ⟨H0, [lo0p], []⟩ H [(lo0p, 1, List.map (eI) aA)]) ?_ ?_
    · refine lC 4 ?_
      refine nQ (t := 19) (e := decide (a1 < j7)) (by kernel_rfl) (fun hg6 => ?_) (fun hg6 => ?_)
      · refine cJ 7 [0 ≤ j7 ∧ j7 < (lN aA)] ⟨(c2 hg6), trivial⟩ ?_
        refine jC 0 lo0p 1 (0 + Int.toNat j7) (eI (gD aA j7)) (eI (gD aA j7)) (List.map (eI) aA) (by kernel_rfl) (by kernel_rfl) (by kernel_rfl) hO (by kernel_rfl) (bX (c2 hg6)) ?_
        refine cJ 12 [0 ≤ (wR (j7 - (1 : Int))) ∧ (wR (j7 - (1 : Int))) < (lN aA)] ⟨(c3 hg6), trivial⟩ ?_
        refine jC 0 lo0p 1 (0 + Int.toNat (wR (j7 - (1 : Int)))) (eI (gD aA (wR (j7 - (1 : Int))))) (eI (gD aA (wR (j7 - (1 : Int))))) (List.map (eI) aA) (by kernel_rfl) (by kernel_rfl) (by kernel_rfl) hO (by kernel_rfl) (bX (c3 hg6)) ?_
        refine nP 84 [(eI (gD aA j7)), (eI (gD aA (wR (j7 - (1 : Int)))))] (aB x4) (by kernel_rfl) (by kernel_rfl) (fF (gD aA j7) (gD aA (wR (j7 - (1 : Int)))) _ (jO hx5 hg6)) hO ?_
        intro H hO
        refine kT ?_
        exact ⟨⟨[(0, (.msl 1 lo0p 0 (List.length aA))), (1, (eI a1)), (2, (eI b2)), (6, (eI i6)), (7, (eI j7)), (30, (aB x4))], by kernel_rfl, rfl, ⟨aL.refl _, aL.refl _, aL.refl _, aL.refl _, aL.refl _, aL.eq (congrArg aB (lT hg6 rfl).symm), trivial⟩⟩, hO⟩
      refine kT ?_
      exact ⟨⟨[(0, (.msl 1 lo0p 0 (List.length aA))), (1, (eI a1)), (2, (eI b2)), (6, (eI i6)), (7, (eI j7)), (30, (aB false))], by kernel_rfl, rfl, ⟨aL.refl _, aL.refl _, aL.refl _, aL.refl _, aL.refl _, aL.eq (congrArg aB (lT hg6 rfl).symm), trivial⟩⟩, hO⟩
    · rintro T H ⟨hT, hO⟩
      refine eF hT ?_
      clear hT
      refine aD (aF ?_)
      refine bP h2 (fun h2 => ?_) (fun h2 => ?_)
      · refine bQ ?_
        refine bE [(0, (.msl 1 lo0p 0 (List.length aA))), (1, (eI a1)), (2, (eI b2)), (6, (eI i6)), (7, (eI j7))] ?_
        refine aM ?_
        refine cI 3 ?_
        refine gQ (gM []) aC 18 ?_
        obtain ⟨c8, h2⟩ := aY h2
        refine cJ 9 [0 ≤ (wR (j7 - (1 : Int))) ∧ (wR (j7 - (1 : Int))) < (lN aA)] ⟨c8, trivial⟩ ?_
        refine gO 0 lo0p 1 (0 + Int.toNat (wR (j7 - (1 : Int)))) (eI (gD aA (wR (j7 - (1 : Int))))) (eI (gD aA (wR (j7 - (1 : Int))))) (List.map (eI) aA) hO (bX c8) ?_
        obtain ⟨c9, h2⟩ := aY h2
        refine cJ 13 [0 ≤ j7 ∧ j7 < (lN aA)] ⟨c9, trivial⟩ ?_
        refine gO 0 lo0p 1 (0 + Int.toNat j7) (eI (gD aA j7)) (eI (gD aA j7)) (List.map (eI) aA) hO (bX c9) ?_
        obtain ⟨c10, h2⟩ := aY h2
        refine cJ 15 [0 ≤ j7 ∧ j7 < (lN aA)] ⟨c10, trivial⟩ ?_
        refine kH 0 lo0p 1 (0 + Int.toNat j7) (eI (gD aA j7)) (eI (gD aA (wR (j7 - (1 : Int))))) (List.map (eI) aA) [(lo0p, 1, List.map (eI) (List.set aA (Int.toNat j7) (gD aA (wR (j7 - (1 : Int))))))] hO (bX c10) (by simp only [List.set, gV]) ?_
        intro H hO
        replace hN : List.length (List.set aA (Int.toNat j7) (gD aA (wR (j7 - (1 : Int))))) = N0 := by simpa using hN
        obtain ⟨c11, h2⟩ := aY h2
        refine cJ 17 [0 ≤ (wR (j7 - (1 : Int))) ∧ (wR (j7 - (1 : Int))) < (lN aA)] ⟨c11, trivial⟩ ?_
        refine kH 0 lo0p 1 (0 + Int.toNat (wR (j7 - (1 : Int)))) (eI (gD (List.set aA (Int.toNat j7) (gD aA (wR (j7 - (1 : Int))))) (wR (j7 - (1 : Int))))) (eI (gD aA j7)) (List.map (eI) (List.set aA (Int.toNat j7) (gD aA (wR (j7 - (1 : Int)))))) [(lo0p, 1, List.map (eI) (List.set (List.set aA (Int.toNat j7) (gD aA (wR (j7 - (1 : Int))))) (Int.toNat (wR (j7 - (1 : Int)))) (gD aA j7)))] hO (lV c11 (by simp [])) (by simp only [List.set, gV]) ?_
        intro H hO
        replace hN : List.length (List.set (List.set aA (Int.toNat j7) (gD aA (wR (j7 - (1 : Int))))) (Int.toNat (wR (j7 - (1 : Int)))) (gD aA j7)) = N0 := by simpa using hN
        refine mK (by kernel_rfl) ?_
        refine eF (l := [(0, (.msl 1 lo0p 0 (List.length (List.set (List.set aA (Int.toNat j7) (gD aA (wR (j7 - (1 : Int))))) (Int.toNat (wR (j7 - (1 : Int)))) (gD aA j7))))), (1, (eI a1)), (2, (eI b2)), (6, (eI i6)), (7, (eI j7))]) ⟨[(0, (.msl 1 lo0p 0 (List.length aA))), (1, (eI a1)), (2, (eI b2)), (6, (eI i6)), (7, (eI j7))], by kernel_rfl, rfl, ⟨aL.eq (by simp []), aL.refl _, aL.refl _, aL.refl _, aL.refl _, trivial⟩⟩ ?_
        refine aD (aU (aF (?_)))
        refine aQ aC 3 ?_
        refine bC ?_
        exact aD (aF (⟨rfl, _, (oI h2).symm, .eq (by kernel_rfl), hO, hN⟩))
      refine jI 2 ?_
      obtain rfl := oI h2
      obtain rfl : _ = rr1 := ho1
      replace h1 : fR aA a1 b2 i6 = some out1 := h1
      exact aD (aV (aV (cH (aU (aF (⟨rfl, _, .eq (by kernel_rfl), hO, hN, h1⟩))))))
  refine jI 0 ?_
  obtain rfl := oI h1
  obtain rfl : _ = rr0 := ho0
  replace h0 : some aA = some r := h0
  obtain rfl := oI h0
  exact aD (aV (aV (cH (tT (x := (.tup [])) (by kernel_rfl) (aL.refl _) ⟨rfl, hO.ext, hO.at 0 (by kernel_rfl), by first | rfl | (simp only [List.length_map]; exact hN.trans hN0)⟩))))

theorem oP (lo0p : Nat) (aA : (List Int)) (lo1 : Int) (hi2 : Int) (bA : Int) (r : List Int) (h0 : eW aA lo1 hi2 bA = some r) : lZ Try.prog 100 lo0p 1 (List.map (eI) aA) (List.map (eI) r) [(.msl 1 lo0p 0 (List.length aA)), (eI lo1), (eI hi2), (eI bA)] (.tup []) := by
  intro H0 hl0
  refine dQ Try.func100 ?_
  have hO := aJ.rN hl0
  clear hl0
  obtain ⟨N0, hN0⟩ : ∃ n, n = List.length aA := ⟨_, rfl⟩
  have hN : List.length aA = N0 := hN0.symm
  unfold eW at h0
  refine aS aC 2 [1] [(8, (eI lo1))] ?_
  refine cI 0 ?_
  refine iA [(0, (.msl 1 lo0p 0 (List.length aA))), (2, (eI hi2)), (3, (eI bA)), (8, (eI lo1))] ?_
  refine gY (fun T H => ∃ aA : List Int, ∃ bZ : Int, Has T [(0, (.msl 1 lo0p 0 (List.length aA))), (2, (eI hi2)), (3, (eI bA)), (8, (eI bZ))] ∧ aJ ⟨H0, [lo0p], []⟩ H [(lo0p, 1, List.map (eI) aA)] ∧ List.length aA = N0 ∧ jX aA hi2 bA bZ = some r) ?_ ⟨aA, lo1, .eq (by kernel_rfl), hO, hN, h0⟩
  clear hO hN h0
  rintro T H ⟨aA, bZ, hT, hO, hN, h0⟩
  refine bM hT ?_
  clear hT
  unfold jX at h0
  obtain ⟨rr0, hl0, h0⟩ := aT h0
  refine eE (by kernel_rfl) (fun (s : List Int × Int) T H => Has T [(0, (.msl 1 lo0p 0 (List.length s.1))), (2, (eI hi2)), (3, (eI bA)), (8, (eI s.2))] ∧ aJ ⟨H0, [lo0p], []⟩ H [(lo0p, 1, List.map (eI) s.1)] ∧ List.length s.1 = N0) hl0 ⟨.eq (by kernel_rfl), hO, hN⟩ ?_
  clear hO hN
  rintro k0 s out1 T H ⟨hT, hO, hN⟩ h1 ho0
  obtain ⟨aA, bZ⟩ := s
  replace h1 : cX hi2 bA aA bZ = some out1 := h1
  try dsimp only at hT
  refine bM hT ?_
  clear hT
  unfold cX at h1
  refine cI 1 ?_
  refine aS aC 4 [] [(9, (eI (wR ((wR ((2 : Int) * bZ)) + (1 : Int)))))] ?_
  refine aM ?_
  refine aS aC 3 [] [(16, (aB (decide (hi2 ≤ (wR ((wR ((2 : Int) * bZ)) + (1 : Int)))))))] ?_
  refine bP h1 (fun h1 => ?_) (fun h1 => ?_)
  · refine jI 0 ?_
    obtain rfl := oI h1
    obtain rfl : _ = rr0 := ho0
    replace h0 : some aA = some r := h0
    obtain rfl := oI h0
    exact aD (aV (qJ (by kernel_rfl) (aV (cH (tT (x := (.tup [])) (by kernel_rfl) (aL.refl _) ⟨rfl, hO.ext, hO.at 0 (by kernel_rfl), by first | rfl | (simp only [List.length_map]; exact hN.trans hN0)⟩)))))
  refine bQ ?_
  refine bE [(0, (.msl 1 lo0p 0 (List.length aA))), (2, (eI hi2)), (3, (eI bA)), (8, (eI bZ)), (9, (eI (wR ((wR ((2 : Int) * bZ)) + (1 : Int)))))] ?_
  refine iR (fun T H => ∃ aA : List Int, ∃ dS : Int, Has T [(0, (.msl 1 lo0p 0 (List.length aA))), (2, (eI hi2)), (3, (eI bA)), (8, (eI bZ)), (9, (eI dS))] ∧ aJ ⟨H0, [lo0p], []⟩ H [(lo0p, 1, List.map (eI) aA)] ∧ List.length aA = N0 ∧ fU aA hi2 bA bZ dS = some out1) ?_ ?_
  · clear hO hN h1
    rintro T H ⟨aA, dS, hT, hO, hN, h1⟩
    refine bM hT ?_
    clear hT
    unfold fU at h1
    refine aM ?_
    refine aM ?_
    refine gQ (gM [51]) aC 14 ?_
    obtain ⟨c2, h1⟩ := aY h1
    refine cJ 5 [0 ≤ (wR (bA + bZ)) ∧ (wR (bA + bZ)) < (lN aA)] ⟨c2, trivial⟩ ?_
    refine gO 0 lo0p 1 (0 + Int.toNat (wR (bA + bZ))) (eI (gD aA (wR (bA + bZ)))) (eI (gD aA (wR (bA + bZ)))) (List.map (eI) aA) hO (bX c2) ?_
    obtain ⟨c3, h1⟩ := aY h1
    refine cJ 11 [0 ≤ (wR (bA + dS)) ∧ (wR (bA + dS)) < (lN aA)] ⟨c3, trivial⟩ ?_
    refine gO 0 lo0p 1 (0 + Int.toNat (wR (bA + dS))) (eI (gD aA (wR (bA + dS)))) (eI (gD aA (wR (bA + dS)))) (List.map (eI) aA) hO (bX c3) ?_
    obtain ⟨x4, hx5, h1⟩ := aT h1
    refine xT (fF (gD aA (wR (bA + bZ))) (gD aA (wR (bA + dS))) _ hx5) hO ?_
    intro H hO
    refine kT ?_
    refine cC [] [(52, (aB (!x4)))] ?_
    refine bP h1 (fun h1 => ?_) (fun h1 => ?_)
    · refine bL ?_
      obtain rfl := oI h1
      obtain rfl : _ = rr0 := ho0
      replace h0 : some aA = some r := h0
      obtain rfl := oI h0
      exact aD (aP (bG (aP (bG (lG (x := (.tup [])) (by kernel_rfl) (aL.refl _) ⟨rfl, hO.ext, hO.at 0 (by kernel_rfl), by first | rfl | (simp only [List.length_map]; exact hN.trans hN0)⟩)))))
    refine bQ ?_
    refine bE [(0, (.msl 1 lo0p 0 (List.length aA))), (2, (eI hi2)), (3, (eI bA)), (8, (eI bZ)), (9, (eI dS))] ?_
    refine aM ?_
    refine gQ (gM []) aC 24 ?_
    obtain ⟨c8, h1⟩ := aY h1
    refine cJ 13 [0 ≤ (wR (bA + dS)) ∧ (wR (bA + dS)) < (lN aA)] ⟨c8, trivial⟩ ?_
    refine gO 0 lo0p 1 (0 + Int.toNat (wR (bA + dS))) (eI (gD aA (wR (bA + dS)))) (eI (gD aA (wR (bA + dS)))) (List.map (eI) aA) hO (bX c8) ?_
    obtain ⟨c9, h1⟩ := aY h1
    refine cJ 19 [0 ≤ (wR (bA + bZ)) ∧ (wR (bA + bZ)) < (lN aA)] ⟨c9, trivial⟩ ?_
    refine gO 0 lo0p 1 (0 + Int.toNat (wR (bA + bZ))) (eI (gD aA (wR (bA + bZ)))) (eI (gD aA (wR (bA + bZ)))) (List.map (eI) aA) hO (bX c9) ?_
    obtain ⟨c10, h1⟩ := aY h1
    refine cJ 21 [0 ≤ (wR (bA + bZ)) ∧ (wR (bA + bZ)) < (lN aA)] ⟨c10, trivial⟩ ?_
    refine kH 0 lo0p 1 (0 + Int.toNat (wR (bA + bZ))) (eI (gD aA (wR (bA + bZ)))) (eI (gD aA (wR (bA + dS)))) (List.map (eI) aA) [(lo0p, 1, List.map (eI) (List.set aA (Int.toNat (wR (bA + bZ))) (gD aA (wR (bA + dS)))))] hO (bX c10) (by simp only [List.set, gV]) ?_
    intro H hO
    replace hN : List.length (List.set aA (Int.toNat (wR (bA + bZ))) (gD aA (wR (bA + dS)))) = N0 := by simpa using hN
    obtain ⟨c11, h1⟩ := aY h1
    refine cJ 23 [0 ≤ (wR (bA + dS)) ∧ (wR (bA + dS)) < (lN aA)] ⟨c11, trivial⟩ ?_
    refine kH 0 lo0p 1 (0 + Int.toNat (wR (bA + dS))) (eI (gD (List.set aA (Int.toNat (wR (bA + bZ))) (gD aA (wR (bA + dS)))) (wR (bA + dS)))) (eI (gD aA (wR (bA + bZ)))) (List.map (eI) (List.set aA (Int.toNat (wR (bA + bZ))) (gD aA (wR (bA + dS))))) [(lo0p, 1, List.map (eI) (List.set (List.set aA (Int.toNat (wR (bA + bZ))) (gD aA (wR (bA + dS)))) (Int.toNat (wR (bA + dS))) (gD aA (wR (bA + bZ)))))] hO (lV c11 (by simp [])) (by simp only [List.set, gV]) ?_
    intro H hO
    replace hN : List.length (List.set (List.set aA (Int.toNat (wR (bA + bZ))) (gD aA (wR (bA + dS)))) (Int.toNat (wR (bA + dS))) (gD aA (wR (bA + bZ)))) = N0 := by simpa using hN
    refine mK (by kernel_rfl) ?_
    refine eF (l := [(0, (.msl 1 lo0p 0 (List.length (List.set (List.set aA (Int.toNat (wR (bA + bZ))) (gD aA (wR (bA + dS)))) (Int.toNat (wR (bA + dS))) (gD aA (wR (bA + bZ))))))), (2, (eI hi2)), (3, (eI bA)), (9, (eI dS))]) ⟨[(0, (.msl 1 lo0p 0 (List.length aA))), (2, (eI hi2)), (3, (eI bA)), (9, (eI dS))], by kernel_rfl, rfl, ⟨aL.eq (by simp []), aL.refl _, aL.refl _, aL.refl _, trivial⟩⟩ ?_
    refine aD (aF (?_))
    refine aQ aC 2 ?_
    refine bC ?_
    exact aD (aU (aF (⟨rfl, _, (oI h1).symm, .eq (by kernel_rfl), hO, hN⟩)))
  refine aM ?_
  obtain ⟨c12, h1⟩ := aY h1
  obtain ⟨c13, h1⟩ := aY h1
  obtain ⟨x14, hx15, h1⟩ := aT h1
  refine gQ (gM []) aC 20 ?_
  refine oK (K := fun T H => Has (lift T) [(0, (.msl 1 lo0p 0 (List.length aA))), (2, (eI hi2)), (3, (eI bA)), (8, (eI bZ)), (9, (eI (wR ((wR ((2 : Int) * bZ)) + (1 : Int))))), (36, (aB ((decide ((wR ((wR ((wR ((2 : Int) * bZ)) + (1 : Int))) + (1 : Int))) < hi2)) && x14)))] ∧ aJ ⟨H0, [lo0p], []⟩ H [(lo0p, 1, List.map (eI) aA)]) ?_ ?_
  · refine lC 5 ?_
    refine nQ (t := 21) (e := decide ((wR ((wR ((wR ((2 : Int) * bZ)) + (1 : Int))) + (1 : Int))) < hi2)) (by kernel_rfl) (fun hg16 => ?_) (fun hg16 => ?_)
    · refine cJ 10 [0 ≤ (wR (bA + (wR ((wR ((2 : Int) * bZ)) + (1 : Int))))) ∧ (wR (bA + (wR ((wR ((2 : Int) * bZ)) + (1 : Int))))) < (lN aA)] ⟨(c12 hg16), trivial⟩ ?_
      refine jC 0 lo0p 1 (0 + Int.toNat (wR (bA + (wR ((wR ((2 : Int) * bZ)) + (1 : Int)))))) (eI (gD aA (wR (bA + (wR ((wR ((2 : Int) * bZ)) + (1 : Int))))))) (eI (gD aA (wR (bA + (wR ((wR ((2 : Int) * bZ)) + (1 : Int))))))) (List.map (eI) aA) (by kernel_rfl) (by kernel_rfl) (by kernel_rfl) hO (by kernel_rfl) (bX (c12 hg16)) ?_
      refine cJ 17 [0 ≤ (wR ((wR (bA + (wR ((wR ((2 : Int) * bZ)) + (1 : Int))))) + (1 : Int))) ∧ (wR ((wR (bA + (wR ((wR ((2 : Int) * bZ)) + (1 : Int))))) + (1 : Int))) < (lN aA)] ⟨(c13 hg16), trivial⟩ ?_
      refine jC 0 lo0p 1 (0 + Int.toNat (wR ((wR (bA + (wR ((wR ((2 : Int) * bZ)) + (1 : Int))))) + (1 : Int)))) (eI (gD aA (wR ((wR (bA + (wR ((wR ((2 : Int) * bZ)) + (1 : Int))))) + (1 : Int))))) (eI (gD aA (wR ((wR (bA + (wR ((wR ((2 : Int) * bZ)) + (1 : Int))))) + (1 : Int))))) (List.map (eI) aA) (by kernel_rfl) (by kernel_rfl) (by kernel_rfl) hO (by kernel_rfl) (bX (c13 hg16)) ?_
      refine nP 84 [(eI (gD aA (wR (bA + (wR ((wR ((2 : Int) * bZ)) + (1 : Int))))))), (eI (gD aA (wR ((wR (bA + (wR ((wR ((2 : Int) * bZ)) + (1 : Int))))) + (1 : Int)))))] (aB x14) (by kernel_rfl) (by kernel_rfl) (fF (gD aA (wR (bA + (wR ((wR ((2 : Int) * bZ)) + (1 : Int)))))) (gD aA (wR ((wR (bA + (wR ((wR ((2 : Int) * bZ)) + (1 : Int))))) + (1 : Int)))) _ (jO hx15 hg16)) hO ?_
      intro H hO
      refine kT ?_
      exact ⟨⟨[(0, (.msl 1 lo0p 0 (List.length aA))), (2, (eI hi2)), (3, (eI bA)), (8, (eI bZ)), (9, (eI (wR ((wR ((2 : Int) * bZ)) + (1 : Int))))), (36, (aB x14))], by kernel_rfl, rfl, ⟨aL.refl _, aL.refl _, aL.refl _, aL.refl _, aL.refl _, aL.eq (congrArg aB (lT hg16 rfl).symm), trivial⟩⟩, hO⟩
    refine kT ?_
    exact ⟨⟨[(0, (.msl 1 lo0p 0 (List.length aA))), (2, (eI hi2)), (3, (eI bA)), (8, (eI bZ)), (9, (eI (wR ((wR ((2 : Int) * bZ)) + (1 : Int))))), (36, (aB false))], by kernel_rfl, rfl, ⟨aL.refl _, aL.refl _, aL.refl _, aL.refl _, aL.refl _, aL.eq (congrArg aB (lT hg16 rfl).symm), trivial⟩⟩, hO⟩
  · rintro T H ⟨hT, hO⟩
    refine eF hT ?_
    clear hT
    refine aD (aF ?_)
    refine bP h1 (fun h1 => ?_) (fun h1 => ?_)
    · refine aQ aC 3 ?_
      refine bC ?_
      exact aD (aF (⟨rfl, _, _, .eq (by kernel_rfl), hO, hN, h1⟩))
    refine bQ ?_
    exact aD (aF (⟨rfl, _, _, .eq (by kernel_rfl), hO, hN, h1⟩))

theorem uI (lo0p : Nat) (aA : (List Int)) (a1 : Int) (b2 : Int) (r : List Int) (h0 : iX aA a1 b2 = some r) : lZ Try.prog 79 lo0p 1 (List.map (eI) aA) (List.map (eI) r) [(.msl 1 lo0p 0 (List.length aA)), (eI a1), (eI b2)] (.tup []) := by
  intro H0 hl0
  refine dQ Try.func79 ?_
  have hO := aJ.rN hl0
  clear hl0
  obtain ⟨N0, hN0⟩ : ∃ n, n = List.length aA := ⟨_, rfl⟩
  have hN : List.length aA = N0 := hN0.symm
  unfold iX at h0
  refine aS aC 2 [] [(6, (eI a1))] ?_
  refine aS aC 1 [] [(7, (eI (0 : Int)))] ?_
  refine aS aC 4 [1, 2] [(8, (eI (wR (b2 - a1))))] ?_
  refine iR (fun T H => ∃ aA : List Int, ∃ bK : Int, ∃ lo7 : Int, ∃ hi8 : Int, Has T [(0, (.msl 1 lo0p 0 (List.length aA))), (6, (eI bK)), (7, (eI lo7)), (8, (eI hi8))] ∧ aJ ⟨H0, [lo0p], []⟩ H [(lo0p, 1, List.map (eI) aA)] ∧ List.length aA = N0 ∧ iQ aA bK lo7 hi8 = some r) ?_ ?_
  · clear hO hN h0
    rintro T H ⟨aA, bK, lo7, hi8, hT, hO, hN, h0⟩
    refine bM hT ?_
    clear hT
    unfold iQ at h0
    refine aS aC 3 [8] [(10, (eI (wR (hi8 - (1 : Int)))))] ?_
    refine cI 2 ?_
    refine iA [(0, (.msl 1 lo0p 0 (List.length aA))), (6, (eI bK)), (7, (eI lo7)), (10, (eI (wR (hi8 - (1 : Int)))))] ?_
    refine gY (fun T H => ∃ aA : List Int, ∃ i10 : Int, Has T [(0, (.msl 1 lo0p 0 (List.length aA))), (6, (eI bK)), (7, (eI lo7)), (10, (eI i10))] ∧ aJ ⟨H0, [lo0p], []⟩ H [(lo0p, 1, List.map (eI) aA)] ∧ List.length aA = N0 ∧ jZ aA bK lo7 i10 = some r) ?_ ⟨aA, wR (hi8 - (1 : Int)), .eq (by kernel_rfl), hO, hN, h0⟩
    clear hO hN h0
    rintro T H ⟨aA, i10, hT, hO, hN, h0⟩
    refine bM hT ?_
    clear hT
    unfold jZ at h0
    obtain ⟨rr0, hl0, h0⟩ := aT h0
    refine eE (by kernel_rfl) (fun (s : List Int × Int) T H => Has T [(0, (.msl 1 lo0p 0 (List.length s.1))), (6, (eI bK)), (7, (eI lo7)), (10, (eI s.2))] ∧ aJ ⟨H0, [lo0p], []⟩ H [(lo0p, 1, List.map (eI) s.1)] ∧ List.length s.1 = N0) hl0 ⟨.eq (by kernel_rfl), hO, hN⟩ ?_
    clear hO hN
    rintro k0 s out1 T H ⟨hT, hO, hN⟩ h1 ho0
    obtain ⟨aA, i10⟩ := s
    replace h1 : dV bK lo7 aA i10 = some out1 := h1
    try dsimp only at hT
    refine bM hT ?_
    clear hT
    unfold dV at h1
    refine aM ?_
    refine aS aC 2 [] [(30, (aB (decide ((0 : Int) ≤ i10))))] ?_
    refine bP h1 (fun h1 => ?_) (fun h1 => ?_)
    · refine bQ ?_
      refine bE [(0, (.msl 1 lo0p 0 (List.length aA))), (6, (eI bK)), (7, (eI lo7)), (10, (eI i10))] ?_
      refine aM ?_
      refine cI 3 ?_
      refine aM ?_
      refine gQ (gM []) aC 20 ?_
      obtain ⟨c2, h1⟩ := aY h1
      refine cJ 11 [0 ≤ (wR (bK + i10)) ∧ (wR (bK + i10)) < (lN aA)] ⟨c2, trivial⟩ ?_
      refine gO 0 lo0p 1 (0 + Int.toNat (wR (bK + i10))) (eI (gD aA (wR (bK + i10)))) (eI (gD aA (wR (bK + i10)))) (List.map (eI) aA) hO (bX c2) ?_
      obtain ⟨c3, h1⟩ := aY h1
      refine cJ 15 [0 ≤ bK ∧ bK < (lN aA)] ⟨c3, trivial⟩ ?_
      refine gO 0 lo0p 1 (0 + Int.toNat bK) (eI (gD aA bK)) (eI (gD aA bK)) (List.map (eI) aA) hO (bX c3) ?_
      obtain ⟨c4, h1⟩ := aY h1
      refine cJ 17 [0 ≤ bK ∧ bK < (lN aA)] ⟨c4, trivial⟩ ?_
      refine kH 0 lo0p 1 (0 + Int.toNat bK) (eI (gD aA bK)) (eI (gD aA (wR (bK + i10)))) (List.map (eI) aA) [(lo0p, 1, List.map (eI) (List.set aA (Int.toNat bK) (gD aA (wR (bK + i10)))))] hO (bX c4) (by simp only [List.set, gV]) ?_
      intro H hO
      replace hN : List.length (List.set aA (Int.toNat bK) (gD aA (wR (bK + i10)))) = N0 := by simpa using hN
      obtain ⟨c5, h1⟩ := aY h1
      refine cJ 19 [0 ≤ (wR (bK + i10)) ∧ (wR (bK + i10)) < (lN aA)] ⟨c5, trivial⟩ ?_
      refine kH 0 lo0p 1 (0 + Int.toNat (wR (bK + i10))) (eI (gD (List.set aA (Int.toNat bK) (gD aA (wR (bK + i10)))) (wR (bK + i10)))) (eI (gD aA bK)) (List.map (eI) (List.set aA (Int.toNat bK) (gD aA (wR (bK + i10))))) [(lo0p, 1, List.map (eI) (List.set (List.set aA (Int.toNat bK) (gD aA (wR (bK + i10)))) (Int.toNat (wR (bK + i10))) (gD aA bK)))] hO (lV c5 (by simp [])) (by simp only [List.set, gV]) ?_
      intro H hO
      replace hN : List.length (List.set (List.set aA (Int.toNat bK) (gD aA (wR (bK + i10)))) (Int.toNat (wR (bK + i10))) (gD aA bK)) = N0 := by simpa using hN
      refine mK (by kernel_rfl) ?_
      refine eF (l := [(0, (.msl 1 lo0p 0 (List.length (List.set (List.set aA (Int.toNat bK) (gD aA (wR (bK + i10)))) (Int.toNat (wR (bK + i10))) (gD aA bK))))), (6, (eI bK)), (7, (eI lo7)), (10, (eI i10))]) ⟨[(0, (.msl 1 lo0p 0 (List.length aA))), (6, (eI bK)), (7, (eI lo7)), (10, (eI i10))], by kernel_rfl, rfl, ⟨aL.eq (by simp []), aL.refl _, aL.refl _, aL.refl _, trivial⟩⟩ ?_
      refine aD (aF (?_))
      refine aQ aC 5 ?_
      refine bO 4 ?_
      obtain ⟨x6, hx7, h1⟩ := aT h1
      refine uF [(lo0p, 1, List.map (eI) x6)] 0 (oP lo0p (List.set (List.set aA (Int.toNat bK) (gD aA (wR (bK + i10)))) (Int.toNat (wR (bK + i10))) (gD aA bK)) lo7 i10 bK _ hx7) hO ?_
      intro H hO hl8
      simp only [List.length_map] at hl8
      replace hN := hl8.trans hN
      refine dY ?_
      refine eF (l := [(0, (.msl 1 lo0p 0 (List.length x6))), (6, (eI bK)), (7, (eI lo7)), (10, (eI i10))]) ⟨[(0, (.msl 1 lo0p 0 (List.length (List.set (List.set aA (Int.toNat bK) (gD aA (wR (bK + i10)))) (Int.toNat (wR (bK + i10))) (gD aA bK))))), (6, (eI bK)), (7, (eI lo7)), (10, (eI i10))], by kernel_rfl, rfl, ⟨aL.eq (by simp [hl8]), aL.refl _, aL.refl _, aL.refl _, trivial⟩⟩ ?_
      refine aD (aU (aF (?_)))
      refine aQ aC 3 ?_
      refine bC ?_
      exact aD (aF (⟨rfl, _, (oI h1).symm, .eq (by kernel_rfl), hO, hN⟩))
    refine jI 2 ?_
    obtain rfl := oI h1
    obtain rfl : _ = rr0 := ho0
    replace h0 : some aA = some r := h0
    obtain rfl := oI h0
    exact aD (aV (aV (cH (tT (x := (.tup [])) (by kernel_rfl) (aL.refl _) ⟨rfl, hO.ext, hO.at 0 (by kernel_rfl), by first | rfl | (simp only [List.length_map]; exact hN.trans hN0)⟩))))
  refine aM ?_
  refine aQ aC 4 ?_
  obtain ⟨c9, h0⟩ := aY h0
  refine rL [(2 : Int) ≠ 0] ⟨c9, trivial⟩ ?_
  refine cC [] [(9, (eI (wR (Int.tdiv (wR ((wR (b2 - a1)) - (1 : Int))) (2 : Int)))))] ?_
  refine cI 0 ?_
  refine iA [(0, (.msl 1 lo0p 0 (List.length aA))), (6, (eI a1)), (7, (eI (0 : Int))), (8, (eI (wR (b2 - a1)))), (9, (eI (wR (Int.tdiv (wR ((wR (b2 - a1)) - (1 : Int))) (2 : Int)))))] ?_
  refine gY (fun T H => ∃ aA : List Int, ∃ bK : Int, ∃ lo7 : Int, ∃ hi8 : Int, ∃ i9 : Int, Has T [(0, (.msl 1 lo0p 0 (List.length aA))), (6, (eI bK)), (7, (eI lo7)), (8, (eI hi8)), (9, (eI i9))] ∧ aJ ⟨H0, [lo0p], []⟩ H [(lo0p, 1, List.map (eI) aA)] ∧ List.length aA = N0 ∧ jY aA bK lo7 hi8 i9 = some r) ?_ ⟨aA, a1, (0 : Int), wR (b2 - a1), wR (Int.tdiv (wR ((wR (b2 - a1)) - (1 : Int))) (2 : Int)), .eq (by kernel_rfl), hO, hN, h0⟩
  clear hO hN h0
  rintro T H ⟨aA, bK, lo7, hi8, i9, hT, hO, hN, h0⟩
  refine bM hT ?_
  clear hT
  unfold jY at h0
  obtain ⟨rr0, hl0, h0⟩ := aT h0
  refine eE (by kernel_rfl) (fun (s : List Int × Int) T H => Has T [(0, (.msl 1 lo0p 0 (List.length s.1))), (6, (eI bK)), (7, (eI lo7)), (8, (eI hi8)), (9, (eI s.2))] ∧ aJ ⟨H0, [lo0p], []⟩ H [(lo0p, 1, List.map (eI) s.1)] ∧ List.length s.1 = N0) hl0 ⟨.eq (by kernel_rfl), hO, hN⟩ ?_
  clear hO hN
  rintro k0 s out1 T H ⟨hT, hO, hN⟩ h1 ho0
  obtain ⟨aA, i9⟩ := s
  replace h1 : dW bK lo7 hi8 aA i9 = some out1 := h1
  try dsimp only at hT
  refine bM hT ?_
  clear hT
  unfold dW at h1
  refine aM ?_
  refine aS aC 2 [] [(19, (aB (decide ((0 : Int) ≤ i9))))] ?_
  refine bP h1 (fun h1 => ?_) (fun h1 => ?_)
  · refine bQ ?_
    refine bE [(0, (.msl 1 lo0p 0 (List.length aA))), (6, (eI bK)), (7, (eI lo7)), (8, (eI hi8)), (9, (eI i9))] ?_
    refine aM ?_
    refine cI 1 ?_
    refine aQ aC 5 ?_
    refine bO 4 ?_
    obtain ⟨x11, hx12, h1⟩ := aT h1
    refine uF [(lo0p, 1, List.map (eI) x11)] 0 (oP lo0p aA i9 hi8 bK _ hx12) hO ?_
    intro H hO hl13
    simp only [List.length_map] at hl13
    replace hN := hl13.trans hN
    refine dY ?_
    refine eF (l := [(0, (.msl 1 lo0p 0 (List.length x11))), (6, (eI bK)), (7, (eI lo7)), (8, (eI hi8)), (9, (eI i9))]) ⟨[(0, (.msl 1 lo0p 0 (List.length aA))), (6, (eI bK)), (7, (eI lo7)), (8, (eI hi8)), (9, (eI i9))], by kernel_rfl, rfl, ⟨aL.eq (by simp [hl13]), aL.refl _, aL.refl _, aL.refl _, aL.refl _, trivial⟩⟩ ?_
    refine aD (aU (aF (?_)))
    refine aQ aC 3 ?_
    refine bC ?_
    exact aD (aF (⟨rfl, _, (oI h1).symm, .eq (by kernel_rfl), hO, hN⟩))
  refine jI 0 ?_
  obtain rfl := oI h1
  obtain rfl : _ = rr0 := ho0
  replace h0 : iQ aA bK lo7 hi8 = some r := h0
  exact aD (aV (aV (cH (aF (⟨rfl, _, _, _, _, .eq (by kernel_rfl), hO, hN, h0⟩)))))

theorem xB (yK : Int) (r : Int) (h0 : kK yK = some r) : dU Try.prog 101 [(eI yK)] (cS .u64 r) := by
  intro H0
  refine dQ Try.func101 ?_
  have hO := aJ.start H0
  unfold kK at h0
  refine aS aC 1 [] [] ?_
  refine aM ?_
  refine aQ aC 5 ?_
  refine bO 2 ?_
  obtain ⟨x1, hx2, h0⟩ := aT h0
  refine fC (xJ (IntKind.u64.wrap yK) _ hx2) hO ?_
  intro H hO
  obtain ⟨c4, h0⟩ := aY h0
  refine rL [0 ≤ x1] ⟨c4, trivial⟩ ?_
  refine bE [(2, (cS .u64 (IntKind.u64.wrap ((1 : Int) * 2 ^ (min (Int.toNat x1) 64)))))] ?_
  refine bL ?_
  obtain rfl := oI h0
  exact aD (Q_r hO)

theorem xQ (lo0p : Nat) (r0 : Int) (r : (Int × Int)) (h0 : kS r0 = some r) : vM Try.prog 102 [(.lp lo0p 0 0)] [(lo0p, 1, [(cS .u64 r0)])] (fun x L => x = (cS .u64 r.1) ∧ L = [(lo0p, 1, [(cS .u64 r.2)])]) := by
  intro F H0 hO
  obtain ⟨Fh, Fe, Fg⟩ := F
  refine dQ Try.func102 ?_
  unfold kS at h0
  refine aS aC 1 [] [] ?_
  refine aM ?_
  refine gQ (gM []) aC 10 ?_
  refine lC 2 ?_
  refine gO 0 lo0p 1 0 (cS .u64 r0) (cS .u64 r0) [(cS .u64 r0)] hO rfl ?_
  refine lC 5 ?_
  refine gO 0 lo0p 1 0 (cS .u64 r0) (cS .u64 r0) [(cS .u64 r0)] hO rfl ?_
  obtain ⟨c1, h0⟩ := aY h0
  refine cJ 9 [0 ≤ (13 : Int)] ⟨c1, trivial⟩ ?_
  refine kH 0 lo0p 1 0 (cS .u64 r0) (cS .u64 (bJ .xor .u64 r0 (IntKind.u64.wrap (r0 * 2 ^ (min (Int.toNat (13 : Int)) 64))))) [(cS .u64 r0)] [(lo0p, 1, [(cS .u64 (bJ .xor .u64 r0 (IntKind.u64.wrap (r0 * 2 ^ (min (Int.toNat (13 : Int)) 64)))))])] hO rfl (by kernel_rfl) ?_
  intro H hO
  refine mK (by kernel_rfl) ?_
  refine cC [] [] ?_
  refine aM ?_
  refine gQ (gM []) aC 10 ?_
  refine lC 2 ?_
  refine gO 0 lo0p 1 0 (cS .u64 (bJ .xor .u64 r0 (IntKind.u64.wrap (r0 * 2 ^ (min (Int.toNat (13 : Int)) 64))))) (cS .u64 (bJ .xor .u64 r0 (IntKind.u64.wrap (r0 * 2 ^ (min (Int.toNat (13 : Int)) 64))))) [(cS .u64 (bJ .xor .u64 r0 (IntKind.u64.wrap (r0 * 2 ^ (min (Int.toNat (13 : Int)) 64)))))] hO rfl ?_
  refine lC 5 ?_
  refine gO 0 lo0p 1 0 (cS .u64 (bJ .xor .u64 r0 (IntKind.u64.wrap (r0 * 2 ^ (min (Int.toNat (13 : Int)) 64))))) (cS .u64 (bJ .xor .u64 r0 (IntKind.u64.wrap (r0 * 2 ^ (min (Int.toNat (13 : Int)) 64))))) [(cS .u64 (bJ .xor .u64 r0 (IntKind.u64.wrap (r0 * 2 ^ (min (Int.toNat (13 : Int)) 64)))))] hO rfl ?_
  obtain ⟨c2, h0⟩ := aY h0
  refine cJ 9 [0 ≤ (7 : Int)] ⟨c2, trivial⟩ ?_
  refine kH 0 lo0p 1 0 (cS .u64 (bJ .xor .u64 r0 (IntKind.u64.wrap (r0 * 2 ^ (min (Int.toNat (13 : Int)) 64))))) (cS .u64 (bJ .xor .u64 (bJ .xor .u64 r0 (IntKind.u64.wrap (r0 * 2 ^ (min (Int.toNat (13 : Int)) 64)))) (Int.fdiv (bJ .xor .u64 r0 (IntKind.u64.wrap (r0 * 2 ^ (min (Int.toNat (13 : Int)) 64)))) (2 ^ (min (Int.toNat (7 : Int)) 64))))) [(cS .u64 (bJ .xor .u64 r0 (IntKind.u64.wrap (r0 * 2 ^ (min (Int.toNat (13 : Int)) 64)))))] [(lo0p, 1, [(cS .u64 (bJ .xor .u64 (bJ .xor .u64 r0 (IntKind.u64.wrap (r0 * 2 ^ (min (Int.toNat (13 : Int)) 64)))) (Int.fdiv (bJ .xor .u64 r0 (IntKind.u64.wrap (r0 * 2 ^ (min (Int.toNat (13 : Int)) 64)))) (2 ^ (min (Int.toNat (7 : Int)) 64)))))])] hO rfl (by kernel_rfl) ?_
  intro H hO
  refine mK (by kernel_rfl) ?_
  refine cC [] [] ?_
  refine aM ?_
  refine gQ (gM []) aC 10 ?_
  refine lC 2 ?_
  refine gO 0 lo0p 1 0 (cS .u64 (bJ .xor .u64 (bJ .xor .u64 r0 (IntKind.u64.wrap (r0 * 2 ^ (min (Int.toNat (13 : Int)) 64)))) (Int.fdiv (bJ .xor .u64 r0 (IntKind.u64.wrap (r0 * 2 ^ (min (Int.toNat (13 : Int)) 64)))) (2 ^ (min (Int.toNat (7 : Int)) 64))))) (cS .u64 (bJ .xor .u64 (bJ .xor .u64 r0 (IntKind.u64.wrap (r0 * 2 ^ (min (Int.toNat (13 : Int)) 64)))) (Int.fdiv (bJ .xor .u64 r0 (IntKind.u64.wrap (r0 * 2 ^ (min (Int.toNat (13 : Int)) 64)))) (2 ^ (min (Int.toNat (7 : Int)) 64))))) [(cS .u64 (bJ .xor .u64 (bJ .xor .u64 r0 (IntKind.u64.wrap (r0 * 2 ^ (min (Int.toNat (13 : Int)) 64)))) (Int.fdiv (bJ .xor .u64 r0 (IntKind.u64.wrap (r0 * 2 ^ (min (Int.toNat (13 : Int)) 64)))) (2 ^ (min (Int.toNat (7 : Int)) 64)))))] hO rfl ?_
  refine lC 5 ?_
  refine gO 0 lo0p 1 0 (cS .u64 (bJ .xor .u64 (bJ .xor .u64 r0 (IntKind.u64.wrap (r0 * 2 ^ (min (Int.toNat (13 : Int)) 64)))) (Int.fdiv (bJ .xor .u64 r0 (IntKind.u64.wrap (r0 * 2 ^ (min (Int.toNat (13 : Int)) 64)))) (2 ^ (min (Int.toNat (7 : Int)) 64))))) (cS .u64 (bJ .xor .u64 (bJ .xor .u64 r0 (IntKind.u64.wrap (r0 * 2 ^ (min (Int.toNat (13 : Int)) 64)))) (Int.fdiv (bJ .xor .u64 r0 (IntKind.u64.wrap (r0 * 2 ^ (min (Int.toNat (13 : Int)) 64)))) (2 ^ (min (Int.toNat (7 : Int)) 64))))) [(cS .u64 (bJ .xor .u64 (bJ .xor .u64 r0 (IntKind.u64.wrap (r0 * 2 ^ (min (Int.toNat (13 : Int)) 64)))) (Int.fdiv (bJ .xor .u64 r0 (IntKind.u64.wrap (r0 * 2 ^ (min (Int.toNat (13 : Int)) 64)))) (2 ^ (min (Int.toNat (7 : Int)) 64)))))] hO rfl ?_
  obtain ⟨c3, h0⟩ := aY h0
  refine cJ 9 [0 ≤ (17 : Int)] ⟨c3, trivial⟩ ?_
  refine kH 0 lo0p 1 0 (cS .u64 (bJ .xor .u64 (bJ .xor .u64 r0 (IntKind.u64.wrap (r0 * 2 ^ (min (Int.toNat (13 : Int)) 64)))) (Int.fdiv (bJ .xor .u64 r0 (IntKind.u64.wrap (r0 * 2 ^ (min (Int.toNat (13 : Int)) 64)))) (2 ^ (min (Int.toNat (7 : Int)) 64))))) (cS .u64 (bJ .xor .u64 (bJ .xor .u64 (bJ .xor .u64 r0 (IntKind.u64.wrap (r0 * 2 ^ (min (Int.toNat (13 : Int)) 64)))) (Int.fdiv (bJ .xor .u64 r0 (IntKind.u64.wrap (r0 * 2 ^ (min (Int.toNat (13 : Int)) 64)))) (2 ^ (min (Int.toNat (7 : Int)) 64)))) (IntKind.u64.wrap ((bJ .xor .u64 (bJ .xor .u64 r0 (IntKind.u64.wrap (r0 * 2 ^ (min (Int.toNat (13 : Int)) 64)))) (Int.fdiv (bJ .xor .u64 r0 (IntKind.u64.wrap (r0 * 2 ^ (min (Int.toNat (13 : Int)) 64)))) (2 ^ (min (Int.toNat (7 : Int)) 64)))) * 2 ^ (min (Int.toNat (17 : Int)) 64))))) [(cS .u64 (bJ .xor .u64 (bJ .xor .u64 r0 (IntKind.u64.wrap (r0 * 2 ^ (min (Int.toNat (13 : Int)) 64)))) (Int.fdiv (bJ .xor .u64 r0 (IntKind.u64.wrap (r0 * 2 ^ (min (Int.toNat (13 : Int)) 64)))) (2 ^ (min (Int.toNat (7 : Int)) 64)))))] [(lo0p, 1, [(cS .u64 (bJ .xor .u64 (bJ .xor .u64 (bJ .xor .u64 r0 (IntKind.u64.wrap (r0 * 2 ^ (min (Int.toNat (13 : Int)) 64)))) (Int.fdiv (bJ .xor .u64 r0 (IntKind.u64.wrap (r0 * 2 ^ (min (Int.toNat (13 : Int)) 64)))) (2 ^ (min (Int.toNat (7 : Int)) 64)))) (IntKind.u64.wrap ((bJ .xor .u64 (bJ .xor .u64 r0 (IntKind.u64.wrap (r0 * 2 ^ (min (Int.toNat (13 : Int)) 64)))) (Int.fdiv (bJ .xor .u64 r0 (IntKind.u64.wrap (r0 * 2 ^ (min (Int.toNat (13 : Int)) 64)))) (2 ^ (min (Int.toNat (7 : Int)) 64)))) * 2 ^ (min (Int.toNat (17 : Int)) 64)))))])] hO rfl (by kernel_rfl) ?_
  intro H hO
  refine mK (by kernel_rfl) ?_
  refine cC [] [] ?_
  refine aM ?_
  refine aQ aC 4 ?_
  refine bO 2 ?_
  refine mW 0 lo0p 1 0 (cS .u64 (bJ .xor .u64 (bJ .xor .u64 (bJ .xor .u64 r0 (IntKind.u64.wrap (r0 * 2 ^ (min (Int.toNat (13 : Int)) 64)))) (Int.fdiv (bJ .xor .u64 r0 (IntKind.u64.wrap (r0 * 2 ^ (min (Int.toNat (13 : Int)) 64)))) (2 ^ (min (Int.toNat (7 : Int)) 64)))) (IntKind.u64.wrap ((bJ .xor .u64 (bJ .xor .u64 r0 (IntKind.u64.wrap (r0 * 2 ^ (min (Int.toNat (13 : Int)) 64)))) (Int.fdiv (bJ .xor .u64 r0 (IntKind.u64.wrap (r0 * 2 ^ (min (Int.toNat (13 : Int)) 64)))) (2 ^ (min (Int.toNat (7 : Int)) 64)))) * 2 ^ (min (Int.toNat (17 : Int)) 64))))) (cS .u64 (bJ .xor .u64 (bJ .xor .u64 (bJ .xor .u64 r0 (IntKind.u64.wrap (r0 * 2 ^ (min (Int.toNat (13 : Int)) 64)))) (Int.fdiv (bJ .xor .u64 r0 (IntKind.u64.wrap (r0 * 2 ^ (min (Int.toNat (13 : Int)) 64)))) (2 ^ (min (Int.toNat (7 : Int)) 64)))) (IntKind.u64.wrap ((bJ .xor .u64 (bJ .xor .u64 r0 (IntKind.u64.wrap (r0 * 2 ^ (min (Int.toNat (13 : Int)) 64)))) (Int.fdiv (bJ .xor .u64 r0 (IntKind.u64.wrap (r0 * 2 ^ (min (Int.toNat (13 : Int)) 64)))) (2 ^ (min (Int.toNat (7 : Int)) 64)))) * 2 ^ (min (Int.toNat (17 : Int)) 64))))) [(cS .u64 (bJ .xor .u64 (bJ .xor .u64 (bJ .xor .u64 r0 (IntKind.u64.wrap (r0 * 2 ^ (min (Int.toNat (13 : Int)) 64)))) (Int.fdiv (bJ .xor .u64 r0 (IntKind.u64.wrap (r0 * 2 ^ (min (Int.toNat (13 : Int)) 64)))) (2 ^ (min (Int.toNat (7 : Int)) 64)))) (IntKind.u64.wrap ((bJ .xor .u64 (bJ .xor .u64 r0 (IntKind.u64.wrap (r0 * 2 ^ (min (Int.toNat (13 : Int)) 64)))) (Int.fdiv (bJ .xor .u64 r0 (IntKind.u64.wrap (r0 * 2 ^ (min (Int.toNat (13 : Int)) 64)))) (2 ^ (min (Int.toNat (7 : Int)) 64)))) * 2 ^ (min (Int.toNat (17 : Int)) 64)))))] hO rfl ?_
  refine bC ?_
  refine bE [(0, (.lp lo0p 0 0)), (2, (cS .u64 (bJ .xor .u64 (bJ .xor .u64 (bJ .xor .u64 r0 (IntKind.u64.wrap (r0 * 2 ^ (min (Int.toNat (13 : Int)) 64)))) (Int.fdiv (bJ .xor .u64 r0 (IntKind.u64.wrap (r0 * 2 ^ (min (Int.toNat (13 : Int)) 64)))) (2 ^ (min (Int.toNat (7 : Int)) 64)))) (IntKind.u64.wrap ((bJ .xor .u64 (bJ .xor .u64 r0 (IntKind.u64.wrap (r0 * 2 ^ (min (Int.toNat (13 : Int)) 64)))) (Int.fdiv (bJ .xor .u64 r0 (IntKind.u64.wrap (r0 * 2 ^ (min (Int.toNat (13 : Int)) 64)))) (2 ^ (min (Int.toNat (7 : Int)) 64)))) * 2 ^ (min (Int.toNat (17 : Int)) 64))))))] ?_
  refine bL ?_
  obtain rfl := oI h0
  exact aD (BQ hO ⟨rfl, rfl⟩)

theorem sS (lo0p : Nat) (aA : (List Int)) (a1 : Int) (b2 : Int) (r : List Int) (h0 : fW aA a1 b2 = some r) : lZ Try.prog 80 lo0p 1 (List.map (eI) aA) (List.map (eI) r) [(.msl 1 lo0p 0 (List.length aA)), (eI a1), (eI b2)] (.tup []) := by
  intro H0 hl0
  refine dQ Try.func80 ?_
  have hO := aJ.rN hl0
  clear hl0
  obtain ⟨N0, hN0⟩ : ∃ n, n = List.length aA := ⟨_, rfl⟩
  have hN : List.length aA = N0 := hN0.symm
  unfold fW at h0
  refine aS aC 4 [2] [(6, (eI (wR (b2 - a1))))] ?_
  refine aS aC 2 [] [(15, (aB (decide ((8 : Int) ≤ (wR (b2 - a1))))))] ?_
  refine bP h0 (fun h0 => ?_) (fun h0 => ?_)
  · refine aM ?_
    refine aQ aC 4 ?_
    refine bO 2 ?_
    refine kN 1 (cS .u64 0) (by kernel_rfl) (by kernel_rfl) hO ?_
    intro lo2 H hO
    refine iY 1 lo2 1 0 (cS .u64 0) (cS .u64 (IntKind.u64.wrap (wR (b2 - a1)))) [(cS .u64 0)] [(lo0p, 1, List.map (eI) aA), (lo2, 1, [(cS .u64 (IntKind.u64.wrap (wR (b2 - a1))))])] hO rfl (by kernel_rfl) ?_
    intro H hO
    refine dY ?_
    refine cC [15] [(7, (.lp lo2 0 0))] ?_
    refine aM ?_
    refine aQ aC 3 ?_
    refine bO 1 ?_
    obtain ⟨x3, hx4, h0⟩ := aT h0
    refine fC (xB (wR (b2 - a1)) _ hx4) hO ?_
    intro H hO
    refine bC ?_
    refine cC [] [(8, (cS .u64 x3))] ?_
    refine aM ?_
    refine aQ aC 7 ?_
    obtain ⟨c6, h0⟩ := aY h0
    refine rL [(4 : Int) ≠ 0] ⟨c6, trivial⟩ ?_
    refine bE [(0, (.msl 1 lo0p 0 (List.length aA))), (1, (eI a1)), (6, (eI (wR (b2 - a1)))), (7, (.lp lo2 0 0)), (8, (cS .u64 x3)), (9, (eI (wR ((wR (a1 + (wR ((wR (Int.tdiv (wR (b2 - a1)) (4 : Int))) * (2 : Int))))) - (1 : Int)))))] ?_
    refine cI 0 ?_
    refine iA [(0, (.msl 1 lo0p 0 (List.length aA))), (1, (eI a1)), (6, (eI (wR (b2 - a1)))), (7, (.lp lo2 0 0)), (8, (cS .u64 x3)), (9, (eI (wR ((wR (a1 + (wR ((wR (Int.tdiv (wR (b2 - a1)) (4 : Int))) * (2 : Int))))) - (1 : Int)))))] ?_
    refine gY (fun T H => ∃ aA : List Int, ∃ jK : Int, ∃ kQ : Int, ∃ iH : Int, ∃ idx9 : Int, Has T [(0, (.msl 1 lo0p 0 (List.length aA))), (1, (eI a1)), (6, (eI jK)), (7, (.lp lo2 0 0)), (8, (cS .u64 iH)), (9, (eI idx9))] ∧ aJ ⟨H0, [lo0p], []⟩ H [(lo0p, 1, List.map (eI) aA), (lo2, 1, [(cS .u64 kQ)])] ∧ List.length aA = N0 ∧ iS aA a1 jK kQ iH idx9 = some r) ?_ ⟨aA, wR (b2 - a1), IntKind.u64.wrap (wR (b2 - a1)), x3, wR ((wR (a1 + (wR ((wR (Int.tdiv (wR (b2 - a1)) (4 : Int))) * (2 : Int))))) - (1 : Int)), .eq (by kernel_rfl), hO, hN, h0⟩
    clear hO hN h0
    rintro T H ⟨aA, jK, kQ, iH, idx9, hT, hO, hN, h0⟩
    refine bM hT ?_
    clear hT
    unfold iS at h0
    obtain ⟨rr0, hl0, h0⟩ := aT h0
    refine eE (by kernel_rfl) (fun (s : List Int × Int × Int) T H => Has T [(0, (.msl 1 lo0p 0 (List.length s.1))), (1, (eI a1)), (6, (eI jK)), (7, (.lp lo2 0 0)), (8, (cS .u64 iH)), (9, (eI s.2.2))] ∧ aJ ⟨H0, [lo0p], []⟩ H [(lo0p, 1, List.map (eI) s.1), (lo2, 1, [(cS .u64 s.2.1)])] ∧ List.length s.1 = N0) hl0 ⟨.eq (by kernel_rfl), hO, hN⟩ ?_
    clear hO hN
    rintro k0 s out1 T H ⟨hT, hO, hN⟩ h1 ho0
    obtain ⟨aA, kQ, idx9⟩ := s
    replace h1 : cR a1 jK iH aA kQ idx9 = some out1 := h1
    try dsimp only at hT
    refine bM hT ?_
    clear hT
    unfold cR at h1
    refine aM ?_
    refine aM ?_
    refine aQ aC 8 ?_
    obtain ⟨c7, h1⟩ := aY h1
    refine rL [(4 : Int) ≠ 0] ⟨c7, trivial⟩ ?_
    refine cC [] [(33, (aB (decide (idx9 ≤ (wR ((wR (a1 + (wR ((wR (Int.tdiv jK (4 : Int))) * (2 : Int))))) + (1 : Int)))))))] ?_
    refine bP h1 (fun h1 => ?_) (fun h1 => ?_)
    · refine bQ ?_
      refine bE [(0, (.msl 1 lo0p 0 (List.length aA))), (1, (eI a1)), (6, (eI jK)), (7, (.lp lo2 0 0)), (8, (cS .u64 iH)), (9, (eI idx9))] ?_
      refine aM ?_
      refine cI 1 ?_
      refine aM ?_
      refine aQ aC 6 ?_
      obtain ⟨x9, hx10, h1⟩ := aT h1
      refine xR [(lo0p, 1, List.map (eI) aA)] [1, 0] (xQ lo2 kQ _ hx10) hO ?_
      intro r11 L12 H hP13 hO
      obtain ⟨rfl, rfl⟩ := hP13
      replace hO : aJ ⟨H0, [lo0p], []⟩ H [(lo2, 1, [(cS .u64 x9.2)]), (lo0p, 1, List.map (eI) aA)] := hO
      refine bC ?_
      replace hO := hO.pick (L' := [(lo0p, 1, List.map (eI) aA), (lo2, 1, [(cS .u64 x9.2)])]) [1, 0] (by decide) (by kernel_rfl)
      refine cC [] [(10, (eI (wR (bJ .and .u64 x9.1 (IntKind.u64.wrap (iH - (1 : Int)))))))] ?_
      refine iR (fun T H => ∃ aA : List Int, ∃ kQ : Int, ∃ fE : Int, Has T [(0, (.msl 1 lo0p 0 (List.length aA))), (1, (eI a1)), (6, (eI jK)), (7, (.lp lo2 0 0)), (8, (cS .u64 iH)), (9, (eI idx9)), (10, (eI fE))] ∧ aJ ⟨H0, [lo0p], []⟩ H [(lo0p, 1, List.map (eI) aA), (lo2, 1, [(cS .u64 kQ)])] ∧ List.length aA = N0 ∧ eP aA a1 jK kQ iH idx9 fE = some out1) ?_ ?_
      · clear hO hN h1
        rintro T H ⟨aA, kQ, fE, hT, hO, hN, h1⟩
        refine bM hT ?_
        clear hT
        unfold eP at h1
        refine gQ (gM []) aC 20 ?_
        obtain ⟨c14, h1⟩ := aY h1
        refine cJ 11 [0 ≤ (wR (a1 + fE)) ∧ (wR (a1 + fE)) < (lN aA)] ⟨c14, trivial⟩ ?_
        refine gO 0 lo0p 1 (0 + Int.toNat (wR (a1 + fE))) (eI (gD aA (wR (a1 + fE)))) (eI (gD aA (wR (a1 + fE)))) (List.map (eI) aA) hO (bX c14) ?_
        obtain ⟨c15, h1⟩ := aY h1
        refine cJ 15 [0 ≤ idx9 ∧ idx9 < (lN aA)] ⟨c15, trivial⟩ ?_
        refine gO 0 lo0p 1 (0 + Int.toNat idx9) (eI (gD aA idx9)) (eI (gD aA idx9)) (List.map (eI) aA) hO (bX c15) ?_
        obtain ⟨c16, h1⟩ := aY h1
        refine cJ 17 [0 ≤ idx9 ∧ idx9 < (lN aA)] ⟨c16, trivial⟩ ?_
        refine kH 0 lo0p 1 (0 + Int.toNat idx9) (eI (gD aA idx9)) (eI (gD aA (wR (a1 + fE)))) (List.map (eI) aA) [(lo0p, 1, List.map (eI) (List.set aA (Int.toNat idx9) (gD aA (wR (a1 + fE))))), (lo2, 1, [(cS .u64 kQ)])] hO (bX c16) (by simp only [List.set, gV]) ?_
        intro H hO
        replace hN : List.length (List.set aA (Int.toNat idx9) (gD aA (wR (a1 + fE)))) = N0 := by simpa using hN
        obtain ⟨c17, h1⟩ := aY h1
        refine cJ 19 [0 ≤ (wR (a1 + fE)) ∧ (wR (a1 + fE)) < (lN aA)] ⟨c17, trivial⟩ ?_
        refine kH 0 lo0p 1 (0 + Int.toNat (wR (a1 + fE))) (eI (gD (List.set aA (Int.toNat idx9) (gD aA (wR (a1 + fE)))) (wR (a1 + fE)))) (eI (gD aA idx9)) (List.map (eI) (List.set aA (Int.toNat idx9) (gD aA (wR (a1 + fE))))) [(lo0p, 1, List.map (eI) (List.set (List.set aA (Int.toNat idx9) (gD aA (wR (a1 + fE)))) (Int.toNat (wR (a1 + fE))) (gD aA idx9))), (lo2, 1, [(cS .u64 kQ)])] hO (lV c17 (by simp [])) (by simp only [List.set, gV]) ?_
        intro H hO
        replace hN : List.length (List.set (List.set aA (Int.toNat idx9) (gD aA (wR (a1 + fE)))) (Int.toNat (wR (a1 + fE))) (gD aA idx9)) = N0 := by simpa using hN
        refine mK (by kernel_rfl) ?_
        refine eF (l := [(0, (.msl 1 lo0p 0 (List.length (List.set (List.set aA (Int.toNat idx9) (gD aA (wR (a1 + fE)))) (Int.toNat (wR (a1 + fE))) (gD aA idx9))))), (1, (eI a1)), (6, (eI jK)), (7, (.lp lo2 0 0)), (8, (cS .u64 iH)), (9, (eI idx9))]) ⟨[(0, (.msl 1 lo0p 0 (List.length aA))), (1, (eI a1)), (6, (eI jK)), (7, (.lp lo2 0 0)), (8, (cS .u64 iH)), (9, (eI idx9))], by kernel_rfl, rfl, ⟨aL.eq (by simp []), aL.refl _, aL.refl _, aL.refl _, aL.refl _, aL.refl _, trivial⟩⟩ ?_
        refine aD (aU (aF (?_)))
        refine aQ aC 3 ?_
        refine bC ?_
        exact aD (aF (⟨rfl, _, (oI h1).symm, .eq (by kernel_rfl), hO, hN⟩))
      refine aS aC 3 [] [(43, (aB (decide (jK ≤ (wR (bJ .and .u64 x9.1 (IntKind.u64.wrap (iH - (1 : Int)))))))))] ?_
      refine bP h1 (fun h1 => ?_) (fun h1 => ?_)
      · refine aQ aC 4 ?_
        refine bC ?_
        exact aD (aF (⟨rfl, _, _, _, .eq (by kernel_rfl), hO, hN, h1⟩))
      refine bQ ?_
      exact aD (aF (⟨rfl, _, _, _, .eq (by kernel_rfl), hO, hN, h1⟩))
    refine jI 0 ?_
    replace hO := hO.pick (L' := [(lo0p, 1, List.map (eI) aA)]) [0] (by decide) (by kernel_rfl)
    obtain rfl := oI h1
    obtain rfl : _ = rr0 := ho0
    replace h0 : some aA = some r := h0
    obtain rfl := oI h0
    exact aD (aV (aV (cH (tT (x := (.tup [])) (by kernel_rfl) (aL.refl _) ⟨rfl, hO.ext, hO.at 0 (by kernel_rfl), by first | rfl | (simp only [List.length_map]; exact hN.trans hN0)⟩))))
  refine bQ ?_
  obtain rfl := oI h0
  exact aD (tT (x := (.tup [])) (by kernel_rfl) (aL.refl _) ⟨rfl, hO.ext, hO.at 0 (by kernel_rfl), by first | rfl | (simp only [List.length_map]; exact hN.trans hN0)⟩)

theorem mP (lo0p : Nat) (aA : (List Int)) (a1 : Int) (b2 : Int) (lo3p : Nat) (pU : Int) (r : ((Int × Int) × Int)) (h0 : fK aA a1 b2 pU = some r) : vM Try.prog 109 [(.msl 1 lo0p 0 (List.length aA)), (eI a1), (eI b2), (.lp lo3p 0 0)] [(lo0p, 1, List.map (eI) aA), (lo3p, 1, [(eI pU)])] (fun x L => x = (.tup [(eI r.1.1), (eI r.1.2)]) ∧ L = [(lo0p, 1, List.map (eI) aA), (lo3p, 1, [(eI r.2)])]) := by
  intro F H0 hO
  obtain ⟨Fh, Fe, Fg⟩ := F
  refine dQ Try.func109 ?_
  unfold fK at h0
  refine aS aC 2 [] [] ?_
  refine aM ?_
  refine aM ?_
  refine gQ (gM [18]) aC 9 ?_
  obtain ⟨c1, h0⟩ := aY h0
  refine cJ 3 [0 ≤ b2 ∧ b2 < (lN aA)] ⟨c1, trivial⟩ ?_
  refine gO 0 lo0p 1 (0 + Int.toNat b2) (eI (gD aA b2)) (eI (gD aA b2)) (List.map (eI) aA) hO (bX c1) ?_
  obtain ⟨c2, h0⟩ := aY h0
  refine cJ 7 [0 ≤ a1 ∧ a1 < (lN aA)] ⟨c2, trivial⟩ ?_
  refine gO 0 lo0p 1 (0 + Int.toNat a1) (eI (gD aA a1)) (eI (gD aA a1)) (List.map (eI) aA) hO (bX c2) ?_
  obtain ⟨x3, hx4, h0⟩ := aT h0
  refine xT (fF (gD aA b2) (gD aA a1) _ hx4) hO ?_
  intro H hO
  refine mK (by kernel_rfl) ?_
  refine cC [] [(18, (aB x3))] ?_
  refine bP h0 (fun h0 => ?_) (fun h0 => ?_)
  · refine aM ?_
    refine aQ aC 6 ?_
    refine bO 2 ?_
    refine mW 1 lo3p 1 0 (eI pU) (eI pU) [(eI pU)] hO rfl ?_
    refine bO 5 ?_
    refine iY 1 lo3p 1 0 (eI pU) (eI (wR (pU + (1 : Int)))) [(eI pU)] [(lo0p, 1, List.map (eI) aA), (lo3p, 1, [(eI (wR (pU + (1 : Int))))])] hO rfl (by kernel_rfl) ?_
    intro H hO
    refine dY ?_
    refine cC [18] [] ?_
    refine aS aC 4 [1, 2] [(8, (eI b2)), (9, (eI a1))] ?_
    refine bL ?_
    obtain rfl := oI h0
    exact aD (aP (BQ hO ⟨rfl, rfl⟩))
  refine bQ ?_
  refine bE [(0, (.msl 1 lo0p 0 (List.length aA))), (1, (eI a1)), (2, (eI b2)), (3, (.lp lo3p 0 0))] ?_
  refine aS aC 4 [1, 2] [(8, (eI a1)), (9, (eI b2))] ?_
  refine bL ?_
  obtain rfl := oI h0
  exact aD (BQ hO ⟨rfl, rfl⟩)

theorem pY (lo0p : Nat) (aA : (List Int)) (a1 : Int) (b2 : Int) (c3 : Int) (lo4p : Nat) (AB : Int) (r : (Int × Int)) (h0 : iB aA a1 b2 c3 AB = some r) : vM Try.prog 104 [(.msl 1 lo0p 0 (List.length aA)), (eI a1), (eI b2), (eI c3), (.lp lo4p 0 0)] [(lo0p, 1, List.map (eI) aA), (lo4p, 1, [(eI AB)])] (fun x L => x = (eI r.1) ∧ L = [(lo0p, 1, List.map (eI) aA), (lo4p, 1, [(eI r.2)])]) := by
  intro F H0 hO
  obtain ⟨Fh, Fe, Fg⟩ := F
  refine dQ Try.func104 ?_
  unfold iB at h0
  refine aS aC 1 [] [] ?_
  refine aM ?_
  refine aQ aC 10 ?_
  refine bO 4 ?_
  obtain ⟨x1, hx2, h0⟩ := aT h0
  refine xR [] [0, 1] (mP lo0p aA a1 b2 lo4p AB _ hx2) hO ?_
  intro r3 L4 H hP5 hO
  obtain ⟨rfl, rfl⟩ := hP5
  replace hO : aJ ⟨Fh, Fe, Fg⟩ H [(lo0p, 1, List.map (eI) aA), (lo4p, 1, [(eI x1.2)])] := hO
  refine bC ?_
  refine cC [1, 2] [(1, (eI x1.1.1)), (2, (eI x1.1.2))] ?_
  refine aM ?_
  refine aQ aC 10 ?_
  refine bO 4 ?_
  obtain ⟨x6, hx7, h0⟩ := aT h0
  refine xR [] [0, 1] (mP lo0p aA x1.1.2 c3 lo4p x1.2 _ hx7) hO ?_
  intro r8 L9 H hP10 hO
  obtain ⟨rfl, rfl⟩ := hP10
  replace hO : aJ ⟨Fh, Fe, Fg⟩ H [(lo0p, 1, List.map (eI) aA), (lo4p, 1, [(eI x6.2)])] := hO
  refine bC ?_
  refine cC [2, 3] [(2, (eI x6.1.1))] ?_
  refine aM ?_
  refine aQ aC 10 ?_
  refine bO 4 ?_
  obtain ⟨x11, hx12, h0⟩ := aT h0
  refine xR [] [0, 1] (mP lo0p aA x1.1.1 x6.1.1 lo4p x6.2 _ hx12) hO ?_
  intro r13 L14 H hP15 hO
  obtain ⟨rfl, rfl⟩ := hP15
  replace hO : aJ ⟨Fh, Fe, Fg⟩ H [(lo0p, 1, List.map (eI) aA), (lo4p, 1, [(eI x11.2)])] := hO
  refine bC ?_
  refine cC [1, 2] [(2, (eI x11.1.2))] ?_
  refine cO aC 2 [(0, (.msl 1 lo0p 0 (List.length aA))), (4, (.lp lo4p 0 0)), (10, (eI x11.1.2))] ?_
  refine bL ?_
  obtain rfl := oI h0
  exact aD (BQ hO ⟨rfl, rfl⟩)

theorem kM (lo0p : Nat) (aA : (List Int)) (a1 : Int) (lo2p : Nat) (AX : Int) (r : (Int × Int)) (h0 : dP aA a1 AX = some r) : vM Try.prog 103 [(.msl 1 lo0p 0 (List.length aA)), (eI a1), (.lp lo2p 0 0)] [(lo0p, 1, List.map (eI) aA), (lo2p, 1, [(eI AX)])] (fun x L => x = (eI r.1) ∧ L = [(lo0p, 1, List.map (eI) aA), (lo2p, 1, [(eI r.2)])]) := by
  intro F H0 hO
  obtain ⟨Fh, Fe, Fg⟩ := F
  refine dQ Try.func103 ?_
  unfold dP at h0
  refine aS aC 1 [] [] ?_
  refine aM ?_
  refine aQ aC 9 ?_
  refine bO 7 ?_
  obtain ⟨x1, hx2, h0⟩ := aT h0
  refine xR [] [0, 1] (pY lo0p aA (wR (a1 - (1 : Int))) a1 (wR (a1 + (1 : Int))) lo2p AX _ hx2) hO ?_
  intro r3 L4 H hP5 hO
  obtain ⟨rfl, rfl⟩ := hP5
  replace hO : aJ ⟨Fh, Fe, Fg⟩ H [(lo0p, 1, List.map (eI) aA), (lo2p, 1, [(eI x1.2)])] := hO
  refine bC ?_
  refine cC [1] [(6, (eI x1.1))] ?_
  refine bL ?_
  obtain rfl := oI h0
  exact aD (BQ hO ⟨rfl, rfl⟩)

theorem tK (lo0p : Nat) (aA : (List Int)) (a1 : Int) (b2 : Int) (r : (Int × Int)) (h0 : gW aA a1 b2 = some r) : vM Try.prog 81 [(.msl 1 lo0p 0 (List.length aA)), (eI a1), (eI b2)] [(lo0p, 1, List.map (eI) aA)] (fun x L => x = (.tup [(eI r.1), (eI r.2)]) ∧ L = [(lo0p, 1, List.map (eI) aA)]) := by
  intro F H0 hO
  obtain ⟨Fh, Fe, Fg⟩ := F
  refine dQ Try.func81 ?_
  unfold gW at h0
  refine aS aC 2 [] [] ?_
  refine aS aC 4 [2] [(8, (eI (wR (b2 - a1))))] ?_
  refine aM ?_
  refine aQ aC 1 ?_
  refine kN 1 (eI 0) (by kernel_rfl) (by kernel_rfl) hO ?_
  intro lo1 H hO
  refine dY ?_
  refine cC [] [(9, (.lp lo1 0 0))] ?_
  refine aM ?_
  refine aQ aC 6 ?_
  obtain ⟨c2, h0⟩ := aY h0
  refine rL [(4 : Int) ≠ 0] ⟨c2, trivial⟩ ?_
  refine cC [] [(10, (eI (wR (a1 + (wR ((wR (Int.tdiv (wR (b2 - a1)) (4 : Int))) * (1 : Int)))))))] ?_
  refine aM ?_
  refine aQ aC 6 ?_
  obtain ⟨c3, h0⟩ := aY h0
  refine rL [(4 : Int) ≠ 0] ⟨c3, trivial⟩ ?_
  refine bE [(0, (.msl 1 lo0p 0 (List.length aA))), (1, (eI a1)), (8, (eI (wR (b2 - a1)))), (9, (.lp lo1 0 0)), (10, (eI (wR (a1 + (wR ((wR (Int.tdiv (wR (b2 - a1)) (4 : Int))) * (1 : Int))))))), (11, (eI (wR (a1 + (wR ((wR (Int.tdiv (wR (b2 - a1)) (4 : Int))) * (2 : Int)))))))] ?_
  refine aM ?_
  refine aQ aC 6 ?_
  obtain ⟨c4, h0⟩ := aY h0
  refine rL [(4 : Int) ≠ 0] ⟨c4, trivial⟩ ?_
  refine cC [1] [(12, (eI (wR (a1 + (wR ((wR (Int.tdiv (wR (b2 - a1)) (4 : Int))) * (3 : Int)))))))] ?_
  refine iR (fun T H => ∃ lJ : Int, ∃ j11 : Int, Has T [(0, (.msl 1 lo0p 0 (List.length aA))), (9, (.lp lo1 0 0)), (11, (eI j11))] ∧ aJ ⟨Fh, Fe, Fg⟩ H [(lo0p, 1, List.map (eI) aA), (lo1, 1, [(eI lJ)])] ∧ eY aA lJ j11 = some r) ?_ ?_
  · clear hO h0
    rintro T H ⟨lJ, j11, hT, hO, h0⟩
    refine bM hT ?_
    clear hT
    unfold eY at h0
    refine aM ?_
    refine aQ aC 1 ?_
    refine mW 1 lo1 1 0 (eI lJ) (eI lJ) [(eI lJ)] hO rfl ?_
    refine dY ?_
    replace hO := hO.pick (L' := [(lo0p, 1, List.map (eI) aA)]) [0] (by decide) (by kernel_rfl)
    refine cC [9] [(49, (eI lJ))] ?_
    refine cI 0 ?_
    refine aS aC 2 [] [(51, (aB (decide (lJ = (0 : Int)))))] ?_
    refine bP h0 (fun h0 => ?_) (fun h0 => ?_)
    · refine aS aC 3 [11, 49, 51] [(6, (eI j11)), (7, (eI (1 : Int)))] ?_
      refine bL ?_
      obtain rfl := oI h0
      exact aD (bG (BQ hO ⟨rfl, rfl⟩))
    refine aS aC 2 [49, 51] [(54, (aB (decide (lJ = (12 : Int)))))] ?_
    refine bP h0 (fun h0 => ?_) (fun h0 => ?_)
    · refine aS aC 3 [11, 54] [(6, (eI j11)), (7, (eI (2 : Int)))] ?_
      refine bL ?_
      obtain rfl := oI h0
      exact aD (bG (BQ hO ⟨rfl, rfl⟩))
    refine aS aC 3 [11, 54] [(6, (eI j11)), (7, (eI (0 : Int)))] ?_
    refine bL ?_
    obtain rfl := oI h0
    exact aD (bG (BQ hO ⟨rfl, rfl⟩))
  refine aS aC 2 [] [(32, (aB (decide ((8 : Int) ≤ (wR (b2 - a1))))))] ?_
  refine bP h0 (fun h0 => ?_) (fun h0 => ?_)
  · refine iR (fun T H => ∃ lJ : Int, ∃ i10 : Int, ∃ j11 : Int, ∃ k12 : Int, Has T [(0, (.msl 1 lo0p 0 (List.length aA))), (9, (.lp lo1 0 0)), (10, (eI i10)), (11, (eI j11)), (12, (eI k12))] ∧ aJ ⟨Fh, Fe, Fg⟩ H [(lo0p, 1, List.map (eI) aA), (lo1, 1, [(eI lJ)])] ∧ eX aA lJ i10 j11 k12 = some r) ?_ ?_
    · clear hO h0
      rintro T H ⟨lJ, i10, j11, k12, hT, hO, h0⟩
      refine bM hT ?_
      clear hT
      unfold eX at h0
      refine aQ aC 6 ?_
      refine bO 4 ?_
      obtain ⟨x8, hx9, h0⟩ := aT h0
      refine xR [] [0, 1] (pY lo0p aA i10 j11 k12 lo1 lJ _ hx9) hO ?_
      intro r10 L11 H hP12 hO
      obtain ⟨rfl, rfl⟩ := hP12
      replace hO : aJ ⟨Fh, Fe, Fg⟩ H [(lo0p, 1, List.map (eI) aA), (lo1, 1, [(eI x8.2)])] := hO
      refine bC ?_
      exact aD (aF (⟨rfl, _, _, .eq (by kernel_rfl), hO, h0⟩))
    refine aS aC 2 [8, 32] [(34, (aB (decide ((50 : Int) ≤ (wR (b2 - a1))))))] ?_
    refine bP h0 (fun h0 => ?_) (fun h0 => ?_)
    · refine aM ?_
      refine aQ aC 4 ?_
      refine bO 2 ?_
      obtain ⟨x14, hx15, h0⟩ := aT h0
      refine xR [] [0, 1] (kM lo0p aA (wR (a1 + (wR ((wR (Int.tdiv (wR (b2 - a1)) (4 : Int))) * (1 : Int))))) lo1 0 _ hx15) hO ?_
      intro r16 L17 H hP18 hO
      obtain ⟨rfl, rfl⟩ := hP18
      replace hO : aJ ⟨Fh, Fe, Fg⟩ H [(lo0p, 1, List.map (eI) aA), (lo1, 1, [(eI x14.2)])] := hO
      refine bC ?_
      refine cC [10, 34] [(10, (eI x14.1))] ?_
      refine aM ?_
      refine aQ aC 4 ?_
      refine bO 2 ?_
      obtain ⟨x19, hx20, h0⟩ := aT h0
      refine xR [] [0, 1] (kM lo0p aA (wR (a1 + (wR ((wR (Int.tdiv (wR (b2 - a1)) (4 : Int))) * (2 : Int))))) lo1 x14.2 _ hx20) hO ?_
      intro r21 L22 H hP23 hO
      obtain ⟨rfl, rfl⟩ := hP23
      replace hO : aJ ⟨Fh, Fe, Fg⟩ H [(lo0p, 1, List.map (eI) aA), (lo1, 1, [(eI x19.2)])] := hO
      refine bC ?_
      refine bE [(0, (.msl 1 lo0p 0 (List.length aA))), (9, (.lp lo1 0 0)), (10, (eI x14.1)), (11, (eI x19.1)), (12, (eI (wR (a1 + (wR ((wR (Int.tdiv (wR (b2 - a1)) (4 : Int))) * (3 : Int)))))))] ?_
      refine aQ aC 4 ?_
      refine bO 2 ?_
      obtain ⟨x24, hx25, h0⟩ := aT h0
      refine xR [] [0, 1] (kM lo0p aA (wR (a1 + (wR ((wR (Int.tdiv (wR (b2 - a1)) (4 : Int))) * (3 : Int))))) lo1 x19.2 _ hx25) hO ?_
      intro r26 L27 H hP28 hO
      obtain ⟨rfl, rfl⟩ := hP28
      replace hO : aJ ⟨Fh, Fe, Fg⟩ H [(lo0p, 1, List.map (eI) aA), (lo1, 1, [(eI x24.2)])] := hO
      refine bC ?_
      exact aD (aF (⟨rfl, _, _, _, _, .eq (by kernel_rfl), hO, h0⟩))
    refine bQ ?_
    exact aD (aF (⟨rfl, _, _, _, _, .eq (by kernel_rfl), hO, h0⟩))
  refine bQ ?_
  exact aD (aF (⟨rfl, _, _, .eq (by kernel_rfl), hO, h0⟩))

theorem tG (lo0p : Nat) (aA : (List Int)) (a1 : Int) (b2 : Int) (r : List Int) (h0 : gP aA a1 b2 = some r) : lZ Try.prog 82 lo0p 1 (List.map (eI) aA) (List.map (eI) r) [(.msl 1 lo0p 0 (List.length aA)), (eI a1), (eI b2)] (.tup []) := by
  intro H0 hl0
  refine dQ Try.func82 ?_
  have hO := aJ.rN hl0
  clear hl0
  obtain ⟨N0, hN0⟩ : ∃ n, n = List.length aA := ⟨_, rfl⟩
  have hN : List.length aA = N0 := hN0.symm
  unfold gP at h0
  refine aS aC 2 [1] [(6, (eI a1))] ?_
  refine aS aC 3 [2] [(7, (eI (wR (b2 - (1 : Int)))))] ?_
  refine cI 0 ?_
  refine iA [(0, (.msl 1 lo0p 0 (List.length aA))), (6, (eI a1)), (7, (eI (wR (b2 - (1 : Int)))))] ?_
  refine gY (fun T H => ∃ aA : List Int, ∃ i6 : Int, ∃ j7 : Int, Has T [(0, (.msl 1 lo0p 0 (List.length aA))), (6, (eI i6)), (7, (eI j7))] ∧ aJ ⟨H0, [lo0p], []⟩ H [(lo0p, 1, List.map (eI) aA)] ∧ List.length aA = N0 ∧ iZ aA i6 j7 = some r) ?_ ⟨aA, a1, wR (b2 - (1 : Int)), .eq (by kernel_rfl), hO, hN, h0⟩
  clear hO hN h0
  rintro T H ⟨aA, i6, j7, hT, hO, hN, h0⟩
  refine bM hT ?_
  clear hT
  unfold iZ at h0
  obtain ⟨rr0, hl0, h0⟩ := aT h0
  refine eE (by kernel_rfl) (fun (s : List Int × Int × Int) T H => Has T [(0, (.msl 1 lo0p 0 (List.length s.1))), (6, (eI s.2.1)), (7, (eI s.2.2))] ∧ aJ ⟨H0, [lo0p], []⟩ H [(lo0p, 1, List.map (eI) s.1)] ∧ List.length s.1 = N0) hl0 ⟨.eq (by kernel_rfl), hO, hN⟩ ?_
  clear hO hN
  rintro k0 s out1 T H ⟨hT, hO, hN⟩ h1 ho0
  obtain ⟨aA, i6, j7⟩ := s
  replace h1 : dD aA i6 j7 = some out1 := h1
  try dsimp only at hT
  refine bM hT ?_
  clear hT
  unfold dD at h1
  refine aM ?_
  refine aS aC 3 [] [(13, (aB (decide (i6 < j7))))] ?_
  refine bP h1 (fun h1 => ?_) (fun h1 => ?_)
  · refine bQ ?_
    refine bE [(0, (.msl 1 lo0p 0 (List.length aA))), (6, (eI i6)), (7, (eI j7))] ?_
    refine cI 1 ?_
    refine aM ?_
    refine gQ (gM []) aC 16 ?_
    obtain ⟨c2, h1⟩ := aY h1
    refine cJ 7 [0 ≤ j7 ∧ j7 < (lN aA)] ⟨c2, trivial⟩ ?_
    refine gO 0 lo0p 1 (0 + Int.toNat j7) (eI (gD aA j7)) (eI (gD aA j7)) (List.map (eI) aA) hO (bX c2) ?_
    obtain ⟨c3, h1⟩ := aY h1
    refine cJ 11 [0 ≤ i6 ∧ i6 < (lN aA)] ⟨c3, trivial⟩ ?_
    refine gO 0 lo0p 1 (0 + Int.toNat i6) (eI (gD aA i6)) (eI (gD aA i6)) (List.map (eI) aA) hO (bX c3) ?_
    obtain ⟨c4, h1⟩ := aY h1
    refine cJ 13 [0 ≤ i6 ∧ i6 < (lN aA)] ⟨c4, trivial⟩ ?_
    refine kH 0 lo0p 1 (0 + Int.toNat i6) (eI (gD aA i6)) (eI (gD aA j7)) (List.map (eI) aA) [(lo0p, 1, List.map (eI) (List.set aA (Int.toNat i6) (gD aA j7)))] hO (bX c4) (by simp only [List.set, gV]) ?_
    intro H hO
    replace hN : List.length (List.set aA (Int.toNat i6) (gD aA j7)) = N0 := by simpa using hN
    obtain ⟨c5, h1⟩ := aY h1
    refine cJ 15 [0 ≤ j7 ∧ j7 < (lN aA)] ⟨c5, trivial⟩ ?_
    refine kH 0 lo0p 1 (0 + Int.toNat j7) (eI (gD (List.set aA (Int.toNat i6) (gD aA j7)) j7)) (eI (gD aA i6)) (List.map (eI) (List.set aA (Int.toNat i6) (gD aA j7))) [(lo0p, 1, List.map (eI) (List.set (List.set aA (Int.toNat i6) (gD aA j7)) (Int.toNat j7) (gD aA i6)))] hO (lV c5 (by simp [])) (by simp only [List.set, gV]) ?_
    intro H hO
    replace hN : List.length (List.set (List.set aA (Int.toNat i6) (gD aA j7)) (Int.toNat j7) (gD aA i6)) = N0 := by simpa using hN
    refine mK (by kernel_rfl) ?_
    refine eF (l := [(0, (.msl 1 lo0p 0 (List.length (List.set (List.set aA (Int.toNat i6) (gD aA j7)) (Int.toNat j7) (gD aA i6))))), (6, (eI i6)), (7, (eI j7))]) ⟨[(0, (.msl 1 lo0p 0 (List.length aA))), (6, (eI i6)), (7, (eI j7))], by kernel_rfl, rfl, ⟨aL.eq (by simp []), aL.refl _, aL.refl _, trivial⟩⟩ ?_
    refine aD (aF (?_))
    refine aS aC 3 [6] [(6, (eI (wR (i6 + (1 : Int)))))] ?_
    refine aQ aC 3 ?_
    refine bC ?_
    exact aD (aU (aF (⟨rfl, _, (oI h1).symm, .eq (by kernel_rfl), hO, hN⟩)))
  refine jI 0 ?_
  obtain rfl := oI h1
  obtain rfl : _ = rr0 := ho0
  replace h0 : some aA = some r := h0
  obtain rfl := oI h0
  exact aD (aV (aV (cH (tT (x := (.tup [])) (by kernel_rfl) (aL.refl _) ⟨rfl, hO.ext, hO.at 0 (by kernel_rfl), by first | rfl | (simp only [List.length_map]; exact hN.trans hN0)⟩))))

end Go.Abs
