/- What the law EdgeSums stands on: the framework, the given functions as plain functions, their walks, and the plain laws; part 3. -/
import Derived.Test.YtbnnpfncgndidaaGreatEdgeSumsZ2
set_option linter.unusedSimpArgs false
set_option linter.unusedVariables false
namespace Go.Abs
open Go
noncomputable def fH (n1 : Int) : Option (List aC) :=
  cond (decide (n1 < (0 : Int)))
  (none)
  (cond (decide ((0 : Int) < (IntKind.i64.wrap (n1 - (IntKind.i64.wrap ((0 : Int) - ((0 : Nat) : Int)))))))
  (bC (0 ≤ (0 : Int) ∧ (0 : Int) ≤ ((0 : Nat) : Int)) <|
  bC (0 ≤ (IntKind.i64.wrap (n1 - (IntKind.i64.wrap ((0 : Int) - ((0 : Nat) : Int))))) ∧ Int.toNat (IntKind.i64.wrap (n1 - (IntKind.i64.wrap ((0 : Int) - ((0 : Nat) : Int))))) * 40 ≤ 140737488355328 ∧ (IntKind.i64.wrap (n1 - (IntKind.i64.wrap ((0 : Int) - ((0 : Nat) : Int))))) ≤ 9223372036854775807) <|
  bC (0 ≤ ((0 : Nat) : Int) ∧ ((0 : Nat) : Int) ≤ (((Int.toNat (IntKind.i64.wrap (n1 - (IntKind.i64.wrap ((0 : Int) - ((0 : Nat) : Int)))))) : Nat) : Int)) <|
  iL ([] : List aC))
  (iL ([] : List aC)))

noncomputable def eJ (cY : List aC) : Option (List aC) :=
  some cY

noncomputable def cI (t25 : (List (List aC))) (t26 : Int) (cY : List aC) (t27 : Int) : Option ((List aC × Int) ⊕ ((List aC))) :=
  cond (decide (t27 < t26))
  (bC (0 ≤ t27 ∧ t27 < ((List.length t25 : Nat) : Int)) <|
  bC ((List.length cY + List.length (List.getD t25 (Int.toNat t27) default)) * 40 ≤ 140737488355328 ∧ List.length cY + List.length (List.getD t25 (Int.toNat t27) default) ≤ 9223372036854775807) <|
  some (.inl (cY ++ (List.getD t25 (Int.toNat t27) default), IntKind.i64.wrap (t27 + (1 : Int)))))
  (some (.inr cY))

noncomputable def gK (cY : List aC) (t25 : (List (List aC))) (t26 : Int) (t27 : Int) : Option (List aC) :=
  (lp (fun s => cI t25 t26 s.1 s.2) (cY, t27)).bind (fun rr => eJ rr)

noncomputable def eM (dB : (List (List aC))) (mN : Int) : Option (List aC) :=
  (fH mN).bind fun x1 =>
  gK x1 dB ((List.length dB : Nat) : Int) (0 : Int)

noncomputable def cJ (dB : (List (List aC))) (t9 : (List (List aC))) (t10 : Int) (mN : Int) (t11 : Int) : Option ((Int × Int) ⊕ (Int)) :=
  cond (decide (t11 < t10))
  (bC (0 ≤ t11 ∧ t11 < ((List.length t9 : Nat) : Int)) <|
  cond (decide ((IntKind.i64.wrap (mN + ((List.length (List.getD t9 (Int.toNat t11) default) : Nat) : Int))) < (0 : Int)))
  (none)
  (some (.inl (IntKind.i64.wrap (mN + ((List.length (List.getD t9 (Int.toNat t11) default) : Nat) : Int)), IntKind.i64.wrap (t11 + (1 : Int))))))
  (some (.inr mN))

noncomputable def gM (dB : (List (List aC))) (mN : Int) (t9 : (List (List aC))) (t10 : Int) (t11 : Int) : Option (List aC) :=
  (lp (fun s => cJ dB t9 t10 s.1 s.2) (mN, t11)).bind (fun rr => eM dB rr)

noncomputable def eR (dB : (List (List aC))) : Option (List aC) :=
  gM dB (0 : Int) dB ((List.length dB : Nat) : Int) (0 : Int)

noncomputable def wS (a0 : (List aC)) (b1 : (List aC)) : Option ((List aC) × Int) :=
  (pK a0).bind fun x1 =>
  (cM (!(!x1)) (pK b1)).bind fun x4 =>
  cond ((!x1) || (!x4))
  (some ([], (2 : Int)))
  ((eR ([a0, b1])).bind fun x8 =>
  (uU x8).bind fun x11 =>
  some (x11.1, x11.2))

noncomputable def tQ (fI : Int) : Option Int :=
  some fI

noncomputable def nF (t24 : (List aA)) (t25 : Int) (v3 : Int) (fI : Int) (t26 : Int) : Option ((Int × Int × Int) ⊕ (Int)) :=
  cond (decide (t26 < t25))
  (bC (0 ≤ t26 ∧ t26 < ((List.length t24 : Nat) : Int)) <|
  some (.inl (IntKind.i64.wrap (v3 + ((List.getD t24 (Int.toNat t26) default).Net)), if (IntKind.i64.wrap (v3 + ((List.getD t24 (Int.toNat t26) default).Net))) < fI then (IntKind.i64.wrap (v3 + ((List.getD t24 (Int.toNat t26) default).Net))) else fI, IntKind.i64.wrap (t26 + (1 : Int)))))
  (some (.inr fI))

noncomputable def uE (v3 : Int) (fI : Int) (t24 : (List aA)) (t25 : Int) (t26 : Int) : Option Int :=
  (lp (fun s => nF t24 t25 s.1 s.2.1 s.2.2) (v3, fI, t26)).bind (fun rr => tQ rr)

noncomputable def qV (f0 : (List aA)) (v3 : Int) (fI : Int) : Option Int :=
  uE v3 fI f0 ((List.length f0 : Nat) : Int) (0 : Int)

noncomputable def vY (f0 : (List aA)) : Option Int :=
  (kO f0).bind fun x1 =>
  cond ((!x1) || (decide (((List.length f0 : Nat) : Int) = (0 : Int))))
  (some (0 : Int))
  (bC (0 ≤ (0 : Int) ∧ (0 : Int) < ((List.length f0 : Nat) : Int)) <|
  cond (decide (((List.getD f0 (Int.toNat (0 : Int)) default).At) = (-1 : Int)))
  (bC (0 ≤ (0 : Int) ∧ (0 : Int) < ((List.length f0 : Nat) : Int)) <|
  qV f0 (0 : Int) ((List.getD f0 (Int.toNat (0 : Int)) default).Net))
  (qV f0 (0 : Int) (0 : Int)))

noncomputable def sM (f0 : (List aA)) : Option Bool :=
  (kO f0).bind fun x1 =>
  (cM x1 (vY f0)).bind fun x4 =>
  some (x1 && (decide ((0 : Int) ≤ x4)))

noncomputable def wK (l0 : (List aC)) : Option Bool :=
  (uR l0 (fun y0 => sM y0)).bind fun x1 =>
  some x1

noncomputable def sE  : Option Bool :=
  (zC ([aH.mk (1 : Int) (1 : Int) ByteArray.empty]) (nA.mk (2 : Int) (5 : Int))).bind fun x1 =>
  (zC ([aH.mk (1 : Int) (1 : Int) ByteArray.empty]) (nA.mk (5 : Int) (9 : Int))).bind fun x4 =>
  (wS x1.1 x4.1).bind fun x7 =>
  bC ((((((((decide (x1.2 = (0 : Int))) && (decide (x4.2 = (0 : Int)))) && (decide (x7.2 = (0 : Int)))) && (decide (((List.length x1.1 : Nat) : Int) = (2 : Int)))) && (decide (((List.length x7.1 : Nat) : Int) = (2 : Int))))) = true → 0 ≤ (0 : Int) ∧ (0 : Int) < ((List.length x7.1 : Nat) : Int))) <|
  bC (((((((((decide (x1.2 = (0 : Int))) && (decide (x4.2 = (0 : Int)))) && (decide (x7.2 = (0 : Int)))) && (decide (((List.length x1.1 : Nat) : Int) = (2 : Int)))) && (decide (((List.length x7.1 : Nat) : Int) = (2 : Int)))) && (decide (((List.getD x7.1 (Int.toNat (0 : Int)) default).At) = (2 : Int))))) = true → 0 ≤ (0 : Int) ∧ (0 : Int) < ((List.length x7.1 : Nat) : Int))) <|
  bC ((((((((((decide (x1.2 = (0 : Int))) && (decide (x4.2 = (0 : Int)))) && (decide (x7.2 = (0 : Int)))) && (decide (((List.length x1.1 : Nat) : Int) = (2 : Int)))) && (decide (((List.length x7.1 : Nat) : Int) = (2 : Int)))) && (decide (((List.getD x7.1 (Int.toNat (0 : Int)) default).At) = (2 : Int)))) && (decide (((List.getD x7.1 (Int.toNat (0 : Int)) default).Net) = (1 : Int))))) = true → 0 ≤ (1 : Int) ∧ (1 : Int) < ((List.length x7.1 : Nat) : Int))) <|
  bC (((((((((((decide (x1.2 = (0 : Int))) && (decide (x4.2 = (0 : Int)))) && (decide (x7.2 = (0 : Int)))) && (decide (((List.length x1.1 : Nat) : Int) = (2 : Int)))) && (decide (((List.length x7.1 : Nat) : Int) = (2 : Int)))) && (decide (((List.getD x7.1 (Int.toNat (0 : Int)) default).At) = (2 : Int)))) && (decide (((List.getD x7.1 (Int.toNat (0 : Int)) default).Net) = (1 : Int)))) && (decide (((List.getD x7.1 (Int.toNat (1 : Int)) default).At) = (9 : Int))))) = true → 0 ≤ (1 : Int) ∧ (1 : Int) < ((List.length x7.1 : Nat) : Int))) <|
  (cM (((((((((decide (x1.2 = (0 : Int))) && (decide (x4.2 = (0 : Int)))) && (decide (x7.2 = (0 : Int)))) && (decide (((List.length x1.1 : Nat) : Int) = (2 : Int)))) && (decide (((List.length x7.1 : Nat) : Int) = (2 : Int)))) && (decide (((List.getD x7.1 (Int.toNat (0 : Int)) default).At) = (2 : Int)))) && (decide (((List.getD x7.1 (Int.toNat (0 : Int)) default).Net) = (1 : Int)))) && (decide (((List.getD x7.1 (Int.toNat (1 : Int)) default).At) = (9 : Int)))) && (decide (((List.getD x7.1 (Int.toNat (1 : Int)) default).Net) = (-1 : Int)))) (wK x7.1)).bind fun x14 =>
  (cM ((((((((((decide (x1.2 = (0 : Int))) && (decide (x4.2 = (0 : Int)))) && (decide (x7.2 = (0 : Int)))) && (decide (((List.length x1.1 : Nat) : Int) = (2 : Int)))) && (decide (((List.length x7.1 : Nat) : Int) = (2 : Int)))) && (decide (((List.getD x7.1 (Int.toNat (0 : Int)) default).At) = (2 : Int)))) && (decide (((List.getD x7.1 (Int.toNat (0 : Int)) default).Net) = (1 : Int)))) && (decide (((List.getD x7.1 (Int.toNat (1 : Int)) default).At) = (9 : Int)))) && (decide (((List.getD x7.1 (Int.toNat (1 : Int)) default).Net) = (-1 : Int)))) && x14) (pK ([]))).bind fun x17 =>
  some (((((((((((decide (x1.2 = (0 : Int))) && (decide (x4.2 = (0 : Int)))) && (decide (x7.2 = (0 : Int)))) && (decide (((List.length x1.1 : Nat) : Int) = (2 : Int)))) && (decide (((List.length x7.1 : Nat) : Int) = (2 : Int)))) && (decide (((List.getD x7.1 (Int.toNat (0 : Int)) default).At) = (2 : Int)))) && (decide (((List.getD x7.1 (Int.toNat (0 : Int)) default).Net) = (1 : Int)))) && (decide (((List.getD x7.1 (Int.toNat (1 : Int)) default).At) = (9 : Int)))) && (decide (((List.getD x7.1 (Int.toNat (1 : Int)) default).Net) = (-1 : Int)))) && x14) && x17)

noncomputable def rY (v0 : aH) : Option Bool :=
  cond (decide (v0.Kind = (1 : Int)))
  (some (oJ v0.Text (⟨#[]⟩ : ByteArray)))
  (some (((decide (v0.Kind = (2 : Int))) && (decide (v0.Num = (0 : Int)))) && (decide (((ByteArray.size v0.Text : Nat) : Int) ≤ (64 : Int)))))

noncomputable def sN (r0 : (List aH)) : Option Bool :=
  some (decide (((List.length r0 : Nat) : Int) ≤ (8 : Int)))

noncomputable def qK (r0 : (List aH)) (i3 : Int) : Option ((Int) ⊕ (Unit ⊕ Bool)) :=
  cond ((decide (i3 < ((List.length r0 : Nat) : Int))) && (decide (i3 < (9 : Int))))
  (bC (0 ≤ i3 ∧ i3 < ((List.length r0 : Nat) : Int)) <|
  (rY (List.getD r0 (Int.toNat i3) default)).bind fun x3 =>
  cond (!x3)
  (some (.inr (.inr false)))
  (some (.inl (IntKind.i64.wrap (i3 + (1 : Int))))))
  (some (.inr (.inl ())))

noncomputable def zV (r0 : (List aH)) (i3 : Int) : Option Bool :=
  (lp (fun s => qK r0 s) i3).bind (Sum.elim (fun rr => sN r0) (fun rr => some rr))

noncomputable def pO (r0 : (List aH)) : Option Bool :=
  zV r0 (0 : Int)

noncomputable def wD  : Option Bool :=
  some true

noncomputable def lW (f0 : (List aA)) (i3 : Int) : Option ((Int) ⊕ (Unit ⊕ Bool)) :=
  cond (decide (i3 < ((List.length f0 : Nat) : Int)))
  (bC (0 ≤ i3 ∧ i3 < ((List.length f0 : Nat) : Int)) <|
  bC ((((!(decide (((List.getD f0 (Int.toNat i3) default).At) < (-1 : Int))))) = true → 0 ≤ i3 ∧ i3 < ((List.length f0 : Nat) : Int))) <|
  bC ((((!((decide (((List.getD f0 (Int.toNat i3) default).At) < (-1 : Int))) || (decide ((1125899906842624 : Int) ≤ ((List.getD f0 (Int.toNat i3) default).At)))))) = true → 0 ≤ i3 ∧ i3 < ((List.length f0 : Nat) : Int))) <|
  bC ((((!(((decide (((List.getD f0 (Int.toNat i3) default).At) < (-1 : Int))) || (decide ((1125899906842624 : Int) ≤ ((List.getD f0 (Int.toNat i3) default).At)))) || (decide (((List.getD f0 (Int.toNat i3) default).Net) = (0 : Int)))))) = true → 0 ≤ i3 ∧ i3 < ((List.length f0 : Nat) : Int))) <|
  bC ((((!((((decide (((List.getD f0 (Int.toNat i3) default).At) < (-1 : Int))) || (decide ((1125899906842624 : Int) ≤ ((List.getD f0 (Int.toNat i3) default).At)))) || (decide (((List.getD f0 (Int.toNat i3) default).Net) = (0 : Int)))) || (decide ((1048576 : Int) < ((List.getD f0 (Int.toNat i3) default).Net)))))) = true → 0 ≤ i3 ∧ i3 < ((List.length f0 : Nat) : Int))) <|
  cond (((((decide (((List.getD f0 (Int.toNat i3) default).At) < (-1 : Int))) || (decide ((1125899906842624 : Int) ≤ ((List.getD f0 (Int.toNat i3) default).At)))) || (decide (((List.getD f0 (Int.toNat i3) default).Net) = (0 : Int)))) || (decide ((1048576 : Int) < ((List.getD f0 (Int.toNat i3) default).Net)))) || (decide (((List.getD f0 (Int.toNat i3) default).Net) < (-1048576 : Int))))
  (some (.inr (.inr false)))
  (bC ((((decide ((0 : Int) < i3))) = true → 0 ≤ i3 ∧ i3 < ((List.length f0 : Nat) : Int))) <|
  bC ((((decide ((0 : Int) < i3))) = true → 0 ≤ (IntKind.i64.wrap (i3 - (1 : Int))) ∧ (IntKind.i64.wrap (i3 - (1 : Int))) < ((List.length f0 : Nat) : Int))) <|
  cond ((decide ((0 : Int) < i3)) && (decide (((List.getD f0 (Int.toNat i3) default).At) ≤ ((List.getD f0 (Int.toNat (IntKind.i64.wrap (i3 - (1 : Int)))) default).At))))
  (some (.inr (.inr false)))
  (some (.inl (IntKind.i64.wrap (i3 + (1 : Int)))))))
  (some (.inr (.inl ())))

noncomputable def AO (f0 : (List aA)) (i3 : Int) : Option Bool :=
  (lp (fun s => lW f0 s) i3).bind (Sum.elim (fun rr => wD ) (fun rr => some rr))

noncomputable def mT (f0 : (List aA)) : Option Bool :=
  cond (decide ((1024 : Int) < ((List.length f0 : Nat) : Int)))
  (some false)
  (AO f0 (0 : Int))

noncomputable def qM (a2 : aH) (b3 : aH) : Option Int :=
  cond (!decide (((ByteArray.size a2.Text : Nat) : Int) = ((ByteArray.size b3.Text : Nat) : Int)))
  (cond (decide (((ByteArray.size a2.Text : Nat) : Int) < ((ByteArray.size b3.Text : Nat) : Int)))
  (some (-1 : Int))
  (some (1 : Int)))
  (some (0 : Int))

noncomputable def fZ (a2 : aH) (b3 : aH) (i5 : Int) : Option ((Int) ⊕ (Unit ⊕ Int)) :=
  cond ((decide (i5 < ((ByteArray.size a2.Text : Nat) : Int))) && (decide (i5 < ((ByteArray.size b3.Text : Nat) : Int))))
  (bC (0 ≤ i5 ∧ i5 < ((ByteArray.size a2.Text : Nat) : Int)) <|
  bC (0 ≤ i5 ∧ i5 < ((ByteArray.size b3.Text : Nat) : Int)) <|
  cond (!decide ((bt a2.Text i5) = (bt b3.Text i5)))
  (bC (0 ≤ i5 ∧ i5 < ((ByteArray.size a2.Text : Nat) : Int)) <|
  bC (0 ≤ i5 ∧ i5 < ((ByteArray.size b3.Text : Nat) : Int)) <|
  cond (decide ((bt a2.Text i5) < (bt b3.Text i5)))
  (some (.inr (.inr (-1 : Int))))
  (some (.inr (.inr (1 : Int)))))
  (some (.inl (IntKind.i64.wrap (i5 + (1 : Int))))))
  (some (.inr (.inl ())))

noncomputable def tF (a2 : aH) (b3 : aH) (i5 : Int) : Option Int :=
  (lp (fun s => fZ a2 b3 s) i5).bind (Sum.elim (fun rr => qM a2 b3) (fun rr => some rr))

noncomputable def rN (a0 : aH) (b1 : aH) : Option Int :=
  (rY a0).bind fun x1 =>
  (cM (!(!x1)) (rY b1)).bind fun x4 =>
  cond ((!x1) || (!x4))
  (some (0 : Int))
  (cond (!decide (a0.Kind = b1.Kind))
  (cond (decide (a0.Kind = (1 : Int)))
  (some (-1 : Int))
  (some (1 : Int)))
  (cond (!decide (a0.Num = b1.Num))
  (cond (decide (a0.Num < b1.Num))
  (some (-1 : Int))
  (some (1 : Int)))
  (tF a0 b1 (0 : Int))))

noncomputable def qE (a0 : (List aH)) (b1 : (List aH)) : Option Int :=
  cond (decide (((List.length a0 : Nat) : Int) < ((List.length b1 : Nat) : Int)))
  (some (-1 : Int))
  (cond (decide (((List.length b1 : Nat) : Int) < ((List.length a0 : Nat) : Int)))
  (some (1 : Int))
  (some (0 : Int)))

noncomputable def fY (a0 : (List aH)) (b1 : (List aH)) (i5 : Int) : Option ((Int) ⊕ (Unit ⊕ Int)) :=
  cond ((decide (i5 < ((List.length a0 : Nat) : Int))) && (decide (i5 < ((List.length b1 : Nat) : Int))))
  (bC (0 ≤ i5 ∧ i5 < ((List.length a0 : Nat) : Int)) <|
  bC (0 ≤ i5 ∧ i5 < ((List.length b1 : Nat) : Int)) <|
  (rN (List.getD a0 (Int.toNat i5) default) (List.getD b1 (Int.toNat i5) default)).bind fun x13 =>
  cond (!decide (x13 = (0 : Int)))
  (some (.inr (.inr x13)))
  (some (.inl (IntKind.i64.wrap (i5 + (1 : Int))))))
  (some (.inr (.inl ())))

noncomputable def tG (a0 : (List aH)) (b1 : (List aH)) (i5 : Int) : Option Int :=
  (lp (fun s => fY a0 b1 s) i5).bind (Sum.elim (fun rr => qE a0 b1) (fun rr => some rr))

noncomputable def oU (a0 : (List aH)) (b1 : (List aH)) : Option Int :=
  (pO a0).bind fun x1 =>
  (cM (!(!x1)) (pO b1)).bind fun x4 =>
  cond ((!x1) || (!x4))
  (some (0 : Int))
  (tG a0 b1 (0 : Int))

noncomputable def tO  : Option Bool :=
  some true

noncomputable def rD (a0 : (List aH)) (b1 : (List aH)) (i5 : Int) : Option ((Int) ⊕ (Unit ⊕ Bool)) :=
  cond (decide (i5 < ((List.length a0 : Nat) : Int)))
  (bC (0 ≤ i5 ∧ i5 < ((List.length a0 : Nat) : Int)) <|
  bC (0 ≤ i5 ∧ i5 < ((List.length b1 : Nat) : Int)) <|
  cond (!((decide (((List.getD a0 (Int.toNat i5) default).Kind) = ((List.getD b1 (Int.toNat i5) default).Kind))) && ((decide (((List.getD a0 (Int.toNat i5) default).Num) = ((List.getD b1 (Int.toNat i5) default).Num))) && ((oJ ((List.getD a0 (Int.toNat i5) default).Text) ((List.getD b1 (Int.toNat i5) default).Text)) && true))))
  (some (.inr (.inr false)))
  (some (.inl (IntKind.i64.wrap (i5 + (1 : Int))))))
  (some (.inr (.inl ())))

noncomputable def yG (a0 : (List aH)) (b1 : (List aH)) (i5 : Int) : Option Bool :=
  (lp (fun s => rD a0 b1 s) i5).bind (Sum.elim (fun rr => tO ) (fun rr => some rr))

noncomputable def qL (a0 : (List aH)) (b1 : (List aH)) : Option Bool :=
  cond (!decide (((List.length a0 : Nat) : Int) = ((List.length b1 : Nat) : Int)))
  (some false)
  (yG a0 b1 (0 : Int))

noncomputable def yT (bQ : List (List aH)) : Option (List (List aH)) :=
  some bQ

noncomputable def uC (l0 : (List aC)) (bQ : List (List aH)) (i4 : Int) : Option ((List (List aH) × Int) ⊕ ((List (List aH)))) :=
  some (.inl (bQ, IntKind.i64.wrap (i4 + (1 : Int))))

noncomputable def uN (l0 : (List aC)) (bQ : List (List aH)) (i4 : Int) (at5 : Int) : Option ((List (List aH) × Int) ⊕ ((List (List aH)))) :=
  bC ((((decide (at5 < ((List.length bQ : Nat) : Int)))) = true → 0 ≤ at5 ∧ at5 < ((List.length bQ : Nat) : Int))) <|
  bC ((((decide (at5 < ((List.length bQ : Nat) : Int)))) = true → 0 ≤ i4 ∧ i4 < ((List.length l0 : Nat) : Int))) <|
  (cM (decide (at5 < ((List.length bQ : Nat) : Int))) (qL (List.getD bQ (Int.toNat at5) default) ((List.getD l0 (Int.toNat i4) default).Row))).bind fun x10 =>
  cond ((decide (at5 < ((List.length bQ : Nat) : Int))) && x10)
  (uC l0 bQ i4)
  (bC (0 ≤ at5 ∧ at5 ≤ ((List.length bQ : Nat) : Int)) <|
  bC (List.length (List.take (Int.toNat at5) bQ) * 24 ≤ 140737488355328 ∧ List.length (List.take (Int.toNat at5) bQ) ≤ 9223372036854775807) <|
  bC (0 ≤ i4 ∧ i4 < ((List.length l0 : Nat) : Int)) <|
  bC ((List.length (List.take (Int.toNat at5) bQ) + List.length ([(List.getD l0 (Int.toNat i4) default).Row])) * 24 ≤ 140737488355328 ∧ List.length (List.take (Int.toNat at5) bQ) + List.length ([(List.getD l0 (Int.toNat i4) default).Row]) ≤ 9223372036854775807) <|
  bC (0 ≤ at5 ∧ at5 ≤ ((List.length bQ : Nat) : Int)) <|
  bC ((List.length ((List.take (Int.toNat at5) bQ) ++ ([(List.getD l0 (Int.toNat i4) default).Row])) + List.length (List.drop (Int.toNat at5) bQ)) * 24 ≤ 140737488355328 ∧ List.length ((List.take (Int.toNat at5) bQ) ++ ([(List.getD l0 (Int.toNat i4) default).Row])) + List.length (List.drop (Int.toNat at5) bQ) ≤ 9223372036854775807) <|
  uC l0 (((List.take (Int.toNat at5) bQ) ++ ([(List.getD l0 (Int.toNat i4) default).Row])) ++ (List.drop (Int.toNat at5) bQ)) i4)

noncomputable def lZ (l0 : (List aC)) (i4 : Int) (bQ : List (List aH)) (at5 : Int) : Option ((List (List aH) × Int) ⊕ ((List (List aH) × Int))) :=
  bC ((((decide (at5 < ((List.length bQ : Nat) : Int)))) = true → 0 ≤ at5 ∧ at5 < ((List.length bQ : Nat) : Int))) <|
  bC ((((decide (at5 < ((List.length bQ : Nat) : Int)))) = true → 0 ≤ i4 ∧ i4 < ((List.length l0 : Nat) : Int))) <|
  (cM (decide (at5 < ((List.length bQ : Nat) : Int))) (oU (List.getD bQ (Int.toNat at5) default) ((List.getD l0 (Int.toNat i4) default).Row))).bind fun x27 =>
  cond ((decide (at5 < ((List.length bQ : Nat) : Int))) && (decide (x27 < (0 : Int))))
  (some (.inl (bQ, IntKind.i64.wrap (at5 + (1 : Int)))))
  (some (.inr (bQ, at5)))

noncomputable def yD (l0 : (List aC)) (bQ : List (List aH)) (i4 : Int) (at5 : Int) : Option ((List (List aH) × Int) ⊕ ((List (List aH)))) :=
  (lp (fun s => lZ l0 i4 s.1 s.2) (bQ, at5)).bind (fun rr => uN l0 rr.1 i4 rr.2)

noncomputable def nK (l0 : (List aC)) (bQ : List (List aH)) (i4 : Int) : Option ((List (List aH) × Int) ⊕ ((List (List aH)))) :=
  cond (decide (i4 < ((List.length l0 : Nat) : Int)))
  (yD l0 bQ i4 (0 : Int))
  (some (.inr bQ))

noncomputable def yA (l0 : (List aC)) (bQ : List (List aH)) (i4 : Int) : Option (List (List aH)) :=
  (lp (fun s => nK l0 s.1 s.2) (bQ, i4)).bind (fun rr => yT rr)

noncomputable def qJ (l0 : (List aC)) : Option (List (List aH)) :=
  yA l0 ([] : List (List aH)) (0 : Int)

noncomputable def wV (f5 : List aA) : Option (List aA) :=
  some f5

noncomputable def sK (l0 : (List aC)) (r1 : (List aH)) (f5 : List aA) (i6 : Int) : Option ((List aA × Int) ⊕ ((List aA))) :=
  some (.inl (f5, IntKind.i64.wrap (i6 + (1 : Int))))

noncomputable def mM (l0 : (List aC)) (r1 : (List aH)) (f5 : List aA) (i6 : Int) : Option ((List aA × Int) ⊕ ((List aA))) :=
  cond (decide (i6 < ((List.length l0 : Nat) : Int)))
  (bC (0 ≤ i6 ∧ i6 < ((List.length l0 : Nat) : Int)) <|
  (qL ((List.getD l0 (Int.toNat i6) default).Row) r1).bind fun x8 =>
  cond x8
  (bC (0 ≤ i6 ∧ i6 < ((List.length l0 : Nat) : Int)) <|
  bC (0 ≤ i6 ∧ i6 < ((List.length l0 : Nat) : Int)) <|
  bC ((List.length f5 + List.length ([aA.mk ((List.getD l0 (Int.toNat i6) default).At) ((List.getD l0 (Int.toNat i6) default).Net)])) * 16 ≤ 140737488355328 ∧ List.length f5 + List.length ([aA.mk ((List.getD l0 (Int.toNat i6) default).At) ((List.getD l0 (Int.toNat i6) default).Net)]) ≤ 9223372036854775807) <|
  sK l0 r1 (f5 ++ ([aA.mk ((List.getD l0 (Int.toNat i6) default).At) ((List.getD l0 (Int.toNat i6) default).Net)])) i6)
  (sK l0 r1 f5 i6))
  (some (.inr f5))

noncomputable def wT (l0 : (List aC)) (r1 : (List aH)) (f5 : List aA) (i6 : Int) : Option (List aA) :=
  (lp (fun s => mM l0 r1 s.1 s.2) (f5, i6)).bind (fun rr => wV rr)

noncomputable def pE (l0 : (List aC)) (r1 : (List aH)) : Option (List aA) :=
  wT l0 r1 ([] : List aA) (0 : Int)

noncomputable def AR  : Option Bool :=
  some true

noncomputable def qD (l0 : (List aC)) (sC : (List (List aH))) (i6 : Int) : Option ((Int) ⊕ (Unit ⊕ Bool)) :=
  cond (decide (i6 < ((List.length sC : Nat) : Int)))
  (bC (0 ≤ i6 ∧ i6 < ((List.length sC : Nat) : Int)) <|
  (pE l0 (List.getD sC (Int.toNat i6) default)).bind fun x7 =>
  cond (decide ((1024 : Int) < ((List.length x7 : Nat) : Int)))
  (some (.inr (.inr false)))
  (some (.inl (IntKind.i64.wrap (i6 + (1 : Int))))))
  (some (.inr (.inl ())))

noncomputable def AP (l0 : (List aC)) (sC : (List (List aH))) (i6 : Int) : Option Bool :=
  (lp (fun s => qD l0 sC s) i6).bind (Sum.elim (fun rr => AR ) (fun rr => some rr))

noncomputable def vR (l0 : (List aC)) : Option Bool :=
  (qJ l0).bind fun x2 =>
  AP l0 x2 (0 : Int)

noncomputable def sR (l0 : (List aC)) (i3 : Int) : Option ((Int) ⊕ (Unit ⊕ Bool)) :=
  some (.inl (IntKind.i64.wrap (i3 + (1 : Int))))

noncomputable def oM (l0 : (List aC)) (i3 : Int) : Option ((Int) ⊕ (Unit ⊕ Bool)) :=
  cond (decide (i3 < ((List.length l0 : Nat) : Int)))
  (bC (0 ≤ i3 ∧ i3 < ((List.length l0 : Nat) : Int)) <|
  (pO ((List.getD l0 (Int.toNat i3) default).Row)).bind fun x13 =>
  bC ((((!(!x13))) = true → 0 ≤ i3 ∧ i3 < ((List.length l0 : Nat) : Int))) <|
  bC ((((!(!x13))) = true → 0 ≤ i3 ∧ i3 < ((List.length l0 : Nat) : Int))) <|
  (cM (!(!x13)) (mT ([aA.mk ((List.getD l0 (Int.toNat i3) default).At) ((List.getD l0 (Int.toNat i3) default).Net)]))).bind fun x17 =>
  cond ((!x13) || (!x17))
  (some (.inr (.inr false)))
  (cond (decide (i3 = (0 : Int)))
  (sR l0 i3)
  (bC (0 ≤ (IntKind.i64.wrap (i3 - (1 : Int))) ∧ (IntKind.i64.wrap (i3 - (1 : Int))) < ((List.length l0 : Nat) : Int)) <|
  bC (0 ≤ i3 ∧ i3 < ((List.length l0 : Nat) : Int)) <|
  (oU ((List.getD l0 (Int.toNat (IntKind.i64.wrap (i3 - (1 : Int)))) default).Row) ((List.getD l0 (Int.toNat i3) default).Row)).bind fun x24 =>
  bC ((((decide (x24 = (0 : Int))) && (!(decide ((0 : Int) < x24)))) = true → 0 ≤ (IntKind.i64.wrap (i3 - (1 : Int))) ∧ (IntKind.i64.wrap (i3 - (1 : Int))) < ((List.length l0 : Nat) : Int))) <|
  bC ((((decide (x24 = (0 : Int))) && (!(decide ((0 : Int) < x24)))) = true → 0 ≤ i3 ∧ i3 < ((List.length l0 : Nat) : Int))) <|
  cond ((decide ((0 : Int) < x24)) || ((decide (x24 = (0 : Int))) && (decide (((List.getD l0 (Int.toNat i3) default).At) ≤ ((List.getD l0 (Int.toNat (IntKind.i64.wrap (i3 - (1 : Int)))) default).At)))))
  (some (.inr (.inr false)))
  (sR l0 i3))))
  (some (.inr (.inl ())))

noncomputable def zX (l0 : (List aC)) (i3 : Int) : Option Bool :=
  (lp (fun s => oM l0 s) i3).bind (Sum.elim (fun rr => vR l0) (fun rr => some rr))

noncomputable def rX (l0 : (List aC)) : Option Bool :=
  cond (decide ((4096 : Int) < ((List.length l0 : Nat) : Int)))
  (some false)
  (zX l0 (0 : Int))

noncomputable def rE (out5 : List Int) : Option (List Int) :=
  some out5

noncomputable def rF (t1 : Int) (out5 : List Int) (put6 : Bool) : Option (List Int) :=
  cond (!put6)
  (bC ((List.length out5 + List.length ([t1])) * 8 ≤ 140737488355328 ∧ List.length out5 + List.length ([t1]) ≤ 9223372036854775807) <|
  rE (out5 ++ ([t1])))
  (rE out5)

noncomputable def uL (l0 : (List Int)) (t1 : Int) (out5 : List Int) (put6 : Bool) (i7 : Int) : Option ((List Int × Bool × Int) ⊕ ((List Int × Bool) ⊕ (List Int))) :=
  bC (0 ≤ i7 ∧ i7 < ((List.length l0 : Nat) : Int)) <|
  bC ((List.length out5 + List.length ([List.getD l0 (Int.toNat i7) default])) * 8 ≤ 140737488355328 ∧ List.length out5 + List.length ([List.getD l0 (Int.toNat i7) default]) ≤ 9223372036854775807) <|
  some (.inl (out5 ++ ([List.getD l0 (Int.toNat i7) default]), put6, IntKind.i64.wrap (i7 + (1 : Int))))

noncomputable def gZ (l0 : (List Int)) (t1 : Int) (out5 : List Int) (put6 : Bool) (i7 : Int) : Option ((List Int × Bool × Int) ⊕ ((List Int × Bool) ⊕ (List Int))) :=
  cond (decide (i7 < ((List.length l0 : Nat) : Int)))
  (bC (0 ≤ i7 ∧ i7 < ((List.length l0 : Nat) : Int)) <|
  cond (decide ((List.getD l0 (Int.toNat i7) default) = t1))
  (some (.inr (.inr l0)))
  (bC (0 ≤ i7 ∧ i7 < ((List.length l0 : Nat) : Int)) <|
  cond ((decide (t1 < (List.getD l0 (Int.toNat i7) default))) && (!put6))
  (bC ((List.length out5 + List.length ([t1])) * 8 ≤ 140737488355328 ∧ List.length out5 + List.length ([t1]) ≤ 9223372036854775807) <|
  uL l0 t1 (out5 ++ ([t1])) true i7)
  (uL l0 t1 out5 put6 i7)))
  (some (.inr (.inl (out5, put6))))

noncomputable def yN (l0 : (List Int)) (t1 : Int) (out5 : List Int) (put6 : Bool) (i7 : Int) : Option (List Int) :=
  (lp (fun s => gZ l0 t1 s.1 s.2.1 s.2.2) (out5, put6, i7)).bind (Sum.elim (fun rr => rF t1 rr.1 rr.2) (fun rr => some rr))

noncomputable def hU (l0 : (List Int)) (t1 : Int) : Option (List Int) :=
  yN l0 t1 ([] : List Int) false (0 : Int)

noncomputable def sI (v5 : Int) : Option Int :=
  some v5

noncomputable def qB (f0 : (List aA)) (t1 : Int) (v5 : Int) (i6 : Int) : Option ((Int × Int) ⊕ (Int)) :=
  some (.inl (v5, IntKind.i64.wrap (i6 + (1 : Int))))

noncomputable def jO (f0 : (List aA)) (t1 : Int) (v5 : Int) (i6 : Int) : Option ((Int × Int) ⊕ (Int)) :=
  cond (decide (i6 < ((List.length f0 : Nat) : Int)))
  (bC (0 ≤ i6 ∧ i6 < ((List.length f0 : Nat) : Int)) <|
  cond (decide (((List.getD f0 (Int.toNat i6) default).At) ≤ t1))
  (bC (0 ≤ i6 ∧ i6 < ((List.length f0 : Nat) : Int)) <|
  qB f0 t1 (IntKind.i64.wrap (v5 + ((List.getD f0 (Int.toNat i6) default).Net))) i6)
  (qB f0 t1 v5 i6))
  (some (.inr v5))

noncomputable def wY (f0 : (List aA)) (t1 : Int) (v5 : Int) (i6 : Int) : Option Int :=
  (lp (fun s => jO f0 t1 s.1 s.2) (v5, i6)).bind (fun rr => sI rr)

noncomputable def nQ (f0 : (List aA)) (t1 : Int) : Option Int :=
  wY f0 t1 (0 : Int) (0 : Int)

noncomputable def tP (f6 : List aA) : Option ((List aA) × Int) :=
  (mT f6).bind fun x2 =>
  cond (!x2)
  (some ([], (7 : Int)))
  (some (f6, (0 : Int)))

noncomputable def uD (dX : (List Int)) (cZ : (List Int)) (f6 : List aA) (i8 : Int) : Option ((List aA × Int × Int) ⊕ ((List aA))) :=
  bC (0 ≤ i8 ∧ i8 < ((List.length cZ : Nat) : Int)) <|
  some (.inl (f6, List.getD cZ (Int.toNat i8) default, IntKind.i64.wrap (i8 + (1 : Int))))

noncomputable def nL (dX : (List Int)) (cZ : (List Int)) (f6 : List aA) (was7 : Int) (i8 : Int) : Option ((List aA × Int × Int) ⊕ ((List aA))) :=
  cond (decide (i8 < ((List.length dX : Nat) : Int)))
  (bC (0 ≤ i8 ∧ i8 < ((List.length cZ : Nat) : Int)) <|
  cond (!decide ((List.getD cZ (Int.toNat i8) default) = was7))
  (bC (0 ≤ i8 ∧ i8 < ((List.length dX : Nat) : Int)) <|
  bC (0 ≤ i8 ∧ i8 < ((List.length cZ : Nat) : Int)) <|
  bC ((List.length f6 + List.length ([aA.mk (List.getD dX (Int.toNat i8) default) (IntKind.i64.wrap ((List.getD cZ (Int.toNat i8) default) - was7))])) * 16 ≤ 140737488355328 ∧ List.length f6 + List.length ([aA.mk (List.getD dX (Int.toNat i8) default) (IntKind.i64.wrap ((List.getD cZ (Int.toNat i8) default) - was7))]) ≤ 9223372036854775807) <|
  uD dX cZ (f6 ++ ([aA.mk (List.getD dX (Int.toNat i8) default) (IntKind.i64.wrap ((List.getD cZ (Int.toNat i8) default) - was7))])) i8)
  (uD dX cZ f6 i8))
  (some (.inr f6))

noncomputable def yV (dX : (List Int)) (cZ : (List Int)) (f6 : List aA) (was7 : Int) (i8 : Int) : Option ((List aA) × Int) :=
  (lp (fun s => nL dX cZ s.1 s.2.1 s.2.2) (f6, was7, i8)).bind (fun rr => tP rr)

noncomputable def qI (dX : (List Int)) (cZ : (List Int)) : Option ((List aA) × Int) :=
  yV dX cZ ([] : List aA) (0 : Int) (0 : Int)

noncomputable def uI (cF : (List Int)) (bI : List Int) : Option ((List aA) × Int) :=
  (qI cF bI).bind fun x2 =>
  some (x2.1, x2.2)

noncomputable def nG (l0 : (List aA)) (cF : (List Int)) (bI : List Int) (i8 : Int) : Option ((List Int × Int) ⊕ ((List Int))) :=
  cond (decide (i8 < ((List.length cF : Nat) : Int)))
  (bC (0 ≤ i8 ∧ i8 < ((List.length cF : Nat) : Int)) <|
  (nQ l0 (List.getD cF (Int.toNat i8) default)).bind fun x9 =>
  bC ((List.length bI + List.length ([x9])) * 8 ≤ 140737488355328 ∧ List.length bI + List.length ([x9]) ≤ 9223372036854775807) <|
  some (.inl (bI ++ ([x9]), IntKind.i64.wrap (i8 + (1 : Int)))))
  (some (.inr bI))

noncomputable def yM (l0 : (List aA)) (cF : (List Int)) (bI : List Int) (i8 : Int) : Option ((List aA) × Int) :=
  (lp (fun s => nG l0 cF s.1 s.2) (bI, i8)).bind (fun rr => uI cF rr)

noncomputable def uH (l0 : (List aA)) (cF : (List Int)) : Option ((List aA) × Int) :=
  yM l0 cF ([] : List Int) (0 : Int)

noncomputable def tX (l0 : (List aA)) (cF : (List Int)) (i6 : Int) : Option (((List Int) × Int) ⊕ ((List Int) ⊕ ((List aA) × Int))) :=
  some (.inl (cF, IntKind.i64.wrap (i6 + (1 : Int))))

noncomputable def jG (l0 : (List aA)) (cF : (List Int)) (i6 : Int) : Option (((List Int) × Int) ⊕ ((List Int) ⊕ ((List aA) × Int))) :=
  cond (decide (i6 < ((List.length l0 : Nat) : Int)))
  (bC (0 ≤ i6 ∧ i6 < ((List.length l0 : Nat) : Int)) <|
  bC ((((!(decide (((List.getD l0 (Int.toNat i6) default).At) < (-1 : Int))))) = true → 0 ≤ i6 ∧ i6 < ((List.length l0 : Nat) : Int))) <|
  cond ((decide (((List.getD l0 (Int.toNat i6) default).At) < (-1 : Int))) || (decide ((1125899906842624 : Int) < ((List.getD l0 (Int.toNat i6) default).At))))
  (some (.inr (.inr ([], (13 : Int)))))
  (bC (0 ≤ i6 ∧ i6 < ((List.length l0 : Nat) : Int)) <|
  cond (decide (((List.getD l0 (Int.toNat i6) default).At) < (1125899906842624 : Int)))
  (bC (0 ≤ i6 ∧ i6 < ((List.length l0 : Nat) : Int)) <|
  (hU cF ((List.getD l0 (Int.toNat i6) default).At)).bind fun x24 =>
  tX l0 x24 i6)
  (tX l0 cF i6)))
  (some (.inr (.inl cF)))

noncomputable def yI (l0 : (List aA)) (cF : (List Int)) (i6 : Int) : Option ((List aA) × Int) :=
  (lp (fun s => jG l0 s.1 s.2) (cF, i6)).bind (Sum.elim (fun rr => uH l0 rr) (fun rr => some (rr.1, rr.2)))

noncomputable def uB (l0 : (List aA)) : Option ((List aA) × Int) :=
  yI l0 ([]) (0 : Int)

noncomputable def pH (l0 : (List aA)) (i4 : Int) : Option ((Int) ⊕ (Unit ⊕ ((List aA) × Int))) :=
  cond (decide (i4 < ((List.length l0 : Nat) : Int)))
  (bC (0 ≤ i4 ∧ i4 < ((List.length l0 : Nat) : Int)) <|
  bC ((((!(decide ((1048576 : Int) < ((List.getD l0 (Int.toNat i4) default).Net))))) = true → 0 ≤ i4 ∧ i4 < ((List.length l0 : Nat) : Int))) <|
  cond ((decide ((1048576 : Int) < ((List.getD l0 (Int.toNat i4) default).Net))) || (decide (((List.getD l0 (Int.toNat i4) default).Net) < (-1048576 : Int))))
  (some (.inr (.inr ([], (2 : Int)))))
  (some (.inl (IntKind.i64.wrap (i4 + (1 : Int))))))
  (some (.inr (.inl ())))

noncomputable def yR (l0 : (List aA)) (i4 : Int) : Option ((List aA) × Int) :=
  (lp (fun s => pH l0 s) i4).bind (Sum.elim (fun rr => uB l0) (fun rr => some (rr.1, rr.2)))

noncomputable def vP (l0 : (List aA)) : Option ((List aA) × Int) :=
  yR l0 (0 : Int)

noncomputable def AJ (l0 : List aC) : Option (List aC) :=
  some l0

noncomputable def oP (r1 : (List aH)) (f2 : (List aA)) (l0 : List aC) (i7 : Int) : Option ((List aC × Int) ⊕ ((List aC))) :=
  cond (decide (i7 < ((List.length f2 : Nat) : Int)))
  (bC (List.length r1 * 32 ≤ 140737488355328 ∧ List.length r1 ≤ 9223372036854775807) <|
  bC (0 ≤ i7 ∧ i7 < ((List.length f2 : Nat) : Int)) <|
  bC (0 ≤ i7 ∧ i7 < ((List.length f2 : Nat) : Int)) <|
  bC ((List.length l0 + List.length ([aC.mk r1 ((List.getD f2 (Int.toNat i7) default).At) ((List.getD f2 (Int.toNat i7) default).Net)])) * 40 ≤ 140737488355328 ∧ List.length l0 + List.length ([aC.mk r1 ((List.getD f2 (Int.toNat i7) default).At) ((List.getD f2 (Int.toNat i7) default).Net)]) ≤ 9223372036854775807) <|
  some (.inl (l0 ++ ([aC.mk r1 ((List.getD f2 (Int.toNat i7) default).At) ((List.getD f2 (Int.toNat i7) default).Net)]), IntKind.i64.wrap (i7 + (1 : Int)))))
  (some (.inr l0))

noncomputable def AV (l0 : List aC) (r1 : (List aH)) (f2 : (List aA)) (i7 : Int) : Option (List aC) :=
  (lp (fun s => oP r1 f2 s.1 s.2) (l0, i7)).bind (fun rr => AJ rr)

noncomputable def uO (l0 : (List aC)) (r1 : (List aH)) (f2 : (List aA)) : Option (List aC) :=
  AV l0 r1 f2 (0 : Int)

noncomputable def rC (out6 : List aC) : Option ((List aC) × Int) :=
  cond (decide ((4096 : Int) < ((List.length out6 : Nat) : Int)))
  (some ([], (7 : Int)))
  (some (out6, (0 : Int)))

noncomputable def nH (l0 : (List aC)) (nV : (List (List aH))) (out6 : List aC) (i8 : Int) : Option ((List aC × Int) ⊕ ((List aC) ⊕ ((List aC) × Int))) :=
  cond (decide (i8 < ((List.length nV : Nat) : Int)))
  (bC (0 ≤ i8 ∧ i8 < ((List.length nV : Nat) : Int)) <|
  (pE l0 (List.getD nV (Int.toNat i8) default)).bind fun x11 =>
  (vP x11).bind fun x14 =>
  cond (!decide (x14.2 = (0 : Int)))
  (some (.inr (.inr ([], x14.2))))
  (bC (0 ≤ i8 ∧ i8 < ((List.length nV : Nat) : Int)) <|
  (uO out6 (List.getD nV (Int.toNat i8) default) x14.1).bind fun x19 =>
  some (.inl (x19, IntKind.i64.wrap (i8 + (1 : Int))))))
  (some (.inr (.inl out6)))

noncomputable def yS (l0 : (List aC)) (out6 : List aC) (nV : (List (List aH))) (i8 : Int) : Option ((List aC) × Int) :=
  (lp (fun s => nH l0 nV s.1 s.2) (out6, i8)).bind (Sum.elim (fun rr => rC rr) (fun rr => some (rr.1, rr.2)))

noncomputable def uF (l0 : (List aC)) : Option ((List aC) × Int) :=
  (qJ l0).bind fun x1 =>
  yS l0 ([] : List aC) x1 (0 : Int)

noncomputable def oY (l0 : (List aC)) (i5 : Int) : Option ((Int) ⊕ (Unit ⊕ ((List aC) × Int))) :=
  cond (decide (i5 < ((List.length l0 : Nat) : Int)))
  (bC (0 ≤ i5 ∧ i5 < ((List.length l0 : Nat) : Int)) <|
  bC ((((!(decide (((List.getD l0 (Int.toNat i5) default).At) < (-1 : Int))))) = true → 0 ≤ i5 ∧ i5 < ((List.length l0 : Nat) : Int))) <|
  cond ((decide (((List.getD l0 (Int.toNat i5) default).At) < (-1 : Int))) || (decide ((1125899906842624 : Int) < ((List.getD l0 (Int.toNat i5) default).At))))
  (some (.inr (.inr ([], (13 : Int)))))
  (some (.inl (IntKind.i64.wrap (i5 + (1 : Int))))))
  (some (.inr (.inl ())))

noncomputable def yF (l0 : (List aC)) (i5 : Int) : Option ((List aC) × Int) :=
  (lp (fun s => oY l0 s) i5).bind (Sum.elim (fun rr => uF l0) (fun rr => some (rr.1, rr.2)))

noncomputable def uK (l0 : (List aC)) : Option ((List aC) × Int) :=
  yF l0 (0 : Int)

noncomputable def pI (l0 : (List aC)) (i4 : Int) : Option ((Int) ⊕ (Unit ⊕ ((List aC) × Int))) :=
  cond (decide (i4 < ((List.length l0 : Nat) : Int)))
  (bC (0 ≤ i4 ∧ i4 < ((List.length l0 : Nat) : Int)) <|
  (pO ((List.getD l0 (Int.toNat i4) default).Row)).bind fun x30 =>
  bC ((((!(!x30))) = true → 0 ≤ i4 ∧ i4 < ((List.length l0 : Nat) : Int))) <|
  bC ((((!((!x30) || (decide ((1048576 : Int) < ((List.getD l0 (Int.toNat i4) default).Net)))))) = true → 0 ≤ i4 ∧ i4 < ((List.length l0 : Nat) : Int))) <|
  cond (((!x30) || (decide ((1048576 : Int) < ((List.getD l0 (Int.toNat i4) default).Net)))) || (decide (((List.getD l0 (Int.toNat i4) default).Net) < (-1048576 : Int))))
  (some (.inr (.inr ([], (2 : Int)))))
  (some (.inl (IntKind.i64.wrap (i4 + (1 : Int))))))
  (some (.inr (.inl ())))

noncomputable def yP (l0 : (List aC)) (i4 : Int) : Option ((List aC) × Int) :=
  (lp (fun s => pI l0 s) i4).bind (Sum.elim (fun rr => uK l0) (fun rr => some (rr.1, rr.2)))

noncomputable def vM (l0 : (List aC)) : Option ((List aC) × Int) :=
  yP l0 (0 : Int)

noncomputable def xZ (a0 : (List aC)) (b1 : (List aC)) : Option ((List aC) × Int) :=
  (rX a0).bind fun x1 =>
  (cM (!(!x1)) (rX b1)).bind fun x4 =>
  cond ((!x1) || (!x4))
  (some ([], (2 : Int)))
  (bC (List.length a0 * 40 ≤ 140737488355328 ∧ List.length a0 ≤ 9223372036854775807) <|
  bC ((List.length a0 + List.length b1) * 40 ≤ 140737488355328 ∧ List.length a0 + List.length b1 ≤ 9223372036854775807) <|
  (vM (a0 ++ b1)).bind fun x16 =>
  some (x16.1, x16.2))

noncomputable def uM  : Option Bool :=
  some true

noncomputable def qZ (a0 : (List aC)) (b1 : (List aC)) (i5 : Int) : Option ((Int) ⊕ (Unit ⊕ Bool)) :=
  cond (decide (i5 < ((List.length a0 : Nat) : Int)))
  (bC (0 ≤ i5 ∧ i5 < ((List.length a0 : Nat) : Int)) <|
  bC (0 ≤ i5 ∧ i5 < ((List.length b1 : Nat) : Int)) <|
  bC ((((!(!decide (((List.getD a0 (Int.toNat i5) default).At) = ((List.getD b1 (Int.toNat i5) default).At))))) = true → 0 ≤ i5 ∧ i5 < ((List.length a0 : Nat) : Int))) <|
  bC ((((!(!decide (((List.getD a0 (Int.toNat i5) default).At) = ((List.getD b1 (Int.toNat i5) default).At))))) = true → 0 ≤ i5 ∧ i5 < ((List.length b1 : Nat) : Int))) <|
  bC ((((!((!decide (((List.getD a0 (Int.toNat i5) default).At) = ((List.getD b1 (Int.toNat i5) default).At))) || (!decide (((List.getD a0 (Int.toNat i5) default).Net) = ((List.getD b1 (Int.toNat i5) default).Net)))))) = true → 0 ≤ i5 ∧ i5 < ((List.length a0 : Nat) : Int))) <|
  bC ((((!((!decide (((List.getD a0 (Int.toNat i5) default).At) = ((List.getD b1 (Int.toNat i5) default).At))) || (!decide (((List.getD a0 (Int.toNat i5) default).Net) = ((List.getD b1 (Int.toNat i5) default).Net)))))) = true → 0 ≤ i5 ∧ i5 < ((List.length b1 : Nat) : Int))) <|
  (cM (!((!decide (((List.getD a0 (Int.toNat i5) default).At) = ((List.getD b1 (Int.toNat i5) default).At))) || (!decide (((List.getD a0 (Int.toNat i5) default).Net) = ((List.getD b1 (Int.toNat i5) default).Net))))) (qL ((List.getD a0 (Int.toNat i5) default).Row) ((List.getD b1 (Int.toNat i5) default).Row))).bind fun x9 =>
  cond (((!decide (((List.getD a0 (Int.toNat i5) default).At) = ((List.getD b1 (Int.toNat i5) default).At))) || (!decide (((List.getD a0 (Int.toNat i5) default).Net) = ((List.getD b1 (Int.toNat i5) default).Net)))) || (!x9))
  (some (.inr (.inr false)))
  (some (.inl (IntKind.i64.wrap (i5 + (1 : Int))))))
  (some (.inr (.inl ())))

noncomputable def yL (a0 : (List aC)) (b1 : (List aC)) (i5 : Int) : Option Bool :=
  (lp (fun s => qZ a0 b1 s) i5).bind (Sum.elim (fun rr => uM ) (fun rr => some rr))

noncomputable def oO (a0 : (List aC)) (b1 : (List aC)) : Option Bool :=
  cond (!decide (((List.length a0 : Nat) : Int) = ((List.length b1 : Nat) : Int)))
  (some false)
  (yL a0 b1 (0 : Int))

noncomputable def tE (l0 : (List aC)) (by1 : (List aA) → Option ((List aA) × Int)) : Option ((List aC) × Int) :=
  (pK l0).bind fun x1 =>
  cond (!x1)
  (some ([], (2 : Int)))
  ((rA l0 by1).bind fun x5 =>
  some (x5.1, x5.2))

noncomputable def wE (by2 : Int → Int → Option Int) (out8 : List aA) : Option ((List aA) × Int) :=
  (oH out8).bind fun x9 =>
  some (x9.1, x9.2)

noncomputable def lY (by2 : Int → Int → Option Int) (f0 : (List aA)) (g1 : (List aA)) (out8 : List aA) (a9 : Int) (b10 : Int) (dS : Int) (at12 : Int) : Option (((List aA) × (List aA) × List aA × Int × Int × Int) ⊕ ((List aA))) :=
  (by2 a9 b10).bind fun x19 =>
  cond (!decide (x19 = dS))
  (bC ((List.length out8 + List.length ([aA.mk at12 (IntKind.i64.wrap (x19 - dS))])) * 16 ≤ 140737488355328 ∧ List.length out8 + List.length ([aA.mk at12 (IntKind.i64.wrap (x19 - dS))]) ≤ 9223372036854775807) <|
  some (.inl (f0, g1, out8 ++ ([aA.mk at12 (IntKind.i64.wrap (x19 - dS))]), a9, b10, x19)))
  (some (.inl (f0, g1, out8, a9, b10, dS)))

noncomputable def iA (by2 : Int → Int → Option Int) (f0 : (List aA)) (g1 : (List aA)) (out8 : List aA) (a9 : Int) (b10 : Int) (dS : Int) (at12 : Int) : Option (((List aA) × (List aA) × List aA × Int × Int × Int) ⊕ ((List aA))) :=
  bC ((((decide ((0 : Int) < ((List.length g1 : Nat) : Int)))) = true → 0 ≤ (0 : Int) ∧ (0 : Int) < ((List.length g1 : Nat) : Int))) <|
  cond ((decide ((0 : Int) < ((List.length g1 : Nat) : Int))) && (decide (((List.getD g1 (Int.toNat (0 : Int)) default).At) = at12)))
  (bC (0 ≤ (0 : Int) ∧ (0 : Int) < ((List.length g1 : Nat) : Int)) <|
  bC (0 ≤ (1 : Int) ∧ (1 : Int) ≤ ((List.length g1 : Nat) : Int)) <|
  lY by2 f0 (List.drop (Int.toNat (1 : Int)) g1) out8 a9 (IntKind.i64.wrap (b10 + ((List.getD g1 (Int.toNat (0 : Int)) default).Net))) dS at12)
  (lY by2 f0 g1 out8 a9 b10 dS at12)

noncomputable def jB (by2 : Int → Int → Option Int) (f0 : (List aA)) (g1 : (List aA)) (out8 : List aA) (a9 : Int) (b10 : Int) (dS : Int) (at12 : Int) : Option (((List aA) × (List aA) × List aA × Int × Int × Int) ⊕ ((List aA))) :=
  bC ((((decide ((0 : Int) < ((List.length f0 : Nat) : Int)))) = true → 0 ≤ (0 : Int) ∧ (0 : Int) < ((List.length f0 : Nat) : Int))) <|
  cond ((decide ((0 : Int) < ((List.length f0 : Nat) : Int))) && (decide (((List.getD f0 (Int.toNat (0 : Int)) default).At) = at12)))
  (bC (0 ≤ (0 : Int) ∧ (0 : Int) < ((List.length f0 : Nat) : Int)) <|
  bC (0 ≤ (1 : Int) ∧ (1 : Int) ≤ ((List.length f0 : Nat) : Int)) <|
  iA by2 (List.drop (Int.toNat (1 : Int)) f0) g1 out8 (IntKind.i64.wrap (a9 + ((List.getD f0 (Int.toNat (0 : Int)) default).Net))) b10 dS at12)
  (iA by2 f0 g1 out8 a9 b10 dS at12)

noncomputable def lV (by2 : Int → Int → Option Int) (f0 : (List aA)) (g1 : (List aA)) (out8 : List aA) (a9 : Int) (b10 : Int) (dS : Int) (at12 : Int) : Option (((List aA) × (List aA) × List aA × Int × Int × Int) ⊕ ((List aA))) :=
  cond (decide ((0 : Int) < ((List.length g1 : Nat) : Int)))
  (bC (0 ≤ (0 : Int) ∧ (0 : Int) < ((List.length g1 : Nat) : Int)) <|
  jB by2 f0 g1 out8 a9 b10 dS (if ((List.getD g1 (Int.toNat (0 : Int)) default).At) < at12 then ((List.getD g1 (Int.toNat (0 : Int)) default).At) else at12))
  (jB by2 f0 g1 out8 a9 b10 dS at12)

noncomputable def eY (by2 : Int → Int → Option Int)  (f0 : (List aA)) (g1 : (List aA)) (out8 : List aA) (a9 : Int) (b10 : Int) (dS : Int) : Option (((List aA) × (List aA) × List aA × Int × Int × Int) ⊕ ((List aA))) :=
  cond ((decide ((0 : Int) < ((List.length f0 : Nat) : Int))) || (decide ((0 : Int) < ((List.length g1 : Nat) : Int))))
  (cond (decide ((0 : Int) < ((List.length f0 : Nat) : Int)))
  (bC (0 ≤ (0 : Int) ∧ (0 : Int) < ((List.length f0 : Nat) : Int)) <|
  lV by2 f0 g1 out8 a9 b10 dS ((List.getD f0 (Int.toNat (0 : Int)) default).At))
  (lV by2 f0 g1 out8 a9 b10 dS (1125899906842624 : Int)))
  (some (.inr out8))

noncomputable def AQ (by2 : Int → Int → Option Int) (f0 : (List aA)) (g1 : (List aA)) (out8 : List aA) (a9 : Int) (b10 : Int) (dS : Int) : Option ((List aA) × Int) :=
  (lp (fun s => eY by2 s.1 s.2.1 s.2.2.1 s.2.2.2.1 s.2.2.2.2.1 s.2.2.2.2.2) (f0, g1, out8, a9, b10, dS)).bind (fun rr => wE by2 rr)

noncomputable def xN (f0 : (List aA)) (g1 : (List aA)) (by2 : Int → Int → Option Int) : Option ((List aA) × Int) :=
  (kO f0).bind fun x1 =>
  (cM (!(!x1)) (kO g1)).bind fun x4 =>
  cond ((!x1) || (!x4))
  (some ([], (2 : Int)))
  (AQ by2 f0 g1 ([] : List aA) (0 : Int) (0 : Int) (0 : Int))

noncomputable def sU (a0 : Int) (t1 : Int) : Option Int :=
  some (IntKind.i64.wrap (0 - a0))

noncomputable def rJ (f0 : (List aA)) : Option ((List aA) × Int) :=
  (xN f0 ([]) (fun y0 y1 => sU y0 y1)).bind fun x1 =>
  some (x1.1, x1.2)

noncomputable def AK (l0 : (List aC)) : Option ((List aC) × Int) :=
  (tE l0 (fun y0 => rJ y0)).bind fun x1 =>
  some (x1.1, x1.2)

noncomputable def wJ (g4 : List aA) : Option ((List aA) × Int) :=
  some (g4, (0 : Int))

noncomputable def oT (f0 : (List aA)) (g4 : List aA) (i5 : Int) : Option ((List aA × Int) ⊕ ((List aA))) :=
  cond (decide (i5 < ((List.length f0 : Nat) : Int)))
  (bC (0 ≤ i5 ∧ i5 < ((List.length f0 : Nat) : Int)) <|
  bC (0 ≤ i5 ∧ i5 < ((List.length f0 : Nat) : Int)) <|
  bC ((List.length g4 + List.length ([aA.mk ((List.getD f0 (Int.toNat i5) default).At) (IntKind.i64.wrap (0 - ((List.getD f0 (Int.toNat i5) default).Net)))])) * 16 ≤ 140737488355328 ∧ List.length g4 + List.length ([aA.mk ((List.getD f0 (Int.toNat i5) default).At) (IntKind.i64.wrap (0 - ((List.getD f0 (Int.toNat i5) default).Net)))]) ≤ 9223372036854775807) <|
  some (.inl (g4 ++ ([aA.mk ((List.getD f0 (Int.toNat i5) default).At) (IntKind.i64.wrap (0 - ((List.getD f0 (Int.toNat i5) default).Net)))]), IntKind.i64.wrap (i5 + (1 : Int)))))
  (some (.inr g4))

noncomputable def AA (f0 : (List aA)) (g4 : List aA) (i5 : Int) : Option ((List aA) × Int) :=
  (lp (fun s => oT f0 s.1 s.2) (g4, i5)).bind (fun rr => wJ rr)

noncomputable def xK (f0 : (List aA)) : Option ((List aA) × Int) :=
  (mT f0).bind fun x1 =>
  cond (!x1)
  (some ([], (2 : Int)))
  (AA f0 ([] : List aA) (0 : Int))

noncomputable def vA (l5 : (List Int)) : Option (List Int) :=
  some l5

noncomputable def lR (g1 : (List aA)) (l5 : (List Int)) (i7 : Int) : Option (((List Int) × Int) ⊕ ((List Int))) :=
  cond (decide (i7 < ((List.length g1 : Nat) : Int)))
  (bC (0 ≤ i7 ∧ i7 < ((List.length g1 : Nat) : Int)) <|
  (hU l5 ((List.getD g1 (Int.toNat i7) default).At)).bind fun x3 =>
  some (.inl (x3, IntKind.i64.wrap (i7 + (1 : Int)))))
  (some (.inr l5))

noncomputable def uZ (g1 : (List aA)) (l5 : (List Int)) (i7 : Int) : Option (List Int) :=
  (lp (fun s => lR g1 s.1 s.2) (l5, i7)).bind (fun rr => vA rr)

noncomputable def rK (g1 : (List aA)) (l5 : (List Int)) : Option (List Int) :=
  uZ g1 l5 (0 : Int)

noncomputable def lT (f0 : (List aA)) (g1 : (List aA)) (l5 : (List Int)) (i6 : Int) : Option (((List Int) × Int) ⊕ ((List Int))) :=
  cond (decide (i6 < ((List.length f0 : Nat) : Int)))
  (bC (0 ≤ i6 ∧ i6 < ((List.length f0 : Nat) : Int)) <|
  (hU l5 ((List.getD f0 (Int.toNat i6) default).At)).bind fun x9 =>
  some (.inl (x9, IntKind.i64.wrap (i6 + (1 : Int)))))
  (some (.inr l5))

noncomputable def vD (f0 : (List aA)) (g1 : (List aA)) (l5 : (List Int)) (i6 : Int) : Option (List Int) :=
  (lp (fun s => lT f0 g1 s.1 s.2) (l5, i6)).bind (fun rr => rK g1 rr)

noncomputable def pY (f0 : (List aA)) (g1 : (List aA)) : Option (List Int) :=
  vD f0 g1 ([]) (0 : Int)

noncomputable def sP (bT : (List Int)) (bI : List Int) : Option ((List aA) × Int) :=
  (qI bT bI).bind fun x9 =>
  some (x9.1, x9.2)

noncomputable def sL (f0 : (List aA)) (t1 : Int) (bT : (List Int)) (bI : List Int) (i8 : Int) (v9 : Int) : Option ((List Int × Int) ⊕ ((List Int))) :=
  bC ((List.length bI + List.length ([v9])) * 8 ≤ 140737488355328 ∧ List.length bI + List.length ([v9]) ≤ 9223372036854775807) <|
  some (.inl (bI ++ ([v9]), IntKind.i64.wrap (i8 + (1 : Int))))

noncomputable def mL (f0 : (List aA)) (t1 : Int) (bT : (List Int)) (bI : List Int) (i8 : Int) : Option ((List Int × Int) ⊕ ((List Int))) :=
  cond (decide (i8 < ((List.length bT : Nat) : Int)))
  (bC (0 ≤ i8 ∧ i8 < ((List.length bT : Nat) : Int)) <|
  cond (decide ((List.getD bT (Int.toNat i8) default) < t1))
  (bC (0 ≤ i8 ∧ i8 < ((List.length bT : Nat) : Int)) <|
  (nQ f0 (List.getD bT (Int.toNat i8) default)).bind fun x21 =>
  sL f0 t1 bT bI i8 x21)
  (sL f0 t1 bT bI i8 (0 : Int)))
  (some (.inr bI))

noncomputable def xA (f0 : (List aA)) (t1 : Int) (bT : (List Int)) (bI : List Int) (i8 : Int) : Option ((List aA) × Int) :=
  (lp (fun s => mL f0 t1 bT s.1 s.2) (bI, i8)).bind (fun rr => sP bT rr)

noncomputable def pX (f0 : (List aA)) (t1 : Int) (bT : (List Int)) : Option ((List aA) × Int) :=
  xA f0 t1 bT ([] : List Int) (0 : Int)

noncomputable def uJ (f0 : (List aA)) (t1 : Int) : Option ((List aA) × Int) :=
  (mT f0).bind fun x1 =>
  cond (!x1)
  (some ([], (2 : Int)))
  ((pY f0 ([])).bind fun x5 =>
  cond ((decide ((-1 : Int) ≤ t1)) && (decide (t1 < (1125899906842624 : Int))))
  ((hU x5 t1).bind fun x27 =>
  pX f0 t1 x27)
  (pX f0 t1 x5))

noncomputable def tT (bT : (List Int)) (bI : List Int) : Option ((List aA) × Int) :=
  (qI bT bI).bind fun x13 =>
  some (x13.1, x13.2)

noncomputable def tL (f0 : (List aA)) (t1 : Int) (bT : (List Int)) (bI : List Int) (i8 : Int) (p9 : Int) : Option ((List Int × Int) ⊕ ((List Int))) :=
  (nQ f0 p9).bind fun x21 =>
  bC ((List.length bI + List.length ([x21])) * 8 ≤ 140737488355328 ∧ List.length bI + List.length ([x21]) ≤ 9223372036854775807) <|
  some (.inl (bI ++ ([x21]), IntKind.i64.wrap (i8 + (1 : Int))))

noncomputable def nN (f0 : (List aA)) (t1 : Int) (bT : (List Int)) (bI : List Int) (i8 : Int) : Option ((List Int × Int) ⊕ ((List Int))) :=
  cond (decide (i8 < ((List.length bT : Nat) : Int)))
  (bC (0 ≤ i8 ∧ i8 < ((List.length bT : Nat) : Int)) <|
  cond ((decide ((-1 : Int) < t1)) && (decide ((List.getD bT (Int.toNat i8) default) < t1)))
  (tL f0 t1 bT bI i8 (IntKind.i64.wrap (t1 - (1 : Int))))
  (tL f0 t1 bT bI i8 (List.getD bT (Int.toNat i8) default)))
  (some (.inr bI))

noncomputable def yQ (f0 : (List aA)) (t1 : Int) (bT : (List Int)) (bI : List Int) (i8 : Int) : Option ((List aA) × Int) :=
  (lp (fun s => nN f0 t1 bT s.1 s.2) (bI, i8)).bind (fun rr => tT bT rr)

noncomputable def vQ (f0 : (List aA)) (t1 : Int) : Option ((List aA) × Int) :=
  (mT f0).bind fun x1 =>
  cond (!x1)
  (some ([], (2 : Int)))
  (cond (decide ((1125899906842624 : Int) ≤ t1))
  (some ([], (0 : Int)))
  ((pY f0 ([])).bind fun x6 =>
  (hU x6 (-1 : Int)).bind fun x9 =>
  yQ f0 t1 x9 ([] : List Int) (0 : Int)))

noncomputable def sO (out8 : List aC) : Option ((List aC) × Int) :=
  cond (decide ((4096 : Int) < ((List.length out8 : Nat) : Int)))
  (some ([], (7 : Int)))
  (some (out8, (0 : Int)))

noncomputable def sS (l0 : (List aC)) (jN : Int) (t2 : Int) (out8 : List aC) (iB : (List (List aH))) (i10 : Int) (g12 : (List aA)) (e13 : Int) : Option ((List aC × Int) ⊕ ((List aC) ⊕ ((List aC) × Int))) :=
  cond (!decide (e13 = (0 : Int)))
  (some (.inr (.inr ([], e13))))
  (bC (0 ≤ i10 ∧ i10 < ((List.length iB : Nat) : Int)) <|
  (uO out8 (List.getD iB (Int.toNat i10) default) g12).bind fun x25 =>
  some (.inl (x25, IntKind.i64.wrap (i10 + (1 : Int)))))

noncomputable def wB (l0 : (List aC)) (jN : Int) (t2 : Int) (out8 : List aC) (iB : (List (List aH))) (i10 : Int) (f11 : (List aA)) (g12 : (List aA)) (e13 : Int) : Option ((List aC × Int) ⊕ ((List aC) ⊕ ((List aC) × Int))) :=
  cond (decide (jN = (2 : Int)))
  ((vQ f11 t2).bind fun x29 =>
  sS l0 jN t2 out8 iB i10 x29.1 x29.2)
  (sS l0 jN t2 out8 iB i10 g12 e13)

noncomputable def oN (l0 : (List aC)) (jN : Int) (t2 : Int) (iB : (List (List aH))) (out8 : List aC) (i10 : Int) : Option ((List aC × Int) ⊕ ((List aC) ⊕ ((List aC) × Int))) :=
  cond (decide (i10 < ((List.length iB : Nat) : Int)))
  (bC (0 ≤ i10 ∧ i10 < ((List.length iB : Nat) : Int)) <|
  (pE l0 (List.getD iB (Int.toNat i10) default)).bind fun x15 =>
  (xK x15).bind fun x18 =>
  cond (decide (jN = (1 : Int)))
  ((uJ x15 t2).bind fun x33 =>
  wB l0 jN t2 out8 iB i10 x15 x33.1 x33.2)
  (wB l0 jN t2 out8 iB i10 x15 x18.1 x18.2))
  (some (.inr (.inl out8)))

noncomputable def zW (l0 : (List aC)) (jN : Int) (t2 : Int) (out8 : List aC) (iB : (List (List aH))) (i10 : Int) : Option ((List aC) × Int) :=
  (lp (fun s => oN l0 jN t2 iB s.1 s.2) (out8, i10)).bind (Sum.elim (fun rr => sO rr) (fun rr => some (rr.1, rr.2)))

noncomputable def rW (l0 : (List aC)) (jN : Int) (t2 : Int) : Option ((List aC) × Int) :=
  (rX l0).bind fun x1 =>
  cond (!x1)
  (some ([], (2 : Int)))
  ((qJ l0).bind fun x5 =>
  zW l0 jN t2 ([] : List aC) x5 (0 : Int))

noncomputable def tU (out6 : List aA) : Option ((List aA) × Int) :=
  (oH out6).bind fun x12 =>
  some (x12.1, x12.2)

noncomputable def qX (t1 : Int) (out6 : List aA) (v7 : Int) : Option ((List aA) × Int) :=
  cond (!decide (v7 = (0 : Int)))
  (bC ((List.length out6 + List.length ([aA.mk t1 (IntKind.i64.wrap (0 - v7))])) * 16 ≤ 140737488355328 ∧ List.length out6 + List.length ([aA.mk t1 (IntKind.i64.wrap (0 - v7))]) ≤ 9223372036854775807) <|
  tU (out6 ++ ([aA.mk t1 (IntKind.i64.wrap (0 - v7))])))
  (tU out6)

noncomputable def kC (t1 : Int) (t18 : (List aA)) (t19 : Int) (out6 : List aA) (v7 : Int) (t20 : Int) : Option ((List aA × Int × Int) ⊕ ((List aA × Int))) :=
  cond (decide (t20 < t19))
  (bC (0 ≤ t20 ∧ t20 < ((List.length t18 : Nat) : Int)) <|
  cond (decide (t1 ≤ ((List.getD t18 (Int.toNat t20) default).At)))
  (some (.inr (out6, v7)))
  (bC ((List.length out6 + List.length ([List.getD t18 (Int.toNat t20) default])) * 16 ≤ 140737488355328 ∧ List.length out6 + List.length ([List.getD t18 (Int.toNat t20) default]) ≤ 9223372036854775807) <|
  some (.inl (out6 ++ ([List.getD t18 (Int.toNat t20) default]), IntKind.i64.wrap (v7 + ((List.getD t18 (Int.toNat t20) default).Net)), IntKind.i64.wrap (t20 + (1 : Int))))))
  (some (.inr (out6, v7)))

noncomputable def yC (t1 : Int) (out6 : List aA) (v7 : Int) (t18 : (List aA)) (t19 : Int) (t20 : Int) : Option ((List aA) × Int) :=
  (lp (fun s => kC t1 t18 t19 s.1 s.2.1 s.2.2) (out6, v7, t20)).bind (fun rr => qX t1 rr.1 rr.2)

noncomputable def wG (f0 : (List aA)) (t1 : Int) : Option ((List aA) × Int) :=
  (kO f0).bind fun x1 =>
  cond (!x1)
  (some ([], (2 : Int)))
  (cond (decide ((1125899906842624 : Int) ≤ t1))
  ((cN f0).bind fun x6 =>
  some (x6, (0 : Int)))
  (yC t1 ([] : List aA) (0 : Int) f0 ((List.length f0 : Nat) : Int) (0 : Int)))

noncomputable def pW (f0 : (List aA)) (t1 : Int) : Option ((List aA) × Int) :=
  (wG f0 t1).bind fun x1 =>
  some (x1.1, x1.2)

noncomputable def vF (l0 : (List aC)) (t1 : Int) : Option ((List aC) × Int) :=
  (tE l0 (fun y0 => pW y0 t1)).bind fun x1 =>
  some (x1.1, x1.2)

noncomputable def wH (f0 : (List aA)) (at7 : Int) (out8 : List aA) : Option ((List aA) × Int) :=
  bC (0 ≤ at7 ∧ at7 ≤ ((List.length f0 : Nat) : Int)) <|
  bC ((List.length out8 + List.length (List.drop (Int.toNat at7) f0)) * 16 ≤ 140737488355328 ∧ List.length out8 + List.length (List.drop (Int.toNat at7) f0) ≤ 9223372036854775807) <|
  (oH (out8 ++ (List.drop (Int.toNat at7) f0))).bind fun x18 =>
  some (x18.1, x18.2)

noncomputable def vT (f0 : (List aA)) (v6 : Int) (at7 : Int) : Option ((List aA) × Int) :=
  cond (!decide (v6 = (0 : Int)))
  (bC (List.length ([aA.mk (-1 : Int) v6]) * 16 ≤ 140737488355328 ∧ List.length ([aA.mk (-1 : Int) v6]) ≤ 9223372036854775807) <|
  wH f0 at7 ([aA.mk (-1 : Int) v6]))
  (wH f0 at7 ([] : List aA))

noncomputable def lX (f0 : (List aA)) (t1 : Int) (v6 : Int) (at7 : Int) : Option ((Int × Int) ⊕ ((Int × Int))) :=
  bC ((((decide (at7 < ((List.length f0 : Nat) : Int)))) = true → 0 ≤ at7 ∧ at7 < ((List.length f0 : Nat) : Int))) <|
  cond ((decide (at7 < ((List.length f0 : Nat) : Int))) && (decide (((List.getD f0 (Int.toNat at7) default).At) < t1)))
  (bC (0 ≤ at7 ∧ at7 < ((List.length f0 : Nat) : Int)) <|
  some (.inl (IntKind.i64.wrap (v6 + ((List.getD f0 (Int.toNat at7) default).Net)), IntKind.i64.wrap (at7 + (1 : Int)))))
  (some (.inr (v6, at7)))

noncomputable def AU (f0 : (List aA)) (t1 : Int) (v6 : Int) (at7 : Int) : Option ((List aA) × Int) :=
  (lp (fun s => lX f0 t1 s.1 s.2) (v6, at7)).bind (fun rr => vT f0 rr.1 rr.2)

noncomputable def xV (f0 : (List aA)) (t1 : Int) : Option ((List aA) × Int) :=
  (kO f0).bind fun x1 =>
  cond (!x1)
  (some ([], (2 : Int)))
  (cond (decide ((1125899906842624 : Int) ≤ t1))
  (some ([], (0 : Int)))
  (cond (decide (t1 ≤ (-1 : Int)))
  ((cN f0).bind fun x7 =>
  some (x7, (0 : Int)))
  (AU f0 t1 (0 : Int) (0 : Int))))

noncomputable def qW (f0 : (List aA)) (t1 : Int) : Option ((List aA) × Int) :=
  (xV f0 t1).bind fun x1 =>
  some (x1.1, x1.2)

noncomputable def xI (l0 : (List aC)) (t1 : Int) : Option ((List aC) × Int) :=
  (tE l0 (fun y0 => qW y0 t1)).bind fun x1 =>
  some (x1.1, x1.2)

noncomputable def tB (a0 : (List aC)) (b1 : (List aC)) (t2 : Int) : Option Bool :=
  (xM a0).bind fun x1 =>
  (cM (!(!x1)) (xM b1)).bind fun x4 =>
  cond ((!x1) || (!x4))
  ((sE ).bind fun x8 =>
  some x8)
  ((wS a0 b1).bind fun x11 =>
  (xZ a0 b1).bind fun x14 =>
  (cM (!(!decide (x11.2 = x14.2))) (oO x11.1 x14.1)).bind fun x17 =>
  cond ((!decide (x11.2 = x14.2)) || (!x17))
  (some false)
  ((AK a0).bind fun x21 =>
  (rW a0 (0 : Int) t2).bind fun x24 =>
  (cM (!(!decide (x21.2 = x24.2))) (oO x21.1 x24.1)).bind fun x27 =>
  cond ((!decide (x21.2 = x24.2)) || (!x27))
  (some false)
  ((vF a0 t2).bind fun x31 =>
  (rW a0 (1 : Int) t2).bind fun x34 =>
  (cM (!(!decide (x31.2 = x34.2))) (oO x31.1 x34.1)).bind fun x37 =>
  cond ((!decide (x31.2 = x34.2)) || (!x37))
  (some false)
  ((xI a0 t2).bind fun x41 =>
  (rW a0 (2 : Int) t2).bind fun x44 =>
  (sE ).bind fun x47 =>
  (cM (x47 && (decide (x41.2 = x44.2))) (oO x41.1 x44.1)).bind fun x50 =>
  some ((x47 && (decide (x41.2 = x44.2))) && x50)))))

end Go.Abs
namespace Go.Abs
open Go Go.RowKit
def EG (x : aH) : Prop := AM x.Kind ∧ AM x.Num ∧ (fun s => s.size ≤ maxLen) x.Text ∧ True

def rS (x : aC) : Prop := (fun l => (∀ a ∈ l, EG a) ∧ l.length * 32 ≤ 140737488351232) x.Row ∧ AM x.At ∧ AM x.Net ∧ True

end Go.Abs
namespace Go.Abs
open Go Go.RowKit Go.Proofs
noncomputable def tt : TT := ⟨ZV Tryz.prog, VN Tryz.prog⟩

theorem aF : eT Tryz.prog tt := eT.of Tryz.prog

theorem LP (l0 : (List aC)) (r : Bool) (h0 : xM l0 = some r) : bR Tryz.prog 4 [(eL aE l0)] (aK r) := by
  intro H0
  refine cA Tryz.func4 ?_
  have hO := aL.start H0
  unfold xM at h0
  refine aT aF 1 [] [] ?_
  refine bO aF 4 [(2, (aK (decide ((lN l0) ≤ (60 : Int)))))] ?_
  refine bG ?_
  obtain rfl := oI h0
  exact aI (Q_r hO)

theorem vE (s0 : (List aH)) (f1_f : Nat) (f1_a f1_c : List V) (f1 : aH → Option Bool) (f1_h : ∀ a0 r, f1 a0 = some r → bR Tryz.prog f1_f (f1_a ++ [(aJ a0)] ++ f1_c) (aK r)) (r : Int) (h0 : fU s0 f1 = some r) : bR Tryz.prog 72 [(eL aJ s0), (.fn (.func f1_f) f1_a f1_c)] (eI r) := by
  intro H0
  refine cA Tryz.func72 ?_
  have hO := aL.start H0
  unfold fU at h0
  refine aT aF 1 [] [] ?_
  refine cC (fun T H => Has T [] ∧ aL ⟨H0, [], []⟩ H [] ∧ dU f1  = some r) ?_ ?_
  · clear hO h0
    rintro T H ⟨hT, hO, h0⟩
    refine aY hT ?_
    clear hT
    unfold dU at h0
    refine bO aF 1 [(4, (eI (-1 : Int)))] ?_
    refine bG ?_
    obtain rfl := oI h0
    exact aI (Q_r hO)
  refine aT aF 3 [] [(7, (eI (lN s0))), (8, (eI (0 : Int)))] ?_
  refine bP 0 ?_
  refine cP [(0, (eL aJ s0)), (1, (.fn (.func f1_f) f1_a f1_c)), (7, (eI (lN s0))), (8, (eI (0 : Int)))] ?_
  refine cE (fun T H => ∃ t7 : Int, ∃ t8 : Int, Has T [(0, (eL aJ s0)), (1, (.fn (.func f1_f) f1_a f1_c)), (7, (eI t7)), (8, (eI t8))] ∧ aL ⟨H0, [], []⟩ H [] ∧ fM f1 s0 t7 t8 = some r) ?_ ⟨(lN s0), (0 : Int), .eq (by kernel_rfl), hO, h0⟩
  clear hO h0
  rintro T H ⟨t7, t8, hT, hO, h0⟩
  refine aY hT ?_
  clear hT
  unfold fM at h0
  obtain ⟨rr0, hl0, h0⟩ := aV h0
  refine bU (by kernel_rfl) (fun (s : Int) T H => Has T [(0, (eL aJ s0)), (1, (.fn (.func f1_f) f1_a f1_c)), (7, (eI t7)), (8, (eI s))] ∧ aL ⟨H0, [], []⟩ H []) hl0 ⟨.eq (by kernel_rfl), hO⟩ ?_
  clear hO
  rintro k0 s out1 T H ⟨hT, hO⟩ h1 ho0
  obtain ⟨t8, rfl⟩ : ∃ x, x = s := ⟨_, rfl⟩
  replace h1 : fQ f1 s0 t7 t8 = some out1 := h1
  refine aY hT ?_
  clear hT
  unfold fQ at h1
  refine aT aF 1 [] [(9, (aK (decide (t8 < t7))))] ?_
  refine aM ?_
  refine bE h1 (fun h1 => ?_) (fun h1 => ?_)
  · refine bF ?_
    refine bD [(0, (eL aJ s0)), (1, (.fn (.func f1_f) f1_a f1_c)), (7, (eI t7)), (8, (eI t8))] ?_
    refine aM ?_
    refine bP 1 ?_
    refine aT aF 2 [] [(5, (eI t8))] ?_
    refine aM ?_
    refine aS aF 6 ?_
    obtain ⟨c2, h1⟩ := bA h1
    refine mP 5 [0 ≤ t8 ∧ t8 < (lN s0)] ⟨c2, trivial⟩ ?_
    obtain ⟨x3, hx4, h1⟩ := aV h1
    refine bW (f1_h (gD s0 t8) _ hx4) hO ?_
    intro H hO
    refine dO ?_
    refine bN [] [(16, (aK x3))] ?_
    refine bE h1 (fun h1 => ?_) (fun h1 => ?_)
    · refine bO aF 2 [(4, (eI t8))] ?_
      refine bG ?_
      obtain rfl := oI h1
      obtain rfl : _ = rr0 := ho0
      replace h0 : some t8 = some r := h0
      obtain rfl := oI h0
      exact aI (bL (aP (aP (bL (aP (Q_r hO))))))
    refine bF ?_
    refine cR [(0, (eL aJ s0)), (1, (.fn (.func f1_f) f1_a f1_c)), (7, (eI t7)), (8, (eI t8))] ?_
    refine aI (aX (aG (?_)))
    refine aS aF 2 ?_
    refine aZ ?_
    exact aI (aG (⟨rfl, _, (oI h1).symm, .eq (by kernel_rfl), hO⟩))
  refine cQ 0 ?_
  obtain rfl := oI h1
  obtain rfl : _ = rr0 := ho0
  replace h0 : dU f1  = some r := h0
  exact aI (aR (aR (bH (aG (⟨rfl, .eq (by kernel_rfl), hO, h0⟩)))))

theorem uG (s0 : (List aH)) (f1_f : Nat) (f1_a f1_c : List V) (f1 : aH → Option Bool) (f1_h : ∀ a0 r, f1 a0 = some r → bR Tryz.prog f1_f (f1_a ++ [(aJ a0)] ++ f1_c) (aK r)) (r : Bool) (h0 : dN s0 f1 = some r) : bR Tryz.prog 64 [(eL aJ s0), (.fn (.func f1_f) f1_a f1_c)] (aK r) := by
  intro H0
  refine cA Tryz.func64 ?_
  have hO := aL.start H0
  unfold dN at h0
  refine aT aF 1 [] [] ?_
  refine aM ?_
  refine aS aF 5 ?_
  refine bK 2 ?_
  obtain ⟨x1, hx2, h0⟩ := aV h0
  refine bW (vE s0 f1_f f1_a f1_c f1 f1_h _ hx2) hO ?_
  intro H hO
  refine aZ ?_
  refine bD [(4, (aK (decide ((0 : Int) ≤ x1))))] ?_
  refine bG ?_
  obtain rfl := oI h0
  exact aI (Q_r hO)

theorem AD (v0 : aH) (r : (bM × Bool)) (h0 : mB v0 = some r) : bR Tryz.prog 85 [(aJ v0)] (.tup [(bJ r.1), (aK r.2)]) := by
  intro H0
  refine cA Tryz.func85 ?_
  have hO := aL.start H0
  unfold mB at h0
  refine aM ?_
  refine aS aF 3 ?_
  refine jF 3 (aJ v0) (by kernel_rfl) (by kernel_rfl) ?_
  refine aZ ?_
  refine bD [(1, (.rp (aJ v0)))] ?_
  refine aM ?_
  refine bP 0 ?_
  refine aT aF 9 [] [(4, (aK ((decide (v0.Kind = (1 : Int))) && (oJ v0.Text (⟨#[]⟩ : ByteArray)))))] ?_
  refine bE h0 (fun h0 => ?_) (fun h0 => ?_)
  · refine bO aF 5 [(2, (bJ (bM.k_number v0.Num))), (3, (aK true))] ?_
    refine bG ?_
    obtain rfl := oI h0
    exact aI (bL (aP (Q_r hO)))
  refine aT aF 15 [4] [(16, (aK (((decide (v0.Kind = (2 : Int))) && (decide (v0.Num = (0 : Int)))) && (decide (((ByteArray.size v0.Text : Nat) : Int) ≤ (64 : Int))))))] ?_
  refine bE h0 (fun h0 => ?_) (fun h0 => ?_)
  · refine bO aF 5 [(2, (bJ (bM.k_words v0.Text))), (3, (aK true))] ?_
    refine bG ?_
    obtain rfl := oI h0
    exact aI (bL (aP (Q_r hO)))
  refine bF ?_
  refine cR [] ?_
  refine aI (aX (aG (?_)))
  refine bO aF 2 [(2, (bJ bM.none_)), (3, (aK false))] ?_
  refine bG ?_
  obtain rfl := oI h0
  exact aI (Q_r hO)

theorem XE (v0 : aH) (r : Bool) (h0 : xQ v0 = some r) : bR Tryz.prog 66 [(aJ v0)] (aK r) := by
  intro H0
  refine cA Tryz.func66 ?_
  have hO := aL.start H0
  unfold xQ at h0
  refine aM ?_
  refine aS aF 2 ?_
  refine jF 3 (aJ v0) (by kernel_rfl) (by kernel_rfl) ?_
  refine aZ ?_
  refine bD [(1, (.rp (aJ v0)))] ?_
  refine aM ?_
  refine aS aF 7 ?_
  refine bK 1 ?_
  obtain ⟨⟨x1_0, x1_1⟩, hx2, h0⟩ := aV h0
  refine bW (AD v0 _ hx2) hO ?_
  intro H hO
  rcases x1_0 with _ | y4 | y5
  · replace h0 : (some x1_1) = some r := h0
    refine aZ ?_
    refine bD [(4, (aK x1_1))] ?_
    refine bO aF 2 [(2, (aK x1_1))] ?_
    refine bG ?_
    obtain rfl := oI h0
    exact aI (Q_r hO)
  · replace h0 : (some x1_1) = some r := h0
    refine aZ ?_
    refine bD [(4, (aK x1_1))] ?_
    refine bO aF 2 [(2, (aK x1_1))] ?_
    refine bG ?_
    obtain rfl := oI h0
    exact aI (Q_r hO)
  · replace h0 : (some x1_1) = some r := h0
    refine aZ ?_
    refine bD [(4, (aK x1_1))] ?_
    refine bO aF 2 [(2, (aK x1_1))] ?_
    refine bG ?_
    obtain rfl := oI h0
    exact aI (Q_r hO)

theorem WZ (v0 : aH) (r : Bool) (h0 : xJ v0 = some r) : bR Tryz.prog 65 [(aJ v0)] (aK r) := by
  intro H0
  refine cA Tryz.func65 ?_
  have hO := aL.start H0
  unfold xJ at h0
  refine aM ?_
  refine aS aF 2 ?_
  refine jF 3 (aJ v0) (by kernel_rfl) (by kernel_rfl) ?_
  refine aZ ?_
  refine bD [(1, (.rp (aJ v0)))] ?_
  refine aM ?_
  refine aS aF 4 ?_
  refine bK 1 ?_
  obtain ⟨x1, hx2, h0⟩ := aV h0
  refine bW (XE v0 _ hx2) hO ?_
  intro H hO
  refine aZ ?_
  refine bD [(2, (aK (!x1)))] ?_
  refine bG ?_
  obtain rfl := oI h0
  exact aI (Q_r hO)

theorem CL (r0 : (List aH)) (r : Bool) (h0 : rL r0 = some r) : bR Tryz.prog 33 [(eL aJ r0)] (aK r) := by
  intro H0
  refine cA Tryz.func33 ?_
  have hO := aL.start H0
  unfold rL at h0
  refine aT aF 1 [] [] ?_
  refine aM ?_
  refine aT aF 3 [] [(5, (aK (decide ((8 : Int) < (lN r0)))))] ?_
  refine bE h0 (fun h0 => ?_) (fun h0 => ?_)
  · refine bO aF 1 [(2, (aK false))] ?_
    refine bG ?_
    obtain rfl := oI h0
    exact aI (aP (Q_r hO))
  refine bF ?_
  refine bD [(0, (eL aJ r0))] ?_
  refine aM ?_
  refine aS aF 4 ?_
  refine bK 1 ?_
  obtain ⟨x2, hx3, h0⟩ := aV h0
  refine bW (uG r0 65 [] [] (fun y0 => xJ y0) (fun y0 r h => WZ y0 r h) _ hx3) hO ?_
  intro H hO
  refine aZ ?_
  refine bD [(2, (aK (!x2)))] ?_
  refine bG ?_
  obtain rfl := oI h0
  exact aI (Q_r hO)

theorem LG (t0 : Int) (r : Bool) (h0 : xE t0 = some r) : bR Tryz.prog 67 [(eI t0)] (aK r) := by
  intro H0
  refine cA Tryz.func67 ?_
  have hO := aL.start H0
  unfold xE at h0
  refine aT aF 1 [] [] ?_
  refine bO aF 7 [(2, (aK ((decide ((0 : Int) ≤ t0)) && (decide (t0 ≤ (1125899906842624 : Int))))))] ?_
  refine bG ?_
  obtain rfl := oI h0
  exact aI (Q_r hO)

theorem aAa (s0 : nA) (r : Bool) (h0 : AT s0 = some r) : bR Tryz.prog 34 [(tD s0)] (aK r) := by
  intro H0
  refine cA Tryz.func34 ?_
  have hO := aL.start H0
  unfold AT at h0
  refine aM ?_
  refine aS aF 2 ?_
  refine jF 2 (tD s0) (by kernel_rfl) (by kernel_rfl) ?_
  refine aZ ?_
  refine bD [(1, (.rp (tD s0)))] ?_
  refine aM ?_
  refine aS aF 16 ?_
  refine bK 2 ?_
  obtain ⟨x1, hx2, h0⟩ := aV h0
  refine bW (LG s0.From _ hx2) hO ?_
  intro H hO
  refine bK 6 ?_
  obtain ⟨x4, hx5, h0⟩ := aV h0
  refine jQ [(6, true)] 67 [(eI s0.To)] (aK x4) x1 (by kernel_rfl) (by kernel_rfl) (by kernel_rfl) (fun hb6 => (LG s0.To _ (jI hx5 hb6))) hO ?_
  intro H hO
  refine aZ ?_
  refine bD [(2, (aK ((x1 && x4) && (decide (s0.From < s0.To)))))] ?_
  refine bG ?_
  obtain rfl := oI h0
  exact aI (Q_r hO)

theorem vS (s0 : (List aC)) (f1_f : Nat) (f1_a f1_c : List V) (f1 : aC → Option Bool) (f1_h : ∀ a0 r, f1 a0 = some r → bR Tryz.prog f1_f (f1_a ++ [(aE a0)] ++ f1_c) (aK r)) (r : Int) (h0 : fT s0 f1 = some r) : bR Tryz.prog 70 [(eL aE s0), (.fn (.func f1_f) f1_a f1_c)] (eI r) := by
  intro H0
  refine cA Tryz.func70 ?_
  have hO := aL.start H0
  unfold fT at h0
  refine aT aF 1 [] [] ?_
  refine cC (fun T H => Has T [] ∧ aL ⟨H0, [], []⟩ H [] ∧ dW f1  = some r) ?_ ?_
  · clear hO h0
    rintro T H ⟨hT, hO, h0⟩
    refine aY hT ?_
    clear hT
    unfold dW at h0
    refine bO aF 1 [(4, (eI (-1 : Int)))] ?_
    refine bG ?_
    obtain rfl := oI h0
    exact aI (Q_r hO)
  refine aT aF 3 [] [(7, (eI (lN s0))), (8, (eI (0 : Int)))] ?_
  refine bP 0 ?_
  refine cP [(0, (eL aE s0)), (1, (.fn (.func f1_f) f1_a f1_c)), (7, (eI (lN s0))), (8, (eI (0 : Int)))] ?_
  refine cE (fun T H => ∃ t7 : Int, ∃ t8 : Int, Has T [(0, (eL aE s0)), (1, (.fn (.func f1_f) f1_a f1_c)), (7, (eI t7)), (8, (eI t8))] ∧ aL ⟨H0, [], []⟩ H [] ∧ fP f1 s0 t7 t8 = some r) ?_ ⟨(lN s0), (0 : Int), .eq (by kernel_rfl), hO, h0⟩
  clear hO h0
  rintro T H ⟨t7, t8, hT, hO, h0⟩
  refine aY hT ?_
  clear hT
  unfold fP at h0
  obtain ⟨rr0, hl0, h0⟩ := aV h0
  refine bU (by kernel_rfl) (fun (s : Int) T H => Has T [(0, (eL aE s0)), (1, (.fn (.func f1_f) f1_a f1_c)), (7, (eI t7)), (8, (eI s))] ∧ aL ⟨H0, [], []⟩ H []) hl0 ⟨.eq (by kernel_rfl), hO⟩ ?_
  clear hO
  rintro k0 s out1 T H ⟨hT, hO⟩ h1 ho0
  obtain ⟨t8, rfl⟩ : ∃ x, x = s := ⟨_, rfl⟩
  replace h1 : fO f1 s0 t7 t8 = some out1 := h1
  refine aY hT ?_
  clear hT
  unfold fO at h1
  refine aT aF 1 [] [(9, (aK (decide (t8 < t7))))] ?_
  refine aM ?_
  refine bE h1 (fun h1 => ?_) (fun h1 => ?_)
  · refine bF ?_
    refine bD [(0, (eL aE s0)), (1, (.fn (.func f1_f) f1_a f1_c)), (7, (eI t7)), (8, (eI t8))] ?_
    refine aM ?_
    refine bP 1 ?_
    refine aT aF 2 [] [(5, (eI t8))] ?_
    refine aM ?_
    refine aS aF 6 ?_
    obtain ⟨c2, h1⟩ := bA h1
    refine mP 5 [0 ≤ t8 ∧ t8 < (lN s0)] ⟨c2, trivial⟩ ?_
    obtain ⟨x3, hx4, h1⟩ := aV h1
    refine bW (f1_h (gD s0 t8) _ hx4) hO ?_
    intro H hO
    refine dO ?_
    refine bN [] [(16, (aK x3))] ?_
    refine bE h1 (fun h1 => ?_) (fun h1 => ?_)
    · refine bO aF 2 [(4, (eI t8))] ?_
      refine bG ?_
      obtain rfl := oI h1
      obtain rfl : _ = rr0 := ho0
      replace h0 : some t8 = some r := h0
      obtain rfl := oI h0
      exact aI (bL (aP (aP (bL (aP (Q_r hO))))))
    refine bF ?_
    refine cR [(0, (eL aE s0)), (1, (.fn (.func f1_f) f1_a f1_c)), (7, (eI t7)), (8, (eI t8))] ?_
    refine aI (aX (aG (?_)))
    refine aS aF 2 ?_
    refine aZ ?_
    exact aI (aG (⟨rfl, _, (oI h1).symm, .eq (by kernel_rfl), hO⟩))
  refine cQ 0 ?_
  obtain rfl := oI h1
  obtain rfl : _ = rr0 := ho0
  replace h0 : dW f1  = some r := h0
  exact aI (aR (aR (bH (aG (⟨rfl, .eq (by kernel_rfl), hO, h0⟩)))))

theorem nM (s0 : (List aC)) (f1_f : Nat) (f1_a f1_c : List V) (f1 : aC → Option Bool) (f1_h : ∀ a0 r, f1 a0 = some r → bR Tryz.prog f1_f (f1_a ++ [(aE a0)] ++ f1_c) (aK r)) (r : Bool) (h0 : cW s0 f1 = some r) : bR Tryz.prog 39 [(eL aE s0), (.fn (.func f1_f) f1_a f1_c)] (aK r) := by
  intro H0
  refine cA Tryz.func39 ?_
  have hO := aL.start H0
  unfold cW at h0
  refine aT aF 1 [] [] ?_
  refine aM ?_
  refine aS aF 5 ?_
  refine bK 2 ?_
  obtain ⟨x1, hx2, h0⟩ := aV h0
  refine bW (vS s0 f1_f f1_a f1_c f1 f1_h _ hx2) hO ?_
  intro H hO
  refine aZ ?_
  refine bD [(4, (aK (decide ((0 : Int) ≤ x1))))] ?_
  refine bG ?_
  obtain rfl := oI h0
  exact aI (Q_r hO)

theorem RT (x0 : aC) (r : Bool) (h0 : tN x0 = some r) : bR Tryz.prog 40 [(aE x0)] (aK r) := by
  intro H0
  refine cA Tryz.func40 ?_
  have hO := aL.start H0
  unfold tN at h0
  refine aM ?_
  refine aS aF 2 ?_
  refine jF 3 (aE x0) (by kernel_rfl) (by kernel_rfl) ?_
  refine aZ ?_
  refine bD [(1, (.rp (aE x0)))] ?_
  refine aM ?_
  refine aS aF 15 ?_
  refine bK 2 ?_
  obtain ⟨x1, hx2, h0⟩ := aV h0
  refine bW (CL x0.Row _ hx2) hO ?_
  intro H hO
  refine aZ ?_
  refine bD [(2, (aK (((!x1) || (decide ((1048576 : Int) < x0.Net))) || (decide (x0.Net < (-1048576 : Int))))))] ?_
  refine bG ?_
  obtain rfl := oI h0
  exact aI (Q_r hO)

theorem RJ (x0 : aC) (r : Bool) (h0 : tR x0 = some r) : bR Tryz.prog 41 [(aE x0)] (aK r) := by
  intro H0
  refine cA Tryz.func41 ?_
  have hO := aL.start H0
  unfold tR at h0
  refine aM ?_
  refine aS aF 2 ?_
  refine jF 3 (aE x0) (by kernel_rfl) (by kernel_rfl) ?_
  refine aZ ?_
  refine bD [(1, (.rp (aE x0)))] ?_
  refine bO aF 9 [(2, (aK ((decide (x0.At < (-1 : Int))) || (decide ((1125899906842624 : Int) < x0.At)))))] ?_
  refine bG ?_
  obtain rfl := oI h0
  exact aI (Q_r hO)

theorem yX (s0 : (List aC)) (r : (List aC)) (h0 : fC s0 = some r) : BV Tryz.prog 42 [(eL aE s0)] (fun lo => (.msl 3 lo 0 (List.length r))) 3 (List.map aE r) := by
  intro H0
  refine cA Tryz.func42 ?_
  have hO := aL.start H0
  unfold fC at h0
  refine aT aF 1 [] [] ?_
  refine aM ?_
  refine aM ?_
  refine aS aF 2 ?_
  refine bK 1 ?_
  refine aCi false (List.length s0) (fun i => aE (List.getD s0 i default)) (by kernel_rfl) (by kernel_rfl) ?_
  intro b1 hn2
  refine dO ?_
  refine bN [] [(4, (aK b1))] ?_
  refine oZ (b1) (fun hc3 => ?_) (fun hc3 => ?_)
  · replace h0 : some ([] : List aC) = some r := by
      have hl := List.eq_nil_of_length_eq_zero (hn2 hc3)
      rw [hl] at h0
      exact (bA h0).2
    refine bO aF 1 [(2, (.sl true 0 (fun _ => .bad)))] ?_
    refine bG ?_
    refine cR [(2, (.sl true 0 (fun _ => .bad)))] ?_
    refine OA (el := (fun _ => .bad)) 0 2 3 hO (by kernel_rfl) ?_
    intro lo4 H5 hO
    obtain rfl := oI h0
    exact aI (aP (qQ (x := (.msl 3 lo4 0 (List.length ([] : List aC)))) (by kernel_rfl) (aU.refl _) ⟨lo4, rfl, hO⟩))
  · refine bF ?_
    refine bD [(0, (eL aE s0))] ?_
    refine aM ?_
    refine aS aF 4 ?_
    refine fE (xs := []) (k := 3) (by kernel_rfl) (by kernel_rfl) ?_
    refine bK 2 ?_
    obtain ⟨c7, h0⟩ := bA h0
    refine GQ (e := aE) s0 (fun _ => .bad) 3 40 (eL aE s0) (fun lo6 => [(lo6, 3, List.map aE s0)]) (by kernel_rfl) (by kernel_rfl) hO (BI (fun _ => by kernel_rfl)) c7 (fun _ => by kernel_rfl) ?_
    intro lo6 H hO
    refine aZ ?_
    refine bD [(2, (.msl 3 lo6 0 (List.length s0)))] ?_
    refine bG ?_
    obtain rfl := oI h0
    exact aI (qQ (x := (.msl 3 lo6 0 (List.length s0))) (by kernel_rfl) (aU.refl _) ⟨lo6, rfl, hO⟩)

theorem nW (lo0p : Nat) (aB : (List aC)) (a1 : Int) (b2 : Int) (cmp3_f : Nat) (cmp3_a cmp3_c : List V) (cmp3 : aC → aC → Option Int) (cmp3_h : ∀ a0 a1 r, cmp3 a0 a1 = some r → bR Tryz.prog cmp3_f (cmp3_a ++ [(aE a0), (aE a1)] ++ cmp3_c) (eI r)) (r : List aC) (h0 : dQ aB a1 b2 cmp3 = some r) : lS Tryz.prog 89 lo0p 3 (List.map aE aB) (List.map aE r) [(.msl 3 lo0p 0 (List.length aB)), (eI a1), (eI b2), (.fn (.func cmp3_f) cmp3_a cmp3_c)] (.tup []) := by
  intro H0 hl0
  refine cA Tryz.func89 ?_
  have hO := aL.qF hl0
  clear hl0
  obtain ⟨N0, hN0⟩ : ∃ n, n = List.length aB := ⟨_, rfl⟩
  have hN : List.length aB = N0 := hN0.symm
  unfold dQ at h0
  refine aT aF 3 [] [(8, (eI (wR (a1 + (1 : Int)))))] ?_
  refine bP 0 ?_
  refine cP [(0, (.msl 3 lo0p 0 (List.length aB))), (1, (eI a1)), (2, (eI b2)), (3, (.fn (.func cmp3_f) cmp3_a cmp3_c)), (8, (eI (wR (a1 + (1 : Int)))))] ?_
  refine cE (fun T H => ∃ aB : List aC, ∃ i8 : Int, Has T [(0, (.msl 3 lo0p 0 (List.length aB))), (1, (eI a1)), (2, (eI b2)), (3, (.fn (.func cmp3_f) cmp3_a cmp3_c)), (8, (eI i8))] ∧ aL ⟨H0, [lo0p], []⟩ H [(lo0p, 3, List.map aE aB)] ∧ List.length aB = N0 ∧ jK cmp3 aB a1 b2 i8 = some r) ?_ ⟨aB, wR (a1 + (1 : Int)), .eq (by kernel_rfl), hO, hN, h0⟩
  clear hO hN h0
  rintro T H ⟨aB, i8, hT, hO, hN, h0⟩
  refine aY hT ?_
  clear hT
  unfold jK at h0
  obtain ⟨rr0, hl0, h0⟩ := aV h0
  refine bU (by kernel_rfl) (fun (s : List aC × Int) T H => Has T [(0, (.msl 3 lo0p 0 (List.length s.1))), (1, (eI a1)), (2, (eI b2)), (3, (.fn (.func cmp3_f) cmp3_a cmp3_c)), (8, (eI s.2))] ∧ aL ⟨H0, [lo0p], []⟩ H [(lo0p, 3, List.map aE s.1)] ∧ List.length s.1 = N0) hl0 ⟨.eq (by kernel_rfl), hO, hN⟩ ?_
  clear hO hN
  rintro k0 s out1 T H ⟨hT, hO, hN⟩ h1 ho0
  obtain ⟨aB, i8⟩ := s
  replace h1 : jH cmp3 a1 b2 aB i8 = some out1 := h1
  dsimp only at hT
  refine aY hT ?_
  clear hT
  unfold jH at h1
  refine aM ?_
  refine aT aF 3 [] [(14, (aK (decide (i8 < b2))))] ?_
  refine bE h1 (fun h1 => ?_) (fun h1 => ?_)
  · refine bF ?_
    refine bD [(0, (.msl 3 lo0p 0 (List.length aB))), (1, (eI a1)), (2, (eI b2)), (3, (.fn (.func cmp3_f) cmp3_a cmp3_c)), (8, (eI i8))] ?_
    refine cC (fun T H => ∃ aB : List aC, Has T [(0, (.msl 3 lo0p 0 (List.length aB))), (1, (eI a1)), (2, (eI b2)), (3, (.fn (.func cmp3_f) cmp3_a cmp3_c)), (8, (eI i8))] ∧ aL ⟨H0, [lo0p], []⟩ H [(lo0p, 3, List.map aE aB)] ∧ List.length aB = N0 ∧ eW cmp3 aB a1 b2 i8 = some out1) ?_ ?_
    · clear hO hN h1
      rintro T H ⟨aB, hT, hO, hN, h1⟩
      refine aY hT ?_
      clear hT
      unfold eW at h1
      refine aS aF 3 ?_
      refine aZ ?_
      exact aI (aG (⟨rfl, _, (oI h1).symm, .eq (by kernel_rfl), hO, hN⟩))
    refine bP 1 ?_
    refine aT aF 2 [] [(9, (eI i8))] ?_
    refine bP 2 ?_
    refine cP [(0, (.msl 3 lo0p 0 (List.length aB))), (1, (eI a1)), (2, (eI b2)), (3, (.fn (.func cmp3_f) cmp3_a cmp3_c)), (8, (eI i8)), (9, (eI i8))] ?_
    refine cE (fun T H => ∃ aB : List aC, ∃ j9 : Int, Has T [(0, (.msl 3 lo0p 0 (List.length aB))), (1, (eI a1)), (2, (eI b2)), (3, (.fn (.func cmp3_f) cmp3_a cmp3_c)), (8, (eI i8)), (9, (eI j9))] ∧ aL ⟨H0, [lo0p], []⟩ H [(lo0p, 3, List.map aE aB)] ∧ List.length aB = N0 ∧ jC cmp3 aB a1 b2 i8 j9 = some out1) ?_ ⟨aB, i8, .eq (by kernel_rfl), hO, hN, h1⟩
    clear hO hN h1
    rintro T H ⟨aB, j9, hT, hO, hN, h1⟩
    refine aY hT ?_
    clear hT
    unfold jC at h1
    obtain ⟨rr1, hl1, h1⟩ := aV h1
    refine bU (by kernel_rfl) (fun (s : List aC × Int) T H => Has T [(0, (.msl 3 lo0p 0 (List.length s.1))), (1, (eI a1)), (2, (eI b2)), (3, (.fn (.func cmp3_f) cmp3_a cmp3_c)), (8, (eI i8)), (9, (eI s.2))] ∧ aL ⟨H0, [lo0p], []⟩ H [(lo0p, 3, List.map aE s.1)] ∧ List.length s.1 = N0) hl1 ⟨.eq (by kernel_rfl), hO, hN⟩ ?_
    clear hO hN
    rintro k1 s out2 T H ⟨hT, hO, hN⟩ h2 ho1
    obtain ⟨aB, j9⟩ := s
    replace h2 : jM cmp3 a1 b2 i8 aB j9 = some out2 := h2
    dsimp only at hT
    refine aY hT ?_
    clear hT
    unfold jM at h2
    refine aM ?_
    refine aM ?_
    obtain ⟨c2, h2⟩ := bA h2
    obtain ⟨c3, h2⟩ := bA h2
    obtain ⟨x4, hx5, h2⟩ := aV h2
    refine fG (fF []) aF 17 ?_
    refine xU (K := fun T H => Has (lift T) [(0, (.msl 3 lo0p 0 (List.length aB))), (1, (eI a1)), (2, (eI b2)), (3, (.fn (.func cmp3_f) cmp3_a cmp3_c)), (8, (eI i8)), (9, (eI j9)), (34, (aK ((decide (a1 < j9)) && (decide (x4 < (0 : Int))))))] ∧ aL ⟨H0, [lo0p], []⟩ H [(lo0p, 3, List.map aE aB)]) ?_ ?_
    · refine sQ 4 ?_
      refine sF (t := 21) (e := decide (a1 < j9)) (by kernel_rfl) (fun hg6 => ?_) (fun hg6 => ?_)
      · refine cU 8 [0 ≤ j9 ∧ j9 < (lN aB)] ⟨(c2 hg6), trivial⟩ ?_
        refine zF 0 lo0p 3 (0 + Int.toNat j9) (aE (gD aB j9)) (aE (gD aB j9)) (List.map aE aB) (by kernel_rfl) (by kernel_rfl) (by kernel_rfl) hO (by kernel_rfl) (cS (c2 hg6)) ?_
        refine cU 13 [0 ≤ (wR (j9 - (1 : Int))) ∧ (wR (j9 - (1 : Int))) < (lN aB)] ⟨(c3 hg6), trivial⟩ ?_
        refine zF 0 lo0p 3 (0 + Int.toNat (wR (j9 - (1 : Int)))) (aE (gD aB (wR (j9 - (1 : Int))))) (aE (gD aB (wR (j9 - (1 : Int))))) (List.map aE aB) (by kernel_rfl) (by kernel_rfl) (by kernel_rfl) hO (by kernel_rfl) (cS (c3 hg6)) ?_
        refine BK cmp3_f (cmp3_a ++ [(aE (gD aB j9)), (aE (gD aB (wR (j9 - (1 : Int)))))] ++ cmp3_c) (eI x4) (by kernel_rfl) (by kernel_rfl) (cmp3_h (gD aB j9) (gD aB (wR (j9 - (1 : Int)))) _ (jI hx5 hg6)) hO ?_
        intro H hO
        refine jU ?_
        exact ⟨⟨[(0, (.msl 3 lo0p 0 (List.length aB))), (1, (eI a1)), (2, (eI b2)), (3, (.fn (.func cmp3_f) cmp3_a cmp3_c)), (8, (eI i8)), (9, (eI j9)), (34, (aK (decide (x4 < (0 : Int)))))], by kernel_rfl, rfl, ⟨aU.refl _, aU.refl _, aU.refl _, aU.refl _, aU.refl _, aU.refl _, aU.eq (congrArg aK (rZ hg6 rfl).symm), trivial⟩⟩, hO⟩
      refine jU ?_
      exact ⟨⟨[(0, (.msl 3 lo0p 0 (List.length aB))), (1, (eI a1)), (2, (eI b2)), (3, (.fn (.func cmp3_f) cmp3_a cmp3_c)), (8, (eI i8)), (9, (eI j9)), (34, (aK false))], by kernel_rfl, rfl, ⟨aU.refl _, aU.refl _, aU.refl _, aU.refl _, aU.refl _, aU.refl _, aU.eq (congrArg aK (rZ hg6 rfl).symm), trivial⟩⟩, hO⟩
    · rintro T H ⟨hT, hO⟩
      refine cB hT ?_
      clear hT
      refine aI (aG ?_)
      refine bE h2 (fun h2 => ?_) (fun h2 => ?_)
      · refine bF ?_
        refine bD [(0, (.msl 3 lo0p 0 (List.length aB))), (1, (eI a1)), (2, (eI b2)), (3, (.fn (.func cmp3_f) cmp3_a cmp3_c)), (8, (eI i8)), (9, (eI j9))] ?_
        refine aM ?_
        refine bP 3 ?_
        refine fG (fF []) aF 18 ?_
        obtain ⟨c8, h2⟩ := bA h2
        refine cU 9 [0 ≤ (wR (j9 - (1 : Int))) ∧ (wR (j9 - (1 : Int))) < (lN aB)] ⟨c8, trivial⟩ ?_
        refine mC 0 lo0p 3 (0 + Int.toNat (wR (j9 - (1 : Int)))) (aE (gD aB (wR (j9 - (1 : Int))))) (aE (gD aB (wR (j9 - (1 : Int))))) (List.map aE aB) hO (cS c8) ?_
        obtain ⟨c9, h2⟩ := bA h2
        refine cU 13 [0 ≤ j9 ∧ j9 < (lN aB)] ⟨c9, trivial⟩ ?_
        refine mC 0 lo0p 3 (0 + Int.toNat j9) (aE (gD aB j9)) (aE (gD aB j9)) (List.map aE aB) hO (cS c9) ?_
        obtain ⟨c10, h2⟩ := bA h2
        refine cU 15 [0 ≤ j9 ∧ j9 < (lN aB)] ⟨c10, trivial⟩ ?_
        refine wN 0 lo0p 3 (0 + Int.toNat j9) (aE (gD aB j9)) (aE (gD aB (wR (j9 - (1 : Int))))) (List.map aE aB) [(lo0p, 3, List.map aE (List.set aB (Int.toNat j9) (gD aB (wR (j9 - (1 : Int))))))] hO (cS c10) (by simp only [List.set, pJ]) ?_
        intro H hO
        replace hN : List.length (List.set aB (Int.toNat j9) (gD aB (wR (j9 - (1 : Int))))) = N0 := by simpa using hN
        obtain ⟨c11, h2⟩ := bA h2
        refine cU 17 [0 ≤ (wR (j9 - (1 : Int))) ∧ (wR (j9 - (1 : Int))) < (lN aB)] ⟨c11, trivial⟩ ?_
        refine wN 0 lo0p 3 (0 + Int.toNat (wR (j9 - (1 : Int)))) (aE (gD (List.set aB (Int.toNat j9) (gD aB (wR (j9 - (1 : Int))))) (wR (j9 - (1 : Int))))) (aE (gD aB j9)) (List.map aE (List.set aB (Int.toNat j9) (gD aB (wR (j9 - (1 : Int)))))) [(lo0p, 3, List.map aE (List.set (List.set aB (Int.toNat j9) (gD aB (wR (j9 - (1 : Int))))) (Int.toNat (wR (j9 - (1 : Int)))) (gD aB j9)))] hO (zE c11 (by simp [])) (by simp only [List.set, pJ]) ?_
        intro H hO
        replace hN : List.length (List.set (List.set aB (Int.toNat j9) (gD aB (wR (j9 - (1 : Int))))) (Int.toNat (wR (j9 - (1 : Int)))) (gD aB j9)) = N0 := by simpa using hN
        refine DC (by kernel_rfl) ?_
        refine cB (l := [(0, (.msl 3 lo0p 0 (List.length (List.set (List.set aB (Int.toNat j9) (gD aB (wR (j9 - (1 : Int))))) (Int.toNat (wR (j9 - (1 : Int)))) (gD aB j9))))), (1, (eI a1)), (2, (eI b2)), (3, (.fn (.func cmp3_f) cmp3_a cmp3_c)), (8, (eI i8)), (9, (eI j9))]) ⟨[(0, (.msl 3 lo0p 0 (List.length aB))), (1, (eI a1)), (2, (eI b2)), (3, (.fn (.func cmp3_f) cmp3_a cmp3_c)), (8, (eI i8)), (9, (eI j9))], by kernel_rfl, rfl, ⟨aU.eq (by simp []), aU.refl _, aU.refl _, aU.refl _, aU.refl _, aU.refl _, trivial⟩⟩ ?_
        refine aI (aX (aG (?_)))
        refine aS aF 3 ?_
        refine aZ ?_
        exact aI (aG (⟨rfl, _, (oI h2).symm, .eq (by kernel_rfl), hO, hN⟩))
      refine cQ 2 ?_
      obtain rfl := oI h2
      obtain rfl : _ = rr1 := ho1
      replace h1 : eW cmp3 aB a1 b2 i8 = some out1 := h1
      exact aI (aR (aR (bH (aX (aG (⟨rfl, _, .eq (by kernel_rfl), hO, hN, h1⟩))))))
  refine cQ 0 ?_
  obtain rfl := oI h1
  obtain rfl : _ = rr0 := ho0
  replace h0 : some aB = some r := h0
  obtain rfl := oI h0
  exact aI (aR (aR (bH (sY (x := (.tup [])) (by kernel_rfl) (aU.refl _) ⟨rfl, hO.ext, hO.at 0 (by kernel_rfl), by simp only [List.length_map]; exact hN.trans hN0⟩))))

theorem lO (lo0p : Nat) (aB : (List aC)) (a1 : Int) (b2 : Int) (n3 : Int) (cmp4_f : Nat) (cmp4_a cmp4_c : List V) (cmp4 : aC → aC → Option Int) (cmp4_h : ∀ a0 a1 r, cmp4 a0 a1 = some r → bR Tryz.prog cmp4_f (cmp4_a ++ [(aE a0), (aE a1)] ++ cmp4_c) (eI r)) (r : List aC) (h0 : eK aB a1 b2 n3 cmp4 = some r) : lS Tryz.prog 101 lo0p 3 (List.map aE aB) (List.map aE r) [(.msl 3 lo0p 0 (List.length aB)), (eI a1), (eI b2), (eI n3), (.fn (.func cmp4_f) cmp4_a cmp4_c)] (.tup []) := by
  intro H0 hl0
  refine cA Tryz.func101 ?_
  have hO := aL.qF hl0
  clear hl0
  obtain ⟨N0, hN0⟩ : ∃ n, n = List.length aB := ⟨_, rfl⟩
  have hN : List.length aB = N0 := hN0.symm
  unfold eK at h0
  refine aT aF 1 [4] [(10, (eI (0 : Int)))] ?_
  refine bP 0 ?_
  refine cP [(0, (.msl 3 lo0p 0 (List.length aB))), (1, (eI a1)), (2, (eI b2)), (3, (eI n3)), (10, (eI (0 : Int)))] ?_
  refine cE (fun T H => ∃ aB : List aC, ∃ i10 : Int, Has T [(0, (.msl 3 lo0p 0 (List.length aB))), (1, (eI a1)), (2, (eI b2)), (3, (eI n3)), (10, (eI i10))] ∧ aL ⟨H0, [lo0p], []⟩ H [(lo0p, 3, List.map aE aB)] ∧ List.length aB = N0 ∧ lB cmp4 aB a1 b2 n3 i10 = some r) ?_ ⟨aB, (0 : Int), .eq (by kernel_rfl), hO, hN, h0⟩
  clear hO hN h0
  rintro T H ⟨aB, i10, hT, hO, hN, h0⟩
  refine aY hT ?_
  clear hT
  unfold lB at h0
  obtain ⟨rr0, hl0, h0⟩ := aV h0
  refine bU (by kernel_rfl) (fun (s : List aC × Int) T H => Has T [(0, (.msl 3 lo0p 0 (List.length s.1))), (1, (eI a1)), (2, (eI b2)), (3, (eI n3)), (10, (eI s.2))] ∧ aL ⟨H0, [lo0p], []⟩ H [(lo0p, 3, List.map aE s.1)] ∧ List.length s.1 = N0) hl0 ⟨.eq (by kernel_rfl), hO, hN⟩ ?_
  clear hO hN
  rintro k0 s out1 T H ⟨hT, hO, hN⟩ h1 ho0
  obtain ⟨aB, i10⟩ := s
  replace h1 : kJ cmp4 a1 b2 n3 aB i10 = some out1 := h1
  dsimp only at hT
  refine aY hT ?_
  clear hT
  unfold kJ at h1
  refine aM ?_
  refine aT aF 3 [] [(13, (aK (decide (i10 < n3))))] ?_
  refine bE h1 (fun h1 => ?_) (fun h1 => ?_)
  · refine bF ?_
    refine bD [(0, (.msl 3 lo0p 0 (List.length aB))), (1, (eI a1)), (2, (eI b2)), (3, (eI n3)), (10, (eI i10))] ?_
    refine aM ?_
    refine bP 1 ?_
    refine fG (fF []) aF 24 ?_
    obtain ⟨c2, h1⟩ := bA h1
    refine cU 13 [0 ≤ (wR (b2 + i10)) ∧ (wR (b2 + i10)) < (lN aB)] ⟨c2, trivial⟩ ?_
    refine mC 0 lo0p 3 (0 + Int.toNat (wR (b2 + i10))) (aE (gD aB (wR (b2 + i10)))) (aE (gD aB (wR (b2 + i10)))) (List.map aE aB) hO (cS c2) ?_
    obtain ⟨c3, h1⟩ := bA h1
    refine cU 19 [0 ≤ (wR (a1 + i10)) ∧ (wR (a1 + i10)) < (lN aB)] ⟨c3, trivial⟩ ?_
    refine mC 0 lo0p 3 (0 + Int.toNat (wR (a1 + i10))) (aE (gD aB (wR (a1 + i10)))) (aE (gD aB (wR (a1 + i10)))) (List.map aE aB) hO (cS c3) ?_
    obtain ⟨c4, h1⟩ := bA h1
    refine cU 21 [0 ≤ (wR (a1 + i10)) ∧ (wR (a1 + i10)) < (lN aB)] ⟨c4, trivial⟩ ?_
    refine wN 0 lo0p 3 (0 + Int.toNat (wR (a1 + i10))) (aE (gD aB (wR (a1 + i10)))) (aE (gD aB (wR (b2 + i10)))) (List.map aE aB) [(lo0p, 3, List.map aE (List.set aB (Int.toNat (wR (a1 + i10))) (gD aB (wR (b2 + i10)))))] hO (cS c4) (by simp only [List.set, pJ]) ?_
    intro H hO
    replace hN : List.length (List.set aB (Int.toNat (wR (a1 + i10))) (gD aB (wR (b2 + i10)))) = N0 := by simpa using hN
    obtain ⟨c5, h1⟩ := bA h1
    refine cU 23 [0 ≤ (wR (b2 + i10)) ∧ (wR (b2 + i10)) < (lN aB)] ⟨c5, trivial⟩ ?_
    refine wN 0 lo0p 3 (0 + Int.toNat (wR (b2 + i10))) (aE (gD (List.set aB (Int.toNat (wR (a1 + i10))) (gD aB (wR (b2 + i10)))) (wR (b2 + i10)))) (aE (gD aB (wR (a1 + i10)))) (List.map aE (List.set aB (Int.toNat (wR (a1 + i10))) (gD aB (wR (b2 + i10))))) [(lo0p, 3, List.map aE (List.set (List.set aB (Int.toNat (wR (a1 + i10))) (gD aB (wR (b2 + i10)))) (Int.toNat (wR (b2 + i10))) (gD aB (wR (a1 + i10)))))] hO (zE c5 (by simp [])) (by simp only [List.set, pJ]) ?_
    intro H hO
    replace hN : List.length (List.set (List.set aB (Int.toNat (wR (a1 + i10))) (gD aB (wR (b2 + i10)))) (Int.toNat (wR (b2 + i10))) (gD aB (wR (a1 + i10)))) = N0 := by simpa using hN
    refine DC (by kernel_rfl) ?_
    refine cB (l := [(0, (.msl 3 lo0p 0 (List.length (List.set (List.set aB (Int.toNat (wR (a1 + i10))) (gD aB (wR (b2 + i10)))) (Int.toNat (wR (b2 + i10))) (gD aB (wR (a1 + i10))))))), (1, (eI a1)), (2, (eI b2)), (3, (eI n3)), (10, (eI i10))]) ⟨[(0, (.msl 3 lo0p 0 (List.length aB))), (1, (eI a1)), (2, (eI b2)), (3, (eI n3)), (10, (eI i10))], by kernel_rfl, rfl, ⟨aU.eq (by simp []), aU.refl _, aU.refl _, aU.refl _, aU.refl _, trivial⟩⟩ ?_
    refine aI (aX (aG (?_)))
    refine aS aF 3 ?_
    refine aZ ?_
    exact aI (aG (⟨rfl, _, (oI h1).symm, .eq (by kernel_rfl), hO, hN⟩))
  refine cQ 0 ?_
  obtain rfl := oI h1
  obtain rfl : _ = rr0 := ho0
  replace h0 : some aB = some r := h0
  obtain rfl := oI h0
  exact aI (aR (aR (bH (sY (x := (.tup [])) (by kernel_rfl) (aU.refl _) ⟨rfl, hO.ext, hO.at 0 (by kernel_rfl), by simp only [List.length_map]; exact hN.trans hN0⟩))))

theorem zP (lo0p : Nat) (aB : (List aC)) (a1 : Int) (m2 : Int) (b3 : Int) (cmp4_f : Nat) (cmp4_a cmp4_c : List V) (cmp4 : aC → aC → Option Int) (cmp4_h : ∀ a0 a1 r, cmp4 a0 a1 = some r → bR Tryz.prog cmp4_f (cmp4_a ++ [(aE a0), (aE a1)] ++ cmp4_c) (eI r)) (r : List aC) (h0 : mQ aB a1 m2 b3 cmp4 = some r) : lS Tryz.prog 96 lo0p 3 (List.map aE aB) (List.map aE r) [(.msl 3 lo0p 0 (List.length aB)), (eI a1), (eI m2), (eI b3), (.fn (.func cmp4_f) cmp4_a cmp4_c)] (.tup []) := by
  intro H0 hl0
  refine cA Tryz.func96 ?_
  have hO := aL.qF hl0
  clear hl0
  obtain ⟨N0, hN0⟩ : ∃ n, n = List.length aB := ⟨_, rfl⟩
  have hN : List.length aB = N0 := hN0.symm
  unfold mQ at h0
  refine aT aF 4 [1] [(10, (eI (wR (m2 - a1))))] ?_
  refine aT aF 4 [3] [(11, (eI (wR (b3 - m2))))] ?_
  refine cC (fun T H => ∃ aB : List aC, ∃ i10 : Int, Has T [(0, (.msl 3 lo0p 0 (List.length aB))), (2, (eI m2)), (4, (.fn (.func cmp4_f) cmp4_a cmp4_c)), (10, (eI i10))] ∧ aL ⟨H0, [lo0p], []⟩ H [(lo0p, 3, List.map aE aB)] ∧ List.length aB = N0 ∧ iR cmp4 aB m2 i10 = some r) ?_ ?_
  · clear hO hN h0
    rintro T H ⟨aB, i10, hT, hO, hN, h0⟩
    refine aY hT ?_
    clear hT
    unfold iR at h0
    refine aS aF 8 ?_
    refine bK 7 ?_
    obtain ⟨x1, hx2, h0⟩ := aV h0
    refine pL [(lo0p, 3, List.map aE x1)] 0 (lO lo0p aB (wR (m2 - i10)) m2 i10 cmp4_f cmp4_a cmp4_c cmp4 cmp4_h _ hx2) hO ?_
    intro H hO hl3
    simp only [List.length_map] at hl3
    replace hN := hl3.trans hN
    refine dO ?_
    refine cB (l := [(0, (.msl 3 lo0p 0 (List.length x1)))]) ⟨[(0, (.msl 3 lo0p 0 (List.length aB)))], by kernel_rfl, rfl, ⟨aU.eq (by simp [hl3]), trivial⟩⟩ ?_
    obtain rfl := oI h0
    exact aI (sY (x := (.tup [])) (by kernel_rfl) (aU.refl _) ⟨rfl, hO.ext, hO.at 0 (by kernel_rfl), by simp only [List.length_map]; exact hN.trans hN0⟩)
  refine bP 0 ?_
  refine cP [(0, (.msl 3 lo0p 0 (List.length aB))), (2, (eI m2)), (4, (.fn (.func cmp4_f) cmp4_a cmp4_c)), (10, (eI (wR (m2 - a1)))), (11, (eI (wR (b3 - m2))))] ?_
  refine cE (fun T H => ∃ aB : List aC, ∃ i10 : Int, ∃ j11 : Int, Has T [(0, (.msl 3 lo0p 0 (List.length aB))), (2, (eI m2)), (4, (.fn (.func cmp4_f) cmp4_a cmp4_c)), (10, (eI i10)), (11, (eI j11))] ∧ aL ⟨H0, [lo0p], []⟩ H [(lo0p, 3, List.map aE aB)] ∧ List.length aB = N0 ∧ mF cmp4 aB m2 i10 j11 = some r) ?_ ⟨aB, wR (m2 - a1), wR (b3 - m2), .eq (by kernel_rfl), hO, hN, h0⟩
  clear hO hN h0
  rintro T H ⟨aB, i10, j11, hT, hO, hN, h0⟩
  refine aY hT ?_
  clear hT
  unfold mF at h0
  obtain ⟨rr0, hl0, h0⟩ := aV h0
  refine bU (by kernel_rfl) (fun (s : List aC × Int × Int) T H => Has T [(0, (.msl 3 lo0p 0 (List.length s.1))), (2, (eI m2)), (4, (.fn (.func cmp4_f) cmp4_a cmp4_c)), (10, (eI s.2.1)), (11, (eI s.2.2))] ∧ aL ⟨H0, [lo0p], []⟩ H [(lo0p, 3, List.map aE s.1)] ∧ List.length s.1 = N0) hl0 ⟨.eq (by kernel_rfl), hO, hN⟩ ?_
  clear hO hN
  rintro k0 s out1 T H ⟨hT, hO, hN⟩ h1 ho0
  obtain ⟨aB, i10, j11⟩ := s
  replace h1 : mD cmp4 m2 aB i10 j11 = some out1 := h1
  dsimp only at hT
  refine aY hT ?_
  clear hT
  unfold mD at h1
  refine aM ?_
  refine aT aF 3 [] [(20, (aK (!decide (i10 = j11))))] ?_
  refine bE h1 (fun h1 => ?_) (fun h1 => ?_)
  · refine bF ?_
    refine bD [(0, (.msl 3 lo0p 0 (List.length aB))), (2, (eI m2)), (4, (.fn (.func cmp4_f) cmp4_a cmp4_c)), (10, (eI i10)), (11, (eI j11))] ?_
    refine bP 1 ?_
    refine aT aF 3 [] [(23, (aK (decide (j11 < i10))))] ?_
    refine bE h1 (fun h1 => ?_) (fun h1 => ?_)
    · refine aM ?_
      refine aS aF 8 ?_
      refine bK 7 ?_
      obtain ⟨x6, hx7, h1⟩ := aV h1
      refine pL [(lo0p, 3, List.map aE x6)] 0 (lO lo0p aB (wR (m2 - i10)) m2 j11 cmp4_f cmp4_a cmp4_c cmp4 cmp4_h _ hx7) hO ?_
      intro H hO hl8
      simp only [List.length_map] at hl8
      replace hN := hl8.trans hN
      refine dO ?_
      refine cB (l := [(0, (.msl 3 lo0p 0 (List.length x6))), (2, (eI m2)), (4, (.fn (.func cmp4_f) cmp4_a cmp4_c)), (10, (eI i10)), (11, (eI j11))]) ⟨[(0, (.msl 3 lo0p 0 (List.length aB))), (2, (eI m2)), (4, (.fn (.func cmp4_f) cmp4_a cmp4_c)), (10, (eI i10)), (11, (eI j11))], by kernel_rfl, rfl, ⟨aU.eq (by simp [hl8]), aU.refl _, aU.refl _, aU.refl _, aU.refl _, trivial⟩⟩ ?_
      refine aI (aG (?_))
      refine aS aF 4 ?_
      refine aZ ?_
      exact aI (aX (aG (⟨rfl, _, (oI h1).symm, .eq (by kernel_rfl), hO, hN⟩)))
    refine aM ?_
    refine aS aF 12 ?_
    refine bK 11 ?_
    obtain ⟨x9, hx10, h1⟩ := aV h1
    refine pL [(lo0p, 3, List.map aE x9)] 0 (lO lo0p aB (wR (m2 - i10)) (wR ((wR (m2 + j11)) - i10)) i10 cmp4_f cmp4_a cmp4_c cmp4 cmp4_h _ hx10) hO ?_
    intro H hO hl11
    simp only [List.length_map] at hl11
    replace hN := hl11.trans hN
    refine dO ?_
    refine cB (l := [(0, (.msl 3 lo0p 0 (List.length x9))), (2, (eI m2)), (4, (.fn (.func cmp4_f) cmp4_a cmp4_c)), (10, (eI i10)), (11, (eI j11))]) ⟨[(0, (.msl 3 lo0p 0 (List.length aB))), (2, (eI m2)), (4, (.fn (.func cmp4_f) cmp4_a cmp4_c)), (10, (eI i10)), (11, (eI j11))], by kernel_rfl, rfl, ⟨aU.eq (by simp [hl11]), aU.refl _, aU.refl _, aU.refl _, aU.refl _, trivial⟩⟩ ?_
    refine aI (aG (?_))
    refine aS aF 4 ?_
    refine aZ ?_
    exact aI (aX (aG (⟨rfl, _, (oI h1).symm, .eq (by kernel_rfl), hO, hN⟩)))
  refine cQ 0 ?_
  obtain rfl := oI h1
  obtain rfl : _ = rr0 := ho0
  replace h0 : iR cmp4 aB m2 i10 = some r := h0
  exact aI (aR (aR (bH (aG (⟨rfl, _, _, .eq (by kernel_rfl), hO, hN, h0⟩)))))

theorem uV (cmp4_f : Nat) (cmp4_a cmp4_c : List V) (cmp4 : aC → aC → Option Int) (cmp4_h : ∀ a0 a1 r, cmp4 a0 a1 = some r → bR Tryz.prog cmp4_f (cmp4_a ++ [(aE a0), (aE a1)] ++ cmp4_c) (eI r)) (rec : (List aC) → Int → Int → Int → Option (List aC)) (ih : ∀ (lo0p : Nat) (aB : (List aC)) (a1 : Int) (m2 : Int) (b3 : Int) (r : List aC), rec aB a1 m2 b3 = some r → lS Tryz.prog 90 lo0p 3 (List.map aE aB) (List.map aE r) [(.msl 3 lo0p 0 (List.length aB)), (eI a1), (eI m2), (eI b3), (.fn (.func cmp4_f) cmp4_a cmp4_c)] (.tup [])) (lo0p : Nat) (aB : (List aC)) (a1 : Int) (m2 : Int) (b3 : Int) (r : List aC) (h0 : dZ cmp4 rec aB a1 m2 b3 = some r) : lS Tryz.prog 90 lo0p 3 (List.map aE aB) (List.map aE r) [(.msl 3 lo0p 0 (List.length aB)), (eI a1), (eI m2), (eI b3), (.fn (.func cmp4_f) cmp4_a cmp4_c)] (.tup []) := by
  intro H0 hl0
  refine cA Tryz.func90 ?_
  have hO := aL.qF hl0
  clear hl0
  obtain ⟨N0, hN0⟩ : ∃ n, n = List.length aB := ⟨_, rfl⟩
  have hN : List.length aB = N0 := hN0.symm
  unfold dZ at h0
  refine cC (fun T H => ∃ aB : List aC, Has T [(0, (.msl 3 lo0p 0 (List.length aB))), (1, (eI a1)), (2, (eI m2)), (3, (eI b3)), (4, (.fn (.func cmp4_f) cmp4_a cmp4_c))] ∧ aL ⟨H0, [lo0p], []⟩ H [(lo0p, 3, List.map aE aB)] ∧ List.length aB = N0 ∧ lE cmp4 rec aB a1 m2 b3 = some r) ?_ ?_
  · clear hO hN h0
    rintro T H ⟨aB, hT, hO, hN, h0⟩
    refine aY hT ?_
    clear hT
    unfold lE at h0
    refine cC (fun T H => ∃ aB : List aC, Has T [(0, (.msl 3 lo0p 0 (List.length aB))), (1, (eI a1)), (2, (eI m2)), (3, (eI b3)), (4, (.fn (.func cmp4_f) cmp4_a cmp4_c))] ∧ aL ⟨H0, [lo0p], []⟩ H [(lo0p, 3, List.map aE aB)] ∧ List.length aB = N0 ∧ lI cmp4 rec aB a1 m2 b3 = some r) ?_ ?_
    · clear hO hN h0
      rintro T H ⟨aB, hT, hO, hN, h0⟩
      refine aY hT ?_
      clear hT
      unfold lI at h0
      refine aM ?_
      refine aS aF 7 ?_
      obtain ⟨c1, h0⟩ := bA h0
      refine kB [0 ≤ (1 : Int)] ⟨c1, trivial⟩ ?_
      refine bN [] [(18, (eI (wR (Int.fdiv (IntKind.u64.wrap (wR (a1 + b3))) (2 ^ (min (Int.toNat (1 : Int)) 64))))))] ?_
      refine aT aF 4 [] [(19, (eI (wR ((wR (Int.fdiv (IntKind.u64.wrap (wR (a1 + b3))) (2 ^ (min (Int.toNat (1 : Int)) 64)))) + m2))))] ?_
      refine aT aF 2 [] [] ?_
      refine cC (fun T H => ∃ aB : List aC, ∃ bS : Int, ∃ n19 : Int, ∃ aW : Int, ∃ r21 : Int, Has T [(0, (.msl 3 lo0p 0 (List.length aB))), (1, (eI a1)), (2, (eI m2)), (3, (eI b3)), (4, (.fn (.func cmp4_f) cmp4_a cmp4_c)), (18, (eI bS)), (19, (eI n19)), (20, (eI aW)), (21, (eI r21))] ∧ aL ⟨H0, [lo0p], []⟩ H [(lo0p, 3, List.map aE aB)] ∧ List.length aB = N0 ∧ gL cmp4 rec aB a1 m2 b3 bS n19 aW r21 = some r) ?_ ?_
      · clear hO hN h0
        rintro T H ⟨aB, bS, n19, aW, r21, hT, hO, hN, h0⟩
        refine aY hT ?_
        clear hT
        unfold gL at h0
        refine aT aF 3 [] [(22, (eI (wR (n19 - (1 : Int)))))] ?_
        refine cC (fun T H => ∃ aB : List aC, ∃ aW : Int, Has T [(0, (.msl 3 lo0p 0 (List.length aB))), (1, (eI a1)), (2, (eI m2)), (3, (eI b3)), (4, (.fn (.func cmp4_f) cmp4_a cmp4_c)), (18, (eI bS)), (19, (eI n19)), (20, (eI aW))] ∧ aL ⟨H0, [lo0p], []⟩ H [(lo0p, 3, List.map aE aB)] ∧ List.length aB = N0 ∧ gV cmp4 rec aB a1 m2 b3 bS n19 aW = some r) ?_ ?_
        · clear hO hN h0
          rintro T H ⟨aB, aW, hT, hO, hN, h0⟩
          refine aY hT ?_
          clear hT
          unfold gV at h0
          refine aT aF 4 [19] [(24, (eI (wR (n19 - aW))))] ?_
          refine cC (fun T H => ∃ aB : List aC, ∃ eA : Int, Has T [(0, (.msl 3 lo0p 0 (List.length aB))), (1, (eI a1)), (3, (eI b3)), (4, (.fn (.func cmp4_f) cmp4_a cmp4_c)), (18, (eI bS)), (20, (eI aW)), (24, (eI eA))] ∧ aL ⟨H0, [lo0p], []⟩ H [(lo0p, 3, List.map aE aB)] ∧ List.length aB = N0 ∧ gU cmp4 rec aB a1 b3 bS aW eA = some r) ?_ ?_
          · clear hO hN h0
            rintro T H ⟨aB, eA, hT, hO, hN, h0⟩
            refine aY hT ?_
            clear hT
            unfold gU at h0
            refine cC (fun T H => ∃ aB : List aC, Has T [(0, (.msl 3 lo0p 0 (List.length aB))), (3, (eI b3)), (4, (.fn (.func cmp4_f) cmp4_a cmp4_c)), (18, (eI bS)), (24, (eI eA))] ∧ aL ⟨H0, [lo0p], []⟩ H [(lo0p, 3, List.map aE aB)] ∧ List.length aB = N0 ∧ gX cmp4 rec aB b3 bS eA = some r) ?_ ?_
            · clear hO hN h0
              rintro T H ⟨aB, hT, hO, hN, h0⟩
              refine aY hT ?_
              clear hT
              unfold gX at h0
              refine aT aF 8 [] [(213, (aK ((decide (bS < eA)) && (decide (eA < b3)))))] ?_
              refine bE h0 (fun h0 => ?_) (fun h0 => ?_)
              · refine aS aF 6 ?_
                refine bK 5 ?_
                obtain ⟨x3, hx4, h0⟩ := aV h0
                refine pL [(lo0p, 3, List.map aE x3)] 0 (ih lo0p aB bS eA b3 _ hx4) hO ?_
                intro H hO hl5
                simp only [List.length_map] at hl5
                replace hN := hl5.trans hN
                refine dO ?_
                refine cB (l := [(0, (.msl 3 lo0p 0 (List.length x3)))]) ⟨[(0, (.msl 3 lo0p 0 (List.length aB)))], by kernel_rfl, rfl, ⟨aU.eq (by simp [hl5]), trivial⟩⟩ ?_
                obtain rfl := oI h0
                exact aI (sY (x := (.tup [])) (by kernel_rfl) (aU.refl _) ⟨rfl, hO.ext, hO.at 0 (by kernel_rfl), by simp only [List.length_map]; exact hN.trans hN0⟩)
              refine bF ?_
              obtain rfl := oI h0
              exact aI (sY (x := (.tup [])) (by kernel_rfl) (aU.refl _) ⟨rfl, hO.ext, hO.at 0 (by kernel_rfl), by simp only [List.length_map]; exact hN.trans hN0⟩)
            refine aT aF 8 [] [(199, (aK ((decide (a1 < aW)) && (decide (aW < bS)))))] ?_
            refine bE h0 (fun h0 => ?_) (fun h0 => ?_)
            · refine aS aF 6 ?_
              refine bK 5 ?_
              obtain ⟨x7, hx8, h0⟩ := aV h0
              refine pL [(lo0p, 3, List.map aE x7)] 0 (ih lo0p aB a1 aW bS _ hx8) hO ?_
              intro H hO hl9
              simp only [List.length_map] at hl9
              replace hN := hl9.trans hN
              refine dO ?_
              refine cB (l := [(0, (.msl 3 lo0p 0 (List.length x7))), (3, (eI b3)), (4, (.fn (.func cmp4_f) cmp4_a cmp4_c)), (18, (eI bS)), (24, (eI eA))]) ⟨[(0, (.msl 3 lo0p 0 (List.length aB))), (3, (eI b3)), (4, (.fn (.func cmp4_f) cmp4_a cmp4_c)), (18, (eI bS)), (24, (eI eA))], by kernel_rfl, rfl, ⟨aU.eq (by simp [hl9]), aU.refl _, aU.refl _, aU.refl _, aU.refl _, trivial⟩⟩ ?_
              exact aI (aG (⟨rfl, _, .eq (by kernel_rfl), hO, hN, h0⟩))
            refine bF ?_
            exact aI (aG (⟨rfl, _, .eq (by kernel_rfl), hO, hN, h0⟩))
          refine aT aF 8 [] [(185, (aK ((decide (aW < m2)) && (decide (m2 < (wR (n19 - aW)))))))] ?_
          refine bE h0 (fun h0 => ?_) (fun h0 => ?_)
          · refine aS aF 6 ?_
            refine bK 5 ?_
            obtain ⟨x11, hx12, h0⟩ := aV h0
            refine pL [(lo0p, 3, List.map aE x11)] 0 (zP lo0p aB aW m2 (wR (n19 - aW)) cmp4_f cmp4_a cmp4_c cmp4 cmp4_h _ hx12) hO ?_
            intro H hO hl13
            simp only [List.length_map] at hl13
            replace hN := hl13.trans hN
            refine dO ?_
            refine cB (l := [(0, (.msl 3 lo0p 0 (List.length x11))), (1, (eI a1)), (3, (eI b3)), (4, (.fn (.func cmp4_f) cmp4_a cmp4_c)), (18, (eI bS)), (20, (eI aW)), (24, (eI (wR (n19 - aW))))]) ⟨[(0, (.msl 3 lo0p 0 (List.length aB))), (1, (eI a1)), (3, (eI b3)), (4, (.fn (.func cmp4_f) cmp4_a cmp4_c)), (18, (eI bS)), (20, (eI aW)), (24, (eI (wR (n19 - aW))))], by kernel_rfl, rfl, ⟨aU.eq (by simp [hl13]), aU.refl _, aU.refl _, aU.refl _, aU.refl _, aU.refl _, aU.refl _, trivial⟩⟩ ?_
            exact aI (aG (⟨rfl, _, _, .eq (by kernel_rfl), hO, hN, h0⟩))
          refine bF ?_
          exact aI (aG (⟨rfl, _, _, .eq (by kernel_rfl), hO, hN, h0⟩))
        refine bP 8 ?_
        refine cP [(0, (.msl 3 lo0p 0 (List.length aB))), (1, (eI a1)), (2, (eI m2)), (3, (eI b3)), (4, (.fn (.func cmp4_f) cmp4_a cmp4_c)), (18, (eI bS)), (19, (eI n19)), (20, (eI aW)), (21, (eI r21)), (22, (eI (wR (n19 - (1 : Int)))))] ?_
        refine cE (fun T H => ∃ aB : List aC, ∃ aW : Int, ∃ r21 : Int, ∃ p22 : Int, Has T [(0, (.msl 3 lo0p 0 (List.length aB))), (1, (eI a1)), (2, (eI m2)), (3, (eI b3)), (4, (.fn (.func cmp4_f) cmp4_a cmp4_c)), (18, (eI bS)), (19, (eI n19)), (20, (eI aW)), (21, (eI r21)), (22, (eI p22))] ∧ aL ⟨H0, [lo0p], []⟩ H [(lo0p, 3, List.map aE aB)] ∧ List.length aB = N0 ∧ lF cmp4 rec aB a1 m2 b3 bS n19 aW r21 p22 = some r) ?_ ⟨aB, aW, r21, wR (n19 - (1 : Int)), .eq (by kernel_rfl), hO, hN, h0⟩
        clear hO hN h0
        rintro T H ⟨aB, aW, r21, p22, hT, hO, hN, h0⟩
        refine aY hT ?_
        clear hT
        unfold lF at h0
        obtain ⟨rr0, hl0, h0⟩ := aV h0
        refine bU (by kernel_rfl) (fun (s : List aC × Int × Int) T H => Has T [(0, (.msl 3 lo0p 0 (List.length s.1))), (1, (eI a1)), (2, (eI m2)), (3, (eI b3)), (4, (.fn (.func cmp4_f) cmp4_a cmp4_c)), (18, (eI bS)), (19, (eI n19)), (20, (eI s.2.1)), (21, (eI s.2.2)), (22, (eI p22))] ∧ aL ⟨H0, [lo0p], []⟩ H [(lo0p, 3, List.map aE s.1)] ∧ List.length s.1 = N0) hl0 ⟨.eq (by kernel_rfl), hO, hN⟩ ?_
        clear hO hN
        rintro k0 s out1 T H ⟨hT, hO, hN⟩ h1 ho0
        obtain ⟨aB, aW, r21⟩ := s
        replace h1 : lQ cmp4 rec a1 m2 b3 bS n19 p22 aB aW r21 = some out1 := h1
        dsimp only at hT
        refine aY hT ?_
        clear hT
        unfold lQ at h1
        refine aM ?_
        refine aT aF 3 [] [(151, (aK (decide (aW < r21))))] ?_
        refine bE h1 (fun h1 => ?_) (fun h1 => ?_)
        · refine bF ?_
          refine bD [(0, (.msl 3 lo0p 0 (List.length aB))), (1, (eI a1)), (2, (eI m2)), (3, (eI b3)), (4, (.fn (.func cmp4_f) cmp4_a cmp4_c)), (18, (eI bS)), (19, (eI n19)), (20, (eI aW)), (21, (eI r21)), (22, (eI p22))] ?_
          refine bP 9 ?_
          refine aM ?_
          refine aS aF 7 ?_
          obtain ⟨c15, h1⟩ := bA h1
          refine kB [0 ≤ (1 : Int)] ⟨c15, trivial⟩ ?_
          refine bN [] [(23, (eI (wR (Int.fdiv (IntKind.u64.wrap (wR (aW + r21))) (2 ^ (min (Int.toNat (1 : Int)) 64))))))] ?_
          refine aM ?_
          refine fG (fF []) aF 14 ?_
          obtain ⟨c16, h1⟩ := bA h1
          refine cU 6 [0 ≤ (wR (p22 - (wR (Int.fdiv (IntKind.u64.wrap (wR (aW + r21))) (2 ^ (min (Int.toNat (1 : Int)) 64)))))) ∧ (wR (p22 - (wR (Int.fdiv (IntKind.u64.wrap (wR (aW + r21))) (2 ^ (min (Int.toNat (1 : Int)) 64)))))) < (lN aB)] ⟨c16, trivial⟩ ?_
          refine mC 0 lo0p 3 (0 + Int.toNat (wR (p22 - (wR (Int.fdiv (IntKind.u64.wrap (wR (aW + r21))) (2 ^ (min (Int.toNat (1 : Int)) 64))))))) (aE (gD aB (wR (p22 - (wR (Int.fdiv (IntKind.u64.wrap (wR (aW + r21))) (2 ^ (min (Int.toNat (1 : Int)) 64)))))))) (aE (gD aB (wR (p22 - (wR (Int.fdiv (IntKind.u64.wrap (wR (aW + r21))) (2 ^ (min (Int.toNat (1 : Int)) 64)))))))) (List.map aE aB) hO (cS c16) ?_
          obtain ⟨c17, h1⟩ := bA h1
          refine cU 10 [0 ≤ (wR (Int.fdiv (IntKind.u64.wrap (wR (aW + r21))) (2 ^ (min (Int.toNat (1 : Int)) 64)))) ∧ (wR (Int.fdiv (IntKind.u64.wrap (wR (aW + r21))) (2 ^ (min (Int.toNat (1 : Int)) 64)))) < (lN aB)] ⟨c17, trivial⟩ ?_
          refine mC 0 lo0p 3 (0 + Int.toNat (wR (Int.fdiv (IntKind.u64.wrap (wR (aW + r21))) (2 ^ (min (Int.toNat (1 : Int)) 64))))) (aE (gD aB (wR (Int.fdiv (IntKind.u64.wrap (wR (aW + r21))) (2 ^ (min (Int.toNat (1 : Int)) 64)))))) (aE (gD aB (wR (Int.fdiv (IntKind.u64.wrap (wR (aW + r21))) (2 ^ (min (Int.toNat (1 : Int)) 64)))))) (List.map aE aB) hO (cS c17) ?_
          obtain ⟨x18, hx19, h1⟩ := aV h1
          refine BC (cmp4_h (gD aB (wR (p22 - (wR (Int.fdiv (IntKind.u64.wrap (wR (aW + r21))) (2 ^ (min (Int.toNat (1 : Int)) 64))))))) (gD aB (wR (Int.fdiv (IntKind.u64.wrap (wR (aW + r21))) (2 ^ (min (Int.toNat (1 : Int)) 64))))) _ hx19) hO ?_
          intro H hO
          refine jU ?_
          refine bN [] [(171, (aK (!(decide (x18 < (0 : Int))))))] ?_
          refine bE h1 (fun h1 => ?_) (fun h1 => ?_)
          · refine aS aF 3 ?_
            refine aZ ?_
            exact aI (aX (aG (⟨rfl, _, (oI h1).symm, .eq (by kernel_rfl), hO, hN⟩)))
          refine aS aF 2 ?_
          refine aZ ?_
          exact aI (aX (aG (⟨rfl, _, (oI h1).symm, .eq (by kernel_rfl), hO, hN⟩)))
        refine cQ 8 ?_
        obtain rfl := oI h1
        obtain rfl : _ = rr0 := ho0
        replace h0 : gV cmp4 rec aB a1 m2 b3 bS n19 aW = some r := h0
        exact aI (aR (aR (bH (aG (⟨rfl, _, _, .eq (by kernel_rfl), hO, hN, h0⟩)))))
      refine aT aF 3 [] [(140, (aK (decide ((wR (Int.fdiv (IntKind.u64.wrap (wR (a1 + b3))) (2 ^ (min (Int.toNat (1 : Int)) 64)))) < m2))))] ?_
      refine bE h0 (fun h0 => ?_) (fun h0 => ?_)
      · refine bO aF 4 [(0, (.msl 3 lo0p 0 (List.length aB))), (1, (eI a1)), (2, (eI m2)), (3, (eI b3)), (4, (.fn (.func cmp4_f) cmp4_a cmp4_c)), (18, (eI (wR (Int.fdiv (IntKind.u64.wrap (wR (a1 + b3))) (2 ^ (min (Int.toNat (1 : Int)) 64)))))), (19, (eI (wR ((wR (Int.fdiv (IntKind.u64.wrap (wR (a1 + b3))) (2 ^ (min (Int.toNat (1 : Int)) 64)))) + m2)))), (20, (eI (wR ((wR ((wR (Int.fdiv (IntKind.u64.wrap (wR (a1 + b3))) (2 ^ (min (Int.toNat (1 : Int)) 64)))) + m2)) - b3))))] ?_
        refine aS aF 2 ?_
        refine aZ ?_
        exact aI (aG (⟨rfl, _, _, _, _, _, .eq (by kernel_rfl), hO, hN, h0⟩))
      refine bO aF 2 [(0, (.msl 3 lo0p 0 (List.length aB))), (1, (eI a1)), (2, (eI m2)), (3, (eI b3)), (4, (.fn (.func cmp4_f) cmp4_a cmp4_c)), (18, (eI (wR (Int.fdiv (IntKind.u64.wrap (wR (a1 + b3))) (2 ^ (min (Int.toNat (1 : Int)) 64)))))), (19, (eI (wR ((wR (Int.fdiv (IntKind.u64.wrap (wR (a1 + b3))) (2 ^ (min (Int.toNat (1 : Int)) 64)))) + m2)))), (20, (eI a1))] ?_
      refine aS aF 2 ?_
      refine aZ ?_
      exact aI (aG (⟨rfl, _, _, _, _, _, .eq (by kernel_rfl), hO, hN, h0⟩))
    refine aT aF 4 [] [(80, (aK (decide ((wR (b3 - m2)) = (1 : Int)))))] ?_
    refine bE h0 (fun h0 => ?_) (fun h0 => ?_)
    · refine aT aF 2 [1, 3, 80] [(14, (eI a1))] ?_
      refine aT aF 2 [] [(15, (eI m2))] ?_
      refine cC (fun T H => ∃ aB : List aC, ∃ i14 : Int, Has T [(0, (.msl 3 lo0p 0 (List.length aB))), (2, (eI m2)), (14, (eI i14))] ∧ aL ⟨H0, [lo0p], []⟩ H [(lo0p, 3, List.map aE aB)] ∧ List.length aB = N0 ∧ gR cmp4 rec aB m2 i14 = some r) ?_ ?_
      · clear hO hN h0
        rintro T H ⟨aB, i14, hT, hO, hN, h0⟩
        refine aY hT ?_
        clear hT
        unfold gR at h0
        refine cC (fun T H => ∃ aB : List aC, Has T [(0, (.msl 3 lo0p 0 (List.length aB)))] ∧ aL ⟨H0, [lo0p], []⟩ H [(lo0p, 3, List.map aE aB)] ∧ List.length aB = N0 ∧ gN cmp4 rec aB = some r) ?_ ?_
        · clear hO hN h0
          rintro T H ⟨aB, hT, hO, hN, h0⟩
          refine aY hT ?_
          clear hT
          unfold gN at h0
          refine bG ?_
          obtain rfl := oI h0
          exact aI (aP (qQ (x := (.tup [])) (by kernel_rfl) (aU.refl _) ⟨rfl, hO.ext, hO.at 0 (by kernel_rfl), by simp only [List.length_map]; exact hN.trans hN0⟩))
        refine aT aF 2 [2] [(17, (eI m2))] ?_
        refine bP 6 ?_
        refine cP [(0, (.msl 3 lo0p 0 (List.length aB))), (14, (eI i14)), (17, (eI m2))] ?_
        refine cE (fun T H => ∃ aB : List aC, ∃ k17 : Int, Has T [(0, (.msl 3 lo0p 0 (List.length aB))), (14, (eI i14)), (17, (eI k17))] ∧ aL ⟨H0, [lo0p], []⟩ H [(lo0p, 3, List.map aE aB)] ∧ List.length aB = N0 ∧ kV cmp4 rec aB i14 k17 = some r) ?_ ⟨aB, m2, .eq (by kernel_rfl), hO, hN, h0⟩
        clear hO hN h0
        rintro T H ⟨aB, k17, hT, hO, hN, h0⟩
        refine aY hT ?_
        clear hT
        unfold kV at h0
        obtain ⟨rr0, hl0, h0⟩ := aV h0
        refine bU (by kernel_rfl) (fun (s : List aC × Int) T H => Has T [(0, (.msl 3 lo0p 0 (List.length s.1))), (14, (eI i14)), (17, (eI s.2))] ∧ aL ⟨H0, [lo0p], []⟩ H [(lo0p, 3, List.map aE s.1)] ∧ List.length s.1 = N0) hl0 ⟨.eq (by kernel_rfl), hO, hN⟩ ?_
        clear hO hN
        rintro k0 s out1 T H ⟨hT, hO, hN⟩ h1 ho0
        obtain ⟨aB, k17⟩ := s
        replace h1 : kH cmp4 rec i14 aB k17 = some out1 := h1
        dsimp only at hT
        refine aY hT ?_
        clear hT
        unfold kH at h1
        refine aM ?_
        refine aT aF 3 [] [(110, (aK (decide (i14 < k17))))] ?_
        refine bE h1 (fun h1 => ?_) (fun h1 => ?_)
        · refine bF ?_
          refine bD [(0, (.msl 3 lo0p 0 (List.length aB))), (14, (eI i14)), (17, (eI k17))] ?_
          refine aM ?_
          refine bP 7 ?_
          refine fG (fF []) aF 18 ?_
          obtain ⟨c25, h1⟩ := bA h1
          refine cU 9 [0 ≤ (wR (k17 - (1 : Int))) ∧ (wR (k17 - (1 : Int))) < (lN aB)] ⟨c25, trivial⟩ ?_
          refine mC 0 lo0p 3 (0 + Int.toNat (wR (k17 - (1 : Int)))) (aE (gD aB (wR (k17 - (1 : Int))))) (aE (gD aB (wR (k17 - (1 : Int))))) (List.map aE aB) hO (cS c25) ?_
          obtain ⟨c26, h1⟩ := bA h1
          refine cU 13 [0 ≤ k17 ∧ k17 < (lN aB)] ⟨c26, trivial⟩ ?_
          refine mC 0 lo0p 3 (0 + Int.toNat k17) (aE (gD aB k17)) (aE (gD aB k17)) (List.map aE aB) hO (cS c26) ?_
          obtain ⟨c27, h1⟩ := bA h1
          refine cU 15 [0 ≤ k17 ∧ k17 < (lN aB)] ⟨c27, trivial⟩ ?_
          refine wN 0 lo0p 3 (0 + Int.toNat k17) (aE (gD aB k17)) (aE (gD aB (wR (k17 - (1 : Int))))) (List.map aE aB) [(lo0p, 3, List.map aE (List.set aB (Int.toNat k17) (gD aB (wR (k17 - (1 : Int))))))] hO (cS c27) (by simp only [List.set, pJ]) ?_
          intro H hO
          replace hN : List.length (List.set aB (Int.toNat k17) (gD aB (wR (k17 - (1 : Int))))) = N0 := by simpa using hN
          obtain ⟨c28, h1⟩ := bA h1
          refine cU 17 [0 ≤ (wR (k17 - (1 : Int))) ∧ (wR (k17 - (1 : Int))) < (lN aB)] ⟨c28, trivial⟩ ?_
          refine wN 0 lo0p 3 (0 + Int.toNat (wR (k17 - (1 : Int)))) (aE (gD (List.set aB (Int.toNat k17) (gD aB (wR (k17 - (1 : Int))))) (wR (k17 - (1 : Int))))) (aE (gD aB k17)) (List.map aE (List.set aB (Int.toNat k17) (gD aB (wR (k17 - (1 : Int)))))) [(lo0p, 3, List.map aE (List.set (List.set aB (Int.toNat k17) (gD aB (wR (k17 - (1 : Int))))) (Int.toNat (wR (k17 - (1 : Int)))) (gD aB k17)))] hO (zE c28 (by simp [])) (by simp only [List.set, pJ]) ?_
          intro H hO
          replace hN : List.length (List.set (List.set aB (Int.toNat k17) (gD aB (wR (k17 - (1 : Int))))) (Int.toNat (wR (k17 - (1 : Int)))) (gD aB k17)) = N0 := by simpa using hN
          refine DC (by kernel_rfl) ?_
          refine cB (l := [(0, (.msl 3 lo0p 0 (List.length (List.set (List.set aB (Int.toNat k17) (gD aB (wR (k17 - (1 : Int))))) (Int.toNat (wR (k17 - (1 : Int)))) (gD aB k17))))), (14, (eI i14)), (17, (eI k17))]) ⟨[(0, (.msl 3 lo0p 0 (List.length aB))), (14, (eI i14)), (17, (eI k17))], by kernel_rfl, rfl, ⟨aU.eq (by simp []), aU.refl _, aU.refl _, trivial⟩⟩ ?_
          refine aI (aX (aG (?_)))
          refine aS aF 3 ?_
          refine aZ ?_
          exact aI (aG (⟨rfl, _, (oI h1).symm, .eq (by kernel_rfl), hO, hN⟩))
        refine cQ 6 ?_
        obtain rfl := oI h1
        obtain rfl : _ = rr0 := ho0
        replace h0 : gN cmp4 rec aB = some r := h0
        exact aI (aR (aR (bH (aG (⟨rfl, _, .eq (by kernel_rfl), hO, hN, h0⟩)))))
      refine bP 4 ?_
      refine cP [(0, (.msl 3 lo0p 0 (List.length aB))), (2, (eI m2)), (4, (.fn (.func cmp4_f) cmp4_a cmp4_c)), (14, (eI a1)), (15, (eI m2))] ?_
      refine cE (fun T H => ∃ aB : List aC, ∃ i14 : Int, ∃ j15 : Int, Has T [(0, (.msl 3 lo0p 0 (List.length aB))), (2, (eI m2)), (4, (.fn (.func cmp4_f) cmp4_a cmp4_c)), (14, (eI i14)), (15, (eI j15))] ∧ aL ⟨H0, [lo0p], []⟩ H [(lo0p, 3, List.map aE aB)] ∧ List.length aB = N0 ∧ kG cmp4 rec aB m2 i14 j15 = some r) ?_ ⟨aB, a1, m2, .eq (by kernel_rfl), hO, hN, h0⟩
      clear hO hN h0
      rintro T H ⟨aB, i14, j15, hT, hO, hN, h0⟩
      refine aY hT ?_
      clear hT
      unfold kG at h0
      obtain ⟨rr0, hl0, h0⟩ := aV h0
      refine bU (by kernel_rfl) (fun (s : List aC × Int × Int) T H => Has T [(0, (.msl 3 lo0p 0 (List.length s.1))), (2, (eI m2)), (4, (.fn (.func cmp4_f) cmp4_a cmp4_c)), (14, (eI s.2.1)), (15, (eI s.2.2))] ∧ aL ⟨H0, [lo0p], []⟩ H [(lo0p, 3, List.map aE s.1)] ∧ List.length s.1 = N0) hl0 ⟨.eq (by kernel_rfl), hO, hN⟩ ?_
      clear hO hN
      rintro k0 s out1 T H ⟨hT, hO, hN⟩ h1 ho0
      obtain ⟨aB, i14, j15⟩ := s
      replace h1 : kW cmp4 rec m2 aB i14 j15 = some out1 := h1
      dsimp only at hT
      refine aY hT ?_
      clear hT
      unfold kW at h1
      refine aM ?_
      refine aT aF 3 [] [(85, (aK (decide (i14 < j15))))] ?_
      refine bE h1 (fun h1 => ?_) (fun h1 => ?_)
      · refine bF ?_
        refine bD [(0, (.msl 3 lo0p 0 (List.length aB))), (2, (eI m2)), (4, (.fn (.func cmp4_f) cmp4_a cmp4_c)), (14, (eI i14)), (15, (eI j15))] ?_
        refine bP 5 ?_
        refine aM ?_
        refine aS aF 7 ?_
        obtain ⟨c30, h1⟩ := bA h1
        refine kB [0 ≤ (1 : Int)] ⟨c30, trivial⟩ ?_
        refine bN [] [(16, (eI (wR (Int.fdiv (IntKind.u64.wrap (wR (i14 + j15))) (2 ^ (min (Int.toNat (1 : Int)) 64))))))] ?_
        refine aM ?_
        refine fG (fF []) aF 12 ?_
        obtain ⟨c31, h1⟩ := bA h1
        refine cU 4 [0 ≤ m2 ∧ m2 < (lN aB)] ⟨c31, trivial⟩ ?_
        refine mC 0 lo0p 3 (0 + Int.toNat m2) (aE (gD aB m2)) (aE (gD aB m2)) (List.map aE aB) hO (cS c31) ?_
        obtain ⟨c32, h1⟩ := bA h1
        refine cU 8 [0 ≤ (wR (Int.fdiv (IntKind.u64.wrap (wR (i14 + j15))) (2 ^ (min (Int.toNat (1 : Int)) 64)))) ∧ (wR (Int.fdiv (IntKind.u64.wrap (wR (i14 + j15))) (2 ^ (min (Int.toNat (1 : Int)) 64)))) < (lN aB)] ⟨c32, trivial⟩ ?_
        refine mC 0 lo0p 3 (0 + Int.toNat (wR (Int.fdiv (IntKind.u64.wrap (wR (i14 + j15))) (2 ^ (min (Int.toNat (1 : Int)) 64))))) (aE (gD aB (wR (Int.fdiv (IntKind.u64.wrap (wR (i14 + j15))) (2 ^ (min (Int.toNat (1 : Int)) 64)))))) (aE (gD aB (wR (Int.fdiv (IntKind.u64.wrap (wR (i14 + j15))) (2 ^ (min (Int.toNat (1 : Int)) 64)))))) (List.map aE aB) hO (cS c32) ?_
        obtain ⟨x33, hx34, h1⟩ := aV h1
        refine BC (cmp4_h (gD aB m2) (gD aB (wR (Int.fdiv (IntKind.u64.wrap (wR (i14 + j15))) (2 ^ (min (Int.toNat (1 : Int)) 64))))) _ hx34) hO ?_
        intro H hO
        refine jU ?_
        refine bN [] [(103, (aK (!(decide (x33 < (0 : Int))))))] ?_
        refine bE h1 (fun h1 => ?_) (fun h1 => ?_)
        · refine aS aF 3 ?_
          refine aZ ?_
          exact aI (aX (aG (⟨rfl, _, (oI h1).symm, .eq (by kernel_rfl), hO, hN⟩)))
        refine aS aF 2 ?_
        refine aZ ?_
        exact aI (aX (aG (⟨rfl, _, (oI h1).symm, .eq (by kernel_rfl), hO, hN⟩)))
      refine cQ 4 ?_
      obtain rfl := oI h1
      obtain rfl : _ = rr0 := ho0
      replace h0 : gR cmp4 rec aB m2 i14 = some r := h0
      exact aI (aR (aR (bH (aG (⟨rfl, _, _, .eq (by kernel_rfl), hO, hN, h0⟩)))))
    refine bF ?_
    exact aI (aG (⟨rfl, _, .eq (by kernel_rfl), hO, hN, h0⟩))
  refine aT aF 4 [] [(28, (aK (decide ((wR (m2 - a1)) = (1 : Int)))))] ?_
  refine bE h0 (fun h0 => ?_) (fun h0 => ?_)
  · refine aT aF 2 [2, 28] [(10, (eI m2))] ?_
    refine aT aF 2 [3] [(11, (eI b3))] ?_
    refine cC (fun T H => ∃ aB : List aC, ∃ i10 : Int, Has T [(0, (.msl 3 lo0p 0 (List.length aB))), (1, (eI a1)), (10, (eI i10))] ∧ aL ⟨H0, [lo0p], []⟩ H [(lo0p, 3, List.map aE aB)] ∧ List.length aB = N0 ∧ gF cmp4 rec aB a1 i10 = some r) ?_ ?_
    · clear hO hN h0
      rintro T H ⟨aB, i10, hT, hO, hN, h0⟩
      refine aY hT ?_
      clear hT
      unfold gF at h0
      refine cC (fun T H => ∃ aB : List aC, Has T [(0, (.msl 3 lo0p 0 (List.length aB)))] ∧ aL ⟨H0, [lo0p], []⟩ H [(lo0p, 3, List.map aE aB)] ∧ List.length aB = N0 ∧ gG cmp4 rec aB = some r) ?_ ?_
      · clear hO hN h0
        rintro T H ⟨aB, hT, hO, hN, h0⟩
        refine aY hT ?_
        clear hT
        unfold gG at h0
        refine bG ?_
        obtain rfl := oI h0
        exact aI (aP (qQ (x := (.tup [])) (by kernel_rfl) (aU.refl _) ⟨rfl, hO.ext, hO.at 0 (by kernel_rfl), by simp only [List.length_map]; exact hN.trans hN0⟩))
      refine aT aF 2 [1] [(13, (eI a1))] ?_
      refine bP 2 ?_
      refine cP [(0, (.msl 3 lo0p 0 (List.length aB))), (10, (eI i10)), (13, (eI a1))] ?_
      refine cE (fun T H => ∃ aB : List aC, ∃ k13 : Int, Has T [(0, (.msl 3 lo0p 0 (List.length aB))), (10, (eI i10)), (13, (eI k13))] ∧ aL ⟨H0, [lo0p], []⟩ H [(lo0p, 3, List.map aE aB)] ∧ List.length aB = N0 ∧ kZ cmp4 rec aB i10 k13 = some r) ?_ ⟨aB, a1, .eq (by kernel_rfl), hO, hN, h0⟩
      clear hO hN h0
      rintro T H ⟨aB, k13, hT, hO, hN, h0⟩
      refine aY hT ?_
      clear hT
      unfold kZ at h0
      obtain ⟨rr0, hl0, h0⟩ := aV h0
      refine bU (by kernel_rfl) (fun (s : List aC × Int) T H => Has T [(0, (.msl 3 lo0p 0 (List.length s.1))), (10, (eI i10)), (13, (eI s.2))] ∧ aL ⟨H0, [lo0p], []⟩ H [(lo0p, 3, List.map aE s.1)] ∧ List.length s.1 = N0) hl0 ⟨.eq (by kernel_rfl), hO, hN⟩ ?_
      clear hO hN
      rintro k0 s out1 T H ⟨hT, hO, hN⟩ h1 ho0
      obtain ⟨aB, k13⟩ := s
      replace h1 : kS cmp4 rec i10 aB k13 = some out1 := h1
      dsimp only at hT
      refine aY hT ?_
      clear hT
      unfold kS at h1
      refine aM ?_
      refine aT aF 4 [] [(58, (aK (decide (k13 < (wR (i10 - (1 : Int)))))))] ?_
      refine bE h1 (fun h1 => ?_) (fun h1 => ?_)
      · refine bF ?_
        refine bD [(0, (.msl 3 lo0p 0 (List.length aB))), (10, (eI i10)), (13, (eI k13))] ?_
        refine aM ?_
        refine bP 3 ?_
        refine fG (fF []) aF 18 ?_
        obtain ⟨c39, h1⟩ := bA h1
        refine cU 9 [0 ≤ (wR (k13 + (1 : Int))) ∧ (wR (k13 + (1 : Int))) < (lN aB)] ⟨c39, trivial⟩ ?_
        refine mC 0 lo0p 3 (0 + Int.toNat (wR (k13 + (1 : Int)))) (aE (gD aB (wR (k13 + (1 : Int))))) (aE (gD aB (wR (k13 + (1 : Int))))) (List.map aE aB) hO (cS c39) ?_
        obtain ⟨c40, h1⟩ := bA h1
        refine cU 13 [0 ≤ k13 ∧ k13 < (lN aB)] ⟨c40, trivial⟩ ?_
        refine mC 0 lo0p 3 (0 + Int.toNat k13) (aE (gD aB k13)) (aE (gD aB k13)) (List.map aE aB) hO (cS c40) ?_
        obtain ⟨c41, h1⟩ := bA h1
        refine cU 15 [0 ≤ k13 ∧ k13 < (lN aB)] ⟨c41, trivial⟩ ?_
        refine wN 0 lo0p 3 (0 + Int.toNat k13) (aE (gD aB k13)) (aE (gD aB (wR (k13 + (1 : Int))))) (List.map aE aB) [(lo0p, 3, List.map aE (List.set aB (Int.toNat k13) (gD aB (wR (k13 + (1 : Int))))))] hO (cS c41) (by simp only [List.set, pJ]) ?_
        intro H hO
        replace hN : List.length (List.set aB (Int.toNat k13) (gD aB (wR (k13 + (1 : Int))))) = N0 := by simpa using hN
        obtain ⟨c42, h1⟩ := bA h1
        refine cU 17 [0 ≤ (wR (k13 + (1 : Int))) ∧ (wR (k13 + (1 : Int))) < (lN aB)] ⟨c42, trivial⟩ ?_
        refine wN 0 lo0p 3 (0 + Int.toNat (wR (k13 + (1 : Int)))) (aE (gD (List.set aB (Int.toNat k13) (gD aB (wR (k13 + (1 : Int))))) (wR (k13 + (1 : Int))))) (aE (gD aB k13)) (List.map aE (List.set aB (Int.toNat k13) (gD aB (wR (k13 + (1 : Int)))))) [(lo0p, 3, List.map aE (List.set (List.set aB (Int.toNat k13) (gD aB (wR (k13 + (1 : Int))))) (Int.toNat (wR (k13 + (1 : Int)))) (gD aB k13)))] hO (zE c42 (by simp [])) (by simp only [List.set, pJ]) ?_
        intro H hO
        replace hN : List.length (List.set (List.set aB (Int.toNat k13) (gD aB (wR (k13 + (1 : Int))))) (Int.toNat (wR (k13 + (1 : Int)))) (gD aB k13)) = N0 := by simpa using hN
        refine DC (by kernel_rfl) ?_
        refine cB (l := [(0, (.msl 3 lo0p 0 (List.length (List.set (List.set aB (Int.toNat k13) (gD aB (wR (k13 + (1 : Int))))) (Int.toNat (wR (k13 + (1 : Int)))) (gD aB k13))))), (10, (eI i10)), (13, (eI k13))]) ⟨[(0, (.msl 3 lo0p 0 (List.length aB))), (10, (eI i10)), (13, (eI k13))], by kernel_rfl, rfl, ⟨aU.eq (by simp []), aU.refl _, aU.refl _, trivial⟩⟩ ?_
        refine aI (aX (aG (?_)))
        refine aS aF 3 ?_
        refine aZ ?_
        exact aI (aG (⟨rfl, _, (oI h1).symm, .eq (by kernel_rfl), hO, hN⟩))
      refine cQ 2 ?_
      obtain rfl := oI h1
      obtain rfl : _ = rr0 := ho0
      replace h0 : gG cmp4 rec aB = some r := h0
      exact aI (aR (aR (bH (aG (⟨rfl, _, .eq (by kernel_rfl), hO, hN, h0⟩)))))
    refine bP 0 ?_
    refine cP [(0, (.msl 3 lo0p 0 (List.length aB))), (1, (eI a1)), (4, (.fn (.func cmp4_f) cmp4_a cmp4_c)), (10, (eI m2)), (11, (eI b3))] ?_
    refine cE (fun T H => ∃ aB : List aC, ∃ i10 : Int, ∃ j11 : Int, Has T [(0, (.msl 3 lo0p 0 (List.length aB))), (1, (eI a1)), (4, (.fn (.func cmp4_f) cmp4_a cmp4_c)), (10, (eI i10)), (11, (eI j11))] ∧ aL ⟨H0, [lo0p], []⟩ H [(lo0p, 3, List.map aE aB)] ∧ List.length aB = N0 ∧ lC cmp4 rec aB a1 i10 j11 = some r) ?_ ⟨aB, m2, b3, .eq (by kernel_rfl), hO, hN, h0⟩
    clear hO hN h0
    rintro T H ⟨aB, i10, j11, hT, hO, hN, h0⟩
    refine aY hT ?_
    clear hT
    unfold lC at h0
    obtain ⟨rr0, hl0, h0⟩ := aV h0
    refine bU (by kernel_rfl) (fun (s : List aC × Int × Int) T H => Has T [(0, (.msl 3 lo0p 0 (List.length s.1))), (1, (eI a1)), (4, (.fn (.func cmp4_f) cmp4_a cmp4_c)), (10, (eI s.2.1)), (11, (eI s.2.2))] ∧ aL ⟨H0, [lo0p], []⟩ H [(lo0p, 3, List.map aE s.1)] ∧ List.length s.1 = N0) hl0 ⟨.eq (by kernel_rfl), hO, hN⟩ ?_
    clear hO hN
    rintro k0 s out1 T H ⟨hT, hO, hN⟩ h1 ho0
    obtain ⟨aB, i10, j11⟩ := s
    replace h1 : kK cmp4 rec a1 aB i10 j11 = some out1 := h1
    dsimp only at hT
    refine aY hT ?_
    clear hT
    unfold kK at h1
    refine aM ?_
    refine aT aF 3 [] [(33, (aK (decide (i10 < j11))))] ?_
    refine bE h1 (fun h1 => ?_) (fun h1 => ?_)
    · refine bF ?_
      refine bD [(0, (.msl 3 lo0p 0 (List.length aB))), (1, (eI a1)), (4, (.fn (.func cmp4_f) cmp4_a cmp4_c)), (10, (eI i10)), (11, (eI j11))] ?_
      refine bP 1 ?_
      refine aM ?_
      refine aS aF 7 ?_
      obtain ⟨c44, h1⟩ := bA h1
      refine kB [0 ≤ (1 : Int)] ⟨c44, trivial⟩ ?_
      refine bN [] [(12, (eI (wR (Int.fdiv (IntKind.u64.wrap (wR (i10 + j11))) (2 ^ (min (Int.toNat (1 : Int)) 64))))))] ?_
      refine aM ?_
      refine fG (fF []) aF 11 ?_
      obtain ⟨c45, h1⟩ := bA h1
      refine cU 4 [0 ≤ (wR (Int.fdiv (IntKind.u64.wrap (wR (i10 + j11))) (2 ^ (min (Int.toNat (1 : Int)) 64)))) ∧ (wR (Int.fdiv (IntKind.u64.wrap (wR (i10 + j11))) (2 ^ (min (Int.toNat (1 : Int)) 64)))) < (lN aB)] ⟨c45, trivial⟩ ?_
      refine mC 0 lo0p 3 (0 + Int.toNat (wR (Int.fdiv (IntKind.u64.wrap (wR (i10 + j11))) (2 ^ (min (Int.toNat (1 : Int)) 64))))) (aE (gD aB (wR (Int.fdiv (IntKind.u64.wrap (wR (i10 + j11))) (2 ^ (min (Int.toNat (1 : Int)) 64)))))) (aE (gD aB (wR (Int.fdiv (IntKind.u64.wrap (wR (i10 + j11))) (2 ^ (min (Int.toNat (1 : Int)) 64)))))) (List.map aE aB) hO (cS c45) ?_
      obtain ⟨c46, h1⟩ := bA h1
      refine cU 8 [0 ≤ a1 ∧ a1 < (lN aB)] ⟨c46, trivial⟩ ?_
      refine mC 0 lo0p 3 (0 + Int.toNat a1) (aE (gD aB a1)) (aE (gD aB a1)) (List.map aE aB) hO (cS c46) ?_
      obtain ⟨x47, hx48, h1⟩ := aV h1
      refine BC (cmp4_h (gD aB (wR (Int.fdiv (IntKind.u64.wrap (wR (i10 + j11))) (2 ^ (min (Int.toNat (1 : Int)) 64))))) (gD aB a1) _ hx48) hO ?_
      intro H hO
      refine jU ?_
      refine bN [] [(50, (aK (decide (x47 < (0 : Int)))))] ?_
      refine bE h1 (fun h1 => ?_) (fun h1 => ?_)
      · refine aS aF 3 ?_
        refine aZ ?_
        exact aI (aX (aG (⟨rfl, _, (oI h1).symm, .eq (by kernel_rfl), hO, hN⟩)))
      refine aS aF 2 ?_
      refine aZ ?_
      exact aI (aX (aG (⟨rfl, _, (oI h1).symm, .eq (by kernel_rfl), hO, hN⟩)))
    refine cQ 0 ?_
    obtain rfl := oI h1
    obtain rfl : _ = rr0 := ho0
    replace h0 : gF cmp4 rec aB a1 i10 = some r := h0
    exact aI (aR (aR (bH (aG (⟨rfl, _, _, .eq (by kernel_rfl), hO, hN, h0⟩)))))
  refine bF ?_
  exact aI (aG (⟨rfl, _, .eq (by kernel_rfl), hO, hN, h0⟩))

theorem oQ (cmp4_f : Nat) (cmp4_a cmp4_c : List V) (cmp4 : aC → aC → Option Int) (cmp4_h : ∀ a0 a1 r, cmp4 a0 a1 = some r → bR Tryz.prog cmp4_f (cmp4_a ++ [(aE a0), (aE a1)] ++ cmp4_c) (eI r)) : ∀ (k : Nat) (lo0p : Nat) (aB : (List aC)) (a1 : Int) (m2 : Int) (b3 : Int) (r : List aC), gY cmp4 k aB a1 m2 b3 = some r → lS Tryz.prog 90 lo0p 3 (List.map aE aB) (List.map aE r) [(.msl 3 lo0p 0 (List.length aB)), (eI a1), (eI m2), (eI b3), (.fn (.func cmp4_f) cmp4_a cmp4_c)] (.tup [])
  | 0, _, _, _, _, _, _, h => by cases h
  | k + 1, lo0p, aB, a1, m2, b3, r, h => uV cmp4_f cmp4_a cmp4_c cmp4 cmp4_h _ (oQ cmp4_f cmp4_a cmp4_c cmp4 cmp4_h k) lo0p aB a1 m2 b3 r h

theorem pU (lo0p : Nat) (aB : (List aC)) (a1 : Int) (m2 : Int) (b3 : Int) (cmp4_f : Nat) (cmp4_a cmp4_c : List V) (cmp4 : aC → aC → Option Int) (cmp4_h : ∀ a0 a1 r, cmp4 a0 a1 = some r → bR Tryz.prog cmp4_f (cmp4_a ++ [(aE a0), (aE a1)] ++ cmp4_c) (eI r)) (r : List aC) (h0 : eP aB a1 m2 b3 cmp4 = some r) : lS Tryz.prog 90 lo0p 3 (List.map aE aB) (List.map aE r) [(.msl 3 lo0p 0 (List.length aB)), (eI a1), (eI m2), (eI b3), (.fn (.func cmp4_f) cmp4_a cmp4_c)] (.tup []) := by
  obtain ⟨k, hk⟩ := JI h0
  exact oQ cmp4_f cmp4_a cmp4_c cmp4 cmp4_h k lo0p aB a1 m2 b3 r hk

theorem zN (lo0p : Nat) (aB : (List aC)) (n1 : Int) (cmp2_f : Nat) (cmp2_a cmp2_c : List V) (cmp2 : aC → aC → Option Int) (cmp2_h : ∀ a0 a1 r, cmp2 a0 a1 = some r → bR Tryz.prog cmp2_f (cmp2_a ++ [(aE a0), (aE a1)] ++ cmp2_c) (eI r)) (r : List aC) (h0 : fK aB n1 cmp2 = some r) : lS Tryz.prog 71 lo0p 3 (List.map aE aB) (List.map aE r) [(.msl 3 lo0p 0 (List.length aB)), (eI n1), (.fn (.func cmp2_f) cmp2_a cmp2_c)] (.tup []) := by
  intro H0 hl0
  refine cA Tryz.func71 ?_
  have hO := aL.qF hl0
  clear hl0
  obtain ⟨N0, hN0⟩ : ∃ n, n = List.length aB := ⟨_, rfl⟩
  have hN : List.length aB = N0 := hN0.symm
  unfold fK at h0
  refine aT aF 1 [] [(6, (eI (20 : Int)))] ?_
  refine aT aF 3 [] [(7, (eI (0 : Int))), (8, (eI (20 : Int)))] ?_
  refine cC (fun T H => ∃ aB : List aC, ∃ aO : Int, ∃ a7 : Int, Has T [(0, (.msl 3 lo0p 0 (List.length aB))), (1, (eI n1)), (2, (.fn (.func cmp2_f) cmp2_a cmp2_c)), (6, (eI aO)), (7, (eI a7))] ∧ aL ⟨H0, [lo0p], []⟩ H [(lo0p, 3, List.map aE aB)] ∧ List.length aB = N0 ∧ fA cmp2 aB n1 aO a7 = some r) ?_ ?_
  · clear hO hN h0
    rintro T H ⟨aB, aO, a7, hT, hO, hN, h0⟩
    refine aY hT ?_
    clear hT
    unfold fA at h0
    refine aM ?_
    refine aS aF 5 ?_
    refine bK 4 ?_
    obtain ⟨x1, hx2, h0⟩ := aV h0
    refine pL [(lo0p, 3, List.map aE x1)] 0 (nW lo0p aB a7 n1 cmp2_f cmp2_a cmp2_c cmp2 cmp2_h _ hx2) hO ?_
    intro H hO hl3
    simp only [List.length_map] at hl3
    replace hN := hl3.trans hN
    refine dO ?_
    refine cB (l := [(0, (.msl 3 lo0p 0 (List.length x1))), (1, (eI n1)), (2, (.fn (.func cmp2_f) cmp2_a cmp2_c)), (6, (eI aO))]) ⟨[(0, (.msl 3 lo0p 0 (List.length aB))), (1, (eI n1)), (2, (.fn (.func cmp2_f) cmp2_a cmp2_c)), (6, (eI aO))], by kernel_rfl, rfl, ⟨aU.eq (by simp [hl3]), aU.refl _, aU.refl _, aU.refl _, trivial⟩⟩ ?_
    refine aI (aG (?_))
    refine bP 2 ?_
    refine cP [(0, (.msl 3 lo0p 0 (List.length x1))), (1, (eI n1)), (2, (.fn (.func cmp2_f) cmp2_a cmp2_c)), (6, (eI aO))] ?_
    refine cE (fun T H => ∃ aB : List aC, ∃ aO : Int, Has T [(0, (.msl 3 lo0p 0 (List.length aB))), (1, (eI n1)), (2, (.fn (.func cmp2_f) cmp2_a cmp2_c)), (6, (eI aO))] ∧ aL ⟨H0, [lo0p], []⟩ H [(lo0p, 3, List.map aE aB)] ∧ List.length aB = N0 ∧ iY cmp2 aB n1 aO = some r) ?_ ⟨x1, aO, .eq (by kernel_rfl), hO, hN, h0⟩
    clear hO hN h0
    rintro T H ⟨aB, aO, hT, hO, hN, h0⟩
    refine aY hT ?_
    clear hT
    unfold iY at h0
    obtain ⟨rr0, hl0, h0⟩ := aV h0
    refine bU (by kernel_rfl) (fun (s : List aC × Int) T H => Has T [(0, (.msl 3 lo0p 0 (List.length s.1))), (1, (eI n1)), (2, (.fn (.func cmp2_f) cmp2_a cmp2_c)), (6, (eI s.2))] ∧ aL ⟨H0, [lo0p], []⟩ H [(lo0p, 3, List.map aE s.1)] ∧ List.length s.1 = N0) hl0 ⟨.eq (by kernel_rfl), hO, hN⟩ ?_
    clear hO hN
    rintro k0 s out1 T H ⟨hT, hO, hN⟩ h1 ho0
    obtain ⟨aB, aO⟩ := s
    replace h1 : iJ cmp2 n1 aB aO = some out1 := h1
    dsimp only at hT
    refine aY hT ?_
    clear hT
    unfold iJ at h1
    refine aM ?_
    refine aT aF 3 [] [(30, (aK (decide (aO < n1))))] ?_
    refine bE h1 (fun h1 => ?_) (fun h1 => ?_)
    · refine bF ?_
      refine bD [(0, (.msl 3 lo0p 0 (List.length aB))), (1, (eI n1)), (2, (.fn (.func cmp2_f) cmp2_a cmp2_c)), (6, (eI aO))] ?_
      refine bP 3 ?_
      refine aT aF 4 [] [(7, (eI (0 : Int))), (8, (eI (wR ((2 : Int) * aO))))] ?_
      refine cC (fun T H => ∃ aB : List aC, ∃ a7 : Int, Has T [(0, (.msl 3 lo0p 0 (List.length aB))), (1, (eI n1)), (2, (.fn (.func cmp2_f) cmp2_a cmp2_c)), (6, (eI aO)), (7, (eI a7))] ∧ aL ⟨H0, [lo0p], []⟩ H [(lo0p, 3, List.map aE aB)] ∧ List.length aB = N0 ∧ eX cmp2 aB n1 aO a7 = some out1) ?_ ?_
      · clear hO hN h1
        rintro T H ⟨aB, a7, hT, hO, hN, h1⟩
        refine aY hT ?_
        clear hT
        unfold eX at h1
        refine cC (fun T H => ∃ aB : List aC, Has T [(0, (.msl 3 lo0p 0 (List.length aB))), (1, (eI n1)), (2, (.fn (.func cmp2_f) cmp2_a cmp2_c)), (6, (eI aO))] ∧ aL ⟨H0, [lo0p], []⟩ H [(lo0p, 3, List.map aE aB)] ∧ List.length aB = N0 ∧ iP cmp2 aB n1 aO = some out1) ?_ ?_
        · clear hO hN h1
          rintro T H ⟨aB, hT, hO, hN, h1⟩
          refine aY hT ?_
          clear hT
          unfold iP at h1
          refine aS aF 3 ?_
          refine aZ ?_
          exact aI (aX (aG (⟨rfl, _, (oI h1).symm, .eq (by kernel_rfl), hO, hN⟩)))
        refine aT aF 4 [] [(9, (eI (wR (a7 + aO))))] ?_
        refine aT aF 3 [] [(54, (aK (decide ((wR (a7 + aO)) < n1))))] ?_
        refine bE h1 (fun h1 => ?_) (fun h1 => ?_)
        · refine aS aF 6 ?_
          refine bK 5 ?_
          obtain ⟨x6, hx7, h1⟩ := aV h1
          refine pL [(lo0p, 3, List.map aE x6)] 0 (pU lo0p aB a7 (wR (a7 + aO)) n1 cmp2_f cmp2_a cmp2_c cmp2 cmp2_h _ hx7) hO ?_
          intro H hO hl8
          simp only [List.length_map] at hl8
          replace hN := hl8.trans hN
          refine dO ?_
          refine cB (l := [(0, (.msl 3 lo0p 0 (List.length x6))), (1, (eI n1)), (2, (.fn (.func cmp2_f) cmp2_a cmp2_c)), (6, (eI aO))]) ⟨[(0, (.msl 3 lo0p 0 (List.length aB))), (1, (eI n1)), (2, (.fn (.func cmp2_f) cmp2_a cmp2_c)), (6, (eI aO))], by kernel_rfl, rfl, ⟨aU.eq (by simp [hl8]), aU.refl _, aU.refl _, aU.refl _, trivial⟩⟩ ?_
          exact aI (aG (⟨rfl, _, .eq (by kernel_rfl), hO, hN, h1⟩))
        refine bF ?_
        exact aI (aG (⟨rfl, _, .eq (by kernel_rfl), hO, hN, h1⟩))
      refine bP 4 ?_
      refine cP [(0, (.msl 3 lo0p 0 (List.length aB))), (1, (eI n1)), (2, (.fn (.func cmp2_f) cmp2_a cmp2_c)), (6, (eI aO)), (7, (eI (0 : Int))), (8, (eI (wR ((2 : Int) * aO))))] ?_
      refine cE (fun T H => ∃ aB : List aC, ∃ a7 : Int, ∃ b8 : Int, Has T [(0, (.msl 3 lo0p 0 (List.length aB))), (1, (eI n1)), (2, (.fn (.func cmp2_f) cmp2_a cmp2_c)), (6, (eI aO)), (7, (eI a7)), (8, (eI b8))] ∧ aL ⟨H0, [lo0p], []⟩ H [(lo0p, 3, List.map aE aB)] ∧ List.length aB = N0 ∧ iN cmp2 aB n1 aO a7 b8 = some out1) ?_ ⟨aB, (0 : Int), wR ((2 : Int) * aO), .eq (by kernel_rfl), hO, hN, h1⟩
      clear hO hN h1
      rintro T H ⟨aB, a7, b8, hT, hO, hN, h1⟩
      refine aY hT ?_
      clear hT
      unfold iN at h1
      obtain ⟨rr1, hl1, h1⟩ := aV h1
      refine bU (by kernel_rfl) (fun (s : List aC × Int × Int) T H => Has T [(0, (.msl 3 lo0p 0 (List.length s.1))), (1, (eI n1)), (2, (.fn (.func cmp2_f) cmp2_a cmp2_c)), (6, (eI aO)), (7, (eI s.2.1)), (8, (eI s.2.2))] ∧ aL ⟨H0, [lo0p], []⟩ H [(lo0p, 3, List.map aE s.1)] ∧ List.length s.1 = N0) hl1 ⟨.eq (by kernel_rfl), hO, hN⟩ ?_
      clear hO hN
      rintro k1 s out2 T H ⟨hT, hO, hN⟩ h2 ho1
      obtain ⟨aB, a7, b8⟩ := s
      replace h2 : iE cmp2 n1 aO aB a7 b8 = some out2 := h2
      dsimp only at hT
      refine aY hT ?_
      clear hT
      unfold iE at h2
      refine aM ?_
      refine aT aF 3 [] [(35, (aK (decide (b8 ≤ n1))))] ?_
      refine bE h2 (fun h2 => ?_) (fun h2 => ?_)
      · refine bF ?_
        refine bD [(0, (.msl 3 lo0p 0 (List.length aB))), (1, (eI n1)), (2, (.fn (.func cmp2_f) cmp2_a cmp2_c)), (6, (eI aO)), (7, (eI a7)), (8, (eI b8))] ?_
        refine bP 5 ?_
        refine aM ?_
        refine aS aF 8 ?_
        refine bK 7 ?_
        obtain ⟨x10, hx11, h2⟩ := aV h2
        refine pL [(lo0p, 3, List.map aE x10)] 0 (pU lo0p aB a7 (wR (a7 + aO)) b8 cmp2_f cmp2_a cmp2_c cmp2 cmp2_h _ hx11) hO ?_
        intro H hO hl12
        simp only [List.length_map] at hl12
        replace hN := hl12.trans hN
        refine dO ?_
        refine cB (l := [(0, (.msl 3 lo0p 0 (List.length x10))), (1, (eI n1)), (2, (.fn (.func cmp2_f) cmp2_a cmp2_c)), (6, (eI aO)), (8, (eI b8))]) ⟨[(0, (.msl 3 lo0p 0 (List.length aB))), (1, (eI n1)), (2, (.fn (.func cmp2_f) cmp2_a cmp2_c)), (6, (eI aO)), (8, (eI b8))], by kernel_rfl, rfl, ⟨aU.eq (by simp [hl12]), aU.refl _, aU.refl _, aU.refl _, aU.refl _, trivial⟩⟩ ?_
        refine aI (aG (?_))
        refine aT aF 2 [] [(7, (eI b8))] ?_
        refine aS aF 5 ?_
        refine aZ ?_
        exact aI (aX (aG (⟨rfl, _, (oI h2).symm, .eq (by kernel_rfl), hO, hN⟩)))
      refine cQ 4 ?_
      obtain rfl := oI h2
      obtain rfl : _ = rr1 := ho1
      replace h1 : eX cmp2 aB n1 aO a7 = some out1 := h1
      exact aI (aR (aR (bH (aG (⟨rfl, _, _, .eq (by kernel_rfl), hO, hN, h1⟩)))))
    refine cQ 2 ?_
    obtain rfl := oI h1
    obtain rfl : _ = rr0 := ho0
    replace h0 : some aB = some r := h0
    obtain rfl := oI h0
    exact aI (aR (aR (bH (sY (x := (.tup [])) (by kernel_rfl) (aU.refl _) ⟨rfl, hO.ext, hO.at 0 (by kernel_rfl), by simp only [List.length_map]; exact hN.trans hN0⟩))))
  refine bP 0 ?_
  refine cP [(0, (.msl 3 lo0p 0 (List.length aB))), (1, (eI n1)), (2, (.fn (.func cmp2_f) cmp2_a cmp2_c)), (6, (eI (20 : Int))), (7, (eI (0 : Int))), (8, (eI (20 : Int)))] ?_
  refine cE (fun T H => ∃ aB : List aC, ∃ aO : Int, ∃ a7 : Int, ∃ b8 : Int, Has T [(0, (.msl 3 lo0p 0 (List.length aB))), (1, (eI n1)), (2, (.fn (.func cmp2_f) cmp2_a cmp2_c)), (6, (eI aO)), (7, (eI a7)), (8, (eI b8))] ∧ aL ⟨H0, [lo0p], []⟩ H [(lo0p, 3, List.map aE aB)] ∧ List.length aB = N0 ∧ iF cmp2 aB n1 aO a7 b8 = some r) ?_ ⟨aB, (20 : Int), (0 : Int), (20 : Int), .eq (by kernel_rfl), hO, hN, h0⟩
  clear hO hN h0
  rintro T H ⟨aB, aO, a7, b8, hT, hO, hN, h0⟩
  refine aY hT ?_
  clear hT
  unfold iF at h0
  obtain ⟨rr0, hl0, h0⟩ := aV h0
  refine bU (by kernel_rfl) (fun (s : List aC × Int × Int) T H => Has T [(0, (.msl 3 lo0p 0 (List.length s.1))), (1, (eI n1)), (2, (.fn (.func cmp2_f) cmp2_a cmp2_c)), (6, (eI aO)), (7, (eI s.2.1)), (8, (eI s.2.2))] ∧ aL ⟨H0, [lo0p], []⟩ H [(lo0p, 3, List.map aE s.1)] ∧ List.length s.1 = N0) hl0 ⟨.eq (by kernel_rfl), hO, hN⟩ ?_
  clear hO hN
  rintro k0 s out1 T H ⟨hT, hO, hN⟩ h1 ho0
  obtain ⟨aB, a7, b8⟩ := s
  replace h1 : iU cmp2 n1 aO aB a7 b8 = some out1 := h1
  dsimp only at hT
  refine aY hT ?_
  clear hT
  unfold iU at h1
  refine aM ?_
  refine aT aF 3 [] [(13, (aK (decide (b8 ≤ n1))))] ?_
  refine bE h1 (fun h1 => ?_) (fun h1 => ?_)
  · refine bF ?_
    refine bD [(0, (.msl 3 lo0p 0 (List.length aB))), (1, (eI n1)), (2, (.fn (.func cmp2_f) cmp2_a cmp2_c)), (6, (eI aO)), (7, (eI a7)), (8, (eI b8))] ?_
    refine bP 1 ?_
    refine aM ?_
    refine aS aF 5 ?_
    refine bK 4 ?_
    obtain ⟨x14, hx15, h1⟩ := aV h1
    refine pL [(lo0p, 3, List.map aE x14)] 0 (nW lo0p aB a7 b8 cmp2_f cmp2_a cmp2_c cmp2 cmp2_h _ hx15) hO ?_
    intro H hO hl16
    simp only [List.length_map] at hl16
    replace hN := hl16.trans hN
    refine dO ?_
    refine cB (l := [(0, (.msl 3 lo0p 0 (List.length x14))), (1, (eI n1)), (2, (.fn (.func cmp2_f) cmp2_a cmp2_c)), (6, (eI aO)), (8, (eI b8))]) ⟨[(0, (.msl 3 lo0p 0 (List.length aB))), (1, (eI n1)), (2, (.fn (.func cmp2_f) cmp2_a cmp2_c)), (6, (eI aO)), (8, (eI b8))], by kernel_rfl, rfl, ⟨aU.eq (by simp [hl16]), aU.refl _, aU.refl _, aU.refl _, aU.refl _, trivial⟩⟩ ?_
    refine aI (aG (?_))
    refine aT aF 2 [] [(7, (eI b8))] ?_
    refine aS aF 4 ?_
    refine aZ ?_
    exact aI (aX (aG (⟨rfl, _, (oI h1).symm, .eq (by kernel_rfl), hO, hN⟩)))
  refine cQ 0 ?_
  obtain rfl := oI h1
  obtain rfl : _ = rr0 := ho0
  replace h0 : fA cmp2 aB n1 aO a7 = some r := h0
  exact aI (aR (aR (bH (aG (⟨rfl, _, _, _, .eq (by kernel_rfl), hO, hN, h0⟩)))))

theorem sV (lo0p : Nat) (x0 : (List aC)) (cmp1_f : Nat) (cmp1_a cmp1_c : List V) (cmp1 : aC → aC → Option Int) (cmp1_h : ∀ a0 a1 r, cmp1 a0 a1 = some r → bR Tryz.prog cmp1_f (cmp1_a ++ [(aE a0), (aE a1)] ++ cmp1_c) (eI r)) (r : List aC) (h0 : dH x0 cmp1 = some r) : lS Tryz.prog 43 lo0p 3 (List.map aE x0) (List.map aE r) [(.msl 3 lo0p 0 (List.length x0)), (.fn (.func cmp1_f) cmp1_a cmp1_c)] (.tup []) := by
  intro H0 hl0
  refine cA Tryz.func43 ?_
  have hO := aL.qF hl0
  clear hl0
  obtain ⟨N0, hN0⟩ : ∃ n, n = List.length x0 := ⟨_, rfl⟩
  have hN : List.length x0 = N0 := hN0.symm
  unfold dH at h0
  refine aS aF 5 ?_
  refine bK 4 ?_
  obtain ⟨x1, hx2, h0⟩ := aV h0
  refine pL [(lo0p, 3, List.map aE x1)] 0 (zN lo0p x0 (lN x0) cmp1_f cmp1_a cmp1_c cmp1 cmp1_h _ hx2) hO ?_
  intro H hO hl3
  simp only [List.length_map] at hl3
  replace hN := hl3.trans hN
  refine dO ?_
  refine cB (l := [(0, (.msl 3 lo0p 0 (List.length x1)))]) ⟨[(0, (.msl 3 lo0p 0 (List.length x0)))], by kernel_rfl, rfl, ⟨aU.eq (by simp [hl3]), trivial⟩⟩ ?_
  obtain rfl := oI h0
  exact aI (sY (x := (.tup [])) (by kernel_rfl) (aU.refl _) ⟨rfl, hO.ext, hO.at 0 (by kernel_rfl), by simp only [List.length_map]; exact hN.trans hN0⟩)

theorem NG (t0 : (List aH)) (r : (Int × (List aH))) (h0 : vB t0 = some r) : BV Tryz.prog 73 [(.rp (eL aJ t0))] (fun lo => (.fn (.func 74) [] [(.lp lo 0 0), (.rp (eL aJ r.2))])) 1 [(eI r.1)] := by
  intro H0
  refine cA Tryz.func73 ?_
  have hO := aL.start H0
  unfold vB at h0
  refine aT aF 1 [] [] ?_
  refine aM ?_
  refine aS aF 2 ?_
  refine sX 1 (eI 0) (by kernel_rfl) (by kernel_rfl) hO ?_
  intro lo1 H hO
  refine rT 0 lo1 1 0 (eI 0) (eI (-1 : Int)) [(eI 0)] [(lo1, 1, [(eI (-1 : Int))])] hO rfl (by kernel_rfl) ?_
  intro H hO
  refine dO ?_
  refine bN [] [(2, (.lp lo1 0 0))] ?_
  refine bO aF 2 [(1, (.fn (.func 74) [] [(.lp lo1 0 0), (.rp (eL aJ t0))]))] ?_
  refine bG ?_
  obtain rfl := oI h0
  exact aI (qQ (x := (.fn (.func 74) [] [(.lp lo1 0 0), (.rp (eL aJ t0))])) (by kernel_rfl) (aU.refl _) ⟨lo1, rfl, hO⟩)

theorem uW {σ : Type} (I : σ → Gs → Prop) (s0 : (List aH)) (f1_v : V) (f1 : σ → aH → Option (σ × Bool)) (f1_h : ∀ st a0 st2 r, f1 st a0 = some (st2, r) → SB Tryz.prog f1_v I st [(aJ a0)] st2 (aK r)) (sg0 : σ) (r : (σ × Int)) (h0 : fD s0 f1 sg0 = some r) : FA Tryz.prog 72 I sg0 [(eL aJ s0), f1_v] r.1 (eI r.2) := by
  intro H0 G0 hI hg
  refine cA Tryz.func72 ?_
  obtain ⟨G, hO, hI⟩ : ∃ G, aL ⟨H0, List.map (fun p : Nat × dJ => p.1) G0, G⟩ H0 [] ∧ I sg0 G := ⟨G0, aL.VY hg, hI⟩
  clear hg
  unfold fD at h0
  refine aT aF 1 [] [] ?_
  refine cC (fun T H => ∃ sg : σ, ∃ G : Gs, Has T [] ∧ aL ⟨H0, List.map (fun p : Nat × dJ => p.1) G0, G⟩ H [] ∧ I sg G ∧ dM f1 sg = some r) ?_ ?_
  · clear hO hI h0
    rintro T H ⟨sg, G, hT, hO, hI, h0⟩
    refine aY hT ?_
    clear hT
    unfold dM at h0
    refine bO aF 1 [(4, (eI (-1 : Int)))] ?_
    refine bG ?_
    obtain rfl := oI h0
    exact aI (qQ (x := (eI (-1 : Int))) (by kernel_rfl) (aU.refl _) ⟨rfl, G, hI, hO.WG⟩)
  refine aT aF 3 [] [(7, (eI (lN s0))), (8, (eI (0 : Int)))] ?_
  refine bP 0 ?_
  refine cP [(0, (eL aJ s0)), (1, f1_v), (7, (eI (lN s0))), (8, (eI (0 : Int)))] ?_
  refine cE (fun T H => ∃ sg : σ, ∃ t7 : Int, ∃ t8 : Int, ∃ G : Gs, Has T [(0, (eL aJ s0)), (1, f1_v), (7, (eI t7)), (8, (eI t8))] ∧ aL ⟨H0, List.map (fun p : Nat × dJ => p.1) G0, G⟩ H [] ∧ I sg G ∧ eV f1 sg s0 t7 t8 = some r) ?_ ⟨sg0, (lN s0), (0 : Int), G, .eq (by kernel_rfl), hO, hI, h0⟩
  clear hO hI h0
  rintro T H ⟨sg, t7, t8, G, hT, hO, hI, h0⟩
  refine aY hT ?_
  clear hT
  unfold eV at h0
  obtain ⟨rr0, hl0, h0⟩ := aV h0
  refine bU (by kernel_rfl) (fun (s : σ × Int) T H => ∃ G : Gs, Has T [(0, (eL aJ s0)), (1, f1_v), (7, (eI t7)), (8, (eI s.2))] ∧ aL ⟨H0, List.map (fun p : Nat × dJ => p.1) G0, G⟩ H [] ∧ I s.1 G) hl0 ⟨G, .eq (by kernel_rfl), hO, hI⟩ ?_
  clear hO hI
  rintro k0 s out1 T H ⟨G, hT, hO, hI⟩ h1 ho0
  obtain ⟨sg, t8⟩ := s
  replace h1 : bX f1 s0 t7 sg t8 = some out1 := h1
  dsimp only at hT
  refine aY hT ?_
  clear hT
  unfold bX at h1
  refine aT aF 1 [] [(9, (aK (decide (t8 < t7))))] ?_
  refine aM ?_
  refine bE h1 (fun h1 => ?_) (fun h1 => ?_)
  · refine bF ?_
    refine bD [(0, (eL aJ s0)), (1, f1_v), (7, (eI t7)), (8, (eI t8))] ?_
    refine aM ?_
    refine bP 1 ?_
    refine aT aF 2 [] [(5, (eI t8))] ?_
    refine aM ?_
    refine aS aF 6 ?_
    obtain ⟨c2, h1⟩ := bA h1
    refine mP 5 [0 ≤ t8 ∧ t8 < (lN s0)] ⟨c2, trivial⟩ ?_
    obtain ⟨x3, hx4, h1⟩ := aV h1
    refine XU (I := I) f1_v [(aJ (gD s0 t8))] (aK x3.2) (by kernel_rfl) (by kernel_rfl) (f1_h _ (gD s0 t8) x3.1 x3.2 hx4) hO hI ?_
    intro G H hO hI
    refine dO ?_
    refine bN [] [(16, (aK x3.2))] ?_
    refine bE h1 (fun h1 => ?_) (fun h1 => ?_)
    · refine bO aF 2 [(4, (eI t8))] ?_
      refine bG ?_
      obtain rfl := oI h1
      obtain rfl : _ = rr0 := ho0
      replace h0 : some (x3.1, t8) = some r := h0
      obtain rfl := oI h0
      exact aI (bL (aP (aP (bL (aP (qQ (x := (eI t8)) (by kernel_rfl) (aU.refl _) ⟨rfl, G, hI, hO.WG⟩))))))
    refine bF ?_
    refine cR [(0, (eL aJ s0)), (1, f1_v), (7, (eI t7)), (8, (eI t8))] ?_
    refine aI (aX (aG (?_)))
    refine aS aF 2 ?_
    refine aZ ?_
    exact aI (aG (⟨rfl, _, (oI h1).symm, _, .eq (by kernel_rfl), hO, hI⟩))
  refine cQ 0 ?_
  obtain rfl := oI h1
  obtain rfl : _ = rr0 := ho0
  replace h0 : dM f1 sg = some r := h0
  exact aI (aR (aR (bH (aG (⟨rfl, _, _, .eq (by kernel_rfl), hO, hI, h0⟩)))))

theorem KW (v0 : aH) (lo1p : Nat) (t1 : Int) (t2 : (List aH)) (r : (Bool × Int)) (h0 : jR v0 t1 t2 = some r) : lS Tryz.prog 74 lo1p 1 [(eI t1)] [(eI r.2)] [(aJ v0), (.lp lo1p 0 0), (.rp (eL aJ t2))] (aK r.1) := by
  intro H0 hl0
  refine cA Tryz.func74 ?_
  have hO := aL.qF hl0
  clear hl0
  unfold jR at h0
  refine aM ?_
  refine aS aF 2 ?_
  refine jF 3 (aJ v0) (by kernel_rfl) (by kernel_rfl) ?_
  refine aZ ?_
  refine bN [0] [(3, (.rp (aJ v0)))] ?_
  refine aM ?_
  refine aS aF 3 ?_
  refine BH 0 lo1p 1 0 (eI t1) (eI t1) [(eI t1)] hO rfl ?_
  refine bK 2 ?_
  refine rT 0 lo1p 1 0 (eI t1) (eI (wR (t1 + (1 : Int)))) [(eI t1)] [(lo1p, 1, [(eI (wR (t1 + (1 : Int))))])] hO rfl (by kernel_rfl) ?_
  intro H hO
  refine dO ?_
  refine bN [] [] ?_
  refine aM ?_
  refine fG (fF [7, 8, 11]) aF 7 ?_
  refine sQ 2 ?_
  refine mC 0 lo1p 1 0 (eI (wR (t1 + (1 : Int)))) (eI (wR (t1 + (1 : Int)))) [(eI (wR (t1 + (1 : Int))))] hO rfl ?_
  obtain ⟨c1, h0⟩ := bA h0
  refine BY (Ds := [0 ≤ (wR (t1 + (1 : Int))) ∧ (wR (t1 + (1 : Int))) < (lN t2)]) (by kernel_rfl) ⟨c1, trivial⟩ ?_
  refine bD [(1, (.lp lo1p 0 0)), (4, (aK (!((decide (v0.Kind = ((gD t2 (wR (t1 + (1 : Int)))).Kind))) && ((decide (v0.Num = ((gD t2 (wR (t1 + (1 : Int)))).Num))) && ((oJ v0.Text ((gD t2 (wR (t1 + (1 : Int)))).Text)) && true))))))] ?_
  refine bG ?_
  obtain rfl := oI h0
  exact aI (qQ (x := (aK (!((decide (v0.Kind = ((gD t2 (wR (t1 + (1 : Int)))).Kind))) && ((decide (v0.Num = ((gD t2 (wR (t1 + (1 : Int)))).Num))) && ((oJ v0.Text ((gD t2 (wR (t1 + (1 : Int)))).Text)) && true)))))) (by kernel_rfl) (aU.refl _) ⟨rfl, hO.ext, hO.at 0 (by kernel_rfl), rfl⟩)

theorem EX (x0 : Int) (r : Bool) (h0 : oV x0 = some r) : bR Tryz.prog 76 [(eI x0)] (aK r) := by
  intro H0
  refine cA Tryz.func76 ?_
  have hO := aL.start H0
  unfold oV at h0
  refine aT aF 1 [] [] ?_
  refine bO aF 4 [(2, (aK (!decide (x0 = x0))))] ?_
  refine bG ?_
  obtain rfl := oI h0
  exact aI (Q_r hO)

theorem xD (x0 : Int) (y1 : Int) (r : Int) (h0 : jS x0 y1 = some r) : bR Tryz.prog 47 [(eI x0), (eI y1)] (eI r) := by
  intro H0
  refine cA Tryz.func47 ?_
  have hO := aL.start H0
  unfold jS at h0
  refine aT aF 1 [] [] ?_
  refine aM ?_
  refine aS aF 3 ?_
  refine bK 1 ?_
  obtain ⟨x1, hx2, h0⟩ := aV h0
  refine bW (EX x0 _ hx2) hO ?_
  intro H hO
  refine aZ ?_
  refine bN [] [(5, (aK x1))] ?_
  refine aM ?_
  refine aS aF 3 ?_
  refine bK 1 ?_
  obtain ⟨x4, hx5, h0⟩ := aV h0
  refine bW (EX y1 _ hx5) hO ?_
  intro H hO
  refine aZ ?_
  refine bN [] [(6, (aK x4))] ?_
  refine aM ?_
  refine aT aF 1 [5] [(11, (aK x1))] ?_
  refine bE h0 (fun h0 => ?_) (fun h0 => ?_)
  · refine aM ?_
    refine bO aF 1 [(12, (aK x4))] ?_
    refine bE h0 (fun h0 => ?_) (fun h0 => ?_)
    · refine bO aF 1 [(4, (eI (0 : Int)))] ?_
      refine bG ?_
      obtain rfl := oI h0
      exact aI (aP (aP (Q_r hO)))
    refine bF ?_
    refine bD [] ?_
    refine bO aF 1 [(4, (eI (-1 : Int)))] ?_
    refine bG ?_
    obtain rfl := oI h0
    exact aI (aP (Q_r hO))
  refine bF ?_
  refine bD [(0, (eI x0)), (1, (eI y1)), (6, (aK x4))] ?_
  refine aM ?_
  refine aT aF 1 [6] [(13, (aK x4))] ?_
  refine bE h0 (fun h0 => ?_) (fun h0 => ?_)
  · refine bO aF 1 [(4, (eI (1 : Int)))] ?_
    refine bG ?_
    obtain rfl := oI h0
    exact aI (aP (Q_r hO))
  refine bF ?_
  refine bD [(0, (eI x0)), (1, (eI y1))] ?_
  refine aM ?_
  refine aT aF 3 [] [(16, (aK (decide (x0 < y1))))] ?_
  refine bE h0 (fun h0 => ?_) (fun h0 => ?_)
  · refine bO aF 1 [(4, (eI (-1 : Int)))] ?_
    refine bG ?_
    obtain rfl := oI h0
    exact aI (aP (Q_r hO))
  refine bF ?_
  refine bD [(0, (eI x0)), (1, (eI y1))] ?_
  refine aM ?_
  refine bO aF 3 [(19, (aK (decide (y1 < x0))))] ?_
  refine bE h0 (fun h0 => ?_) (fun h0 => ?_)
  · refine bO aF 1 [(4, (eI (1 : Int)))] ?_
    refine bG ?_
    obtain rfl := oI h0
    exact aI (aP (Q_r hO))
  refine bF ?_
  refine bD [] ?_
  refine bO aF 1 [(4, (eI (0 : Int)))] ?_
  refine bG ?_
  obtain rfl := oI h0
  exact aI (Q_r hO)

theorem wI (x0 : Int) (r : Bool) (h0 : jY x0 = some r) : bR Tryz.prog 97 [(eI x0)] (aK r) := by
  intro H0
  refine cA Tryz.func97 ?_
  have hO := aL.start H0
  unfold jY at h0
  refine aT aF 1 [] [] ?_
  refine bO aF 4 [(2, (aK (!decide (x0 = x0))))] ?_
  refine bG ?_
  obtain rfl := oI h0
  exact aI (Q_r hO)

theorem CU (x0 : Int) (y1 : Int) (r : Int) (h0 : eG x0 y1 = some r) : bR Tryz.prog 91 [(eI x0), (eI y1)] (eI r) := by
  intro H0
  refine cA Tryz.func91 ?_
  have hO := aL.start H0
  unfold eG at h0
  refine aT aF 1 [] [] ?_
  refine aM ?_
  refine aS aF 3 ?_
  refine bK 1 ?_
  obtain ⟨x1, hx2, h0⟩ := aV h0
  refine bW (wI x0 _ hx2) hO ?_
  intro H hO
  refine aZ ?_
  refine bN [] [(5, (aK x1))] ?_
  refine aM ?_
  refine aS aF 3 ?_
  refine bK 1 ?_
  obtain ⟨x4, hx5, h0⟩ := aV h0
  refine bW (wI y1 _ hx5) hO ?_
  intro H hO
  refine aZ ?_
  refine bN [] [(6, (aK x4))] ?_
  refine aM ?_
  refine aT aF 1 [5] [(11, (aK x1))] ?_
  refine bE h0 (fun h0 => ?_) (fun h0 => ?_)
  · refine aM ?_
    refine bO aF 1 [(12, (aK x4))] ?_
    refine bE h0 (fun h0 => ?_) (fun h0 => ?_)
    · refine bO aF 1 [(4, (eI (0 : Int)))] ?_
      refine bG ?_
      obtain rfl := oI h0
      exact aI (aP (aP (Q_r hO)))
    refine bF ?_
    refine bD [] ?_
    refine bO aF 1 [(4, (eI (-1 : Int)))] ?_
    refine bG ?_
    obtain rfl := oI h0
    exact aI (aP (Q_r hO))
  refine bF ?_
  refine bD [(0, (eI x0)), (1, (eI y1)), (6, (aK x4))] ?_
  refine aM ?_
  refine aT aF 1 [6] [(13, (aK x4))] ?_
  refine bE h0 (fun h0 => ?_) (fun h0 => ?_)
  · refine bO aF 1 [(4, (eI (1 : Int)))] ?_
    refine bG ?_
    obtain rfl := oI h0
    exact aI (aP (Q_r hO))
  refine bF ?_
  refine bD [(0, (eI x0)), (1, (eI y1))] ?_
  refine aM ?_
  refine aT aF 3 [] [(16, (aK (decide (x0 < y1))))] ?_
  refine bE h0 (fun h0 => ?_) (fun h0 => ?_)
  · refine bO aF 1 [(4, (eI (-1 : Int)))] ?_
    refine bG ?_
    obtain rfl := oI h0
    exact aI (aP (Q_r hO))
  refine bF ?_
  refine bD [(0, (eI x0)), (1, (eI y1))] ?_
  refine aM ?_
  refine bO aF 3 [(19, (aK (decide (y1 < x0))))] ?_
  refine bE h0 (fun h0 => ?_) (fun h0 => ?_)
  · refine bO aF 1 [(4, (eI (1 : Int)))] ?_
    refine bG ?_
    obtain rfl := oI h0
    exact aI (aP (Q_r hO))
  refine bF ?_
  refine bD [] ?_
  refine bO aF 1 [(4, (eI (0 : Int)))] ?_
  refine bG ?_
  obtain rfl := oI h0
  exact aI (Q_r hO)

theorem yZ (a0 : ByteArray) (b1 : ByteArray) (r : Int) (h0 : iX a0 b1 = some r) : bR Tryz.prog 98 [(BB a0), (BB b1)] (eI r) := by
  intro H0
  refine cA Tryz.func98 ?_
  have hO := aL.start H0
  unfold iX at h0
  refine aT aF 1 [] [] ?_
  refine aM ?_
  refine aS aF 4 ?_
  refine bK 2 ?_
  refine aCH 102 [(BB a0), (BB b1)] (eI (PS a0 b1)) (by kernel_rfl) (by kernel_rfl) (aBH Tryz.func102 (by kernel_rfl) (by kernel_rfl) (by kernel_rfl) (by kernel_rfl) a0 b1) hO ?_
  intro H hO
  refine aZ ?_
  refine bD [(4, (eI (PS a0 b1)))] ?_
  refine bG ?_
  obtain rfl := oI h0
  exact aI (Q_r hO)

theorem KX (a0 : ByteArray) (b1 : ByteArray) (r : Int) (h0 : nE a0 b1 = some r) : bR Tryz.prog 92 [(BB a0), (BB b1)] (eI r) := by
  intro H0
  refine cA Tryz.func92 ?_
  have hO := aL.start H0
  unfold nE at h0
  refine aT aF 1 [] [] ?_
  refine aM ?_
  refine aS aF 4 ?_
  refine bK 2 ?_
  obtain ⟨x1, hx2, h0⟩ := aV h0
  refine bW (yZ a0 b1 _ hx2) hO ?_
  intro H hO
  refine aZ ?_
  refine bD [(4, (eI x1))] ?_
  refine bG ?_
  obtain rfl := oI h0
  exact aI (Q_r hO)

theorem OK (a0 : aH) (b1 : aH) (r : Int) (h0 : rQ a0 b1 = some r) : bR Tryz.prog 75 [(aJ a0), (aJ b1)] (eI r) := by
  intro H0
  refine cA Tryz.func75 ?_
  have hO := aL.start H0
  unfold rQ at h0
  refine aM ?_
  refine aS aF 3 ?_
  refine jF 3 (aJ a0) (by kernel_rfl) (by kernel_rfl) ?_
  refine jF 3 (aJ b1) (by kernel_rfl) (by kernel_rfl) ?_
  refine aZ ?_
  refine bD [(2, (.rp (aJ a0))), (3, (.rp (aJ b1)))] ?_
  refine aM ?_
  refine aS aF 7 ?_
  refine bK 1 ?_
  obtain ⟨⟨x1_0, x1_1⟩, hx2, h0⟩ := aV h0
  refine bW (AD a0 _ hx2) hO ?_
  intro H hO
  rcases x1_0 with _ | y4 | y5
  · replace h0 : ((mB b1).bind fun (x6_0, x6_1) => match x6_0 with | .none_ => (cond ((!x1_1) || (!x6_1)) (some (0 : Int)) (none)) | .k_number y9 => (cond ((!x1_1) || (!x6_1)) (some (0 : Int)) (some (1 : Int))) | .k_words y10 => (cond ((!x1_1) || (!x6_1)) (some (0 : Int)) (none))) = some r := h0
    refine aZ ?_
    refine bN [2] [(5, (bJ bM.none_)), (6, (aK x1_1))] ?_
    refine aM ?_
    refine aS aF 7 ?_
    refine bK 1 ?_
    obtain ⟨⟨x6_0, x6_1⟩, hx7, h0⟩ := aV h0
    refine bW (AD b1 _ hx7) hO ?_
    intro H hO
    rcases x6_0 with _ | y9 | y10
    · replace h0 : (cond ((!x1_1) || (!x6_1)) (some (0 : Int)) (none)) = some r := h0
      refine aZ ?_
      refine bN [3] [(7, (bJ bM.none_)), (8, (aK x6_1))] ?_
      refine aM ?_
      refine aT aF 6 [6, 8] [(28, (aK ((!x1_1) || (!x6_1))))] ?_
      refine bE h0 (fun h0 => ?_) (fun h0 => ?_)
      · refine bO aF 1 [(4, (eI (0 : Int)))] ?_
        refine bG ?_
        obtain rfl := oI h0
        exact aI (aP (Q_r hO))
      refine bF ?_
      refine bD [(5, (bJ bM.none_)), (7, (bJ bM.none_))] ?_
      refine aT aF 7 [] [(9, (eI 0)), (10, (aK false))] ?_
      refine aT aF 7 [] [(11, (eI 0)), (12, (aK false))] ?_
      refine aM ?_
      refine bP 0 ?_
      refine aT aF 5 [] [(39, (aK false))] ?_
      refine oZ (false) (fun hc12 => ?_) (fun hc12 => ?_)
      · cases hc12
      · refine aT aF 2 [9, 10, 11, 39] [(47, (aK false))] ?_
        refine oZ (false) (fun hc13 => ?_) (fun hc13 => ?_)
        · cases hc13
        · refine bO aF 2 [(5, (bJ bM.none_)), (7, (bJ bM.none_)), (49, (aK false))] ?_
          refine oZ (false) (fun hc14 => ?_) (fun hc14 => ?_)
          · cases hc14
          · refine bF ?_
            refine cR [(5, (bJ bM.none_)), (7, (bJ bM.none_))] ?_
            refine aI (aX (aG (?_)))
            refine aM ?_
            refine fG (fF []) aF 6 ?_
            cases h0
    · replace h0 : (cond ((!x1_1) || (!x6_1)) (some (0 : Int)) (some (1 : Int))) = some r := h0
      refine aZ ?_
      refine bN [3] [(7, (bJ (bM.k_number y9))), (8, (aK x6_1))] ?_
      refine aM ?_
      refine aT aF 6 [6, 8] [(28, (aK ((!x1_1) || (!x6_1))))] ?_
      refine bE h0 (fun h0 => ?_) (fun h0 => ?_)
      · refine bO aF 1 [(4, (eI (0 : Int)))] ?_
        refine bG ?_
        obtain rfl := oI h0
        exact aI (aP (Q_r hO))
      refine bF ?_
      refine bD [(5, (bJ bM.none_)), (7, (bJ (bM.k_number y9)))] ?_
      refine aT aF 7 [] [(9, (eI 0)), (10, (aK false))] ?_
      refine aT aF 7 [] [(11, (eI y9)), (12, (aK true))] ?_
      refine aM ?_
      refine bP 0 ?_
      refine aT aF 5 [] [(39, (aK false))] ?_
      refine oZ (false) (fun hc16 => ?_) (fun hc16 => ?_)
      · cases hc16
      · refine aT aF 2 [9, 10, 11, 39] [(47, (aK false))] ?_
        refine oZ (false) (fun hc17 => ?_) (fun hc17 => ?_)
        · cases hc17
        · refine bO aF 2 [(5, (bJ bM.none_)), (7, (bJ (bM.k_number y9))), (49, (aK true))] ?_
          refine oZ (true) (fun hc18 => ?_) (fun hc18 => ?_)
          · refine bO aF 1 [(4, (eI (1 : Int)))] ?_
            refine bG ?_
            obtain rfl := oI h0
            exact aI (bL (aP (Q_r hO)))
          · cases hc18
    · replace h0 : (cond ((!x1_1) || (!x6_1)) (some (0 : Int)) (none)) = some r := h0
      refine aZ ?_
      refine bN [3] [(7, (bJ (bM.k_words y10))), (8, (aK x6_1))] ?_
      refine aM ?_
      refine aT aF 6 [6, 8] [(28, (aK ((!x1_1) || (!x6_1))))] ?_
      refine bE h0 (fun h0 => ?_) (fun h0 => ?_)
      · refine bO aF 1 [(4, (eI (0 : Int)))] ?_
        refine bG ?_
        obtain rfl := oI h0
        exact aI (aP (Q_r hO))
      refine bF ?_
      refine bD [(5, (bJ bM.none_)), (7, (bJ (bM.k_words y10)))] ?_
      refine aT aF 7 [] [(9, (eI 0)), (10, (aK false))] ?_
      refine aT aF 7 [] [(11, (eI 0)), (12, (aK false))] ?_
      refine aM ?_
      refine bP 0 ?_
      refine aT aF 5 [] [(39, (aK false))] ?_
      refine oZ (false) (fun hc20 => ?_) (fun hc20 => ?_)
      · cases hc20
      · refine aT aF 2 [9, 10, 11, 39] [(47, (aK false))] ?_
        refine oZ (false) (fun hc21 => ?_) (fun hc21 => ?_)
        · cases hc21
        · refine bO aF 2 [(5, (bJ bM.none_)), (7, (bJ (bM.k_words y10))), (49, (aK false))] ?_
          refine oZ (false) (fun hc22 => ?_) (fun hc22 => ?_)
          · cases hc22
          · refine bF ?_
            refine cR [(5, (bJ bM.none_)), (7, (bJ (bM.k_words y10)))] ?_
            refine aI (aX (aG (?_)))
            refine aM ?_
            refine fG (fF []) aF 6 ?_
            cases h0
  · replace h0 : ((mB b1).bind fun (x23_0, x23_1) => match x23_0 with | .none_ => (cond ((!x1_1) || (!x23_1)) (some (0 : Int)) (some (-1 : Int))) | .k_number y26 => (cond ((!x1_1) || (!x23_1)) (some (0 : Int)) ((eG y4 y26).bind fun x33 => some x33)) | .k_words y27 => (cond ((!x1_1) || (!x23_1)) (some (0 : Int)) (some (-1 : Int)))) = some r := h0
    refine aZ ?_
    refine bN [2] [(5, (bJ (bM.k_number y4))), (6, (aK x1_1))] ?_
    refine aM ?_
    refine aS aF 7 ?_
    refine bK 1 ?_
    obtain ⟨⟨x23_0, x23_1⟩, hx24, h0⟩ := aV h0
    refine bW (AD b1 _ hx24) hO ?_
    intro H hO
    rcases x23_0 with _ | y26 | y27
    · replace h0 : (cond ((!x1_1) || (!x23_1)) (some (0 : Int)) (some (-1 : Int))) = some r := h0
      refine aZ ?_
      refine bN [3] [(7, (bJ bM.none_)), (8, (aK x23_1))] ?_
      refine aM ?_
      refine aT aF 6 [6, 8] [(28, (aK ((!x1_1) || (!x23_1))))] ?_
      refine bE h0 (fun h0 => ?_) (fun h0 => ?_)
      · refine bO aF 1 [(4, (eI (0 : Int)))] ?_
        refine bG ?_
        obtain rfl := oI h0
        exact aI (aP (Q_r hO))
      refine bF ?_
      refine bD [(5, (bJ (bM.k_number y4))), (7, (bJ bM.none_))] ?_
      refine aT aF 7 [] [(9, (eI y4)), (10, (aK true))] ?_
      refine aT aF 7 [] [(11, (eI 0)), (12, (aK false))] ?_
      refine aM ?_
      refine bP 0 ?_
      refine aT aF 5 [] [(39, (aK false))] ?_
      refine oZ (false) (fun hc29 => ?_) (fun hc29 => ?_)
      · cases hc29
      · refine aT aF 2 [9, 10, 11, 39] [(47, (aK true))] ?_
        refine oZ (true) (fun hc30 => ?_) (fun hc30 => ?_)
        · refine bO aF 1 [(4, (eI (-1 : Int)))] ?_
          refine bG ?_
          obtain rfl := oI h0
          exact aI (bL (aP (Q_r hO)))
        · cases hc30
    · replace h0 : (cond ((!x1_1) || (!x23_1)) (some (0 : Int)) ((eG y4 y26).bind fun x33 => some x33)) = some r := h0
      refine aZ ?_
      refine bN [3] [(7, (bJ (bM.k_number y26))), (8, (aK x23_1))] ?_
      refine aM ?_
      refine aT aF 6 [6, 8] [(28, (aK ((!x1_1) || (!x23_1))))] ?_
      refine bE h0 (fun h0 => ?_) (fun h0 => ?_)
      · refine bO aF 1 [(4, (eI (0 : Int)))] ?_
        refine bG ?_
        obtain rfl := oI h0
        exact aI (aP (Q_r hO))
      refine bF ?_
      refine bD [(5, (bJ (bM.k_number y4))), (7, (bJ (bM.k_number y26)))] ?_
      refine aT aF 7 [] [(9, (eI y4)), (10, (aK true))] ?_
      refine aT aF 7 [] [(11, (eI y26)), (12, (aK true))] ?_
      refine aM ?_
      refine bP 0 ?_
      refine aT aF 5 [] [(39, (aK true))] ?_
      refine oZ (true) (fun hc32 => ?_) (fun hc32 => ?_)
      · refine aM ?_
        refine aS aF 4 ?_
        refine bK 2 ?_
        obtain ⟨x33, hx34, h0⟩ := aV h0
        refine bW (CU y4 y26 _ hx34) hO ?_
        intro H hO
        refine aZ ?_
        refine bD [(4, (eI x33))] ?_
        refine bG ?_
        obtain rfl := oI h0
        exact aI (bL (aP (Q_r hO)))
      · cases hc32
    · replace h0 : (cond ((!x1_1) || (!x23_1)) (some (0 : Int)) (some (-1 : Int))) = some r := h0
      refine aZ ?_
      refine bN [3] [(7, (bJ (bM.k_words y27))), (8, (aK x23_1))] ?_
      refine aM ?_
      refine aT aF 6 [6, 8] [(28, (aK ((!x1_1) || (!x23_1))))] ?_
      refine bE h0 (fun h0 => ?_) (fun h0 => ?_)
      · refine bO aF 1 [(4, (eI (0 : Int)))] ?_
        refine bG ?_
        obtain rfl := oI h0
        exact aI (aP (Q_r hO))
      refine bF ?_
      refine bD [(5, (bJ (bM.k_number y4))), (7, (bJ (bM.k_words y27)))] ?_
      refine aT aF 7 [] [(9, (eI y4)), (10, (aK true))] ?_
      refine aT aF 7 [] [(11, (eI 0)), (12, (aK false))] ?_
      refine aM ?_
      refine bP 0 ?_
      refine aT aF 5 [] [(39, (aK false))] ?_
      refine oZ (false) (fun hc37 => ?_) (fun hc37 => ?_)
      · cases hc37
      · refine aT aF 2 [9, 10, 11, 39] [(47, (aK true))] ?_
        refine oZ (true) (fun hc38 => ?_) (fun hc38 => ?_)
        · refine bO aF 1 [(4, (eI (-1 : Int)))] ?_
          refine bG ?_
          obtain rfl := oI h0
          exact aI (bL (aP (Q_r hO)))
        · cases hc38
  · replace h0 : ((mB b1).bind fun (x39_0, x39_1) => match x39_0 with | .none_ => (cond ((!x1_1) || (!x39_1)) (some (0 : Int)) (none)) | .k_number y42 => (cond ((!x1_1) || (!x39_1)) (some (0 : Int)) (some (1 : Int))) | .k_words y43 => (cond ((!x1_1) || (!x39_1)) (some (0 : Int)) ((nE y5 y43).bind fun x56 => some x56))) = some r := h0
    refine aZ ?_
    refine bN [2] [(5, (bJ (bM.k_words y5))), (6, (aK x1_1))] ?_
    refine aM ?_
    refine aS aF 7 ?_
    refine bK 1 ?_
    obtain ⟨⟨x39_0, x39_1⟩, hx40, h0⟩ := aV h0
    refine bW (AD b1 _ hx40) hO ?_
    intro H hO
    rcases x39_0 with _ | y42 | y43
    · replace h0 : (cond ((!x1_1) || (!x39_1)) (some (0 : Int)) (none)) = some r := h0
      refine aZ ?_
      refine bN [3] [(7, (bJ bM.none_)), (8, (aK x39_1))] ?_
      refine aM ?_
      refine aT aF 6 [6, 8] [(28, (aK ((!x1_1) || (!x39_1))))] ?_
      refine bE h0 (fun h0 => ?_) (fun h0 => ?_)
      · refine bO aF 1 [(4, (eI (0 : Int)))] ?_
        refine bG ?_
        obtain rfl := oI h0
        exact aI (aP (Q_r hO))
      refine bF ?_
      refine bD [(5, (bJ (bM.k_words y5))), (7, (bJ bM.none_))] ?_
      refine aT aF 7 [] [(9, (eI 0)), (10, (aK false))] ?_
      refine aT aF 7 [] [(11, (eI 0)), (12, (aK false))] ?_
      refine aM ?_
      refine bP 0 ?_
      refine aT aF 5 [] [(39, (aK false))] ?_
      refine oZ (false) (fun hc45 => ?_) (fun hc45 => ?_)
      · cases hc45
      · refine aT aF 2 [9, 10, 11, 39] [(47, (aK false))] ?_
        refine oZ (false) (fun hc46 => ?_) (fun hc46 => ?_)
        · cases hc46
        · refine bO aF 2 [(5, (bJ (bM.k_words y5))), (7, (bJ bM.none_)), (49, (aK false))] ?_
          refine oZ (false) (fun hc47 => ?_) (fun hc47 => ?_)
          · cases hc47
          · refine bF ?_
            refine cR [(5, (bJ (bM.k_words y5))), (7, (bJ bM.none_))] ?_
            refine aI (aX (aG (?_)))
            refine aM ?_
            refine fG (fF []) aF 6 ?_
            cases h0
    · replace h0 : (cond ((!x1_1) || (!x39_1)) (some (0 : Int)) (some (1 : Int))) = some r := h0
      refine aZ ?_
      refine bN [3] [(7, (bJ (bM.k_number y42))), (8, (aK x39_1))] ?_
      refine aM ?_
      refine aT aF 6 [6, 8] [(28, (aK ((!x1_1) || (!x39_1))))] ?_
      refine bE h0 (fun h0 => ?_) (fun h0 => ?_)
      · refine bO aF 1 [(4, (eI (0 : Int)))] ?_
        refine bG ?_
        obtain rfl := oI h0
        exact aI (aP (Q_r hO))
      refine bF ?_
      refine bD [(5, (bJ (bM.k_words y5))), (7, (bJ (bM.k_number y42)))] ?_
      refine aT aF 7 [] [(9, (eI 0)), (10, (aK false))] ?_
      refine aT aF 7 [] [(11, (eI y42)), (12, (aK true))] ?_
      refine aM ?_
      refine bP 0 ?_
      refine aT aF 5 [] [(39, (aK false))] ?_
      refine oZ (false) (fun hc49 => ?_) (fun hc49 => ?_)
      · cases hc49
      · refine aT aF 2 [9, 10, 11, 39] [(47, (aK false))] ?_
        refine oZ (false) (fun hc50 => ?_) (fun hc50 => ?_)
        · cases hc50
        · refine bO aF 2 [(5, (bJ (bM.k_words y5))), (7, (bJ (bM.k_number y42))), (49, (aK true))] ?_
          refine oZ (true) (fun hc51 => ?_) (fun hc51 => ?_)
          · refine bO aF 1 [(4, (eI (1 : Int)))] ?_
            refine bG ?_
            obtain rfl := oI h0
            exact aI (bL (aP (Q_r hO)))
          · cases hc51
    · replace h0 : (cond ((!x1_1) || (!x39_1)) (some (0 : Int)) ((nE y5 y43).bind fun x56 => some x56)) = some r := h0
      refine aZ ?_
      refine bN [3] [(7, (bJ (bM.k_words y43))), (8, (aK x39_1))] ?_
      refine aM ?_
      refine aT aF 6 [6, 8] [(28, (aK ((!x1_1) || (!x39_1))))] ?_
      refine bE h0 (fun h0 => ?_) (fun h0 => ?_)
      · refine bO aF 1 [(4, (eI (0 : Int)))] ?_
        refine bG ?_
        obtain rfl := oI h0
        exact aI (aP (Q_r hO))
      refine bF ?_
      refine bD [(5, (bJ (bM.k_words y5))), (7, (bJ (bM.k_words y43)))] ?_
      refine aT aF 7 [] [(9, (eI 0)), (10, (aK false))] ?_
      refine aT aF 7 [] [(11, (eI 0)), (12, (aK false))] ?_
      refine aM ?_
      refine bP 0 ?_
      refine aT aF 5 [] [(39, (aK false))] ?_
      refine oZ (false) (fun hc53 => ?_) (fun hc53 => ?_)
      · cases hc53
      · refine aT aF 2 [9, 10, 11, 39] [(47, (aK false))] ?_
        refine oZ (false) (fun hc54 => ?_) (fun hc54 => ?_)
        · cases hc54
        · refine bO aF 2 [(5, (bJ (bM.k_words y5))), (7, (bJ (bM.k_words y43))), (49, (aK false))] ?_
          refine oZ (false) (fun hc55 => ?_) (fun hc55 => ?_)
          · cases hc55
          · refine bF ?_
            refine cR [(5, (bJ (bM.k_words y5))), (7, (bJ (bM.k_words y43)))] ?_
            refine aI (aX (aG (?_)))
            refine aM ?_
            refine fG (fF []) aF 6 ?_
            refine sQ 4 ?_
            obtain ⟨x56, hx57, h0⟩ := aV h0
            refine BC (KX y5 y43 _ hx57) hO ?_
            intro H hO
            refine jU ?_
            refine bD [(4, (eI x56))] ?_
            refine bG ?_
            obtain rfl := oI h0
            exact aI (Q_r hO)

theorem IG (a0 : (List aH)) (b1 : (List aH)) (r : Int) (h0 : rB a0 b1 = some r) : bR Tryz.prog 46 [(eL aJ a0), (eL aJ b1)] (eI r) := by
  intro H0
  refine cA Tryz.func46 ?_
  have hO := aL.start H0
  unfold rB at h0
  refine aM ?_
  refine aS aF 2 ?_
  refine jF 1 (eL aJ b1) (by kernel_rfl) (by kernel_rfl) ?_
  refine aZ ?_
  refine bN [1] [(3, (.rp (eL aJ b1)))] ?_
  refine aM ?_
  refine aM ?_
  refine aS aF 8 ?_
  refine bK 1 ?_
  obtain ⟨x1, hx2, h0⟩ := aV h0
  refine bW (CL a0 _ hx2) hO ?_
  intro H hO
  refine bK 5 ?_
  obtain ⟨x4, hx5, h0⟩ := aV h0
  refine jQ [(10, false)] 33 [(eL aJ b1)] (aK x4) (!(!x1)) (by kernel_rfl) (by kernel_rfl) (by kernel_rfl) (fun hb6 => (CL b1 _ (jI hx5 hb6))) hO ?_
  intro H hO
  refine aZ ?_
  refine bN [] [(14, (aK ((!x1) || (!x4))))] ?_
  refine bE h0 (fun h0 => ?_) (fun h0 => ?_)
  · refine bO aF 1 [(4, (eI (0 : Int)))] ?_
    refine bG ?_
    obtain rfl := oI h0
    exact aI (aP (Q_r hO))
  refine bF ?_
  refine bD [(0, (eL aJ a0)), (3, (.rp (eL aJ b1)))] ?_
  refine aT aF 6 [] [(5, (eI (if (lN b1) < (lN a0) then (lN b1) else (lN a0))))] ?_
  refine aM ?_
  refine fG (fF []) aF 7 ?_
  obtain ⟨c8, h0⟩ := bA h0
  refine cU 4 [0 ≤ (if (lN b1) < (lN a0) then (lN b1) else (lN a0)) ∧ (if (lN b1) < (lN a0) then (lN b1) else (lN a0)) ≤ (lN a0)] ⟨c8, trivial⟩ ?_
  obtain ⟨x9, hx10, h0⟩ := aV h0
  refine aCn (L' := fun lo11 => [(lo11, 1, [(eI x9.1)])]) 1 [(eI x9.1)] 73 [(.rp (eL aJ b1))] (fun lo11 => (.fn (.func 74) [] [(.lp lo11 0 0), (.rp (eL aJ x9.2))])) (by kernel_rfl) (by kernel_rfl) (NG b1 _ hx10) hO (fun _ => by kernel_rfl) ?_
  intro lo11 H hO
  obtain ⟨x12, hx13, h0⟩ := aV h0
  refine aCK (fun st G' => G' = up [(lo11, 1, [(eI st)])] ++ []) [(lo11, 1, [(eI x12.1)])] x9.1 x12.1 72 [(.sl false (Int.toNat (if (lN b1) < (lN a0) then (lN b1) else (lN a0))) (fun i => aJ (List.getD a0 i default))), (.fn (.func 74) [] [(.lp lo11 0 0), (.rp (eL aJ x9.2))])] (eI x12.2) (by kernel_rfl) (by kernel_rfl) (FA.sub (as0' := [(eL aJ (List.take (Int.toNat (if (lN b1) < (lN a0) then (lN b1) else (lN a0))) a0)), (.fn (.func 74) [] [(.lp lo11 0 0), (.rp (eL aJ x9.2))])]) (uW _ (List.take (Int.toNat (if (lN b1) < (lN a0) then (lN b1) else (lN a0))) a0) (.fn (.func 74) [] [(.lp lo11 0 0), (.rp (eL aJ x9.2))]) (fun st y0 => (jR y0 st x9.2).bind fun o => some (o.2, o.1)) (fun st y0 st2 rr hr => (KW y0 lo11 st x9.2 _ (aDR hr)).toV (ys := []) (zs := [(aJ y0)]) (cs := [(.lp lo11 0 0), (.rp (eL aJ x9.2))]) (fun Gx hG => ⟨up [], up [] ++ [], hG, rfl⟩)) _ _ hx13) ⟨aCI (Int.toNat_le.2 (And.right c8)), aU.refl _, trivial⟩) hO rfl (fun _ h => h) ?_
  intro H hO
  refine jU ?_
  replace hO := hO.pick (L' := []) [] (by decide) (by kernel_rfl)
  refine bN [5] [(6, (eI x12.2))] ?_
  refine aM ?_
  refine aT aF 2 [] [(27, (aK (decide (x12.2 < (0 : Int)))))] ?_
  refine bE h0 (fun h0 => ?_) (fun h0 => ?_)
  · refine aM ?_
    refine aS aF 6 ?_
    refine bK 4 ?_
    obtain ⟨x15, hx16, h0⟩ := aV h0
    refine bW (xD (lN a0) (lN b1) _ hx16) hO ?_
    intro H hO
    refine aZ ?_
    refine bD [(4, (eI x15))] ?_
    refine bG ?_
    obtain rfl := oI h0
    exact aI (aP (Q_r hO))
  refine bF ?_
  refine bD [(0, (eL aJ a0)), (3, (.rp (eL aJ b1))), (6, (eI x12.2))] ?_
  refine aM ?_
  refine fG (fF [36, 37, 40]) aF 10 ?_
  obtain ⟨c18, h0⟩ := bA h0
  obtain ⟨c19, h0⟩ := bA h0
  refine cU 8 [0 ≤ x12.2 ∧ x12.2 < (lN a0), 0 ≤ x12.2 ∧ x12.2 < (lN b1)] ⟨c18, c19, trivial⟩ ?_
  obtain ⟨x20, hx21, h0⟩ := aV h0
  refine BC (OK (gD a0 x12.2) (gD b1 x12.2) _ hx21) hO ?_
  intro H hO
  refine jU ?_
  refine bD [(4, (eI x20))] ?_
  refine bG ?_
  obtain rfl := oI h0
  exact aI (Q_r hO)

theorem UW (AG : (List Int)) (r : Int) (h0 : wF AG = some r) : bR Tryz.prog 45 [(eL (eI) AG)] (eI r) := by
  intro H0
  refine cA Tryz.func45 ?_
  have hO := aL.start H0
  unfold wF at h0
  refine aT aF 1 [] [] ?_
  refine aT aF 1 [] [(3, (eI (0 : Int)))] ?_
  refine cC (fun T H => ∃ oL : Int, Has T [(3, (eI oL))] ∧ aL ⟨H0, [], []⟩ H [] ∧ uA oL = some r) ?_ ?_
  · clear hO h0
    rintro T H ⟨oL, hT, hO, h0⟩
    refine aY hT ?_
    clear hT
    unfold uA at h0
    refine bO aF 2 [(2, (eI oL))] ?_
    refine bG ?_
    obtain rfl := oI h0
    exact aI (Q_r hO)
  refine aT aF 3 [0] [(6, (eL (eI) AG)), (7, (eI (lN AG))), (8, (eI (0 : Int)))] ?_
  refine bP 0 ?_
  refine cP [(3, (eI (0 : Int))), (6, (eL (eI) AG)), (7, (eI (lN AG))), (8, (eI (0 : Int)))] ?_
  refine cE (fun T H => ∃ oL : Int, ∃ t6 : (List Int), ∃ t7 : Int, ∃ t8 : Int, Has T [(3, (eI oL)), (6, (eL (eI) t6)), (7, (eI t7)), (8, (eI t8))] ∧ aL ⟨H0, [], []⟩ H [] ∧ yE oL t6 t7 t8 = some r) ?_ ⟨(0 : Int), AG, (lN AG), (0 : Int), .eq (by kernel_rfl), hO, h0⟩
  clear hO h0
  rintro T H ⟨oL, t6, t7, t8, hT, hO, h0⟩
  refine aY hT ?_
  clear hT
  unfold yE at h0
  obtain ⟨rr0, hl0, h0⟩ := aV h0
  refine bU (by kernel_rfl) (fun (s : Int) T H => Has T [(3, (eI oL)), (6, (eL (eI) t6)), (7, (eI t7)), (8, (eI s))] ∧ aL ⟨H0, [], []⟩ H []) hl0 ⟨.eq (by kernel_rfl), hO⟩ ?_
  clear hO
  rintro k0 s out1 T H ⟨hT, hO⟩ h1 ho0
  obtain ⟨t8, rfl⟩ : ∃ x, x = s := ⟨_, rfl⟩
  replace h1 : hM oL t6 t7 t8 = some out1 := h1
  refine aY hT ?_
  clear hT
  unfold hM at h1
  refine aT aF 1 [] [(9, (aK (decide (t8 < t7))))] ?_
  refine aM ?_
  refine bE h1 (fun h1 => ?_) (fun h1 => ?_)
  · refine bF ?_
    refine bD [(3, (eI oL)), (6, (eL (eI) t6)), (7, (eI t7)), (8, (eI t8))] ?_
    refine aM ?_
    refine bP 1 ?_
    refine aM ?_
    refine aS aF 3 ?_
    obtain ⟨c2, h1⟩ := bA h1
    refine kB [0 ≤ t8 ∧ t8 < (lN t6)] ⟨c2, trivial⟩ ?_
    refine bN [] [(5, (eI (gD t6 t8)))] ?_
    refine aT aF 3 [] [(14, (aK (!decide ((gD t6 t8) = oL))))] ?_
    refine bE h1 (fun h1 => ?_) (fun h1 => ?_)
    · refine bO aF 2 [(2, (eI (gD t6 t8)))] ?_
      refine bG ?_
      obtain rfl := oI h1
      obtain rfl : _ = rr0 := ho0
      replace h0 : some (gD t6 t8) = some r := h0
      obtain rfl := oI h0
      exact aI (bL (aP (aP (bL (aP (Q_r hO))))))
    refine bF ?_
    refine cR [(3, (eI oL)), (6, (eL (eI) t6)), (7, (eI t7)), (8, (eI t8))] ?_
    refine aI (aX (aG (?_)))
    refine aS aF 2 ?_
    refine aZ ?_
    exact aI (aG (⟨rfl, _, (oI h1).symm, .eq (by kernel_rfl), hO⟩))
  refine cQ 0 ?_
  obtain rfl := oI h1
  obtain rfl : _ = rr0 := ho0
  replace h0 : uA oL = some r := h0
  exact aI (aR (aR (bH (aG (⟨rfl, _, .eq (by kernel_rfl), hO, h0⟩)))))

theorem RM (x0 : aC) (y1 : aC) (r : Int) (h0 : nI x0 y1 = some r) : bR Tryz.prog 44 [(aE x0), (aE y1)] (eI r) := by
  intro H0
  refine cA Tryz.func44 ?_
  have hO := aL.start H0
  unfold nI at h0
  refine aM ?_
  refine aS aF 3 ?_
  refine jF 3 (aE x0) (by kernel_rfl) (by kernel_rfl) ?_
  refine jF 3 (aE y1) (by kernel_rfl) (by kernel_rfl) ?_
  refine aZ ?_
  refine bD [(2, (.rp (aE x0))), (3, (.rp (aE y1)))] ?_
  refine aM ?_
  refine fG (fF [6, 8, 11, 13]) aF 13 ?_
  refine sQ 4 ?_
  obtain ⟨x1, hx2, h0⟩ := aV h0
  refine BC (IG x0.Row y1.Row _ hx2) hO ?_
  intro H hO
  refine sQ 9 ?_
  obtain ⟨x4, hx5, h0⟩ := aV h0
  refine BC (xD x0.At y1.At _ hx5) hO ?_
  intro H hO
  refine ET (xs := [(eI x1), (eI x4)]) (k := 1) (by kernel_rfl) (by kernel_rfl) ?_
  obtain ⟨x7, hx8, h0⟩ := aV h0
  refine XS 45 [(dL [(eI x1), (eI x4)])] (eI x7) (by kernel_rfl) (by kernel_rfl) (bR.sub (UW ([x1, x4]) _ hx8) ⟨JD (l := [x1, x4]), trivial⟩) hO ?_
  intro H hO
  refine jU ?_
  refine bD [(4, (eI x7))] ?_
  refine bG ?_
  obtain rfl := oI h0
  exact aI (Q_r hO)

theorem LI (l0 : (List aC)) (r : (List aC)) (h0 : uP l0 = some r) : bR Tryz.prog 68 [(eL aE l0)] (.fn (.func 86) [] [(.rp (eL aE r))]) := by
  intro H0
  refine cA Tryz.func68 ?_
  have hO := aL.start H0
  unfold uP at h0
  refine aM ?_
  refine aS aF 2 ?_
  refine jF 1 (eL aE l0) (by kernel_rfl) (by kernel_rfl) ?_
  refine aZ ?_
  refine bD [(1, (.rp (eL aE l0)))] ?_
  refine bO aF 2 [(2, (.fn (.func 86) [] [(.rp (eL aE l0))]))] ?_
  refine bG ?_
  obtain rfl := oI h0
  exact aI (qQ (x := (.fn (.func 86) [] [(.rp (eL aE l0))])) (by kernel_rfl) (aU.refl _) ⟨rfl, hO.out⟩)

theorem yY (s10 : (List aH)) (s21 : (List aH)) (r : Bool) (h0 : iZ s10 s21 = some r) : bR Tryz.prog 95 [(eL aJ s10), (eL aJ s21)] (aK r) := by
  intro H0
  refine cA Tryz.func95 ?_
  have hO := aL.start H0
  unfold iZ at h0
  refine aT aF 1 [] [] ?_
  refine aM ?_
  refine aT aF 5 [] [(10, (aK (!decide ((lN s10) = (lN s21)))))] ?_
  refine bE h0 (fun h0 => ?_) (fun h0 => ?_)
  · refine bO aF 1 [(4, (aK false))] ?_
    refine bG ?_
    obtain rfl := oI h0
    exact aI (aP (Q_r hO))
  refine bF ?_
  refine bD [(0, (eL aJ s10)), (1, (eL aJ s21))] ?_
  refine cC (fun T H => Has T [] ∧ aL ⟨H0, [], []⟩ H [] ∧ eO  = some r) ?_ ?_
  · clear hO h0
    rintro T H ⟨hT, hO, h0⟩
    refine aY hT ?_
    clear hT
    unfold eO at h0
    refine bO aF 1 [(4, (aK true))] ?_
    refine bG ?_
    obtain rfl := oI h0
    exact aI (Q_r hO)
  refine aT aF 3 [] [(12, (eI (lN s10))), (13, (eI (0 : Int)))] ?_
  refine bP 0 ?_
  refine cP [(0, (eL aJ s10)), (1, (eL aJ s21)), (12, (eI (lN s10))), (13, (eI (0 : Int)))] ?_
  refine cE (fun T H => ∃ t12 : Int, ∃ t13 : Int, Has T [(0, (eL aJ s10)), (1, (eL aJ s21)), (12, (eI t12)), (13, (eI t13))] ∧ aL ⟨H0, [], []⟩ H [] ∧ iC s10 s21 t12 t13 = some r) ?_ ⟨(lN s10), (0 : Int), .eq (by kernel_rfl), hO, h0⟩
  clear hO h0
  rintro T H ⟨t12, t13, hT, hO, h0⟩
  refine aY hT ?_
  clear hT
  unfold iC at h0
  obtain ⟨rr0, hl0, h0⟩ := aV h0
  refine bU (by kernel_rfl) (fun (s : Int) T H => Has T [(0, (eL aJ s10)), (1, (eL aJ s21)), (12, (eI t12)), (13, (eI s))] ∧ aL ⟨H0, [], []⟩ H []) hl0 ⟨.eq (by kernel_rfl), hO⟩ ?_
  clear hO
  rintro k0 s out1 T H ⟨hT, hO⟩ h1 ho0
  obtain ⟨t13, rfl⟩ : ∃ x, x = s := ⟨_, rfl⟩
  replace h1 : dP s10 s21 t12 t13 = some out1 := h1
  refine aY hT ?_
  clear hT
  unfold dP at h1
  refine aT aF 1 [] [(14, (aK (decide (t13 < t12))))] ?_
  refine aM ?_
  refine bE h1 (fun h1 => ?_) (fun h1 => ?_)
  · refine bF ?_
    refine bD [(0, (eL aJ s10)), (1, (eL aJ s21)), (12, (eI t12)), (13, (eI t13))] ?_
    refine aM ?_
    refine bP 1 ?_
    refine aT aF 2 [] [(5, (eI t13))] ?_
    refine aM ?_
    refine fG (fF [19, 23]) aF 9 ?_
    obtain ⟨c3, h1⟩ := bA h1
    obtain ⟨c4, h1⟩ := bA h1
    refine BY (Ds := [0 ≤ t13 ∧ t13 < (lN s10), 0 ≤ t13 ∧ t13 < (lN s21)]) (by kernel_rfl) ⟨c3, c4, trivial⟩ ?_
    refine bN [5] [(24, (aK (!((decide (((gD s10 t13).Kind) = ((gD s21 t13).Kind))) && ((decide (((gD s10 t13).Num) = ((gD s21 t13).Num))) && ((oJ ((gD s10 t13).Text) ((gD s21 t13).Text)) && true))))))] ?_
    refine bE h1 (fun h1 => ?_) (fun h1 => ?_)
    · refine bO aF 1 [(4, (aK false))] ?_
      refine bG ?_
      obtain rfl := oI h1
      obtain rfl : _ = rr0 := ho0
      replace h0 : some false = some r := h0
      obtain rfl := oI h0
      exact aI (bL (aP (aP (bL (aP (Q_r hO))))))
    refine bF ?_
    refine cR [(0, (eL aJ s10)), (1, (eL aJ s21)), (12, (eI t12)), (13, (eI t13))] ?_
    refine aI (aX (aG (?_)))
    refine aS aF 2 ?_
    refine aZ ?_
    exact aI (aG (⟨rfl, _, (oI h1).symm, .eq (by kernel_rfl), hO⟩))
  refine cQ 0 ?_
  obtain rfl := oI h1
  obtain rfl : _ = rr0 := ho0
  replace h0 : eO  = some r := h0
  exact aI (aR (aR (bH (aG (⟨rfl, .eq (by kernel_rfl), hO, h0⟩)))))

theorem ZM (a0 : (List aH)) (b1 : (List aH)) (r : Bool) (h0 : AI a0 b1 = some r) : bR Tryz.prog 87 [(eL aJ a0), (eL aJ b1)] (aK r) := by
  intro H0
  refine cA Tryz.func87 ?_
  have hO := aL.start H0
  unfold AI at h0
  refine aT aF 1 [] [] ?_
  refine aM ?_
  refine aS aF 4 ?_
  refine bK 2 ?_
  obtain ⟨x1, hx2, h0⟩ := aV h0
  refine bW (yY a0 b1 _ hx2) hO ?_
  intro H hO
  refine aZ ?_
  refine bD [(4, (aK x1))] ?_
  refine bG ?_
  obtain rfl := oI h0
  exact aI (Q_r hO)

theorem ON (r0 : (List aH)) (r : (List aH)) (h0 : wZ r0 = some r) : bR Tryz.prog 88 [(eL aJ r0)] (eL aJ r) := by
  intro H0
  refine cA Tryz.func88 ?_
  have hO := aL.start H0
  unfold wZ at h0
  refine aT aF 1 [] [] ?_
  refine aM ?_
  refine aS aF 6 ?_
  refine bK 2 ?_
  obtain ⟨c1, h0⟩ := bA h0
  refine aCM 3 32 (lN r0) (by kernel_rfl) (by kernel_rfl) c1 hO ?_
  intro lo2 H hO
  refine bK 4 ?_
  obtain ⟨c4, h0⟩ := bA h0
  refine nB (e := aJ) ([] : List aH) r0 0 lo2 3 32 (eL aJ r0) (fun lo3 => [(lo3, 3, List.map aJ (([] : List aH) ++ r0))]) (by kernel_rfl) (by kernel_rfl) hO (by kernel_rfl) (BI (fun _ => by kernel_rfl)) c4 (fun _ => by kernel_rfl) ?_
  intro lo3 H hO
  refine aZ ?_
  refine bD [(2, (.msl 3 lo3 0 (List.length (([] : List aH) ++ r0))))] ?_
  refine bG ?_
  refine cR [(2, (.msl 3 lo3 0 (List.length (([] : List aH) ++ r0))))] ?_
  refine pR (en := aJ) (([] : List aH) ++ r0) 0 0 2 3 lo3 (List.length (([] : List aH) ++ r0)) hO (by kernel_rfl) (by kernel_rfl) (by kernel_rfl) (L' := []) (by kernel_rfl) ?_
  intro H5 hO
  obtain rfl := oI h0
  exact aI (Q_r hO)

theorem ES {σ : Type} (I : σ → Gs → Prop) (yield0_b : Nat) (mI : σ → (List aH) → (List aA) → Option (σ × Bool)) (yield0_h : ∀ st a0 a1 st2 r, mI st a0 a1 = some (st2, r) → SB Tryz.prog (yv yield0_b) I st [(eL aJ a0), (eL aD a1)] st2 (aK r)) (t1 : (List aC)) (sg0 : σ) (r : σ) (h0 : oW mI t1 sg0 = some r) : FA Tryz.prog 86 I sg0 [(yv yield0_b), (.rp (eL aE t1))] r (.tup []) := by
  intro H0 G0 hI hg
  refine cA Tryz.func86 ?_
  obtain ⟨G, hO, hI⟩ : ∃ G, aL ⟨H0, List.map (fun p : Nat × dJ => p.1) G0, G⟩ H0 [] ∧ I sg0 G := ⟨G0, aL.VY hg, hI⟩
  clear hg
  unfold oW at h0
  refine aT aF 1 [] [(3, (eI (0 : Int)))] ?_
  refine bP 0 ?_
  refine cP [(0, (yv yield0_b)), (1, (.rp (eL aE t1))), (3, (eI (0 : Int)))] ?_
  refine cE (fun T H => ∃ sg : σ, ∃ i3 : Int, ∃ G : Gs, Has T [(0, (yv yield0_b)), (1, (.rp (eL aE t1))), (3, (eI i3))] ∧ aL ⟨H0, List.map (fun p : Nat × dJ => p.1) G0, G⟩ H [] ∧ I sg G ∧ tJ mI sg t1 i3 = some r) ?_ ⟨sg0, (0 : Int), G, .eq (by kernel_rfl), hO, hI, h0⟩
  clear hO hI h0
  rintro T H ⟨sg, i3, G, hT, hO, hI, h0⟩
  refine aY hT ?_
  clear hT
  unfold tJ at h0
  obtain ⟨rr0, hl0, h0⟩ := aV h0
  refine bU (by kernel_rfl) (fun (s : σ × Int) T H => ∃ G : Gs, Has T [(0, (yv yield0_b)), (1, (.rp (eL aE t1))), (3, (eI s.2))] ∧ aL ⟨H0, List.map (fun p : Nat × dJ => p.1) G0, G⟩ H [] ∧ I s.1 G) hl0 ⟨G, .eq (by kernel_rfl), hO, hI⟩ ?_
  clear hO hI
  rintro k0 s out1 T H ⟨G, hT, hO, hI⟩ h1 ho0
  obtain ⟨sg, i3⟩ := s
  replace h1 : fX mI t1 sg i3 = some out1 := h1
  dsimp only at hT
  refine aY hT ?_
  clear hT
  unfold fX at h1
  refine aM ?_
  refine aT aF 4 [] [(9, (aK (decide (i3 < (lN t1)))))] ?_
  refine bE h1 (fun h1 => ?_) (fun h1 => ?_)
  · refine bF ?_
    refine bD [(0, (yv yield0_b)), (1, (.rp (eL aE t1))), (3, (eI i3))] ?_
    refine bP 1 ?_
    refine aM ?_
    refine aS aF 6 ?_
    obtain ⟨c2, h1⟩ := bA h1
    refine kB [0 ≤ i3 ∧ i3 < (lN t1)] ⟨c2, trivial⟩ ?_
    refine bN [] [(4, (eL aJ ((gD t1 i3).Row)))] ?_
    refine aM ?_
    refine aS aF 2 ?_
    refine fE (xs := []) (k := 2) (by kernel_rfl) (by kernel_rfl) ?_
    refine aZ ?_
    refine bN [] [(5, (.sl true 0 (fun _ => .bad)))] ?_
    refine cC (fun T H => ∃ sg : σ, ∃ i3 : Int, ∃ r4 : (List aH), ∃ f5 : List aA, ∃ lo3 : Nat, ∃ G : Gs, Has T [(0, (yv yield0_b)), (1, (.rp (eL aE t1))), (3, (eI i3)), (4, (eL aJ r4)), (5, (.msl 2 lo3 0 (List.length f5)))] ∧ aL ⟨H0, List.map (fun p : Nat × dJ => p.1) G0, G⟩ H [(lo3, 2, List.map aD f5)] ∧ I sg G ∧ qH mI sg t1 i3 r4 f5 = some out1) ?_ ?_
    · clear hO hI h1
      rintro T H ⟨sg, i3, r4, f5, lo3, G, hT, hO, hI, h1⟩
      refine aY hT ?_
      clear hT
      unfold qH at h1
      refine aM ?_
      refine aS aF 6 ?_
      refine oR (e := aD) f5 0 5 2 lo3 (List.length f5) [] (by kernel_rfl) hO (by kernel_rfl) (by kernel_rfl) (by kernel_rfl) (by kernel_rfl) ?_
      intro H hO
      refine bK 2 ?_
      obtain ⟨x7, hx8, h1⟩ := aV h1
      refine bW (ON r4 _ hx8) hO ?_
      intro H hO
      refine bK 4 ?_
      obtain ⟨x10, hx11, h1⟩ := aV h1
      refine XU (I := I) (yv yield0_b) [(eL aJ x7), (eL aD f5)] (aK x10.2) (by kernel_rfl) (by kernel_rfl) (yield0_h _ x7 f5 x10.1 x10.2 hx11) hO hI ?_
      intro G H hO hI
      refine aZ ?_
      refine bN [4, 5] [(50, (aK (!x10.2)))] ?_
      refine bE h1 (fun h1 => ?_) (fun h1 => ?_)
      · refine bG ?_
        obtain rfl := oI h1
        obtain rfl : _ = rr0 := ho0
        replace h0 : some x10.1 = some r := h0
        obtain rfl := oI h0
        exact aI (bL (aP (bL (qQ (x := (.tup [])) (by kernel_rfl) (aU.refl _) ⟨rfl, G, hI, hO.WG⟩))))
      refine bF ?_
      exact aI (aX (aG (⟨rfl, _, (oI h1).symm, _, .eq (by kernel_rfl), hO, hI⟩)))
    refine bP 2 ?_
    refine cP [(0, (yv yield0_b)), (1, (.rp (eL aE t1))), (3, (eI i3)), (4, (eL aJ ((gD t1 i3).Row))), (5, (.sl true 0 (fun _ => .bad)))] ?_
    refine rP (el := (fun _ => .bad)) 4 5 2 hO (by kernel_rfl) ?_
    intro lo24 H25 hO
    refine cE (fun T H => ∃ sg : σ, ∃ i3 : Int, ∃ r4 : (List aH), ∃ f5 : List aA, ∃ lo14 : Nat, ∃ G : Gs, Has T [(0, (yv yield0_b)), (1, (.rp (eL aE t1))), (3, (eI i3)), (4, (eL aJ r4)), (5, (.msl 2 lo14 0 (List.length f5)))] ∧ aL ⟨H0, List.map (fun p : Nat × dJ => p.1) G0, G⟩ H [(lo14, 2, List.map aD f5)] ∧ I sg G ∧ tC mI sg t1 i3 r4 f5 = some out1) ?_ ⟨sg, i3, (gD t1 i3).Row, ([] : List aA), lo24, G, .eq (by kernel_rfl), hO, hI, h1⟩
    clear hO hI h1
    rintro T H ⟨sg, i3, r4, f5, lo14, G, hT, hO, hI, h1⟩
    refine aY hT ?_
    clear hT
    unfold tC at h1
    obtain ⟨rr1, hl1, h1⟩ := aV h1
    refine bU (by kernel_rfl) (fun (s : σ × Int × List aA) T H => ∃ lo14 : Nat, ∃ G : Gs, Has T [(0, (yv yield0_b)), (1, (.rp (eL aE t1))), (3, (eI s.2.1)), (4, (eL aJ r4)), (5, (.msl 2 lo14 0 (List.length s.2.2)))] ∧ aL ⟨H0, List.map (fun p : Nat × dJ => p.1) G0, G⟩ H [(lo14, 2, List.map aD s.2.2)] ∧ I s.1 G) hl1 ⟨lo14, G, .eq (by kernel_rfl), hO, hI⟩ ?_
    clear hO hI
    rintro k1 s out2 T H ⟨lo14, G, hT, hO, hI⟩ h2 ho1
    obtain ⟨sg, i3, f5⟩ := s
    replace h2 : iV mI t1 r4 sg i3 f5 = some out2 := h2
    dsimp only at hT
    refine aY hT ?_
    clear hT
    unfold iV at h2
    refine aM ?_
    refine aM ?_
    refine aS aF 13 ?_
    obtain ⟨c15, h2⟩ := bA h2
    refine mP 11 [(((decide (i3 < (lN t1)))) = true → 0 ≤ i3 ∧ i3 < (lN t1))] ⟨c15, trivial⟩ ?_
    obtain ⟨x16, hx17, h2⟩ := aV h2
    refine jQ [(20, true)] 87 [(eL aJ ((gD t1 i3).Row)), (eL aJ r4)] (aK x16) (decide (i3 < (lN t1))) (by kernel_rfl) (by kernel_rfl) (by kernel_rfl) (fun hb18 => (ZM ((gD t1 i3).Row) r4 _ (jI hx17 hb18))) hO ?_
    intro H hO
    refine aZ ?_
    refine bN [] [(28, (aK ((decide (i3 < (lN t1))) && x16)))] ?_
    refine bE h2 (fun h2 => ?_) (fun h2 => ?_)
    · refine bF ?_
      refine bD [(0, (yv yield0_b)), (1, (.rp (eL aE t1))), (3, (eI i3)), (4, (eL aJ r4)), (5, (.msl 2 lo14 0 (List.length f5)))] ?_
      refine aM ?_
      refine bP 3 ?_
      refine fG (fF [32, 36, 37, 41]) aF 15 ?_
      obtain ⟨c20, h2⟩ := bA h2
      obtain ⟨c21, h2⟩ := bA h2
      refine cU 12 [0 ≤ i3 ∧ i3 < (lN t1), 0 ≤ i3 ∧ i3 < (lN t1)] ⟨c20, c21, trivial⟩ ?_
      refine ET (xs := [(aD (aA.mk ((gD t1 i3).At) ((gD t1 i3).Net)))]) (k := 2) (by kernel_rfl) (by kernel_rfl) ?_
      obtain ⟨c23, h2⟩ := bA h2
      refine DN (e := aD) f5 ([aA.mk ((gD t1 i3).At) ((gD t1 i3).Net)]) 0 lo14 2 16 (dL [(aD (aA.mk ((gD t1 i3).At) ((gD t1 i3).Net)))]) (fun lo22 => [(lo22, 2, List.map aD (f5 ++ ([aA.mk ((gD t1 i3).At) ((gD t1 i3).Net)])))]) (by kernel_rfl) (by kernel_rfl) hO (by kernel_rfl) (by kernel_rfl) c23 (fun _ => by kernel_rfl) ?_
      intro lo22 H hO
      refine jU ?_
      refine cR [(0, (yv yield0_b)), (1, (.rp (eL aE t1))), (3, (eI i3)), (4, (eL aJ r4)), (5, (.msl 2 lo22 0 (List.length (f5 ++ ([aA.mk ((gD t1 i3).At) ((gD t1 i3).Net)])))))] ?_
      refine aI (aX (aG (?_)))
      refine aS aF 3 ?_
      refine aZ ?_
      exact aI (aG (⟨rfl, _, (oI h2).symm, _, _, .eq (by kernel_rfl), hO, hI⟩))
    refine cQ 2 ?_
    obtain rfl := oI h2
    obtain rfl : _ = rr1 := ho1
    replace h1 : qH mI sg t1 i3 r4 f5 = some out1 := h1
    exact aI (aR (aR (bH (aG (⟨rfl, _, _, _, _, _, _, .eq (by kernel_rfl), hO, hI, h1⟩)))))
  refine cQ 0 ?_
  obtain rfl := oI h1
  obtain rfl : _ = rr0 := ho0
  replace h0 : some sg = some r := h0
  obtain rfl := oI h0
  exact aI (aR (aR (bH (sY (x := (.tup [])) (by kernel_rfl) (aU.refl _) ⟨rfl, G, hI, hO.WG⟩))))

theorem aAi (lo0p : Nat) (l0 : (List aC)) (r1 : (List aH)) (f2 : (List aA)) (r : (List aC)) (h0 : AB l0 r1 f2 = some r) : FF Tryz.prog 77 lo0p 3 (List.map aE l0) [(.msl 3 lo0p 0 (List.length l0)), (eL aJ r1), (eL aD f2)] (fun lo => .msl 3 lo 0 (List.length r)) (List.map aE r) := by
  intro H0 hl0
  refine cA Tryz.func77 ?_
  have hO := aL.qF hl0
  clear hl0
  unfold AB at h0
  refine aT aF 1 [] [] ?_
  refine cC (fun T H => ∃ l0 : List aC, ∃ lo1 : Nat, Has T [(0, (.msl 3 lo1 0 (List.length l0)))] ∧ aL ⟨H0, [lo0p], []⟩ H [(lo1, 3, List.map aE l0)] ∧ BW l0 = some r) ?_ ?_
  · clear hO h0
    rintro T H ⟨l0, lo1, hT, hO, h0⟩
    refine aY hT ?_
    clear hT
    unfold BW at h0
    refine bO aF 2 [(6, (.msl 3 lo1 0 (List.length l0)))] ?_
    refine bG ?_
    obtain rfl := oI h0
    exact aI (qQ (x := (.msl 3 lo1 0 (List.length l0))) (by kernel_rfl) (aU.refl _) ⟨lo1, rfl, hO⟩)
  refine aT aF 3 [2] [(9, (eL aD f2)), (10, (eI (lN f2))), (11, (eI (0 : Int)))] ?_
  refine bP 0 ?_
  refine cP [(0, (.msl 3 lo0p 0 (List.length l0))), (1, (eL aJ r1)), (9, (eL aD f2)), (10, (eI (lN f2))), (11, (eI (0 : Int)))] ?_
  refine cE (fun T H => ∃ l0 : List aC, ∃ t9 : (List aA), ∃ t10 : Int, ∃ t11 : Int, ∃ lo3 : Nat, Has T [(0, (.msl 3 lo3 0 (List.length l0))), (1, (eL aJ r1)), (9, (eL aD t9)), (10, (eI t10)), (11, (eI t11))] ∧ aL ⟨H0, [lo0p], []⟩ H [(lo3, 3, List.map aE l0)] ∧ CA l0 r1 t9 t10 t11 = some r) ?_ ⟨l0, f2, (lN f2), (0 : Int), lo0p, .eq (by kernel_rfl), hO, h0⟩
  clear hO h0
  rintro T H ⟨l0, t9, t10, t11, lo3, hT, hO, h0⟩
  refine aY hT ?_
  clear hT
  unfold CA at h0
  obtain ⟨rr0, hl0, h0⟩ := aV h0
  refine bU (by kernel_rfl) (fun (s : List aC × Int) T H => ∃ lo3 : Nat, Has T [(0, (.msl 3 lo3 0 (List.length s.1))), (1, (eL aJ r1)), (9, (eL aD t9)), (10, (eI t10)), (11, (eI s.2))] ∧ aL ⟨H0, [lo0p], []⟩ H [(lo3, 3, List.map aE s.1)]) hl0 ⟨lo3, .eq (by kernel_rfl), hO⟩ ?_
  clear hO
  rintro k0 s out1 T H ⟨lo3, hT, hO⟩ h1 ho0
  obtain ⟨l0, t11⟩ := s
  replace h1 : pQ r1 t9 t10 l0 t11 = some out1 := h1
  dsimp only at hT
  refine aY hT ?_
  clear hT
  unfold pQ at h1
  refine aT aF 1 [] [(12, (aK (decide (t11 < t10))))] ?_
  refine aM ?_
  refine bE h1 (fun h1 => ?_) (fun h1 => ?_)
  · refine bF ?_
    refine bD [(0, (.msl 3 lo3 0 (List.length l0))), (1, (eL aJ r1)), (9, (eL aD t9)), (10, (eI t10)), (11, (eI t11))] ?_
    refine aM ?_
    refine bP 1 ?_
    refine aM ?_
    refine aS aF 4 ?_
    obtain ⟨c5, h1⟩ := bA h1
    refine mP 2 [0 ≤ t11 ∧ t11 < (lN t9)] ⟨c5, trivial⟩ ?_
    refine sX 2 (aD (aA.mk 0 0)) (by kernel_rfl) (by kernel_rfl) hO ?_
    intro lo6 H hO
    refine rT 1 lo6 2 0 (aD (aA.mk 0 0)) (aD (gD t9 t11)) [(aD (aA.mk 0 0))] [(lo3, 3, List.map aE l0), (lo6, 2, [(aD (gD t9 t11))])] hO rfl (by kernel_rfl) ?_
    intro H hO
    refine dO ?_
    refine bN [] [(8, (.lp lo6 0 0))] ?_
    refine cP [(0, (.msl 3 lo3 0 (List.length l0))), (1, (eL aJ r1)), (8, (.lp lo6 0 0)), (9, (eL aD t9)), (10, (eI t10)), (11, (eI t11))] ?_
    refine aA9 2 1 8 2 lo6 (aD (gD t9 t11)) [(lo3, 3, List.map aE l0)] hO (by kernel_rfl) (by kernel_rfl) (by kernel_rfl) ?_
    intro H hO
    refine fG (fF [19, 21]) aF 11 ?_
    refine sQ 2 ?_
    obtain ⟨x7, hx8, h1⟩ := aV h1
    refine BC (ON r1 _ hx8) hO ?_
    intro H hO
    refine sQ 8 ?_
    refine ET (xs := [(aE (aC.mk x7 ((gD t9 t11).At) ((gD t9 t11).Net)))]) (k := 3) (by kernel_rfl) (by kernel_rfl) ?_
    obtain ⟨c11, h1⟩ := bA h1
    refine DN (e := aE) l0 ([aC.mk x7 ((gD t9 t11).At) ((gD t9 t11).Net)]) 0 lo3 3 40 (dL [(aE (aC.mk x7 ((gD t9 t11).At) ((gD t9 t11).Net)))]) (fun lo10 => [(lo10, 3, List.map aE (l0 ++ ([aC.mk x7 ((gD t9 t11).At) ((gD t9 t11).Net)])))]) (by kernel_rfl) (by kernel_rfl) hO (by kernel_rfl) (by kernel_rfl) c11 (fun _ => by kernel_rfl) ?_
    intro lo10 H hO
    refine jU ?_
    refine cR [(0, (.msl 3 lo10 0 (List.length (l0 ++ ([aC.mk x7 ((gD t9 t11).At) ((gD t9 t11).Net)]))))), (1, (eL aJ r1)), (9, (eL aD t9)), (10, (eI t10)), (11, (eI t11))] ?_
    refine aI (aX (aG (?_)))
    refine aS aF 2 ?_
    refine aZ ?_
    exact aI (aG (⟨rfl, _, (oI h1).symm, _, .eq (by kernel_rfl), hO⟩))
  refine cQ 0 ?_
  obtain rfl := oI h1
  obtain rfl : _ = rr0 := ho0
  replace h0 : BW l0 = some r := h0
  exact aI (aR (aR (bH (aG (⟨rfl, _, _, .eq (by kernel_rfl), hO, h0⟩)))))

theorem IM (l0 : (List aC)) (by1_f : Nat) (by1_a by1_c : List V) (by1 : (List aA) → Option ((List aA) × Int)) (by1_h : ∀ a0 r, by1 a0 = some r → bR Tryz.prog by1_f (by1_a ++ [(eL aD a0)] ++ by1_c) (.tup [(eL aD r.1), (eI r.2)])) (r : ((List aC) × Int)) (h0 : rA l0 by1 = some r) : bR Tryz.prog 48 [(eL aE l0), (.fn (.func by1_f) by1_a by1_c)] (.tup [(eL aE r.1), (eI r.2)]) := by
  intro H0
  refine XZ aF Tryz.func48 (by kernel_rfl) (by kernel_rfl) (by kernel_rfl) ?_
  have hO := aL.start H0
  unfold rA at h0
  refine aM ?_
  refine aS aF 3 ?_
  refine jF 1 (.fn (.func by1_f) by1_a by1_c) (by kernel_rfl) (by kernel_rfl) ?_
  refine MG 1 (.sl true 0 (fun _ => .bad)) (eL aE ([])) (by kernel_rfl) (by kernel_rfl) (by kernel_rfl) (cT) (by kernel_rfl) (by kernel_rfl) hO ?_
  intro lo1 H hO
  refine sX 1 (eI 0) (by kernel_rfl) (by kernel_rfl) hO ?_
  intro lo2 H hO
  refine dO ?_
  refine bN [1] [(3, (.rp (.fn (.func by1_f) by1_a by1_c))), (4, (.lp lo1 0 0)), (5, (.lp lo2 0 0))] ?_
  refine aM ?_
  refine aS aF 3 ?_
  refine fE (xs := []) (k := 3) (by kernel_rfl) (by kernel_rfl) ?_
  refine MG 1 (.sl true 0 (fun _ => .bad)) (eL aE ([])) (by kernel_rfl) (by kernel_rfl) (by kernel_rfl) (cT) (by kernel_rfl) (by kernel_rfl) hO ?_
  intro lo3 H hO
  refine aDx 11 3 (fun _ => .bad) (by kernel_rfl) hO (by kernel_rfl) ?_
  intro lo4 H hO
  refine rT 2 lo3 1 0 (eL aE ([])) (.msl 3 lo4 0 (List.length ([] : List aC))) [(eL aE ([]))] [(lo1, 1, [(eL aE ([]))]), (lo2, 1, [(eI 0)]), (lo3, 1, [(.msl 3 lo4 0 (List.length ([] : List aC)))]), (lo4, 3, List.map aE ([] : List aC))] hO rfl (by kernel_rfl) ?_
  intro H hO
  refine dO ?_
  refine bN [] [(6, (.lp lo3 0 0))] ?_
  refine aM ?_
  refine aM ?_
  refine aS aF 2 ?_
  refine bK 1 ?_
  obtain ⟨x5, hx6, h0⟩ := aV h0
  refine bW (LI l0 _ hx6) hO ?_
  intro H hO
  refine dO ?_
  refine bN [0] [(13, (.fn (.func 86) [] [(.rp (eL aE x5))]))] ?_
  refine bP 0 ?_
  refine cP [(3, (.rp (.fn (.func by1_f) by1_a by1_c))), (4, (.lp lo1 0 0)), (5, (.lp lo2 0 0)), (6, (.lp lo3 0 0)), (13, (.fn (.func 86) [] [(.rp (eL aE x5))]))] ?_
  refine cE (fun T H => ∃ t4 : (List aC), ∃ t5 : Int, ∃ out6 : List aC, ∃ kL : (List aC), ∃ lo7 : Nat, ∃ lo8 : Nat, ∃ lo9 : Nat, ∃ lo10 : Nat, Has T [(3, (.rp (.fn (.func by1_f) by1_a by1_c))), (4, (.lp lo7 0 0)), (5, (.lp lo8 0 0)), (6, (.lp lo9 0 0)), (13, (.fn (.func 86) [] [(.rp (eL aE kL))]))] ∧ aL ⟨H0, [], []⟩ H [(lo7, 1, [(eL aE t4)]), (lo8, 1, [(eI t5)]), (lo9, 1, [(.msl 3 lo10 0 (List.length out6))]), (lo10, 3, List.map aE out6)] ∧ wW by1 t4 t5 out6 kL = some r) ?_ ⟨[], 0, ([] : List aC), x5, lo1, lo2, lo3, lo4, .eq (by kernel_rfl), hO, h0⟩
  clear hO h0
  rintro T H ⟨t4, t5, out6, kL, lo7, lo8, lo9, lo10, hT, hO, h0⟩
  refine aY (l := [(3, (.rp (.fn (.func by1_f) by1_a by1_c))), (4, (.lp lo7 0 0)), (5, (.lp lo8 0 0)), (6, (.lp lo9 0 0)), (13, (.fn (.func 86) [] [(.rp (eL aE kL))]))]) hT ?_
  clear hT
  unfold wW at h0
  obtain ⟨o0, hl0, h0⟩ := aV h0
  refine VQ (fid := 86) (ys := []) (cs := [(.rp (eL aE kL))]) #[14, 15] (fun (A : GY) (b lL : Nat) (st : ((List aC) × Int × List aC) ⊕ ((List aC) × Int × List aC)) (G' : Gs) => Sum.elim (fun (s : (List aC) × Int × List aC) => ∃ lo10 : Nat, G' = (lL, .raw (mY b A .ready none)) :: (up [(lo7, 1, [(eL aE s.1)]), (lo8, 1, [(eI s.2.1)]), (lo9, 1, [(.msl 3 lo10 0 (List.length s.2.2))]), (lo10, 3, List.map aE s.2.2)] ++ [])) (fun (s : (List aC) × Int × List aC) => ∃ lo10 : Nat, G' = (lL, .raw (mY b A .done (some .ret))) :: (up [(lo7, 1, [(eL aE s.1)]), (lo8, 1, [(eI s.2.1)]), (lo9, 1, [(.msl 3 lo10 0 (List.length s.2.2))]), (lo10, 3, List.map aE s.2.2)] ++ [])) st) (.inl (t4, t5, out6)) o0 (.tup []) (by kernel_rfl) (by kernel_rfl) (by kernel_rfl) hO (fun _ _ => ⟨lo10, rfl⟩) ?_ ?_
  · intro b lL
    clear hO h0
    refine ES _ b (fun st t14 t15 => rnd (fun (s : (List aC) × Int × List aC) => nZ by1 kL s.1 s.2.1 s.2.2 t14 t15) st) ?_ kL _ _ hl0
    intro st t14 t15 st2 rr hr
    obtain ⟨s, rfl, h1, rfl⟩ := aDk hr
    clear hr
    intro Hr Gr hi hg
    obtain ⟨t4, t5, out6⟩ := s
    dsimp only [Sum.elim_inl] at hi
    obtain ⟨lo10, rfl⟩ := hi
    replace h1 : nZ by1 kL t4 t5 out6 t14 t15 = some st2 := h1
    unfold nZ at h1
    obtain ⟨E1, hE, hO⟩ := LR hg
    refine LO (UL (hO.gm 0 _ rfl).2 (by kernel_rfl) (by kernel_rfl) ?_)
    refine cP [(3, (.rp (.fn (.func by1_f) by1_a by1_c))), (4, (.lp lo7 0 0)), (5, (.lp lo8 0 0)), (6, (.lp lo9 0 0)), (13, (.fn (.func 86) [] [(.rp (eL aE kL))])), (14, (eL aJ t14)), (15, (eL aD t15))] ?_
    refine aT aF 1 [13, 14] [(7, (eL aJ t14))] ?_
    refine aS aF 1 ?_
    refine aZ ?_
    refine cR [(3, (.rp (.fn (.func by1_f) by1_a by1_c))), (4, (.lp lo7 0 0)), (5, (.lp lo8 0 0)), (6, (.lp lo9 0 0)), (7, (eL aJ t14)), (8, (eL aD t15))] ?_
    refine aI (⟨rfl, rfl, (hO.gm 0 _ rfl).2, ?_⟩)
    intro o1 ho1
    replace hO := hO.JJ o1
    refine bP 1 ?_
    refine aM ?_
    refine aS aF 8 ?_
    refine bK 2 ?_
    obtain ⟨x11, hx12, h1⟩ := aV h1
    refine bW (by1_h t15 _ hx12) hO ?_
    intro H hO
    refine aZ ?_
    refine bN [3, 8] [(9, (eL aD x11.1)), (10, (eI x11.2))] ?_
    refine aM ?_
    refine aT aF 2 [] [(23, (aK (!decide (x11.2 = (0 : Int)))))] ?_
    refine bE h1 (fun h1 => ?_) (fun h1 => ?_)
    · refine aM ?_
      refine aS aF 3 ?_
      refine bK 1 ?_
      refine rT 0 lo7 1 0 (eL aE t4) (.sl true 0 (fun _ => .bad)) [(eL aE t4)] [(lo7, 1, [(.sl true 0 (fun _ => .bad))]), (lo8, 1, [(eI t5)]), (lo9, 1, [(.msl 3 lo10 0 (List.length out6))]), (lo10, 3, List.map aE out6)] hO rfl (by kernel_rfl) ?_
      intro H hO
      refine rT 1 lo8 1 0 (eI t5) (eI x11.2) [(eI t5)] [(lo7, 1, [(.sl true 0 (fun _ => .bad))]), (lo8, 1, [(eI x11.2)]), (lo9, 1, [(.msl 3 lo10 0 (List.length out6))]), (lo10, 3, List.map aE out6)] hO rfl (by kernel_rfl) ?_
      intro H hO
      refine dO ?_
      refine SL 0 lo7 1 (.sl true 0 (fun _ => .bad)) (eL aE ([])) [(lo7, 1, [(eL aE ([]))]), (lo8, 1, [(eI x11.2)]), (lo9, 1, [(.msl 3 lo10 0 (List.length out6))]), (lo10, 3, List.map aE out6)] hO (by kernel_rfl) (by kernel_rfl) cT (by kernel_rfl) ?_
      intro H hO
      refine bD [(4, (.lp lo7 0 0)), (5, (.lp lo8 0 0)), (6, (.lp lo9 0 0))] ?_
      refine bG ?_
      refine cR [(4, (.lp lo7 0 0)), (5, (.lp lo8 0 0)), (6, (.lp lo9 0 0))] ?_
      obtain rfl := oI h1
      exact aI (aP (bL (⟨(pP hO hE ho1 .dead).1, rfl, _, ⟨lo10, rfl⟩, (pP hO hE ho1 _).2⟩)))
    refine bF ?_
    refine bD [(4, (.lp lo7 0 0)), (5, (.lp lo8 0 0)), (6, (.lp lo9 0 0)), (7, (eL aJ t14)), (9, (eL aD x11.1))] ?_
    refine aM ?_
    refine aS aF 5 ?_
    refine BH 2 lo9 1 0 (.msl 3 lo10 0 (List.length out6)) (.msl 3 lo10 0 (List.length out6)) [(.msl 3 lo10 0 (List.length out6))] hO rfl ?_
    refine bK 3 ?_
    obtain ⟨x15, hx16, h1⟩ := aV h1
    refine PK (L' := fun lo17 => [(lo7, 1, [(eL aE t4)]), (lo8, 1, [(eI t5)]), (lo9, 1, [(.msl 3 lo10 0 (List.length out6))]), (lo17, 3, List.map aE x15)]) 3 lo10 3 (List.map aE out6) (List.map aE x15) 77 [(.msl 3 lo10 0 (List.length out6)), (eL aJ t14), (eL aD x11.1)] (fun lo17 => (.msl 3 lo17 0 (List.length x15))) (by kernel_rfl) (by kernel_rfl) (aAi lo10 out6 t14 x11.1 _ hx16) hO (by kernel_rfl) (fun _ => by kernel_rfl) ?_
    intro lo17 H hO
    refine rT 2 lo9 1 0 (.msl 3 lo10 0 (List.length out6)) (.msl 3 lo17 0 (List.length x15)) [(.msl 3 lo10 0 (List.length out6))] [(lo7, 1, [(eL aE t4)]), (lo8, 1, [(eI t5)]), (lo9, 1, [(.msl 3 lo17 0 (List.length x15))]), (lo17, 3, List.map aE x15)] hO rfl (by kernel_rfl) ?_
    intro H hO
    refine dO ?_
    refine bN [7, 9] [] ?_
    refine aM ?_
    refine aS aF 3 ?_
    refine BH 2 lo9 1 0 (.msl 3 lo17 0 (List.length x15)) (.msl 3 lo17 0 (List.length x15)) [(.msl 3 lo17 0 (List.length x15))] hO rfl ?_
    refine aZ ?_
    refine bN [] [(31, (aK (decide ((4096 : Int) < (lN x15)))))] ?_
    refine bE h1 (fun h1 => ?_) (fun h1 => ?_)
    · refine aM ?_
      refine aS aF 2 ?_
      refine rT 0 lo7 1 0 (eL aE t4) (.sl true 0 (fun _ => .bad)) [(eL aE t4)] [(lo7, 1, [(.sl true 0 (fun _ => .bad))]), (lo8, 1, [(eI t5)]), (lo9, 1, [(.msl 3 lo17 0 (List.length x15))]), (lo17, 3, List.map aE x15)] hO rfl (by kernel_rfl) ?_
      intro H hO
      refine rT 1 lo8 1 0 (eI t5) (eI (7 : Int)) [(eI t5)] [(lo7, 1, [(.sl true 0 (fun _ => .bad))]), (lo8, 1, [(eI (7 : Int))]), (lo9, 1, [(.msl 3 lo17 0 (List.length x15))]), (lo17, 3, List.map aE x15)] hO rfl (by kernel_rfl) ?_
      intro H hO
      refine dO ?_
      refine SL 0 lo7 1 (.sl true 0 (fun _ => .bad)) (eL aE ([])) [(lo7, 1, [(eL aE ([]))]), (lo8, 1, [(eI (7 : Int))]), (lo9, 1, [(.msl 3 lo17 0 (List.length x15))]), (lo17, 3, List.map aE x15)] hO (by kernel_rfl) (by kernel_rfl) cT (by kernel_rfl) ?_
      intro H hO
      refine bD [(4, (.lp lo7 0 0)), (5, (.lp lo8 0 0)), (6, (.lp lo9 0 0))] ?_
      refine bG ?_
      refine cR [(4, (.lp lo7 0 0)), (5, (.lp lo8 0 0)), (6, (.lp lo9 0 0))] ?_
      obtain rfl := oI h1
      exact aI (bL (⟨(pP hO hE ho1 .dead).1, rfl, _, ⟨lo17, rfl⟩, (pP hO hE ho1 _).2⟩))
    refine bF ?_
    refine cR [(4, (.lp lo7 0 0)), (5, (.lp lo8 0 0)), (6, (.lp lo9 0 0))] ?_
    obtain rfl := oI h1
    exact aI (aX (⟨(pP hO hE ho1 .dead).1, rfl, _, ⟨lo17, rfl⟩, (pP hO hE ho1 _).2⟩))
  · intro b lD lL H' G' hi hO
    rcases o0 with s | s
    · dsimp only [Sum.elim_inl] at hi
      obtain ⟨lo10, rfl⟩ := hi
      replace h0 : (some (s.2.2, (0 : Int))) = some r := h0
      obtain ⟨hlL, hO⟩ := DJ hO
      refine ⟨_, _, hlL, (by intro e; cases e), ?_⟩
      refine cR [(4, (.lp lo7 0 0)), (5, (.lp lo8 0 0)), (6, (.lp lo9 0 0))] ?_
      refine aI (aX (aG (?_)))
      refine aM ?_
      refine ZJ (e := aE) s.2.2 2 3 1 3 lo9 lo10 (List.length s.2.2) [(lo7, 1, [(eL aE s.1)]), (lo8, 1, [(eI s.2.1)]), (lo9, 1, [(eL aE s.2.2)])] hO (by kernel_rfl) (by kernel_rfl) (by kernel_rfl) (.inr (by decide)) (by kernel_rfl) ?_
      intro H hO
      refine aS aF 3 ?_
      refine BH 2 lo9 1 0 (eL aE s.2.2) (eL aE s.2.2) [(eL aE s.2.2)] hO rfl ?_
      refine rT 0 lo7 1 0 (eL aE s.1) (eL aE s.2.2) [(eL aE s.1)] [(lo7, 1, [(eL aE s.2.2)]), (lo8, 1, [(eI s.2.1)]), (lo9, 1, [(eL aE s.2.2)])] hO rfl (by kernel_rfl) ?_
      intro H hO
      refine rT 1 lo8 1 0 (eI s.2.1) (eI (0 : Int)) [(eI s.2.1)] [(lo7, 1, [(eL aE s.2.2)]), (lo8, 1, [(eI (0 : Int))]), (lo9, 1, [(eL aE s.2.2)])] hO rfl (by kernel_rfl) ?_
      intro H hO
      refine dO ?_
      replace hO := hO.pick (L' := [(lo7, 1, [(eL aE s.2.2)]), (lo8, 1, [(eI (0 : Int))])]) [0, 1] (by decide) (by kernel_rfl)
      refine bN [6] [] ?_
      refine bG ?_
      obtain rfl := oI h0
      have hD := (hO.gm 0 _ rfl).2
      replace hO := (hO.JJ .dead).HD
      exact aI (QM1 (.inr rfl) hD (rs := [.cell 4 22, .cell 5 25]) (xs := [(eL aE s.2.2), (eI (0 : Int))]) (x := (.tup [(eL aE s.2.2), (eI (0 : Int))])) (by kernel_rfl) (AZ (lo := lo7) (k := 1) (y := (eL aE s.2.2)) (x := (eL aE s.2.2)) 0 hO (by kernel_rfl) (by kernel_rfl) (by kernel_rfl) (by kernel_rfl) (AZ (lo := lo8) (k := 1) (y := (eI (0 : Int))) (x := (eI (0 : Int))) 1 hO (by kernel_rfl) (by kernel_rfl) (by kernel_rfl) (by kernel_rfl) JT)) (by kernel_rfl) ⟨rfl, hO.out⟩)
    · dsimp only [Sum.elim_inr] at hi
      obtain ⟨lo10, rfl⟩ := hi
      replace h0 : (some (s.1, s.2.1)) = some r := h0
      obtain ⟨hlL, hO⟩ := DJ hO
      refine ⟨_, _, hlL, (by intro e; cases e), ?_⟩
      refine bG ?_
      replace hO := hO.pick (L' := [(lo7, 1, [(eL aE s.1)]), (lo8, 1, [(eI s.2.1)])]) [0, 1] (by decide) (by kernel_rfl)
      obtain rfl := oI h0
      have hD := (hO.gm 0 _ rfl).2
      replace hO := (hO.JJ .dead).HD
      exact aI (bL (aP (QM1 (.inr rfl) hD (rs := [.cell 4 22, .cell 5 25]) (xs := [(eL aE s.1), (eI s.2.1)]) (x := (.tup [(eL aE s.1), (eI s.2.1)])) (by kernel_rfl) (AZ (lo := lo7) (k := 1) (y := (eL aE s.1)) (x := (eL aE s.1)) 0 hO (by kernel_rfl) (by kernel_rfl) (by kernel_rfl) (by kernel_rfl) (AZ (lo := lo8) (k := 1) (y := (eI s.2.1)) (x := (eI s.2.1)) 1 hO (by kernel_rfl) (by kernel_rfl) (by kernel_rfl) (by kernel_rfl) JT)) (by kernel_rfl) ⟨rfl, hO.out⟩)))

theorem vH (s0 : (List aA)) (f1_f : Nat) (f1_a f1_c : List V) (f1 : aA → Option Bool) (f1_h : ∀ a0 r, f1 a0 = some r → bR Tryz.prog f1_f (f1_a ++ [(aD a0)] ++ f1_c) (aK r)) (r : Int) (h0 : fW s0 f1 = some r) : bR Tryz.prog 93 [(eL aD s0), (.fn (.func f1_f) f1_a f1_c)] (eI r) := by
  intro H0
  refine cA Tryz.func93 ?_
  have hO := aL.start H0
  unfold fW at h0
  refine aT aF 1 [] [] ?_
  refine cC (fun T H => Has T [] ∧ aL ⟨H0, [], []⟩ H [] ∧ dV f1  = some r) ?_ ?_
  · clear hO h0
    rintro T H ⟨hT, hO, h0⟩
    refine aY hT ?_
    clear hT
    unfold dV at h0
    refine bO aF 1 [(4, (eI (-1 : Int)))] ?_
    refine bG ?_
    obtain rfl := oI h0
    exact aI (Q_r hO)
  refine aT aF 3 [] [(7, (eI (lN s0))), (8, (eI (0 : Int)))] ?_
  refine bP 0 ?_
  refine cP [(0, (eL aD s0)), (1, (.fn (.func f1_f) f1_a f1_c)), (7, (eI (lN s0))), (8, (eI (0 : Int)))] ?_
  refine cE (fun T H => ∃ t7 : Int, ∃ t8 : Int, Has T [(0, (eL aD s0)), (1, (.fn (.func f1_f) f1_a f1_c)), (7, (eI t7)), (8, (eI t8))] ∧ aL ⟨H0, [], []⟩ H [] ∧ fN f1 s0 t7 t8 = some r) ?_ ⟨(lN s0), (0 : Int), .eq (by kernel_rfl), hO, h0⟩
  clear hO h0
  rintro T H ⟨t7, t8, hT, hO, h0⟩
  refine aY hT ?_
  clear hT
  unfold fN at h0
  obtain ⟨rr0, hl0, h0⟩ := aV h0
  refine bU (by kernel_rfl) (fun (s : Int) T H => Has T [(0, (eL aD s0)), (1, (.fn (.func f1_f) f1_a f1_c)), (7, (eI t7)), (8, (eI s))] ∧ aL ⟨H0, [], []⟩ H []) hl0 ⟨.eq (by kernel_rfl), hO⟩ ?_
  clear hO
  rintro k0 s out1 T H ⟨hT, hO⟩ h1 ho0
  obtain ⟨t8, rfl⟩ : ∃ x, x = s := ⟨_, rfl⟩
  replace h1 : fL f1 s0 t7 t8 = some out1 := h1
  refine aY hT ?_
  clear hT
  unfold fL at h1
  refine aT aF 1 [] [(9, (aK (decide (t8 < t7))))] ?_
  refine aM ?_
  refine bE h1 (fun h1 => ?_) (fun h1 => ?_)
  · refine bF ?_
    refine bD [(0, (eL aD s0)), (1, (.fn (.func f1_f) f1_a f1_c)), (7, (eI t7)), (8, (eI t8))] ?_
    refine aM ?_
    refine bP 1 ?_
    refine aT aF 2 [] [(5, (eI t8))] ?_
    refine aM ?_
    refine aS aF 6 ?_
    obtain ⟨c2, h1⟩ := bA h1
    refine mP 5 [0 ≤ t8 ∧ t8 < (lN s0)] ⟨c2, trivial⟩ ?_
    obtain ⟨x3, hx4, h1⟩ := aV h1
    refine bW (f1_h (gD s0 t8) _ hx4) hO ?_
    intro H hO
    refine dO ?_
    refine bN [] [(16, (aK x3))] ?_
    refine bE h1 (fun h1 => ?_) (fun h1 => ?_)
    · refine bO aF 2 [(4, (eI t8))] ?_
      refine bG ?_
      obtain rfl := oI h1
      obtain rfl : _ = rr0 := ho0
      replace h0 : some t8 = some r := h0
      obtain rfl := oI h0
      exact aI (bL (aP (aP (bL (aP (Q_r hO))))))
    refine bF ?_
    refine cR [(0, (eL aD s0)), (1, (.fn (.func f1_f) f1_a f1_c)), (7, (eI t7)), (8, (eI t8))] ?_
    refine aI (aX (aG (?_)))
    refine aS aF 2 ?_
    refine aZ ?_
    exact aI (aG (⟨rfl, _, (oI h1).symm, .eq (by kernel_rfl), hO⟩))
  refine cQ 0 ?_
  obtain rfl := oI h1
  obtain rfl : _ = rr0 := ho0
  replace h0 : dV f1  = some r := h0
  exact aI (aR (aR (bH (aG (⟨rfl, .eq (by kernel_rfl), hO, h0⟩)))))

theorem nO (s0 : (List aA)) (f1_f : Nat) (f1_a f1_c : List V) (f1 : aA → Option Bool) (f1_h : ∀ a0 r, f1 a0 = some r → bR Tryz.prog f1_f (f1_a ++ [(aD a0)] ++ f1_c) (aK r)) (r : Bool) (h0 : cV s0 f1 = some r) : bR Tryz.prog 78 [(eL aD s0), (.fn (.func f1_f) f1_a f1_c)] (aK r) := by
  intro H0
  refine cA Tryz.func78 ?_
  have hO := aL.start H0
  unfold cV at h0
  refine aT aF 1 [] [] ?_
  refine aM ?_
  refine aS aF 5 ?_
  refine bK 2 ?_
  obtain ⟨x1, hx2, h0⟩ := aV h0
  refine bW (vH s0 f1_f f1_a f1_c f1 f1_h _ hx2) hO ?_
  intro H hO
  refine aZ ?_
  refine bD [(4, (aK (decide ((0 : Int) ≤ x1))))] ?_
  refine bG ?_
  obtain rfl := oI h0
  exact aI (Q_r hO)

theorem LM (n0 : Int) (r : Bool) (h0 : xR n0 = some r) : bR Tryz.prog 69 [(eI n0)] (aK r) := by
  intro H0
  refine cA Tryz.func69 ?_
  have hO := aL.start H0
  unfold xR at h0
  refine aT aF 1 [] [] ?_
  refine bO aF 7 [(2, (aK ((decide (n0 ≤ (1048576 : Int))) && (decide ((-1048576 : Int) ≤ n0)))))] ?_
  refine bG ?_
  obtain rfl := oI h0
  exact aI (Q_r hO)

theorem RS (j0 : aA) (r : Bool) (h0 : tW j0 = some r) : bR Tryz.prog 79 [(aD j0)] (aK r) := by
  intro H0
  refine cA Tryz.func79 ?_
  have hO := aL.start H0
  unfold tW at h0
  refine aM ?_
  refine aS aF 2 ?_
  refine jF 2 (aD j0) (by kernel_rfl) (by kernel_rfl) ?_
  refine aZ ?_
  refine bD [(1, (.rp (aD j0)))] ?_
  refine aM ?_
  refine aS aF 5 ?_
  refine bK 2 ?_
  obtain ⟨x1, hx2, h0⟩ := aV h0
  refine bW (LM j0.Net _ hx2) hO ?_
  intro H hO
  refine aZ ?_
  refine bD [(2, (aK (!x1)))] ?_
  refine bG ?_
  obtain rfl := oI h0
  exact aI (Q_r hO)

theorem RH (j0 : aA) (r : Bool) (h0 : tS j0 = some r) : bR Tryz.prog 80 [(aD j0)] (aK r) := by
  intro H0
  refine cA Tryz.func80 ?_
  have hO := aL.start H0
  unfold tS at h0
  refine aM ?_
  refine aS aF 2 ?_
  refine jF 2 (aD j0) (by kernel_rfl) (by kernel_rfl) ?_
  refine aZ ?_
  refine bD [(1, (.rp (aD j0)))] ?_
  refine bO aF 9 [(2, (aK ((decide (j0.At < (-1 : Int))) || (decide ((1125899906842624 : Int) < j0.At)))))] ?_
  refine bG ?_
  obtain rfl := oI h0
  exact aI (Q_r hO)

theorem mG (s0 : (List aA)) (r : (List aA)) (h0 : cN s0 = some r) : BV Tryz.prog 62 [(eL aD s0)] (fun lo => (.msl 2 lo 0 (List.length r))) 2 (List.map aD r) := by
  intro H0
  refine cA Tryz.func62 ?_
  have hO := aL.start H0
  unfold cN at h0
  refine aT aF 1 [] [] ?_
  refine aM ?_
  refine aM ?_
  refine aS aF 2 ?_
  refine bK 1 ?_
  refine aCi false (List.length s0) (fun i => aD (List.getD s0 i default)) (by kernel_rfl) (by kernel_rfl) ?_
  intro b1 hn2
  refine dO ?_
  refine bN [] [(4, (aK b1))] ?_
  refine oZ (b1) (fun hc3 => ?_) (fun hc3 => ?_)
  · replace h0 : some ([] : List aA) = some r := by
      have hl := List.eq_nil_of_length_eq_zero (hn2 hc3)
      rw [hl] at h0
      exact (bA h0).2
    refine bO aF 1 [(2, (.sl true 0 (fun _ => .bad)))] ?_
    refine bG ?_
    refine cR [(2, (.sl true 0 (fun _ => .bad)))] ?_
    refine OA (el := (fun _ => .bad)) 0 2 2 hO (by kernel_rfl) ?_
    intro lo4 H5 hO
    obtain rfl := oI h0
    exact aI (aP (qQ (x := (.msl 2 lo4 0 (List.length ([] : List aA)))) (by kernel_rfl) (aU.refl _) ⟨lo4, rfl, hO⟩))
  · refine bF ?_
    refine bD [(0, (eL aD s0))] ?_
    refine aM ?_
    refine aS aF 4 ?_
    refine fE (xs := []) (k := 2) (by kernel_rfl) (by kernel_rfl) ?_
    refine bK 2 ?_
    obtain ⟨c7, h0⟩ := bA h0
    refine GQ (e := aD) s0 (fun _ => .bad) 2 16 (eL aD s0) (fun lo6 => [(lo6, 2, List.map aD s0)]) (by kernel_rfl) (by kernel_rfl) hO (BI (fun _ => by kernel_rfl)) c7 (fun _ => by kernel_rfl) ?_
    intro lo6 H hO
    refine aZ ?_
    refine bD [(2, (.msl 2 lo6 0 (List.length s0)))] ?_
    refine bG ?_
    obtain rfl := oI h0
    exact aI (qQ (x := (.msl 2 lo6 0 (List.length s0))) (by kernel_rfl) (aU.refl _) ⟨lo6, rfl, hO⟩)

theorem nX (lo0p : Nat) (aB : (List aA)) (a1 : Int) (b2 : Int) (cmp3_f : Nat) (cmp3_a cmp3_c : List V) (cmp3 : aA → aA → Option Int) (cmp3_h : ∀ a0 a1 r, cmp3 a0 a1 = some r → bR Tryz.prog cmp3_f (cmp3_a ++ [(aD a0), (aD a1)] ++ cmp3_c) (eI r)) (r : List aA) (h0 : dR aB a1 b2 cmp3 = some r) : lS Tryz.prog 99 lo0p 2 (List.map aD aB) (List.map aD r) [(.msl 2 lo0p 0 (List.length aB)), (eI a1), (eI b2), (.fn (.func cmp3_f) cmp3_a cmp3_c)] (.tup []) := by
  intro H0 hl0
  refine cA Tryz.func99 ?_
  have hO := aL.qF hl0
  clear hl0
  obtain ⟨N0, hN0⟩ : ∃ n, n = List.length aB := ⟨_, rfl⟩
  have hN : List.length aB = N0 := hN0.symm
  unfold dR at h0
  refine aT aF 3 [] [(8, (eI (wR (a1 + (1 : Int)))))] ?_
  refine bP 0 ?_
  refine cP [(0, (.msl 2 lo0p 0 (List.length aB))), (1, (eI a1)), (2, (eI b2)), (3, (.fn (.func cmp3_f) cmp3_a cmp3_c)), (8, (eI (wR (a1 + (1 : Int)))))] ?_
  refine cE (fun T H => ∃ aB : List aA, ∃ i8 : Int, Has T [(0, (.msl 2 lo0p 0 (List.length aB))), (1, (eI a1)), (2, (eI b2)), (3, (.fn (.func cmp3_f) cmp3_a cmp3_c)), (8, (eI i8))] ∧ aL ⟨H0, [lo0p], []⟩ H [(lo0p, 2, List.map aD aB)] ∧ List.length aB = N0 ∧ jD cmp3 aB a1 b2 i8 = some r) ?_ ⟨aB, wR (a1 + (1 : Int)), .eq (by kernel_rfl), hO, hN, h0⟩
  clear hO hN h0
  rintro T H ⟨aB, i8, hT, hO, hN, h0⟩
  refine aY hT ?_
  clear hT
  unfold jD at h0
  obtain ⟨rr0, hl0, h0⟩ := aV h0
  refine bU (by kernel_rfl) (fun (s : List aA × Int) T H => Has T [(0, (.msl 2 lo0p 0 (List.length s.1))), (1, (eI a1)), (2, (eI b2)), (3, (.fn (.func cmp3_f) cmp3_a cmp3_c)), (8, (eI s.2))] ∧ aL ⟨H0, [lo0p], []⟩ H [(lo0p, 2, List.map aD s.1)] ∧ List.length s.1 = N0) hl0 ⟨.eq (by kernel_rfl), hO, hN⟩ ?_
  clear hO hN
  rintro k0 s out1 T H ⟨hT, hO, hN⟩ h1 ho0
  obtain ⟨aB, i8⟩ := s
  replace h1 : jA cmp3 a1 b2 aB i8 = some out1 := h1
  dsimp only at hT
  refine aY hT ?_
  clear hT
  unfold jA at h1
  refine aM ?_
  refine aT aF 3 [] [(14, (aK (decide (i8 < b2))))] ?_
  refine bE h1 (fun h1 => ?_) (fun h1 => ?_)
  · refine bF ?_
    refine bD [(0, (.msl 2 lo0p 0 (List.length aB))), (1, (eI a1)), (2, (eI b2)), (3, (.fn (.func cmp3_f) cmp3_a cmp3_c)), (8, (eI i8))] ?_
    refine cC (fun T H => ∃ aB : List aA, Has T [(0, (.msl 2 lo0p 0 (List.length aB))), (1, (eI a1)), (2, (eI b2)), (3, (.fn (.func cmp3_f) cmp3_a cmp3_c)), (8, (eI i8))] ∧ aL ⟨H0, [lo0p], []⟩ H [(lo0p, 2, List.map aD aB)] ∧ List.length aB = N0 ∧ eU cmp3 aB a1 b2 i8 = some out1) ?_ ?_
    · clear hO hN h1
      rintro T H ⟨aB, hT, hO, hN, h1⟩
      refine aY hT ?_
      clear hT
      unfold eU at h1
      refine aS aF 3 ?_
      refine aZ ?_
      exact aI (aG (⟨rfl, _, (oI h1).symm, .eq (by kernel_rfl), hO, hN⟩))
    refine bP 1 ?_
    refine aT aF 2 [] [(9, (eI i8))] ?_
    refine bP 2 ?_
    refine cP [(0, (.msl 2 lo0p 0 (List.length aB))), (1, (eI a1)), (2, (eI b2)), (3, (.fn (.func cmp3_f) cmp3_a cmp3_c)), (8, (eI i8)), (9, (eI i8))] ?_
    refine cE (fun T H => ∃ aB : List aA, ∃ j9 : Int, Has T [(0, (.msl 2 lo0p 0 (List.length aB))), (1, (eI a1)), (2, (eI b2)), (3, (.fn (.func cmp3_f) cmp3_a cmp3_c)), (8, (eI i8)), (9, (eI j9))] ∧ aL ⟨H0, [lo0p], []⟩ H [(lo0p, 2, List.map aD aB)] ∧ List.length aB = N0 ∧ jJ cmp3 aB a1 b2 i8 j9 = some out1) ?_ ⟨aB, i8, .eq (by kernel_rfl), hO, hN, h1⟩
    clear hO hN h1
    rintro T H ⟨aB, j9, hT, hO, hN, h1⟩
    refine aY hT ?_
    clear hT
    unfold jJ at h1
    obtain ⟨rr1, hl1, h1⟩ := aV h1
    refine bU (by kernel_rfl) (fun (s : List aA × Int) T H => Has T [(0, (.msl 2 lo0p 0 (List.length s.1))), (1, (eI a1)), (2, (eI b2)), (3, (.fn (.func cmp3_f) cmp3_a cmp3_c)), (8, (eI i8)), (9, (eI s.2))] ∧ aL ⟨H0, [lo0p], []⟩ H [(lo0p, 2, List.map aD s.1)] ∧ List.length s.1 = N0) hl1 ⟨.eq (by kernel_rfl), hO, hN⟩ ?_
    clear hO hN
    rintro k1 s out2 T H ⟨hT, hO, hN⟩ h2 ho1
    obtain ⟨aB, j9⟩ := s
    replace h2 : jL cmp3 a1 b2 i8 aB j9 = some out2 := h2
    dsimp only at hT
    refine aY hT ?_
    clear hT
    unfold jL at h2
    refine aM ?_
    refine aM ?_
    obtain ⟨c2, h2⟩ := bA h2
    obtain ⟨c3, h2⟩ := bA h2
    obtain ⟨x4, hx5, h2⟩ := aV h2
    refine fG (fF []) aF 17 ?_
    refine xU (K := fun T H => Has (lift T) [(0, (.msl 2 lo0p 0 (List.length aB))), (1, (eI a1)), (2, (eI b2)), (3, (.fn (.func cmp3_f) cmp3_a cmp3_c)), (8, (eI i8)), (9, (eI j9)), (34, (aK ((decide (a1 < j9)) && (decide (x4 < (0 : Int))))))] ∧ aL ⟨H0, [lo0p], []⟩ H [(lo0p, 2, List.map aD aB)]) ?_ ?_
    · refine sQ 4 ?_
      refine sF (t := 21) (e := decide (a1 < j9)) (by kernel_rfl) (fun hg6 => ?_) (fun hg6 => ?_)
      · refine cU 8 [0 ≤ j9 ∧ j9 < (lN aB)] ⟨(c2 hg6), trivial⟩ ?_
        refine zF 0 lo0p 2 (0 + Int.toNat j9) (aD (gD aB j9)) (aD (gD aB j9)) (List.map aD aB) (by kernel_rfl) (by kernel_rfl) (by kernel_rfl) hO (by kernel_rfl) (cS (c2 hg6)) ?_
        refine cU 13 [0 ≤ (wR (j9 - (1 : Int))) ∧ (wR (j9 - (1 : Int))) < (lN aB)] ⟨(c3 hg6), trivial⟩ ?_
        refine zF 0 lo0p 2 (0 + Int.toNat (wR (j9 - (1 : Int)))) (aD (gD aB (wR (j9 - (1 : Int))))) (aD (gD aB (wR (j9 - (1 : Int))))) (List.map aD aB) (by kernel_rfl) (by kernel_rfl) (by kernel_rfl) hO (by kernel_rfl) (cS (c3 hg6)) ?_
        refine BK cmp3_f (cmp3_a ++ [(aD (gD aB j9)), (aD (gD aB (wR (j9 - (1 : Int)))))] ++ cmp3_c) (eI x4) (by kernel_rfl) (by kernel_rfl) (cmp3_h (gD aB j9) (gD aB (wR (j9 - (1 : Int)))) _ (jI hx5 hg6)) hO ?_
        intro H hO
        refine jU ?_
        exact ⟨⟨[(0, (.msl 2 lo0p 0 (List.length aB))), (1, (eI a1)), (2, (eI b2)), (3, (.fn (.func cmp3_f) cmp3_a cmp3_c)), (8, (eI i8)), (9, (eI j9)), (34, (aK (decide (x4 < (0 : Int)))))], by kernel_rfl, rfl, ⟨aU.refl _, aU.refl _, aU.refl _, aU.refl _, aU.refl _, aU.refl _, aU.eq (congrArg aK (rZ hg6 rfl).symm), trivial⟩⟩, hO⟩
      refine jU ?_
      exact ⟨⟨[(0, (.msl 2 lo0p 0 (List.length aB))), (1, (eI a1)), (2, (eI b2)), (3, (.fn (.func cmp3_f) cmp3_a cmp3_c)), (8, (eI i8)), (9, (eI j9)), (34, (aK false))], by kernel_rfl, rfl, ⟨aU.refl _, aU.refl _, aU.refl _, aU.refl _, aU.refl _, aU.refl _, aU.eq (congrArg aK (rZ hg6 rfl).symm), trivial⟩⟩, hO⟩
    · rintro T H ⟨hT, hO⟩
      refine cB hT ?_
      clear hT
      refine aI (aG ?_)
      refine bE h2 (fun h2 => ?_) (fun h2 => ?_)
      · refine bF ?_
        refine bD [(0, (.msl 2 lo0p 0 (List.length aB))), (1, (eI a1)), (2, (eI b2)), (3, (.fn (.func cmp3_f) cmp3_a cmp3_c)), (8, (eI i8)), (9, (eI j9))] ?_
        refine aM ?_
        refine bP 3 ?_
        refine fG (fF []) aF 18 ?_
        obtain ⟨c8, h2⟩ := bA h2
        refine cU 9 [0 ≤ (wR (j9 - (1 : Int))) ∧ (wR (j9 - (1 : Int))) < (lN aB)] ⟨c8, trivial⟩ ?_
        refine mC 0 lo0p 2 (0 + Int.toNat (wR (j9 - (1 : Int)))) (aD (gD aB (wR (j9 - (1 : Int))))) (aD (gD aB (wR (j9 - (1 : Int))))) (List.map aD aB) hO (cS c8) ?_
        obtain ⟨c9, h2⟩ := bA h2
        refine cU 13 [0 ≤ j9 ∧ j9 < (lN aB)] ⟨c9, trivial⟩ ?_
        refine mC 0 lo0p 2 (0 + Int.toNat j9) (aD (gD aB j9)) (aD (gD aB j9)) (List.map aD aB) hO (cS c9) ?_
        obtain ⟨c10, h2⟩ := bA h2
        refine cU 15 [0 ≤ j9 ∧ j9 < (lN aB)] ⟨c10, trivial⟩ ?_
        refine wN 0 lo0p 2 (0 + Int.toNat j9) (aD (gD aB j9)) (aD (gD aB (wR (j9 - (1 : Int))))) (List.map aD aB) [(lo0p, 2, List.map aD (List.set aB (Int.toNat j9) (gD aB (wR (j9 - (1 : Int))))))] hO (cS c10) (by simp only [List.set, pJ]) ?_
        intro H hO
        replace hN : List.length (List.set aB (Int.toNat j9) (gD aB (wR (j9 - (1 : Int))))) = N0 := by simpa using hN
        obtain ⟨c11, h2⟩ := bA h2
        refine cU 17 [0 ≤ (wR (j9 - (1 : Int))) ∧ (wR (j9 - (1 : Int))) < (lN aB)] ⟨c11, trivial⟩ ?_
        refine wN 0 lo0p 2 (0 + Int.toNat (wR (j9 - (1 : Int)))) (aD (gD (List.set aB (Int.toNat j9) (gD aB (wR (j9 - (1 : Int))))) (wR (j9 - (1 : Int))))) (aD (gD aB j9)) (List.map aD (List.set aB (Int.toNat j9) (gD aB (wR (j9 - (1 : Int)))))) [(lo0p, 2, List.map aD (List.set (List.set aB (Int.toNat j9) (gD aB (wR (j9 - (1 : Int))))) (Int.toNat (wR (j9 - (1 : Int)))) (gD aB j9)))] hO (zE c11 (by simp [])) (by simp only [List.set, pJ]) ?_
        intro H hO
        replace hN : List.length (List.set (List.set aB (Int.toNat j9) (gD aB (wR (j9 - (1 : Int))))) (Int.toNat (wR (j9 - (1 : Int)))) (gD aB j9)) = N0 := by simpa using hN
        refine DC (by kernel_rfl) ?_
        refine cB (l := [(0, (.msl 2 lo0p 0 (List.length (List.set (List.set aB (Int.toNat j9) (gD aB (wR (j9 - (1 : Int))))) (Int.toNat (wR (j9 - (1 : Int)))) (gD aB j9))))), (1, (eI a1)), (2, (eI b2)), (3, (.fn (.func cmp3_f) cmp3_a cmp3_c)), (8, (eI i8)), (9, (eI j9))]) ⟨[(0, (.msl 2 lo0p 0 (List.length aB))), (1, (eI a1)), (2, (eI b2)), (3, (.fn (.func cmp3_f) cmp3_a cmp3_c)), (8, (eI i8)), (9, (eI j9))], by kernel_rfl, rfl, ⟨aU.eq (by simp []), aU.refl _, aU.refl _, aU.refl _, aU.refl _, aU.refl _, trivial⟩⟩ ?_
        refine aI (aX (aG (?_)))
        refine aS aF 3 ?_
        refine aZ ?_
        exact aI (aG (⟨rfl, _, (oI h2).symm, .eq (by kernel_rfl), hO, hN⟩))
      refine cQ 2 ?_
      obtain rfl := oI h2
      obtain rfl : _ = rr1 := ho1
      replace h1 : eU cmp3 aB a1 b2 i8 = some out1 := h1
      exact aI (aR (aR (bH (aX (aG (⟨rfl, _, .eq (by kernel_rfl), hO, hN, h1⟩))))))
  refine cQ 0 ?_
  obtain rfl := oI h1
  obtain rfl : _ = rr0 := ho0
  replace h0 : some aB = some r := h0
  obtain rfl := oI h0
  exact aI (aR (aR (bH (sY (x := (.tup [])) (by kernel_rfl) (aU.refl _) ⟨rfl, hO.ext, hO.at 0 (by kernel_rfl), by simp only [List.length_map]; exact hN.trans hN0⟩))))

theorem lM (lo0p : Nat) (aB : (List aA)) (a1 : Int) (b2 : Int) (n3 : Int) (cmp4_f : Nat) (cmp4_a cmp4_c : List V) (cmp4 : aA → aA → Option Int) (cmp4_h : ∀ a0 a1 r, cmp4 a0 a1 = some r → bR Tryz.prog cmp4_f (cmp4_a ++ [(aD a0), (aD a1)] ++ cmp4_c) (eI r)) (r : List aA) (h0 : eH aB a1 b2 n3 cmp4 = some r) : lS Tryz.prog 104 lo0p 2 (List.map aD aB) (List.map aD r) [(.msl 2 lo0p 0 (List.length aB)), (eI a1), (eI b2), (eI n3), (.fn (.func cmp4_f) cmp4_a cmp4_c)] (.tup []) := by
  intro H0 hl0
  refine cA Tryz.func104 ?_
  have hO := aL.qF hl0
  clear hl0
  obtain ⟨N0, hN0⟩ : ∃ n, n = List.length aB := ⟨_, rfl⟩
  have hN : List.length aB = N0 := hN0.symm
  unfold eH at h0
  refine aT aF 1 [4] [(10, (eI (0 : Int)))] ?_
  refine bP 0 ?_
  refine cP [(0, (.msl 2 lo0p 0 (List.length aB))), (1, (eI a1)), (2, (eI b2)), (3, (eI n3)), (10, (eI (0 : Int)))] ?_
  refine cE (fun T H => ∃ aB : List aA, ∃ i10 : Int, Has T [(0, (.msl 2 lo0p 0 (List.length aB))), (1, (eI a1)), (2, (eI b2)), (3, (eI n3)), (10, (eI i10))] ∧ aL ⟨H0, [lo0p], []⟩ H [(lo0p, 2, List.map aD aB)] ∧ List.length aB = N0 ∧ kX cmp4 aB a1 b2 n3 i10 = some r) ?_ ⟨aB, (0 : Int), .eq (by kernel_rfl), hO, hN, h0⟩
  clear hO hN h0
  rintro T H ⟨aB, i10, hT, hO, hN, h0⟩
  refine aY hT ?_
  clear hT
  unfold kX at h0
  obtain ⟨rr0, hl0, h0⟩ := aV h0
  refine bU (by kernel_rfl) (fun (s : List aA × Int) T H => Has T [(0, (.msl 2 lo0p 0 (List.length s.1))), (1, (eI a1)), (2, (eI b2)), (3, (eI n3)), (10, (eI s.2))] ∧ aL ⟨H0, [lo0p], []⟩ H [(lo0p, 2, List.map aD s.1)] ∧ List.length s.1 = N0) hl0 ⟨.eq (by kernel_rfl), hO, hN⟩ ?_
  clear hO hN
  rintro k0 s out1 T H ⟨hT, hO, hN⟩ h1 ho0
  obtain ⟨aB, i10⟩ := s
  replace h1 : kR cmp4 a1 b2 n3 aB i10 = some out1 := h1
  dsimp only at hT
  refine aY hT ?_
  clear hT
  unfold kR at h1
  refine aM ?_
  refine aT aF 3 [] [(13, (aK (decide (i10 < n3))))] ?_
  refine bE h1 (fun h1 => ?_) (fun h1 => ?_)
  · refine bF ?_
    refine bD [(0, (.msl 2 lo0p 0 (List.length aB))), (1, (eI a1)), (2, (eI b2)), (3, (eI n3)), (10, (eI i10))] ?_
    refine aM ?_
    refine bP 1 ?_
    refine fG (fF []) aF 24 ?_
    obtain ⟨c2, h1⟩ := bA h1
    refine cU 13 [0 ≤ (wR (b2 + i10)) ∧ (wR (b2 + i10)) < (lN aB)] ⟨c2, trivial⟩ ?_
    refine mC 0 lo0p 2 (0 + Int.toNat (wR (b2 + i10))) (aD (gD aB (wR (b2 + i10)))) (aD (gD aB (wR (b2 + i10)))) (List.map aD aB) hO (cS c2) ?_
    obtain ⟨c3, h1⟩ := bA h1
    refine cU 19 [0 ≤ (wR (a1 + i10)) ∧ (wR (a1 + i10)) < (lN aB)] ⟨c3, trivial⟩ ?_
    refine mC 0 lo0p 2 (0 + Int.toNat (wR (a1 + i10))) (aD (gD aB (wR (a1 + i10)))) (aD (gD aB (wR (a1 + i10)))) (List.map aD aB) hO (cS c3) ?_
    obtain ⟨c4, h1⟩ := bA h1
    refine cU 21 [0 ≤ (wR (a1 + i10)) ∧ (wR (a1 + i10)) < (lN aB)] ⟨c4, trivial⟩ ?_
    refine wN 0 lo0p 2 (0 + Int.toNat (wR (a1 + i10))) (aD (gD aB (wR (a1 + i10)))) (aD (gD aB (wR (b2 + i10)))) (List.map aD aB) [(lo0p, 2, List.map aD (List.set aB (Int.toNat (wR (a1 + i10))) (gD aB (wR (b2 + i10)))))] hO (cS c4) (by simp only [List.set, pJ]) ?_
    intro H hO
    replace hN : List.length (List.set aB (Int.toNat (wR (a1 + i10))) (gD aB (wR (b2 + i10)))) = N0 := by simpa using hN
    obtain ⟨c5, h1⟩ := bA h1
    refine cU 23 [0 ≤ (wR (b2 + i10)) ∧ (wR (b2 + i10)) < (lN aB)] ⟨c5, trivial⟩ ?_
    refine wN 0 lo0p 2 (0 + Int.toNat (wR (b2 + i10))) (aD (gD (List.set aB (Int.toNat (wR (a1 + i10))) (gD aB (wR (b2 + i10)))) (wR (b2 + i10)))) (aD (gD aB (wR (a1 + i10)))) (List.map aD (List.set aB (Int.toNat (wR (a1 + i10))) (gD aB (wR (b2 + i10))))) [(lo0p, 2, List.map aD (List.set (List.set aB (Int.toNat (wR (a1 + i10))) (gD aB (wR (b2 + i10)))) (Int.toNat (wR (b2 + i10))) (gD aB (wR (a1 + i10)))))] hO (zE c5 (by simp [])) (by simp only [List.set, pJ]) ?_
    intro H hO
    replace hN : List.length (List.set (List.set aB (Int.toNat (wR (a1 + i10))) (gD aB (wR (b2 + i10)))) (Int.toNat (wR (b2 + i10))) (gD aB (wR (a1 + i10)))) = N0 := by simpa using hN
    refine DC (by kernel_rfl) ?_
    refine cB (l := [(0, (.msl 2 lo0p 0 (List.length (List.set (List.set aB (Int.toNat (wR (a1 + i10))) (gD aB (wR (b2 + i10)))) (Int.toNat (wR (b2 + i10))) (gD aB (wR (a1 + i10))))))), (1, (eI a1)), (2, (eI b2)), (3, (eI n3)), (10, (eI i10))]) ⟨[(0, (.msl 2 lo0p 0 (List.length aB))), (1, (eI a1)), (2, (eI b2)), (3, (eI n3)), (10, (eI i10))], by kernel_rfl, rfl, ⟨aU.eq (by simp []), aU.refl _, aU.refl _, aU.refl _, aU.refl _, trivial⟩⟩ ?_
    refine aI (aX (aG (?_)))
    refine aS aF 3 ?_
    refine aZ ?_
    exact aI (aG (⟨rfl, _, (oI h1).symm, .eq (by kernel_rfl), hO, hN⟩))
  refine cQ 0 ?_
  obtain rfl := oI h1
  obtain rfl : _ = rr0 := ho0
  replace h0 : some aB = some r := h0
  obtain rfl := oI h0
  exact aI (aR (aR (bH (sY (x := (.tup [])) (by kernel_rfl) (aU.refl _) ⟨rfl, hO.ext, hO.at 0 (by kernel_rfl), by simp only [List.length_map]; exact hN.trans hN0⟩))))

theorem zO (lo0p : Nat) (aB : (List aA)) (a1 : Int) (m2 : Int) (b3 : Int) (cmp4_f : Nat) (cmp4_a cmp4_c : List V) (cmp4 : aA → aA → Option Int) (cmp4_h : ∀ a0 a1 r, cmp4 a0 a1 = some r → bR Tryz.prog cmp4_f (cmp4_a ++ [(aD a0), (aD a1)] ++ cmp4_c) (eI r)) (r : List aA) (h0 : mR aB a1 m2 b3 cmp4 = some r) : lS Tryz.prog 103 lo0p 2 (List.map aD aB) (List.map aD r) [(.msl 2 lo0p 0 (List.length aB)), (eI a1), (eI m2), (eI b3), (.fn (.func cmp4_f) cmp4_a cmp4_c)] (.tup []) := by
  intro H0 hl0
  refine cA Tryz.func103 ?_
  have hO := aL.qF hl0
  clear hl0
  obtain ⟨N0, hN0⟩ : ∃ n, n = List.length aB := ⟨_, rfl⟩
  have hN : List.length aB = N0 := hN0.symm
  unfold mR at h0
  refine aT aF 4 [1] [(10, (eI (wR (m2 - a1))))] ?_
  refine aT aF 4 [3] [(11, (eI (wR (b3 - m2))))] ?_
  refine cC (fun T H => ∃ aB : List aA, ∃ i10 : Int, Has T [(0, (.msl 2 lo0p 0 (List.length aB))), (2, (eI m2)), (4, (.fn (.func cmp4_f) cmp4_a cmp4_c)), (10, (eI i10))] ∧ aL ⟨H0, [lo0p], []⟩ H [(lo0p, 2, List.map aD aB)] ∧ List.length aB = N0 ∧ iM cmp4 aB m2 i10 = some r) ?_ ?_
  · clear hO hN h0
    rintro T H ⟨aB, i10, hT, hO, hN, h0⟩
    refine aY hT ?_
    clear hT
    unfold iM at h0
    refine aS aF 8 ?_
    refine bK 7 ?_
    obtain ⟨x1, hx2, h0⟩ := aV h0
    refine pL [(lo0p, 2, List.map aD x1)] 0 (lM lo0p aB (wR (m2 - i10)) m2 i10 cmp4_f cmp4_a cmp4_c cmp4 cmp4_h _ hx2) hO ?_
    intro H hO hl3
    simp only [List.length_map] at hl3
    replace hN := hl3.trans hN
    refine dO ?_
    refine cB (l := [(0, (.msl 2 lo0p 0 (List.length x1)))]) ⟨[(0, (.msl 2 lo0p 0 (List.length aB)))], by kernel_rfl, rfl, ⟨aU.eq (by simp [hl3]), trivial⟩⟩ ?_
    obtain rfl := oI h0
    exact aI (sY (x := (.tup [])) (by kernel_rfl) (aU.refl _) ⟨rfl, hO.ext, hO.at 0 (by kernel_rfl), by simp only [List.length_map]; exact hN.trans hN0⟩)
  refine bP 0 ?_
  refine cP [(0, (.msl 2 lo0p 0 (List.length aB))), (2, (eI m2)), (4, (.fn (.func cmp4_f) cmp4_a cmp4_c)), (10, (eI (wR (m2 - a1)))), (11, (eI (wR (b3 - m2))))] ?_
  refine cE (fun T H => ∃ aB : List aA, ∃ i10 : Int, ∃ j11 : Int, Has T [(0, (.msl 2 lo0p 0 (List.length aB))), (2, (eI m2)), (4, (.fn (.func cmp4_f) cmp4_a cmp4_c)), (10, (eI i10)), (11, (eI j11))] ∧ aL ⟨H0, [lo0p], []⟩ H [(lo0p, 2, List.map aD aB)] ∧ List.length aB = N0 ∧ mH cmp4 aB m2 i10 j11 = some r) ?_ ⟨aB, wR (m2 - a1), wR (b3 - m2), .eq (by kernel_rfl), hO, hN, h0⟩
  clear hO hN h0
  rintro T H ⟨aB, i10, j11, hT, hO, hN, h0⟩
  refine aY hT ?_
  clear hT
  unfold mH at h0
  obtain ⟨rr0, hl0, h0⟩ := aV h0
  refine bU (by kernel_rfl) (fun (s : List aA × Int × Int) T H => Has T [(0, (.msl 2 lo0p 0 (List.length s.1))), (2, (eI m2)), (4, (.fn (.func cmp4_f) cmp4_a cmp4_c)), (10, (eI s.2.1)), (11, (eI s.2.2))] ∧ aL ⟨H0, [lo0p], []⟩ H [(lo0p, 2, List.map aD s.1)] ∧ List.length s.1 = N0) hl0 ⟨.eq (by kernel_rfl), hO, hN⟩ ?_
  clear hO hN
  rintro k0 s out1 T H ⟨hT, hO, hN⟩ h1 ho0
  obtain ⟨aB, i10, j11⟩ := s
  replace h1 : mE cmp4 m2 aB i10 j11 = some out1 := h1
  dsimp only at hT
  refine aY hT ?_
  clear hT
  unfold mE at h1
  refine aM ?_
  refine aT aF 3 [] [(20, (aK (!decide (i10 = j11))))] ?_
  refine bE h1 (fun h1 => ?_) (fun h1 => ?_)
  · refine bF ?_
    refine bD [(0, (.msl 2 lo0p 0 (List.length aB))), (2, (eI m2)), (4, (.fn (.func cmp4_f) cmp4_a cmp4_c)), (10, (eI i10)), (11, (eI j11))] ?_
    refine bP 1 ?_
    refine aT aF 3 [] [(23, (aK (decide (j11 < i10))))] ?_
    refine bE h1 (fun h1 => ?_) (fun h1 => ?_)
    · refine aM ?_
      refine aS aF 8 ?_
      refine bK 7 ?_
      obtain ⟨x6, hx7, h1⟩ := aV h1
      refine pL [(lo0p, 2, List.map aD x6)] 0 (lM lo0p aB (wR (m2 - i10)) m2 j11 cmp4_f cmp4_a cmp4_c cmp4 cmp4_h _ hx7) hO ?_
      intro H hO hl8
      simp only [List.length_map] at hl8
      replace hN := hl8.trans hN
      refine dO ?_
      refine cB (l := [(0, (.msl 2 lo0p 0 (List.length x6))), (2, (eI m2)), (4, (.fn (.func cmp4_f) cmp4_a cmp4_c)), (10, (eI i10)), (11, (eI j11))]) ⟨[(0, (.msl 2 lo0p 0 (List.length aB))), (2, (eI m2)), (4, (.fn (.func cmp4_f) cmp4_a cmp4_c)), (10, (eI i10)), (11, (eI j11))], by kernel_rfl, rfl, ⟨aU.eq (by simp [hl8]), aU.refl _, aU.refl _, aU.refl _, aU.refl _, trivial⟩⟩ ?_
      refine aI (aG (?_))
      refine aS aF 4 ?_
      refine aZ ?_
      exact aI (aX (aG (⟨rfl, _, (oI h1).symm, .eq (by kernel_rfl), hO, hN⟩)))
    refine aM ?_
    refine aS aF 12 ?_
    refine bK 11 ?_
    obtain ⟨x9, hx10, h1⟩ := aV h1
    refine pL [(lo0p, 2, List.map aD x9)] 0 (lM lo0p aB (wR (m2 - i10)) (wR ((wR (m2 + j11)) - i10)) i10 cmp4_f cmp4_a cmp4_c cmp4 cmp4_h _ hx10) hO ?_
    intro H hO hl11
    simp only [List.length_map] at hl11
    replace hN := hl11.trans hN
    refine dO ?_
    refine cB (l := [(0, (.msl 2 lo0p 0 (List.length x9))), (2, (eI m2)), (4, (.fn (.func cmp4_f) cmp4_a cmp4_c)), (10, (eI i10)), (11, (eI j11))]) ⟨[(0, (.msl 2 lo0p 0 (List.length aB))), (2, (eI m2)), (4, (.fn (.func cmp4_f) cmp4_a cmp4_c)), (10, (eI i10)), (11, (eI j11))], by kernel_rfl, rfl, ⟨aU.eq (by simp [hl11]), aU.refl _, aU.refl _, aU.refl _, aU.refl _, trivial⟩⟩ ?_
    refine aI (aG (?_))
    refine aS aF 4 ?_
    refine aZ ?_
    exact aI (aX (aG (⟨rfl, _, (oI h1).symm, .eq (by kernel_rfl), hO, hN⟩)))
  refine cQ 0 ?_
  obtain rfl := oI h1
  obtain rfl : _ = rr0 := ho0
  replace h0 : iM cmp4 aB m2 i10 = some r := h0
  exact aI (aR (aR (bH (aG (⟨rfl, _, _, .eq (by kernel_rfl), hO, hN, h0⟩)))))

end Go.Abs
