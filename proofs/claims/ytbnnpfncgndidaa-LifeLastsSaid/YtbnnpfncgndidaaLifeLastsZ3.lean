/- What the law LifeLasts stands on: the framework, the given functions as plain functions, their walks, and the plain laws; part 3. -/
import Derived.Test.YtbnnpfncgndidaaLifeLastsZ2
set_option linter.unusedSimpArgs false
set_option linter.unusedVariables false
namespace Go.Abs
open Go
noncomputable def oK (r0 : (List aF)) (i3 : Int) : Option ((Int) ⊕ (Unit ⊕ Bool)) :=
  cond ((decide (i3 < ((List.length r0 : Nat) : Int))) && (decide (i3 < (9 : Int))))
  (bB (0 ≤ i3 ∧ i3 < ((List.length r0 : Nat) : Int)) <|
  (pT (List.getD r0 (Int.toNat i3) default)).bind fun x3 =>
  cond (!x3)
  (some (.inr (.inr false)))
  (some (.inl (IntKind.i64.wrap (i3 + (1 : Int))))))
  (some (.inr (.inl ())))

noncomputable def xR (r0 : (List aF)) (i3 : Int) : Option Bool :=
  (lp (fun s => oK r0 s) i3).bind (Sum.elim (fun rr => qK r0) (fun rr => some rr))

noncomputable def pV (r0 : (List aF)) : Option Bool :=
  xR r0 (0 : Int)

noncomputable def tB  : Option Bool :=
  some true

noncomputable def kM (f0 : (List aB)) (i3 : Int) : Option ((Int) ⊕ (Unit ⊕ Bool)) :=
  cond (decide (i3 < ((List.length f0 : Nat) : Int)))
  (bB (0 ≤ i3 ∧ i3 < ((List.length f0 : Nat) : Int)) <|
  bB ((((!(decide (((List.getD f0 (Int.toNat i3) default).At) < (-1 : Int))))) = true → 0 ≤ i3 ∧ i3 < ((List.length f0 : Nat) : Int))) <|
  bB ((((!((decide (((List.getD f0 (Int.toNat i3) default).At) < (-1 : Int))) || (decide ((1125899906842624 : Int) ≤ ((List.getD f0 (Int.toNat i3) default).At)))))) = true → 0 ≤ i3 ∧ i3 < ((List.length f0 : Nat) : Int))) <|
  bB ((((!(((decide (((List.getD f0 (Int.toNat i3) default).At) < (-1 : Int))) || (decide ((1125899906842624 : Int) ≤ ((List.getD f0 (Int.toNat i3) default).At)))) || (decide (((List.getD f0 (Int.toNat i3) default).Net) = (0 : Int)))))) = true → 0 ≤ i3 ∧ i3 < ((List.length f0 : Nat) : Int))) <|
  bB ((((!((((decide (((List.getD f0 (Int.toNat i3) default).At) < (-1 : Int))) || (decide ((1125899906842624 : Int) ≤ ((List.getD f0 (Int.toNat i3) default).At)))) || (decide (((List.getD f0 (Int.toNat i3) default).Net) = (0 : Int)))) || (decide ((1048576 : Int) < ((List.getD f0 (Int.toNat i3) default).Net)))))) = true → 0 ≤ i3 ∧ i3 < ((List.length f0 : Nat) : Int))) <|
  cond (((((decide (((List.getD f0 (Int.toNat i3) default).At) < (-1 : Int))) || (decide ((1125899906842624 : Int) ≤ ((List.getD f0 (Int.toNat i3) default).At)))) || (decide (((List.getD f0 (Int.toNat i3) default).Net) = (0 : Int)))) || (decide ((1048576 : Int) < ((List.getD f0 (Int.toNat i3) default).Net)))) || (decide (((List.getD f0 (Int.toNat i3) default).Net) < (-1048576 : Int))))
  (some (.inr (.inr false)))
  (bB ((((decide ((0 : Int) < i3))) = true → 0 ≤ i3 ∧ i3 < ((List.length f0 : Nat) : Int))) <|
  bB ((((decide ((0 : Int) < i3))) = true → 0 ≤ (IntKind.i64.wrap (i3 - (1 : Int))) ∧ (IntKind.i64.wrap (i3 - (1 : Int))) < ((List.length f0 : Nat) : Int))) <|
  cond ((decide ((0 : Int) < i3)) && (decide (((List.getD f0 (Int.toNat i3) default).At) ≤ ((List.getD f0 (Int.toNat (IntKind.i64.wrap (i3 - (1 : Int)))) default).At))))
  (some (.inr (.inr false)))
  (some (.inl (IntKind.i64.wrap (i3 + (1 : Int)))))))
  (some (.inr (.inl ())))

noncomputable def xK (f0 : (List aB)) (i3 : Int) : Option Bool :=
  (lp (fun s => kM f0 s) i3).bind (Sum.elim (fun rr => tB ) (fun rr => some rr))

noncomputable def nU (f0 : (List aB)) : Option Bool :=
  cond (decide ((1024 : Int) < ((List.length f0 : Nat) : Int)))
  (some false)
  (xK f0 (0 : Int))

noncomputable def oP (a2 : aF) (b3 : aF) : Option Int :=
  cond (!decide (((ByteArray.size a2.Text : Nat) : Int) = ((ByteArray.size b3.Text : Nat) : Int)))
  (cond (decide (((ByteArray.size a2.Text : Nat) : Int) < ((ByteArray.size b3.Text : Nat) : Int)))
  (some (-1 : Int))
  (some (1 : Int)))
  (some (0 : Int))

noncomputable def fI (a2 : aF) (b3 : aF) (i5 : Int) : Option ((Int) ⊕ (Unit ⊕ Int)) :=
  cond ((decide (i5 < ((ByteArray.size a2.Text : Nat) : Int))) && (decide (i5 < ((ByteArray.size b3.Text : Nat) : Int))))
  (bB (0 ≤ i5 ∧ i5 < ((ByteArray.size a2.Text : Nat) : Int)) <|
  bB (0 ≤ i5 ∧ i5 < ((ByteArray.size b3.Text : Nat) : Int)) <|
  cond (!decide ((bt a2.Text i5) = (bt b3.Text i5)))
  (bB (0 ≤ i5 ∧ i5 < ((ByteArray.size a2.Text : Nat) : Int)) <|
  bB (0 ≤ i5 ∧ i5 < ((ByteArray.size b3.Text : Nat) : Int)) <|
  cond (decide ((bt a2.Text i5) < (bt b3.Text i5)))
  (some (.inr (.inr (-1 : Int))))
  (some (.inr (.inr (1 : Int)))))
  (some (.inl (IntKind.i64.wrap (i5 + (1 : Int))))))
  (some (.inr (.inl ())))

noncomputable def qT (a2 : aF) (b3 : aF) (i5 : Int) : Option Int :=
  (lp (fun s => fI a2 b3 s) i5).bind (Sum.elim (fun rr => oP a2 b3) (fun rr => some rr))

noncomputable def pN (a0 : aF) (b1 : aF) : Option Int :=
  (pT a0).bind fun x1 =>
  (dK (!(!x1)) (pT b1)).bind fun x4 =>
  cond ((!x1) || (!x4))
  (some (0 : Int))
  (cond (!decide (a0.Kind = b1.Kind))
  (cond (decide (a0.Kind = (1 : Int)))
  (some (-1 : Int))
  (some (1 : Int)))
  (cond (!decide (a0.Num = b1.Num))
  (cond (decide (a0.Num < b1.Num))
  (some (-1 : Int))
  (some (1 : Int)))
  (qT a0 b1 (0 : Int))))

noncomputable def oO (a0 : (List aF)) (b1 : (List aF)) : Option Int :=
  cond (decide (((List.length a0 : Nat) : Int) < ((List.length b1 : Nat) : Int)))
  (some (-1 : Int))
  (cond (decide (((List.length b1 : Nat) : Int) < ((List.length a0 : Nat) : Int)))
  (some (1 : Int))
  (some (0 : Int)))

noncomputable def fK (a0 : (List aF)) (b1 : (List aF)) (i5 : Int) : Option ((Int) ⊕ (Unit ⊕ Int)) :=
  cond ((decide (i5 < ((List.length a0 : Nat) : Int))) && (decide (i5 < ((List.length b1 : Nat) : Int))))
  (bB (0 ≤ i5 ∧ i5 < ((List.length a0 : Nat) : Int)) <|
  bB (0 ≤ i5 ∧ i5 < ((List.length b1 : Nat) : Int)) <|
  (pN (List.getD a0 (Int.toNat i5) default) (List.getD b1 (Int.toNat i5) default)).bind fun x13 =>
  cond (!decide (x13 = (0 : Int)))
  (some (.inr (.inr x13)))
  (some (.inl (IntKind.i64.wrap (i5 + (1 : Int))))))
  (some (.inr (.inl ())))

noncomputable def qW (a0 : (List aF)) (b1 : (List aF)) (i5 : Int) : Option Int :=
  (lp (fun s => fK a0 b1 s) i5).bind (Sum.elim (fun rr => oO a0 b1) (fun rr => some rr))

noncomputable def nD (a0 : (List aF)) (b1 : (List aF)) : Option Int :=
  (pV a0).bind fun x1 =>
  (dK (!(!x1)) (pV b1)).bind fun x4 =>
  cond ((!x1) || (!x4))
  (some (0 : Int))
  (qW a0 b1 (0 : Int))

noncomputable def rN  : Option Bool :=
  some true

noncomputable def pI (a0 : (List aF)) (b1 : (List aF)) (i5 : Int) : Option ((Int) ⊕ (Unit ⊕ Bool)) :=
  cond (decide (i5 < ((List.length a0 : Nat) : Int)))
  (bB (0 ≤ i5 ∧ i5 < ((List.length a0 : Nat) : Int)) <|
  bB (0 ≤ i5 ∧ i5 < ((List.length b1 : Nat) : Int)) <|
  cond (!((decide (((List.getD a0 (Int.toNat i5) default).Kind) = ((List.getD b1 (Int.toNat i5) default).Kind))) && ((decide (((List.getD a0 (Int.toNat i5) default).Num) = ((List.getD b1 (Int.toNat i5) default).Num))) && ((mQ ((List.getD a0 (Int.toNat i5) default).Text) ((List.getD b1 (Int.toNat i5) default).Text)) && true))))
  (some (.inr (.inr false)))
  (some (.inl (IntKind.i64.wrap (i5 + (1 : Int))))))
  (some (.inr (.inl ())))

noncomputable def vX (a0 : (List aF)) (b1 : (List aF)) (i5 : Int) : Option Bool :=
  (lp (fun s => pI a0 b1 s) i5).bind (Sum.elim (fun rr => rN ) (fun rr => some rr))

noncomputable def oJ (a0 : (List aF)) (b1 : (List aF)) : Option Bool :=
  cond (!decide (((List.length a0 : Nat) : Int) = ((List.length b1 : Nat) : Int)))
  (some false)
  (vX a0 b1 (0 : Int))

noncomputable def vZ (bG : List (List aF)) : Option (List (List aF)) :=
  some bG

noncomputable def rQ (l0 : (List aC)) (bG : List (List aF)) (i4 : Int) : Option ((List (List aF) × Int) ⊕ ((List (List aF)))) :=
  some (.inl (bG, IntKind.i64.wrap (i4 + (1 : Int))))

noncomputable def rK (l0 : (List aC)) (bG : List (List aF)) (i4 : Int) (at5 : Int) : Option ((List (List aF) × Int) ⊕ ((List (List aF)))) :=
  bB ((((decide (at5 < ((List.length bG : Nat) : Int)))) = true → 0 ≤ at5 ∧ at5 < ((List.length bG : Nat) : Int))) <|
  bB ((((decide (at5 < ((List.length bG : Nat) : Int)))) = true → 0 ≤ i4 ∧ i4 < ((List.length l0 : Nat) : Int))) <|
  (dK (decide (at5 < ((List.length bG : Nat) : Int))) (oJ (List.getD bG (Int.toNat at5) default) ((List.getD l0 (Int.toNat i4) default).Row))).bind fun x10 =>
  cond ((decide (at5 < ((List.length bG : Nat) : Int))) && x10)
  (rQ l0 bG i4)
  (bB (0 ≤ at5 ∧ at5 ≤ ((List.length bG : Nat) : Int)) <|
  bB (List.length (List.take (Int.toNat at5) bG) * 24 ≤ 140737488355328 ∧ List.length (List.take (Int.toNat at5) bG) ≤ 9223372036854775807) <|
  bB (0 ≤ i4 ∧ i4 < ((List.length l0 : Nat) : Int)) <|
  bB ((List.length (List.take (Int.toNat at5) bG) + List.length ([(List.getD l0 (Int.toNat i4) default).Row])) * 24 ≤ 140737488355328 ∧ List.length (List.take (Int.toNat at5) bG) + List.length ([(List.getD l0 (Int.toNat i4) default).Row]) ≤ 9223372036854775807) <|
  bB (0 ≤ at5 ∧ at5 ≤ ((List.length bG : Nat) : Int)) <|
  bB ((List.length ((List.take (Int.toNat at5) bG) ++ ([(List.getD l0 (Int.toNat i4) default).Row])) + List.length (List.drop (Int.toNat at5) bG)) * 24 ≤ 140737488355328 ∧ List.length ((List.take (Int.toNat at5) bG) ++ ([(List.getD l0 (Int.toNat i4) default).Row])) + List.length (List.drop (Int.toNat at5) bG) ≤ 9223372036854775807) <|
  rQ l0 (((List.take (Int.toNat at5) bG) ++ ([(List.getD l0 (Int.toNat i4) default).Row])) ++ (List.drop (Int.toNat at5) bG)) i4)

noncomputable def kP (l0 : (List aC)) (i4 : Int) (bG : List (List aF)) (at5 : Int) : Option ((List (List aF) × Int) ⊕ ((List (List aF) × Int))) :=
  bB ((((decide (at5 < ((List.length bG : Nat) : Int)))) = true → 0 ≤ at5 ∧ at5 < ((List.length bG : Nat) : Int))) <|
  bB ((((decide (at5 < ((List.length bG : Nat) : Int)))) = true → 0 ≤ i4 ∧ i4 < ((List.length l0 : Nat) : Int))) <|
  (dK (decide (at5 < ((List.length bG : Nat) : Int))) (nD (List.getD bG (Int.toNat at5) default) ((List.getD l0 (Int.toNat i4) default).Row))).bind fun x27 =>
  cond ((decide (at5 < ((List.length bG : Nat) : Int))) && (decide (x27 < (0 : Int))))
  (some (.inl (bG, IntKind.i64.wrap (at5 + (1 : Int)))))
  (some (.inr (bG, at5)))

noncomputable def vM (l0 : (List aC)) (bG : List (List aF)) (i4 : Int) (at5 : Int) : Option ((List (List aF) × Int) ⊕ ((List (List aF)))) :=
  (lp (fun s => kP l0 i4 s.1 s.2) (bG, at5)).bind (fun rr => rK l0 rr.1 i4 rr.2)

noncomputable def mA (l0 : (List aC)) (bG : List (List aF)) (i4 : Int) : Option ((List (List aF) × Int) ⊕ ((List (List aF)))) :=
  cond (decide (i4 < ((List.length l0 : Nat) : Int)))
  (vM l0 bG i4 (0 : Int))
  (some (.inr bG))

noncomputable def vW (l0 : (List aC)) (bG : List (List aF)) (i4 : Int) : Option (List (List aF)) :=
  (lp (fun s => mA l0 s.1 s.2) (bG, i4)).bind (fun rr => vZ rr)

noncomputable def oG (l0 : (List aC)) : Option (List (List aF)) :=
  vW l0 ([] : List (List aF)) (0 : Int)

noncomputable def uG (f5 : List aB) : Option (List aB) :=
  some f5

noncomputable def qL (l0 : (List aC)) (r1 : (List aF)) (f5 : List aB) (i6 : Int) : Option ((List aB × Int) ⊕ ((List aB))) :=
  some (.inl (f5, IntKind.i64.wrap (i6 + (1 : Int))))

noncomputable def lA (l0 : (List aC)) (r1 : (List aF)) (f5 : List aB) (i6 : Int) : Option ((List aB × Int) ⊕ ((List aB))) :=
  cond (decide (i6 < ((List.length l0 : Nat) : Int)))
  (bB (0 ≤ i6 ∧ i6 < ((List.length l0 : Nat) : Int)) <|
  (oJ ((List.getD l0 (Int.toNat i6) default).Row) r1).bind fun x8 =>
  cond x8
  (bB (0 ≤ i6 ∧ i6 < ((List.length l0 : Nat) : Int)) <|
  bB (0 ≤ i6 ∧ i6 < ((List.length l0 : Nat) : Int)) <|
  bB ((List.length f5 + List.length ([aB.mk ((List.getD l0 (Int.toNat i6) default).At) ((List.getD l0 (Int.toNat i6) default).Net)])) * 16 ≤ 140737488355328 ∧ List.length f5 + List.length ([aB.mk ((List.getD l0 (Int.toNat i6) default).At) ((List.getD l0 (Int.toNat i6) default).Net)]) ≤ 9223372036854775807) <|
  qL l0 r1 (f5 ++ ([aB.mk ((List.getD l0 (Int.toNat i6) default).At) ((List.getD l0 (Int.toNat i6) default).Net)])) i6)
  (qL l0 r1 f5 i6))
  (some (.inr f5))

noncomputable def uC (l0 : (List aC)) (r1 : (List aF)) (f5 : List aB) (i6 : Int) : Option (List aB) :=
  (lp (fun s => lA l0 r1 s.1 s.2) (f5, i6)).bind (fun rr => uG rr)

noncomputable def nG (l0 : (List aC)) (r1 : (List aF)) : Option (List aB) :=
  uC l0 r1 ([] : List aB) (0 : Int)

noncomputable def xV  : Option Bool :=
  some true

noncomputable def oL (l0 : (List aC)) (qC : (List (List aF))) (i6 : Int) : Option ((Int) ⊕ (Unit ⊕ Bool)) :=
  cond (decide (i6 < ((List.length qC : Nat) : Int)))
  (bB (0 ≤ i6 ∧ i6 < ((List.length qC : Nat) : Int)) <|
  (nG l0 (List.getD qC (Int.toNat i6) default)).bind fun x7 =>
  cond (decide ((1024 : Int) < ((List.length x7 : Nat) : Int)))
  (some (.inr (.inr false)))
  (some (.inl (IntKind.i64.wrap (i6 + (1 : Int))))))
  (some (.inr (.inl ())))

noncomputable def xB (l0 : (List aC)) (qC : (List (List aF))) (i6 : Int) : Option Bool :=
  (lp (fun s => oL l0 qC s) i6).bind (Sum.elim (fun rr => xV ) (fun rr => some rr))

noncomputable def tC (l0 : (List aC)) : Option Bool :=
  (oG l0).bind fun x2 =>
  xB l0 x2 (0 : Int)

noncomputable def qI (l0 : (List aC)) (i3 : Int) : Option ((Int) ⊕ (Unit ⊕ Bool)) :=
  some (.inl (IntKind.i64.wrap (i3 + (1 : Int))))

noncomputable def mT (l0 : (List aC)) (i3 : Int) : Option ((Int) ⊕ (Unit ⊕ Bool)) :=
  cond (decide (i3 < ((List.length l0 : Nat) : Int)))
  (bB (0 ≤ i3 ∧ i3 < ((List.length l0 : Nat) : Int)) <|
  (pV ((List.getD l0 (Int.toNat i3) default).Row)).bind fun x13 =>
  bB ((((!(!x13))) = true → 0 ≤ i3 ∧ i3 < ((List.length l0 : Nat) : Int))) <|
  bB ((((!(!x13))) = true → 0 ≤ i3 ∧ i3 < ((List.length l0 : Nat) : Int))) <|
  (dK (!(!x13)) (nU ([aB.mk ((List.getD l0 (Int.toNat i3) default).At) ((List.getD l0 (Int.toNat i3) default).Net)]))).bind fun x17 =>
  cond ((!x13) || (!x17))
  (some (.inr (.inr false)))
  (cond (decide (i3 = (0 : Int)))
  (qI l0 i3)
  (bB (0 ≤ (IntKind.i64.wrap (i3 - (1 : Int))) ∧ (IntKind.i64.wrap (i3 - (1 : Int))) < ((List.length l0 : Nat) : Int)) <|
  bB (0 ≤ i3 ∧ i3 < ((List.length l0 : Nat) : Int)) <|
  (nD ((List.getD l0 (Int.toNat (IntKind.i64.wrap (i3 - (1 : Int)))) default).Row) ((List.getD l0 (Int.toNat i3) default).Row)).bind fun x24 =>
  bB ((((decide (x24 = (0 : Int))) && (!(decide ((0 : Int) < x24)))) = true → 0 ≤ (IntKind.i64.wrap (i3 - (1 : Int))) ∧ (IntKind.i64.wrap (i3 - (1 : Int))) < ((List.length l0 : Nat) : Int))) <|
  bB ((((decide (x24 = (0 : Int))) && (!(decide ((0 : Int) < x24)))) = true → 0 ≤ i3 ∧ i3 < ((List.length l0 : Nat) : Int))) <|
  cond ((decide ((0 : Int) < x24)) || ((decide (x24 = (0 : Int))) && (decide (((List.getD l0 (Int.toNat i3) default).At) ≤ ((List.getD l0 (Int.toNat (IntKind.i64.wrap (i3 - (1 : Int)))) default).At)))))
  (some (.inr (.inr false)))
  (qI l0 i3))))
  (some (.inr (.inl ())))

noncomputable def wZ (l0 : (List aC)) (i3 : Int) : Option Bool :=
  (lp (fun s => mT l0 s) i3).bind (Sum.elim (fun rr => tC l0) (fun rr => some rr))

noncomputable def sI (l0 : (List aC)) : Option Bool :=
  cond (decide ((4096 : Int) < ((List.length l0 : Nat) : Int)))
  (some false)
  (wZ l0 (0 : Int))

noncomputable def qD (v5 : Int) : Option Int :=
  some v5

noncomputable def oC (f0 : (List aB)) (t1 : Int) (v5 : Int) (i6 : Int) : Option ((Int × Int) ⊕ (Int)) :=
  some (.inl (v5, IntKind.i64.wrap (i6 + (1 : Int))))

noncomputable def iQ (f0 : (List aB)) (t1 : Int) (v5 : Int) (i6 : Int) : Option ((Int × Int) ⊕ (Int)) :=
  cond (decide (i6 < ((List.length f0 : Nat) : Int)))
  (bB (0 ≤ i6 ∧ i6 < ((List.length f0 : Nat) : Int)) <|
  cond (decide (((List.getD f0 (Int.toNat i6) default).At) ≤ t1))
  (bB (0 ≤ i6 ∧ i6 < ((List.length f0 : Nat) : Int)) <|
  oC f0 t1 (IntKind.i64.wrap (v5 + ((List.getD f0 (Int.toNat i6) default).Net))) i6)
  (oC f0 t1 v5 i6))
  (some (.inr v5))

noncomputable def uA (f0 : (List aB)) (t1 : Int) (v5 : Int) (i6 : Int) : Option Int :=
  (lp (fun s => iQ f0 t1 s.1 s.2) (v5, i6)).bind (fun rr => qD rr)

noncomputable def lZ (f0 : (List aB)) (t1 : Int) : Option Int :=
  uA f0 t1 (0 : Int) (0 : Int)

noncomputable def qM (m3 : Int) : Option Int :=
  some m3

noncomputable def qG (f0 : (List aB)) (m3 : Int) (i4 : Int) : Option ((Int × Int) ⊕ (Int)) :=
  some (.inl (m3, IntKind.i64.wrap (i4 + (1 : Int))))

noncomputable def kY (f0 : (List aB)) (m3 : Int) (i4 : Int) : Option ((Int × Int) ⊕ (Int)) :=
  cond (decide (i4 < ((List.length f0 : Nat) : Int)))
  (bB (0 ≤ i4 ∧ i4 < ((List.length f0 : Nat) : Int)) <|
  (lZ f0 ((List.getD f0 (Int.toNat i4) default).At)).bind fun x10 =>
  cond (decide (x10 < m3))
  (bB (0 ≤ i4 ∧ i4 < ((List.length f0 : Nat) : Int)) <|
  (lZ f0 ((List.getD f0 (Int.toNat i4) default).At)).bind fun x15 =>
  qG f0 x15 i4)
  (qG f0 m3 i4))
  (some (.inr m3))

noncomputable def tY (f0 : (List aB)) (m3 : Int) (i4 : Int) : Option Int :=
  (lp (fun s => kY f0 s.1 s.2) (m3, i4)).bind (fun rr => qM rr)

noncomputable def rO (f0 : (List aB)) : Option Int :=
  (nU f0).bind fun x1 =>
  cond (!x1)
  (some (0 : Int))
  ((lZ f0 (-1 : Int)).bind fun x5 =>
  tY f0 x5 (0 : Int))

noncomputable def uF  : Option Bool :=
  some true

noncomputable def mI (l0 : (List aC)) (bG : (List (List aF))) (i4 : Int) : Option ((Int) ⊕ (Unit ⊕ Bool)) :=
  cond (decide (i4 < ((List.length bG : Nat) : Int)))
  (bB (0 ≤ i4 ∧ i4 < ((List.length bG : Nat) : Int)) <|
  (nG l0 (List.getD bG (Int.toNat i4) default)).bind fun x10 =>
  (rO x10).bind fun x13 =>
  cond (decide (x13 < (0 : Int)))
  (some (.inr (.inr false)))
  (some (.inl (IntKind.i64.wrap (i4 + (1 : Int))))))
  (some (.inr (.inl ())))

noncomputable def uH (l0 : (List aC)) (bG : (List (List aF))) (i4 : Int) : Option Bool :=
  (lp (fun s => mI l0 bG s) i4).bind (Sum.elim (fun rr => uF ) (fun rr => some rr))

noncomputable def rH (l0 : (List aC)) : Option Bool :=
  (sI l0).bind fun x1 =>
  cond (!x1)
  (some false)
  ((oG l0).bind fun x5 =>
  uH l0 x5 (0 : Int))

noncomputable def xL (t0 : Int) : Option Bool :=
  some ((decide ((0 : Int) ≤ t0)) && (decide (t0 ≤ (1125899906842624 : Int))))

noncomputable def oX (out5 : List Int) : Option (List Int) :=
  some out5

noncomputable def oY (t1 : Int) (out5 : List Int) (put6 : Bool) : Option (List Int) :=
  cond (!put6)
  (bB ((List.length out5 + List.length ([t1])) * 8 ≤ 140737488355328 ∧ List.length out5 + List.length ([t1]) ≤ 9223372036854775807) <|
  oX (out5 ++ ([t1])))
  (oX out5)

noncomputable def rJ (l0 : (List Int)) (t1 : Int) (out5 : List Int) (put6 : Bool) (i7 : Int) : Option ((List Int × Bool × Int) ⊕ ((List Int × Bool) ⊕ (List Int))) :=
  bB (0 ≤ i7 ∧ i7 < ((List.length l0 : Nat) : Int)) <|
  bB ((List.length out5 + List.length ([List.getD l0 (Int.toNat i7) default])) * 8 ≤ 140737488355328 ∧ List.length out5 + List.length ([List.getD l0 (Int.toNat i7) default]) ≤ 9223372036854775807) <|
  some (.inl (out5 ++ ([List.getD l0 (Int.toNat i7) default]), put6, IntKind.i64.wrap (i7 + (1 : Int))))

noncomputable def gJ (l0 : (List Int)) (t1 : Int) (out5 : List Int) (put6 : Bool) (i7 : Int) : Option ((List Int × Bool × Int) ⊕ ((List Int × Bool) ⊕ (List Int))) :=
  cond (decide (i7 < ((List.length l0 : Nat) : Int)))
  (bB (0 ≤ i7 ∧ i7 < ((List.length l0 : Nat) : Int)) <|
  cond (decide ((List.getD l0 (Int.toNat i7) default) = t1))
  (some (.inr (.inr l0)))
  (bB (0 ≤ i7 ∧ i7 < ((List.length l0 : Nat) : Int)) <|
  cond ((decide (t1 < (List.getD l0 (Int.toNat i7) default))) && (!put6))
  (bB ((List.length out5 + List.length ([t1])) * 8 ≤ 140737488355328 ∧ List.length out5 + List.length ([t1]) ≤ 9223372036854775807) <|
  rJ l0 t1 (out5 ++ ([t1])) true i7)
  (rJ l0 t1 out5 put6 i7)))
  (some (.inr (.inl (out5, put6))))

noncomputable def wA (l0 : (List Int)) (t1 : Int) (out5 : List Int) (put6 : Bool) (i7 : Int) : Option (List Int) :=
  (lp (fun s => gJ l0 t1 s.1 s.2.1 s.2.2) (out5, put6, i7)).bind (Sum.elim (fun rr => oY t1 rr.1 rr.2) (fun rr => some rr))

noncomputable def qN (l0 : (List Int)) (t1 : Int) : Option (List Int) :=
  wA l0 t1 ([] : List Int) false (0 : Int)

noncomputable def tI (n9 : Int) : Option Int :=
  some n9

noncomputable def tO (f0 : (List aB)) (d1 : Int) (bK : Int) (t3 : Int) (n9 : Int) (i10 : Int) : Option ((Int × Int) ⊕ (Int)) :=
  some (.inl (n9, IntKind.i64.wrap (i10 + (1 : Int))))

noncomputable def mY (f0 : (List aB)) (d1 : Int) (bK : Int) (t3 : Int) (n9 : Int) (i10 : Int) : Option ((Int × Int) ⊕ (Int)) :=
  cond (decide (i10 < ((List.length f0 : Nat) : Int)))
  (bB (0 ≤ i10 ∧ i10 < ((List.length f0 : Nat) : Int)) <|
  bB ((((decide ((0 : Int) < ((List.getD f0 (Int.toNat i10) default).Net)))) = true → 0 ≤ i10 ∧ i10 < ((List.length f0 : Nat) : Int))) <|
  bB (((((decide ((0 : Int) < ((List.getD f0 (Int.toNat i10) default).Net))) && (decide (bK ≤ ((List.getD f0 (Int.toNat i10) default).At))))) = true → 0 ≤ i10 ∧ i10 < ((List.length f0 : Nat) : Int))) <|
  bB ((((((decide ((0 : Int) < ((List.getD f0 (Int.toNat i10) default).Net))) && (decide (bK ≤ ((List.getD f0 (Int.toNat i10) default).At)))) && (decide (((List.getD f0 (Int.toNat i10) default).At) ≤ t3)))) = true → 0 ≤ i10 ∧ i10 < ((List.length f0 : Nat) : Int))) <|
  cond ((((decide ((0 : Int) < ((List.getD f0 (Int.toNat i10) default).Net))) && (decide (bK ≤ ((List.getD f0 (Int.toNat i10) default).At)))) && (decide (((List.getD f0 (Int.toNat i10) default).At) ≤ t3))) && (decide ((IntKind.i64.wrap (t3 - d1)) < ((List.getD f0 (Int.toNat i10) default).At))))
  (bB (0 ≤ i10 ∧ i10 < ((List.length f0 : Nat) : Int)) <|
  tO f0 d1 bK t3 (IntKind.i64.wrap (n9 + ((List.getD f0 (Int.toNat i10) default).Net))) i10)
  (tO f0 d1 bK t3 n9 i10))
  (some (.inr n9))

noncomputable def xD (f0 : (List aB)) (d1 : Int) (bK : Int) (t3 : Int) (n9 : Int) (i10 : Int) : Option Int :=
  (lp (fun s => mY f0 d1 bK t3 s.1 s.2) (n9, i10)).bind (fun rr => tI rr)

noncomputable def uZ (f0 : (List aB)) (d1 : Int) (bK : Int) (t3 : Int) : Option Int :=
  xD f0 d1 bK t3 (0 : Int) (0 : Int)

noncomputable def rP (f6 : List aB) : Option ((List aB) × Int) :=
  (nU f6).bind fun x2 =>
  cond (!x2)
  (some ([], (7 : Int)))
  (some (f6, (0 : Int)))

noncomputable def rE (dL : (List Int)) (cP : (List Int)) (f6 : List aB) (i8 : Int) : Option ((List aB × Int × Int) ⊕ ((List aB))) :=
  bB (0 ≤ i8 ∧ i8 < ((List.length cP : Nat) : Int)) <|
  some (.inl (f6, List.getD cP (Int.toNat i8) default, IntKind.i64.wrap (i8 + (1 : Int))))

noncomputable def lX (dL : (List Int)) (cP : (List Int)) (f6 : List aB) (was7 : Int) (i8 : Int) : Option ((List aB × Int × Int) ⊕ ((List aB))) :=
  cond (decide (i8 < ((List.length dL : Nat) : Int)))
  (bB (0 ≤ i8 ∧ i8 < ((List.length cP : Nat) : Int)) <|
  cond (!decide ((List.getD cP (Int.toNat i8) default) = was7))
  (bB (0 ≤ i8 ∧ i8 < ((List.length dL : Nat) : Int)) <|
  bB (0 ≤ i8 ∧ i8 < ((List.length cP : Nat) : Int)) <|
  bB ((List.length f6 + List.length ([aB.mk (List.getD dL (Int.toNat i8) default) (IntKind.i64.wrap ((List.getD cP (Int.toNat i8) default) - was7))])) * 16 ≤ 140737488355328 ∧ List.length f6 + List.length ([aB.mk (List.getD dL (Int.toNat i8) default) (IntKind.i64.wrap ((List.getD cP (Int.toNat i8) default) - was7))]) ≤ 9223372036854775807) <|
  rE dL cP (f6 ++ ([aB.mk (List.getD dL (Int.toNat i8) default) (IntKind.i64.wrap ((List.getD cP (Int.toNat i8) default) - was7))])) i8)
  (rE dL cP f6 i8))
  (some (.inr f6))

noncomputable def vO (dL : (List Int)) (cP : (List Int)) (f6 : List aB) (was7 : Int) (i8 : Int) : Option ((List aB) × Int) :=
  (lp (fun s => lX dL cP s.1 s.2.1 s.2.2) (f6, was7, i8)).bind (fun rr => rP rr)

noncomputable def tF (dL : (List Int)) (cP : (List Int)) : Option ((List aB) × Int) :=
  vO dL cP ([] : List aB) (0 : Int) (0 : Int)

noncomputable def xN (l0 : List aC) : Option (List aC) :=
  some l0

noncomputable def nA (r1 : (List aF)) (f2 : (List aB)) (l0 : List aC) (i7 : Int) : Option ((List aC × Int) ⊕ ((List aC))) :=
  cond (decide (i7 < ((List.length f2 : Nat) : Int)))
  (bB (List.length r1 * 32 ≤ 140737488355328 ∧ List.length r1 ≤ 9223372036854775807) <|
  bB (0 ≤ i7 ∧ i7 < ((List.length f2 : Nat) : Int)) <|
  bB (0 ≤ i7 ∧ i7 < ((List.length f2 : Nat) : Int)) <|
  bB ((List.length l0 + List.length ([aC.mk r1 ((List.getD f2 (Int.toNat i7) default).At) ((List.getD f2 (Int.toNat i7) default).Net)])) * 40 ≤ 140737488355328 ∧ List.length l0 + List.length ([aC.mk r1 ((List.getD f2 (Int.toNat i7) default).At) ((List.getD f2 (Int.toNat i7) default).Net)]) ≤ 9223372036854775807) <|
  some (.inl (l0 ++ ([aC.mk r1 ((List.getD f2 (Int.toNat i7) default).At) ((List.getD f2 (Int.toNat i7) default).Net)]), IntKind.i64.wrap (i7 + (1 : Int)))))
  (some (.inr l0))

noncomputable def xX (l0 : List aC) (r1 : (List aF)) (f2 : (List aB)) (i7 : Int) : Option (List aC) :=
  (lp (fun s => nA r1 f2 s.1 s.2) (l0, i7)).bind (fun rr => xN rr)

noncomputable def uR (l0 : (List aC)) (r1 : (List aF)) (f2 : (List aB)) : Option (List aC) :=
  xX l0 r1 f2 (0 : Int)

noncomputable def pE (out8 : List aC) : Option ((List aC) × Int) :=
  cond (decide ((4096 : Int) < ((List.length out8 : Nat) : Int)))
  (some ([], (7 : Int)))
  (some (out8, (0 : Int)))

noncomputable def vJ (l0 : (List aC)) (d1 : Int) (bK : Int) (out8 : List aC) (cD : (List (List aF))) (i10 : Int) : Option ((List aC × Int) ⊕ ((List aC) ⊕ ((List aC) × Int))) :=
  some (.inl (out8, IntKind.i64.wrap (i10 + (1 : Int))))

noncomputable def rI (l0 : (List aC)) (d1 : Int) (bK : Int) (out8 : List aC) (cD : (List (List aF))) (i10 : Int) (bX : (List Int)) (dA : List Int) : Option ((List aC × Int) ⊕ ((List aC) ⊕ ((List aC) × Int))) :=
  (tF bX dA).bind fun x30 =>
  cond (!decide (x30.2 = (0 : Int)))
  (some (.inr (.inr ([], x30.2))))
  (bB (0 ≤ i10 ∧ i10 < ((List.length cD : Nat) : Int)) <|
  (uR out8 (List.getD cD (Int.toNat i10) default) x30.1).bind fun x35 =>
  vJ l0 d1 bK x35 cD i10)

noncomputable def lW (l0 : (List aC)) (d1 : Int) (bK : Int) (cD : (List (List aF))) (i10 : Int) (f11 : (List aB)) (bX : (List Int)) (out8 : List aC) (dA : List Int) (k15 : Int) : Option ((List aC × List Int × Int) ⊕ ((List aC × List Int))) :=
  cond (decide (k15 < ((List.length bX : Nat) : Int)))
  (bB (0 ≤ k15 ∧ k15 < ((List.length bX : Nat) : Int)) <|
  (uZ f11 d1 bK (List.getD bX (Int.toNat k15) default)).bind fun x44 =>
  bB ((List.length dA + List.length ([x44])) * 8 ≤ 140737488355328 ∧ List.length dA + List.length ([x44]) ≤ 9223372036854775807) <|
  some (.inl (out8, dA ++ ([x44]), IntKind.i64.wrap (k15 + (1 : Int)))))
  (some (.inr (out8, dA)))

noncomputable def vU (l0 : (List aC)) (d1 : Int) (bK : Int) (out8 : List aC) (cD : (List (List aF))) (i10 : Int) (f11 : (List aB)) (bX : (List Int)) (dA : List Int) (k15 : Int) : Option ((List aC × Int) ⊕ ((List aC) ⊕ ((List aC) × Int))) :=
  (lp (fun s => lW l0 d1 bK cD i10 f11 bX s.1 s.2.1 s.2.2) (out8, dA, k15)).bind (fun rr => rI l0 d1 bK rr.1 cD i10 bX rr.2)

noncomputable def rF (l0 : (List aC)) (d1 : Int) (bK : Int) (out8 : List aC) (cD : (List (List aF))) (i10 : Int) (f11 : (List aB)) (bX : (List Int)) : Option ((List aC × Int) ⊕ ((List aC) ⊕ ((List aC) × Int))) :=
  vU l0 d1 bK out8 cD i10 f11 bX ([] : List Int) (0 : Int)

noncomputable def oV (l0 : (List aC)) (d1 : Int) (bK : Int) (out8 : List aC) (cD : (List (List aF))) (i10 : Int) (f11 : (List aB)) (bX : (List Int)) (k13 : Int) : Option ((List aC × (List Int) × Int) ⊕ ((List aC × (List Int)))) :=
  some (.inl (out8, bX, IntKind.i64.wrap (k13 + (1 : Int))))

noncomputable def mB (l0 : (List aC)) (d1 : Int) (bK : Int) (cD : (List (List aF))) (i10 : Int) (f11 : (List aB)) (out8 : List aC) (bX : (List Int)) (k13 : Int) : Option ((List aC × (List Int) × Int) ⊕ ((List aC × (List Int)))) :=
  cond (decide (k13 < ((List.length f11 : Nat) : Int)))
  (bB (0 ≤ k13 ∧ k13 < ((List.length f11 : Nat) : Int)) <|
  cond (decide ((0 : Int) ≤ ((List.getD f11 (Int.toNat k13) default).At)))
  (bB (0 ≤ k13 ∧ k13 < ((List.length f11 : Nat) : Int)) <|
  (qN bX ((List.getD f11 (Int.toNat k13) default).At)).bind fun x60 =>
  bB (0 ≤ k13 ∧ k13 < ((List.length f11 : Nat) : Int)) <|
  cond (decide ((IntKind.i64.wrap (((List.getD f11 (Int.toNat k13) default).At) + d1)) < (1125899906842624 : Int)))
  (bB (0 ≤ k13 ∧ k13 < ((List.length f11 : Nat) : Int)) <|
  (qN x60 (IntKind.i64.wrap (((List.getD f11 (Int.toNat k13) default).At) + d1))).bind fun x66 =>
  oV l0 d1 bK out8 cD i10 f11 x66 k13)
  (oV l0 d1 bK out8 cD i10 f11 x60 k13))
  (oV l0 d1 bK out8 cD i10 f11 bX k13))
  (some (.inr (out8, bX)))

noncomputable def vN (l0 : (List aC)) (d1 : Int) (bK : Int) (out8 : List aC) (cD : (List (List aF))) (i10 : Int) (f11 : (List aB)) (bX : (List Int)) (k13 : Int) : Option ((List aC × Int) ⊕ ((List aC) ⊕ ((List aC) × Int))) :=
  (lp (fun s => mB l0 d1 bK cD i10 f11 s.1 s.2.1 s.2.2) (out8, bX, k13)).bind (fun rr => rF l0 d1 bK rr.1 cD i10 f11 rr.2)

noncomputable def lU (l0 : (List aC)) (d1 : Int) (bK : Int) (cD : (List (List aF))) (out8 : List aC) (i10 : Int) : Option ((List aC × Int) ⊕ ((List aC) ⊕ ((List aC) × Int))) :=
  cond (decide (i10 < ((List.length cD : Nat) : Int)))
  (bB (0 ≤ i10 ∧ i10 < ((List.length cD : Nat) : Int)) <|
  (nG l0 (List.getD cD (Int.toNat i10) default)).bind fun x24 =>
  vN l0 d1 bK out8 cD i10 x24 ([]) (0 : Int))
  (some (.inr (.inl out8)))

noncomputable def vH (l0 : (List aC)) (d1 : Int) (bK : Int) (out8 : List aC) (cD : (List (List aF))) (i10 : Int) : Option ((List aC) × Int) :=
  (lp (fun s => lU l0 d1 bK cD s.1 s.2) (out8, i10)).bind (Sum.elim (fun rr => pE rr) (fun rr => some (rr.1, rr.2)))

noncomputable def sU (l0 : (List aC)) (d1 : Int) (bK : Int) : Option ((List aC) × Int) :=
  (sI l0).bind fun x1 =>
  cond (((!x1) || (decide (d1 < (1 : Int)))) || (decide ((1099511627776 : Int) < d1)))
  (some ([], (2 : Int)))
  ((rH l0).bind fun x5 =>
  cond (!x5)
  (some ([], (20 : Int)))
  ((xL bK).bind fun x9 =>
  cond (!x9)
  (some ([], (13 : Int)))
  ((oG l0).bind fun x13 =>
  vH l0 d1 bK ([] : List aC) x13 (0 : Int))))

noncomputable def rZ  : Option Bool :=
  some true

noncomputable def pJ (a0 : (List aC)) (b1 : (List aC)) (i5 : Int) : Option ((Int) ⊕ (Unit ⊕ Bool)) :=
  cond (decide (i5 < ((List.length a0 : Nat) : Int)))
  (bB (0 ≤ i5 ∧ i5 < ((List.length a0 : Nat) : Int)) <|
  bB (0 ≤ i5 ∧ i5 < ((List.length b1 : Nat) : Int)) <|
  bB ((((!(!decide (((List.getD a0 (Int.toNat i5) default).At) = ((List.getD b1 (Int.toNat i5) default).At))))) = true → 0 ≤ i5 ∧ i5 < ((List.length a0 : Nat) : Int))) <|
  bB ((((!(!decide (((List.getD a0 (Int.toNat i5) default).At) = ((List.getD b1 (Int.toNat i5) default).At))))) = true → 0 ≤ i5 ∧ i5 < ((List.length b1 : Nat) : Int))) <|
  bB ((((!((!decide (((List.getD a0 (Int.toNat i5) default).At) = ((List.getD b1 (Int.toNat i5) default).At))) || (!decide (((List.getD a0 (Int.toNat i5) default).Net) = ((List.getD b1 (Int.toNat i5) default).Net)))))) = true → 0 ≤ i5 ∧ i5 < ((List.length a0 : Nat) : Int))) <|
  bB ((((!((!decide (((List.getD a0 (Int.toNat i5) default).At) = ((List.getD b1 (Int.toNat i5) default).At))) || (!decide (((List.getD a0 (Int.toNat i5) default).Net) = ((List.getD b1 (Int.toNat i5) default).Net)))))) = true → 0 ≤ i5 ∧ i5 < ((List.length b1 : Nat) : Int))) <|
  (dK (!((!decide (((List.getD a0 (Int.toNat i5) default).At) = ((List.getD b1 (Int.toNat i5) default).At))) || (!decide (((List.getD a0 (Int.toNat i5) default).Net) = ((List.getD b1 (Int.toNat i5) default).Net))))) (oJ ((List.getD a0 (Int.toNat i5) default).Row) ((List.getD b1 (Int.toNat i5) default).Row))).bind fun x9 =>
  cond (((!decide (((List.getD a0 (Int.toNat i5) default).At) = ((List.getD b1 (Int.toNat i5) default).At))) || (!decide (((List.getD a0 (Int.toNat i5) default).Net) = ((List.getD b1 (Int.toNat i5) default).Net)))) || (!x9))
  (some (.inr (.inr false)))
  (some (.inl (IntKind.i64.wrap (i5 + (1 : Int))))))
  (some (.inr (.inl ())))

noncomputable def vI (a0 : (List aC)) (b1 : (List aC)) (i5 : Int) : Option Bool :=
  (lp (fun s => pJ a0 b1 s) i5).bind (Sum.elim (fun rr => rZ ) (fun rr => some rr))

noncomputable def tA (a0 : (List aC)) (b1 : (List aC)) : Option Bool :=
  cond (!decide (((List.length a0 : Nat) : Int) = ((List.length b1 : Nat) : Int)))
  (some false)
  (vI a0 b1 (0 : Int))

noncomputable def pZ (l0 : (List aC)) (d1 : Int) (bK : Int) : Option Bool :=
  (yO l0).bind fun x1 =>
  cond (!x1)
  ((qE ).bind fun x5 =>
  some x5)
  ((pP l0 d1 bK).bind fun x8 =>
  (sU l0 d1 bK).bind fun x11 =>
  (qE ).bind fun x14 =>
  (dK (x14 && (decide (x8.2 = x11.2))) (tA x8.1 x11.1)).bind fun x17 =>
  (dK ((!(!decide (x8.2 = (0 : Int)))) && (((x14 && (decide (x8.2 = x11.2))) && x17))) (qH x8.1)).bind fun x20 =>
  some (((x14 && (decide (x8.2 = x11.2))) && x17) && ((!decide (x8.2 = (0 : Int))) || x20)))

end Go.Abs
namespace Go.Abs
open Go Go.RowKit
def AW (x : aF) : Prop := yB x.Kind ∧ yB x.Num ∧ (fun s => s.size ≤ maxLen) x.Text ∧ True

def uX (x : aC) : Prop := (fun l => (∀ a ∈ l, AW a) ∧ l.length * 32 ≤ 140737488351232) x.Row ∧ yB x.At ∧ yB x.Net ∧ True

end Go.Abs
namespace Go.Abs
open Go Go.RowKit Go.Proofs
noncomputable def tt : TT := ⟨US Try.prog, OQ Try.prog⟩

theorem aH : eC Try.prog tt := eC.of Try.prog

theorem RX (l0 : (List aC)) (r : Bool) (h0 : yO l0 = some r) : bV Try.prog 12 [(eL aD l0)] (aK r) := by
  intro H0
  refine cC Try.func12 ?_
  have hO := aL.start H0
  unfold yO at h0
  refine aT aH 1 [] [] ?_
  refine bN aH 4 [(2, (aK (decide ((lN l0) ≤ (60 : Int)))))] ?_
  refine bI ?_
  obtain rfl := oI h0
  exact aJ (Q_r hO)

theorem HO (l0 : (List aC)) (r : (List aC)) (h0 : sE l0 = some r) : bV Try.prog 70 [(eL aD l0)] (.fn (.func 104) [] [(.rp (eL aD r))]) := by
  intro H0
  refine cC Try.func70 ?_
  have hO := aL.start H0
  unfold sE at h0
  refine aO ?_
  refine aW aH 2 ?_
  refine jW 1 (eL aD l0) (by kernel_rfl) (by kernel_rfl) ?_
  refine bC ?_
  refine bD [(1, (.rp (eL aD l0)))] ?_
  refine bN aH 2 [(2, (.fn (.func 104) [] [(.rp (eL aD l0))]))] ?_
  refine bI ?_
  obtain rfl := oI h0
  exact aJ (pM (x := (.fn (.func 104) [] [(.rp (eL aD l0))])) (by kernel_rfl) (aR.refl _) ⟨rfl, hO.out⟩)

theorem wE (s10 : (List aF)) (s21 : (List aF)) (r : Bool) (h0 : iB s10 s21 = some r) : bV Try.prog 106 [(eL aG s10), (eL aG s21)] (aK r) := by
  intro H0
  refine cC Try.func106 ?_
  have hO := aL.start H0
  unfold iB at h0
  refine aT aH 1 [] [] ?_
  refine aO ?_
  refine aT aH 5 [] [(10, (aK (!decide ((lN s10) = (lN s21)))))] ?_
  refine bE h0 (fun h0 => ?_) (fun h0 => ?_)
  · refine bN aH 1 [(4, (aK false))] ?_
    refine bI ?_
    obtain rfl := oI h0
    exact aJ (aP (Q_r hO))
  refine bH ?_
  refine bD [(0, (eL aG s10)), (1, (eL aG s21))] ?_
  refine cE (fun T H => Has T [] ∧ aL ⟨H0, [], []⟩ H [] ∧ eB  = some r) ?_ ?_
  · clear hO h0
    rintro T H ⟨hT, hO, h0⟩
    refine aZ hT ?_
    clear hT
    unfold eB at h0
    refine bN aH 1 [(4, (aK true))] ?_
    refine bI ?_
    obtain rfl := oI h0
    exact aJ (Q_r hO)
  refine aT aH 3 [] [(12, (eI (lN s10))), (13, (eI (0 : Int)))] ?_
  refine bP 0 ?_
  refine cO [(0, (eL aG s10)), (1, (eL aG s21)), (12, (eI (lN s10))), (13, (eI (0 : Int)))] ?_
  refine cF (fun T H => ∃ t12 : Int, ∃ t13 : Int, Has T [(0, (eL aG s10)), (1, (eL aG s21)), (12, (eI t12)), (13, (eI t13))] ∧ aL ⟨H0, [], []⟩ H [] ∧ gM s10 s21 t12 t13 = some r) ?_ ⟨(lN s10), (0 : Int), .eq (by kernel_rfl), hO, h0⟩
  clear hO h0
  rintro T H ⟨t12, t13, hT, hO, h0⟩
  refine aZ hT ?_
  clear hT
  unfold gM at h0
  obtain ⟨rr0, hl0, h0⟩ := aY h0
  refine bW (by kernel_rfl) (fun (s : Int) T H => Has T [(0, (eL aG s10)), (1, (eL aG s21)), (12, (eI t12)), (13, (eI s))] ∧ aL ⟨H0, [], []⟩ H []) hl0 ⟨.eq (by kernel_rfl), hO⟩ ?_
  clear hO
  rintro k0 s out1 T H ⟨hT, hO⟩ h1 ho0
  obtain ⟨t13, rfl⟩ : ∃ x, x = s := ⟨_, rfl⟩
  replace h1 : dB s10 s21 t12 t13 = some out1 := h1
  refine aZ hT ?_
  clear hT
  unfold dB at h1
  refine aT aH 1 [] [(14, (aK (decide (t13 < t12))))] ?_
  refine aO ?_
  refine bE h1 (fun h1 => ?_) (fun h1 => ?_)
  · refine bH ?_
    refine bD [(0, (eL aG s10)), (1, (eL aG s21)), (12, (eI t12)), (13, (eI t13))] ?_
    refine aO ?_
    refine bP 1 ?_
    refine aT aH 2 [] [(5, (eI t13))] ?_
    refine aO ?_
    refine fD (fH [19, 23]) aH 9 ?_
    obtain ⟨c3, h1⟩ := bA h1
    obtain ⟨c4, h1⟩ := bA h1
    refine BQ (Ds := [0 ≤ t13 ∧ t13 < (lN s10), 0 ≤ t13 ∧ t13 < (lN s21)]) (by kernel_rfl) ⟨c3, c4, trivial⟩ ?_
    refine bQ [5] [(24, (aK (!((decide (((gD s10 t13).Kind) = ((gD s21 t13).Kind))) && ((decide (((gD s10 t13).Num) = ((gD s21 t13).Num))) && ((mQ ((gD s10 t13).Text) ((gD s21 t13).Text)) && true))))))] ?_
    refine bE h1 (fun h1 => ?_) (fun h1 => ?_)
    · refine bN aH 1 [(4, (aK false))] ?_
      refine bI ?_
      obtain rfl := oI h1
      obtain rfl : _ = rr0 := ho0
      replace h0 : some false = some r := h0
      obtain rfl := oI h0
      exact aJ (bM (aP (aP (bM (aP (Q_r hO))))))
    refine bH ?_
    refine dY [(0, (eL aG s10)), (1, (eL aG s21)), (12, (eI t12)), (13, (eI t13))] ?_
    refine aJ (aU (aI (?_)))
    refine aW aH 2 ?_
    refine bC ?_
    exact aJ (aI (⟨rfl, _, (oI h1).symm, .eq (by kernel_rfl), hO⟩))
  refine cS 0 ?_
  obtain rfl := oI h1
  obtain rfl : _ = rr0 := ho0
  replace h0 : eB  = some r := h0
  exact aJ (aS (aS (bL (aI (⟨rfl, .eq (by kernel_rfl), hO, h0⟩)))))

theorem VW (a0 : (List aF)) (b1 : (List aF)) (r : Bool) (h0 : xJ a0 b1 = some r) : bV Try.prog 77 [(eL aG a0), (eL aG b1)] (aK r) := by
  intro H0
  refine cC Try.func77 ?_
  have hO := aL.start H0
  unfold xJ at h0
  refine aT aH 1 [] [] ?_
  refine aO ?_
  refine aW aH 4 ?_
  refine bS 2 ?_
  obtain ⟨x1, hx2, h0⟩ := aY h0
  refine cJ (wE a0 b1 _ hx2) hO ?_
  intro H hO
  refine bC ?_
  refine bD [(4, (aK x1))] ?_
  refine bI ?_
  obtain rfl := oI h0
  exact aJ (Q_r hO)

theorem JW (r0 : (List aF)) (r : (List aF)) (h0 : tZ r0 = some r) : bV Try.prog 105 [(eL aG r0)] (eL aG r) := by
  intro H0
  refine cC Try.func105 ?_
  have hO := aL.start H0
  unfold tZ at h0
  refine aT aH 1 [] [] ?_
  refine aO ?_
  refine aW aH 6 ?_
  refine bS 2 ?_
  obtain ⟨c1, h0⟩ := bA h0
  refine TW 3 32 (lN r0) (by kernel_rfl) (by kernel_rfl) c1 hO ?_
  intro lo2 H hO
  refine bS 4 ?_
  obtain ⟨c4, h0⟩ := bA h0
  refine wM (e := aG) ([] : List aF) r0 0 lo2 3 32 (eL aG r0) (fun lo3 => [(lo3, 3, List.map aG (([] : List aF) ++ r0))]) (by kernel_rfl) (by kernel_rfl) hO (by kernel_rfl) (HC (fun _ => by kernel_rfl)) c4 (fun _ => by kernel_rfl) ?_
  intro lo3 H hO
  refine bC ?_
  refine bD [(2, (.msl 3 lo3 0 (List.length (([] : List aF) ++ r0))))] ?_
  refine bI ?_
  refine dY [(2, (.msl 3 lo3 0 (List.length (([] : List aF) ++ r0))))] ?_
  refine zB (en := aG) (([] : List aF) ++ r0) 0 0 2 3 lo3 (List.length (([] : List aF) ++ r0)) hO (by kernel_rfl) (by kernel_rfl) (by kernel_rfl) (L' := []) (by kernel_rfl) ?_
  intro H5 hO
  obtain rfl := oI h0
  exact aJ (Q_r hO)

theorem BR {σ : Type} (I : σ → Gs → Prop) (yield0_b : Nat) (kX : σ → (List aF) → (List aB) → Option (σ × Bool)) (yield0_h : ∀ st a0 a1 st2 r, kX st a0 a1 = some (st2, r) → NY Try.prog (yv yield0_b) I st [(eL aG a0), (eL aE a1)] st2 (aK r)) (t1 : (List aC)) (sg0 : σ) (r : σ) (h0 : nB kX t1 sg0 = some r) : BV Try.prog 104 I sg0 [(yv yield0_b), (.rp (eL aD t1))] r (.tup []) := by
  intro H0 G0 hI hg
  refine cC Try.func104 ?_
  obtain ⟨G, hO, hI⟩ : ∃ G, aL ⟨H0, List.map (fun p : Nat × cV => p.1) G0, G⟩ H0 [] ∧ I sg0 G := ⟨G0, aL.RM hg, hI⟩
  clear hg
  unfold nB at h0
  refine aT aH 1 [] [(3, (eI (0 : Int)))] ?_
  refine bP 0 ?_
  refine cO [(0, (yv yield0_b)), (1, (.rp (eL aD t1))), (3, (eI (0 : Int)))] ?_
  refine cF (fun T H => ∃ sg : σ, ∃ i3 : Int, ∃ G : Gs, Has T [(0, (yv yield0_b)), (1, (.rp (eL aD t1))), (3, (eI i3))] ∧ aL ⟨H0, List.map (fun p : Nat × cV => p.1) G0, G⟩ H [] ∧ I sg G ∧ qY kX sg t1 i3 = some r) ?_ ⟨sg0, (0 : Int), G, .eq (by kernel_rfl), hO, hI, h0⟩
  clear hO hI h0
  rintro T H ⟨sg, i3, G, hT, hO, hI, h0⟩
  refine aZ hT ?_
  clear hT
  unfold qY at h0
  obtain ⟨rr0, hl0, h0⟩ := aY h0
  refine bW (by kernel_rfl) (fun (s : σ × Int) T H => ∃ G : Gs, Has T [(0, (yv yield0_b)), (1, (.rp (eL aD t1))), (3, (eI s.2))] ∧ aL ⟨H0, List.map (fun p : Nat × cV => p.1) G0, G⟩ H [] ∧ I s.1 G) hl0 ⟨G, .eq (by kernel_rfl), hO, hI⟩ ?_
  clear hO hI
  rintro k0 s out1 T H ⟨G, hT, hO, hI⟩ h1 ho0
  obtain ⟨sg, i3⟩ := s
  replace h1 : fJ kX t1 sg i3 = some out1 := h1
  dsimp only at hT
  refine aZ hT ?_
  clear hT
  unfold fJ at h1
  refine aO ?_
  refine aT aH 4 [] [(9, (aK (decide (i3 < (lN t1)))))] ?_
  refine bE h1 (fun h1 => ?_) (fun h1 => ?_)
  · refine bH ?_
    refine bD [(0, (yv yield0_b)), (1, (.rp (eL aD t1))), (3, (eI i3))] ?_
    refine bP 1 ?_
    refine aO ?_
    refine aW aH 6 ?_
    obtain ⟨c2, h1⟩ := bA h1
    refine nO [0 ≤ i3 ∧ i3 < (lN t1)] ⟨c2, trivial⟩ ?_
    refine bQ [] [(4, (eL aG ((gD t1 i3).Row)))] ?_
    refine aO ?_
    refine aW aH 2 ?_
    refine mS (xs := []) (k := 2) (by kernel_rfl) (by kernel_rfl) ?_
    refine bC ?_
    refine bQ [] [(5, (.sl true 0 (fun _ => .bad)))] ?_
    refine cE (fun T H => ∃ sg : σ, ∃ i3 : Int, ∃ r4 : (List aF), ∃ f5 : List aB, ∃ lo3 : Nat, ∃ G : Gs, Has T [(0, (yv yield0_b)), (1, (.rp (eL aD t1))), (3, (eI i3)), (4, (eL aG r4)), (5, (.msl 2 lo3 0 (List.length f5)))] ∧ aL ⟨H0, List.map (fun p : Nat × cV => p.1) G0, G⟩ H [(lo3, 2, List.map aE f5)] ∧ I sg G ∧ oH kX sg t1 i3 r4 f5 = some out1) ?_ ?_
    · clear hO hI h1
      rintro T H ⟨sg, i3, r4, f5, lo3, G, hT, hO, hI, h1⟩
      refine aZ hT ?_
      clear hT
      unfold oH at h1
      refine aO ?_
      refine aW aH 6 ?_
      refine wT (e := aE) f5 0 5 2 lo3 (List.length f5) [] (by kernel_rfl) hO (by kernel_rfl) (by kernel_rfl) (by kernel_rfl) (by kernel_rfl) ?_
      intro H hO
      refine bS 2 ?_
      obtain ⟨x7, hx8, h1⟩ := aY h1
      refine cJ (JW r4 _ hx8) hO ?_
      intro H hO
      refine bS 4 ?_
      obtain ⟨x10, hx11, h1⟩ := aY h1
      refine TO (I := I) (yv yield0_b) [(eL aG x7), (eL aE f5)] (aK x10.2) (by kernel_rfl) (by kernel_rfl) (yield0_h _ x7 f5 x10.1 x10.2 hx11) hO hI ?_
      intro G H hO hI
      refine bC ?_
      refine bQ [4, 5] [(50, (aK (!x10.2)))] ?_
      refine bE h1 (fun h1 => ?_) (fun h1 => ?_)
      · refine bI ?_
        obtain rfl := oI h1
        obtain rfl : _ = rr0 := ho0
        replace h0 : some x10.1 = some r := h0
        obtain rfl := oI h0
        exact aJ (bM (aP (bM (pM (x := (.tup [])) (by kernel_rfl) (aR.refl _) ⟨rfl, G, hI, hO.OI⟩))))
      refine bH ?_
      exact aJ (aU (aI (⟨rfl, _, (oI h1).symm, _, .eq (by kernel_rfl), hO, hI⟩)))
    refine bP 2 ?_
    refine cO [(0, (yv yield0_b)), (1, (.rp (eL aD t1))), (3, (eI i3)), (4, (eL aG ((gD t1 i3).Row))), (5, (.sl true 0 (fun _ => .bad)))] ?_
    refine yZ (el := (fun _ => .bad)) 4 5 2 hO (by kernel_rfl) ?_
    intro lo24 H25 hO
    refine cF (fun T H => ∃ sg : σ, ∃ i3 : Int, ∃ r4 : (List aF), ∃ f5 : List aB, ∃ lo14 : Nat, ∃ G : Gs, Has T [(0, (yv yield0_b)), (1, (.rp (eL aD t1))), (3, (eI i3)), (4, (eL aG r4)), (5, (.msl 2 lo14 0 (List.length f5)))] ∧ aL ⟨H0, List.map (fun p : Nat × cV => p.1) G0, G⟩ H [(lo14, 2, List.map aE f5)] ∧ I sg G ∧ qV kX sg t1 i3 r4 f5 = some out1) ?_ ⟨sg, i3, (gD t1 i3).Row, ([] : List aB), lo24, G, .eq (by kernel_rfl), hO, hI, h1⟩
    clear hO hI h1
    rintro T H ⟨sg, i3, r4, f5, lo14, G, hT, hO, hI, h1⟩
    refine aZ hT ?_
    clear hT
    unfold qV at h1
    obtain ⟨rr1, hl1, h1⟩ := aY h1
    refine bW (by kernel_rfl) (fun (s : σ × Int × List aB) T H => ∃ lo14 : Nat, ∃ G : Gs, Has T [(0, (yv yield0_b)), (1, (.rp (eL aD t1))), (3, (eI s.2.1)), (4, (eL aG r4)), (5, (.msl 2 lo14 0 (List.length s.2.2)))] ∧ aL ⟨H0, List.map (fun p : Nat × cV => p.1) G0, G⟩ H [(lo14, 2, List.map aE s.2.2)] ∧ I s.1 G) hl1 ⟨lo14, G, .eq (by kernel_rfl), hO, hI⟩ ?_
    clear hO hI
    rintro k1 s out2 T H ⟨lo14, G, hT, hO, hI⟩ h2 ho1
    obtain ⟨sg, i3, f5⟩ := s
    replace h2 : gT kX t1 r4 sg i3 f5 = some out2 := h2
    dsimp only at hT
    refine aZ hT ?_
    clear hT
    unfold gT at h2
    refine aO ?_
    refine aO ?_
    refine aW aH 13 ?_
    obtain ⟨c15, h2⟩ := bA h2
    refine nH 11 [(((decide (i3 < (lN t1)))) = true → 0 ≤ i3 ∧ i3 < (lN t1))] ⟨c15, trivial⟩ ?_
    obtain ⟨x16, hx17, h2⟩ := aY h2
    refine pF [(20, true)] 77 [(eL aG ((gD t1 i3).Row)), (eL aG r4)] (aK x16) (decide (i3 < (lN t1))) (by kernel_rfl) (by kernel_rfl) (by kernel_rfl) (fun hb18 => (VW ((gD t1 i3).Row) r4 _ (nI hx17 hb18))) hO ?_
    intro H hO
    refine bC ?_
    refine bQ [] [(28, (aK ((decide (i3 < (lN t1))) && x16)))] ?_
    refine bE h2 (fun h2 => ?_) (fun h2 => ?_)
    · refine bH ?_
      refine bD [(0, (yv yield0_b)), (1, (.rp (eL aD t1))), (3, (eI i3)), (4, (eL aG r4)), (5, (.msl 2 lo14 0 (List.length f5)))] ?_
      refine aO ?_
      refine bP 3 ?_
      refine fD (fH [32, 36, 37, 41]) aH 15 ?_
      obtain ⟨c20, h2⟩ := bA h2
      obtain ⟨c21, h2⟩ := bA h2
      refine cN 12 [0 ≤ i3 ∧ i3 < (lN t1), 0 ≤ i3 ∧ i3 < (lN t1)] ⟨c20, c21, trivial⟩ ?_
      refine CB (xs := [(aE (aB.mk ((gD t1 i3).At) ((gD t1 i3).Net)))]) (k := 2) (by kernel_rfl) (by kernel_rfl) ?_
      obtain ⟨c23, h2⟩ := bA h2
      refine AQ (e := aE) f5 ([aB.mk ((gD t1 i3).At) ((gD t1 i3).Net)]) 0 lo14 2 16 (fA [(aE (aB.mk ((gD t1 i3).At) ((gD t1 i3).Net)))]) (fun lo22 => [(lo22, 2, List.map aE (f5 ++ ([aB.mk ((gD t1 i3).At) ((gD t1 i3).Net)])))]) (by kernel_rfl) (by kernel_rfl) hO (by kernel_rfl) (by kernel_rfl) c23 (fun _ => by kernel_rfl) ?_
      intro lo22 H hO
      refine iU ?_
      refine dY [(0, (yv yield0_b)), (1, (.rp (eL aD t1))), (3, (eI i3)), (4, (eL aG r4)), (5, (.msl 2 lo22 0 (List.length (f5 ++ ([aB.mk ((gD t1 i3).At) ((gD t1 i3).Net)])))))] ?_
      refine aJ (aU (aI (?_)))
      refine aW aH 3 ?_
      refine bC ?_
      exact aJ (aI (⟨rfl, _, (oI h2).symm, _, _, .eq (by kernel_rfl), hO, hI⟩))
    refine cS 2 ?_
    obtain rfl := oI h2
    obtain rfl : _ = rr1 := ho1
    replace h1 : oH kX sg t1 i3 r4 f5 = some out1 := h1
    exact aJ (aS (aS (bL (aI (⟨rfl, _, _, _, _, _, _, .eq (by kernel_rfl), hO, hI, h1⟩)))))
  refine cS 0 ?_
  obtain rfl := oI h1
  obtain rfl : _ = rr0 := ho0
  replace h0 : some sg = some r := h0
  obtain rfl := oI h0
  exact aJ (aS (aS (bL (qZ (x := (.tup [])) (by kernel_rfl) (aR.refl _) ⟨rfl, G, hI, hO.OI⟩))))

theorem tW (s0 : (List aF)) (f1_f : Nat) (f1_a f1_c : List V) (f1 : aF → Option Bool) (f1_h : ∀ a0 r, f1 a0 = some r → bV Try.prog f1_f (f1_a ++ [(aG a0)] ++ f1_c) (aK r)) (r : Int) (h0 : fG s0 f1 = some r) : bV Try.prog 91 [(eL aG s0), (.fn (.func f1_f) f1_a f1_c)] (eI r) := by
  intro H0
  refine cC Try.func91 ?_
  have hO := aL.start H0
  unfold fG at h0
  refine aT aH 1 [] [] ?_
  refine cE (fun T H => Has T [] ∧ aL ⟨H0, [], []⟩ H [] ∧ dH f1  = some r) ?_ ?_
  · clear hO h0
    rintro T H ⟨hT, hO, h0⟩
    refine aZ hT ?_
    clear hT
    unfold dH at h0
    refine bN aH 1 [(4, (eI (-1 : Int)))] ?_
    refine bI ?_
    obtain rfl := oI h0
    exact aJ (Q_r hO)
  refine aT aH 3 [] [(7, (eI (lN s0))), (8, (eI (0 : Int)))] ?_
  refine bP 0 ?_
  refine cO [(0, (eL aG s0)), (1, (.fn (.func f1_f) f1_a f1_c)), (7, (eI (lN s0))), (8, (eI (0 : Int)))] ?_
  refine cF (fun T H => ∃ t7 : Int, ∃ t8 : Int, Has T [(0, (eL aG s0)), (1, (.fn (.func f1_f) f1_a f1_c)), (7, (eI t7)), (8, (eI t8))] ∧ aL ⟨H0, [], []⟩ H [] ∧ eV f1 s0 t7 t8 = some r) ?_ ⟨(lN s0), (0 : Int), .eq (by kernel_rfl), hO, h0⟩
  clear hO h0
  rintro T H ⟨t7, t8, hT, hO, h0⟩
  refine aZ hT ?_
  clear hT
  unfold eV at h0
  obtain ⟨rr0, hl0, h0⟩ := aY h0
  refine bW (by kernel_rfl) (fun (s : Int) T H => Has T [(0, (eL aG s0)), (1, (.fn (.func f1_f) f1_a f1_c)), (7, (eI t7)), (8, (eI s))] ∧ aL ⟨H0, [], []⟩ H []) hl0 ⟨.eq (by kernel_rfl), hO⟩ ?_
  clear hO
  rintro k0 s out1 T H ⟨hT, hO⟩ h1 ho0
  obtain ⟨t8, rfl⟩ : ∃ x, x = s := ⟨_, rfl⟩
  replace h1 : eU f1 s0 t7 t8 = some out1 := h1
  refine aZ hT ?_
  clear hT
  unfold eU at h1
  refine aT aH 1 [] [(9, (aK (decide (t8 < t7))))] ?_
  refine aO ?_
  refine bE h1 (fun h1 => ?_) (fun h1 => ?_)
  · refine bH ?_
    refine bD [(0, (eL aG s0)), (1, (.fn (.func f1_f) f1_a f1_c)), (7, (eI t7)), (8, (eI t8))] ?_
    refine aO ?_
    refine bP 1 ?_
    refine aT aH 2 [] [(5, (eI t8))] ?_
    refine aO ?_
    refine aW aH 6 ?_
    obtain ⟨c2, h1⟩ := bA h1
    refine nH 5 [0 ≤ t8 ∧ t8 < (lN s0)] ⟨c2, trivial⟩ ?_
    obtain ⟨x3, hx4, h1⟩ := aY h1
    refine cJ (f1_h (gD s0 t8) _ hx4) hO ?_
    intro H hO
    refine cZ ?_
    refine bQ [] [(16, (aK x3))] ?_
    refine bE h1 (fun h1 => ?_) (fun h1 => ?_)
    · refine bN aH 2 [(4, (eI t8))] ?_
      refine bI ?_
      obtain rfl := oI h1
      obtain rfl : _ = rr0 := ho0
      replace h0 : some t8 = some r := h0
      obtain rfl := oI h0
      exact aJ (bM (aP (aP (bM (aP (Q_r hO))))))
    refine bH ?_
    refine dY [(0, (eL aG s0)), (1, (.fn (.func f1_f) f1_a f1_c)), (7, (eI t7)), (8, (eI t8))] ?_
    refine aJ (aU (aI (?_)))
    refine aW aH 2 ?_
    refine bC ?_
    exact aJ (aI (⟨rfl, _, (oI h1).symm, .eq (by kernel_rfl), hO⟩))
  refine cS 0 ?_
  obtain rfl := oI h1
  obtain rfl : _ = rr0 := ho0
  replace h0 : dH f1  = some r := h0
  exact aJ (aS (aS (bL (aI (⟨rfl, .eq (by kernel_rfl), hO, h0⟩)))))

theorem rY (s0 : (List aF)) (f1_f : Nat) (f1_a f1_c : List V) (f1 : aF → Option Bool) (f1_h : ∀ a0 r, f1 a0 = some r → bV Try.prog f1_f (f1_a ++ [(aG a0)] ++ f1_c) (aK r)) (r : Bool) (h0 : cY s0 f1 = some r) : bV Try.prog 87 [(eL aG s0), (.fn (.func f1_f) f1_a f1_c)] (aK r) := by
  intro H0
  refine cC Try.func87 ?_
  have hO := aL.start H0
  unfold cY at h0
  refine aT aH 1 [] [] ?_
  refine aO ?_
  refine aW aH 5 ?_
  refine bS 2 ?_
  obtain ⟨x1, hx2, h0⟩ := aY h0
  refine cJ (tW s0 f1_f f1_a f1_c f1 f1_h _ hx2) hO ?_
  intro H hO
  refine bC ?_
  refine bD [(4, (aK (decide ((0 : Int) ≤ x1))))] ?_
  refine bI ?_
  obtain rfl := oI h0
  exact aJ (Q_r hO)

theorem xY (v0 : aF) (r : (bJ × Bool)) (h0 : kO v0 = some r) : bV Try.prog 111 [(aG v0)] (.tup [(bF r.1), (aK r.2)]) := by
  intro H0
  refine cC Try.func111 ?_
  have hO := aL.start H0
  unfold kO at h0
  refine aO ?_
  refine aW aH 3 ?_
  refine jW 3 (aG v0) (by kernel_rfl) (by kernel_rfl) ?_
  refine bC ?_
  refine bD [(1, (.rp (aG v0)))] ?_
  refine aO ?_
  refine bP 0 ?_
  refine aT aH 9 [] [(4, (aK ((decide (v0.Kind = (1 : Int))) && (mQ v0.Text (⟨#[]⟩ : ByteArray)))))] ?_
  refine bE h0 (fun h0 => ?_) (fun h0 => ?_)
  · refine bN aH 5 [(2, (bF (bJ.k_number v0.Num))), (3, (aK true))] ?_
    refine bI ?_
    obtain rfl := oI h0
    exact aJ (bM (aP (Q_r hO)))
  refine aT aH 15 [4] [(16, (aK (((decide (v0.Kind = (2 : Int))) && (decide (v0.Num = (0 : Int)))) && (decide (((ByteArray.size v0.Text : Nat) : Int) ≤ (64 : Int))))))] ?_
  refine bE h0 (fun h0 => ?_) (fun h0 => ?_)
  · refine bN aH 5 [(2, (bF (bJ.k_words v0.Text))), (3, (aK true))] ?_
    refine bI ?_
    obtain rfl := oI h0
    exact aJ (bM (aP (Q_r hO)))
  refine bH ?_
  refine dY [] ?_
  refine aJ (aU (aI (?_)))
  refine bN aH 2 [(2, (bF bJ.none_)), (3, (aK false))] ?_
  refine bI ?_
  obtain rfl := oI h0
  exact aJ (Q_r hO)

theorem SJ (v0 : aF) (r : Bool) (h0 : uV v0 = some r) : bV Try.prog 89 [(aG v0)] (aK r) := by
  intro H0
  refine cC Try.func89 ?_
  have hO := aL.start H0
  unfold uV at h0
  refine aO ?_
  refine aW aH 2 ?_
  refine jW 3 (aG v0) (by kernel_rfl) (by kernel_rfl) ?_
  refine bC ?_
  refine bD [(1, (.rp (aG v0)))] ?_
  refine aO ?_
  refine aW aH 7 ?_
  refine bS 1 ?_
  obtain ⟨⟨x1_0, x1_1⟩, hx2, h0⟩ := aY h0
  refine cJ (xY v0 _ hx2) hO ?_
  intro H hO
  rcases x1_0 with _ | y4 | y5
  · replace h0 : (some x1_1) = some r := h0
    refine bC ?_
    refine bD [(4, (aK x1_1))] ?_
    refine bN aH 2 [(2, (aK x1_1))] ?_
    refine bI ?_
    obtain rfl := oI h0
    exact aJ (Q_r hO)
  · replace h0 : (some x1_1) = some r := h0
    refine bC ?_
    refine bD [(4, (aK x1_1))] ?_
    refine bN aH 2 [(2, (aK x1_1))] ?_
    refine bI ?_
    obtain rfl := oI h0
    exact aJ (Q_r hO)
  · replace h0 : (some x1_1) = some r := h0
    refine bC ?_
    refine bD [(4, (aK x1_1))] ?_
    refine bN aH 2 [(2, (aK x1_1))] ?_
    refine bI ?_
    obtain rfl := oI h0
    exact aJ (Q_r hO)

theorem SM (v0 : aF) (r : Bool) (h0 : vD v0 = some r) : bV Try.prog 88 [(aG v0)] (aK r) := by
  intro H0
  refine cC Try.func88 ?_
  have hO := aL.start H0
  unfold vD at h0
  refine aO ?_
  refine aW aH 2 ?_
  refine jW 3 (aG v0) (by kernel_rfl) (by kernel_rfl) ?_
  refine bC ?_
  refine bD [(1, (.rp (aG v0)))] ?_
  refine aO ?_
  refine aW aH 4 ?_
  refine bS 1 ?_
  obtain ⟨x1, hx2, h0⟩ := aY h0
  refine cJ (SJ v0 _ hx2) hO ?_
  intro H hO
  refine bC ?_
  refine bD [(2, (aK (!x1)))] ?_
  refine bI ?_
  obtain rfl := oI h0
  exact aJ (Q_r hO)

theorem CH (r0 : (List aF)) (r : Bool) (h0 : qS r0 = some r) : bV Try.prog 55 [(eL aG r0)] (aK r) := by
  intro H0
  refine cC Try.func55 ?_
  have hO := aL.start H0
  unfold qS at h0
  refine aT aH 1 [] [] ?_
  refine aO ?_
  refine aT aH 3 [] [(5, (aK (decide ((8 : Int) < (lN r0)))))] ?_
  refine bE h0 (fun h0 => ?_) (fun h0 => ?_)
  · refine bN aH 1 [(2, (aK false))] ?_
    refine bI ?_
    obtain rfl := oI h0
    exact aJ (aP (Q_r hO))
  refine bH ?_
  refine bD [(0, (eL aG r0))] ?_
  refine aO ?_
  refine aW aH 4 ?_
  refine bS 1 ?_
  obtain ⟨x2, hx3, h0⟩ := aY h0
  refine cJ (rY r0 88 [] [] (fun y0 => vD y0) (fun y0 r h => SM y0 r h) _ hx3) hO ?_
  intro H hO
  refine bC ?_
  refine bD [(2, (aK (!x2)))] ?_
  refine bI ?_
  obtain rfl := oI h0
  exact aJ (Q_r hO)

theorem KR (t0 : (List aF)) (r : (Int × (List aF))) (h0 : sQ t0 = some r) : AH Try.prog 92 [(.rp (eL aG t0))] (fun lo => (.fn (.func 93) [] [(.lp lo 0 0), (.rp (eL aG r.2))])) 1 [(eI r.1)] := by
  intro H0
  refine cC Try.func92 ?_
  have hO := aL.start H0
  unfold sQ at h0
  refine aT aH 1 [] [] ?_
  refine aO ?_
  refine aW aH 2 ?_
  refine tJ 1 (eI 0) (by kernel_rfl) (by kernel_rfl) hO ?_
  intro lo1 H hO
  refine pQ 0 lo1 1 0 (eI 0) (eI (-1 : Int)) [(eI 0)] [(lo1, 1, [(eI (-1 : Int))])] hO rfl (by kernel_rfl) ?_
  intro H hO
  refine cZ ?_
  refine bQ [] [(2, (.lp lo1 0 0))] ?_
  refine bN aH 2 [(1, (.fn (.func 93) [] [(.lp lo1 0 0), (.rp (eL aG t0))]))] ?_
  refine bI ?_
  obtain rfl := oI h0
  exact aJ (pM (x := (.fn (.func 93) [] [(.lp lo1 0 0), (.rp (eL aG t0))])) (by kernel_rfl) (aR.refl _) ⟨lo1, rfl, hO⟩)

theorem sP {σ : Type} (I : σ → Gs → Prop) (s0 : (List aF)) (f1_v : V) (f1 : σ → aF → Option (σ × Bool)) (f1_h : ∀ st a0 st2 r, f1 st a0 = some (st2, r) → NY Try.prog f1_v I st [(aG a0)] st2 (aK r)) (sg0 : σ) (r : (σ × Int)) (h0 : eP s0 f1 sg0 = some r) : BV Try.prog 91 I sg0 [(eL aG s0), f1_v] r.1 (eI r.2) := by
  intro H0 G0 hI hg
  refine cC Try.func91 ?_
  obtain ⟨G, hO, hI⟩ : ∃ G, aL ⟨H0, List.map (fun p : Nat × cV => p.1) G0, G⟩ H0 [] ∧ I sg0 G := ⟨G0, aL.RM hg, hI⟩
  clear hg
  unfold eP at h0
  refine aT aH 1 [] [] ?_
  refine cE (fun T H => ∃ sg : σ, ∃ G : Gs, Has T [] ∧ aL ⟨H0, List.map (fun p : Nat × cV => p.1) G0, G⟩ H [] ∧ I sg G ∧ cX f1 sg = some r) ?_ ?_
  · clear hO hI h0
    rintro T H ⟨sg, G, hT, hO, hI, h0⟩
    refine aZ hT ?_
    clear hT
    unfold cX at h0
    refine bN aH 1 [(4, (eI (-1 : Int)))] ?_
    refine bI ?_
    obtain rfl := oI h0
    exact aJ (pM (x := (eI (-1 : Int))) (by kernel_rfl) (aR.refl _) ⟨rfl, G, hI, hO.OI⟩)
  refine aT aH 3 [] [(7, (eI (lN s0))), (8, (eI (0 : Int)))] ?_
  refine bP 0 ?_
  refine cO [(0, (eL aG s0)), (1, f1_v), (7, (eI (lN s0))), (8, (eI (0 : Int)))] ?_
  refine cF (fun T H => ∃ sg : σ, ∃ t7 : Int, ∃ t8 : Int, ∃ G : Gs, Has T [(0, (eL aG s0)), (1, f1_v), (7, (eI t7)), (8, (eI t8))] ∧ aL ⟨H0, List.map (fun p : Nat × cV => p.1) G0, G⟩ H [] ∧ I sg G ∧ eG f1 sg s0 t7 t8 = some r) ?_ ⟨sg0, (lN s0), (0 : Int), G, .eq (by kernel_rfl), hO, hI, h0⟩
  clear hO hI h0
  rintro T H ⟨sg, t7, t8, G, hT, hO, hI, h0⟩
  refine aZ hT ?_
  clear hT
  unfold eG at h0
  obtain ⟨rr0, hl0, h0⟩ := aY h0
  refine bW (by kernel_rfl) (fun (s : σ × Int) T H => ∃ G : Gs, Has T [(0, (eL aG s0)), (1, f1_v), (7, (eI t7)), (8, (eI s.2))] ∧ aL ⟨H0, List.map (fun p : Nat × cV => p.1) G0, G⟩ H [] ∧ I s.1 G) hl0 ⟨G, .eq (by kernel_rfl), hO, hI⟩ ?_
  clear hO hI
  rintro k0 s out1 T H ⟨G, hT, hO, hI⟩ h1 ho0
  obtain ⟨sg, t8⟩ := s
  replace h1 : bU f1 s0 t7 sg t8 = some out1 := h1
  dsimp only at hT
  refine aZ hT ?_
  clear hT
  unfold bU at h1
  refine aT aH 1 [] [(9, (aK (decide (t8 < t7))))] ?_
  refine aO ?_
  refine bE h1 (fun h1 => ?_) (fun h1 => ?_)
  · refine bH ?_
    refine bD [(0, (eL aG s0)), (1, f1_v), (7, (eI t7)), (8, (eI t8))] ?_
    refine aO ?_
    refine bP 1 ?_
    refine aT aH 2 [] [(5, (eI t8))] ?_
    refine aO ?_
    refine aW aH 6 ?_
    obtain ⟨c2, h1⟩ := bA h1
    refine nH 5 [0 ≤ t8 ∧ t8 < (lN s0)] ⟨c2, trivial⟩ ?_
    obtain ⟨x3, hx4, h1⟩ := aY h1
    refine TO (I := I) f1_v [(aG (gD s0 t8))] (aK x3.2) (by kernel_rfl) (by kernel_rfl) (f1_h _ (gD s0 t8) x3.1 x3.2 hx4) hO hI ?_
    intro G H hO hI
    refine cZ ?_
    refine bQ [] [(16, (aK x3.2))] ?_
    refine bE h1 (fun h1 => ?_) (fun h1 => ?_)
    · refine bN aH 2 [(4, (eI t8))] ?_
      refine bI ?_
      obtain rfl := oI h1
      obtain rfl : _ = rr0 := ho0
      replace h0 : some (x3.1, t8) = some r := h0
      obtain rfl := oI h0
      exact aJ (bM (aP (aP (bM (aP (pM (x := (eI t8)) (by kernel_rfl) (aR.refl _) ⟨rfl, G, hI, hO.OI⟩))))))
    refine bH ?_
    refine dY [(0, (eL aG s0)), (1, f1_v), (7, (eI t7)), (8, (eI t8))] ?_
    refine aJ (aU (aI (?_)))
    refine aW aH 2 ?_
    refine bC ?_
    exact aJ (aI (⟨rfl, _, (oI h1).symm, _, .eq (by kernel_rfl), hO, hI⟩))
  refine cS 0 ?_
  obtain rfl := oI h1
  obtain rfl : _ = rr0 := ho0
  replace h0 : cX f1 sg = some r := h0
  exact aJ (aS (aS (bL (aI (⟨rfl, _, _, .eq (by kernel_rfl), hO, hI, h0⟩)))))

theorem HJ (v0 : aF) (lo1p : Nat) (t1 : Int) (t2 : (List aF)) (r : (Bool × Int)) (h0 : iR v0 t1 t2 = some r) : kJ Try.prog 93 lo1p 1 [(eI t1)] [(eI r.2)] [(aG v0), (.lp lo1p 0 0), (.rp (eL aG t2))] (aK r.1) := by
  intro H0 hl0
  refine cC Try.func93 ?_
  have hO := aL.oF hl0
  clear hl0
  unfold iR at h0
  refine aO ?_
  refine aW aH 2 ?_
  refine jW 3 (aG v0) (by kernel_rfl) (by kernel_rfl) ?_
  refine bC ?_
  refine bQ [0] [(3, (.rp (aG v0)))] ?_
  refine aO ?_
  refine aW aH 3 ?_
  refine AS 0 lo1p 1 0 (eI t1) (eI t1) [(eI t1)] hO rfl ?_
  refine bS 2 ?_
  refine pQ 0 lo1p 1 0 (eI t1) (eI (wR (t1 + (1 : Int)))) [(eI t1)] [(lo1p, 1, [(eI (wR (t1 + (1 : Int))))])] hO rfl (by kernel_rfl) ?_
  intro H hO
  refine cZ ?_
  refine bQ [] [] ?_
  refine aO ?_
  refine fD (fH [7, 8, 11]) aH 7 ?_
  refine oT 2 ?_
  refine kS 0 lo1p 1 0 (eI (wR (t1 + (1 : Int)))) (eI (wR (t1 + (1 : Int)))) [(eI (wR (t1 + (1 : Int))))] hO rfl ?_
  obtain ⟨c1, h0⟩ := bA h0
  refine BQ (Ds := [0 ≤ (wR (t1 + (1 : Int))) ∧ (wR (t1 + (1 : Int))) < (lN t2)]) (by kernel_rfl) ⟨c1, trivial⟩ ?_
  refine bD [(1, (.lp lo1p 0 0)), (4, (aK (!((decide (v0.Kind = ((gD t2 (wR (t1 + (1 : Int)))).Kind))) && ((decide (v0.Num = ((gD t2 (wR (t1 + (1 : Int)))).Num))) && ((mQ v0.Text ((gD t2 (wR (t1 + (1 : Int)))).Text)) && true))))))] ?_
  refine bI ?_
  obtain rfl := oI h0
  exact aJ (pM (x := (aK (!((decide (v0.Kind = ((gD t2 (wR (t1 + (1 : Int)))).Kind))) && ((decide (v0.Num = ((gD t2 (wR (t1 + (1 : Int)))).Num))) && ((mQ v0.Text ((gD t2 (wR (t1 + (1 : Int)))).Text)) && true)))))) (by kernel_rfl) (aR.refl _) ⟨rfl, hO.ext, hO.at 0 (by kernel_rfl), rfl⟩)

theorem CI (x0 : Int) (r : Bool) (h0 : nC x0 = some r) : bV Try.prog 95 [(eI x0)] (aK r) := by
  intro H0
  refine cC Try.func95 ?_
  have hO := aL.start H0
  unfold nC at h0
  refine aT aH 1 [] [] ?_
  refine bN aH 4 [(2, (aK (!decide (x0 = x0))))] ?_
  refine bI ?_
  obtain rfl := oI h0
  exact aJ (Q_r hO)

theorem uQ (x0 : Int) (y1 : Int) (r : Int) (h0 : iS x0 y1 = some r) : bV Try.prog 62 [(eI x0), (eI y1)] (eI r) := by
  intro H0
  refine cC Try.func62 ?_
  have hO := aL.start H0
  unfold iS at h0
  refine aT aH 1 [] [] ?_
  refine aO ?_
  refine aW aH 3 ?_
  refine bS 1 ?_
  obtain ⟨x1, hx2, h0⟩ := aY h0
  refine cJ (CI x0 _ hx2) hO ?_
  intro H hO
  refine bC ?_
  refine bQ [] [(5, (aK x1))] ?_
  refine aO ?_
  refine aW aH 3 ?_
  refine bS 1 ?_
  obtain ⟨x4, hx5, h0⟩ := aY h0
  refine cJ (CI y1 _ hx5) hO ?_
  intro H hO
  refine bC ?_
  refine bQ [] [(6, (aK x4))] ?_
  refine aO ?_
  refine aT aH 1 [5] [(11, (aK x1))] ?_
  refine bE h0 (fun h0 => ?_) (fun h0 => ?_)
  · refine aO ?_
    refine bN aH 1 [(12, (aK x4))] ?_
    refine bE h0 (fun h0 => ?_) (fun h0 => ?_)
    · refine bN aH 1 [(4, (eI (0 : Int)))] ?_
      refine bI ?_
      obtain rfl := oI h0
      exact aJ (aP (aP (Q_r hO)))
    refine bH ?_
    refine bD [] ?_
    refine bN aH 1 [(4, (eI (-1 : Int)))] ?_
    refine bI ?_
    obtain rfl := oI h0
    exact aJ (aP (Q_r hO))
  refine bH ?_
  refine bD [(0, (eI x0)), (1, (eI y1)), (6, (aK x4))] ?_
  refine aO ?_
  refine aT aH 1 [6] [(13, (aK x4))] ?_
  refine bE h0 (fun h0 => ?_) (fun h0 => ?_)
  · refine bN aH 1 [(4, (eI (1 : Int)))] ?_
    refine bI ?_
    obtain rfl := oI h0
    exact aJ (aP (Q_r hO))
  refine bH ?_
  refine bD [(0, (eI x0)), (1, (eI y1))] ?_
  refine aO ?_
  refine aT aH 3 [] [(16, (aK (decide (x0 < y1))))] ?_
  refine bE h0 (fun h0 => ?_) (fun h0 => ?_)
  · refine bN aH 1 [(4, (eI (-1 : Int)))] ?_
    refine bI ?_
    obtain rfl := oI h0
    exact aJ (aP (Q_r hO))
  refine bH ?_
  refine bD [(0, (eI x0)), (1, (eI y1))] ?_
  refine aO ?_
  refine bN aH 3 [(19, (aK (decide (y1 < x0))))] ?_
  refine bE h0 (fun h0 => ?_) (fun h0 => ?_)
  · refine bN aH 1 [(4, (eI (1 : Int)))] ?_
    refine bI ?_
    obtain rfl := oI h0
    exact aJ (aP (Q_r hO))
  refine bH ?_
  refine bD [] ?_
  refine bN aH 1 [(4, (eI (0 : Int)))] ?_
  refine bI ?_
  obtain rfl := oI h0
  exact aJ (Q_r hO)

theorem tK (x0 : Int) (r : Bool) (h0 : iW x0 = some r) : bV Try.prog 119 [(eI x0)] (aK r) := by
  intro H0
  refine cC Try.func119 ?_
  have hO := aL.start H0
  unfold iW at h0
  refine aT aH 1 [] [] ?_
  refine bN aH 4 [(2, (aK (!decide (x0 = x0))))] ?_
  refine bI ?_
  obtain rfl := oI h0
  exact aJ (Q_r hO)

theorem zS (x0 : Int) (y1 : Int) (r : Int) (h0 : dU x0 y1 = some r) : bV Try.prog 114 [(eI x0), (eI y1)] (eI r) := by
  intro H0
  refine cC Try.func114 ?_
  have hO := aL.start H0
  unfold dU at h0
  refine aT aH 1 [] [] ?_
  refine aO ?_
  refine aW aH 3 ?_
  refine bS 1 ?_
  obtain ⟨x1, hx2, h0⟩ := aY h0
  refine cJ (tK x0 _ hx2) hO ?_
  intro H hO
  refine bC ?_
  refine bQ [] [(5, (aK x1))] ?_
  refine aO ?_
  refine aW aH 3 ?_
  refine bS 1 ?_
  obtain ⟨x4, hx5, h0⟩ := aY h0
  refine cJ (tK y1 _ hx5) hO ?_
  intro H hO
  refine bC ?_
  refine bQ [] [(6, (aK x4))] ?_
  refine aO ?_
  refine aT aH 1 [5] [(11, (aK x1))] ?_
  refine bE h0 (fun h0 => ?_) (fun h0 => ?_)
  · refine aO ?_
    refine bN aH 1 [(12, (aK x4))] ?_
    refine bE h0 (fun h0 => ?_) (fun h0 => ?_)
    · refine bN aH 1 [(4, (eI (0 : Int)))] ?_
      refine bI ?_
      obtain rfl := oI h0
      exact aJ (aP (aP (Q_r hO)))
    refine bH ?_
    refine bD [] ?_
    refine bN aH 1 [(4, (eI (-1 : Int)))] ?_
    refine bI ?_
    obtain rfl := oI h0
    exact aJ (aP (Q_r hO))
  refine bH ?_
  refine bD [(0, (eI x0)), (1, (eI y1)), (6, (aK x4))] ?_
  refine aO ?_
  refine aT aH 1 [6] [(13, (aK x4))] ?_
  refine bE h0 (fun h0 => ?_) (fun h0 => ?_)
  · refine bN aH 1 [(4, (eI (1 : Int)))] ?_
    refine bI ?_
    obtain rfl := oI h0
    exact aJ (aP (Q_r hO))
  refine bH ?_
  refine bD [(0, (eI x0)), (1, (eI y1))] ?_
  refine aO ?_
  refine aT aH 3 [] [(16, (aK (decide (x0 < y1))))] ?_
  refine bE h0 (fun h0 => ?_) (fun h0 => ?_)
  · refine bN aH 1 [(4, (eI (-1 : Int)))] ?_
    refine bI ?_
    obtain rfl := oI h0
    exact aJ (aP (Q_r hO))
  refine bH ?_
  refine bD [(0, (eI x0)), (1, (eI y1))] ?_
  refine aO ?_
  refine bN aH 3 [(19, (aK (decide (y1 < x0))))] ?_
  refine bE h0 (fun h0 => ?_) (fun h0 => ?_)
  · refine bN aH 1 [(4, (eI (1 : Int)))] ?_
    refine bI ?_
    obtain rfl := oI h0
    exact aJ (aP (Q_r hO))
  refine bH ?_
  refine bD [] ?_
  refine bN aH 1 [(4, (eI (0 : Int)))] ?_
  refine bI ?_
  obtain rfl := oI h0
  exact aJ (Q_r hO)

theorem wI (a0 : ByteArray) (b1 : ByteArray) (r : Int) (h0 : gQ a0 b1 = some r) : bV Try.prog 120 [(yD a0), (yD b1)] (eI r) := by
  intro H0
  refine cC Try.func120 ?_
  have hO := aL.start H0
  unfold gQ at h0
  refine aT aH 1 [] [] ?_
  refine aO ?_
  refine aW aH 4 ?_
  refine bS 2 ?_
  refine aAJ 124 [(yD a0), (yD b1)] (eI (LH a0 b1)) (by kernel_rfl) (by kernel_rfl) (ZF Try.func124 (by kernel_rfl) (by kernel_rfl) (by kernel_rfl) (by kernel_rfl) a0 b1) hO ?_
  intro H hO
  refine bC ?_
  refine bD [(4, (eI (LH a0 b1)))] ?_
  refine bI ?_
  obtain rfl := oI h0
  exact aJ (Q_r hO)

theorem HI (a0 : ByteArray) (b1 : ByteArray) (r : Int) (h0 : lO a0 b1 = some r) : bV Try.prog 115 [(yD a0), (yD b1)] (eI r) := by
  intro H0
  refine cC Try.func115 ?_
  have hO := aL.start H0
  unfold lO at h0
  refine aT aH 1 [] [] ?_
  refine aO ?_
  refine aW aH 4 ?_
  refine bS 2 ?_
  obtain ⟨x1, hx2, h0⟩ := aY h0
  refine cJ (wI a0 b1 _ hx2) hO ?_
  intro H hO
  refine bC ?_
  refine bD [(4, (eI x1))] ?_
  refine bI ?_
  obtain rfl := oI h0
  exact aJ (Q_r hO)

theorem KL (a0 : aF) (b1 : aF) (r : Int) (h0 : pK a0 b1 = some r) : bV Try.prog 94 [(aG a0), (aG b1)] (eI r) := by
  intro H0
  refine cC Try.func94 ?_
  have hO := aL.start H0
  unfold pK at h0
  refine aO ?_
  refine aW aH 3 ?_
  refine jW 3 (aG a0) (by kernel_rfl) (by kernel_rfl) ?_
  refine jW 3 (aG b1) (by kernel_rfl) (by kernel_rfl) ?_
  refine bC ?_
  refine bD [(2, (.rp (aG a0))), (3, (.rp (aG b1)))] ?_
  refine aO ?_
  refine aW aH 7 ?_
  refine bS 1 ?_
  obtain ⟨⟨x1_0, x1_1⟩, hx2, h0⟩ := aY h0
  refine cJ (xY a0 _ hx2) hO ?_
  intro H hO
  rcases x1_0 with _ | y4 | y5
  · replace h0 : ((kO b1).bind fun (x6_0, x6_1) => match x6_0 with | .none_ => (cond ((!x1_1) || (!x6_1)) (some (0 : Int)) (none)) | .k_number y9 => (cond ((!x1_1) || (!x6_1)) (some (0 : Int)) (some (1 : Int))) | .k_words y10 => (cond ((!x1_1) || (!x6_1)) (some (0 : Int)) (none))) = some r := h0
    refine bC ?_
    refine bQ [2] [(5, (bF bJ.none_)), (6, (aK x1_1))] ?_
    refine aO ?_
    refine aW aH 7 ?_
    refine bS 1 ?_
    obtain ⟨⟨x6_0, x6_1⟩, hx7, h0⟩ := aY h0
    refine cJ (xY b1 _ hx7) hO ?_
    intro H hO
    rcases x6_0 with _ | y9 | y10
    · replace h0 : (cond ((!x1_1) || (!x6_1)) (some (0 : Int)) (none)) = some r := h0
      refine bC ?_
      refine bQ [3] [(7, (bF bJ.none_)), (8, (aK x6_1))] ?_
      refine aO ?_
      refine aT aH 6 [6, 8] [(28, (aK ((!x1_1) || (!x6_1))))] ?_
      refine bE h0 (fun h0 => ?_) (fun h0 => ?_)
      · refine bN aH 1 [(4, (eI (0 : Int)))] ?_
        refine bI ?_
        obtain rfl := oI h0
        exact aJ (aP (Q_r hO))
      refine bH ?_
      refine bD [(5, (bF bJ.none_)), (7, (bF bJ.none_))] ?_
      refine aT aH 7 [] [(9, (eI 0)), (10, (aK false))] ?_
      refine aT aH 7 [] [(11, (eI 0)), (12, (aK false))] ?_
      refine aO ?_
      refine bP 0 ?_
      refine aT aH 5 [] [(39, (aK false))] ?_
      refine nF (false) (fun hc12 => ?_) (fun hc12 => ?_)
      · cases hc12
      · refine aT aH 2 [9, 10, 11, 39] [(47, (aK false))] ?_
        refine nF (false) (fun hc13 => ?_) (fun hc13 => ?_)
        · cases hc13
        · refine bN aH 2 [(5, (bF bJ.none_)), (7, (bF bJ.none_)), (49, (aK false))] ?_
          refine nF (false) (fun hc14 => ?_) (fun hc14 => ?_)
          · cases hc14
          · refine bH ?_
            refine dY [(5, (bF bJ.none_)), (7, (bF bJ.none_))] ?_
            refine aJ (aU (aI (?_)))
            refine aO ?_
            refine fD (fH []) aH 6 ?_
            cases h0
    · replace h0 : (cond ((!x1_1) || (!x6_1)) (some (0 : Int)) (some (1 : Int))) = some r := h0
      refine bC ?_
      refine bQ [3] [(7, (bF (bJ.k_number y9))), (8, (aK x6_1))] ?_
      refine aO ?_
      refine aT aH 6 [6, 8] [(28, (aK ((!x1_1) || (!x6_1))))] ?_
      refine bE h0 (fun h0 => ?_) (fun h0 => ?_)
      · refine bN aH 1 [(4, (eI (0 : Int)))] ?_
        refine bI ?_
        obtain rfl := oI h0
        exact aJ (aP (Q_r hO))
      refine bH ?_
      refine bD [(5, (bF bJ.none_)), (7, (bF (bJ.k_number y9)))] ?_
      refine aT aH 7 [] [(9, (eI 0)), (10, (aK false))] ?_
      refine aT aH 7 [] [(11, (eI y9)), (12, (aK true))] ?_
      refine aO ?_
      refine bP 0 ?_
      refine aT aH 5 [] [(39, (aK false))] ?_
      refine nF (false) (fun hc16 => ?_) (fun hc16 => ?_)
      · cases hc16
      · refine aT aH 2 [9, 10, 11, 39] [(47, (aK false))] ?_
        refine nF (false) (fun hc17 => ?_) (fun hc17 => ?_)
        · cases hc17
        · refine bN aH 2 [(5, (bF bJ.none_)), (7, (bF (bJ.k_number y9))), (49, (aK true))] ?_
          refine nF (true) (fun hc18 => ?_) (fun hc18 => ?_)
          · refine bN aH 1 [(4, (eI (1 : Int)))] ?_
            refine bI ?_
            obtain rfl := oI h0
            exact aJ (bM (aP (Q_r hO)))
          · cases hc18
    · replace h0 : (cond ((!x1_1) || (!x6_1)) (some (0 : Int)) (none)) = some r := h0
      refine bC ?_
      refine bQ [3] [(7, (bF (bJ.k_words y10))), (8, (aK x6_1))] ?_
      refine aO ?_
      refine aT aH 6 [6, 8] [(28, (aK ((!x1_1) || (!x6_1))))] ?_
      refine bE h0 (fun h0 => ?_) (fun h0 => ?_)
      · refine bN aH 1 [(4, (eI (0 : Int)))] ?_
        refine bI ?_
        obtain rfl := oI h0
        exact aJ (aP (Q_r hO))
      refine bH ?_
      refine bD [(5, (bF bJ.none_)), (7, (bF (bJ.k_words y10)))] ?_
      refine aT aH 7 [] [(9, (eI 0)), (10, (aK false))] ?_
      refine aT aH 7 [] [(11, (eI 0)), (12, (aK false))] ?_
      refine aO ?_
      refine bP 0 ?_
      refine aT aH 5 [] [(39, (aK false))] ?_
      refine nF (false) (fun hc20 => ?_) (fun hc20 => ?_)
      · cases hc20
      · refine aT aH 2 [9, 10, 11, 39] [(47, (aK false))] ?_
        refine nF (false) (fun hc21 => ?_) (fun hc21 => ?_)
        · cases hc21
        · refine bN aH 2 [(5, (bF bJ.none_)), (7, (bF (bJ.k_words y10))), (49, (aK false))] ?_
          refine nF (false) (fun hc22 => ?_) (fun hc22 => ?_)
          · cases hc22
          · refine bH ?_
            refine dY [(5, (bF bJ.none_)), (7, (bF (bJ.k_words y10)))] ?_
            refine aJ (aU (aI (?_)))
            refine aO ?_
            refine fD (fH []) aH 6 ?_
            cases h0
  · replace h0 : ((kO b1).bind fun (x23_0, x23_1) => match x23_0 with | .none_ => (cond ((!x1_1) || (!x23_1)) (some (0 : Int)) (some (-1 : Int))) | .k_number y26 => (cond ((!x1_1) || (!x23_1)) (some (0 : Int)) ((dU y4 y26).bind fun x33 => some x33)) | .k_words y27 => (cond ((!x1_1) || (!x23_1)) (some (0 : Int)) (some (-1 : Int)))) = some r := h0
    refine bC ?_
    refine bQ [2] [(5, (bF (bJ.k_number y4))), (6, (aK x1_1))] ?_
    refine aO ?_
    refine aW aH 7 ?_
    refine bS 1 ?_
    obtain ⟨⟨x23_0, x23_1⟩, hx24, h0⟩ := aY h0
    refine cJ (xY b1 _ hx24) hO ?_
    intro H hO
    rcases x23_0 with _ | y26 | y27
    · replace h0 : (cond ((!x1_1) || (!x23_1)) (some (0 : Int)) (some (-1 : Int))) = some r := h0
      refine bC ?_
      refine bQ [3] [(7, (bF bJ.none_)), (8, (aK x23_1))] ?_
      refine aO ?_
      refine aT aH 6 [6, 8] [(28, (aK ((!x1_1) || (!x23_1))))] ?_
      refine bE h0 (fun h0 => ?_) (fun h0 => ?_)
      · refine bN aH 1 [(4, (eI (0 : Int)))] ?_
        refine bI ?_
        obtain rfl := oI h0
        exact aJ (aP (Q_r hO))
      refine bH ?_
      refine bD [(5, (bF (bJ.k_number y4))), (7, (bF bJ.none_))] ?_
      refine aT aH 7 [] [(9, (eI y4)), (10, (aK true))] ?_
      refine aT aH 7 [] [(11, (eI 0)), (12, (aK false))] ?_
      refine aO ?_
      refine bP 0 ?_
      refine aT aH 5 [] [(39, (aK false))] ?_
      refine nF (false) (fun hc29 => ?_) (fun hc29 => ?_)
      · cases hc29
      · refine aT aH 2 [9, 10, 11, 39] [(47, (aK true))] ?_
        refine nF (true) (fun hc30 => ?_) (fun hc30 => ?_)
        · refine bN aH 1 [(4, (eI (-1 : Int)))] ?_
          refine bI ?_
          obtain rfl := oI h0
          exact aJ (bM (aP (Q_r hO)))
        · cases hc30
    · replace h0 : (cond ((!x1_1) || (!x23_1)) (some (0 : Int)) ((dU y4 y26).bind fun x33 => some x33)) = some r := h0
      refine bC ?_
      refine bQ [3] [(7, (bF (bJ.k_number y26))), (8, (aK x23_1))] ?_
      refine aO ?_
      refine aT aH 6 [6, 8] [(28, (aK ((!x1_1) || (!x23_1))))] ?_
      refine bE h0 (fun h0 => ?_) (fun h0 => ?_)
      · refine bN aH 1 [(4, (eI (0 : Int)))] ?_
        refine bI ?_
        obtain rfl := oI h0
        exact aJ (aP (Q_r hO))
      refine bH ?_
      refine bD [(5, (bF (bJ.k_number y4))), (7, (bF (bJ.k_number y26)))] ?_
      refine aT aH 7 [] [(9, (eI y4)), (10, (aK true))] ?_
      refine aT aH 7 [] [(11, (eI y26)), (12, (aK true))] ?_
      refine aO ?_
      refine bP 0 ?_
      refine aT aH 5 [] [(39, (aK true))] ?_
      refine nF (true) (fun hc32 => ?_) (fun hc32 => ?_)
      · refine aO ?_
        refine aW aH 4 ?_
        refine bS 2 ?_
        obtain ⟨x33, hx34, h0⟩ := aY h0
        refine cJ (zS y4 y26 _ hx34) hO ?_
        intro H hO
        refine bC ?_
        refine bD [(4, (eI x33))] ?_
        refine bI ?_
        obtain rfl := oI h0
        exact aJ (bM (aP (Q_r hO)))
      · cases hc32
    · replace h0 : (cond ((!x1_1) || (!x23_1)) (some (0 : Int)) (some (-1 : Int))) = some r := h0
      refine bC ?_
      refine bQ [3] [(7, (bF (bJ.k_words y27))), (8, (aK x23_1))] ?_
      refine aO ?_
      refine aT aH 6 [6, 8] [(28, (aK ((!x1_1) || (!x23_1))))] ?_
      refine bE h0 (fun h0 => ?_) (fun h0 => ?_)
      · refine bN aH 1 [(4, (eI (0 : Int)))] ?_
        refine bI ?_
        obtain rfl := oI h0
        exact aJ (aP (Q_r hO))
      refine bH ?_
      refine bD [(5, (bF (bJ.k_number y4))), (7, (bF (bJ.k_words y27)))] ?_
      refine aT aH 7 [] [(9, (eI y4)), (10, (aK true))] ?_
      refine aT aH 7 [] [(11, (eI 0)), (12, (aK false))] ?_
      refine aO ?_
      refine bP 0 ?_
      refine aT aH 5 [] [(39, (aK false))] ?_
      refine nF (false) (fun hc37 => ?_) (fun hc37 => ?_)
      · cases hc37
      · refine aT aH 2 [9, 10, 11, 39] [(47, (aK true))] ?_
        refine nF (true) (fun hc38 => ?_) (fun hc38 => ?_)
        · refine bN aH 1 [(4, (eI (-1 : Int)))] ?_
          refine bI ?_
          obtain rfl := oI h0
          exact aJ (bM (aP (Q_r hO)))
        · cases hc38
  · replace h0 : ((kO b1).bind fun (x39_0, x39_1) => match x39_0 with | .none_ => (cond ((!x1_1) || (!x39_1)) (some (0 : Int)) (none)) | .k_number y42 => (cond ((!x1_1) || (!x39_1)) (some (0 : Int)) (some (1 : Int))) | .k_words y43 => (cond ((!x1_1) || (!x39_1)) (some (0 : Int)) ((lO y5 y43).bind fun x56 => some x56))) = some r := h0
    refine bC ?_
    refine bQ [2] [(5, (bF (bJ.k_words y5))), (6, (aK x1_1))] ?_
    refine aO ?_
    refine aW aH 7 ?_
    refine bS 1 ?_
    obtain ⟨⟨x39_0, x39_1⟩, hx40, h0⟩ := aY h0
    refine cJ (xY b1 _ hx40) hO ?_
    intro H hO
    rcases x39_0 with _ | y42 | y43
    · replace h0 : (cond ((!x1_1) || (!x39_1)) (some (0 : Int)) (none)) = some r := h0
      refine bC ?_
      refine bQ [3] [(7, (bF bJ.none_)), (8, (aK x39_1))] ?_
      refine aO ?_
      refine aT aH 6 [6, 8] [(28, (aK ((!x1_1) || (!x39_1))))] ?_
      refine bE h0 (fun h0 => ?_) (fun h0 => ?_)
      · refine bN aH 1 [(4, (eI (0 : Int)))] ?_
        refine bI ?_
        obtain rfl := oI h0
        exact aJ (aP (Q_r hO))
      refine bH ?_
      refine bD [(5, (bF (bJ.k_words y5))), (7, (bF bJ.none_))] ?_
      refine aT aH 7 [] [(9, (eI 0)), (10, (aK false))] ?_
      refine aT aH 7 [] [(11, (eI 0)), (12, (aK false))] ?_
      refine aO ?_
      refine bP 0 ?_
      refine aT aH 5 [] [(39, (aK false))] ?_
      refine nF (false) (fun hc45 => ?_) (fun hc45 => ?_)
      · cases hc45
      · refine aT aH 2 [9, 10, 11, 39] [(47, (aK false))] ?_
        refine nF (false) (fun hc46 => ?_) (fun hc46 => ?_)
        · cases hc46
        · refine bN aH 2 [(5, (bF (bJ.k_words y5))), (7, (bF bJ.none_)), (49, (aK false))] ?_
          refine nF (false) (fun hc47 => ?_) (fun hc47 => ?_)
          · cases hc47
          · refine bH ?_
            refine dY [(5, (bF (bJ.k_words y5))), (7, (bF bJ.none_))] ?_
            refine aJ (aU (aI (?_)))
            refine aO ?_
            refine fD (fH []) aH 6 ?_
            cases h0
    · replace h0 : (cond ((!x1_1) || (!x39_1)) (some (0 : Int)) (some (1 : Int))) = some r := h0
      refine bC ?_
      refine bQ [3] [(7, (bF (bJ.k_number y42))), (8, (aK x39_1))] ?_
      refine aO ?_
      refine aT aH 6 [6, 8] [(28, (aK ((!x1_1) || (!x39_1))))] ?_
      refine bE h0 (fun h0 => ?_) (fun h0 => ?_)
      · refine bN aH 1 [(4, (eI (0 : Int)))] ?_
        refine bI ?_
        obtain rfl := oI h0
        exact aJ (aP (Q_r hO))
      refine bH ?_
      refine bD [(5, (bF (bJ.k_words y5))), (7, (bF (bJ.k_number y42)))] ?_
      refine aT aH 7 [] [(9, (eI 0)), (10, (aK false))] ?_
      refine aT aH 7 [] [(11, (eI y42)), (12, (aK true))] ?_
      refine aO ?_
      refine bP 0 ?_
      refine aT aH 5 [] [(39, (aK false))] ?_
      refine nF (false) (fun hc49 => ?_) (fun hc49 => ?_)
      · cases hc49
      · refine aT aH 2 [9, 10, 11, 39] [(47, (aK false))] ?_
        refine nF (false) (fun hc50 => ?_) (fun hc50 => ?_)
        · cases hc50
        · refine bN aH 2 [(5, (bF (bJ.k_words y5))), (7, (bF (bJ.k_number y42))), (49, (aK true))] ?_
          refine nF (true) (fun hc51 => ?_) (fun hc51 => ?_)
          · refine bN aH 1 [(4, (eI (1 : Int)))] ?_
            refine bI ?_
            obtain rfl := oI h0
            exact aJ (bM (aP (Q_r hO)))
          · cases hc51
    · replace h0 : (cond ((!x1_1) || (!x39_1)) (some (0 : Int)) ((lO y5 y43).bind fun x56 => some x56)) = some r := h0
      refine bC ?_
      refine bQ [3] [(7, (bF (bJ.k_words y43))), (8, (aK x39_1))] ?_
      refine aO ?_
      refine aT aH 6 [6, 8] [(28, (aK ((!x1_1) || (!x39_1))))] ?_
      refine bE h0 (fun h0 => ?_) (fun h0 => ?_)
      · refine bN aH 1 [(4, (eI (0 : Int)))] ?_
        refine bI ?_
        obtain rfl := oI h0
        exact aJ (aP (Q_r hO))
      refine bH ?_
      refine bD [(5, (bF (bJ.k_words y5))), (7, (bF (bJ.k_words y43)))] ?_
      refine aT aH 7 [] [(9, (eI 0)), (10, (aK false))] ?_
      refine aT aH 7 [] [(11, (eI 0)), (12, (aK false))] ?_
      refine aO ?_
      refine bP 0 ?_
      refine aT aH 5 [] [(39, (aK false))] ?_
      refine nF (false) (fun hc53 => ?_) (fun hc53 => ?_)
      · cases hc53
      · refine aT aH 2 [9, 10, 11, 39] [(47, (aK false))] ?_
        refine nF (false) (fun hc54 => ?_) (fun hc54 => ?_)
        · cases hc54
        · refine bN aH 2 [(5, (bF (bJ.k_words y5))), (7, (bF (bJ.k_words y43))), (49, (aK false))] ?_
          refine nF (false) (fun hc55 => ?_) (fun hc55 => ?_)
          · cases hc55
          · refine bH ?_
            refine dY [(5, (bF (bJ.k_words y5))), (7, (bF (bJ.k_words y43)))] ?_
            refine aJ (aU (aI (?_)))
            refine aO ?_
            refine fD (fH []) aH 6 ?_
            refine oT 4 ?_
            obtain ⟨x56, hx57, h0⟩ := aY h0
            refine xO (HI y5 y43 _ hx57) hO ?_
            intro H hO
            refine iU ?_
            refine bD [(4, (eI x56))] ?_
            refine bI ?_
            obtain rfl := oI h0
            exact aJ (Q_r hO)

theorem EW (a0 : (List aF)) (b1 : (List aF)) (r : Int) (h0 : pG a0 b1 = some r) : bV Try.prog 61 [(eL aG a0), (eL aG b1)] (eI r) := by
  intro H0
  refine cC Try.func61 ?_
  have hO := aL.start H0
  unfold pG at h0
  refine aO ?_
  refine aW aH 2 ?_
  refine jW 1 (eL aG b1) (by kernel_rfl) (by kernel_rfl) ?_
  refine bC ?_
  refine bQ [1] [(3, (.rp (eL aG b1)))] ?_
  refine aO ?_
  refine aO ?_
  refine aW aH 8 ?_
  refine bS 1 ?_
  obtain ⟨x1, hx2, h0⟩ := aY h0
  refine cJ (CH a0 _ hx2) hO ?_
  intro H hO
  refine bS 5 ?_
  obtain ⟨x4, hx5, h0⟩ := aY h0
  refine pF [(10, false)] 55 [(eL aG b1)] (aK x4) (!(!x1)) (by kernel_rfl) (by kernel_rfl) (by kernel_rfl) (fun hb6 => (CH b1 _ (nI hx5 hb6))) hO ?_
  intro H hO
  refine bC ?_
  refine bQ [] [(14, (aK ((!x1) || (!x4))))] ?_
  refine bE h0 (fun h0 => ?_) (fun h0 => ?_)
  · refine bN aH 1 [(4, (eI (0 : Int)))] ?_
    refine bI ?_
    obtain rfl := oI h0
    exact aJ (aP (Q_r hO))
  refine bH ?_
  refine bD [(0, (eL aG a0)), (3, (.rp (eL aG b1)))] ?_
  refine aT aH 6 [] [(5, (eI (if (lN b1) < (lN a0) then (lN b1) else (lN a0))))] ?_
  refine aO ?_
  refine fD (fH []) aH 7 ?_
  obtain ⟨c8, h0⟩ := bA h0
  refine cN 4 [0 ≤ (if (lN b1) < (lN a0) then (lN b1) else (lN a0)) ∧ (if (lN b1) < (lN a0) then (lN b1) else (lN a0)) ≤ (lN a0)] ⟨c8, trivial⟩ ?_
  obtain ⟨x9, hx10, h0⟩ := aY h0
  refine aAQ (L' := fun lo11 => [(lo11, 1, [(eI x9.1)])]) 1 [(eI x9.1)] 92 [(.rp (eL aG b1))] (fun lo11 => (.fn (.func 93) [] [(.lp lo11 0 0), (.rp (eL aG x9.2))])) (by kernel_rfl) (by kernel_rfl) (KR b1 _ hx10) hO (fun _ => by kernel_rfl) ?_
  intro lo11 H hO
  obtain ⟨x12, hx13, h0⟩ := aY h0
  refine aAN (fun st G' => G' = up [(lo11, 1, [(eI st)])] ++ []) [(lo11, 1, [(eI x12.1)])] x9.1 x12.1 91 [(.sl false (Int.toNat (if (lN b1) < (lN a0) then (lN b1) else (lN a0))) (fun i => aG (List.getD a0 i default))), (.fn (.func 93) [] [(.lp lo11 0 0), (.rp (eL aG x9.2))])] (eI x12.2) (by kernel_rfl) (by kernel_rfl) (BV.sub (as0' := [(eL aG (List.take (Int.toNat (if (lN b1) < (lN a0) then (lN b1) else (lN a0))) a0)), (.fn (.func 93) [] [(.lp lo11 0 0), (.rp (eL aG x9.2))])]) (sP _ (List.take (Int.toNat (if (lN b1) < (lN a0) then (lN b1) else (lN a0))) a0) (.fn (.func 93) [] [(.lp lo11 0 0), (.rp (eL aG x9.2))]) (fun st y0 => (iR y0 st x9.2).bind fun o => some (o.2, o.1)) (fun st y0 st2 rr hr => (HJ y0 lo11 st x9.2 _ (aBx hr)).toV (ys := []) (zs := [(aG y0)]) (cs := [(.lp lo11 0 0), (.rp (eL aG x9.2))]) (fun Gx hG => ⟨up [], up [] ++ [], hG, rfl⟩)) _ _ hx13) ⟨aAx (Int.toNat_le.2 (And.right c8)), aR.refl _, trivial⟩) hO rfl (fun _ h => h) ?_
  intro H hO
  refine iU ?_
  replace hO := hO.pick (L' := []) [] (by decide) (by kernel_rfl)
  refine bQ [5] [(6, (eI x12.2))] ?_
  refine aO ?_
  refine aT aH 2 [] [(27, (aK (decide (x12.2 < (0 : Int)))))] ?_
  refine bE h0 (fun h0 => ?_) (fun h0 => ?_)
  · refine aO ?_
    refine aW aH 6 ?_
    refine bS 4 ?_
    obtain ⟨x15, hx16, h0⟩ := aY h0
    refine cJ (uQ (lN a0) (lN b1) _ hx16) hO ?_
    intro H hO
    refine bC ?_
    refine bD [(4, (eI x15))] ?_
    refine bI ?_
    obtain rfl := oI h0
    exact aJ (aP (Q_r hO))
  refine bH ?_
  refine bD [(0, (eL aG a0)), (3, (.rp (eL aG b1))), (6, (eI x12.2))] ?_
  refine aO ?_
  refine fD (fH [36, 37, 40]) aH 10 ?_
  obtain ⟨c18, h0⟩ := bA h0
  obtain ⟨c19, h0⟩ := bA h0
  refine cN 8 [0 ≤ x12.2 ∧ x12.2 < (lN a0), 0 ≤ x12.2 ∧ x12.2 < (lN b1)] ⟨c18, c19, trivial⟩ ?_
  obtain ⟨x20, hx21, h0⟩ := aY h0
  refine xO (KL (gD a0 x12.2) (gD b1 x12.2) _ hx21) hO ?_
  intro H hO
  refine iU ?_
  refine bD [(4, (eI x20))] ?_
  refine bI ?_
  obtain rfl := oI h0
  exact aJ (Q_r hO)

theorem IB (l0 : (List aC)) (holds1_f : Nat) (holds1_a holds1_c : List V) (tV : (List aB) → Option Bool) (holds1_h : ∀ a0 r, tV a0 = some r → bV Try.prog holds1_f (holds1_a ++ [(eL aE a0)] ++ holds1_c) (aK r)) (r : Bool) (h0 : sJ l0 tV = some r) : bV Try.prog 49 [(eL aD l0), (.fn (.func holds1_f) holds1_a holds1_c)] (aK r) := by
  intro H0
  refine TL aH Try.func49 (by kernel_rfl) (by kernel_rfl) (by kernel_rfl) ?_
  have hO := aL.start H0
  unfold sJ at h0
  refine aO ?_
  refine aW aH 2 ?_
  refine jW 1 (.fn (.func holds1_f) holds1_a holds1_c) (by kernel_rfl) (by kernel_rfl) ?_
  refine tJ 1 (aK false) (by kernel_rfl) (by kernel_rfl) hO ?_
  intro lo1 H hO
  refine cZ ?_
  refine bQ [1] [(3, (.rp (.fn (.func holds1_f) holds1_a holds1_c))), (4, (.lp lo1 0 0))] ?_
  refine aO ?_
  refine aT aH 3 [] [(11, (aK (decide ((4096 : Int) < (lN l0)))))] ?_
  refine bE h0 (fun h0 => ?_) (fun h0 => ?_)
  · refine aO ?_
    refine aW aH 1 ?_
    refine pQ 0 lo1 1 0 (aK false) (aK false) [(aK false)] [(lo1, 1, [(aK false)])] hO rfl (by kernel_rfl) ?_
    intro H hO
    refine cZ ?_
    refine bD [(4, (.lp lo1 0 0))] ?_
    refine bI ?_
    obtain rfl := oI h0
    exact aJ (aP (QM0 (.inr rfl) (rs := [.cell 4 4]) (xs := [(aK false)]) (x := (aK false)) (by kernel_rfl) (yF (lo := lo1) (k := 1) (y := (aK false)) (x := (aK false)) 0 hO (by kernel_rfl) (by kernel_rfl) (by kernel_rfl) (by kernel_rfl) GU) (by kernel_rfl) ⟨rfl, hO.out⟩))
  refine bH ?_
  refine bD [(0, (eL aD l0)), (3, (.rp (.fn (.func holds1_f) holds1_a holds1_c))), (4, (.lp lo1 0 0))] ?_
  refine aO ?_
  refine aW aH 1 ?_
  refine ET 1 (.sl true 0 (fun _ => .bad)) (eL aG ([])) (by kernel_rfl) (by kernel_rfl) (by kernel_rfl) (gN) (by kernel_rfl) (by kernel_rfl) hO ?_
  intro lo3 H hO
  refine cZ ?_
  refine bQ [] [(5, (.lp lo3 0 0))] ?_
  refine aO ?_
  refine aW aH 2 ?_
  refine tJ 1 (aK false) (by kernel_rfl) (by kernel_rfl) hO ?_
  intro lo4 H hO
  refine pQ 2 lo4 1 0 (aK false) (aK false) [(aK false)] [(lo1, 1, [(aK false)]), (lo3, 1, [(eL aG ([]))]), (lo4, 1, [(aK false)])] hO rfl (by kernel_rfl) ?_
  intro H hO
  refine cZ ?_
  refine bQ [] [(6, (.lp lo4 0 0))] ?_
  refine aO ?_
  refine aO ?_
  refine aW aH 2 ?_
  refine bS 1 ?_
  obtain ⟨x5, hx6, h0⟩ := aY h0
  refine cJ (HO l0 _ hx6) hO ?_
  intro H hO
  refine cZ ?_
  refine bQ [0] [(13, (.fn (.func 104) [] [(.rp (eL aD x5))]))] ?_
  refine bP 0 ?_
  refine cO [(3, (.rp (.fn (.func holds1_f) holds1_a holds1_c))), (4, (.lp lo1 0 0)), (5, (.lp lo3 0 0)), (6, (.lp lo4 0 0)), (13, (.fn (.func 104) [] [(.rp (eL aD x5))]))] ?_
  refine cF (fun T H => ∃ t4 : Bool, ∃ nN : (List aF), ∃ iT : Bool, ∃ jO : (List aC), ∃ lo7 : Nat, ∃ lo8 : Nat, ∃ lo9 : Nat, Has T [(3, (.rp (.fn (.func holds1_f) holds1_a holds1_c))), (4, (.lp lo7 0 0)), (5, (.lp lo8 0 0)), (6, (.lp lo9 0 0)), (13, (.fn (.func 104) [] [(.rp (eL aD jO))]))] ∧ aL ⟨H0, [], []⟩ H [(lo7, 1, [(aK t4)]), (lo8, 1, [(eL aG nN)]), (lo9, 1, [(aK iT)])] ∧ xC tV t4 nN iT jO = some r) ?_ ⟨false, [], false, x5, lo1, lo3, lo4, .eq (by kernel_rfl), hO, h0⟩
  clear hO h0
  rintro T H ⟨t4, nN, iT, jO, lo7, lo8, lo9, hT, hO, h0⟩
  refine aZ (l := [(3, (.rp (.fn (.func holds1_f) holds1_a holds1_c))), (4, (.lp lo7 0 0)), (5, (.lp lo8 0 0)), (6, (.lp lo9 0 0)), (13, (.fn (.func 104) [] [(.rp (eL aD jO))]))]) hT ?_
  clear hT
  unfold xC at h0
  obtain ⟨o0, hl0, h0⟩ := aY h0
  refine OV (fid := 104) (ys := []) (cs := [(.rp (eL aD jO))]) #[14, 15] (fun (A : EK) (b lL : Nat) (st : (Bool × (List aF) × Bool) ⊕ (Bool × (List aF) × Bool)) (G' : Gs) => Sum.elim (fun (s : Bool × (List aF) × Bool) => G' = (lL, .raw (lK b A .ready none)) :: (up [(lo7, 1, [(aK s.1)]), (lo8, 1, [(eL aG s.2.1)]), (lo9, 1, [(aK s.2.2)])] ++ [])) (fun (s : Bool × (List aF) × Bool) => G' = (lL, .raw (lK b A .done (some .ret))) :: (up [(lo7, 1, [(aK s.1)]), (lo8, 1, [(eL aG s.2.1)]), (lo9, 1, [(aK s.2.2)])] ++ [])) st) (.inl (t4, nN, iT)) o0 (.tup []) (by kernel_rfl) (by kernel_rfl) (by kernel_rfl) hO (fun _ _ => rfl) ?_ ?_
  · intro b lL
    clear hO h0
    refine BR _ b (fun st t14 t15 => rnd (fun (s : Bool × (List aF) × Bool) => oD tV jO s.1 s.2.1 s.2.2 t14 t15) st) ?_ jO _ _ hl0
    intro st t14 t15 st2 rr hr
    obtain ⟨s, rfl, h1, rfl⟩ := aAY hr
    clear hr
    intro Hr Gr hi hg
    obtain ⟨t4, nN, iT⟩ := s
    dsimp only [Sum.elim_inl] at hi
    obtain rfl := hi
    replace h1 : oD tV jO t4 nN iT t14 t15 = some st2 := h1
    unfold oD at h1
    obtain ⟨E1, hE, hO⟩ := HT hg
    refine HS (OS (hO.gm 0 _ rfl).2 (by kernel_rfl) (by kernel_rfl) ?_)
    refine cO [(3, (.rp (.fn (.func holds1_f) holds1_a holds1_c))), (4, (.lp lo7 0 0)), (5, (.lp lo8 0 0)), (6, (.lp lo9 0 0)), (13, (.fn (.func 104) [] [(.rp (eL aD jO))])), (14, (eL aG t14)), (15, (eL aE t15))] ?_
    refine aT aH 1 [13, 14] [(7, (eL aG t14))] ?_
    refine aW aH 1 ?_
    refine bC ?_
    refine dY [(3, (.rp (.fn (.func holds1_f) holds1_a holds1_c))), (4, (.lp lo7 0 0)), (5, (.lp lo8 0 0)), (6, (.lp lo9 0 0)), (7, (eL aG t14)), (8, (eL aE t15))] ?_
    refine aJ (⟨rfl, rfl, (hO.gm 0 _ rfl).2, ?_⟩)
    intro o1 ho1
    replace hO := hO.FG o1
    refine bP 1 ?_
    refine aO ?_
    refine aO ?_
    refine aW aH 18 ?_
    refine bS 1 ?_
    obtain ⟨x10, hx11, h1⟩ := aY h1
    refine cJ (CH t14 _ hx11) hO ?_
    intro H hO
    refine bS 4 ?_
    refine wU [(19, false)] 2 lo9 1 0 (aK iT) (aK iT) [(aK iT)] (by kernel_rfl) (by kernel_rfl) hO (by kernel_rfl) (!(!x10)) (by kernel_rfl) (fun hb13 => rfl) ?_
    refine bS 6 ?_
    refine wU [(21, true), (19, false)] 1 lo8 1 0 (eL aG nN) (eL aG nN) [(eL aG nN)] (by kernel_rfl) (by kernel_rfl) hO (by kernel_rfl) (iT && (!(!x10))) (by kernel_rfl) (fun hb14 => rfl) ?_
    refine bS 8 ?_
    obtain ⟨x15, hx16, h1⟩ := aY h1
    refine pF [(21, true), (19, false)] 61 [(eL aG nN), (eL aG t14)] (eI x15) (iT && (!(!x10))) (by kernel_rfl) (by kernel_rfl) (by kernel_rfl) (fun hb17 => (EW nN t14 _ (nI hx16 hb17))) hO ?_
    intro H hO
    refine bS 15 ?_
    obtain ⟨x18, hx19, h1⟩ := aY h1
    refine pF [(28, false)] holds1_f (holds1_a ++ [(eL aE t15)] ++ holds1_c) (aK x18) (!((!x10) || (iT && (decide ((0 : Int) ≤ x15))))) (by kernel_rfl) (by kernel_rfl) (by kernel_rfl) (fun hb20 => (holds1_h t15 _ (nI hx19 hb20))) hO ?_
    intro H hO
    refine bC ?_
    refine bQ [3, 8] [(33, (aK (((!x10) || (iT && (decide ((0 : Int) ≤ x15)))) || (!x18))))] ?_
    refine bE h1 (fun h1 => ?_) (fun h1 => ?_)
    · refine aO ?_
      refine aW aH 1 ?_
      refine pQ 0 lo7 1 0 (aK t4) (aK false) [(aK t4)] [(lo7, 1, [(aK false)]), (lo8, 1, [(eL aG nN)]), (lo9, 1, [(aK iT)])] hO rfl (by kernel_rfl) ?_
      intro H hO
      refine cZ ?_
      refine bQ [7, 33] [] ?_
      refine bI ?_
      refine dY [(4, (.lp lo7 0 0)), (5, (.lp lo8 0 0)), (6, (.lp lo9 0 0))] ?_
      obtain rfl := oI h1
      exact aJ (aP (bM (⟨(nW hO hE ho1 .dead).1, rfl, _, rfl, (nW hO hE ho1 _).2⟩)))
    refine bH ?_
    refine bD [(4, (.lp lo7 0 0)), (5, (.lp lo8 0 0)), (6, (.lp lo9 0 0)), (7, (eL aG t14))] ?_
    refine aW aH 3 ?_
    refine bS 1 ?_
    refine pQ 1 lo8 1 0 (eL aG nN) (eL aG t14) [(eL aG nN)] [(lo7, 1, [(aK t4)]), (lo8, 1, [(eL aG t14)]), (lo9, 1, [(aK iT)])] hO rfl (by kernel_rfl) ?_
    intro H hO
    refine pQ 2 lo9 1 0 (aK iT) (aK true) [(aK iT)] [(lo7, 1, [(aK t4)]), (lo8, 1, [(eL aG t14)]), (lo9, 1, [(aK true)])] hO rfl (by kernel_rfl) ?_
    intro H hO
    refine cZ ?_
    refine dY [(4, (.lp lo7 0 0)), (5, (.lp lo8 0 0)), (6, (.lp lo9 0 0))] ?_
    obtain rfl := oI h1
    exact aJ (aU (⟨(nW hO hE ho1 .dead).1, rfl, _, rfl, (nW hO hE ho1 _).2⟩))
  · intro b lD lL H' G' hi hO
    rcases o0 with s | s
    · dsimp only [Sum.elim_inl] at hi
      obtain rfl := hi
      replace h0 : (some true) = some r := h0
      obtain ⟨hlL, hO⟩ := AK hO
      refine ⟨_, _, hlL, (by intro e; cases e), ?_⟩
      refine dY [(4, (.lp lo7 0 0))] ?_
      replace hO := hO.pick (L' := [(lo7, 1, [(aK s.1)])]) [0] (by decide) (by kernel_rfl)
      refine aJ (aU (aI (?_)))
      refine aO ?_
      refine aW aH 1 ?_
      refine pQ 0 lo7 1 0 (aK s.1) (aK true) [(aK s.1)] [(lo7, 1, [(aK true)])] hO rfl (by kernel_rfl) ?_
      intro H hO
      refine cZ ?_
      refine bD [(4, (.lp lo7 0 0))] ?_
      refine bI ?_
      obtain rfl := oI h0
      have hD := (hO.gm 0 _ rfl).2
      replace hO := (hO.FG .dead).DN
      exact aJ (QM1 (.inr rfl) hD (rs := [.cell 4 4]) (xs := [(aK true)]) (x := (aK true)) (by kernel_rfl) (yF (lo := lo7) (k := 1) (y := (aK true)) (x := (aK true)) 0 hO (by kernel_rfl) (by kernel_rfl) (by kernel_rfl) (by kernel_rfl) GU) (by kernel_rfl) ⟨rfl, hO.out⟩)
    · dsimp only [Sum.elim_inr] at hi
      obtain rfl := hi
      replace h0 : (some s.1) = some r := h0
      obtain ⟨hlL, hO⟩ := AK hO
      refine ⟨_, _, hlL, (by intro e; cases e), ?_⟩
      refine bI ?_
      replace hO := hO.pick (L' := [(lo7, 1, [(aK s.1)])]) [0] (by decide) (by kernel_rfl)
      obtain rfl := oI h0
      have hD := (hO.gm 0 _ rfl).2
      replace hO := (hO.FG .dead).DN
      exact aJ (bM (aP (QM1 (.inr rfl) hD (rs := [.cell 4 4]) (xs := [(aK s.1)]) (x := (aK s.1)) (by kernel_rfl) (yF (lo := lo7) (k := 1) (y := (aK s.1)) (x := (aK s.1)) 0 hO (by kernel_rfl) (by kernel_rfl) (by kernel_rfl) (by kernel_rfl) GU) (by kernel_rfl) ⟨rfl, hO.out⟩)))

theorem HM (n0 : Int) (r : Bool) (h0 : uY n0 = some r) : bV Try.prog 85 [(eI n0)] (aK r) := by
  intro H0
  refine cC Try.func85 ?_
  have hO := aL.start H0
  unfold uY at h0
  refine aT aH 1 [] [] ?_
  refine bN aH 7 [(2, (aK ((decide (n0 ≤ (1048576 : Int))) && (decide ((-1048576 : Int) ≤ n0)))))] ?_
  refine bI ?_
  obtain rfl := oI h0
  exact aJ (Q_r hO)

theorem AD (f0 : (List aB)) (r : Bool) (h0 : nP f0 = some r) : bV Try.prog 51 [(eL aE f0)] (aK r) := by
  intro H0
  refine cC Try.func51 ?_
  have hO := aL.start H0
  unfold nP at h0
  refine aT aH 1 [] [] ?_
  refine aO ?_
  refine aT aH 3 [] [(8, (aK (decide ((1024 : Int) < (lN f0)))))] ?_
  refine bE h0 (fun h0 => ?_) (fun h0 => ?_)
  · refine bN aH 1 [(2, (aK false))] ?_
    refine bI ?_
    obtain rfl := oI h0
    exact aJ (aP (Q_r hO))
  refine bH ?_
  refine bD [(0, (eL aE f0))] ?_
  refine aT aH 1 [] [(3, (eI (-2 : Int)))] ?_
  refine cE (fun T H => Has T [] ∧ aL ⟨H0, [], []⟩ H [] ∧ vF  = some r) ?_ ?_
  · clear hO h0
    rintro T H ⟨hT, hO, h0⟩
    refine aZ hT ?_
    clear hT
    unfold vF at h0
    refine bN aH 1 [(2, (aK true))] ?_
    refine bI ?_
    obtain rfl := oI h0
    exact aJ (Q_r hO)
  refine aT aH 3 [0] [(9, (eL aE f0)), (10, (eI (lN f0))), (11, (eI (0 : Int)))] ?_
  refine bP 0 ?_
  refine cO [(3, (eI (-2 : Int))), (9, (eL aE f0)), (10, (eI (lN f0))), (11, (eI (0 : Int)))] ?_
  refine cF (fun T H => ∃ qB : Int, ∃ t9 : (List aB), ∃ t10 : Int, ∃ t11 : Int, Has T [(3, (eI qB)), (9, (eL aE t9)), (10, (eI t10)), (11, (eI t11))] ∧ aL ⟨H0, [], []⟩ H [] ∧ yW qB t9 t10 t11 = some r) ?_ ⟨(-2 : Int), f0, (lN f0), (0 : Int), .eq (by kernel_rfl), hO, h0⟩
  clear hO h0
  rintro T H ⟨qB, t9, t10, t11, hT, hO, h0⟩
  refine aZ hT ?_
  clear hT
  unfold yW at h0
  obtain ⟨rr0, hl0, h0⟩ := aY h0
  refine bW (by kernel_rfl) (fun (s : Int × Int) T H => Has T [(3, (eI s.1)), (9, (eL aE t9)), (10, (eI t10)), (11, (eI s.2))] ∧ aL ⟨H0, [], []⟩ H []) hl0 ⟨.eq (by kernel_rfl), hO⟩ ?_
  clear hO
  rintro k0 s out1 T H ⟨hT, hO⟩ h1 ho0
  obtain ⟨qB, t11⟩ := s
  replace h1 : lG t9 t10 qB t11 = some out1 := h1
  dsimp only at hT
  refine aZ hT ?_
  clear hT
  unfold lG at h1
  refine aT aH 1 [] [(12, (aK (decide (t11 < t10))))] ?_
  refine aO ?_
  refine bE h1 (fun h1 => ?_) (fun h1 => ?_)
  · refine bH ?_
    refine bD [(3, (eI qB)), (9, (eL aE t9)), (10, (eI t10)), (11, (eI t11))] ?_
    refine aO ?_
    refine bP 1 ?_
    refine aO ?_
    refine aW aH 4 ?_
    obtain ⟨c3, h1⟩ := bA h1
    refine nH 2 [0 ≤ t11 ∧ t11 < (lN t9)] ⟨c3, trivial⟩ ?_
    refine tJ 2 (aE (aB.mk 0 0)) (by kernel_rfl) (by kernel_rfl) hO ?_
    intro lo4 H hO
    refine pQ 0 lo4 2 0 (aE (aB.mk 0 0)) (aE (gD t9 t11)) [(aE (aB.mk 0 0))] [(lo4, 2, [(aE (gD t9 t11))])] hO rfl (by kernel_rfl) ?_
    intro H hO
    refine cZ ?_
    refine bQ [] [(5, (.lp lo4 0 0))] ?_
    refine aO ?_
    refine aO ?_
    refine aW aH 20 ?_
    refine bS 1 ?_
    refine AS 0 lo4 2 0 (aE (gD t9 t11)) (eI ((gD t9 t11).At)) [(aE (gD t9 t11))] hO rfl ?_
    refine bS 6 ?_
    refine wU [(19, false)] 0 lo4 2 0 (aE (gD t9 t11)) (eI ((gD t9 t11).At)) [(aE (gD t9 t11))] (by kernel_rfl) (by kernel_rfl) hO (by kernel_rfl) (!(decide (((gD t9 t11).At) ≤ qB))) (by kernel_rfl) (fun hb5 => rfl) ?_
    refine bS 11 ?_
    refine wU [(24, false)] 0 lo4 2 0 (aE (gD t9 t11)) (eI ((gD t9 t11).Net)) [(aE (gD t9 t11))] (by kernel_rfl) (by kernel_rfl) hO (by kernel_rfl) (!((decide (((gD t9 t11).At) ≤ qB)) || (decide ((1125899906842624 : Int) ≤ ((gD t9 t11).At))))) (by kernel_rfl) (fun hb6 => rfl) ?_
    refine bS 16 ?_
    refine wU [(29, false)] 0 lo4 2 0 (aE (gD t9 t11)) (eI ((gD t9 t11).Net)) [(aE (gD t9 t11))] (by kernel_rfl) (by kernel_rfl) hO (by kernel_rfl) (!(((decide (((gD t9 t11).At) ≤ qB)) || (decide ((1125899906842624 : Int) ≤ ((gD t9 t11).At)))) || (decide (((gD t9 t11).Net) = (0 : Int))))) (by kernel_rfl) (fun hb7 => rfl) ?_
    obtain ⟨x8, hx9, h1⟩ := aY h1
    refine pF [(29, false)] 85 [(eI ((gD t9 t11).Net))] (aK x8) (!(((decide (((gD t9 t11).At) ≤ qB)) || (decide ((1125899906842624 : Int) ≤ ((gD t9 t11).At)))) || (decide (((gD t9 t11).Net) = (0 : Int))))) (by kernel_rfl) (by kernel_rfl) (by kernel_rfl) (fun hb10 => (HM ((gD t9 t11).Net) _ (nI hx9 hb10))) hO ?_
    intro H hO
    refine bC ?_
    refine bQ [3] [(34, (aK ((((decide (((gD t9 t11).At) ≤ qB)) || (decide ((1125899906842624 : Int) ≤ ((gD t9 t11).At)))) || (decide (((gD t9 t11).Net) = (0 : Int)))) || (!x8))))] ?_
    refine bE h1 (fun h1 => ?_) (fun h1 => ?_)
    · refine aO ?_
      refine aW aH 1 ?_
      refine bC ?_
      refine dY [(2, (aK false))] ?_
      replace hO := hO.pick (L' := []) [] (by decide) (by kernel_rfl)
      refine aJ (aI (?_))
      refine bI ?_
      obtain rfl := oI h1
      obtain rfl : _ = rr0 := ho0
      replace h0 : some false = some r := h0
      obtain rfl := oI h0
      exact aJ (aP (bM (aP (aP (bM (aP (Q_r hO)))))))
    refine bH ?_
    refine bD [(5, (.lp lo4 0 0)), (9, (eL aE t9)), (10, (eI t10)), (11, (eI t11))] ?_
    refine aW aH 3 ?_
    refine bS 1 ?_
    refine AS 0 lo4 2 0 (aE (gD t9 t11)) (eI ((gD t9 t11).At)) [(aE (gD t9 t11))] hO rfl ?_
    refine bC ?_
    refine dY [(3, (eI ((gD t9 t11).At))), (9, (eL aE t9)), (10, (eI t10)), (11, (eI t11))] ?_
    replace hO := hO.pick (L' := []) [] (by decide) (by kernel_rfl)
    refine aJ (aU (aI (?_)))
    refine aW aH 2 ?_
    refine bC ?_
    exact aJ (aI (⟨rfl, _, (oI h1).symm, .eq (by kernel_rfl), hO⟩))
  refine cS 0 ?_
  obtain rfl := oI h1
  obtain rfl : _ = rr0 := ho0
  replace h0 : vF  = some r := h0
  exact aJ (aS (aS (bL (aI (⟨rfl, .eq (by kernel_rfl), hO, h0⟩)))))

theorem VI (l0 : (List aC)) (r : Bool) (h0 : xP l0 = some r) : bV Try.prog 25 [(eL aD l0)] (aK r) := by
  intro H0
  refine cC Try.func25 ?_
  have hO := aL.start H0
  unfold xP at h0
  refine aT aH 1 [] [] ?_
  refine aO ?_
  refine aW aH 3 ?_
  refine bS 1 ?_
  obtain ⟨x1, hx2, h0⟩ := aY h0
  refine cJ (IB l0 51 [] [] (fun y0 => nP y0) (fun y0 r h => AD y0 r h) _ hx2) hO ?_
  intro H hO
  refine bC ?_
  refine bD [(2, (aK x1))] ?_
  refine bI ?_
  obtain rfl := oI h0
  exact aJ (Q_r hO)

theorem ON (f0 : (List aB)) (r : Int) (h0 : tU f0 = some r) : bV Try.prog 52 [(eL aE f0)] (eI r) := by
  intro H0
  refine cC Try.func52 ?_
  have hO := aL.start H0
  unfold tU at h0
  refine aT aH 1 [] [] ?_
  refine aO ?_
  refine aO ?_
  refine aW aH 8 ?_
  refine bS 1 ?_
  obtain ⟨x1, hx2, h0⟩ := aY h0
  refine cJ (AD f0 _ hx2) hO ?_
  intro H hO
  refine bC ?_
  refine bQ [] [(14, (aK ((!x1) || (decide ((lN f0) = (0 : Int))))))] ?_
  refine bE h0 (fun h0 => ?_) (fun h0 => ?_)
  · refine bN aH 1 [(2, (eI (0 : Int)))] ?_
    refine bI ?_
    obtain rfl := oI h0
    exact aJ (aP (Q_r hO))
  refine bH ?_
  refine bD [(0, (eL aE f0))] ?_
  refine aT aH 2 [] [(3, (eI (0 : Int))), (4, (eI (0 : Int)))] ?_
  refine cE (fun T H => ∃ v3 : Int, ∃ eT : Int, Has T [(0, (eL aE f0)), (3, (eI v3)), (4, (eI eT))] ∧ aL ⟨H0, [], []⟩ H [] ∧ oU f0 v3 eT = some r) ?_ ?_
  · clear hO h0
    rintro T H ⟨v3, eT, hT, hO, h0⟩
    refine aZ hT ?_
    clear hT
    unfold oU at h0
    refine cE (fun T H => ∃ eT : Int, Has T [(4, (eI eT))] ∧ aL ⟨H0, [], []⟩ H [] ∧ rR eT = some r) ?_ ?_
    · clear hO h0
      rintro T H ⟨eT, hT, hO, h0⟩
      refine aZ hT ?_
      clear hT
      unfold rR at h0
      refine bN aH 2 [(2, (eI eT))] ?_
      refine bI ?_
      obtain rfl := oI h0
      exact aJ (Q_r hO)
    refine aT aH 3 [0] [(24, (eL aE f0)), (25, (eI (lN f0))), (26, (eI (0 : Int)))] ?_
    refine bP 0 ?_
    refine cO [(3, (eI v3)), (4, (eI eT)), (24, (eL aE f0)), (25, (eI (lN f0))), (26, (eI (0 : Int)))] ?_
    refine cF (fun T H => ∃ v3 : Int, ∃ eT : Int, ∃ t24 : (List aB), ∃ t25 : Int, ∃ t26 : Int, Has T [(3, (eI v3)), (4, (eI eT)), (24, (eL aE t24)), (25, (eI t25)), (26, (eI t26))] ∧ aL ⟨H0, [], []⟩ H [] ∧ rU v3 eT t24 t25 t26 = some r) ?_ ⟨v3, eT, f0, (lN f0), (0 : Int), .eq (by kernel_rfl), hO, h0⟩
    clear hO h0
    rintro T H ⟨v3, eT, t24, t25, t26, hT, hO, h0⟩
    refine aZ hT ?_
    clear hT
    unfold rU at h0
    obtain ⟨rr0, hl0, h0⟩ := aY h0
    refine bW (by kernel_rfl) (fun (s : Int × Int × Int) T H => Has T [(3, (eI s.1)), (4, (eI s.2.1)), (24, (eL aE t24)), (25, (eI t25)), (26, (eI s.2.2))] ∧ aL ⟨H0, [], []⟩ H []) hl0 ⟨.eq (by kernel_rfl), hO⟩ ?_
    clear hO
    rintro k0 s out1 T H ⟨hT, hO⟩ h1 ho0
    obtain ⟨v3, eT, t26⟩ := s
    replace h1 : lQ t24 t25 v3 eT t26 = some out1 := h1
    dsimp only at hT
    refine aZ hT ?_
    clear hT
    unfold lQ at h1
    refine aT aH 1 [] [(27, (aK (decide (t26 < t25))))] ?_
    refine aO ?_
    refine bE h1 (fun h1 => ?_) (fun h1 => ?_)
    · refine bH ?_
      refine bD [(3, (eI v3)), (4, (eI eT)), (24, (eL aE t24)), (25, (eI t25)), (26, (eI t26))] ?_
      refine aO ?_
      refine bP 1 ?_
      refine aO ?_
      refine aW aH 4 ?_
      obtain ⟨c6, h1⟩ := bA h1
      refine nH 2 [0 ≤ t26 ∧ t26 < (lN t24)] ⟨c6, trivial⟩ ?_
      refine tJ 2 (aE (aB.mk 0 0)) (by kernel_rfl) (by kernel_rfl) hO ?_
      intro lo7 H hO
      refine pQ 0 lo7 2 0 (aE (aB.mk 0 0)) (aE (gD t24 t26)) [(aE (aB.mk 0 0))] [(lo7, 2, [(aE (gD t24 t26))])] hO rfl (by kernel_rfl) ?_
      intro H hO
      refine cZ ?_
      refine bQ [] [(6, (.lp lo7 0 0))] ?_
      refine aO ?_
      refine aW aH 5 ?_
      refine bS 2 ?_
      refine AS 0 lo7 2 0 (aE (gD t24 t26)) (eI ((gD t24 t26).Net)) [(aE (gD t24 t26))] hO rfl ?_
      refine bC ?_
      replace hO := hO.pick (L' := []) [] (by decide) (by kernel_rfl)
      refine bQ [3, 6] [(3, (eI (wR (v3 + ((gD t24 t26).Net)))))] ?_
      refine aW aH 4 ?_
      refine bC ?_
      refine dY [(3, (eI (wR (v3 + ((gD t24 t26).Net))))), (4, (eI (if (wR (v3 + ((gD t24 t26).Net))) < eT then (wR (v3 + ((gD t24 t26).Net))) else eT))), (24, (eL aE t24)), (25, (eI t25)), (26, (eI t26))] ?_
      refine aJ (aU (aI (?_)))
      refine aW aH 2 ?_
      refine bC ?_
      exact aJ (aI (⟨rfl, _, (oI h1).symm, .eq (by kernel_rfl), hO⟩))
    refine cS 0 ?_
    obtain rfl := oI h1
    obtain rfl : _ = rr0 := ho0
    replace h0 : rR eT = some r := h0
    exact aJ (aS (aS (bL (aI (⟨rfl, _, .eq (by kernel_rfl), hO, h0⟩)))))
  refine aO ?_
  refine aW aH 5 ?_
  obtain ⟨c8, h0⟩ := bA h0
  refine nO [0 ≤ (0 : Int) ∧ (0 : Int) < (lN f0)] ⟨c8, trivial⟩ ?_
  refine bQ [] [(19, (aK (decide (((gD f0 (0 : Int)).At) = (-1 : Int)))))] ?_
  refine bE h0 (fun h0 => ?_) (fun h0 => ?_)
  · refine aW aH 5 ?_
    obtain ⟨c10, h0⟩ := bA h0
    refine nO [0 ≤ (0 : Int) ∧ (0 : Int) < (lN f0)] ⟨c10, trivial⟩ ?_
    exact aJ (aI (⟨rfl, _, _, .eq (by kernel_rfl), hO, h0⟩))
  refine bH ?_
  exact aJ (aI (⟨rfl, _, _, .eq (by kernel_rfl), hO, h0⟩))

theorem LI (f0 : (List aB)) (r : Bool) (h0 : qF f0 = some r) : bV Try.prog 50 [(eL aE f0)] (aK r) := by
  intro H0
  refine cC Try.func50 ?_
  have hO := aL.start H0
  unfold qF at h0
  refine aT aH 1 [] [] ?_
  refine aO ?_
  refine aW aH 8 ?_
  refine bS 1 ?_
  obtain ⟨x1, hx2, h0⟩ := aY h0
  refine cJ (AD f0 _ hx2) hO ?_
  intro H hO
  refine bS 4 ?_
  obtain ⟨x4, hx5, h0⟩ := aY h0
  refine pF [(5, true)] 52 [(eL aE f0)] (eI x4) x1 (by kernel_rfl) (by kernel_rfl) (by kernel_rfl) (fun hb6 => (ON f0 _ (nI hx5 hb6))) hO ?_
  intro H hO
  refine bC ?_
  refine bD [(2, (aK (x1 && (decide ((0 : Int) ≤ x4)))))] ?_
  refine bI ?_
  obtain rfl := oI h0
  exact aJ (Q_r hO)

theorem GL (l0 : (List aC)) (r : Bool) (h0 : qH l0 = some r) : bV Try.prog 17 [(eL aD l0)] (aK r) := by
  intro H0
  refine cC Try.func17 ?_
  have hO := aL.start H0
  unfold qH at h0
  refine aT aH 1 [] [] ?_
  refine aO ?_
  refine aW aH 3 ?_
  refine bS 1 ?_
  obtain ⟨x1, hx2, h0⟩ := aY h0
  refine cJ (IB l0 50 [] [] (fun y0 => qF y0) (fun y0 r h => LI y0 r h) _ hx2) hO ?_
  intro H hO
  refine bC ?_
  refine bD [(2, (aK x1))] ?_
  refine bI ?_
  obtain rfl := oI h0
  exact aJ (Q_r hO)

theorem NO (t0 : Int) (t1 : Int) (r : Int) (h0 : vS t0 t1 = some r) : bV Try.prog 43 [(eI t0), (.rp (eI t1))] (eI r) := by
  intro H0
  refine cC Try.func43 ?_
  have hO := aL.start H0
  unfold vS at h0
  refine aT aH 1 [] [] ?_
  refine bN aH 5 [(3, (eI (if (1125899906842624 : Int) < (wR (t0 + t1)) then (1125899906842624 : Int) else (wR (t0 + t1)))))] ?_
  refine bI ?_
  obtain rfl := oI h0
  exact aJ (Q_r hO)

theorem tR (s0 : (List aC)) (f1_f : Nat) (f1_a f1_c : List V) (f1 : aC → Option Bool) (f1_h : ∀ a0 r, f1 a0 = some r → bV Try.prog f1_f (f1_a ++ [(aD a0)] ++ f1_c) (aK r)) (r : Int) (h0 : fE s0 f1 = some r) : bV Try.prog 86 [(eL aD s0), (.fn (.func f1_f) f1_a f1_c)] (eI r) := by
  intro H0
  refine cC Try.func86 ?_
  have hO := aL.start H0
  unfold fE at h0
  refine aT aH 1 [] [] ?_
  refine cE (fun T H => Has T [] ∧ aL ⟨H0, [], []⟩ H [] ∧ dI f1  = some r) ?_ ?_
  · clear hO h0
    rintro T H ⟨hT, hO, h0⟩
    refine aZ hT ?_
    clear hT
    unfold dI at h0
    refine bN aH 1 [(4, (eI (-1 : Int)))] ?_
    refine bI ?_
    obtain rfl := oI h0
    exact aJ (Q_r hO)
  refine aT aH 3 [] [(7, (eI (lN s0))), (8, (eI (0 : Int)))] ?_
  refine bP 0 ?_
  refine cO [(0, (eL aD s0)), (1, (.fn (.func f1_f) f1_a f1_c)), (7, (eI (lN s0))), (8, (eI (0 : Int)))] ?_
  refine cF (fun T H => ∃ t7 : Int, ∃ t8 : Int, Has T [(0, (eL aD s0)), (1, (.fn (.func f1_f) f1_a f1_c)), (7, (eI t7)), (8, (eI t8))] ∧ aL ⟨H0, [], []⟩ H [] ∧ eX f1 s0 t7 t8 = some r) ?_ ⟨(lN s0), (0 : Int), .eq (by kernel_rfl), hO, h0⟩
  clear hO h0
  rintro T H ⟨t7, t8, hT, hO, h0⟩
  refine aZ hT ?_
  clear hT
  unfold eX at h0
  obtain ⟨rr0, hl0, h0⟩ := aY h0
  refine bW (by kernel_rfl) (fun (s : Int) T H => Has T [(0, (eL aD s0)), (1, (.fn (.func f1_f) f1_a f1_c)), (7, (eI t7)), (8, (eI s))] ∧ aL ⟨H0, [], []⟩ H []) hl0 ⟨.eq (by kernel_rfl), hO⟩ ?_
  clear hO
  rintro k0 s out1 T H ⟨hT, hO⟩ h1 ho0
  obtain ⟨t8, rfl⟩ : ∃ x, x = s := ⟨_, rfl⟩
  replace h1 : eW f1 s0 t7 t8 = some out1 := h1
  refine aZ hT ?_
  clear hT
  unfold eW at h1
  refine aT aH 1 [] [(9, (aK (decide (t8 < t7))))] ?_
  refine aO ?_
  refine bE h1 (fun h1 => ?_) (fun h1 => ?_)
  · refine bH ?_
    refine bD [(0, (eL aD s0)), (1, (.fn (.func f1_f) f1_a f1_c)), (7, (eI t7)), (8, (eI t8))] ?_
    refine aO ?_
    refine bP 1 ?_
    refine aT aH 2 [] [(5, (eI t8))] ?_
    refine aO ?_
    refine aW aH 6 ?_
    obtain ⟨c2, h1⟩ := bA h1
    refine nH 5 [0 ≤ t8 ∧ t8 < (lN s0)] ⟨c2, trivial⟩ ?_
    obtain ⟨x3, hx4, h1⟩ := aY h1
    refine cJ (f1_h (gD s0 t8) _ hx4) hO ?_
    intro H hO
    refine cZ ?_
    refine bQ [] [(16, (aK x3))] ?_
    refine bE h1 (fun h1 => ?_) (fun h1 => ?_)
    · refine bN aH 2 [(4, (eI t8))] ?_
      refine bI ?_
      obtain rfl := oI h1
      obtain rfl : _ = rr0 := ho0
      replace h0 : some t8 = some r := h0
      obtain rfl := oI h0
      exact aJ (bM (aP (aP (bM (aP (Q_r hO))))))
    refine bH ?_
    refine dY [(0, (eL aD s0)), (1, (.fn (.func f1_f) f1_a f1_c)), (7, (eI t7)), (8, (eI t8))] ?_
    refine aJ (aU (aI (?_)))
    refine aW aH 2 ?_
    refine bC ?_
    exact aJ (aI (⟨rfl, _, (oI h1).symm, .eq (by kernel_rfl), hO⟩))
  refine cS 0 ?_
  obtain rfl := oI h1
  obtain rfl : _ = rr0 := ho0
  replace h0 : dI f1  = some r := h0
  exact aJ (aS (aS (bL (aI (⟨rfl, .eq (by kernel_rfl), hO, h0⟩)))))

theorem lR (s0 : (List aC)) (f1_f : Nat) (f1_a f1_c : List V) (f1 : aC → Option Bool) (f1_h : ∀ a0 r, f1 a0 = some r → bV Try.prog f1_f (f1_a ++ [(aD a0)] ++ f1_c) (aK r)) (r : Bool) (h0 : cL s0 f1 = some r) : bV Try.prog 53 [(eL aD s0), (.fn (.func f1_f) f1_a f1_c)] (aK r) := by
  intro H0
  refine cC Try.func53 ?_
  have hO := aL.start H0
  unfold cL at h0
  refine aT aH 1 [] [] ?_
  refine aO ?_
  refine aW aH 5 ?_
  refine bS 2 ?_
  obtain ⟨x1, hx2, h0⟩ := aY h0
  refine cJ (tR s0 f1_f f1_a f1_c f1 f1_h _ hx2) hO ?_
  intro H hO
  refine bC ?_
  refine bD [(4, (aK (decide ((0 : Int) ≤ x1))))] ?_
  refine bI ?_
  obtain rfl := oI h0
  exact aJ (Q_r hO)

theorem NF (x0 : aC) (r : Bool) (h0 : rG x0 = some r) : bV Try.prog 54 [(aD x0)] (aK r) := by
  intro H0
  refine cC Try.func54 ?_
  have hO := aL.start H0
  unfold rG at h0
  refine aO ?_
  refine aW aH 2 ?_
  refine jW 3 (aD x0) (by kernel_rfl) (by kernel_rfl) ?_
  refine bC ?_
  refine bD [(1, (.rp (aD x0)))] ?_
  refine aO ?_
  refine aW aH 15 ?_
  refine bS 2 ?_
  obtain ⟨x1, hx2, h0⟩ := aY h0
  refine cJ (CH x0.Row _ hx2) hO ?_
  intro H hO
  refine bC ?_
  refine bD [(2, (aK (((!x1) || (decide ((1048576 : Int) < x0.Net))) || (decide (x0.Net < (-1048576 : Int))))))] ?_
  refine bI ?_
  obtain rfl := oI h0
  exact aJ (Q_r hO)

theorem NB (x0 : aC) (r : Bool) (h0 : rC x0 = some r) : bV Try.prog 56 [(aD x0)] (aK r) := by
  intro H0
  refine cC Try.func56 ?_
  have hO := aL.start H0
  unfold rC at h0
  refine aO ?_
  refine aW aH 2 ?_
  refine jW 3 (aD x0) (by kernel_rfl) (by kernel_rfl) ?_
  refine bC ?_
  refine bD [(1, (.rp (aD x0)))] ?_
  refine bN aH 9 [(2, (aK ((decide (x0.At < (-1 : Int))) || (decide ((1125899906842624 : Int) < x0.At)))))] ?_
  refine bI ?_
  obtain rfl := oI h0
  exact aJ (Q_r hO)

theorem wD (s0 : (List aC)) (r : (List aC)) (h0 : eO s0 = some r) : AH Try.prog 57 [(eL aD s0)] (fun lo => (.msl 3 lo 0 (List.length r))) 3 (List.map aD r) := by
  intro H0
  refine cC Try.func57 ?_
  have hO := aL.start H0
  unfold eO at h0
  refine aT aH 1 [] [] ?_
  refine aO ?_
  refine aO ?_
  refine aW aH 2 ?_
  refine bS 1 ?_
  refine aAb false (List.length s0) (fun i => aD (List.getD s0 i default)) (by kernel_rfl) (by kernel_rfl) ?_
  intro b1 hn2
  refine cZ ?_
  refine bQ [] [(4, (aK b1))] ?_
  refine nF (b1) (fun hc3 => ?_) (fun hc3 => ?_)
  · replace h0 : some ([] : List aC) = some r := by
      have hl := List.eq_nil_of_length_eq_zero (hn2 hc3)
      rw [hl] at h0
      exact (bA h0).2
    refine bN aH 1 [(2, (.sl true 0 (fun _ => .bad)))] ?_
    refine bI ?_
    refine dY [(2, (.sl true 0 (fun _ => .bad)))] ?_
    refine YB (el := (fun _ => .bad)) 0 2 3 hO (by kernel_rfl) ?_
    intro lo4 H5 hO
    obtain rfl := oI h0
    exact aJ (aP (pM (x := (.msl 3 lo4 0 (List.length ([] : List aC)))) (by kernel_rfl) (aR.refl _) ⟨lo4, rfl, hO⟩))
  · refine bH ?_
    refine bD [(0, (eL aD s0))] ?_
    refine aO ?_
    refine aW aH 4 ?_
    refine mS (xs := []) (k := 3) (by kernel_rfl) (by kernel_rfl) ?_
    refine bS 2 ?_
    obtain ⟨c7, h0⟩ := bA h0
    refine LN (e := aD) s0 (fun _ => .bad) 3 40 (eL aD s0) (fun lo6 => [(lo6, 3, List.map aD s0)]) (by kernel_rfl) (by kernel_rfl) hO (HC (fun _ => by kernel_rfl)) c7 (fun _ => by kernel_rfl) ?_
    intro lo6 H hO
    refine bC ?_
    refine bD [(2, (.msl 3 lo6 0 (List.length s0)))] ?_
    refine bI ?_
    obtain rfl := oI h0
    exact aJ (pM (x := (.msl 3 lo6 0 (List.length s0))) (by kernel_rfl) (aR.refl _) ⟨lo6, rfl, hO⟩)

theorem mG (lo0p : Nat) (aA : (List aC)) (a1 : Int) (b2 : Int) (cmp3_f : Nat) (cmp3_a cmp3_c : List V) (cmp3 : aC → aC → Option Int) (cmp3_h : ∀ a0 a1 r, cmp3 a0 a1 = some r → bV Try.prog cmp3_f (cmp3_a ++ [(aD a0), (aD a1)] ++ cmp3_c) (eI r)) (r : List aC) (h0 : dD aA a1 b2 cmp3 = some r) : kJ Try.prog 112 lo0p 3 (List.map aD aA) (List.map aD r) [(.msl 3 lo0p 0 (List.length aA)), (eI a1), (eI b2), (.fn (.func cmp3_f) cmp3_a cmp3_c)] (.tup []) := by
  intro H0 hl0
  refine cC Try.func112 ?_
  have hO := aL.oF hl0
  clear hl0
  obtain ⟨N0, hN0⟩ : ∃ n, n = List.length aA := ⟨_, rfl⟩
  have hN : List.length aA = N0 := hN0.symm
  unfold dD at h0
  refine aT aH 3 [] [(8, (eI (wR (a1 + (1 : Int)))))] ?_
  refine bP 0 ?_
  refine cO [(0, (.msl 3 lo0p 0 (List.length aA))), (1, (eI a1)), (2, (eI b2)), (3, (.fn (.func cmp3_f) cmp3_a cmp3_c)), (8, (eI (wR (a1 + (1 : Int)))))] ?_
  refine cF (fun T H => ∃ aA : List aC, ∃ i8 : Int, Has T [(0, (.msl 3 lo0p 0 (List.length aA))), (1, (eI a1)), (2, (eI b2)), (3, (.fn (.func cmp3_f) cmp3_a cmp3_c)), (8, (eI i8))] ∧ aL ⟨H0, [lo0p], []⟩ H [(lo0p, 3, List.map aD aA)] ∧ List.length aA = N0 ∧ iL cmp3 aA a1 b2 i8 = some r) ?_ ⟨aA, wR (a1 + (1 : Int)), .eq (by kernel_rfl), hO, hN, h0⟩
  clear hO hN h0
  rintro T H ⟨aA, i8, hT, hO, hN, h0⟩
  refine aZ hT ?_
  clear hT
  unfold iL at h0
  obtain ⟨rr0, hl0, h0⟩ := aY h0
  refine bW (by kernel_rfl) (fun (s : List aC × Int) T H => Has T [(0, (.msl 3 lo0p 0 (List.length s.1))), (1, (eI a1)), (2, (eI b2)), (3, (.fn (.func cmp3_f) cmp3_a cmp3_c)), (8, (eI s.2))] ∧ aL ⟨H0, [lo0p], []⟩ H [(lo0p, 3, List.map aD s.1)] ∧ List.length s.1 = N0) hl0 ⟨.eq (by kernel_rfl), hO, hN⟩ ?_
  clear hO hN
  rintro k0 s out1 T H ⟨hT, hO, hN⟩ h1 ho0
  obtain ⟨aA, i8⟩ := s
  replace h1 : iM cmp3 a1 b2 aA i8 = some out1 := h1
  dsimp only at hT
  refine aZ hT ?_
  clear hT
  unfold iM at h1
  refine aO ?_
  refine aT aH 3 [] [(14, (aK (decide (i8 < b2))))] ?_
  refine bE h1 (fun h1 => ?_) (fun h1 => ?_)
  · refine bH ?_
    refine bD [(0, (.msl 3 lo0p 0 (List.length aA))), (1, (eI a1)), (2, (eI b2)), (3, (.fn (.func cmp3_f) cmp3_a cmp3_c)), (8, (eI i8))] ?_
    refine cE (fun T H => ∃ aA : List aC, Has T [(0, (.msl 3 lo0p 0 (List.length aA))), (1, (eI a1)), (2, (eI b2)), (3, (.fn (.func cmp3_f) cmp3_a cmp3_c)), (8, (eI i8))] ∧ aL ⟨H0, [lo0p], []⟩ H [(lo0p, 3, List.map aD aA)] ∧ List.length aA = N0 ∧ eE cmp3 aA a1 b2 i8 = some out1) ?_ ?_
    · clear hO hN h1
      rintro T H ⟨aA, hT, hO, hN, h1⟩
      refine aZ hT ?_
      clear hT
      unfold eE at h1
      refine aW aH 3 ?_
      refine bC ?_
      exact aJ (aI (⟨rfl, _, (oI h1).symm, .eq (by kernel_rfl), hO, hN⟩))
    refine bP 1 ?_
    refine aT aH 2 [] [(9, (eI i8))] ?_
    refine bP 2 ?_
    refine cO [(0, (.msl 3 lo0p 0 (List.length aA))), (1, (eI a1)), (2, (eI b2)), (3, (.fn (.func cmp3_f) cmp3_a cmp3_c)), (8, (eI i8)), (9, (eI i8))] ?_
    refine cF (fun T H => ∃ aA : List aC, ∃ j9 : Int, Has T [(0, (.msl 3 lo0p 0 (List.length aA))), (1, (eI a1)), (2, (eI b2)), (3, (.fn (.func cmp3_f) cmp3_a cmp3_c)), (8, (eI i8)), (9, (eI j9))] ∧ aL ⟨H0, [lo0p], []⟩ H [(lo0p, 3, List.map aD aA)] ∧ List.length aA = N0 ∧ iK cmp3 aA a1 b2 i8 j9 = some out1) ?_ ⟨aA, i8, .eq (by kernel_rfl), hO, hN, h1⟩
    clear hO hN h1
    rintro T H ⟨aA, j9, hT, hO, hN, h1⟩
    refine aZ hT ?_
    clear hT
    unfold iK at h1
    obtain ⟨rr1, hl1, h1⟩ := aY h1
    refine bW (by kernel_rfl) (fun (s : List aC × Int) T H => Has T [(0, (.msl 3 lo0p 0 (List.length s.1))), (1, (eI a1)), (2, (eI b2)), (3, (.fn (.func cmp3_f) cmp3_a cmp3_c)), (8, (eI i8)), (9, (eI s.2))] ∧ aL ⟨H0, [lo0p], []⟩ H [(lo0p, 3, List.map aD s.1)] ∧ List.length s.1 = N0) hl1 ⟨.eq (by kernel_rfl), hO, hN⟩ ?_
    clear hO hN
    rintro k1 s out2 T H ⟨hT, hO, hN⟩ h2 ho1
    obtain ⟨aA, j9⟩ := s
    replace h2 : iG cmp3 a1 b2 i8 aA j9 = some out2 := h2
    dsimp only at hT
    refine aZ hT ?_
    clear hT
    unfold iG at h2
    refine aO ?_
    refine aO ?_
    obtain ⟨c2, h2⟩ := bA h2
    obtain ⟨c3, h2⟩ := bA h2
    obtain ⟨x4, hx5, h2⟩ := aY h2
    refine fD (fH []) aH 17 ?_
    refine vE (K := fun T H => Has (lift T) [(0, (.msl 3 lo0p 0 (List.length aA))), (1, (eI a1)), (2, (eI b2)), (3, (.fn (.func cmp3_f) cmp3_a cmp3_c)), (8, (eI i8)), (9, (eI j9)), (34, (aK ((decide (a1 < j9)) && (decide (x4 < (0 : Int))))))] ∧ aL ⟨H0, [lo0p], []⟩ H [(lo0p, 3, List.map aD aA)]) ?_ ?_
    · refine oT 4 ?_
      refine qO (t := 21) (e := decide (a1 < j9)) (by kernel_rfl) (fun hg6 => ?_) (fun hg6 => ?_)
      · refine cN 8 [0 ≤ j9 ∧ j9 < (lN aA)] ⟨(c2 hg6), trivial⟩ ?_
        refine wO 0 lo0p 3 (0 + Int.toNat j9) (aD (gD aA j9)) (aD (gD aA j9)) (List.map aD aA) (by kernel_rfl) (by kernel_rfl) (by kernel_rfl) hO (by kernel_rfl) (cK (c2 hg6)) ?_
        refine cN 13 [0 ≤ (wR (j9 - (1 : Int))) ∧ (wR (j9 - (1 : Int))) < (lN aA)] ⟨(c3 hg6), trivial⟩ ?_
        refine wO 0 lo0p 3 (0 + Int.toNat (wR (j9 - (1 : Int)))) (aD (gD aA (wR (j9 - (1 : Int))))) (aD (gD aA (wR (j9 - (1 : Int))))) (List.map aD aA) (by kernel_rfl) (by kernel_rfl) (by kernel_rfl) hO (by kernel_rfl) (cK (c3 hg6)) ?_
        refine yL cmp3_f (cmp3_a ++ [(aD (gD aA j9)), (aD (gD aA (wR (j9 - (1 : Int)))))] ++ cmp3_c) (eI x4) (by kernel_rfl) (by kernel_rfl) (cmp3_h (gD aA j9) (gD aA (wR (j9 - (1 : Int)))) _ (nI hx5 hg6)) hO ?_
        intro H hO
        refine iU ?_
        exact ⟨⟨[(0, (.msl 3 lo0p 0 (List.length aA))), (1, (eI a1)), (2, (eI b2)), (3, (.fn (.func cmp3_f) cmp3_a cmp3_c)), (8, (eI i8)), (9, (eI j9)), (34, (aK (decide (x4 < (0 : Int)))))], by kernel_rfl, rfl, ⟨aR.refl _, aR.refl _, aR.refl _, aR.refl _, aR.refl _, aR.refl _, aR.eq (congrArg aK (qA hg6 rfl).symm), trivial⟩⟩, hO⟩
      refine iU ?_
      exact ⟨⟨[(0, (.msl 3 lo0p 0 (List.length aA))), (1, (eI a1)), (2, (eI b2)), (3, (.fn (.func cmp3_f) cmp3_a cmp3_c)), (8, (eI i8)), (9, (eI j9)), (34, (aK false))], by kernel_rfl, rfl, ⟨aR.refl _, aR.refl _, aR.refl _, aR.refl _, aR.refl _, aR.refl _, aR.eq (congrArg aK (qA hg6 rfl).symm), trivial⟩⟩, hO⟩
    · rintro T H ⟨hT, hO⟩
      refine cG hT ?_
      clear hT
      refine aJ (aI ?_)
      refine bE h2 (fun h2 => ?_) (fun h2 => ?_)
      · refine bH ?_
        refine bD [(0, (.msl 3 lo0p 0 (List.length aA))), (1, (eI a1)), (2, (eI b2)), (3, (.fn (.func cmp3_f) cmp3_a cmp3_c)), (8, (eI i8)), (9, (eI j9))] ?_
        refine aO ?_
        refine bP 3 ?_
        refine fD (fH []) aH 18 ?_
        obtain ⟨c8, h2⟩ := bA h2
        refine cN 9 [0 ≤ (wR (j9 - (1 : Int))) ∧ (wR (j9 - (1 : Int))) < (lN aA)] ⟨c8, trivial⟩ ?_
        refine kS 0 lo0p 3 (0 + Int.toNat (wR (j9 - (1 : Int)))) (aD (gD aA (wR (j9 - (1 : Int))))) (aD (gD aA (wR (j9 - (1 : Int))))) (List.map aD aA) hO (cK c8) ?_
        obtain ⟨c9, h2⟩ := bA h2
        refine cN 13 [0 ≤ j9 ∧ j9 < (lN aA)] ⟨c9, trivial⟩ ?_
        refine kS 0 lo0p 3 (0 + Int.toNat j9) (aD (gD aA j9)) (aD (gD aA j9)) (List.map aD aA) hO (cK c9) ?_
        obtain ⟨c10, h2⟩ := bA h2
        refine cN 15 [0 ≤ j9 ∧ j9 < (lN aA)] ⟨c10, trivial⟩ ?_
        refine tT 0 lo0p 3 (0 + Int.toNat j9) (aD (gD aA j9)) (aD (gD aA (wR (j9 - (1 : Int))))) (List.map aD aA) [(lo0p, 3, List.map aD (List.set aA (Int.toNat j9) (gD aA (wR (j9 - (1 : Int))))))] hO (cK c10) (by simp only [List.set, nJ]) ?_
        intro H hO
        replace hN : List.length (List.set aA (Int.toNat j9) (gD aA (wR (j9 - (1 : Int))))) = N0 := by simpa using hN
        obtain ⟨c11, h2⟩ := bA h2
        refine cN 17 [0 ≤ (wR (j9 - (1 : Int))) ∧ (wR (j9 - (1 : Int))) < (lN aA)] ⟨c11, trivial⟩ ?_
        refine tT 0 lo0p 3 (0 + Int.toNat (wR (j9 - (1 : Int)))) (aD (gD (List.set aA (Int.toNat j9) (gD aA (wR (j9 - (1 : Int))))) (wR (j9 - (1 : Int))))) (aD (gD aA j9)) (List.map aD (List.set aA (Int.toNat j9) (gD aA (wR (j9 - (1 : Int)))))) [(lo0p, 3, List.map aD (List.set (List.set aA (Int.toNat j9) (gD aA (wR (j9 - (1 : Int))))) (Int.toNat (wR (j9 - (1 : Int)))) (gD aA j9)))] hO (wJ c11 (by simp [])) (by simp only [List.set, nJ]) ?_
        intro H hO
        replace hN : List.length (List.set (List.set aA (Int.toNat j9) (gD aA (wR (j9 - (1 : Int))))) (Int.toNat (wR (j9 - (1 : Int)))) (gD aA j9)) = N0 := by simpa using hN
        refine zV (by kernel_rfl) ?_
        refine cG (l := [(0, (.msl 3 lo0p 0 (List.length (List.set (List.set aA (Int.toNat j9) (gD aA (wR (j9 - (1 : Int))))) (Int.toNat (wR (j9 - (1 : Int)))) (gD aA j9))))), (1, (eI a1)), (2, (eI b2)), (3, (.fn (.func cmp3_f) cmp3_a cmp3_c)), (8, (eI i8)), (9, (eI j9))]) ⟨[(0, (.msl 3 lo0p 0 (List.length aA))), (1, (eI a1)), (2, (eI b2)), (3, (.fn (.func cmp3_f) cmp3_a cmp3_c)), (8, (eI i8)), (9, (eI j9))], by kernel_rfl, rfl, ⟨aR.eq (by simp []), aR.refl _, aR.refl _, aR.refl _, aR.refl _, aR.refl _, trivial⟩⟩ ?_
        refine aJ (aU (aI (?_)))
        refine aW aH 3 ?_
        refine bC ?_
        exact aJ (aI (⟨rfl, _, (oI h2).symm, .eq (by kernel_rfl), hO, hN⟩))
      refine cS 2 ?_
      obtain rfl := oI h2
      obtain rfl : _ = rr1 := ho1
      replace h1 : eE cmp3 aA a1 b2 i8 = some out1 := h1
      exact aJ (aS (aS (bL (aU (aI (⟨rfl, _, .eq (by kernel_rfl), hO, hN, h1⟩))))))
  refine cS 0 ?_
  obtain rfl := oI h1
  obtain rfl : _ = rr0 := ho0
  replace h0 : some aA = some r := h0
  obtain rfl := oI h0
  exact aJ (aS (aS (bL (qZ (x := (.tup [])) (by kernel_rfl) (aR.refl _) ⟨rfl, hO.ext, hO.at 0 (by kernel_rfl), by simp only [List.length_map]; exact hN.trans hN0⟩))))

theorem kB (lo0p : Nat) (aA : (List aC)) (a1 : Int) (b2 : Int) (n3 : Int) (cmp4_f : Nat) (cmp4_a cmp4_c : List V) (cmp4 : aC → aC → Option Int) (cmp4_h : ∀ a0 a1 r, cmp4 a0 a1 = some r → bV Try.prog cmp4_f (cmp4_a ++ [(aD a0), (aD a1)] ++ cmp4_c) (eI r)) (r : List aC) (h0 : dW aA a1 b2 n3 cmp4 = some r) : kJ Try.prog 123 lo0p 3 (List.map aD aA) (List.map aD r) [(.msl 3 lo0p 0 (List.length aA)), (eI a1), (eI b2), (eI n3), (.fn (.func cmp4_f) cmp4_a cmp4_c)] (.tup []) := by
  intro H0 hl0
  refine cC Try.func123 ?_
  have hO := aL.oF hl0
  clear hl0
  obtain ⟨N0, hN0⟩ : ∃ n, n = List.length aA := ⟨_, rfl⟩
  have hN : List.length aA = N0 := hN0.symm
  unfold dW at h0
  refine aT aH 1 [4] [(10, (eI (0 : Int)))] ?_
  refine bP 0 ?_
  refine cO [(0, (.msl 3 lo0p 0 (List.length aA))), (1, (eI a1)), (2, (eI b2)), (3, (eI n3)), (10, (eI (0 : Int)))] ?_
  refine cF (fun T H => ∃ aA : List aC, ∃ i10 : Int, Has T [(0, (.msl 3 lo0p 0 (List.length aA))), (1, (eI a1)), (2, (eI b2)), (3, (eI n3)), (10, (eI i10))] ∧ aL ⟨H0, [lo0p], []⟩ H [(lo0p, 3, List.map aD aA)] ∧ List.length aA = N0 ∧ jH cmp4 aA a1 b2 n3 i10 = some r) ?_ ⟨aA, (0 : Int), .eq (by kernel_rfl), hO, hN, h0⟩
  clear hO hN h0
  rintro T H ⟨aA, i10, hT, hO, hN, h0⟩
  refine aZ hT ?_
  clear hT
  unfold jH at h0
  obtain ⟨rr0, hl0, h0⟩ := aY h0
  refine bW (by kernel_rfl) (fun (s : List aC × Int) T H => Has T [(0, (.msl 3 lo0p 0 (List.length s.1))), (1, (eI a1)), (2, (eI b2)), (3, (eI n3)), (10, (eI s.2))] ∧ aL ⟨H0, [lo0p], []⟩ H [(lo0p, 3, List.map aD s.1)] ∧ List.length s.1 = N0) hl0 ⟨.eq (by kernel_rfl), hO, hN⟩ ?_
  clear hO hN
  rintro k0 s out1 T H ⟨hT, hO, hN⟩ h1 ho0
  obtain ⟨aA, i10⟩ := s
  replace h1 : jS cmp4 a1 b2 n3 aA i10 = some out1 := h1
  dsimp only at hT
  refine aZ hT ?_
  clear hT
  unfold jS at h1
  refine aO ?_
  refine aT aH 3 [] [(13, (aK (decide (i10 < n3))))] ?_
  refine bE h1 (fun h1 => ?_) (fun h1 => ?_)
  · refine bH ?_
    refine bD [(0, (.msl 3 lo0p 0 (List.length aA))), (1, (eI a1)), (2, (eI b2)), (3, (eI n3)), (10, (eI i10))] ?_
    refine aO ?_
    refine bP 1 ?_
    refine fD (fH []) aH 24 ?_
    obtain ⟨c2, h1⟩ := bA h1
    refine cN 13 [0 ≤ (wR (b2 + i10)) ∧ (wR (b2 + i10)) < (lN aA)] ⟨c2, trivial⟩ ?_
    refine kS 0 lo0p 3 (0 + Int.toNat (wR (b2 + i10))) (aD (gD aA (wR (b2 + i10)))) (aD (gD aA (wR (b2 + i10)))) (List.map aD aA) hO (cK c2) ?_
    obtain ⟨c3, h1⟩ := bA h1
    refine cN 19 [0 ≤ (wR (a1 + i10)) ∧ (wR (a1 + i10)) < (lN aA)] ⟨c3, trivial⟩ ?_
    refine kS 0 lo0p 3 (0 + Int.toNat (wR (a1 + i10))) (aD (gD aA (wR (a1 + i10)))) (aD (gD aA (wR (a1 + i10)))) (List.map aD aA) hO (cK c3) ?_
    obtain ⟨c4, h1⟩ := bA h1
    refine cN 21 [0 ≤ (wR (a1 + i10)) ∧ (wR (a1 + i10)) < (lN aA)] ⟨c4, trivial⟩ ?_
    refine tT 0 lo0p 3 (0 + Int.toNat (wR (a1 + i10))) (aD (gD aA (wR (a1 + i10)))) (aD (gD aA (wR (b2 + i10)))) (List.map aD aA) [(lo0p, 3, List.map aD (List.set aA (Int.toNat (wR (a1 + i10))) (gD aA (wR (b2 + i10)))))] hO (cK c4) (by simp only [List.set, nJ]) ?_
    intro H hO
    replace hN : List.length (List.set aA (Int.toNat (wR (a1 + i10))) (gD aA (wR (b2 + i10)))) = N0 := by simpa using hN
    obtain ⟨c5, h1⟩ := bA h1
    refine cN 23 [0 ≤ (wR (b2 + i10)) ∧ (wR (b2 + i10)) < (lN aA)] ⟨c5, trivial⟩ ?_
    refine tT 0 lo0p 3 (0 + Int.toNat (wR (b2 + i10))) (aD (gD (List.set aA (Int.toNat (wR (a1 + i10))) (gD aA (wR (b2 + i10)))) (wR (b2 + i10)))) (aD (gD aA (wR (a1 + i10)))) (List.map aD (List.set aA (Int.toNat (wR (a1 + i10))) (gD aA (wR (b2 + i10))))) [(lo0p, 3, List.map aD (List.set (List.set aA (Int.toNat (wR (a1 + i10))) (gD aA (wR (b2 + i10)))) (Int.toNat (wR (b2 + i10))) (gD aA (wR (a1 + i10)))))] hO (wJ c5 (by simp [])) (by simp only [List.set, nJ]) ?_
    intro H hO
    replace hN : List.length (List.set (List.set aA (Int.toNat (wR (a1 + i10))) (gD aA (wR (b2 + i10)))) (Int.toNat (wR (b2 + i10))) (gD aA (wR (a1 + i10)))) = N0 := by simpa using hN
    refine zV (by kernel_rfl) ?_
    refine cG (l := [(0, (.msl 3 lo0p 0 (List.length (List.set (List.set aA (Int.toNat (wR (a1 + i10))) (gD aA (wR (b2 + i10)))) (Int.toNat (wR (b2 + i10))) (gD aA (wR (a1 + i10))))))), (1, (eI a1)), (2, (eI b2)), (3, (eI n3)), (10, (eI i10))]) ⟨[(0, (.msl 3 lo0p 0 (List.length aA))), (1, (eI a1)), (2, (eI b2)), (3, (eI n3)), (10, (eI i10))], by kernel_rfl, rfl, ⟨aR.eq (by simp []), aR.refl _, aR.refl _, aR.refl _, aR.refl _, trivial⟩⟩ ?_
    refine aJ (aU (aI (?_)))
    refine aW aH 3 ?_
    refine bC ?_
    exact aJ (aI (⟨rfl, _, (oI h1).symm, .eq (by kernel_rfl), hO, hN⟩))
  refine cS 0 ?_
  obtain rfl := oI h1
  obtain rfl : _ = rr0 := ho0
  replace h0 : some aA = some r := h0
  obtain rfl := oI h0
  exact aJ (aS (aS (bL (qZ (x := (.tup [])) (by kernel_rfl) (aR.refl _) ⟨rfl, hO.ext, hO.at 0 (by kernel_rfl), by simp only [List.length_map]; exact hN.trans hN0⟩))))

theorem wW (lo0p : Nat) (aA : (List aC)) (a1 : Int) (m2 : Int) (b3 : Int) (cmp4_f : Nat) (cmp4_a cmp4_c : List V) (cmp4 : aC → aC → Option Int) (cmp4_h : ∀ a0 a1 r, cmp4 a0 a1 = some r → bV Try.prog cmp4_f (cmp4_a ++ [(aD a0), (aD a1)] ++ cmp4_c) (eI r)) (r : List aC) (h0 : lE aA a1 m2 b3 cmp4 = some r) : kJ Try.prog 118 lo0p 3 (List.map aD aA) (List.map aD r) [(.msl 3 lo0p 0 (List.length aA)), (eI a1), (eI m2), (eI b3), (.fn (.func cmp4_f) cmp4_a cmp4_c)] (.tup []) := by
  intro H0 hl0
  refine cC Try.func118 ?_
  have hO := aL.oF hl0
  clear hl0
  obtain ⟨N0, hN0⟩ : ∃ n, n = List.length aA := ⟨_, rfl⟩
  have hN : List.length aA = N0 := hN0.symm
  unfold lE at h0
  refine aT aH 4 [1] [(10, (eI (wR (m2 - a1))))] ?_
  refine aT aH 4 [3] [(11, (eI (wR (b3 - m2))))] ?_
  refine cE (fun T H => ∃ aA : List aC, ∃ i10 : Int, Has T [(0, (.msl 3 lo0p 0 (List.length aA))), (2, (eI m2)), (4, (.fn (.func cmp4_f) cmp4_a cmp4_c)), (10, (eI i10))] ∧ aL ⟨H0, [lo0p], []⟩ H [(lo0p, 3, List.map aD aA)] ∧ List.length aA = N0 ∧ iD cmp4 aA m2 i10 = some r) ?_ ?_
  · clear hO hN h0
    rintro T H ⟨aA, i10, hT, hO, hN, h0⟩
    refine aZ hT ?_
    clear hT
    unfold iD at h0
    refine aW aH 8 ?_
    refine bS 7 ?_
    obtain ⟨x1, hx2, h0⟩ := aY h0
    refine nL [(lo0p, 3, List.map aD x1)] 0 (kB lo0p aA (wR (m2 - i10)) m2 i10 cmp4_f cmp4_a cmp4_c cmp4 cmp4_h _ hx2) hO ?_
    intro H hO hl3
    simp only [List.length_map] at hl3
    replace hN := hl3.trans hN
    refine cZ ?_
    refine cG (l := [(0, (.msl 3 lo0p 0 (List.length x1)))]) ⟨[(0, (.msl 3 lo0p 0 (List.length aA)))], by kernel_rfl, rfl, ⟨aR.eq (by simp [hl3]), trivial⟩⟩ ?_
    obtain rfl := oI h0
    exact aJ (qZ (x := (.tup [])) (by kernel_rfl) (aR.refl _) ⟨rfl, hO.ext, hO.at 0 (by kernel_rfl), by simp only [List.length_map]; exact hN.trans hN0⟩)
  refine bP 0 ?_
  refine cO [(0, (.msl 3 lo0p 0 (List.length aA))), (2, (eI m2)), (4, (.fn (.func cmp4_f) cmp4_a cmp4_c)), (10, (eI (wR (m2 - a1)))), (11, (eI (wR (b3 - m2))))] ?_
  refine cF (fun T H => ∃ aA : List aC, ∃ i10 : Int, ∃ j11 : Int, Has T [(0, (.msl 3 lo0p 0 (List.length aA))), (2, (eI m2)), (4, (.fn (.func cmp4_f) cmp4_a cmp4_c)), (10, (eI i10)), (11, (eI j11))] ∧ aL ⟨H0, [lo0p], []⟩ H [(lo0p, 3, List.map aD aA)] ∧ List.length aA = N0 ∧ kT cmp4 aA m2 i10 j11 = some r) ?_ ⟨aA, wR (m2 - a1), wR (b3 - m2), .eq (by kernel_rfl), hO, hN, h0⟩
  clear hO hN h0
  rintro T H ⟨aA, i10, j11, hT, hO, hN, h0⟩
  refine aZ hT ?_
  clear hT
  unfold kT at h0
  obtain ⟨rr0, hl0, h0⟩ := aY h0
  refine bW (by kernel_rfl) (fun (s : List aC × Int × Int) T H => Has T [(0, (.msl 3 lo0p 0 (List.length s.1))), (2, (eI m2)), (4, (.fn (.func cmp4_f) cmp4_a cmp4_c)), (10, (eI s.2.1)), (11, (eI s.2.2))] ∧ aL ⟨H0, [lo0p], []⟩ H [(lo0p, 3, List.map aD s.1)] ∧ List.length s.1 = N0) hl0 ⟨.eq (by kernel_rfl), hO, hN⟩ ?_
  clear hO hN
  rintro k0 s out1 T H ⟨hT, hO, hN⟩ h1 ho0
  obtain ⟨aA, i10, j11⟩ := s
  replace h1 : kV cmp4 m2 aA i10 j11 = some out1 := h1
  dsimp only at hT
  refine aZ hT ?_
  clear hT
  unfold kV at h1
  refine aO ?_
  refine aT aH 3 [] [(20, (aK (!decide (i10 = j11))))] ?_
  refine bE h1 (fun h1 => ?_) (fun h1 => ?_)
  · refine bH ?_
    refine bD [(0, (.msl 3 lo0p 0 (List.length aA))), (2, (eI m2)), (4, (.fn (.func cmp4_f) cmp4_a cmp4_c)), (10, (eI i10)), (11, (eI j11))] ?_
    refine bP 1 ?_
    refine aT aH 3 [] [(23, (aK (decide (j11 < i10))))] ?_
    refine bE h1 (fun h1 => ?_) (fun h1 => ?_)
    · refine aO ?_
      refine aW aH 8 ?_
      refine bS 7 ?_
      obtain ⟨x6, hx7, h1⟩ := aY h1
      refine nL [(lo0p, 3, List.map aD x6)] 0 (kB lo0p aA (wR (m2 - i10)) m2 j11 cmp4_f cmp4_a cmp4_c cmp4 cmp4_h _ hx7) hO ?_
      intro H hO hl8
      simp only [List.length_map] at hl8
      replace hN := hl8.trans hN
      refine cZ ?_
      refine cG (l := [(0, (.msl 3 lo0p 0 (List.length x6))), (2, (eI m2)), (4, (.fn (.func cmp4_f) cmp4_a cmp4_c)), (10, (eI i10)), (11, (eI j11))]) ⟨[(0, (.msl 3 lo0p 0 (List.length aA))), (2, (eI m2)), (4, (.fn (.func cmp4_f) cmp4_a cmp4_c)), (10, (eI i10)), (11, (eI j11))], by kernel_rfl, rfl, ⟨aR.eq (by simp [hl8]), aR.refl _, aR.refl _, aR.refl _, aR.refl _, trivial⟩⟩ ?_
      refine aJ (aI (?_))
      refine aW aH 4 ?_
      refine bC ?_
      exact aJ (aU (aI (⟨rfl, _, (oI h1).symm, .eq (by kernel_rfl), hO, hN⟩)))
    refine aO ?_
    refine aW aH 12 ?_
    refine bS 11 ?_
    obtain ⟨x9, hx10, h1⟩ := aY h1
    refine nL [(lo0p, 3, List.map aD x9)] 0 (kB lo0p aA (wR (m2 - i10)) (wR ((wR (m2 + j11)) - i10)) i10 cmp4_f cmp4_a cmp4_c cmp4 cmp4_h _ hx10) hO ?_
    intro H hO hl11
    simp only [List.length_map] at hl11
    replace hN := hl11.trans hN
    refine cZ ?_
    refine cG (l := [(0, (.msl 3 lo0p 0 (List.length x9))), (2, (eI m2)), (4, (.fn (.func cmp4_f) cmp4_a cmp4_c)), (10, (eI i10)), (11, (eI j11))]) ⟨[(0, (.msl 3 lo0p 0 (List.length aA))), (2, (eI m2)), (4, (.fn (.func cmp4_f) cmp4_a cmp4_c)), (10, (eI i10)), (11, (eI j11))], by kernel_rfl, rfl, ⟨aR.eq (by simp [hl11]), aR.refl _, aR.refl _, aR.refl _, aR.refl _, trivial⟩⟩ ?_
    refine aJ (aI (?_))
    refine aW aH 4 ?_
    refine bC ?_
    exact aJ (aU (aI (⟨rfl, _, (oI h1).symm, .eq (by kernel_rfl), hO, hN⟩)))
  refine cS 0 ?_
  obtain rfl := oI h1
  obtain rfl : _ = rr0 := ho0
  replace h0 : iD cmp4 aA m2 i10 = some r := h0
  exact aJ (aS (aS (bL (aI (⟨rfl, _, _, .eq (by kernel_rfl), hO, hN, h0⟩)))))

theorem sM (cmp4_f : Nat) (cmp4_a cmp4_c : List V) (cmp4 : aC → aC → Option Int) (cmp4_h : ∀ a0 a1 r, cmp4 a0 a1 = some r → bV Try.prog cmp4_f (cmp4_a ++ [(aD a0), (aD a1)] ++ cmp4_c) (eI r)) (rec : (List aC) → Int → Int → Int → Option (List aC)) (ih : ∀ (lo0p : Nat) (aA : (List aC)) (a1 : Int) (m2 : Int) (b3 : Int) (r : List aC), rec aA a1 m2 b3 = some r → kJ Try.prog 113 lo0p 3 (List.map aD aA) (List.map aD r) [(.msl 3 lo0p 0 (List.length aA)), (eI a1), (eI m2), (eI b3), (.fn (.func cmp4_f) cmp4_a cmp4_c)] (.tup [])) (lo0p : Nat) (aA : (List aC)) (a1 : Int) (m2 : Int) (b3 : Int) (r : List aC) (h0 : dM cmp4 rec aA a1 m2 b3 = some r) : kJ Try.prog 113 lo0p 3 (List.map aD aA) (List.map aD r) [(.msl 3 lo0p 0 (List.length aA)), (eI a1), (eI m2), (eI b3), (.fn (.func cmp4_f) cmp4_a cmp4_c)] (.tup []) := by
  intro H0 hl0
  refine cC Try.func113 ?_
  have hO := aL.oF hl0
  clear hl0
  obtain ⟨N0, hN0⟩ : ∃ n, n = List.length aA := ⟨_, rfl⟩
  have hN : List.length aA = N0 := hN0.symm
  unfold dM at h0
  refine cE (fun T H => ∃ aA : List aC, Has T [(0, (.msl 3 lo0p 0 (List.length aA))), (1, (eI a1)), (2, (eI m2)), (3, (eI b3)), (4, (.fn (.func cmp4_f) cmp4_a cmp4_c))] ∧ aL ⟨H0, [lo0p], []⟩ H [(lo0p, 3, List.map aD aA)] ∧ List.length aA = N0 ∧ jX cmp4 rec aA a1 m2 b3 = some r) ?_ ?_
  · clear hO hN h0
    rintro T H ⟨aA, hT, hO, hN, h0⟩
    refine aZ hT ?_
    clear hT
    unfold jX at h0
    refine cE (fun T H => ∃ aA : List aC, Has T [(0, (.msl 3 lo0p 0 (List.length aA))), (1, (eI a1)), (2, (eI m2)), (3, (eI b3)), (4, (.fn (.func cmp4_f) cmp4_a cmp4_c))] ∧ aL ⟨H0, [lo0p], []⟩ H [(lo0p, 3, List.map aD aA)] ∧ List.length aA = N0 ∧ kG cmp4 rec aA a1 m2 b3 = some r) ?_ ?_
    · clear hO hN h0
      rintro T H ⟨aA, hT, hO, hN, h0⟩
      refine aZ hT ?_
      clear hT
      unfold kG at h0
      refine aO ?_
      refine aW aH 7 ?_
      obtain ⟨c1, h0⟩ := bA h0
      refine nO [0 ≤ (1 : Int)] ⟨c1, trivial⟩ ?_
      refine bQ [] [(18, (eI (wR (Int.fdiv (IntKind.u64.wrap (wR (a1 + b3))) (2 ^ (min (Int.toNat (1 : Int)) 64))))))] ?_
      refine aT aH 4 [] [(19, (eI (wR ((wR (Int.fdiv (IntKind.u64.wrap (wR (a1 + b3))) (2 ^ (min (Int.toNat (1 : Int)) 64)))) + m2))))] ?_
      refine aT aH 2 [] [] ?_
      refine cE (fun T H => ∃ aA : List aC, ∃ bR : Int, ∃ n19 : Int, ∃ aQ : Int, ∃ r21 : Int, Has T [(0, (.msl 3 lo0p 0 (List.length aA))), (1, (eI a1)), (2, (eI m2)), (3, (eI b3)), (4, (.fn (.func cmp4_f) cmp4_a cmp4_c)), (18, (eI bR)), (19, (eI n19)), (20, (eI aQ)), (21, (eI r21))] ∧ aL ⟨H0, [lo0p], []⟩ H [(lo0p, 3, List.map aD aA)] ∧ List.length aA = N0 ∧ fY cmp4 rec aA a1 m2 b3 bR n19 aQ r21 = some r) ?_ ?_
      · clear hO hN h0
        rintro T H ⟨aA, bR, n19, aQ, r21, hT, hO, hN, h0⟩
        refine aZ hT ?_
        clear hT
        unfold fY at h0
        refine aT aH 3 [] [(22, (eI (wR (n19 - (1 : Int)))))] ?_
        refine cE (fun T H => ∃ aA : List aC, ∃ aQ : Int, Has T [(0, (.msl 3 lo0p 0 (List.length aA))), (1, (eI a1)), (2, (eI m2)), (3, (eI b3)), (4, (.fn (.func cmp4_f) cmp4_a cmp4_c)), (18, (eI bR)), (19, (eI n19)), (20, (eI aQ))] ∧ aL ⟨H0, [lo0p], []⟩ H [(lo0p, 3, List.map aD aA)] ∧ List.length aA = N0 ∧ fS cmp4 rec aA a1 m2 b3 bR n19 aQ = some r) ?_ ?_
        · clear hO hN h0
          rintro T H ⟨aA, aQ, hT, hO, hN, h0⟩
          refine aZ hT ?_
          clear hT
          unfold fS at h0
          refine aT aH 4 [19] [(24, (eI (wR (n19 - aQ))))] ?_
          refine cE (fun T H => ∃ aA : List aC, ∃ dO : Int, Has T [(0, (.msl 3 lo0p 0 (List.length aA))), (1, (eI a1)), (3, (eI b3)), (4, (.fn (.func cmp4_f) cmp4_a cmp4_c)), (18, (eI bR)), (20, (eI aQ)), (24, (eI dO))] ∧ aL ⟨H0, [lo0p], []⟩ H [(lo0p, 3, List.map aD aA)] ∧ List.length aA = N0 ∧ fU cmp4 rec aA a1 b3 bR aQ dO = some r) ?_ ?_
          · clear hO hN h0
            rintro T H ⟨aA, dO, hT, hO, hN, h0⟩
            refine aZ hT ?_
            clear hT
            unfold fU at h0
            refine cE (fun T H => ∃ aA : List aC, Has T [(0, (.msl 3 lo0p 0 (List.length aA))), (3, (eI b3)), (4, (.fn (.func cmp4_f) cmp4_a cmp4_c)), (18, (eI bR)), (24, (eI dO))] ∧ aL ⟨H0, [lo0p], []⟩ H [(lo0p, 3, List.map aD aA)] ∧ List.length aA = N0 ∧ fV cmp4 rec aA b3 bR dO = some r) ?_ ?_
            · clear hO hN h0
              rintro T H ⟨aA, hT, hO, hN, h0⟩
              refine aZ hT ?_
              clear hT
              unfold fV at h0
              refine aT aH 8 [] [(213, (aK ((decide (bR < dO)) && (decide (dO < b3)))))] ?_
              refine bE h0 (fun h0 => ?_) (fun h0 => ?_)
              · refine aW aH 6 ?_
                refine bS 5 ?_
                obtain ⟨x3, hx4, h0⟩ := aY h0
                refine nL [(lo0p, 3, List.map aD x3)] 0 (ih lo0p aA bR dO b3 _ hx4) hO ?_
                intro H hO hl5
                simp only [List.length_map] at hl5
                replace hN := hl5.trans hN
                refine cZ ?_
                refine cG (l := [(0, (.msl 3 lo0p 0 (List.length x3)))]) ⟨[(0, (.msl 3 lo0p 0 (List.length aA)))], by kernel_rfl, rfl, ⟨aR.eq (by simp [hl5]), trivial⟩⟩ ?_
                obtain rfl := oI h0
                exact aJ (qZ (x := (.tup [])) (by kernel_rfl) (aR.refl _) ⟨rfl, hO.ext, hO.at 0 (by kernel_rfl), by simp only [List.length_map]; exact hN.trans hN0⟩)
              refine bH ?_
              obtain rfl := oI h0
              exact aJ (qZ (x := (.tup [])) (by kernel_rfl) (aR.refl _) ⟨rfl, hO.ext, hO.at 0 (by kernel_rfl), by simp only [List.length_map]; exact hN.trans hN0⟩)
            refine aT aH 8 [] [(199, (aK ((decide (a1 < aQ)) && (decide (aQ < bR)))))] ?_
            refine bE h0 (fun h0 => ?_) (fun h0 => ?_)
            · refine aW aH 6 ?_
              refine bS 5 ?_
              obtain ⟨x7, hx8, h0⟩ := aY h0
              refine nL [(lo0p, 3, List.map aD x7)] 0 (ih lo0p aA a1 aQ bR _ hx8) hO ?_
              intro H hO hl9
              simp only [List.length_map] at hl9
              replace hN := hl9.trans hN
              refine cZ ?_
              refine cG (l := [(0, (.msl 3 lo0p 0 (List.length x7))), (3, (eI b3)), (4, (.fn (.func cmp4_f) cmp4_a cmp4_c)), (18, (eI bR)), (24, (eI dO))]) ⟨[(0, (.msl 3 lo0p 0 (List.length aA))), (3, (eI b3)), (4, (.fn (.func cmp4_f) cmp4_a cmp4_c)), (18, (eI bR)), (24, (eI dO))], by kernel_rfl, rfl, ⟨aR.eq (by simp [hl9]), aR.refl _, aR.refl _, aR.refl _, aR.refl _, trivial⟩⟩ ?_
              exact aJ (aI (⟨rfl, _, .eq (by kernel_rfl), hO, hN, h0⟩))
            refine bH ?_
            exact aJ (aI (⟨rfl, _, .eq (by kernel_rfl), hO, hN, h0⟩))
          refine aT aH 8 [] [(185, (aK ((decide (aQ < m2)) && (decide (m2 < (wR (n19 - aQ)))))))] ?_
          refine bE h0 (fun h0 => ?_) (fun h0 => ?_)
          · refine aW aH 6 ?_
            refine bS 5 ?_
            obtain ⟨x11, hx12, h0⟩ := aY h0
            refine nL [(lo0p, 3, List.map aD x11)] 0 (wW lo0p aA aQ m2 (wR (n19 - aQ)) cmp4_f cmp4_a cmp4_c cmp4 cmp4_h _ hx12) hO ?_
            intro H hO hl13
            simp only [List.length_map] at hl13
            replace hN := hl13.trans hN
            refine cZ ?_
            refine cG (l := [(0, (.msl 3 lo0p 0 (List.length x11))), (1, (eI a1)), (3, (eI b3)), (4, (.fn (.func cmp4_f) cmp4_a cmp4_c)), (18, (eI bR)), (20, (eI aQ)), (24, (eI (wR (n19 - aQ))))]) ⟨[(0, (.msl 3 lo0p 0 (List.length aA))), (1, (eI a1)), (3, (eI b3)), (4, (.fn (.func cmp4_f) cmp4_a cmp4_c)), (18, (eI bR)), (20, (eI aQ)), (24, (eI (wR (n19 - aQ))))], by kernel_rfl, rfl, ⟨aR.eq (by simp [hl13]), aR.refl _, aR.refl _, aR.refl _, aR.refl _, aR.refl _, aR.refl _, trivial⟩⟩ ?_
            exact aJ (aI (⟨rfl, _, _, .eq (by kernel_rfl), hO, hN, h0⟩))
          refine bH ?_
          exact aJ (aI (⟨rfl, _, _, .eq (by kernel_rfl), hO, hN, h0⟩))
        refine bP 8 ?_
        refine cO [(0, (.msl 3 lo0p 0 (List.length aA))), (1, (eI a1)), (2, (eI m2)), (3, (eI b3)), (4, (.fn (.func cmp4_f) cmp4_a cmp4_c)), (18, (eI bR)), (19, (eI n19)), (20, (eI aQ)), (21, (eI r21)), (22, (eI (wR (n19 - (1 : Int)))))] ?_
        refine cF (fun T H => ∃ aA : List aC, ∃ aQ : Int, ∃ r21 : Int, ∃ p22 : Int, Has T [(0, (.msl 3 lo0p 0 (List.length aA))), (1, (eI a1)), (2, (eI m2)), (3, (eI b3)), (4, (.fn (.func cmp4_f) cmp4_a cmp4_c)), (18, (eI bR)), (19, (eI n19)), (20, (eI aQ)), (21, (eI r21)), (22, (eI p22))] ∧ aL ⟨H0, [lo0p], []⟩ H [(lo0p, 3, List.map aD aA)] ∧ List.length aA = N0 ∧ jY cmp4 rec aA a1 m2 b3 bR n19 aQ r21 p22 = some r) ?_ ⟨aA, aQ, r21, wR (n19 - (1 : Int)), .eq (by kernel_rfl), hO, hN, h0⟩
        clear hO hN h0
        rintro T H ⟨aA, aQ, r21, p22, hT, hO, hN, h0⟩
        refine aZ hT ?_
        clear hT
        unfold jY at h0
        obtain ⟨rr0, hl0, h0⟩ := aY h0
        refine bW (by kernel_rfl) (fun (s : List aC × Int × Int) T H => Has T [(0, (.msl 3 lo0p 0 (List.length s.1))), (1, (eI a1)), (2, (eI m2)), (3, (eI b3)), (4, (.fn (.func cmp4_f) cmp4_a cmp4_c)), (18, (eI bR)), (19, (eI n19)), (20, (eI s.2.1)), (21, (eI s.2.2)), (22, (eI p22))] ∧ aL ⟨H0, [lo0p], []⟩ H [(lo0p, 3, List.map aD s.1)] ∧ List.length s.1 = N0) hl0 ⟨.eq (by kernel_rfl), hO, hN⟩ ?_
        clear hO hN
        rintro k0 s out1 T H ⟨hT, hO, hN⟩ h1 ho0
        obtain ⟨aA, aQ, r21⟩ := s
        replace h1 : kE cmp4 rec a1 m2 b3 bR n19 p22 aA aQ r21 = some out1 := h1
        dsimp only at hT
        refine aZ hT ?_
        clear hT
        unfold kE at h1
        refine aO ?_
        refine aT aH 3 [] [(151, (aK (decide (aQ < r21))))] ?_
        refine bE h1 (fun h1 => ?_) (fun h1 => ?_)
        · refine bH ?_
          refine bD [(0, (.msl 3 lo0p 0 (List.length aA))), (1, (eI a1)), (2, (eI m2)), (3, (eI b3)), (4, (.fn (.func cmp4_f) cmp4_a cmp4_c)), (18, (eI bR)), (19, (eI n19)), (20, (eI aQ)), (21, (eI r21)), (22, (eI p22))] ?_
          refine bP 9 ?_
          refine aO ?_
          refine aW aH 7 ?_
          obtain ⟨c15, h1⟩ := bA h1
          refine nO [0 ≤ (1 : Int)] ⟨c15, trivial⟩ ?_
          refine bQ [] [(23, (eI (wR (Int.fdiv (IntKind.u64.wrap (wR (aQ + r21))) (2 ^ (min (Int.toNat (1 : Int)) 64))))))] ?_
          refine aO ?_
          refine fD (fH []) aH 14 ?_
          obtain ⟨c16, h1⟩ := bA h1
          refine cN 6 [0 ≤ (wR (p22 - (wR (Int.fdiv (IntKind.u64.wrap (wR (aQ + r21))) (2 ^ (min (Int.toNat (1 : Int)) 64)))))) ∧ (wR (p22 - (wR (Int.fdiv (IntKind.u64.wrap (wR (aQ + r21))) (2 ^ (min (Int.toNat (1 : Int)) 64)))))) < (lN aA)] ⟨c16, trivial⟩ ?_
          refine kS 0 lo0p 3 (0 + Int.toNat (wR (p22 - (wR (Int.fdiv (IntKind.u64.wrap (wR (aQ + r21))) (2 ^ (min (Int.toNat (1 : Int)) 64))))))) (aD (gD aA (wR (p22 - (wR (Int.fdiv (IntKind.u64.wrap (wR (aQ + r21))) (2 ^ (min (Int.toNat (1 : Int)) 64)))))))) (aD (gD aA (wR (p22 - (wR (Int.fdiv (IntKind.u64.wrap (wR (aQ + r21))) (2 ^ (min (Int.toNat (1 : Int)) 64)))))))) (List.map aD aA) hO (cK c16) ?_
          obtain ⟨c17, h1⟩ := bA h1
          refine cN 10 [0 ≤ (wR (Int.fdiv (IntKind.u64.wrap (wR (aQ + r21))) (2 ^ (min (Int.toNat (1 : Int)) 64)))) ∧ (wR (Int.fdiv (IntKind.u64.wrap (wR (aQ + r21))) (2 ^ (min (Int.toNat (1 : Int)) 64)))) < (lN aA)] ⟨c17, trivial⟩ ?_
          refine kS 0 lo0p 3 (0 + Int.toNat (wR (Int.fdiv (IntKind.u64.wrap (wR (aQ + r21))) (2 ^ (min (Int.toNat (1 : Int)) 64))))) (aD (gD aA (wR (Int.fdiv (IntKind.u64.wrap (wR (aQ + r21))) (2 ^ (min (Int.toNat (1 : Int)) 64)))))) (aD (gD aA (wR (Int.fdiv (IntKind.u64.wrap (wR (aQ + r21))) (2 ^ (min (Int.toNat (1 : Int)) 64)))))) (List.map aD aA) hO (cK c17) ?_
          obtain ⟨x18, hx19, h1⟩ := aY h1
          refine xO (cmp4_h (gD aA (wR (p22 - (wR (Int.fdiv (IntKind.u64.wrap (wR (aQ + r21))) (2 ^ (min (Int.toNat (1 : Int)) 64))))))) (gD aA (wR (Int.fdiv (IntKind.u64.wrap (wR (aQ + r21))) (2 ^ (min (Int.toNat (1 : Int)) 64))))) _ hx19) hO ?_
          intro H hO
          refine iU ?_
          refine bQ [] [(171, (aK (!(decide (x18 < (0 : Int))))))] ?_
          refine bE h1 (fun h1 => ?_) (fun h1 => ?_)
          · refine aW aH 3 ?_
            refine bC ?_
            exact aJ (aU (aI (⟨rfl, _, (oI h1).symm, .eq (by kernel_rfl), hO, hN⟩)))
          refine aW aH 2 ?_
          refine bC ?_
          exact aJ (aU (aI (⟨rfl, _, (oI h1).symm, .eq (by kernel_rfl), hO, hN⟩)))
        refine cS 8 ?_
        obtain rfl := oI h1
        obtain rfl : _ = rr0 := ho0
        replace h0 : fS cmp4 rec aA a1 m2 b3 bR n19 aQ = some r := h0
        exact aJ (aS (aS (bL (aI (⟨rfl, _, _, .eq (by kernel_rfl), hO, hN, h0⟩)))))
      refine aT aH 3 [] [(140, (aK (decide ((wR (Int.fdiv (IntKind.u64.wrap (wR (a1 + b3))) (2 ^ (min (Int.toNat (1 : Int)) 64)))) < m2))))] ?_
      refine bE h0 (fun h0 => ?_) (fun h0 => ?_)
      · refine bN aH 4 [(0, (.msl 3 lo0p 0 (List.length aA))), (1, (eI a1)), (2, (eI m2)), (3, (eI b3)), (4, (.fn (.func cmp4_f) cmp4_a cmp4_c)), (18, (eI (wR (Int.fdiv (IntKind.u64.wrap (wR (a1 + b3))) (2 ^ (min (Int.toNat (1 : Int)) 64)))))), (19, (eI (wR ((wR (Int.fdiv (IntKind.u64.wrap (wR (a1 + b3))) (2 ^ (min (Int.toNat (1 : Int)) 64)))) + m2)))), (20, (eI (wR ((wR ((wR (Int.fdiv (IntKind.u64.wrap (wR (a1 + b3))) (2 ^ (min (Int.toNat (1 : Int)) 64)))) + m2)) - b3))))] ?_
        refine aW aH 2 ?_
        refine bC ?_
        exact aJ (aI (⟨rfl, _, _, _, _, _, .eq (by kernel_rfl), hO, hN, h0⟩))
      refine bN aH 2 [(0, (.msl 3 lo0p 0 (List.length aA))), (1, (eI a1)), (2, (eI m2)), (3, (eI b3)), (4, (.fn (.func cmp4_f) cmp4_a cmp4_c)), (18, (eI (wR (Int.fdiv (IntKind.u64.wrap (wR (a1 + b3))) (2 ^ (min (Int.toNat (1 : Int)) 64)))))), (19, (eI (wR ((wR (Int.fdiv (IntKind.u64.wrap (wR (a1 + b3))) (2 ^ (min (Int.toNat (1 : Int)) 64)))) + m2)))), (20, (eI a1))] ?_
      refine aW aH 2 ?_
      refine bC ?_
      exact aJ (aI (⟨rfl, _, _, _, _, _, .eq (by kernel_rfl), hO, hN, h0⟩))
    refine aT aH 4 [] [(80, (aK (decide ((wR (b3 - m2)) = (1 : Int)))))] ?_
    refine bE h0 (fun h0 => ?_) (fun h0 => ?_)
    · refine aT aH 2 [1, 3, 80] [(14, (eI a1))] ?_
      refine aT aH 2 [] [(15, (eI m2))] ?_
      refine cE (fun T H => ∃ aA : List aC, ∃ i14 : Int, Has T [(0, (.msl 3 lo0p 0 (List.length aA))), (2, (eI m2)), (14, (eI i14))] ∧ aL ⟨H0, [lo0p], []⟩ H [(lo0p, 3, List.map aD aA)] ∧ List.length aA = N0 ∧ fP cmp4 rec aA m2 i14 = some r) ?_ ?_
      · clear hO hN h0
        rintro T H ⟨aA, i14, hT, hO, hN, h0⟩
        refine aZ hT ?_
        clear hT
        unfold fP at h0
        refine cE (fun T H => ∃ aA : List aC, Has T [(0, (.msl 3 lo0p 0 (List.length aA)))] ∧ aL ⟨H0, [lo0p], []⟩ H [(lo0p, 3, List.map aD aA)] ∧ List.length aA = N0 ∧ gE cmp4 rec aA = some r) ?_ ?_
        · clear hO hN h0
          rintro T H ⟨aA, hT, hO, hN, h0⟩
          refine aZ hT ?_
          clear hT
          unfold gE at h0
          refine bI ?_
          obtain rfl := oI h0
          exact aJ (aP (pM (x := (.tup [])) (by kernel_rfl) (aR.refl _) ⟨rfl, hO.ext, hO.at 0 (by kernel_rfl), by simp only [List.length_map]; exact hN.trans hN0⟩))
        refine aT aH 2 [2] [(17, (eI m2))] ?_
        refine bP 6 ?_
        refine cO [(0, (.msl 3 lo0p 0 (List.length aA))), (14, (eI i14)), (17, (eI m2))] ?_
        refine cF (fun T H => ∃ aA : List aC, ∃ k17 : Int, Has T [(0, (.msl 3 lo0p 0 (List.length aA))), (14, (eI i14)), (17, (eI k17))] ∧ aL ⟨H0, [lo0p], []⟩ H [(lo0p, 3, List.map aD aA)] ∧ List.length aA = N0 ∧ jU cmp4 rec aA i14 k17 = some r) ?_ ⟨aA, m2, .eq (by kernel_rfl), hO, hN, h0⟩
        clear hO hN h0
        rintro T H ⟨aA, k17, hT, hO, hN, h0⟩
        refine aZ hT ?_
        clear hT
        unfold jU at h0
        obtain ⟨rr0, hl0, h0⟩ := aY h0
        refine bW (by kernel_rfl) (fun (s : List aC × Int) T H => Has T [(0, (.msl 3 lo0p 0 (List.length s.1))), (14, (eI i14)), (17, (eI s.2))] ∧ aL ⟨H0, [lo0p], []⟩ H [(lo0p, 3, List.map aD s.1)] ∧ List.length s.1 = N0) hl0 ⟨.eq (by kernel_rfl), hO, hN⟩ ?_
        clear hO hN
        rintro k0 s out1 T H ⟨hT, hO, hN⟩ h1 ho0
        obtain ⟨aA, k17⟩ := s
        replace h1 : jJ cmp4 rec i14 aA k17 = some out1 := h1
        dsimp only at hT
        refine aZ hT ?_
        clear hT
        unfold jJ at h1
        refine aO ?_
        refine aT aH 3 [] [(110, (aK (decide (i14 < k17))))] ?_
        refine bE h1 (fun h1 => ?_) (fun h1 => ?_)
        · refine bH ?_
          refine bD [(0, (.msl 3 lo0p 0 (List.length aA))), (14, (eI i14)), (17, (eI k17))] ?_
          refine aO ?_
          refine bP 7 ?_
          refine fD (fH []) aH 18 ?_
          obtain ⟨c25, h1⟩ := bA h1
          refine cN 9 [0 ≤ (wR (k17 - (1 : Int))) ∧ (wR (k17 - (1 : Int))) < (lN aA)] ⟨c25, trivial⟩ ?_
          refine kS 0 lo0p 3 (0 + Int.toNat (wR (k17 - (1 : Int)))) (aD (gD aA (wR (k17 - (1 : Int))))) (aD (gD aA (wR (k17 - (1 : Int))))) (List.map aD aA) hO (cK c25) ?_
          obtain ⟨c26, h1⟩ := bA h1
          refine cN 13 [0 ≤ k17 ∧ k17 < (lN aA)] ⟨c26, trivial⟩ ?_
          refine kS 0 lo0p 3 (0 + Int.toNat k17) (aD (gD aA k17)) (aD (gD aA k17)) (List.map aD aA) hO (cK c26) ?_
          obtain ⟨c27, h1⟩ := bA h1
          refine cN 15 [0 ≤ k17 ∧ k17 < (lN aA)] ⟨c27, trivial⟩ ?_
          refine tT 0 lo0p 3 (0 + Int.toNat k17) (aD (gD aA k17)) (aD (gD aA (wR (k17 - (1 : Int))))) (List.map aD aA) [(lo0p, 3, List.map aD (List.set aA (Int.toNat k17) (gD aA (wR (k17 - (1 : Int))))))] hO (cK c27) (by simp only [List.set, nJ]) ?_
          intro H hO
          replace hN : List.length (List.set aA (Int.toNat k17) (gD aA (wR (k17 - (1 : Int))))) = N0 := by simpa using hN
          obtain ⟨c28, h1⟩ := bA h1
          refine cN 17 [0 ≤ (wR (k17 - (1 : Int))) ∧ (wR (k17 - (1 : Int))) < (lN aA)] ⟨c28, trivial⟩ ?_
          refine tT 0 lo0p 3 (0 + Int.toNat (wR (k17 - (1 : Int)))) (aD (gD (List.set aA (Int.toNat k17) (gD aA (wR (k17 - (1 : Int))))) (wR (k17 - (1 : Int))))) (aD (gD aA k17)) (List.map aD (List.set aA (Int.toNat k17) (gD aA (wR (k17 - (1 : Int)))))) [(lo0p, 3, List.map aD (List.set (List.set aA (Int.toNat k17) (gD aA (wR (k17 - (1 : Int))))) (Int.toNat (wR (k17 - (1 : Int)))) (gD aA k17)))] hO (wJ c28 (by simp [])) (by simp only [List.set, nJ]) ?_
          intro H hO
          replace hN : List.length (List.set (List.set aA (Int.toNat k17) (gD aA (wR (k17 - (1 : Int))))) (Int.toNat (wR (k17 - (1 : Int)))) (gD aA k17)) = N0 := by simpa using hN
          refine zV (by kernel_rfl) ?_
          refine cG (l := [(0, (.msl 3 lo0p 0 (List.length (List.set (List.set aA (Int.toNat k17) (gD aA (wR (k17 - (1 : Int))))) (Int.toNat (wR (k17 - (1 : Int)))) (gD aA k17))))), (14, (eI i14)), (17, (eI k17))]) ⟨[(0, (.msl 3 lo0p 0 (List.length aA))), (14, (eI i14)), (17, (eI k17))], by kernel_rfl, rfl, ⟨aR.eq (by simp []), aR.refl _, aR.refl _, trivial⟩⟩ ?_
          refine aJ (aU (aI (?_)))
          refine aW aH 3 ?_
          refine bC ?_
          exact aJ (aI (⟨rfl, _, (oI h1).symm, .eq (by kernel_rfl), hO, hN⟩))
        refine cS 6 ?_
        obtain rfl := oI h1
        obtain rfl : _ = rr0 := ho0
        replace h0 : gE cmp4 rec aA = some r := h0
        exact aJ (aS (aS (bL (aI (⟨rfl, _, .eq (by kernel_rfl), hO, hN, h0⟩)))))
      refine bP 4 ?_
      refine cO [(0, (.msl 3 lo0p 0 (List.length aA))), (2, (eI m2)), (4, (.fn (.func cmp4_f) cmp4_a cmp4_c)), (14, (eI a1)), (15, (eI m2))] ?_
      refine cF (fun T H => ∃ aA : List aC, ∃ i14 : Int, ∃ j15 : Int, Has T [(0, (.msl 3 lo0p 0 (List.length aA))), (2, (eI m2)), (4, (.fn (.func cmp4_f) cmp4_a cmp4_c)), (14, (eI i14)), (15, (eI j15))] ∧ aL ⟨H0, [lo0p], []⟩ H [(lo0p, 3, List.map aD aA)] ∧ List.length aA = N0 ∧ jM cmp4 rec aA m2 i14 j15 = some r) ?_ ⟨aA, a1, m2, .eq (by kernel_rfl), hO, hN, h0⟩
      clear hO hN h0
      rintro T H ⟨aA, i14, j15, hT, hO, hN, h0⟩
      refine aZ hT ?_
      clear hT
      unfold jM at h0
      obtain ⟨rr0, hl0, h0⟩ := aY h0
      refine bW (by kernel_rfl) (fun (s : List aC × Int × Int) T H => Has T [(0, (.msl 3 lo0p 0 (List.length s.1))), (2, (eI m2)), (4, (.fn (.func cmp4_f) cmp4_a cmp4_c)), (14, (eI s.2.1)), (15, (eI s.2.2))] ∧ aL ⟨H0, [lo0p], []⟩ H [(lo0p, 3, List.map aD s.1)] ∧ List.length s.1 = N0) hl0 ⟨.eq (by kernel_rfl), hO, hN⟩ ?_
      clear hO hN
      rintro k0 s out1 T H ⟨hT, hO, hN⟩ h1 ho0
      obtain ⟨aA, i14, j15⟩ := s
      replace h1 : iZ cmp4 rec m2 aA i14 j15 = some out1 := h1
      dsimp only at hT
      refine aZ hT ?_
      clear hT
      unfold iZ at h1
      refine aO ?_
      refine aT aH 3 [] [(85, (aK (decide (i14 < j15))))] ?_
      refine bE h1 (fun h1 => ?_) (fun h1 => ?_)
      · refine bH ?_
        refine bD [(0, (.msl 3 lo0p 0 (List.length aA))), (2, (eI m2)), (4, (.fn (.func cmp4_f) cmp4_a cmp4_c)), (14, (eI i14)), (15, (eI j15))] ?_
        refine bP 5 ?_
        refine aO ?_
        refine aW aH 7 ?_
        obtain ⟨c30, h1⟩ := bA h1
        refine nO [0 ≤ (1 : Int)] ⟨c30, trivial⟩ ?_
        refine bQ [] [(16, (eI (wR (Int.fdiv (IntKind.u64.wrap (wR (i14 + j15))) (2 ^ (min (Int.toNat (1 : Int)) 64))))))] ?_
        refine aO ?_
        refine fD (fH []) aH 12 ?_
        obtain ⟨c31, h1⟩ := bA h1
        refine cN 4 [0 ≤ m2 ∧ m2 < (lN aA)] ⟨c31, trivial⟩ ?_
        refine kS 0 lo0p 3 (0 + Int.toNat m2) (aD (gD aA m2)) (aD (gD aA m2)) (List.map aD aA) hO (cK c31) ?_
        obtain ⟨c32, h1⟩ := bA h1
        refine cN 8 [0 ≤ (wR (Int.fdiv (IntKind.u64.wrap (wR (i14 + j15))) (2 ^ (min (Int.toNat (1 : Int)) 64)))) ∧ (wR (Int.fdiv (IntKind.u64.wrap (wR (i14 + j15))) (2 ^ (min (Int.toNat (1 : Int)) 64)))) < (lN aA)] ⟨c32, trivial⟩ ?_
        refine kS 0 lo0p 3 (0 + Int.toNat (wR (Int.fdiv (IntKind.u64.wrap (wR (i14 + j15))) (2 ^ (min (Int.toNat (1 : Int)) 64))))) (aD (gD aA (wR (Int.fdiv (IntKind.u64.wrap (wR (i14 + j15))) (2 ^ (min (Int.toNat (1 : Int)) 64)))))) (aD (gD aA (wR (Int.fdiv (IntKind.u64.wrap (wR (i14 + j15))) (2 ^ (min (Int.toNat (1 : Int)) 64)))))) (List.map aD aA) hO (cK c32) ?_
        obtain ⟨x33, hx34, h1⟩ := aY h1
        refine xO (cmp4_h (gD aA m2) (gD aA (wR (Int.fdiv (IntKind.u64.wrap (wR (i14 + j15))) (2 ^ (min (Int.toNat (1 : Int)) 64))))) _ hx34) hO ?_
        intro H hO
        refine iU ?_
        refine bQ [] [(103, (aK (!(decide (x33 < (0 : Int))))))] ?_
        refine bE h1 (fun h1 => ?_) (fun h1 => ?_)
        · refine aW aH 3 ?_
          refine bC ?_
          exact aJ (aU (aI (⟨rfl, _, (oI h1).symm, .eq (by kernel_rfl), hO, hN⟩)))
        refine aW aH 2 ?_
        refine bC ?_
        exact aJ (aU (aI (⟨rfl, _, (oI h1).symm, .eq (by kernel_rfl), hO, hN⟩)))
      refine cS 4 ?_
      obtain rfl := oI h1
      obtain rfl : _ = rr0 := ho0
      replace h0 : fP cmp4 rec aA m2 i14 = some r := h0
      exact aJ (aS (aS (bL (aI (⟨rfl, _, _, .eq (by kernel_rfl), hO, hN, h0⟩)))))
    refine bH ?_
    exact aJ (aI (⟨rfl, _, .eq (by kernel_rfl), hO, hN, h0⟩))
  refine aT aH 4 [] [(28, (aK (decide ((wR (m2 - a1)) = (1 : Int)))))] ?_
  refine bE h0 (fun h0 => ?_) (fun h0 => ?_)
  · refine aT aH 2 [2, 28] [(10, (eI m2))] ?_
    refine aT aH 2 [3] [(11, (eI b3))] ?_
    refine cE (fun T H => ∃ aA : List aC, ∃ i10 : Int, Has T [(0, (.msl 3 lo0p 0 (List.length aA))), (1, (eI a1)), (10, (eI i10))] ∧ aL ⟨H0, [lo0p], []⟩ H [(lo0p, 3, List.map aD aA)] ∧ List.length aA = N0 ∧ fO cmp4 rec aA a1 i10 = some r) ?_ ?_
    · clear hO hN h0
      rintro T H ⟨aA, i10, hT, hO, hN, h0⟩
      refine aZ hT ?_
      clear hT
      unfold fO at h0
      refine cE (fun T H => ∃ aA : List aC, Has T [(0, (.msl 3 lo0p 0 (List.length aA)))] ∧ aL ⟨H0, [lo0p], []⟩ H [(lo0p, 3, List.map aD aA)] ∧ List.length aA = N0 ∧ fL cmp4 rec aA = some r) ?_ ?_
      · clear hO hN h0
        rintro T H ⟨aA, hT, hO, hN, h0⟩
        refine aZ hT ?_
        clear hT
        unfold fL at h0
        refine bI ?_
        obtain rfl := oI h0
        exact aJ (aP (pM (x := (.tup [])) (by kernel_rfl) (aR.refl _) ⟨rfl, hO.ext, hO.at 0 (by kernel_rfl), by simp only [List.length_map]; exact hN.trans hN0⟩))
      refine aT aH 2 [1] [(13, (eI a1))] ?_
      refine bP 2 ?_
      refine cO [(0, (.msl 3 lo0p 0 (List.length aA))), (10, (eI i10)), (13, (eI a1))] ?_
      refine cF (fun T H => ∃ aA : List aC, ∃ k13 : Int, Has T [(0, (.msl 3 lo0p 0 (List.length aA))), (10, (eI i10)), (13, (eI k13))] ∧ aL ⟨H0, [lo0p], []⟩ H [(lo0p, 3, List.map aD aA)] ∧ List.length aA = N0 ∧ jA cmp4 rec aA i10 k13 = some r) ?_ ⟨aA, a1, .eq (by kernel_rfl), hO, hN, h0⟩
      clear hO hN h0
      rintro T H ⟨aA, k13, hT, hO, hN, h0⟩
      refine aZ hT ?_
      clear hT
      unfold jA at h0
      obtain ⟨rr0, hl0, h0⟩ := aY h0
      refine bW (by kernel_rfl) (fun (s : List aC × Int) T H => Has T [(0, (.msl 3 lo0p 0 (List.length s.1))), (10, (eI i10)), (13, (eI s.2))] ∧ aL ⟨H0, [lo0p], []⟩ H [(lo0p, 3, List.map aD s.1)] ∧ List.length s.1 = N0) hl0 ⟨.eq (by kernel_rfl), hO, hN⟩ ?_
      clear hO hN
      rintro k0 s out1 T H ⟨hT, hO, hN⟩ h1 ho0
      obtain ⟨aA, k13⟩ := s
      replace h1 : jL cmp4 rec i10 aA k13 = some out1 := h1
      dsimp only at hT
      refine aZ hT ?_
      clear hT
      unfold jL at h1
      refine aO ?_
      refine aT aH 4 [] [(58, (aK (decide (k13 < (wR (i10 - (1 : Int)))))))] ?_
      refine bE h1 (fun h1 => ?_) (fun h1 => ?_)
      · refine bH ?_
        refine bD [(0, (.msl 3 lo0p 0 (List.length aA))), (10, (eI i10)), (13, (eI k13))] ?_
        refine aO ?_
        refine bP 3 ?_
        refine fD (fH []) aH 18 ?_
        obtain ⟨c39, h1⟩ := bA h1
        refine cN 9 [0 ≤ (wR (k13 + (1 : Int))) ∧ (wR (k13 + (1 : Int))) < (lN aA)] ⟨c39, trivial⟩ ?_
        refine kS 0 lo0p 3 (0 + Int.toNat (wR (k13 + (1 : Int)))) (aD (gD aA (wR (k13 + (1 : Int))))) (aD (gD aA (wR (k13 + (1 : Int))))) (List.map aD aA) hO (cK c39) ?_
        obtain ⟨c40, h1⟩ := bA h1
        refine cN 13 [0 ≤ k13 ∧ k13 < (lN aA)] ⟨c40, trivial⟩ ?_
        refine kS 0 lo0p 3 (0 + Int.toNat k13) (aD (gD aA k13)) (aD (gD aA k13)) (List.map aD aA) hO (cK c40) ?_
        obtain ⟨c41, h1⟩ := bA h1
        refine cN 15 [0 ≤ k13 ∧ k13 < (lN aA)] ⟨c41, trivial⟩ ?_
        refine tT 0 lo0p 3 (0 + Int.toNat k13) (aD (gD aA k13)) (aD (gD aA (wR (k13 + (1 : Int))))) (List.map aD aA) [(lo0p, 3, List.map aD (List.set aA (Int.toNat k13) (gD aA (wR (k13 + (1 : Int))))))] hO (cK c41) (by simp only [List.set, nJ]) ?_
        intro H hO
        replace hN : List.length (List.set aA (Int.toNat k13) (gD aA (wR (k13 + (1 : Int))))) = N0 := by simpa using hN
        obtain ⟨c42, h1⟩ := bA h1
        refine cN 17 [0 ≤ (wR (k13 + (1 : Int))) ∧ (wR (k13 + (1 : Int))) < (lN aA)] ⟨c42, trivial⟩ ?_
        refine tT 0 lo0p 3 (0 + Int.toNat (wR (k13 + (1 : Int)))) (aD (gD (List.set aA (Int.toNat k13) (gD aA (wR (k13 + (1 : Int))))) (wR (k13 + (1 : Int))))) (aD (gD aA k13)) (List.map aD (List.set aA (Int.toNat k13) (gD aA (wR (k13 + (1 : Int)))))) [(lo0p, 3, List.map aD (List.set (List.set aA (Int.toNat k13) (gD aA (wR (k13 + (1 : Int))))) (Int.toNat (wR (k13 + (1 : Int)))) (gD aA k13)))] hO (wJ c42 (by simp [])) (by simp only [List.set, nJ]) ?_
        intro H hO
        replace hN : List.length (List.set (List.set aA (Int.toNat k13) (gD aA (wR (k13 + (1 : Int))))) (Int.toNat (wR (k13 + (1 : Int)))) (gD aA k13)) = N0 := by simpa using hN
        refine zV (by kernel_rfl) ?_
        refine cG (l := [(0, (.msl 3 lo0p 0 (List.length (List.set (List.set aA (Int.toNat k13) (gD aA (wR (k13 + (1 : Int))))) (Int.toNat (wR (k13 + (1 : Int)))) (gD aA k13))))), (10, (eI i10)), (13, (eI k13))]) ⟨[(0, (.msl 3 lo0p 0 (List.length aA))), (10, (eI i10)), (13, (eI k13))], by kernel_rfl, rfl, ⟨aR.eq (by simp []), aR.refl _, aR.refl _, trivial⟩⟩ ?_
        refine aJ (aU (aI (?_)))
        refine aW aH 3 ?_
        refine bC ?_
        exact aJ (aI (⟨rfl, _, (oI h1).symm, .eq (by kernel_rfl), hO, hN⟩))
      refine cS 2 ?_
      obtain rfl := oI h1
      obtain rfl : _ = rr0 := ho0
      replace h0 : fL cmp4 rec aA = some r := h0
      exact aJ (aS (aS (bL (aI (⟨rfl, _, .eq (by kernel_rfl), hO, hN, h0⟩)))))
    refine bP 0 ?_
    refine cO [(0, (.msl 3 lo0p 0 (List.length aA))), (1, (eI a1)), (4, (.fn (.func cmp4_f) cmp4_a cmp4_c)), (10, (eI m2)), (11, (eI b3))] ?_
    refine cF (fun T H => ∃ aA : List aC, ∃ i10 : Int, ∃ j11 : Int, Has T [(0, (.msl 3 lo0p 0 (List.length aA))), (1, (eI a1)), (4, (.fn (.func cmp4_f) cmp4_a cmp4_c)), (10, (eI i10)), (11, (eI j11))] ∧ aL ⟨H0, [lo0p], []⟩ H [(lo0p, 3, List.map aD aA)] ∧ List.length aA = N0 ∧ jQ cmp4 rec aA a1 i10 j11 = some r) ?_ ⟨aA, m2, b3, .eq (by kernel_rfl), hO, hN, h0⟩
    clear hO hN h0
    rintro T H ⟨aA, i10, j11, hT, hO, hN, h0⟩
    refine aZ hT ?_
    clear hT
    unfold jQ at h0
    obtain ⟨rr0, hl0, h0⟩ := aY h0
    refine bW (by kernel_rfl) (fun (s : List aC × Int × Int) T H => Has T [(0, (.msl 3 lo0p 0 (List.length s.1))), (1, (eI a1)), (4, (.fn (.func cmp4_f) cmp4_a cmp4_c)), (10, (eI s.2.1)), (11, (eI s.2.2))] ∧ aL ⟨H0, [lo0p], []⟩ H [(lo0p, 3, List.map aD s.1)] ∧ List.length s.1 = N0) hl0 ⟨.eq (by kernel_rfl), hO, hN⟩ ?_
    clear hO hN
    rintro k0 s out1 T H ⟨hT, hO, hN⟩ h1 ho0
    obtain ⟨aA, i10, j11⟩ := s
    replace h1 : jG cmp4 rec a1 aA i10 j11 = some out1 := h1
    dsimp only at hT
    refine aZ hT ?_
    clear hT
    unfold jG at h1
    refine aO ?_
    refine aT aH 3 [] [(33, (aK (decide (i10 < j11))))] ?_
    refine bE h1 (fun h1 => ?_) (fun h1 => ?_)
    · refine bH ?_
      refine bD [(0, (.msl 3 lo0p 0 (List.length aA))), (1, (eI a1)), (4, (.fn (.func cmp4_f) cmp4_a cmp4_c)), (10, (eI i10)), (11, (eI j11))] ?_
      refine bP 1 ?_
      refine aO ?_
      refine aW aH 7 ?_
      obtain ⟨c44, h1⟩ := bA h1
      refine nO [0 ≤ (1 : Int)] ⟨c44, trivial⟩ ?_
      refine bQ [] [(12, (eI (wR (Int.fdiv (IntKind.u64.wrap (wR (i10 + j11))) (2 ^ (min (Int.toNat (1 : Int)) 64))))))] ?_
      refine aO ?_
      refine fD (fH []) aH 11 ?_
      obtain ⟨c45, h1⟩ := bA h1
      refine cN 4 [0 ≤ (wR (Int.fdiv (IntKind.u64.wrap (wR (i10 + j11))) (2 ^ (min (Int.toNat (1 : Int)) 64)))) ∧ (wR (Int.fdiv (IntKind.u64.wrap (wR (i10 + j11))) (2 ^ (min (Int.toNat (1 : Int)) 64)))) < (lN aA)] ⟨c45, trivial⟩ ?_
      refine kS 0 lo0p 3 (0 + Int.toNat (wR (Int.fdiv (IntKind.u64.wrap (wR (i10 + j11))) (2 ^ (min (Int.toNat (1 : Int)) 64))))) (aD (gD aA (wR (Int.fdiv (IntKind.u64.wrap (wR (i10 + j11))) (2 ^ (min (Int.toNat (1 : Int)) 64)))))) (aD (gD aA (wR (Int.fdiv (IntKind.u64.wrap (wR (i10 + j11))) (2 ^ (min (Int.toNat (1 : Int)) 64)))))) (List.map aD aA) hO (cK c45) ?_
      obtain ⟨c46, h1⟩ := bA h1
      refine cN 8 [0 ≤ a1 ∧ a1 < (lN aA)] ⟨c46, trivial⟩ ?_
      refine kS 0 lo0p 3 (0 + Int.toNat a1) (aD (gD aA a1)) (aD (gD aA a1)) (List.map aD aA) hO (cK c46) ?_
      obtain ⟨x47, hx48, h1⟩ := aY h1
      refine xO (cmp4_h (gD aA (wR (Int.fdiv (IntKind.u64.wrap (wR (i10 + j11))) (2 ^ (min (Int.toNat (1 : Int)) 64))))) (gD aA a1) _ hx48) hO ?_
      intro H hO
      refine iU ?_
      refine bQ [] [(50, (aK (decide (x47 < (0 : Int)))))] ?_
      refine bE h1 (fun h1 => ?_) (fun h1 => ?_)
      · refine aW aH 3 ?_
        refine bC ?_
        exact aJ (aU (aI (⟨rfl, _, (oI h1).symm, .eq (by kernel_rfl), hO, hN⟩)))
      refine aW aH 2 ?_
      refine bC ?_
      exact aJ (aU (aI (⟨rfl, _, (oI h1).symm, .eq (by kernel_rfl), hO, hN⟩)))
    refine cS 0 ?_
    obtain rfl := oI h1
    obtain rfl : _ = rr0 := ho0
    replace h0 : fO cmp4 rec aA a1 i10 = some r := h0
    exact aJ (aS (aS (bL (aI (⟨rfl, _, _, .eq (by kernel_rfl), hO, hN, h0⟩)))))
  refine bH ?_
  exact aJ (aI (⟨rfl, _, .eq (by kernel_rfl), hO, hN, h0⟩))

theorem mX (cmp4_f : Nat) (cmp4_a cmp4_c : List V) (cmp4 : aC → aC → Option Int) (cmp4_h : ∀ a0 a1 r, cmp4 a0 a1 = some r → bV Try.prog cmp4_f (cmp4_a ++ [(aD a0), (aD a1)] ++ cmp4_c) (eI r)) : ∀ (k : Nat) (lo0p : Nat) (aA : (List aC)) (a1 : Int) (m2 : Int) (b3 : Int) (r : List aC), gH cmp4 k aA a1 m2 b3 = some r → kJ Try.prog 113 lo0p 3 (List.map aD aA) (List.map aD r) [(.msl 3 lo0p 0 (List.length aA)), (eI a1), (eI m2), (eI b3), (.fn (.func cmp4_f) cmp4_a cmp4_c)] (.tup [])
  | 0, _, _, _, _, _, _, h => by cases h
  | k + 1, lo0p, aA, a1, m2, b3, r, h => sM cmp4_f cmp4_a cmp4_c cmp4 cmp4_h _ (mX cmp4_f cmp4_a cmp4_c cmp4 cmp4_h k) lo0p aA a1 m2 b3 r h

theorem nS (lo0p : Nat) (aA : (List aC)) (a1 : Int) (m2 : Int) (b3 : Int) (cmp4_f : Nat) (cmp4_a cmp4_c : List V) (cmp4 : aC → aC → Option Int) (cmp4_h : ∀ a0 a1 r, cmp4 a0 a1 = some r → bV Try.prog cmp4_f (cmp4_a ++ [(aD a0), (aD a1)] ++ cmp4_c) (eI r)) (r : List aC) (h0 : dZ aA a1 m2 b3 cmp4 = some r) : kJ Try.prog 113 lo0p 3 (List.map aD aA) (List.map aD r) [(.msl 3 lo0p 0 (List.length aA)), (eI a1), (eI m2), (eI b3), (.fn (.func cmp4_f) cmp4_a cmp4_c)] (.tup []) := by
  obtain ⟨k, hk⟩ := FE h0
  exact mX cmp4_f cmp4_a cmp4_c cmp4 cmp4_h k lo0p aA a1 m2 b3 r hk

theorem wX (lo0p : Nat) (aA : (List aC)) (n1 : Int) (cmp2_f : Nat) (cmp2_a cmp2_c : List V) (cmp2 : aC → aC → Option Int) (cmp2_h : ∀ a0 a1 r, cmp2 a0 a1 = some r → bV Try.prog cmp2_f (cmp2_a ++ [(aD a0), (aD a1)] ++ cmp2_c) (eI r)) (r : List aC) (h0 : eR aA n1 cmp2 = some r) : kJ Try.prog 90 lo0p 3 (List.map aD aA) (List.map aD r) [(.msl 3 lo0p 0 (List.length aA)), (eI n1), (.fn (.func cmp2_f) cmp2_a cmp2_c)] (.tup []) := by
  intro H0 hl0
  refine cC Try.func90 ?_
  have hO := aL.oF hl0
  clear hl0
  obtain ⟨N0, hN0⟩ : ∃ n, n = List.length aA := ⟨_, rfl⟩
  have hN : List.length aA = N0 := hN0.symm
  unfold eR at h0
  refine aT aH 1 [] [(6, (eI (20 : Int)))] ?_
  refine aT aH 3 [] [(7, (eI (0 : Int))), (8, (eI (20 : Int)))] ?_
  refine cE (fun T H => ∃ aA : List aC, ∃ aN : Int, ∃ a7 : Int, Has T [(0, (.msl 3 lo0p 0 (List.length aA))), (1, (eI n1)), (2, (.fn (.func cmp2_f) cmp2_a cmp2_c)), (6, (eI aN)), (7, (eI a7))] ∧ aL ⟨H0, [lo0p], []⟩ H [(lo0p, 3, List.map aD aA)] ∧ List.length aA = N0 ∧ eN cmp2 aA n1 aN a7 = some r) ?_ ?_
  · clear hO hN h0
    rintro T H ⟨aA, aN, a7, hT, hO, hN, h0⟩
    refine aZ hT ?_
    clear hT
    unfold eN at h0
    refine aO ?_
    refine aW aH 5 ?_
    refine bS 4 ?_
    obtain ⟨x1, hx2, h0⟩ := aY h0
    refine nL [(lo0p, 3, List.map aD x1)] 0 (mG lo0p aA a7 n1 cmp2_f cmp2_a cmp2_c cmp2 cmp2_h _ hx2) hO ?_
    intro H hO hl3
    simp only [List.length_map] at hl3
    replace hN := hl3.trans hN
    refine cZ ?_
    refine cG (l := [(0, (.msl 3 lo0p 0 (List.length x1))), (1, (eI n1)), (2, (.fn (.func cmp2_f) cmp2_a cmp2_c)), (6, (eI aN))]) ⟨[(0, (.msl 3 lo0p 0 (List.length aA))), (1, (eI n1)), (2, (.fn (.func cmp2_f) cmp2_a cmp2_c)), (6, (eI aN))], by kernel_rfl, rfl, ⟨aR.eq (by simp [hl3]), aR.refl _, aR.refl _, aR.refl _, trivial⟩⟩ ?_
    refine aJ (aI (?_))
    refine bP 2 ?_
    refine cO [(0, (.msl 3 lo0p 0 (List.length x1))), (1, (eI n1)), (2, (.fn (.func cmp2_f) cmp2_a cmp2_c)), (6, (eI aN))] ?_
    refine cF (fun T H => ∃ aA : List aC, ∃ aN : Int, Has T [(0, (.msl 3 lo0p 0 (List.length aA))), (1, (eI n1)), (2, (.fn (.func cmp2_f) cmp2_a cmp2_c)), (6, (eI aN))] ∧ aL ⟨H0, [lo0p], []⟩ H [(lo0p, 3, List.map aD aA)] ∧ List.length aA = N0 ∧ iE cmp2 aA n1 aN = some r) ?_ ⟨x1, aN, .eq (by kernel_rfl), hO, hN, h0⟩
    clear hO hN h0
    rintro T H ⟨aA, aN, hT, hO, hN, h0⟩
    refine aZ hT ?_
    clear hT
    unfold iE at h0
    obtain ⟨rr0, hl0, h0⟩ := aY h0
    refine bW (by kernel_rfl) (fun (s : List aC × Int) T H => Has T [(0, (.msl 3 lo0p 0 (List.length s.1))), (1, (eI n1)), (2, (.fn (.func cmp2_f) cmp2_a cmp2_c)), (6, (eI s.2))] ∧ aL ⟨H0, [lo0p], []⟩ H [(lo0p, 3, List.map aD s.1)] ∧ List.length s.1 = N0) hl0 ⟨.eq (by kernel_rfl), hO, hN⟩ ?_
    clear hO hN
    rintro k0 s out1 T H ⟨hT, hO, hN⟩ h1 ho0
    obtain ⟨aA, aN⟩ := s
    replace h1 : gS cmp2 n1 aA aN = some out1 := h1
    dsimp only at hT
    refine aZ hT ?_
    clear hT
    unfold gS at h1
    refine aO ?_
    refine aT aH 3 [] [(30, (aK (decide (aN < n1))))] ?_
    refine bE h1 (fun h1 => ?_) (fun h1 => ?_)
    · refine bH ?_
      refine bD [(0, (.msl 3 lo0p 0 (List.length aA))), (1, (eI n1)), (2, (.fn (.func cmp2_f) cmp2_a cmp2_c)), (6, (eI aN))] ?_
      refine bP 3 ?_
      refine aT aH 4 [] [(7, (eI (0 : Int))), (8, (eI (wR ((2 : Int) * aN))))] ?_
      refine cE (fun T H => ∃ aA : List aC, ∃ a7 : Int, Has T [(0, (.msl 3 lo0p 0 (List.length aA))), (1, (eI n1)), (2, (.fn (.func cmp2_f) cmp2_a cmp2_c)), (6, (eI aN)), (7, (eI a7))] ∧ aL ⟨H0, [lo0p], []⟩ H [(lo0p, 3, List.map aD aA)] ∧ List.length aA = N0 ∧ eM cmp2 aA n1 aN a7 = some out1) ?_ ?_
      · clear hO hN h1
        rintro T H ⟨aA, a7, hT, hO, hN, h1⟩
        refine aZ hT ?_
        clear hT
        unfold eM at h1
        refine cE (fun T H => ∃ aA : List aC, Has T [(0, (.msl 3 lo0p 0 (List.length aA))), (1, (eI n1)), (2, (.fn (.func cmp2_f) cmp2_a cmp2_c)), (6, (eI aN))] ∧ aL ⟨H0, [lo0p], []⟩ H [(lo0p, 3, List.map aD aA)] ∧ List.length aA = N0 ∧ iF cmp2 aA n1 aN = some out1) ?_ ?_
        · clear hO hN h1
          rintro T H ⟨aA, hT, hO, hN, h1⟩
          refine aZ hT ?_
          clear hT
          unfold iF at h1
          refine aW aH 3 ?_
          refine bC ?_
          exact aJ (aU (aI (⟨rfl, _, (oI h1).symm, .eq (by kernel_rfl), hO, hN⟩)))
        refine aT aH 4 [] [(9, (eI (wR (a7 + aN))))] ?_
        refine aT aH 3 [] [(54, (aK (decide ((wR (a7 + aN)) < n1))))] ?_
        refine bE h1 (fun h1 => ?_) (fun h1 => ?_)
        · refine aW aH 6 ?_
          refine bS 5 ?_
          obtain ⟨x6, hx7, h1⟩ := aY h1
          refine nL [(lo0p, 3, List.map aD x6)] 0 (nS lo0p aA a7 (wR (a7 + aN)) n1 cmp2_f cmp2_a cmp2_c cmp2 cmp2_h _ hx7) hO ?_
          intro H hO hl8
          simp only [List.length_map] at hl8
          replace hN := hl8.trans hN
          refine cZ ?_
          refine cG (l := [(0, (.msl 3 lo0p 0 (List.length x6))), (1, (eI n1)), (2, (.fn (.func cmp2_f) cmp2_a cmp2_c)), (6, (eI aN))]) ⟨[(0, (.msl 3 lo0p 0 (List.length aA))), (1, (eI n1)), (2, (.fn (.func cmp2_f) cmp2_a cmp2_c)), (6, (eI aN))], by kernel_rfl, rfl, ⟨aR.eq (by simp [hl8]), aR.refl _, aR.refl _, aR.refl _, trivial⟩⟩ ?_
          exact aJ (aI (⟨rfl, _, .eq (by kernel_rfl), hO, hN, h1⟩))
        refine bH ?_
        exact aJ (aI (⟨rfl, _, .eq (by kernel_rfl), hO, hN, h1⟩))
      refine bP 4 ?_
      refine cO [(0, (.msl 3 lo0p 0 (List.length aA))), (1, (eI n1)), (2, (.fn (.func cmp2_f) cmp2_a cmp2_c)), (6, (eI aN)), (7, (eI (0 : Int))), (8, (eI (wR ((2 : Int) * aN))))] ?_
      refine cF (fun T H => ∃ aA : List aC, ∃ a7 : Int, ∃ b8 : Int, Has T [(0, (.msl 3 lo0p 0 (List.length aA))), (1, (eI n1)), (2, (.fn (.func cmp2_f) cmp2_a cmp2_c)), (6, (eI aN)), (7, (eI a7)), (8, (eI b8))] ∧ aL ⟨H0, [lo0p], []⟩ H [(lo0p, 3, List.map aD aA)] ∧ List.length aA = N0 ∧ hU cmp2 aA n1 aN a7 b8 = some out1) ?_ ⟨aA, (0 : Int), wR ((2 : Int) * aN), .eq (by kernel_rfl), hO, hN, h1⟩
      clear hO hN h1
      rintro T H ⟨aA, a7, b8, hT, hO, hN, h1⟩
      refine aZ hT ?_
      clear hT
      unfold hU at h1
      obtain ⟨rr1, hl1, h1⟩ := aY h1
      refine bW (by kernel_rfl) (fun (s : List aC × Int × Int) T H => Has T [(0, (.msl 3 lo0p 0 (List.length s.1))), (1, (eI n1)), (2, (.fn (.func cmp2_f) cmp2_a cmp2_c)), (6, (eI aN)), (7, (eI s.2.1)), (8, (eI s.2.2))] ∧ aL ⟨H0, [lo0p], []⟩ H [(lo0p, 3, List.map aD s.1)] ∧ List.length s.1 = N0) hl1 ⟨.eq (by kernel_rfl), hO, hN⟩ ?_
      clear hO hN
      rintro k1 s out2 T H ⟨hT, hO, hN⟩ h2 ho1
      obtain ⟨aA, a7, b8⟩ := s
      replace h2 : gP cmp2 n1 aN aA a7 b8 = some out2 := h2
      dsimp only at hT
      refine aZ hT ?_
      clear hT
      unfold gP at h2
      refine aO ?_
      refine aT aH 3 [] [(35, (aK (decide (b8 ≤ n1))))] ?_
      refine bE h2 (fun h2 => ?_) (fun h2 => ?_)
      · refine bH ?_
        refine bD [(0, (.msl 3 lo0p 0 (List.length aA))), (1, (eI n1)), (2, (.fn (.func cmp2_f) cmp2_a cmp2_c)), (6, (eI aN)), (7, (eI a7)), (8, (eI b8))] ?_
        refine bP 5 ?_
        refine aO ?_
        refine aW aH 8 ?_
        refine bS 7 ?_
        obtain ⟨x10, hx11, h2⟩ := aY h2
        refine nL [(lo0p, 3, List.map aD x10)] 0 (nS lo0p aA a7 (wR (a7 + aN)) b8 cmp2_f cmp2_a cmp2_c cmp2 cmp2_h _ hx11) hO ?_
        intro H hO hl12
        simp only [List.length_map] at hl12
        replace hN := hl12.trans hN
        refine cZ ?_
        refine cG (l := [(0, (.msl 3 lo0p 0 (List.length x10))), (1, (eI n1)), (2, (.fn (.func cmp2_f) cmp2_a cmp2_c)), (6, (eI aN)), (8, (eI b8))]) ⟨[(0, (.msl 3 lo0p 0 (List.length aA))), (1, (eI n1)), (2, (.fn (.func cmp2_f) cmp2_a cmp2_c)), (6, (eI aN)), (8, (eI b8))], by kernel_rfl, rfl, ⟨aR.eq (by simp [hl12]), aR.refl _, aR.refl _, aR.refl _, aR.refl _, trivial⟩⟩ ?_
        refine aJ (aI (?_))
        refine aT aH 2 [] [(7, (eI b8))] ?_
        refine aW aH 5 ?_
        refine bC ?_
        exact aJ (aU (aI (⟨rfl, _, (oI h2).symm, .eq (by kernel_rfl), hO, hN⟩)))
      refine cS 4 ?_
      obtain rfl := oI h2
      obtain rfl : _ = rr1 := ho1
      replace h1 : eM cmp2 aA n1 aN a7 = some out1 := h1
      exact aJ (aS (aS (bL (aI (⟨rfl, _, _, .eq (by kernel_rfl), hO, hN, h1⟩)))))
    refine cS 2 ?_
    obtain rfl := oI h1
    obtain rfl : _ = rr0 := ho0
    replace h0 : some aA = some r := h0
    obtain rfl := oI h0
    exact aJ (aS (aS (bL (qZ (x := (.tup [])) (by kernel_rfl) (aR.refl _) ⟨rfl, hO.ext, hO.at 0 (by kernel_rfl), by simp only [List.length_map]; exact hN.trans hN0⟩))))
  refine bP 0 ?_
  refine cO [(0, (.msl 3 lo0p 0 (List.length aA))), (1, (eI n1)), (2, (.fn (.func cmp2_f) cmp2_a cmp2_c)), (6, (eI (20 : Int))), (7, (eI (0 : Int))), (8, (eI (20 : Int)))] ?_
  refine cF (fun T H => ∃ aA : List aC, ∃ aN : Int, ∃ a7 : Int, ∃ b8 : Int, Has T [(0, (.msl 3 lo0p 0 (List.length aA))), (1, (eI n1)), (2, (.fn (.func cmp2_f) cmp2_a cmp2_c)), (6, (eI aN)), (7, (eI a7)), (8, (eI b8))] ∧ aL ⟨H0, [lo0p], []⟩ H [(lo0p, 3, List.map aD aA)] ∧ List.length aA = N0 ∧ iA cmp2 aA n1 aN a7 b8 = some r) ?_ ⟨aA, (20 : Int), (0 : Int), (20 : Int), .eq (by kernel_rfl), hO, hN, h0⟩
  clear hO hN h0
  rintro T H ⟨aA, aN, a7, b8, hT, hO, hN, h0⟩
  refine aZ hT ?_
  clear hT
  unfold iA at h0
  obtain ⟨rr0, hl0, h0⟩ := aY h0
  refine bW (by kernel_rfl) (fun (s : List aC × Int × Int) T H => Has T [(0, (.msl 3 lo0p 0 (List.length s.1))), (1, (eI n1)), (2, (.fn (.func cmp2_f) cmp2_a cmp2_c)), (6, (eI aN)), (7, (eI s.2.1)), (8, (eI s.2.2))] ∧ aL ⟨H0, [lo0p], []⟩ H [(lo0p, 3, List.map aD s.1)] ∧ List.length s.1 = N0) hl0 ⟨.eq (by kernel_rfl), hO, hN⟩ ?_
  clear hO hN
  rintro k0 s out1 T H ⟨hT, hO, hN⟩ h1 ho0
  obtain ⟨aA, a7, b8⟩ := s
  replace h1 : gO cmp2 n1 aN aA a7 b8 = some out1 := h1
  dsimp only at hT
  refine aZ hT ?_
  clear hT
  unfold gO at h1
  refine aO ?_
  refine aT aH 3 [] [(13, (aK (decide (b8 ≤ n1))))] ?_
  refine bE h1 (fun h1 => ?_) (fun h1 => ?_)
  · refine bH ?_
    refine bD [(0, (.msl 3 lo0p 0 (List.length aA))), (1, (eI n1)), (2, (.fn (.func cmp2_f) cmp2_a cmp2_c)), (6, (eI aN)), (7, (eI a7)), (8, (eI b8))] ?_
    refine bP 1 ?_
    refine aO ?_
    refine aW aH 5 ?_
    refine bS 4 ?_
    obtain ⟨x14, hx15, h1⟩ := aY h1
    refine nL [(lo0p, 3, List.map aD x14)] 0 (mG lo0p aA a7 b8 cmp2_f cmp2_a cmp2_c cmp2 cmp2_h _ hx15) hO ?_
    intro H hO hl16
    simp only [List.length_map] at hl16
    replace hN := hl16.trans hN
    refine cZ ?_
    refine cG (l := [(0, (.msl 3 lo0p 0 (List.length x14))), (1, (eI n1)), (2, (.fn (.func cmp2_f) cmp2_a cmp2_c)), (6, (eI aN)), (8, (eI b8))]) ⟨[(0, (.msl 3 lo0p 0 (List.length aA))), (1, (eI n1)), (2, (.fn (.func cmp2_f) cmp2_a cmp2_c)), (6, (eI aN)), (8, (eI b8))], by kernel_rfl, rfl, ⟨aR.eq (by simp [hl16]), aR.refl _, aR.refl _, aR.refl _, aR.refl _, trivial⟩⟩ ?_
    refine aJ (aI (?_))
    refine aT aH 2 [] [(7, (eI b8))] ?_
    refine aW aH 4 ?_
    refine bC ?_
    exact aJ (aU (aI (⟨rfl, _, (oI h1).symm, .eq (by kernel_rfl), hO, hN⟩)))
  refine cS 0 ?_
  obtain rfl := oI h1
  obtain rfl : _ = rr0 := ho0
  replace h0 : eN cmp2 aA n1 aN a7 = some r := h0
  exact aJ (aS (aS (bL (aI (⟨rfl, _, _, _, .eq (by kernel_rfl), hO, hN, h0⟩)))))

theorem qQ (lo0p : Nat) (x0 : (List aC)) (cmp1_f : Nat) (cmp1_a cmp1_c : List V) (cmp1 : aC → aC → Option Int) (cmp1_h : ∀ a0 a1 r, cmp1 a0 a1 = some r → bV Try.prog cmp1_f (cmp1_a ++ [(aD a0), (aD a1)] ++ cmp1_c) (eI r)) (r : List aC) (h0 : cT x0 cmp1 = some r) : kJ Try.prog 58 lo0p 3 (List.map aD x0) (List.map aD r) [(.msl 3 lo0p 0 (List.length x0)), (.fn (.func cmp1_f) cmp1_a cmp1_c)] (.tup []) := by
  intro H0 hl0
  refine cC Try.func58 ?_
  have hO := aL.oF hl0
  clear hl0
  obtain ⟨N0, hN0⟩ : ∃ n, n = List.length x0 := ⟨_, rfl⟩
  have hN : List.length x0 = N0 := hN0.symm
  unfold cT at h0
  refine aW aH 5 ?_
  refine bS 4 ?_
  obtain ⟨x1, hx2, h0⟩ := aY h0
  refine nL [(lo0p, 3, List.map aD x1)] 0 (wX lo0p x0 (lN x0) cmp1_f cmp1_a cmp1_c cmp1 cmp1_h _ hx2) hO ?_
  intro H hO hl3
  simp only [List.length_map] at hl3
  replace hN := hl3.trans hN
  refine cZ ?_
  refine cG (l := [(0, (.msl 3 lo0p 0 (List.length x1)))]) ⟨[(0, (.msl 3 lo0p 0 (List.length x0)))], by kernel_rfl, rfl, ⟨aR.eq (by simp [hl3]), trivial⟩⟩ ?_
  obtain rfl := oI h0
  exact aJ (qZ (x := (.tup [])) (by kernel_rfl) (aR.refl _) ⟨rfl, hO.ext, hO.at 0 (by kernel_rfl), by simp only [List.length_map]; exact hN.trans hN0⟩)

theorem OJ (yA : (List Int)) (r : Int) (h0 : tL yA = some r) : bV Try.prog 60 [(eL (eI) yA)] (eI r) := by
  intro H0
  refine cC Try.func60 ?_
  have hO := aL.start H0
  unfold tL at h0
  refine aT aH 1 [] [] ?_
  refine aT aH 1 [] [(3, (eI (0 : Int)))] ?_
  refine cE (fun T H => ∃ mR : Int, Has T [(3, (eI mR))] ∧ aL ⟨H0, [], []⟩ H [] ∧ rD mR = some r) ?_ ?_
  · clear hO h0
    rintro T H ⟨mR, hT, hO, h0⟩
    refine aZ hT ?_
    clear hT
    unfold rD at h0
    refine bN aH 2 [(2, (eI mR))] ?_
    refine bI ?_
    obtain rfl := oI h0
    exact aJ (Q_r hO)
  refine aT aH 3 [0] [(6, (eL (eI) yA)), (7, (eI (lN yA))), (8, (eI (0 : Int)))] ?_
  refine bP 0 ?_
  refine cO [(3, (eI (0 : Int))), (6, (eL (eI) yA)), (7, (eI (lN yA))), (8, (eI (0 : Int)))] ?_
  refine cF (fun T H => ∃ mR : Int, ∃ t6 : (List Int), ∃ t7 : Int, ∃ t8 : Int, Has T [(3, (eI mR)), (6, (eL (eI) t6)), (7, (eI t7)), (8, (eI t8))] ∧ aL ⟨H0, [], []⟩ H [] ∧ vQ mR t6 t7 t8 = some r) ?_ ⟨(0 : Int), yA, (lN yA), (0 : Int), .eq (by kernel_rfl), hO, h0⟩
  clear hO h0
  rintro T H ⟨mR, t6, t7, t8, hT, hO, h0⟩
  refine aZ hT ?_
  clear hT
  unfold vQ at h0
  obtain ⟨rr0, hl0, h0⟩ := aY h0
  refine bW (by kernel_rfl) (fun (s : Int) T H => Has T [(3, (eI mR)), (6, (eL (eI) t6)), (7, (eI t7)), (8, (eI s))] ∧ aL ⟨H0, [], []⟩ H []) hl0 ⟨.eq (by kernel_rfl), hO⟩ ?_
  clear hO
  rintro k0 s out1 T H ⟨hT, hO⟩ h1 ho0
  obtain ⟨t8, rfl⟩ : ∃ x, x = s := ⟨_, rfl⟩
  replace h1 : gI mR t6 t7 t8 = some out1 := h1
  refine aZ hT ?_
  clear hT
  unfold gI at h1
  refine aT aH 1 [] [(9, (aK (decide (t8 < t7))))] ?_
  refine aO ?_
  refine bE h1 (fun h1 => ?_) (fun h1 => ?_)
  · refine bH ?_
    refine bD [(3, (eI mR)), (6, (eL (eI) t6)), (7, (eI t7)), (8, (eI t8))] ?_
    refine aO ?_
    refine bP 1 ?_
    refine aO ?_
    refine aW aH 3 ?_
    obtain ⟨c2, h1⟩ := bA h1
    refine nO [0 ≤ t8 ∧ t8 < (lN t6)] ⟨c2, trivial⟩ ?_
    refine bQ [] [(5, (eI (gD t6 t8)))] ?_
    refine aT aH 3 [] [(14, (aK (!decide ((gD t6 t8) = mR))))] ?_
    refine bE h1 (fun h1 => ?_) (fun h1 => ?_)
    · refine bN aH 2 [(2, (eI (gD t6 t8)))] ?_
      refine bI ?_
      obtain rfl := oI h1
      obtain rfl : _ = rr0 := ho0
      replace h0 : some (gD t6 t8) = some r := h0
      obtain rfl := oI h0
      exact aJ (bM (aP (aP (bM (aP (Q_r hO))))))
    refine bH ?_
    refine dY [(3, (eI mR)), (6, (eL (eI) t6)), (7, (eI t7)), (8, (eI t8))] ?_
    refine aJ (aU (aI (?_)))
    refine aW aH 2 ?_
    refine bC ?_
    exact aJ (aI (⟨rfl, _, (oI h1).symm, .eq (by kernel_rfl), hO⟩))
  refine cS 0 ?_
  obtain rfl := oI h1
  obtain rfl : _ = rr0 := ho0
  replace h0 : rD mR = some r := h0
  exact aJ (aS (aS (bL (aI (⟨rfl, _, .eq (by kernel_rfl), hO, h0⟩)))))

theorem NP (x0 : aC) (y1 : aC) (r : Int) (h0 : lY x0 y1 = some r) : bV Try.prog 59 [(aD x0), (aD y1)] (eI r) := by
  intro H0
  refine cC Try.func59 ?_
  have hO := aL.start H0
  unfold lY at h0
  refine aO ?_
  refine aW aH 3 ?_
  refine jW 3 (aD x0) (by kernel_rfl) (by kernel_rfl) ?_
  refine jW 3 (aD y1) (by kernel_rfl) (by kernel_rfl) ?_
  refine bC ?_
  refine bD [(2, (.rp (aD x0))), (3, (.rp (aD y1)))] ?_
  refine aO ?_
  refine fD (fH [6, 8, 11, 13]) aH 13 ?_
  refine oT 4 ?_
  obtain ⟨x1, hx2, h0⟩ := aY h0
  refine xO (EW x0.Row y1.Row _ hx2) hO ?_
  intro H hO
  refine oT 9 ?_
  obtain ⟨x4, hx5, h0⟩ := aY h0
  refine xO (uQ x0.At y1.At _ hx5) hO ?_
  intro H hO
  refine CB (xs := [(eI x1), (eI x4)]) (k := 1) (by kernel_rfl) (by kernel_rfl) ?_
  obtain ⟨x7, hx8, h0⟩ := aY h0
  refine UB 60 [(fA [(eI x1), (eI x4)])] (eI x7) (by kernel_rfl) (by kernel_rfl) (bV.sub (OJ ([x1, x4]) _ hx8) ⟨KF (l := [x1, x4]), trivial⟩) hO ?_
  intro H hO
  refine iU ?_
  refine bD [(4, (eI x7))] ?_
  refine bI ?_
  obtain rfl := oI h0
  exact aJ (Q_r hO)

theorem VQ (lo0p : Nat) (l0 : (List aC)) (r1 : (List aF)) (f2 : (List aB)) (r : (List aC)) (h0 : xU l0 r1 f2 = some r) : BZ Try.prog 78 lo0p 3 (List.map aD l0) [(.msl 3 lo0p 0 (List.length l0)), (eL aG r1), (eL aE f2)] (fun lo => .msl 3 lo 0 (List.length r)) (List.map aD r) := by
  intro H0 hl0
  refine cC Try.func78 ?_
  have hO := aL.oF hl0
  clear hl0
  unfold xU at h0
  refine aT aH 1 [] [] ?_
  refine cE (fun T H => ∃ l0 : List aC, ∃ lo1 : Nat, Has T [(0, (.msl 3 lo1 0 (List.length l0)))] ∧ aL ⟨H0, [lo0p], []⟩ H [(lo1, 3, List.map aD l0)] ∧ yQ l0 = some r) ?_ ?_
  · clear hO h0
    rintro T H ⟨l0, lo1, hT, hO, h0⟩
    refine aZ hT ?_
    clear hT
    unfold yQ at h0
    refine bN aH 2 [(6, (.msl 3 lo1 0 (List.length l0)))] ?_
    refine bI ?_
    obtain rfl := oI h0
    exact aJ (pM (x := (.msl 3 lo1 0 (List.length l0))) (by kernel_rfl) (aR.refl _) ⟨lo1, rfl, hO⟩)
  refine aT aH 3 [2] [(9, (eL aE f2)), (10, (eI (lN f2))), (11, (eI (0 : Int)))] ?_
  refine bP 0 ?_
  refine cO [(0, (.msl 3 lo0p 0 (List.length l0))), (1, (eL aG r1)), (9, (eL aE f2)), (10, (eI (lN f2))), (11, (eI (0 : Int)))] ?_
  refine cF (fun T H => ∃ l0 : List aC, ∃ t9 : (List aB), ∃ t10 : Int, ∃ t11 : Int, ∃ lo3 : Nat, Has T [(0, (.msl 3 lo3 0 (List.length l0))), (1, (eL aG r1)), (9, (eL aE t9)), (10, (eI t10)), (11, (eI t11))] ∧ aL ⟨H0, [lo0p], []⟩ H [(lo3, 3, List.map aD l0)] ∧ yX l0 r1 t9 t10 t11 = some r) ?_ ⟨l0, f2, (lN f2), (0 : Int), lo0p, .eq (by kernel_rfl), hO, h0⟩
  clear hO h0
  rintro T H ⟨l0, t9, t10, t11, lo3, hT, hO, h0⟩
  refine aZ hT ?_
  clear hT
  unfold yX at h0
  obtain ⟨rr0, hl0, h0⟩ := aY h0
  refine bW (by kernel_rfl) (fun (s : List aC × Int) T H => ∃ lo3 : Nat, Has T [(0, (.msl 3 lo3 0 (List.length s.1))), (1, (eL aG r1)), (9, (eL aE t9)), (10, (eI t10)), (11, (eI s.2))] ∧ aL ⟨H0, [lo0p], []⟩ H [(lo3, 3, List.map aD s.1)]) hl0 ⟨lo3, .eq (by kernel_rfl), hO⟩ ?_
  clear hO
  rintro k0 s out1 T H ⟨lo3, hT, hO⟩ h1 ho0
  obtain ⟨l0, t11⟩ := s
  replace h1 : nQ r1 t9 t10 l0 t11 = some out1 := h1
  dsimp only at hT
  refine aZ hT ?_
  clear hT
  unfold nQ at h1
  refine aT aH 1 [] [(12, (aK (decide (t11 < t10))))] ?_
  refine aO ?_
  refine bE h1 (fun h1 => ?_) (fun h1 => ?_)
  · refine bH ?_
    refine bD [(0, (.msl 3 lo3 0 (List.length l0))), (1, (eL aG r1)), (9, (eL aE t9)), (10, (eI t10)), (11, (eI t11))] ?_
    refine aO ?_
    refine bP 1 ?_
    refine aO ?_
    refine aW aH 4 ?_
    obtain ⟨c5, h1⟩ := bA h1
    refine nH 2 [0 ≤ t11 ∧ t11 < (lN t9)] ⟨c5, trivial⟩ ?_
    refine tJ 2 (aE (aB.mk 0 0)) (by kernel_rfl) (by kernel_rfl) hO ?_
    intro lo6 H hO
    refine pQ 1 lo6 2 0 (aE (aB.mk 0 0)) (aE (gD t9 t11)) [(aE (aB.mk 0 0))] [(lo3, 3, List.map aD l0), (lo6, 2, [(aE (gD t9 t11))])] hO rfl (by kernel_rfl) ?_
    intro H hO
    refine cZ ?_
    refine bQ [] [(8, (.lp lo6 0 0))] ?_
    refine cO [(0, (.msl 3 lo3 0 (List.length l0))), (1, (eL aG r1)), (8, (.lp lo6 0 0)), (9, (eL aE t9)), (10, (eI t10)), (11, (eI t11))] ?_
    refine MZ 2 1 8 2 lo6 (aE (gD t9 t11)) [(lo3, 3, List.map aD l0)] hO (by kernel_rfl) (by kernel_rfl) (by kernel_rfl) ?_
    intro H hO
    refine fD (fH [19, 21]) aH 11 ?_
    refine oT 2 ?_
    obtain ⟨x7, hx8, h1⟩ := aY h1
    refine xO (JW r1 _ hx8) hO ?_
    intro H hO
    refine oT 8 ?_
    refine CB (xs := [(aD (aC.mk x7 ((gD t9 t11).At) ((gD t9 t11).Net)))]) (k := 3) (by kernel_rfl) (by kernel_rfl) ?_
    obtain ⟨c11, h1⟩ := bA h1
    refine AQ (e := aD) l0 ([aC.mk x7 ((gD t9 t11).At) ((gD t9 t11).Net)]) 0 lo3 3 40 (fA [(aD (aC.mk x7 ((gD t9 t11).At) ((gD t9 t11).Net)))]) (fun lo10 => [(lo10, 3, List.map aD (l0 ++ ([aC.mk x7 ((gD t9 t11).At) ((gD t9 t11).Net)])))]) (by kernel_rfl) (by kernel_rfl) hO (by kernel_rfl) (by kernel_rfl) c11 (fun _ => by kernel_rfl) ?_
    intro lo10 H hO
    refine iU ?_
    refine dY [(0, (.msl 3 lo10 0 (List.length (l0 ++ ([aC.mk x7 ((gD t9 t11).At) ((gD t9 t11).Net)]))))), (1, (eL aG r1)), (9, (eL aE t9)), (10, (eI t10)), (11, (eI t11))] ?_
    refine aJ (aU (aI (?_)))
    refine aW aH 2 ?_
    refine bC ?_
    exact aJ (aI (⟨rfl, _, (oI h1).symm, _, .eq (by kernel_rfl), hO⟩))
  refine cS 0 ?_
  obtain rfl := oI h1
  obtain rfl : _ = rr0 := ho0
  replace h0 : yQ l0 = some r := h0
  exact aJ (aS (aS (bL (aI (⟨rfl, _, _, .eq (by kernel_rfl), hO, h0⟩)))))

theorem NM (l0 : (List aC)) (by1_f : Nat) (by1_a by1_c : List V) (by1 : (List aB) → Option ((List aB) × Int)) (by1_h : ∀ a0 r, by1 a0 = some r → bV Try.prog by1_f (by1_a ++ [(eL aE a0)] ++ by1_c) (.tup [(eL aE r.1), (eI r.2)])) (r : ((List aC) × Int)) (h0 : rT l0 by1 = some r) : bV Try.prog 63 [(eL aD l0), (.fn (.func by1_f) by1_a by1_c)] (.tup [(eL aD r.1), (eI r.2)]) := by
  intro H0
  refine TL aH Try.func63 (by kernel_rfl) (by kernel_rfl) (by kernel_rfl) ?_
  have hO := aL.start H0
  unfold rT at h0
  refine aO ?_
  refine aW aH 3 ?_
  refine jW 1 (.fn (.func by1_f) by1_a by1_c) (by kernel_rfl) (by kernel_rfl) ?_
  refine ET 1 (.sl true 0 (fun _ => .bad)) (eL aD ([])) (by kernel_rfl) (by kernel_rfl) (by kernel_rfl) (gN) (by kernel_rfl) (by kernel_rfl) hO ?_
  intro lo1 H hO
  refine tJ 1 (eI 0) (by kernel_rfl) (by kernel_rfl) hO ?_
  intro lo2 H hO
  refine cZ ?_
  refine bQ [1] [(3, (.rp (.fn (.func by1_f) by1_a by1_c))), (4, (.lp lo1 0 0)), (5, (.lp lo2 0 0))] ?_
  refine aO ?_
  refine aW aH 3 ?_
  refine mS (xs := []) (k := 3) (by kernel_rfl) (by kernel_rfl) ?_
  refine ET 1 (.sl true 0 (fun _ => .bad)) (eL aD ([])) (by kernel_rfl) (by kernel_rfl) (by kernel_rfl) (gN) (by kernel_rfl) (by kernel_rfl) hO ?_
  intro lo3 H hO
  refine aBl 11 3 (fun _ => .bad) (by kernel_rfl) hO (by kernel_rfl) ?_
  intro lo4 H hO
  refine pQ 2 lo3 1 0 (eL aD ([])) (.msl 3 lo4 0 (List.length ([] : List aC))) [(eL aD ([]))] [(lo1, 1, [(eL aD ([]))]), (lo2, 1, [(eI 0)]), (lo3, 1, [(.msl 3 lo4 0 (List.length ([] : List aC)))]), (lo4, 3, List.map aD ([] : List aC))] hO rfl (by kernel_rfl) ?_
  intro H hO
  refine cZ ?_
  refine bQ [] [(6, (.lp lo3 0 0))] ?_
  refine aO ?_
  refine aO ?_
  refine aW aH 2 ?_
  refine bS 1 ?_
  obtain ⟨x5, hx6, h0⟩ := aY h0
  refine cJ (HO l0 _ hx6) hO ?_
  intro H hO
  refine cZ ?_
  refine bQ [0] [(13, (.fn (.func 104) [] [(.rp (eL aD x5))]))] ?_
  refine bP 0 ?_
  refine cO [(3, (.rp (.fn (.func by1_f) by1_a by1_c))), (4, (.lp lo1 0 0)), (5, (.lp lo2 0 0)), (6, (.lp lo3 0 0)), (13, (.fn (.func 104) [] [(.rp (eL aD x5))]))] ?_
  refine cF (fun T H => ∃ t4 : (List aC), ∃ t5 : Int, ∃ out6 : List aC, ∃ jO : (List aC), ∃ lo7 : Nat, ∃ lo8 : Nat, ∃ lo9 : Nat, ∃ lo10 : Nat, Has T [(3, (.rp (.fn (.func by1_f) by1_a by1_c))), (4, (.lp lo7 0 0)), (5, (.lp lo8 0 0)), (6, (.lp lo9 0 0)), (13, (.fn (.func 104) [] [(.rp (eL aD jO))]))] ∧ aL ⟨H0, [], []⟩ H [(lo7, 1, [(eL aD t4)]), (lo8, 1, [(eI t5)]), (lo9, 1, [(.msl 3 lo10 0 (List.length out6))]), (lo10, 3, List.map aD out6)] ∧ uE by1 t4 t5 out6 jO = some r) ?_ ⟨[], 0, ([] : List aC), x5, lo1, lo2, lo3, lo4, .eq (by kernel_rfl), hO, h0⟩
  clear hO h0
  rintro T H ⟨t4, t5, out6, jO, lo7, lo8, lo9, lo10, hT, hO, h0⟩
  refine aZ (l := [(3, (.rp (.fn (.func by1_f) by1_a by1_c))), (4, (.lp lo7 0 0)), (5, (.lp lo8 0 0)), (6, (.lp lo9 0 0)), (13, (.fn (.func 104) [] [(.rp (eL aD jO))]))]) hT ?_
  clear hT
  unfold uE at h0
  obtain ⟨o0, hl0, h0⟩ := aY h0
  refine OV (fid := 104) (ys := []) (cs := [(.rp (eL aD jO))]) #[14, 15] (fun (A : EK) (b lL : Nat) (st : ((List aC) × Int × List aC) ⊕ ((List aC) × Int × List aC)) (G' : Gs) => Sum.elim (fun (s : (List aC) × Int × List aC) => ∃ lo10 : Nat, G' = (lL, .raw (lK b A .ready none)) :: (up [(lo7, 1, [(eL aD s.1)]), (lo8, 1, [(eI s.2.1)]), (lo9, 1, [(.msl 3 lo10 0 (List.length s.2.2))]), (lo10, 3, List.map aD s.2.2)] ++ [])) (fun (s : (List aC) × Int × List aC) => ∃ lo10 : Nat, G' = (lL, .raw (lK b A .done (some .ret))) :: (up [(lo7, 1, [(eL aD s.1)]), (lo8, 1, [(eI s.2.1)]), (lo9, 1, [(.msl 3 lo10 0 (List.length s.2.2))]), (lo10, 3, List.map aD s.2.2)] ++ [])) st) (.inl (t4, t5, out6)) o0 (.tup []) (by kernel_rfl) (by kernel_rfl) (by kernel_rfl) hO (fun _ _ => ⟨lo10, rfl⟩) ?_ ?_
  · intro b lL
    clear hO h0
    refine BR _ b (fun st t14 t15 => rnd (fun (s : (List aC) × Int × List aC) => mJ by1 jO s.1 s.2.1 s.2.2 t14 t15) st) ?_ jO _ _ hl0
    intro st t14 t15 st2 rr hr
    obtain ⟨s, rfl, h1, rfl⟩ := aAY hr
    clear hr
    intro Hr Gr hi hg
    obtain ⟨t4, t5, out6⟩ := s
    dsimp only [Sum.elim_inl] at hi
    obtain ⟨lo10, rfl⟩ := hi
    replace h1 : mJ by1 jO t4 t5 out6 t14 t15 = some st2 := h1
    unfold mJ at h1
    obtain ⟨E1, hE, hO⟩ := HT hg
    refine HS (OS (hO.gm 0 _ rfl).2 (by kernel_rfl) (by kernel_rfl) ?_)
    refine cO [(3, (.rp (.fn (.func by1_f) by1_a by1_c))), (4, (.lp lo7 0 0)), (5, (.lp lo8 0 0)), (6, (.lp lo9 0 0)), (13, (.fn (.func 104) [] [(.rp (eL aD jO))])), (14, (eL aG t14)), (15, (eL aE t15))] ?_
    refine aT aH 1 [13, 14] [(7, (eL aG t14))] ?_
    refine aW aH 1 ?_
    refine bC ?_
    refine dY [(3, (.rp (.fn (.func by1_f) by1_a by1_c))), (4, (.lp lo7 0 0)), (5, (.lp lo8 0 0)), (6, (.lp lo9 0 0)), (7, (eL aG t14)), (8, (eL aE t15))] ?_
    refine aJ (⟨rfl, rfl, (hO.gm 0 _ rfl).2, ?_⟩)
    intro o1 ho1
    replace hO := hO.FG o1
    refine bP 1 ?_
    refine aO ?_
    refine aW aH 8 ?_
    refine bS 2 ?_
    obtain ⟨x11, hx12, h1⟩ := aY h1
    refine cJ (by1_h t15 _ hx12) hO ?_
    intro H hO
    refine bC ?_
    refine bQ [3, 8] [(9, (eL aE x11.1)), (10, (eI x11.2))] ?_
    refine aO ?_
    refine aT aH 2 [] [(23, (aK (!decide (x11.2 = (0 : Int)))))] ?_
    refine bE h1 (fun h1 => ?_) (fun h1 => ?_)
    · refine aO ?_
      refine aW aH 3 ?_
      refine bS 1 ?_
      refine pQ 0 lo7 1 0 (eL aD t4) (.sl true 0 (fun _ => .bad)) [(eL aD t4)] [(lo7, 1, [(.sl true 0 (fun _ => .bad))]), (lo8, 1, [(eI t5)]), (lo9, 1, [(.msl 3 lo10 0 (List.length out6))]), (lo10, 3, List.map aD out6)] hO rfl (by kernel_rfl) ?_
      intro H hO
      refine pQ 1 lo8 1 0 (eI t5) (eI x11.2) [(eI t5)] [(lo7, 1, [(.sl true 0 (fun _ => .bad))]), (lo8, 1, [(eI x11.2)]), (lo9, 1, [(.msl 3 lo10 0 (List.length out6))]), (lo10, 3, List.map aD out6)] hO rfl (by kernel_rfl) ?_
      intro H hO
      refine cZ ?_
      refine RJ 0 lo7 1 (.sl true 0 (fun _ => .bad)) (eL aD ([])) [(lo7, 1, [(eL aD ([]))]), (lo8, 1, [(eI x11.2)]), (lo9, 1, [(.msl 3 lo10 0 (List.length out6))]), (lo10, 3, List.map aD out6)] hO (by kernel_rfl) (by kernel_rfl) gN (by kernel_rfl) ?_
      intro H hO
      refine bD [(4, (.lp lo7 0 0)), (5, (.lp lo8 0 0)), (6, (.lp lo9 0 0))] ?_
      refine bI ?_
      refine dY [(4, (.lp lo7 0 0)), (5, (.lp lo8 0 0)), (6, (.lp lo9 0 0))] ?_
      obtain rfl := oI h1
      exact aJ (aP (bM (⟨(nW hO hE ho1 .dead).1, rfl, _, ⟨lo10, rfl⟩, (nW hO hE ho1 _).2⟩)))
    refine bH ?_
    refine bD [(4, (.lp lo7 0 0)), (5, (.lp lo8 0 0)), (6, (.lp lo9 0 0)), (7, (eL aG t14)), (9, (eL aE x11.1))] ?_
    refine aO ?_
    refine aW aH 5 ?_
    refine AS 2 lo9 1 0 (.msl 3 lo10 0 (List.length out6)) (.msl 3 lo10 0 (List.length out6)) [(.msl 3 lo10 0 (List.length out6))] hO rfl ?_
    refine bS 3 ?_
    obtain ⟨x15, hx16, h1⟩ := aY h1
    refine UA (L' := fun lo17 => [(lo7, 1, [(eL aD t4)]), (lo8, 1, [(eI t5)]), (lo9, 1, [(.msl 3 lo10 0 (List.length out6))]), (lo17, 3, List.map aD x15)]) 3 lo10 3 (List.map aD out6) (List.map aD x15) 78 [(.msl 3 lo10 0 (List.length out6)), (eL aG t14), (eL aE x11.1)] (fun lo17 => (.msl 3 lo17 0 (List.length x15))) (by kernel_rfl) (by kernel_rfl) (VQ lo10 out6 t14 x11.1 _ hx16) hO (by kernel_rfl) (fun _ => by kernel_rfl) ?_
    intro lo17 H hO
    refine pQ 2 lo9 1 0 (.msl 3 lo10 0 (List.length out6)) (.msl 3 lo17 0 (List.length x15)) [(.msl 3 lo10 0 (List.length out6))] [(lo7, 1, [(eL aD t4)]), (lo8, 1, [(eI t5)]), (lo9, 1, [(.msl 3 lo17 0 (List.length x15))]), (lo17, 3, List.map aD x15)] hO rfl (by kernel_rfl) ?_
    intro H hO
    refine cZ ?_
    refine bQ [7, 9] [] ?_
    refine aO ?_
    refine aW aH 3 ?_
    refine AS 2 lo9 1 0 (.msl 3 lo17 0 (List.length x15)) (.msl 3 lo17 0 (List.length x15)) [(.msl 3 lo17 0 (List.length x15))] hO rfl ?_
    refine bC ?_
    refine bQ [] [(31, (aK (decide ((4096 : Int) < (lN x15)))))] ?_
    refine bE h1 (fun h1 => ?_) (fun h1 => ?_)
    · refine aO ?_
      refine aW aH 2 ?_
      refine pQ 0 lo7 1 0 (eL aD t4) (.sl true 0 (fun _ => .bad)) [(eL aD t4)] [(lo7, 1, [(.sl true 0 (fun _ => .bad))]), (lo8, 1, [(eI t5)]), (lo9, 1, [(.msl 3 lo17 0 (List.length x15))]), (lo17, 3, List.map aD x15)] hO rfl (by kernel_rfl) ?_
      intro H hO
      refine pQ 1 lo8 1 0 (eI t5) (eI (7 : Int)) [(eI t5)] [(lo7, 1, [(.sl true 0 (fun _ => .bad))]), (lo8, 1, [(eI (7 : Int))]), (lo9, 1, [(.msl 3 lo17 0 (List.length x15))]), (lo17, 3, List.map aD x15)] hO rfl (by kernel_rfl) ?_
      intro H hO
      refine cZ ?_
      refine RJ 0 lo7 1 (.sl true 0 (fun _ => .bad)) (eL aD ([])) [(lo7, 1, [(eL aD ([]))]), (lo8, 1, [(eI (7 : Int))]), (lo9, 1, [(.msl 3 lo17 0 (List.length x15))]), (lo17, 3, List.map aD x15)] hO (by kernel_rfl) (by kernel_rfl) gN (by kernel_rfl) ?_
      intro H hO
      refine bD [(4, (.lp lo7 0 0)), (5, (.lp lo8 0 0)), (6, (.lp lo9 0 0))] ?_
      refine bI ?_
      refine dY [(4, (.lp lo7 0 0)), (5, (.lp lo8 0 0)), (6, (.lp lo9 0 0))] ?_
      obtain rfl := oI h1
      exact aJ (bM (⟨(nW hO hE ho1 .dead).1, rfl, _, ⟨lo17, rfl⟩, (nW hO hE ho1 _).2⟩))
    refine bH ?_
    refine dY [(4, (.lp lo7 0 0)), (5, (.lp lo8 0 0)), (6, (.lp lo9 0 0))] ?_
    obtain rfl := oI h1
    exact aJ (aU (⟨(nW hO hE ho1 .dead).1, rfl, _, ⟨lo17, rfl⟩, (nW hO hE ho1 _).2⟩))
  · intro b lD lL H' G' hi hO
    rcases o0 with s | s
    · dsimp only [Sum.elim_inl] at hi
      obtain ⟨lo10, rfl⟩ := hi
      replace h0 : (some (s.2.2, (0 : Int))) = some r := h0
      obtain ⟨hlL, hO⟩ := AK hO
      refine ⟨_, _, hlL, (by intro e; cases e), ?_⟩
      refine dY [(4, (.lp lo7 0 0)), (5, (.lp lo8 0 0)), (6, (.lp lo9 0 0))] ?_
      refine aJ (aU (aI (?_)))
      refine aO ?_
      refine UX (e := aD) s.2.2 2 3 1 3 lo9 lo10 (List.length s.2.2) [(lo7, 1, [(eL aD s.1)]), (lo8, 1, [(eI s.2.1)]), (lo9, 1, [(eL aD s.2.2)])] hO (by kernel_rfl) (by kernel_rfl) (by kernel_rfl) (.inr (by decide)) (by kernel_rfl) ?_
      intro H hO
      refine aW aH 3 ?_
      refine AS 2 lo9 1 0 (eL aD s.2.2) (eL aD s.2.2) [(eL aD s.2.2)] hO rfl ?_
      refine pQ 0 lo7 1 0 (eL aD s.1) (eL aD s.2.2) [(eL aD s.1)] [(lo7, 1, [(eL aD s.2.2)]), (lo8, 1, [(eI s.2.1)]), (lo9, 1, [(eL aD s.2.2)])] hO rfl (by kernel_rfl) ?_
      intro H hO
      refine pQ 1 lo8 1 0 (eI s.2.1) (eI (0 : Int)) [(eI s.2.1)] [(lo7, 1, [(eL aD s.2.2)]), (lo8, 1, [(eI (0 : Int))]), (lo9, 1, [(eL aD s.2.2)])] hO rfl (by kernel_rfl) ?_
      intro H hO
      refine cZ ?_
      replace hO := hO.pick (L' := [(lo7, 1, [(eL aD s.2.2)]), (lo8, 1, [(eI (0 : Int))])]) [0, 1] (by decide) (by kernel_rfl)
      refine bQ [6] [] ?_
      refine bI ?_
      obtain rfl := oI h0
      have hD := (hO.gm 0 _ rfl).2
      replace hO := (hO.FG .dead).DN
      exact aJ (QM1 (.inr rfl) hD (rs := [.cell 4 22, .cell 5 25]) (xs := [(eL aD s.2.2), (eI (0 : Int))]) (x := (.tup [(eL aD s.2.2), (eI (0 : Int))])) (by kernel_rfl) (yF (lo := lo7) (k := 1) (y := (eL aD s.2.2)) (x := (eL aD s.2.2)) 0 hO (by kernel_rfl) (by kernel_rfl) (by kernel_rfl) (by kernel_rfl) (yF (lo := lo8) (k := 1) (y := (eI (0 : Int))) (x := (eI (0 : Int))) 1 hO (by kernel_rfl) (by kernel_rfl) (by kernel_rfl) (by kernel_rfl) GU)) (by kernel_rfl) ⟨rfl, hO.out⟩)
    · dsimp only [Sum.elim_inr] at hi
      obtain ⟨lo10, rfl⟩ := hi
      replace h0 : (some (s.1, s.2.1)) = some r := h0
      obtain ⟨hlL, hO⟩ := AK hO
      refine ⟨_, _, hlL, (by intro e; cases e), ?_⟩
      refine bI ?_
      replace hO := hO.pick (L' := [(lo7, 1, [(eL aD s.1)]), (lo8, 1, [(eI s.2.1)])]) [0, 1] (by decide) (by kernel_rfl)
      obtain rfl := oI h0
      have hD := (hO.gm 0 _ rfl).2
      replace hO := (hO.FG .dead).DN
      exact aJ (bM (aP (QM1 (.inr rfl) hD (rs := [.cell 4 22, .cell 5 25]) (xs := [(eL aD s.1), (eI s.2.1)]) (x := (.tup [(eL aD s.1), (eI s.2.1)])) (by kernel_rfl) (yF (lo := lo7) (k := 1) (y := (eL aD s.1)) (x := (eL aD s.1)) 0 hO (by kernel_rfl) (by kernel_rfl) (by kernel_rfl) (by kernel_rfl) (yF (lo := lo8) (k := 1) (y := (eI s.2.1)) (x := (eI s.2.1)) 1 hO (by kernel_rfl) (by kernel_rfl) (by kernel_rfl) (by kernel_rfl) GU)) (by kernel_rfl) ⟨rfl, hO.out⟩)))

theorem tN (s0 : (List aB)) (f1_f : Nat) (f1_a f1_c : List V) (f1 : aB → Option Bool) (f1_h : ∀ a0 r, f1 a0 = some r → bV Try.prog f1_f (f1_a ++ [(aE a0)] ++ f1_c) (aK r)) (r : Int) (h0 : fF s0 f1 = some r) : bV Try.prog 116 [(eL aE s0), (.fn (.func f1_f) f1_a f1_c)] (eI r) := by
  intro H0
  refine cC Try.func116 ?_
  have hO := aL.start H0
  unfold fF at h0
  refine aT aH 1 [] [] ?_
  refine cE (fun T H => Has T [] ∧ aL ⟨H0, [], []⟩ H [] ∧ dG f1  = some r) ?_ ?_
  · clear hO h0
    rintro T H ⟨hT, hO, h0⟩
    refine aZ hT ?_
    clear hT
    unfold dG at h0
    refine bN aH 1 [(4, (eI (-1 : Int)))] ?_
    refine bI ?_
    obtain rfl := oI h0
    exact aJ (Q_r hO)
  refine aT aH 3 [] [(7, (eI (lN s0))), (8, (eI (0 : Int)))] ?_
  refine bP 0 ?_
  refine cO [(0, (eL aE s0)), (1, (.fn (.func f1_f) f1_a f1_c)), (7, (eI (lN s0))), (8, (eI (0 : Int)))] ?_
  refine cF (fun T H => ∃ t7 : Int, ∃ t8 : Int, Has T [(0, (eL aE s0)), (1, (.fn (.func f1_f) f1_a f1_c)), (7, (eI t7)), (8, (eI t8))] ∧ aL ⟨H0, [], []⟩ H [] ∧ eY f1 s0 t7 t8 = some r) ?_ ⟨(lN s0), (0 : Int), .eq (by kernel_rfl), hO, h0⟩
  clear hO h0
  rintro T H ⟨t7, t8, hT, hO, h0⟩
  refine aZ hT ?_
  clear hT
  unfold eY at h0
  obtain ⟨rr0, hl0, h0⟩ := aY h0
  refine bW (by kernel_rfl) (fun (s : Int) T H => Has T [(0, (eL aE s0)), (1, (.fn (.func f1_f) f1_a f1_c)), (7, (eI t7)), (8, (eI s))] ∧ aL ⟨H0, [], []⟩ H []) hl0 ⟨.eq (by kernel_rfl), hO⟩ ?_
  clear hO
  rintro k0 s out1 T H ⟨hT, hO⟩ h1 ho0
  obtain ⟨t8, rfl⟩ : ∃ x, x = s := ⟨_, rfl⟩
  replace h1 : eZ f1 s0 t7 t8 = some out1 := h1
  refine aZ hT ?_
  clear hT
  unfold eZ at h1
  refine aT aH 1 [] [(9, (aK (decide (t8 < t7))))] ?_
  refine aO ?_
  refine bE h1 (fun h1 => ?_) (fun h1 => ?_)
  · refine bH ?_
    refine bD [(0, (eL aE s0)), (1, (.fn (.func f1_f) f1_a f1_c)), (7, (eI t7)), (8, (eI t8))] ?_
    refine aO ?_
    refine bP 1 ?_
    refine aT aH 2 [] [(5, (eI t8))] ?_
    refine aO ?_
    refine aW aH 6 ?_
    obtain ⟨c2, h1⟩ := bA h1
    refine nH 5 [0 ≤ t8 ∧ t8 < (lN s0)] ⟨c2, trivial⟩ ?_
    obtain ⟨x3, hx4, h1⟩ := aY h1
    refine cJ (f1_h (gD s0 t8) _ hx4) hO ?_
    intro H hO
    refine cZ ?_
    refine bQ [] [(16, (aK x3))] ?_
    refine bE h1 (fun h1 => ?_) (fun h1 => ?_)
    · refine bN aH 2 [(4, (eI t8))] ?_
      refine bI ?_
      obtain rfl := oI h1
      obtain rfl : _ = rr0 := ho0
      replace h0 : some t8 = some r := h0
      obtain rfl := oI h0
      exact aJ (bM (aP (aP (bM (aP (Q_r hO))))))
    refine bH ?_
    refine dY [(0, (eL aE s0)), (1, (.fn (.func f1_f) f1_a f1_c)), (7, (eI t7)), (8, (eI t8))] ?_
    refine aJ (aU (aI (?_)))
    refine aW aH 2 ?_
    refine bC ?_
    exact aJ (aI (⟨rfl, _, (oI h1).symm, .eq (by kernel_rfl), hO⟩))
  refine cS 0 ?_
  obtain rfl := oI h1
  obtain rfl : _ = rr0 := ho0
  replace h0 : dG f1  = some r := h0
  exact aJ (aS (aS (bL (aI (⟨rfl, .eq (by kernel_rfl), hO, h0⟩)))))

theorem lT (s0 : (List aB)) (f1_f : Nat) (f1_a f1_c : List V) (f1 : aB → Option Bool) (f1_h : ∀ a0 r, f1 a0 = some r → bV Try.prog f1_f (f1_a ++ [(aE a0)] ++ f1_c) (aK r)) (r : Bool) (h0 : cM s0 f1 = some r) : bV Try.prog 96 [(eL aE s0), (.fn (.func f1_f) f1_a f1_c)] (aK r) := by
  intro H0
  refine cC Try.func96 ?_
  have hO := aL.start H0
  unfold cM at h0
  refine aT aH 1 [] [] ?_
  refine aO ?_
  refine aW aH 5 ?_
  refine bS 2 ?_
  obtain ⟨x1, hx2, h0⟩ := aY h0
  refine cJ (tN s0 f1_f f1_a f1_c f1 f1_h _ hx2) hO ?_
  intro H hO
  refine bC ?_
  refine bD [(4, (aK (decide ((0 : Int) ≤ x1))))] ?_
  refine bI ?_
  obtain rfl := oI h0
  exact aJ (Q_r hO)

theorem NG (j0 : aB) (r : Bool) (h0 : rX j0 = some r) : bV Try.prog 97 [(aE j0)] (aK r) := by
  intro H0
  refine cC Try.func97 ?_
  have hO := aL.start H0
  unfold rX at h0
  refine aO ?_
  refine aW aH 2 ?_
  refine jW 2 (aE j0) (by kernel_rfl) (by kernel_rfl) ?_
  refine bC ?_
  refine bD [(1, (.rp (aE j0)))] ?_
  refine aO ?_
  refine aW aH 5 ?_
  refine bS 2 ?_
  obtain ⟨x1, hx2, h0⟩ := aY h0
  refine cJ (HM j0.Net _ hx2) hO ?_
  intro H hO
  refine bC ?_
  refine bD [(2, (aK (!x1)))] ?_
  refine bI ?_
  obtain rfl := oI h0
  exact aJ (Q_r hO)

theorem NN (j0 : aB) (r : Bool) (h0 : rV j0 = some r) : bV Try.prog 98 [(aE j0)] (aK r) := by
  intro H0
  refine cC Try.func98 ?_
  have hO := aL.start H0
  unfold rV at h0
  refine aO ?_
  refine aW aH 2 ?_
  refine jW 2 (aE j0) (by kernel_rfl) (by kernel_rfl) ?_
  refine bC ?_
  refine bD [(1, (.rp (aE j0)))] ?_
  refine bN aH 9 [(2, (aK ((decide (j0.At < (-1 : Int))) || (decide ((1125899906842624 : Int) < j0.At)))))] ?_
  refine bI ?_
  obtain rfl := oI h0
  exact aJ (Q_r hO)

theorem wH (s0 : (List aB)) (r : (List aB)) (h0 : eK s0 = some r) : AH Try.prog 99 [(eL aE s0)] (fun lo => (.msl 2 lo 0 (List.length r))) 2 (List.map aE r) := by
  intro H0
  refine cC Try.func99 ?_
  have hO := aL.start H0
  unfold eK at h0
  refine aT aH 1 [] [] ?_
  refine aO ?_
  refine aO ?_
  refine aW aH 2 ?_
  refine bS 1 ?_
  refine aAb false (List.length s0) (fun i => aE (List.getD s0 i default)) (by kernel_rfl) (by kernel_rfl) ?_
  intro b1 hn2
  refine cZ ?_
  refine bQ [] [(4, (aK b1))] ?_
  refine nF (b1) (fun hc3 => ?_) (fun hc3 => ?_)
  · replace h0 : some ([] : List aB) = some r := by
      have hl := List.eq_nil_of_length_eq_zero (hn2 hc3)
      rw [hl] at h0
      exact (bA h0).2
    refine bN aH 1 [(2, (.sl true 0 (fun _ => .bad)))] ?_
    refine bI ?_
    refine dY [(2, (.sl true 0 (fun _ => .bad)))] ?_
    refine YB (el := (fun _ => .bad)) 0 2 2 hO (by kernel_rfl) ?_
    intro lo4 H5 hO
    obtain rfl := oI h0
    exact aJ (aP (pM (x := (.msl 2 lo4 0 (List.length ([] : List aB)))) (by kernel_rfl) (aR.refl _) ⟨lo4, rfl, hO⟩))
  · refine bH ?_
    refine bD [(0, (eL aE s0))] ?_
    refine aO ?_
    refine aW aH 4 ?_
    refine mS (xs := []) (k := 2) (by kernel_rfl) (by kernel_rfl) ?_
    refine bS 2 ?_
    obtain ⟨c7, h0⟩ := bA h0
    refine LN (e := aE) s0 (fun _ => .bad) 2 16 (eL aE s0) (fun lo6 => [(lo6, 2, List.map aE s0)]) (by kernel_rfl) (by kernel_rfl) hO (HC (fun _ => by kernel_rfl)) c7 (fun _ => by kernel_rfl) ?_
    intro lo6 H hO
    refine bC ?_
    refine bD [(2, (.msl 2 lo6 0 (List.length s0)))] ?_
    refine bI ?_
    obtain rfl := oI h0
    exact aJ (pM (x := (.msl 2 lo6 0 (List.length s0))) (by kernel_rfl) (aR.refl _) ⟨lo6, rfl, hO⟩)

theorem mH (lo0p : Nat) (aA : (List aB)) (a1 : Int) (b2 : Int) (cmp3_f : Nat) (cmp3_a cmp3_c : List V) (cmp3 : aB → aB → Option Int) (cmp3_h : ∀ a0 a1 r, cmp3 a0 a1 = some r → bV Try.prog cmp3_f (cmp3_a ++ [(aE a0), (aE a1)] ++ cmp3_c) (eI r)) (r : List aB) (h0 : dF aA a1 b2 cmp3 = some r) : kJ Try.prog 121 lo0p 2 (List.map aE aA) (List.map aE r) [(.msl 2 lo0p 0 (List.length aA)), (eI a1), (eI b2), (.fn (.func cmp3_f) cmp3_a cmp3_c)] (.tup []) := by
  intro H0 hl0
  refine cC Try.func121 ?_
  have hO := aL.oF hl0
  clear hl0
  obtain ⟨N0, hN0⟩ : ∃ n, n = List.length aA := ⟨_, rfl⟩
  have hN : List.length aA = N0 := hN0.symm
  unfold dF at h0
  refine aT aH 3 [] [(8, (eI (wR (a1 + (1 : Int)))))] ?_
  refine bP 0 ?_
  refine cO [(0, (.msl 2 lo0p 0 (List.length aA))), (1, (eI a1)), (2, (eI b2)), (3, (.fn (.func cmp3_f) cmp3_a cmp3_c)), (8, (eI (wR (a1 + (1 : Int)))))] ?_
  refine cF (fun T H => ∃ aA : List aB, ∃ i8 : Int, Has T [(0, (.msl 2 lo0p 0 (List.length aA))), (1, (eI a1)), (2, (eI b2)), (3, (.fn (.func cmp3_f) cmp3_a cmp3_c)), (8, (eI i8))] ∧ aL ⟨H0, [lo0p], []⟩ H [(lo0p, 2, List.map aE aA)] ∧ List.length aA = N0 ∧ iN cmp3 aA a1 b2 i8 = some r) ?_ ⟨aA, wR (a1 + (1 : Int)), .eq (by kernel_rfl), hO, hN, h0⟩
  clear hO hN h0
  rintro T H ⟨aA, i8, hT, hO, hN, h0⟩
  refine aZ hT ?_
  clear hT
  unfold iN at h0
  obtain ⟨rr0, hl0, h0⟩ := aY h0
  refine bW (by kernel_rfl) (fun (s : List aB × Int) T H => Has T [(0, (.msl 2 lo0p 0 (List.length s.1))), (1, (eI a1)), (2, (eI b2)), (3, (.fn (.func cmp3_f) cmp3_a cmp3_c)), (8, (eI s.2))] ∧ aL ⟨H0, [lo0p], []⟩ H [(lo0p, 2, List.map aE s.1)] ∧ List.length s.1 = N0) hl0 ⟨.eq (by kernel_rfl), hO, hN⟩ ?_
  clear hO hN
  rintro k0 s out1 T H ⟨hT, hO, hN⟩ h1 ho0
  obtain ⟨aA, i8⟩ := s
  replace h1 : iI cmp3 a1 b2 aA i8 = some out1 := h1
  dsimp only at hT
  refine aZ hT ?_
  clear hT
  unfold iI at h1
  refine aO ?_
  refine aT aH 3 [] [(14, (aK (decide (i8 < b2))))] ?_
  refine bE h1 (fun h1 => ?_) (fun h1 => ?_)
  · refine bH ?_
    refine bD [(0, (.msl 2 lo0p 0 (List.length aA))), (1, (eI a1)), (2, (eI b2)), (3, (.fn (.func cmp3_f) cmp3_a cmp3_c)), (8, (eI i8))] ?_
    refine cE (fun T H => ∃ aA : List aB, Has T [(0, (.msl 2 lo0p 0 (List.length aA))), (1, (eI a1)), (2, (eI b2)), (3, (.fn (.func cmp3_f) cmp3_a cmp3_c)), (8, (eI i8))] ∧ aL ⟨H0, [lo0p], []⟩ H [(lo0p, 2, List.map aE aA)] ∧ List.length aA = N0 ∧ eF cmp3 aA a1 b2 i8 = some out1) ?_ ?_
    · clear hO hN h1
      rintro T H ⟨aA, hT, hO, hN, h1⟩
      refine aZ hT ?_
      clear hT
      unfold eF at h1
      refine aW aH 3 ?_
      refine bC ?_
      exact aJ (aI (⟨rfl, _, (oI h1).symm, .eq (by kernel_rfl), hO, hN⟩))
    refine bP 1 ?_
    refine aT aH 2 [] [(9, (eI i8))] ?_
    refine bP 2 ?_
    refine cO [(0, (.msl 2 lo0p 0 (List.length aA))), (1, (eI a1)), (2, (eI b2)), (3, (.fn (.func cmp3_f) cmp3_a cmp3_c)), (8, (eI i8)), (9, (eI i8))] ?_
    refine cF (fun T H => ∃ aA : List aB, ∃ j9 : Int, Has T [(0, (.msl 2 lo0p 0 (List.length aA))), (1, (eI a1)), (2, (eI b2)), (3, (.fn (.func cmp3_f) cmp3_a cmp3_c)), (8, (eI i8)), (9, (eI j9))] ∧ aL ⟨H0, [lo0p], []⟩ H [(lo0p, 2, List.map aE aA)] ∧ List.length aA = N0 ∧ iO cmp3 aA a1 b2 i8 j9 = some out1) ?_ ⟨aA, i8, .eq (by kernel_rfl), hO, hN, h1⟩
    clear hO hN h1
    rintro T H ⟨aA, j9, hT, hO, hN, h1⟩
    refine aZ hT ?_
    clear hT
    unfold iO at h1
    obtain ⟨rr1, hl1, h1⟩ := aY h1
    refine bW (by kernel_rfl) (fun (s : List aB × Int) T H => Has T [(0, (.msl 2 lo0p 0 (List.length s.1))), (1, (eI a1)), (2, (eI b2)), (3, (.fn (.func cmp3_f) cmp3_a cmp3_c)), (8, (eI i8)), (9, (eI s.2))] ∧ aL ⟨H0, [lo0p], []⟩ H [(lo0p, 2, List.map aE s.1)] ∧ List.length s.1 = N0) hl1 ⟨.eq (by kernel_rfl), hO, hN⟩ ?_
    clear hO hN
    rintro k1 s out2 T H ⟨hT, hO, hN⟩ h2 ho1
    obtain ⟨aA, j9⟩ := s
    replace h2 : iH cmp3 a1 b2 i8 aA j9 = some out2 := h2
    dsimp only at hT
    refine aZ hT ?_
    clear hT
    unfold iH at h2
    refine aO ?_
    refine aO ?_
    obtain ⟨c2, h2⟩ := bA h2
    obtain ⟨c3, h2⟩ := bA h2
    obtain ⟨x4, hx5, h2⟩ := aY h2
    refine fD (fH []) aH 17 ?_
    refine vE (K := fun T H => Has (lift T) [(0, (.msl 2 lo0p 0 (List.length aA))), (1, (eI a1)), (2, (eI b2)), (3, (.fn (.func cmp3_f) cmp3_a cmp3_c)), (8, (eI i8)), (9, (eI j9)), (34, (aK ((decide (a1 < j9)) && (decide (x4 < (0 : Int))))))] ∧ aL ⟨H0, [lo0p], []⟩ H [(lo0p, 2, List.map aE aA)]) ?_ ?_
    · refine oT 4 ?_
      refine qO (t := 21) (e := decide (a1 < j9)) (by kernel_rfl) (fun hg6 => ?_) (fun hg6 => ?_)
      · refine cN 8 [0 ≤ j9 ∧ j9 < (lN aA)] ⟨(c2 hg6), trivial⟩ ?_
        refine wO 0 lo0p 2 (0 + Int.toNat j9) (aE (gD aA j9)) (aE (gD aA j9)) (List.map aE aA) (by kernel_rfl) (by kernel_rfl) (by kernel_rfl) hO (by kernel_rfl) (cK (c2 hg6)) ?_
        refine cN 13 [0 ≤ (wR (j9 - (1 : Int))) ∧ (wR (j9 - (1 : Int))) < (lN aA)] ⟨(c3 hg6), trivial⟩ ?_
        refine wO 0 lo0p 2 (0 + Int.toNat (wR (j9 - (1 : Int)))) (aE (gD aA (wR (j9 - (1 : Int))))) (aE (gD aA (wR (j9 - (1 : Int))))) (List.map aE aA) (by kernel_rfl) (by kernel_rfl) (by kernel_rfl) hO (by kernel_rfl) (cK (c3 hg6)) ?_
        refine yL cmp3_f (cmp3_a ++ [(aE (gD aA j9)), (aE (gD aA (wR (j9 - (1 : Int)))))] ++ cmp3_c) (eI x4) (by kernel_rfl) (by kernel_rfl) (cmp3_h (gD aA j9) (gD aA (wR (j9 - (1 : Int)))) _ (nI hx5 hg6)) hO ?_
        intro H hO
        refine iU ?_
        exact ⟨⟨[(0, (.msl 2 lo0p 0 (List.length aA))), (1, (eI a1)), (2, (eI b2)), (3, (.fn (.func cmp3_f) cmp3_a cmp3_c)), (8, (eI i8)), (9, (eI j9)), (34, (aK (decide (x4 < (0 : Int)))))], by kernel_rfl, rfl, ⟨aR.refl _, aR.refl _, aR.refl _, aR.refl _, aR.refl _, aR.refl _, aR.eq (congrArg aK (qA hg6 rfl).symm), trivial⟩⟩, hO⟩
      refine iU ?_
      exact ⟨⟨[(0, (.msl 2 lo0p 0 (List.length aA))), (1, (eI a1)), (2, (eI b2)), (3, (.fn (.func cmp3_f) cmp3_a cmp3_c)), (8, (eI i8)), (9, (eI j9)), (34, (aK false))], by kernel_rfl, rfl, ⟨aR.refl _, aR.refl _, aR.refl _, aR.refl _, aR.refl _, aR.refl _, aR.eq (congrArg aK (qA hg6 rfl).symm), trivial⟩⟩, hO⟩
    · rintro T H ⟨hT, hO⟩
      refine cG hT ?_
      clear hT
      refine aJ (aI ?_)
      refine bE h2 (fun h2 => ?_) (fun h2 => ?_)
      · refine bH ?_
        refine bD [(0, (.msl 2 lo0p 0 (List.length aA))), (1, (eI a1)), (2, (eI b2)), (3, (.fn (.func cmp3_f) cmp3_a cmp3_c)), (8, (eI i8)), (9, (eI j9))] ?_
        refine aO ?_
        refine bP 3 ?_
        refine fD (fH []) aH 18 ?_
        obtain ⟨c8, h2⟩ := bA h2
        refine cN 9 [0 ≤ (wR (j9 - (1 : Int))) ∧ (wR (j9 - (1 : Int))) < (lN aA)] ⟨c8, trivial⟩ ?_
        refine kS 0 lo0p 2 (0 + Int.toNat (wR (j9 - (1 : Int)))) (aE (gD aA (wR (j9 - (1 : Int))))) (aE (gD aA (wR (j9 - (1 : Int))))) (List.map aE aA) hO (cK c8) ?_
        obtain ⟨c9, h2⟩ := bA h2
        refine cN 13 [0 ≤ j9 ∧ j9 < (lN aA)] ⟨c9, trivial⟩ ?_
        refine kS 0 lo0p 2 (0 + Int.toNat j9) (aE (gD aA j9)) (aE (gD aA j9)) (List.map aE aA) hO (cK c9) ?_
        obtain ⟨c10, h2⟩ := bA h2
        refine cN 15 [0 ≤ j9 ∧ j9 < (lN aA)] ⟨c10, trivial⟩ ?_
        refine tT 0 lo0p 2 (0 + Int.toNat j9) (aE (gD aA j9)) (aE (gD aA (wR (j9 - (1 : Int))))) (List.map aE aA) [(lo0p, 2, List.map aE (List.set aA (Int.toNat j9) (gD aA (wR (j9 - (1 : Int))))))] hO (cK c10) (by simp only [List.set, nJ]) ?_
        intro H hO
        replace hN : List.length (List.set aA (Int.toNat j9) (gD aA (wR (j9 - (1 : Int))))) = N0 := by simpa using hN
        obtain ⟨c11, h2⟩ := bA h2
        refine cN 17 [0 ≤ (wR (j9 - (1 : Int))) ∧ (wR (j9 - (1 : Int))) < (lN aA)] ⟨c11, trivial⟩ ?_
        refine tT 0 lo0p 2 (0 + Int.toNat (wR (j9 - (1 : Int)))) (aE (gD (List.set aA (Int.toNat j9) (gD aA (wR (j9 - (1 : Int))))) (wR (j9 - (1 : Int))))) (aE (gD aA j9)) (List.map aE (List.set aA (Int.toNat j9) (gD aA (wR (j9 - (1 : Int)))))) [(lo0p, 2, List.map aE (List.set (List.set aA (Int.toNat j9) (gD aA (wR (j9 - (1 : Int))))) (Int.toNat (wR (j9 - (1 : Int)))) (gD aA j9)))] hO (wJ c11 (by simp [])) (by simp only [List.set, nJ]) ?_
        intro H hO
        replace hN : List.length (List.set (List.set aA (Int.toNat j9) (gD aA (wR (j9 - (1 : Int))))) (Int.toNat (wR (j9 - (1 : Int)))) (gD aA j9)) = N0 := by simpa using hN
        refine zV (by kernel_rfl) ?_
        refine cG (l := [(0, (.msl 2 lo0p 0 (List.length (List.set (List.set aA (Int.toNat j9) (gD aA (wR (j9 - (1 : Int))))) (Int.toNat (wR (j9 - (1 : Int)))) (gD aA j9))))), (1, (eI a1)), (2, (eI b2)), (3, (.fn (.func cmp3_f) cmp3_a cmp3_c)), (8, (eI i8)), (9, (eI j9))]) ⟨[(0, (.msl 2 lo0p 0 (List.length aA))), (1, (eI a1)), (2, (eI b2)), (3, (.fn (.func cmp3_f) cmp3_a cmp3_c)), (8, (eI i8)), (9, (eI j9))], by kernel_rfl, rfl, ⟨aR.eq (by simp []), aR.refl _, aR.refl _, aR.refl _, aR.refl _, aR.refl _, trivial⟩⟩ ?_
        refine aJ (aU (aI (?_)))
        refine aW aH 3 ?_
        refine bC ?_
        exact aJ (aI (⟨rfl, _, (oI h2).symm, .eq (by kernel_rfl), hO, hN⟩))
      refine cS 2 ?_
      obtain rfl := oI h2
      obtain rfl : _ = rr1 := ho1
      replace h1 : eF cmp3 aA a1 b2 i8 = some out1 := h1
      exact aJ (aS (aS (bL (aU (aI (⟨rfl, _, .eq (by kernel_rfl), hO, hN, h1⟩))))))
  refine cS 0 ?_
  obtain rfl := oI h1
  obtain rfl : _ = rr0 := ho0
  replace h0 : some aA = some r := h0
  obtain rfl := oI h0
  exact aJ (aS (aS (bL (qZ (x := (.tup [])) (by kernel_rfl) (aR.refl _) ⟨rfl, hO.ext, hO.at 0 (by kernel_rfl), by simp only [List.length_map]; exact hN.trans hN0⟩))))

theorem kC (lo0p : Nat) (aA : (List aB)) (a1 : Int) (b2 : Int) (n3 : Int) (cmp4_f : Nat) (cmp4_a cmp4_c : List V) (cmp4 : aB → aB → Option Int) (cmp4_h : ∀ a0 a1 r, cmp4 a0 a1 = some r → bV Try.prog cmp4_f (cmp4_a ++ [(aE a0), (aE a1)] ++ cmp4_c) (eI r)) (r : List aB) (h0 : dX aA a1 b2 n3 cmp4 = some r) : kJ Try.prog 126 lo0p 2 (List.map aE aA) (List.map aE r) [(.msl 2 lo0p 0 (List.length aA)), (eI a1), (eI b2), (eI n3), (.fn (.func cmp4_f) cmp4_a cmp4_c)] (.tup []) := by
  intro H0 hl0
  refine cC Try.func126 ?_
  have hO := aL.oF hl0
  clear hl0
  obtain ⟨N0, hN0⟩ : ∃ n, n = List.length aA := ⟨_, rfl⟩
  have hN : List.length aA = N0 := hN0.symm
  unfold dX at h0
  refine aT aH 1 [4] [(10, (eI (0 : Int)))] ?_
  refine bP 0 ?_
  refine cO [(0, (.msl 2 lo0p 0 (List.length aA))), (1, (eI a1)), (2, (eI b2)), (3, (eI n3)), (10, (eI (0 : Int)))] ?_
  refine cF (fun T H => ∃ aA : List aB, ∃ i10 : Int, Has T [(0, (.msl 2 lo0p 0 (List.length aA))), (1, (eI a1)), (2, (eI b2)), (3, (eI n3)), (10, (eI i10))] ∧ aL ⟨H0, [lo0p], []⟩ H [(lo0p, 2, List.map aE aA)] ∧ List.length aA = N0 ∧ jR cmp4 aA a1 b2 n3 i10 = some r) ?_ ⟨aA, (0 : Int), .eq (by kernel_rfl), hO, hN, h0⟩
  clear hO hN h0
  rintro T H ⟨aA, i10, hT, hO, hN, h0⟩
  refine aZ hT ?_
  clear hT
  unfold jR at h0
  obtain ⟨rr0, hl0, h0⟩ := aY h0
  refine bW (by kernel_rfl) (fun (s : List aB × Int) T H => Has T [(0, (.msl 2 lo0p 0 (List.length s.1))), (1, (eI a1)), (2, (eI b2)), (3, (eI n3)), (10, (eI s.2))] ∧ aL ⟨H0, [lo0p], []⟩ H [(lo0p, 2, List.map aE s.1)] ∧ List.length s.1 = N0) hl0 ⟨.eq (by kernel_rfl), hO, hN⟩ ?_
  clear hO hN
  rintro k0 s out1 T H ⟨hT, hO, hN⟩ h1 ho0
  obtain ⟨aA, i10⟩ := s
  replace h1 : jT cmp4 a1 b2 n3 aA i10 = some out1 := h1
  dsimp only at hT
  refine aZ hT ?_
  clear hT
  unfold jT at h1
  refine aO ?_
  refine aT aH 3 [] [(13, (aK (decide (i10 < n3))))] ?_
  refine bE h1 (fun h1 => ?_) (fun h1 => ?_)
  · refine bH ?_
    refine bD [(0, (.msl 2 lo0p 0 (List.length aA))), (1, (eI a1)), (2, (eI b2)), (3, (eI n3)), (10, (eI i10))] ?_
    refine aO ?_
    refine bP 1 ?_
    refine fD (fH []) aH 24 ?_
    obtain ⟨c2, h1⟩ := bA h1
    refine cN 13 [0 ≤ (wR (b2 + i10)) ∧ (wR (b2 + i10)) < (lN aA)] ⟨c2, trivial⟩ ?_
    refine kS 0 lo0p 2 (0 + Int.toNat (wR (b2 + i10))) (aE (gD aA (wR (b2 + i10)))) (aE (gD aA (wR (b2 + i10)))) (List.map aE aA) hO (cK c2) ?_
    obtain ⟨c3, h1⟩ := bA h1
    refine cN 19 [0 ≤ (wR (a1 + i10)) ∧ (wR (a1 + i10)) < (lN aA)] ⟨c3, trivial⟩ ?_
    refine kS 0 lo0p 2 (0 + Int.toNat (wR (a1 + i10))) (aE (gD aA (wR (a1 + i10)))) (aE (gD aA (wR (a1 + i10)))) (List.map aE aA) hO (cK c3) ?_
    obtain ⟨c4, h1⟩ := bA h1
    refine cN 21 [0 ≤ (wR (a1 + i10)) ∧ (wR (a1 + i10)) < (lN aA)] ⟨c4, trivial⟩ ?_
    refine tT 0 lo0p 2 (0 + Int.toNat (wR (a1 + i10))) (aE (gD aA (wR (a1 + i10)))) (aE (gD aA (wR (b2 + i10)))) (List.map aE aA) [(lo0p, 2, List.map aE (List.set aA (Int.toNat (wR (a1 + i10))) (gD aA (wR (b2 + i10)))))] hO (cK c4) (by simp only [List.set, nJ]) ?_
    intro H hO
    replace hN : List.length (List.set aA (Int.toNat (wR (a1 + i10))) (gD aA (wR (b2 + i10)))) = N0 := by simpa using hN
    obtain ⟨c5, h1⟩ := bA h1
    refine cN 23 [0 ≤ (wR (b2 + i10)) ∧ (wR (b2 + i10)) < (lN aA)] ⟨c5, trivial⟩ ?_
    refine tT 0 lo0p 2 (0 + Int.toNat (wR (b2 + i10))) (aE (gD (List.set aA (Int.toNat (wR (a1 + i10))) (gD aA (wR (b2 + i10)))) (wR (b2 + i10)))) (aE (gD aA (wR (a1 + i10)))) (List.map aE (List.set aA (Int.toNat (wR (a1 + i10))) (gD aA (wR (b2 + i10))))) [(lo0p, 2, List.map aE (List.set (List.set aA (Int.toNat (wR (a1 + i10))) (gD aA (wR (b2 + i10)))) (Int.toNat (wR (b2 + i10))) (gD aA (wR (a1 + i10)))))] hO (wJ c5 (by simp [])) (by simp only [List.set, nJ]) ?_
    intro H hO
    replace hN : List.length (List.set (List.set aA (Int.toNat (wR (a1 + i10))) (gD aA (wR (b2 + i10)))) (Int.toNat (wR (b2 + i10))) (gD aA (wR (a1 + i10)))) = N0 := by simpa using hN
    refine zV (by kernel_rfl) ?_
    refine cG (l := [(0, (.msl 2 lo0p 0 (List.length (List.set (List.set aA (Int.toNat (wR (a1 + i10))) (gD aA (wR (b2 + i10)))) (Int.toNat (wR (b2 + i10))) (gD aA (wR (a1 + i10))))))), (1, (eI a1)), (2, (eI b2)), (3, (eI n3)), (10, (eI i10))]) ⟨[(0, (.msl 2 lo0p 0 (List.length aA))), (1, (eI a1)), (2, (eI b2)), (3, (eI n3)), (10, (eI i10))], by kernel_rfl, rfl, ⟨aR.eq (by simp []), aR.refl _, aR.refl _, aR.refl _, aR.refl _, trivial⟩⟩ ?_
    refine aJ (aU (aI (?_)))
    refine aW aH 3 ?_
    refine bC ?_
    exact aJ (aI (⟨rfl, _, (oI h1).symm, .eq (by kernel_rfl), hO, hN⟩))
  refine cS 0 ?_
  obtain rfl := oI h1
  obtain rfl : _ = rr0 := ho0
  replace h0 : some aA = some r := h0
  obtain rfl := oI h0
  exact aJ (aS (aS (bL (qZ (x := (.tup [])) (by kernel_rfl) (aR.refl _) ⟨rfl, hO.ext, hO.at 0 (by kernel_rfl), by simp only [List.length_map]; exact hN.trans hN0⟩))))

theorem wY (lo0p : Nat) (aA : (List aB)) (a1 : Int) (m2 : Int) (b3 : Int) (cmp4_f : Nat) (cmp4_a cmp4_c : List V) (cmp4 : aB → aB → Option Int) (cmp4_h : ∀ a0 a1 r, cmp4 a0 a1 = some r → bV Try.prog cmp4_f (cmp4_a ++ [(aE a0), (aE a1)] ++ cmp4_c) (eI r)) (r : List aB) (h0 : lB aA a1 m2 b3 cmp4 = some r) : kJ Try.prog 125 lo0p 2 (List.map aE aA) (List.map aE r) [(.msl 2 lo0p 0 (List.length aA)), (eI a1), (eI m2), (eI b3), (.fn (.func cmp4_f) cmp4_a cmp4_c)] (.tup []) := by
  intro H0 hl0
  refine cC Try.func125 ?_
  have hO := aL.oF hl0
  clear hl0
  obtain ⟨N0, hN0⟩ : ∃ n, n = List.length aA := ⟨_, rfl⟩
  have hN : List.length aA = N0 := hN0.symm
  unfold lB at h0
  refine aT aH 4 [1] [(10, (eI (wR (m2 - a1))))] ?_
  refine aT aH 4 [3] [(11, (eI (wR (b3 - m2))))] ?_
  refine cE (fun T H => ∃ aA : List aB, ∃ i10 : Int, Has T [(0, (.msl 2 lo0p 0 (List.length aA))), (2, (eI m2)), (4, (.fn (.func cmp4_f) cmp4_a cmp4_c)), (10, (eI i10))] ∧ aL ⟨H0, [lo0p], []⟩ H [(lo0p, 2, List.map aE aA)] ∧ List.length aA = N0 ∧ gR cmp4 aA m2 i10 = some r) ?_ ?_
  · clear hO hN h0
    rintro T H ⟨aA, i10, hT, hO, hN, h0⟩
    refine aZ hT ?_
    clear hT
    unfold gR at h0
    refine aW aH 8 ?_
    refine bS 7 ?_
    obtain ⟨x1, hx2, h0⟩ := aY h0
    refine nL [(lo0p, 2, List.map aE x1)] 0 (kC lo0p aA (wR (m2 - i10)) m2 i10 cmp4_f cmp4_a cmp4_c cmp4 cmp4_h _ hx2) hO ?_
    intro H hO hl3
    simp only [List.length_map] at hl3
    replace hN := hl3.trans hN
    refine cZ ?_
    refine cG (l := [(0, (.msl 2 lo0p 0 (List.length x1)))]) ⟨[(0, (.msl 2 lo0p 0 (List.length aA)))], by kernel_rfl, rfl, ⟨aR.eq (by simp [hl3]), trivial⟩⟩ ?_
    obtain rfl := oI h0
    exact aJ (qZ (x := (.tup [])) (by kernel_rfl) (aR.refl _) ⟨rfl, hO.ext, hO.at 0 (by kernel_rfl), by simp only [List.length_map]; exact hN.trans hN0⟩)
  refine bP 0 ?_
  refine cO [(0, (.msl 2 lo0p 0 (List.length aA))), (2, (eI m2)), (4, (.fn (.func cmp4_f) cmp4_a cmp4_c)), (10, (eI (wR (m2 - a1)))), (11, (eI (wR (b3 - m2))))] ?_
  refine cF (fun T H => ∃ aA : List aB, ∃ i10 : Int, ∃ j11 : Int, Has T [(0, (.msl 2 lo0p 0 (List.length aA))), (2, (eI m2)), (4, (.fn (.func cmp4_f) cmp4_a cmp4_c)), (10, (eI i10)), (11, (eI j11))] ∧ aL ⟨H0, [lo0p], []⟩ H [(lo0p, 2, List.map aE aA)] ∧ List.length aA = N0 ∧ kU cmp4 aA m2 i10 j11 = some r) ?_ ⟨aA, wR (m2 - a1), wR (b3 - m2), .eq (by kernel_rfl), hO, hN, h0⟩
  clear hO hN h0
  rintro T H ⟨aA, i10, j11, hT, hO, hN, h0⟩
  refine aZ hT ?_
  clear hT
  unfold kU at h0
  obtain ⟨rr0, hl0, h0⟩ := aY h0
  refine bW (by kernel_rfl) (fun (s : List aB × Int × Int) T H => Has T [(0, (.msl 2 lo0p 0 (List.length s.1))), (2, (eI m2)), (4, (.fn (.func cmp4_f) cmp4_a cmp4_c)), (10, (eI s.2.1)), (11, (eI s.2.2))] ∧ aL ⟨H0, [lo0p], []⟩ H [(lo0p, 2, List.map aE s.1)] ∧ List.length s.1 = N0) hl0 ⟨.eq (by kernel_rfl), hO, hN⟩ ?_
  clear hO hN
  rintro k0 s out1 T H ⟨hT, hO, hN⟩ h1 ho0
  obtain ⟨aA, i10, j11⟩ := s
  replace h1 : kR cmp4 m2 aA i10 j11 = some out1 := h1
  dsimp only at hT
  refine aZ hT ?_
  clear hT
  unfold kR at h1
  refine aO ?_
  refine aT aH 3 [] [(20, (aK (!decide (i10 = j11))))] ?_
  refine bE h1 (fun h1 => ?_) (fun h1 => ?_)
  · refine bH ?_
    refine bD [(0, (.msl 2 lo0p 0 (List.length aA))), (2, (eI m2)), (4, (.fn (.func cmp4_f) cmp4_a cmp4_c)), (10, (eI i10)), (11, (eI j11))] ?_
    refine bP 1 ?_
    refine aT aH 3 [] [(23, (aK (decide (j11 < i10))))] ?_
    refine bE h1 (fun h1 => ?_) (fun h1 => ?_)
    · refine aO ?_
      refine aW aH 8 ?_
      refine bS 7 ?_
      obtain ⟨x6, hx7, h1⟩ := aY h1
      refine nL [(lo0p, 2, List.map aE x6)] 0 (kC lo0p aA (wR (m2 - i10)) m2 j11 cmp4_f cmp4_a cmp4_c cmp4 cmp4_h _ hx7) hO ?_
      intro H hO hl8
      simp only [List.length_map] at hl8
      replace hN := hl8.trans hN
      refine cZ ?_
      refine cG (l := [(0, (.msl 2 lo0p 0 (List.length x6))), (2, (eI m2)), (4, (.fn (.func cmp4_f) cmp4_a cmp4_c)), (10, (eI i10)), (11, (eI j11))]) ⟨[(0, (.msl 2 lo0p 0 (List.length aA))), (2, (eI m2)), (4, (.fn (.func cmp4_f) cmp4_a cmp4_c)), (10, (eI i10)), (11, (eI j11))], by kernel_rfl, rfl, ⟨aR.eq (by simp [hl8]), aR.refl _, aR.refl _, aR.refl _, aR.refl _, trivial⟩⟩ ?_
      refine aJ (aI (?_))
      refine aW aH 4 ?_
      refine bC ?_
      exact aJ (aU (aI (⟨rfl, _, (oI h1).symm, .eq (by kernel_rfl), hO, hN⟩)))
    refine aO ?_
    refine aW aH 12 ?_
    refine bS 11 ?_
    obtain ⟨x9, hx10, h1⟩ := aY h1
    refine nL [(lo0p, 2, List.map aE x9)] 0 (kC lo0p aA (wR (m2 - i10)) (wR ((wR (m2 + j11)) - i10)) i10 cmp4_f cmp4_a cmp4_c cmp4 cmp4_h _ hx10) hO ?_
    intro H hO hl11
    simp only [List.length_map] at hl11
    replace hN := hl11.trans hN
    refine cZ ?_
    refine cG (l := [(0, (.msl 2 lo0p 0 (List.length x9))), (2, (eI m2)), (4, (.fn (.func cmp4_f) cmp4_a cmp4_c)), (10, (eI i10)), (11, (eI j11))]) ⟨[(0, (.msl 2 lo0p 0 (List.length aA))), (2, (eI m2)), (4, (.fn (.func cmp4_f) cmp4_a cmp4_c)), (10, (eI i10)), (11, (eI j11))], by kernel_rfl, rfl, ⟨aR.eq (by simp [hl11]), aR.refl _, aR.refl _, aR.refl _, aR.refl _, trivial⟩⟩ ?_
    refine aJ (aI (?_))
    refine aW aH 4 ?_
    refine bC ?_
    exact aJ (aU (aI (⟨rfl, _, (oI h1).symm, .eq (by kernel_rfl), hO, hN⟩)))
  refine cS 0 ?_
  obtain rfl := oI h1
  obtain rfl : _ = rr0 := ho0
  replace h0 : gR cmp4 aA m2 i10 = some r := h0
  exact aJ (aS (aS (bL (aI (⟨rfl, _, _, .eq (by kernel_rfl), hO, hN, h0⟩)))))

end Go.Abs
namespace Go.Abs
open Go Go.RowKit Go.Proofs
end Go.Abs
