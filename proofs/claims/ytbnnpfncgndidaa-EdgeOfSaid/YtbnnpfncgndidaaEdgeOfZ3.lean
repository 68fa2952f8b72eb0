/- What the law EdgeOf stands on: the framework, the given functions as plain functions, their walks, and the plain laws; part 3. -/
import Derived.Test.YtbnnpfncgndidaaEdgeOfZ2
set_option linter.unusedSimpArgs false
set_option linter.unusedVariables false
namespace Go.Abs
open Go
noncomputable def sO (f0 : (List aB)) : Option Bool :=
  cond (decide ((1024 : Int) < ((List.length f0 : Nat) : Int)))
  (some false)
  (xJ f0 (0 : Int))

noncomputable def oZ (a2 : aF) (b3 : aF) : Option Int :=
  cond (!decide (((ByteArray.size a2.Text : Nat) : Int) = ((ByteArray.size b3.Text : Nat) : Int)))
  (cond (decide (((ByteArray.size a2.Text : Nat) : Int) < ((ByteArray.size b3.Text : Nat) : Int)))
  (some (-1 : Int))
  (some (1 : Int)))
  (some (0 : Int))

noncomputable def fW (a2 : aF) (b3 : aF) (i5 : Int) : Option ((Int) ⊕ (Unit ⊕ Int)) :=
  cond ((decide (i5 < ((ByteArray.size a2.Text : Nat) : Int))) && (decide (i5 < ((ByteArray.size b3.Text : Nat) : Int))))
  (bC (0 ≤ i5 ∧ i5 < ((ByteArray.size a2.Text : Nat) : Int)) <|
  bC (0 ≤ i5 ∧ i5 < ((ByteArray.size b3.Text : Nat) : Int)) <|
  cond (!decide ((bt a2.Text i5) = (bt b3.Text i5)))
  (bC (0 ≤ i5 ∧ i5 < ((ByteArray.size a2.Text : Nat) : Int)) <|
  bC (0 ≤ i5 ∧ i5 < ((ByteArray.size b3.Text : Nat) : Int)) <|
  cond (decide ((bt a2.Text i5) < (bt b3.Text i5)))
  (some (.inr (.inr (-1 : Int))))
  (some (.inr (.inr (1 : Int)))))
  (some (.inl (IntKind.i64.wrap (i5 + (1 : Int))))))
  (some (.inr (.inl ())))

noncomputable def rG (a2 : aF) (b3 : aF) (i5 : Int) : Option Int :=
  (lp (fun s => fW a2 b3 s) i5).bind (Sum.elim (fun rr => oZ a2 b3) (fun rr => some rr))

noncomputable def pY (a0 : aF) (b1 : aF) : Option Int :=
  (qI a0).bind fun x1 =>
  (cN (!(!x1)) (qI b1)).bind fun x4 =>
  cond ((!x1) || (!x4))
  (some (0 : Int))
  (cond (!decide (a0.Kind = b1.Kind))
  (cond (decide (a0.Kind = (1 : Int)))
  (some (-1 : Int))
  (some (1 : Int)))
  (cond (!decide (a0.Num = b1.Num))
  (cond (decide (a0.Num < b1.Num))
  (some (-1 : Int))
  (some (1 : Int)))
  (rG a0 b1 (0 : Int))))

noncomputable def oY (a0 : (List aF)) (b1 : (List aF)) : Option Int :=
  cond (decide (((List.length a0 : Nat) : Int) < ((List.length b1 : Nat) : Int)))
  (some (-1 : Int))
  (cond (decide (((List.length b1 : Nat) : Int) < ((List.length a0 : Nat) : Int)))
  (some (1 : Int))
  (some (0 : Int)))

noncomputable def fU (a0 : (List aF)) (b1 : (List aF)) (i5 : Int) : Option ((Int) ⊕ (Unit ⊕ Int)) :=
  cond ((decide (i5 < ((List.length a0 : Nat) : Int))) && (decide (i5 < ((List.length b1 : Nat) : Int))))
  (bC (0 ≤ i5 ∧ i5 < ((List.length a0 : Nat) : Int)) <|
  bC (0 ≤ i5 ∧ i5 < ((List.length b1 : Nat) : Int)) <|
  (pY (List.getD a0 (Int.toNat i5) default) (List.getD b1 (Int.toNat i5) default)).bind fun x13 =>
  cond (!decide (x13 = (0 : Int)))
  (some (.inr (.inr x13)))
  (some (.inl (IntKind.i64.wrap (i5 + (1 : Int))))))
  (some (.inr (.inl ())))

noncomputable def qY (a0 : (List aF)) (b1 : (List aF)) (i5 : Int) : Option Int :=
  (lp (fun s => fU a0 b1 s) i5).bind (Sum.elim (fun rr => oY a0 b1) (fun rr => some rr))

noncomputable def qA (a0 : (List aF)) (b1 : (List aF)) : Option Int :=
  (oT a0).bind fun x1 =>
  (cN (!(!x1)) (oT b1)).bind fun x4 =>
  cond ((!x1) || (!x4))
  (some (0 : Int))
  (qY a0 b1 (0 : Int))

noncomputable def rS  : Option Bool :=
  some true

noncomputable def pP (a0 : (List aF)) (b1 : (List aF)) (i5 : Int) : Option ((Int) ⊕ (Unit ⊕ Bool)) :=
  cond (decide (i5 < ((List.length a0 : Nat) : Int)))
  (bC (0 ≤ i5 ∧ i5 < ((List.length a0 : Nat) : Int)) <|
  bC (0 ≤ i5 ∧ i5 < ((List.length b1 : Nat) : Int)) <|
  cond (!((decide (((List.getD a0 (Int.toNat i5) default).Kind) = ((List.getD b1 (Int.toNat i5) default).Kind))) && ((decide (((List.getD a0 (Int.toNat i5) default).Num) = ((List.getD b1 (Int.toNat i5) default).Num))) && ((nJ ((List.getD a0 (Int.toNat i5) default).Text) ((List.getD b1 (Int.toNat i5) default).Text)) && true))))
  (some (.inr (.inr false)))
  (some (.inl (IntKind.i64.wrap (i5 + (1 : Int))))))
  (some (.inr (.inl ())))

noncomputable def vW (a0 : (List aF)) (b1 : (List aF)) (i5 : Int) : Option Bool :=
  (lp (fun s => pP a0 b1 s) i5).bind (Sum.elim (fun rr => rS ) (fun rr => some rr))

noncomputable def pH (a0 : (List aF)) (b1 : (List aF)) : Option Bool :=
  cond (!decide (((List.length a0 : Nat) : Int) = ((List.length b1 : Nat) : Int)))
  (some false)
  (vW a0 b1 (0 : Int))

noncomputable def vV (bK : List (List aF)) : Option (List (List aF)) :=
  some bK

noncomputable def rZ (l0 : (List aC)) (bK : List (List aF)) (i4 : Int) : Option ((List (List aF) × Int) ⊕ ((List (List aF)))) :=
  some (.inl (bK, IntKind.i64.wrap (i4 + (1 : Int))))

noncomputable def sH (l0 : (List aC)) (bK : List (List aF)) (i4 : Int) (at5 : Int) : Option ((List (List aF) × Int) ⊕ ((List (List aF)))) :=
  bC ((((decide (at5 < ((List.length bK : Nat) : Int)))) = true → 0 ≤ at5 ∧ at5 < ((List.length bK : Nat) : Int))) <|
  bC ((((decide (at5 < ((List.length bK : Nat) : Int)))) = true → 0 ≤ i4 ∧ i4 < ((List.length l0 : Nat) : Int))) <|
  (cN (decide (at5 < ((List.length bK : Nat) : Int))) (pH (List.getD bK (Int.toNat at5) default) ((List.getD l0 (Int.toNat i4) default).Row))).bind fun x10 =>
  cond ((decide (at5 < ((List.length bK : Nat) : Int))) && x10)
  (rZ l0 bK i4)
  (bC (0 ≤ at5 ∧ at5 ≤ ((List.length bK : Nat) : Int)) <|
  bC (List.length (List.take (Int.toNat at5) bK) * 24 ≤ 140737488355328 ∧ List.length (List.take (Int.toNat at5) bK) ≤ 9223372036854775807) <|
  bC (0 ≤ i4 ∧ i4 < ((List.length l0 : Nat) : Int)) <|
  bC ((List.length (List.take (Int.toNat at5) bK) + List.length ([(List.getD l0 (Int.toNat i4) default).Row])) * 24 ≤ 140737488355328 ∧ List.length (List.take (Int.toNat at5) bK) + List.length ([(List.getD l0 (Int.toNat i4) default).Row]) ≤ 9223372036854775807) <|
  bC (0 ≤ at5 ∧ at5 ≤ ((List.length bK : Nat) : Int)) <|
  bC ((List.length ((List.take (Int.toNat at5) bK) ++ ([(List.getD l0 (Int.toNat i4) default).Row])) + List.length (List.drop (Int.toNat at5) bK)) * 24 ≤ 140737488355328 ∧ List.length ((List.take (Int.toNat at5) bK) ++ ([(List.getD l0 (Int.toNat i4) default).Row])) + List.length (List.drop (Int.toNat at5) bK) ≤ 9223372036854775807) <|
  rZ l0 (((List.take (Int.toNat at5) bK) ++ ([(List.getD l0 (Int.toNat i4) default).Row])) ++ (List.drop (Int.toNat at5) bK)) i4)

noncomputable def lK (l0 : (List aC)) (i4 : Int) (bK : List (List aF)) (at5 : Int) : Option ((List (List aF) × Int) ⊕ ((List (List aF) × Int))) :=
  bC ((((decide (at5 < ((List.length bK : Nat) : Int)))) = true → 0 ≤ at5 ∧ at5 < ((List.length bK : Nat) : Int))) <|
  bC ((((decide (at5 < ((List.length bK : Nat) : Int)))) = true → 0 ≤ i4 ∧ i4 < ((List.length l0 : Nat) : Int))) <|
  (cN (decide (at5 < ((List.length bK : Nat) : Int))) (qA (List.getD bK (Int.toNat at5) default) ((List.getD l0 (Int.toNat i4) default).Row))).bind fun x27 =>
  cond ((decide (at5 < ((List.length bK : Nat) : Int))) && (decide (x27 < (0 : Int))))
  (some (.inl (bK, IntKind.i64.wrap (at5 + (1 : Int)))))
  (some (.inr (bK, at5)))

noncomputable def vZ (l0 : (List aC)) (bK : List (List aF)) (i4 : Int) (at5 : Int) : Option ((List (List aF) × Int) ⊕ ((List (List aF)))) :=
  (lp (fun s => lK l0 i4 s.1 s.2) (bK, at5)).bind (fun rr => sH l0 rr.1 i4 rr.2)

noncomputable def mL (l0 : (List aC)) (bK : List (List aF)) (i4 : Int) : Option ((List (List aF) × Int) ⊕ ((List (List aF)))) :=
  cond (decide (i4 < ((List.length l0 : Nat) : Int)))
  (vZ l0 bK i4 (0 : Int))
  (some (.inr bK))

noncomputable def vU (l0 : (List aC)) (bK : List (List aF)) (i4 : Int) : Option (List (List aF)) :=
  (lp (fun s => mL l0 s.1 s.2) (bK, i4)).bind (fun rr => vV rr)

noncomputable def tY (l0 : (List aC)) : Option (List (List aF)) :=
  vU l0 ([] : List (List aF)) (0 : Int)

noncomputable def uN (f5 : List aB) : Option (List aB) :=
  some f5

noncomputable def qS (l0 : (List aC)) (r1 : (List aF)) (f5 : List aB) (i6 : Int) : Option ((List aB × Int) ⊕ ((List aB))) :=
  some (.inl (f5, IntKind.i64.wrap (i6 + (1 : Int))))

noncomputable def lU (l0 : (List aC)) (r1 : (List aF)) (f5 : List aB) (i6 : Int) : Option ((List aB × Int) ⊕ ((List aB))) :=
  cond (decide (i6 < ((List.length l0 : Nat) : Int)))
  (bC (0 ≤ i6 ∧ i6 < ((List.length l0 : Nat) : Int)) <|
  (pH ((List.getD l0 (Int.toNat i6) default).Row) r1).bind fun x8 =>
  cond x8
  (bC (0 ≤ i6 ∧ i6 < ((List.length l0 : Nat) : Int)) <|
  bC (0 ≤ i6 ∧ i6 < ((List.length l0 : Nat) : Int)) <|
  bC ((List.length f5 + List.length ([aB.mk ((List.getD l0 (Int.toNat i6) default).At) ((List.getD l0 (Int.toNat i6) default).Net)])) * 16 ≤ 140737488355328 ∧ List.length f5 + List.length ([aB.mk ((List.getD l0 (Int.toNat i6) default).At) ((List.getD l0 (Int.toNat i6) default).Net)]) ≤ 9223372036854775807) <|
  qS l0 r1 (f5 ++ ([aB.mk ((List.getD l0 (Int.toNat i6) default).At) ((List.getD l0 (Int.toNat i6) default).Net)])) i6)
  (qS l0 r1 f5 i6))
  (some (.inr f5))

noncomputable def uF (l0 : (List aC)) (r1 : (List aF)) (f5 : List aB) (i6 : Int) : Option (List aB) :=
  (lp (fun s => lU l0 r1 s.1 s.2) (f5, i6)).bind (fun rr => uN rr)

noncomputable def sG (l0 : (List aC)) (r1 : (List aF)) : Option (List aB) :=
  uF l0 r1 ([] : List aB) (0 : Int)

noncomputable def qL (v5 : Int) : Option Int :=
  some v5

noncomputable def oU (f0 : (List aB)) (t1 : Int) (v5 : Int) (i6 : Int) : Option ((Int × Int) ⊕ (Int)) :=
  some (.inl (v5, IntKind.i64.wrap (i6 + (1 : Int))))

noncomputable def jI (f0 : (List aB)) (t1 : Int) (v5 : Int) (i6 : Int) : Option ((Int × Int) ⊕ (Int)) :=
  cond (decide (i6 < ((List.length f0 : Nat) : Int)))
  (bC (0 ≤ i6 ∧ i6 < ((List.length f0 : Nat) : Int)) <|
  cond (decide (((List.getD f0 (Int.toNat i6) default).At) ≤ t1))
  (bC (0 ≤ i6 ∧ i6 < ((List.length f0 : Nat) : Int)) <|
  oU f0 t1 (IntKind.i64.wrap (v5 + ((List.getD f0 (Int.toNat i6) default).Net))) i6)
  (oU f0 t1 v5 i6))
  (some (.inr v5))

noncomputable def uJ (f0 : (List aB)) (t1 : Int) (v5 : Int) (i6 : Int) : Option Int :=
  (lp (fun s => jI f0 t1 s.1 s.2) (v5, i6)).bind (fun rr => qL rr)

noncomputable def nV (f0 : (List aB)) (t1 : Int) : Option Int :=
  uJ f0 t1 (0 : Int) (0 : Int)

noncomputable def tH (t0 : Int) : Option Bool :=
  some ((decide ((0 : Int) ≤ t0)) && (decide (t0 ≤ (1125899906842624 : Int))))

noncomputable def pN (out5 : List Int) : Option (List Int) :=
  some out5

noncomputable def pV (t1 : Int) (out5 : List Int) (put6 : Bool) : Option (List Int) :=
  cond (!put6)
  (bC ((List.length out5 + List.length ([t1])) * 8 ≤ 140737488355328 ∧ List.length out5 + List.length ([t1]) ≤ 9223372036854775807) <|
  pN (out5 ++ ([t1])))
  (pN out5)

noncomputable def rY (l0 : (List Int)) (t1 : Int) (out5 : List Int) (put6 : Bool) (i7 : Int) : Option ((List Int × Bool × Int) ⊕ ((List Int × Bool) ⊕ (List Int))) :=
  bC (0 ≤ i7 ∧ i7 < ((List.length l0 : Nat) : Int)) <|
  bC ((List.length out5 + List.length ([List.getD l0 (Int.toNat i7) default])) * 8 ≤ 140737488355328 ∧ List.length out5 + List.length ([List.getD l0 (Int.toNat i7) default]) ≤ 9223372036854775807) <|
  some (.inl (out5 ++ ([List.getD l0 (Int.toNat i7) default]), put6, IntKind.i64.wrap (i7 + (1 : Int))))

noncomputable def gY (l0 : (List Int)) (t1 : Int) (out5 : List Int) (put6 : Bool) (i7 : Int) : Option ((List Int × Bool × Int) ⊕ ((List Int × Bool) ⊕ (List Int))) :=
  cond (decide (i7 < ((List.length l0 : Nat) : Int)))
  (bC (0 ≤ i7 ∧ i7 < ((List.length l0 : Nat) : Int)) <|
  cond (decide ((List.getD l0 (Int.toNat i7) default) = t1))
  (some (.inr (.inr l0)))
  (bC (0 ≤ i7 ∧ i7 < ((List.length l0 : Nat) : Int)) <|
  cond ((decide (t1 < (List.getD l0 (Int.toNat i7) default))) && (!put6))
  (bC ((List.length out5 + List.length ([t1])) * 8 ≤ 140737488355328 ∧ List.length out5 + List.length ([t1]) ≤ 9223372036854775807) <|
  rY l0 t1 (out5 ++ ([t1])) true i7)
  (rY l0 t1 out5 put6 i7)))
  (some (.inr (.inl (out5, put6))))

noncomputable def vO (l0 : (List Int)) (t1 : Int) (out5 : List Int) (put6 : Bool) (i7 : Int) : Option (List Int) :=
  (lp (fun s => gY l0 t1 s.1 s.2.1 s.2.2) (out5, put6, i7)).bind (Sum.elim (fun rr => pV t1 rr.1 rr.2) (fun rr => some rr))

noncomputable def qO (l0 : (List Int)) (t1 : Int) : Option (List Int) :=
  vO l0 t1 ([] : List Int) false (0 : Int)

noncomputable def rR (f6 : List aB) : Option ((List aB) × Int) :=
  (sO f6).bind fun x2 =>
  cond (!x2)
  (some ([], (7 : Int)))
  (some (f6, (0 : Int)))

noncomputable def sD (dQ : (List Int)) (cW : (List Int)) (f6 : List aB) (i8 : Int) : Option ((List aB × Int × Int) ⊕ ((List aB))) :=
  bC (0 ≤ i8 ∧ i8 < ((List.length cW : Nat) : Int)) <|
  some (.inl (f6, List.getD cW (Int.toNat i8) default, IntKind.i64.wrap (i8 + (1 : Int))))

noncomputable def mR (dQ : (List Int)) (cW : (List Int)) (f6 : List aB) (was7 : Int) (i8 : Int) : Option ((List aB × Int × Int) ⊕ ((List aB))) :=
  cond (decide (i8 < ((List.length dQ : Nat) : Int)))
  (bC (0 ≤ i8 ∧ i8 < ((List.length cW : Nat) : Int)) <|
  cond (!decide ((List.getD cW (Int.toNat i8) default) = was7))
  (bC (0 ≤ i8 ∧ i8 < ((List.length dQ : Nat) : Int)) <|
  bC (0 ≤ i8 ∧ i8 < ((List.length cW : Nat) : Int)) <|
  bC ((List.length f6 + List.length ([aB.mk (List.getD dQ (Int.toNat i8) default) (IntKind.i64.wrap ((List.getD cW (Int.toNat i8) default) - was7))])) * 16 ≤ 140737488355328 ∧ List.length f6 + List.length ([aB.mk (List.getD dQ (Int.toNat i8) default) (IntKind.i64.wrap ((List.getD cW (Int.toNat i8) default) - was7))]) ≤ 9223372036854775807) <|
  sD dQ cW (f6 ++ ([aB.mk (List.getD dQ (Int.toNat i8) default) (IntKind.i64.wrap ((List.getD cW (Int.toNat i8) default) - was7))])) i8)
  (sD dQ cW f6 i8))
  (some (.inr f6))

noncomputable def vT (dQ : (List Int)) (cW : (List Int)) (f6 : List aB) (was7 : Int) (i8 : Int) : Option ((List aB) × Int) :=
  (lp (fun s => mR dQ cW s.1 s.2.1 s.2.2) (f6, was7, i8)).bind (fun rr => rR rr)

noncomputable def tW (dQ : (List Int)) (cW : (List Int)) : Option ((List aB) × Int) :=
  vT dQ cW ([] : List aB) (0 : Int) (0 : Int)

noncomputable def xQ (l0 : List aC) : Option (List aC) :=
  some l0

noncomputable def nP (r1 : (List aF)) (f2 : (List aB)) (l0 : List aC) (i7 : Int) : Option ((List aC × Int) ⊕ ((List aC))) :=
  cond (decide (i7 < ((List.length f2 : Nat) : Int)))
  (bC (List.length r1 * 32 ≤ 140737488355328 ∧ List.length r1 ≤ 9223372036854775807) <|
  bC (0 ≤ i7 ∧ i7 < ((List.length f2 : Nat) : Int)) <|
  bC (0 ≤ i7 ∧ i7 < ((List.length f2 : Nat) : Int)) <|
  bC ((List.length l0 + List.length ([aC.mk r1 ((List.getD f2 (Int.toNat i7) default).At) ((List.getD f2 (Int.toNat i7) default).Net)])) * 40 ≤ 140737488355328 ∧ List.length l0 + List.length ([aC.mk r1 ((List.getD f2 (Int.toNat i7) default).At) ((List.getD f2 (Int.toNat i7) default).Net)]) ≤ 9223372036854775807) <|
  some (.inl (l0 ++ ([aC.mk r1 ((List.getD f2 (Int.toNat i7) default).At) ((List.getD f2 (Int.toNat i7) default).Net)]), IntKind.i64.wrap (i7 + (1 : Int)))))
  (some (.inr l0))

noncomputable def xO (l0 : List aC) (r1 : (List aF)) (f2 : (List aB)) (i7 : Int) : Option (List aC) :=
  (lp (fun s => nP r1 f2 s.1 s.2) (l0, i7)).bind (fun rr => xQ rr)

noncomputable def uY (l0 : (List aC)) (r1 : (List aF)) (f2 : (List aB)) : Option (List aC) :=
  xO l0 r1 f2 (0 : Int)

noncomputable def rN  : Option Bool :=
  some true

noncomputable def pU (a0 : (List aC)) (b1 : (List aC)) (i5 : Int) : Option ((Int) ⊕ (Unit ⊕ Bool)) :=
  cond (decide (i5 < ((List.length a0 : Nat) : Int)))
  (bC (0 ≤ i5 ∧ i5 < ((List.length a0 : Nat) : Int)) <|
  bC (0 ≤ i5 ∧ i5 < ((List.length b1 : Nat) : Int)) <|
  bC ((((!(!decide (((List.getD a0 (Int.toNat i5) default).At) = ((List.getD b1 (Int.toNat i5) default).At))))) = true → 0 ≤ i5 ∧ i5 < ((List.length a0 : Nat) : Int))) <|
  bC ((((!(!decide (((List.getD a0 (Int.toNat i5) default).At) = ((List.getD b1 (Int.toNat i5) default).At))))) = true → 0 ≤ i5 ∧ i5 < ((List.length b1 : Nat) : Int))) <|
  bC ((((!((!decide (((List.getD a0 (Int.toNat i5) default).At) = ((List.getD b1 (Int.toNat i5) default).At))) || (!decide (((List.getD a0 (Int.toNat i5) default).Net) = ((List.getD b1 (Int.toNat i5) default).Net)))))) = true → 0 ≤ i5 ∧ i5 < ((List.length a0 : Nat) : Int))) <|
  bC ((((!((!decide (((List.getD a0 (Int.toNat i5) default).At) = ((List.getD b1 (Int.toNat i5) default).At))) || (!decide (((List.getD a0 (Int.toNat i5) default).Net) = ((List.getD b1 (Int.toNat i5) default).Net)))))) = true → 0 ≤ i5 ∧ i5 < ((List.length b1 : Nat) : Int))) <|
  (cN (!((!decide (((List.getD a0 (Int.toNat i5) default).At) = ((List.getD b1 (Int.toNat i5) default).At))) || (!decide (((List.getD a0 (Int.toNat i5) default).Net) = ((List.getD b1 (Int.toNat i5) default).Net))))) (pH ((List.getD a0 (Int.toNat i5) default).Row) ((List.getD b1 (Int.toNat i5) default).Row))).bind fun x9 =>
  cond (((!decide (((List.getD a0 (Int.toNat i5) default).At) = ((List.getD b1 (Int.toNat i5) default).At))) || (!decide (((List.getD a0 (Int.toNat i5) default).Net) = ((List.getD b1 (Int.toNat i5) default).Net)))) || (!x9))
  (some (.inr (.inr false)))
  (some (.inl (IntKind.i64.wrap (i5 + (1 : Int))))))
  (some (.inr (.inl ())))

noncomputable def wB (a0 : (List aC)) (b1 : (List aC)) (i5 : Int) : Option Bool :=
  (lp (fun s => pU a0 b1 s) i5).bind (Sum.elim (fun rr => rN ) (fun rr => some rr))

noncomputable def tA (a0 : (List aC)) (b1 : (List aC)) : Option Bool :=
  cond (!decide (((List.length a0 : Nat) : Int) = ((List.length b1 : Nat) : Int)))
  (some false)
  (wB a0 b1 (0 : Int))

noncomputable def uZ (t0 : Int) : Option Bool :=
  some ((decide ((0 : Int) ≤ t0)) && (decide (t0 ≤ (1125899906842624 : Int))))

noncomputable def yG (s0 : dS) : Option Bool :=
  (uZ s0.From).bind fun x1 =>
  (cN x1 (uZ s0.To)).bind fun x4 =>
  some ((x1 && x4) && (decide (s0.From < s0.To)))

noncomputable def tX (r0 : (List aF)) (s1 : dS) : Option ((List aC) × Int) :=
  (oP r0).bind fun x1 =>
  cond (!x1)
  (some ([], (2 : Int)))
  ((yG s1).bind fun x5 =>
  cond (!x5)
  (some ([], (14 : Int)))
  ((sR ([aC.mk r0 s1.From (1 : Int), aC.mk r0 s1.To (-1 : Int)])).bind fun x9 =>
  some (x9.1, x9.2)))

noncomputable def iO (s0 : List aC) : Option (List aC) :=
  some s0

noncomputable def fH (n1 : Int) : Option (List aC) :=
  cond (decide (n1 < (0 : Int)))
  (none)
  (cond (decide ((0 : Int) < (IntKind.i64.wrap (n1 - (IntKind.i64.wrap ((0 : Int) - ((0 : Nat) : Int)))))))
  (bC (0 ≤ (0 : Int) ∧ (0 : Int) ≤ ((0 : Nat) : Int)) <|
  bC (0 ≤ (IntKind.i64.wrap (n1 - (IntKind.i64.wrap ((0 : Int) - ((0 : Nat) : Int))))) ∧ Int.toNat (IntKind.i64.wrap (n1 - (IntKind.i64.wrap ((0 : Int) - ((0 : Nat) : Int))))) * 40 ≤ 140737488355328 ∧ (IntKind.i64.wrap (n1 - (IntKind.i64.wrap ((0 : Int) - ((0 : Nat) : Int))))) ≤ 9223372036854775807) <|
  bC (0 ≤ ((0 : Nat) : Int) ∧ ((0 : Nat) : Int) ≤ (((Int.toNat (IntKind.i64.wrap (n1 - (IntKind.i64.wrap ((0 : Int) - ((0 : Nat) : Int)))))) : Nat) : Int)) <|
  iO ([] : List aC))
  (iO ([] : List aC)))

noncomputable def eC (cT : List aC) : Option (List aC) :=
  some cT

noncomputable def cE (t25 : (List (List aC))) (t26 : Int) (cT : List aC) (t27 : Int) : Option ((List aC × Int) ⊕ ((List aC))) :=
  cond (decide (t27 < t26))
  (bC (0 ≤ t27 ∧ t27 < ((List.length t25 : Nat) : Int)) <|
  bC ((List.length cT + List.length (List.getD t25 (Int.toNat t27) default)) * 40 ≤ 140737488355328 ∧ List.length cT + List.length (List.getD t25 (Int.toNat t27) default) ≤ 9223372036854775807) <|
  some (.inl (cT ++ (List.getD t25 (Int.toNat t27) default), IntKind.i64.wrap (t27 + (1 : Int)))))
  (some (.inr cT))

noncomputable def gV (cT : List aC) (t25 : (List (List aC))) (t26 : Int) (t27 : Int) : Option (List aC) :=
  (lp (fun s => cE t25 t26 s.1 s.2) (cT, t27)).bind (fun rr => eC rr)

noncomputable def eD (cZ : (List (List aC))) (lV : Int) : Option (List aC) :=
  (fH lV).bind fun x1 =>
  gV x1 cZ ((List.length cZ : Nat) : Int) (0 : Int)

noncomputable def cD (cZ : (List (List aC))) (t9 : (List (List aC))) (t10 : Int) (lV : Int) (t11 : Int) : Option ((Int × Int) ⊕ (Int)) :=
  cond (decide (t11 < t10))
  (bC (0 ≤ t11 ∧ t11 < ((List.length t9 : Nat) : Int)) <|
  cond (decide ((IntKind.i64.wrap (lV + ((List.length (List.getD t9 (Int.toNat t11) default) : Nat) : Int))) < (0 : Int)))
  (none)
  (some (.inl (IntKind.i64.wrap (lV + ((List.length (List.getD t9 (Int.toNat t11) default) : Nat) : Int)), IntKind.i64.wrap (t11 + (1 : Int))))))
  (some (.inr lV))

noncomputable def gJ (cZ : (List (List aC))) (lV : Int) (t9 : (List (List aC))) (t10 : Int) (t11 : Int) : Option (List aC) :=
  (lp (fun s => cD cZ t9 t10 s.1 s.2) (lV, t11)).bind (fun rr => eD cZ rr)

noncomputable def eO (cZ : (List (List aC))) : Option (List aC) :=
  gJ cZ (0 : Int) cZ ((List.length cZ : Nat) : Int) (0 : Int)

noncomputable def yB (a0 : (List aC)) (b1 : (List aC)) : Option ((List aC) × Int) :=
  (oF a0).bind fun x1 =>
  (cN (!(!x1)) (oF b1)).bind fun x4 =>
  cond ((!x1) || (!x4))
  (some ([], (2 : Int)))
  ((eO ([a0, b1])).bind fun x8 =>
  (sR x8).bind fun x11 =>
  some (x11.1, x11.2))

noncomputable def tK  : Option Bool :=
  (tX ([aF.mk (1 : Int) (1 : Int) ByteArray.empty]) (dS.mk (2 : Int) (5 : Int))).bind fun x1 =>
  (tX ([aF.mk (1 : Int) (1 : Int) ByteArray.empty]) (dS.mk (5 : Int) (9 : Int))).bind fun x4 =>
  (yB x1.1 x4.1).bind fun x7 =>
  bC ((((((((decide (x1.2 = (0 : Int))) && (decide (x4.2 = (0 : Int)))) && (decide (x7.2 = (0 : Int)))) && (decide (((List.length x1.1 : Nat) : Int) = (2 : Int)))) && (decide (((List.length x7.1 : Nat) : Int) = (2 : Int))))) = true → 0 ≤ (0 : Int) ∧ (0 : Int) < ((List.length x7.1 : Nat) : Int))) <|
  bC (((((((((decide (x1.2 = (0 : Int))) && (decide (x4.2 = (0 : Int)))) && (decide (x7.2 = (0 : Int)))) && (decide (((List.length x1.1 : Nat) : Int) = (2 : Int)))) && (decide (((List.length x7.1 : Nat) : Int) = (2 : Int)))) && (decide (((List.getD x7.1 (Int.toNat (0 : Int)) default).At) = (2 : Int))))) = true → 0 ≤ (0 : Int) ∧ (0 : Int) < ((List.length x7.1 : Nat) : Int))) <|
  bC ((((((((((decide (x1.2 = (0 : Int))) && (decide (x4.2 = (0 : Int)))) && (decide (x7.2 = (0 : Int)))) && (decide (((List.length x1.1 : Nat) : Int) = (2 : Int)))) && (decide (((List.length x7.1 : Nat) : Int) = (2 : Int)))) && (decide (((List.getD x7.1 (Int.toNat (0 : Int)) default).At) = (2 : Int)))) && (decide (((List.getD x7.1 (Int.toNat (0 : Int)) default).Net) = (1 : Int))))) = true → 0 ≤ (1 : Int) ∧ (1 : Int) < ((List.length x7.1 : Nat) : Int))) <|
  bC (((((((((((decide (x1.2 = (0 : Int))) && (decide (x4.2 = (0 : Int)))) && (decide (x7.2 = (0 : Int)))) && (decide (((List.length x1.1 : Nat) : Int) = (2 : Int)))) && (decide (((List.length x7.1 : Nat) : Int) = (2 : Int)))) && (decide (((List.getD x7.1 (Int.toNat (0 : Int)) default).At) = (2 : Int)))) && (decide (((List.getD x7.1 (Int.toNat (0 : Int)) default).Net) = (1 : Int)))) && (decide (((List.getD x7.1 (Int.toNat (1 : Int)) default).At) = (9 : Int))))) = true → 0 ≤ (1 : Int) ∧ (1 : Int) < ((List.length x7.1 : Nat) : Int))) <|
  (cN (((((((((decide (x1.2 = (0 : Int))) && (decide (x4.2 = (0 : Int)))) && (decide (x7.2 = (0 : Int)))) && (decide (((List.length x1.1 : Nat) : Int) = (2 : Int)))) && (decide (((List.length x7.1 : Nat) : Int) = (2 : Int)))) && (decide (((List.getD x7.1 (Int.toNat (0 : Int)) default).At) = (2 : Int)))) && (decide (((List.getD x7.1 (Int.toNat (0 : Int)) default).Net) = (1 : Int)))) && (decide (((List.getD x7.1 (Int.toNat (1 : Int)) default).At) = (9 : Int)))) && (decide (((List.getD x7.1 (Int.toNat (1 : Int)) default).Net) = (-1 : Int)))) (qQ x7.1)).bind fun x14 =>
  (cN ((((((((((decide (x1.2 = (0 : Int))) && (decide (x4.2 = (0 : Int)))) && (decide (x7.2 = (0 : Int)))) && (decide (((List.length x1.1 : Nat) : Int) = (2 : Int)))) && (decide (((List.length x7.1 : Nat) : Int) = (2 : Int)))) && (decide (((List.getD x7.1 (Int.toNat (0 : Int)) default).At) = (2 : Int)))) && (decide (((List.getD x7.1 (Int.toNat (0 : Int)) default).Net) = (1 : Int)))) && (decide (((List.getD x7.1 (Int.toNat (1 : Int)) default).At) = (9 : Int)))) && (decide (((List.getD x7.1 (Int.toNat (1 : Int)) default).Net) = (-1 : Int)))) && x14) (oF ([]))).bind fun x17 =>
  some (((((((((((decide (x1.2 = (0 : Int))) && (decide (x4.2 = (0 : Int)))) && (decide (x7.2 = (0 : Int)))) && (decide (((List.length x1.1 : Nat) : Int) = (2 : Int)))) && (decide (((List.length x7.1 : Nat) : Int) = (2 : Int)))) && (decide (((List.getD x7.1 (Int.toNat (0 : Int)) default).At) = (2 : Int)))) && (decide (((List.getD x7.1 (Int.toNat (0 : Int)) default).Net) = (1 : Int)))) && (decide (((List.getD x7.1 (Int.toNat (1 : Int)) default).At) = (9 : Int)))) && (decide (((List.getD x7.1 (Int.toNat (1 : Int)) default).Net) = (-1 : Int)))) && x14) && x17)

noncomputable def rK (bZ : (List Int)) (eG : List Int) : Option ((List aB) × Int) :=
  (tW bZ eG).bind fun x2 =>
  some (x2.1, x2.2)

noncomputable def mS (l0 : (List aB)) (bZ : (List Int)) (eG : List Int) (i8 : Int) : Option ((List Int × Int) ⊕ ((List Int))) :=
  cond (decide (i8 < ((List.length bZ : Nat) : Int)))
  (bC (0 ≤ i8 ∧ i8 < ((List.length bZ : Nat) : Int)) <|
  (nV l0 (List.getD bZ (Int.toNat i8) default)).bind fun x9 =>
  bC ((List.length eG + List.length ([x9])) * 8 ≤ 140737488355328 ∧ List.length eG + List.length ([x9]) ≤ 9223372036854775807) <|
  some (.inl (eG ++ ([x9]), IntKind.i64.wrap (i8 + (1 : Int)))))
  (some (.inr eG))

noncomputable def vP (l0 : (List aB)) (bZ : (List Int)) (eG : List Int) (i8 : Int) : Option ((List aB) × Int) :=
  (lp (fun s => mS l0 bZ s.1 s.2) (eG, i8)).bind (fun rr => rK bZ rr)

noncomputable def sJ (l0 : (List aB)) (bZ : (List Int)) : Option ((List aB) × Int) :=
  vP l0 bZ ([] : List Int) (0 : Int)

noncomputable def sI (l0 : (List aB)) (bZ : (List Int)) (i6 : Int) : Option (((List Int) × Int) ⊕ ((List Int) ⊕ ((List aB) × Int))) :=
  some (.inl (bZ, IntKind.i64.wrap (i6 + (1 : Int))))

noncomputable def iX (l0 : (List aB)) (bZ : (List Int)) (i6 : Int) : Option (((List Int) × Int) ⊕ ((List Int) ⊕ ((List aB) × Int))) :=
  cond (decide (i6 < ((List.length l0 : Nat) : Int)))
  (bC (0 ≤ i6 ∧ i6 < ((List.length l0 : Nat) : Int)) <|
  bC ((((!(decide (((List.getD l0 (Int.toNat i6) default).At) < (-1 : Int))))) = true → 0 ≤ i6 ∧ i6 < ((List.length l0 : Nat) : Int))) <|
  cond ((decide (((List.getD l0 (Int.toNat i6) default).At) < (-1 : Int))) || (decide ((1125899906842624 : Int) < ((List.getD l0 (Int.toNat i6) default).At))))
  (some (.inr (.inr ([], (13 : Int)))))
  (bC (0 ≤ i6 ∧ i6 < ((List.length l0 : Nat) : Int)) <|
  cond (decide (((List.getD l0 (Int.toNat i6) default).At) < (1125899906842624 : Int)))
  (bC (0 ≤ i6 ∧ i6 < ((List.length l0 : Nat) : Int)) <|
  (qO bZ ((List.getD l0 (Int.toNat i6) default).At)).bind fun x24 =>
  sI l0 x24 i6)
  (sI l0 bZ i6)))
  (some (.inr (.inl bZ)))

noncomputable def wE (l0 : (List aB)) (bZ : (List Int)) (i6 : Int) : Option ((List aB) × Int) :=
  (lp (fun s => iX l0 s.1 s.2) (bZ, i6)).bind (Sum.elim (fun rr => sJ l0 rr) (fun rr => some (rr.1, rr.2)))

noncomputable def sC (l0 : (List aB)) : Option ((List aB) × Int) :=
  wE l0 ([]) (0 : Int)

noncomputable def oC (l0 : (List aB)) (i4 : Int) : Option ((Int) ⊕ (Unit ⊕ ((List aB) × Int))) :=
  cond (decide (i4 < ((List.length l0 : Nat) : Int)))
  (bC (0 ≤ i4 ∧ i4 < ((List.length l0 : Nat) : Int)) <|
  bC ((((!(decide ((1048576 : Int) < ((List.getD l0 (Int.toNat i4) default).Net))))) = true → 0 ≤ i4 ∧ i4 < ((List.length l0 : Nat) : Int))) <|
  cond ((decide ((1048576 : Int) < ((List.getD l0 (Int.toNat i4) default).Net))) || (decide (((List.getD l0 (Int.toNat i4) default).Net) < (-1048576 : Int))))
  (some (.inr (.inr ([], (2 : Int)))))
  (some (.inl (IntKind.i64.wrap (i4 + (1 : Int))))))
  (some (.inr (.inl ())))

noncomputable def vN (l0 : (List aB)) (i4 : Int) : Option ((List aB) × Int) :=
  (lp (fun s => oC l0 s) i4).bind (Sum.elim (fun rr => sC l0) (fun rr => some (rr.1, rr.2)))

noncomputable def tU (l0 : (List aB)) : Option ((List aB) × Int) :=
  vN l0 (0 : Int)

noncomputable def pW (out6 : List aC) : Option ((List aC) × Int) :=
  cond (decide ((4096 : Int) < ((List.length out6 : Nat) : Int)))
  (some ([], (7 : Int)))
  (some (out6, (0 : Int)))

noncomputable def mQ (l0 : (List aC)) (mW : (List (List aF))) (out6 : List aC) (i8 : Int) : Option ((List aC × Int) ⊕ ((List aC) ⊕ ((List aC) × Int))) :=
  cond (decide (i8 < ((List.length mW : Nat) : Int)))
  (bC (0 ≤ i8 ∧ i8 < ((List.length mW : Nat) : Int)) <|
  (sG l0 (List.getD mW (Int.toNat i8) default)).bind fun x11 =>
  (tU x11).bind fun x14 =>
  cond (!decide (x14.2 = (0 : Int)))
  (some (.inr (.inr ([], x14.2))))
  (bC (0 ≤ i8 ∧ i8 < ((List.length mW : Nat) : Int)) <|
  (uY out6 (List.getD mW (Int.toNat i8) default) x14.1).bind fun x19 =>
  some (.inl (x19, IntKind.i64.wrap (i8 + (1 : Int))))))
  (some (.inr (.inl out6)))

noncomputable def vQ (l0 : (List aC)) (out6 : List aC) (mW : (List (List aF))) (i8 : Int) : Option ((List aC) × Int) :=
  (lp (fun s => mQ l0 mW s.1 s.2) (out6, i8)).bind (Sum.elim (fun rr => pW rr) (fun rr => some (rr.1, rr.2)))

noncomputable def rX (l0 : (List aC)) : Option ((List aC) × Int) :=
  (tY l0).bind fun x1 =>
  vQ l0 ([] : List aC) x1 (0 : Int)

noncomputable def nY (l0 : (List aC)) (i5 : Int) : Option ((Int) ⊕ (Unit ⊕ ((List aC) × Int))) :=
  cond (decide (i5 < ((List.length l0 : Nat) : Int)))
  (bC (0 ≤ i5 ∧ i5 < ((List.length l0 : Nat) : Int)) <|
  bC ((((!(decide (((List.getD l0 (Int.toNat i5) default).At) < (-1 : Int))))) = true → 0 ≤ i5 ∧ i5 < ((List.length l0 : Nat) : Int))) <|
  cond ((decide (((List.getD l0 (Int.toNat i5) default).At) < (-1 : Int))) || (decide ((1125899906842624 : Int) < ((List.getD l0 (Int.toNat i5) default).At))))
  (some (.inr (.inr ([], (13 : Int)))))
  (some (.inl (IntKind.i64.wrap (i5 + (1 : Int))))))
  (some (.inr (.inl ())))

noncomputable def wG (l0 : (List aC)) (i5 : Int) : Option ((List aC) × Int) :=
  (lp (fun s => nY l0 s) i5).bind (Sum.elim (fun rr => rX l0) (fun rr => some (rr.1, rr.2)))

noncomputable def rV (l0 : (List aC)) : Option ((List aC) × Int) :=
  wG l0 (0 : Int)

noncomputable def nT (l0 : (List aC)) (i4 : Int) : Option ((Int) ⊕ (Unit ⊕ ((List aC) × Int))) :=
  cond (decide (i4 < ((List.length l0 : Nat) : Int)))
  (bC (0 ≤ i4 ∧ i4 < ((List.length l0 : Nat) : Int)) <|
  (oT ((List.getD l0 (Int.toNat i4) default).Row)).bind fun x30 =>
  bC ((((!(!x30))) = true → 0 ≤ i4 ∧ i4 < ((List.length l0 : Nat) : Int))) <|
  bC ((((!((!x30) || (decide ((1048576 : Int) < ((List.getD l0 (Int.toNat i4) default).Net)))))) = true → 0 ≤ i4 ∧ i4 < ((List.length l0 : Nat) : Int))) <|
  cond (((!x30) || (decide ((1048576 : Int) < ((List.getD l0 (Int.toNat i4) default).Net)))) || (decide (((List.getD l0 (Int.toNat i4) default).Net) < (-1048576 : Int))))
  (some (.inr (.inr ([], (2 : Int)))))
  (some (.inl (IntKind.i64.wrap (i4 + (1 : Int))))))
  (some (.inr (.inl ())))

noncomputable def wF (l0 : (List aC)) (i4 : Int) : Option ((List aC) × Int) :=
  (lp (fun s => nT l0 s) i4).bind (Sum.elim (fun rr => rV l0) (fun rr => some (rr.1, rr.2)))

noncomputable def tZ (l0 : (List aC)) : Option ((List aC) × Int) :=
  wF l0 (0 : Int)

noncomputable def vX (l0 : (List aC)) : Option ((List aC)) :=
  some l0

noncomputable def jT {σ : Type} (eP : σ → (List aF) → (List aB) → Option (σ × Bool)) (t9c0 : (List aC)) (sg : σ) (t10 : (List aF)) (t11 : (List aB)) : Option ((σ) ⊕ (σ)) :=
  (eP sg t10 t11).bind fun x7 =>
  cond (!x7.2)
  (some (.inr x7.1))
  (some (.inl x7.1))

noncomputable def qD {σ : Type} (eP : σ → (List aF) → (List aB) → Option (σ × Bool)) (sg : σ) (t9c0 : (List aC)) : Option σ :=
  (mF (fun st t10 t11 => rnd (fun (s : σ) => jT eP t9c0 s t10 t11) st) t9c0 (.inl sg)).bind (Sum.elim (fun (s : σ) =>
  (some s))
  (fun (s : σ) =>
  (some s)))

noncomputable def oE {σ : Type} (eP : σ → (List aF) → (List aB) → Option (σ × Bool)) (t1 : (List aC)) (sg0 : σ) : Option σ :=
  (oF t1).bind fun x1 =>
  cond (!x1)
  (some sg0)
  ((oM t1).bind fun x5 =>
  qD eP sg0 x5)

noncomputable def nW (r3 : (List aF)) (uH : (List aC)) (t4 : (List aB)) (t12 : (List aF)) (t13 : (List aB)) : Option (((List aB)) ⊕ ((List aB))) :=
  (rC t12 r3).bind fun x9 =>
  cond x9
  (some (.inr t13))
  (some (.inl t4))

noncomputable def vY (r3 : (List aF)) (t4 : (List aB)) (uH : (List aC)) : Option (List aB) :=
  (oE (fun st t12 t13 => rnd (fun (s : (List aB)) => nW r3 uH s t12 t13) st) uH (.inl t4)).bind (Sum.elim (fun (s : (List aB)) =>
  (some ([])))
  (fun (s : (List aB)) =>
  (some s)))

noncomputable def tN (l0 : (List aC)) (r1 : (List aF)) : Option (List aB) :=
  (oP r1).bind fun x2 =>
  cond (!x2)
  (some ([]))
  ((vX l0).bind fun x6 =>
  vY r1 ([]) x6)

noncomputable def vD (s0 : dS) : Option Bool :=
  (tH s0.From).bind fun x1 =>
  (cN x1 (tH s0.To)).bind fun x4 =>
  some ((x1 && x4) && (decide (s0.From < s0.To)))

noncomputable def yI (r0 : (List aF)) (s1 : dS) : Option ((List aC) × Int) :=
  (oT r0).bind fun x1 =>
  cond (!x1)
  (some ([], (2 : Int)))
  ((vD s1).bind fun x5 =>
  cond (!x5)
  (some ([], (14 : Int)))
  ((tZ ([aC.mk r0 s1.From (1 : Int), aC.mk r0 s1.To (-1 : Int)])).bind fun x9 =>
  some (x9.1, x9.2)))

noncomputable def cF (eq2 : aC → aC → Option Bool)  : Option Bool :=
  some true

noncomputable def bT (eq2 : aC → aC → Option Bool) (s21 : (List aC)) (t15 : (List aC)) (t16 : Int) (t17 : Int) : Option ((Int) ⊕ (Unit ⊕ Bool)) :=
  cond (decide (t17 < t16))
  (bC (0 ≤ t17 ∧ t17 < ((List.length t15 : Nat) : Int)) <|
  bC (0 ≤ t17 ∧ t17 < ((List.length s21 : Nat) : Int)) <|
  (eq2 (List.getD t15 (Int.toNat t17) default) (List.getD s21 (Int.toNat t17) default)).bind fun x7 =>
  cond (!x7)
  (some (.inr (.inr false)))
  (some (.inl (IntKind.i64.wrap (t17 + (1 : Int))))))
  (some (.inr (.inl ())))

noncomputable def cO (eq2 : aC → aC → Option Bool) (s21 : (List aC)) (t15 : (List aC)) (t16 : Int) (t17 : Int) : Option Bool :=
  (lp (fun s => bT eq2 s21 t15 t16 s) t17).bind (Sum.elim (fun rr => cF eq2 ) (fun rr => some rr))

noncomputable def cS (s10 : (List aC)) (s21 : (List aC)) (eq2 : aC → aC → Option Bool) : Option Bool :=
  cond (!decide (((List.length s10 : Nat) : Int) = ((List.length s21 : Nat) : Int)))
  (some false)
  (cO eq2 s21 s10 ((List.length s10 : Nat) : Int) (0 : Int))

noncomputable def pT (x0 : aC) (y1 : aC) : Option Bool :=
  (cN ((decide (x0.At = y1.At)) && (decide (x0.Net = y1.Net))) (rC x0.Row y1.Row)).bind fun x1 =>
  some (((decide (x0.At = y1.At)) && (decide (x0.Net = y1.Net))) && x1)

noncomputable def vG (a0 : (List aC)) (b1 : (List aC)) : Option Bool :=
  (cS a0 b1 (fun y0 y1 => pT y0 y1)).bind fun x1 =>
  some x1

noncomputable def yA (f0 : (List aB)) (t1 : Int) : Option Int :=
  (sO f0).bind fun x1 =>
  cond (!x1)
  (some (0 : Int))
  ((nV f0 t1).bind fun x5 =>
  some x5)

noncomputable def uM (r0 : (List aF)) (s1 : dS) : Option Bool :=
  (tX r0 s1).bind fun x1 =>
  (yI r0 s1).bind fun x4 =>
  (tK ).bind fun x7 =>
  (cN (x7 && (decide (x1.2 = x4.2))) (tA x1.1 x4.1)).bind fun x9 =>
  (cN ((x7 && (decide (x1.2 = x4.2))) && x9) (vG x1.1 x4.1)).bind fun x11 =>
  (cN ((!(!decide (x1.2 = (0 : Int)))) && ((((x7 && (decide (x1.2 = x4.2))) && x9) && x11))) (qQ x1.1)).bind fun x13 =>
  (cN (x13 && ((!(!decide (x1.2 = (0 : Int)))) && ((((x7 && (decide (x1.2 = x4.2))) && x9) && x11)))) (tN x1.1 r0)).bind fun x15 =>
  (cN (x13 && ((!(!decide (x1.2 = (0 : Int)))) && ((((x7 && (decide (x1.2 = x4.2))) && x9) && x11)))) (yA x15 s1.From)).bind fun x17 =>
  some ((((x7 && (decide (x1.2 = x4.2))) && x9) && x11) && ((!decide (x1.2 = (0 : Int))) || (x13 && (decide (x17 = (1 : Int))))))

end Go.Abs
namespace Go.Abs
open Go Go.RowKit
def xX (x : aF) : Prop := EE x.Kind ∧ EE x.Num ∧ (fun s => s.size ≤ maxLen) x.Text ∧ True

def yY (x : dS) : Prop := EE x.From ∧ EE x.To ∧ True

end Go.Abs
namespace Go.Abs
open Go Go.RowKit Go.Proofs
noncomputable def tt : TT := ⟨UZ Try.prog, QZ Try.prog⟩

theorem aH : eR Try.prog tt := eR.of Try.prog

theorem CL (l0 : (List aC)) (r : (List aC)) (h0 : oM l0 = some r) : bR Try.prog 70 [(eL aD l0)] (.fn (.func 104) [] [(.rp (eL aD r))]) := by
  intro H0
  refine bY Try.func70 ?_
  have hO := aL.start H0
  unfold oM at h0
  refine aO ?_
  refine aT aH 2 ?_
  refine eX 1 (eL aD l0) (by kernel_rfl) (by kernel_rfl) ?_
  refine bB ?_
  refine bD [(1, (.rp (eL aD l0)))] ?_
  refine bM aH 2 [(2, (.fn (.func 104) [] [(.rp (eL aD l0))]))] ?_
  refine bE ?_
  obtain rfl := oI h0
  exact aJ (oK (x := (.fn (.func 104) [] [(.rp (eL aD l0))])) (by kernel_rfl) (aS.refl _) ⟨rfl, hO.out⟩)

theorem wP (s10 : (List aF)) (s21 : (List aF)) (r : Bool) (h0 : iE s10 s21 = some r) : bR Try.prog 106 [(eL aG s10), (eL aG s21)] (aK r) := by
  intro H0
  refine bY Try.func106 ?_
  have hO := aL.start H0
  unfold iE at h0
  refine aU aH 1 [] [] ?_
  refine aO ?_
  refine aU aH 5 [] [(10, (aK (!decide ((lN s10) = (lN s21)))))] ?_
  refine bF h0 (fun h0 => ?_) (fun h0 => ?_)
  · refine bM aH 1 [(4, (aK false))] ?_
    refine bE ?_
    obtain rfl := oI h0
    exact aJ (aP (Q_r hO))
  refine bH ?_
  refine bD [(0, (eL aG s10)), (1, (eL aG s21))] ?_
  refine cL (fun T H => Has T [] ∧ aL ⟨H0, [], []⟩ H [] ∧ eK  = some r) ?_ ?_
  · clear hO h0
    rintro T H ⟨hT, hO, h0⟩
    refine aZ hT ?_
    clear hT
    unfold eK at h0
    refine bM aH 1 [(4, (aK true))] ?_
    refine bE ?_
    obtain rfl := oI h0
    exact aJ (Q_r hO)
  refine aU aH 3 [] [(12, (eI (lN s10))), (13, (eI (0 : Int)))] ?_
  refine bN 0 ?_
  refine cR [(0, (eL aG s10)), (1, (eL aG s21)), (12, (eI (lN s10))), (13, (eI (0 : Int)))] ?_
  refine cG (fun T H => ∃ t12 : Int, ∃ t13 : Int, Has T [(0, (eL aG s10)), (1, (eL aG s21)), (12, (eI t12)), (13, (eI t13))] ∧ aL ⟨H0, [], []⟩ H [] ∧ iB s10 s21 t12 t13 = some r) ?_ ⟨(lN s10), (0 : Int), .eq (by kernel_rfl), hO, h0⟩
  clear hO h0
  rintro T H ⟨t12, t13, hT, hO, h0⟩
  refine aZ hT ?_
  clear hT
  unfold iB at h0
  obtain ⟨rr0, hl0, h0⟩ := aX h0
  refine bV (by kernel_rfl) (fun (s : Int) T H => Has T [(0, (eL aG s10)), (1, (eL aG s21)), (12, (eI t12)), (13, (eI s))] ∧ aL ⟨H0, [], []⟩ H []) hl0 ⟨.eq (by kernel_rfl), hO⟩ ?_
  clear hO
  rintro k0 s out1 T H ⟨hT, hO⟩ h1 ho0
  obtain ⟨t13, rfl⟩ : ∃ x, x = s := ⟨_, rfl⟩
  replace h1 : dK s10 s21 t12 t13 = some out1 := h1
  refine aZ hT ?_
  clear hT
  unfold dK at h1
  refine aU aH 1 [] [(14, (aK (decide (t13 < t12))))] ?_
  refine aO ?_
  refine bF h1 (fun h1 => ?_) (fun h1 => ?_)
  · refine bH ?_
    refine bD [(0, (eL aG s10)), (1, (eL aG s21)), (12, (eI t12)), (13, (eI t13))] ?_
    refine aO ?_
    refine bN 1 ?_
    refine aU aH 2 [] [(5, (eI t13))] ?_
    refine aO ?_
    refine hU (hM [19, 23]) aH 9 ?_
    obtain ⟨c3, h1⟩ := bA h1
    obtain ⟨c4, h1⟩ := bA h1
    refine EJ (Ds := [0 ≤ t13 ∧ t13 < (lN s10), 0 ≤ t13 ∧ t13 < (lN s21)]) (by kernel_rfl) ⟨c3, c4, trivial⟩ ?_
    refine bP [5] [(24, (aK (!((decide (((gD s10 t13).Kind) = ((gD s21 t13).Kind))) && ((decide (((gD s10 t13).Num) = ((gD s21 t13).Num))) && ((nJ ((gD s10 t13).Text) ((gD s21 t13).Text)) && true))))))] ?_
    refine bF h1 (fun h1 => ?_) (fun h1 => ?_)
    · refine bM aH 1 [(4, (aK false))] ?_
      refine bE ?_
      obtain rfl := oI h1
      obtain rfl : _ = rr0 := ho0
      replace h0 : some false = some r := h0
      obtain rfl := oI h0
      exact aJ (bJ (aP (aP (bJ (aP (Q_r hO))))))
    refine bH ?_
    refine cY [(0, (eL aG s10)), (1, (eL aG s21)), (12, (eI t12)), (13, (eI t13))] ?_
    refine aJ (aV (aI (?_)))
    refine aT aH 2 ?_
    refine bB ?_
    exact aJ (aI (⟨rfl, _, (oI h1).symm, .eq (by kernel_rfl), hO⟩))
  refine dG 0 ?_
  obtain rfl := oI h1
  obtain rfl : _ = rr0 := ho0
  replace h0 : eK  = some r := h0
  exact aJ (aR (aR (bL (aI (⟨rfl, .eq (by kernel_rfl), hO, h0⟩)))))

theorem EK (a0 : (List aF)) (b1 : (List aF)) (r : Bool) (h0 : rC a0 b1 = some r) : bR Try.prog 77 [(eL aG a0), (eL aG b1)] (aK r) := by
  intro H0
  refine bY Try.func77 ?_
  have hO := aL.start H0
  unfold rC at h0
  refine aU aH 1 [] [] ?_
  refine aO ?_
  refine aT aH 4 ?_
  refine bO 2 ?_
  obtain ⟨x1, hx2, h0⟩ := aX h0
  refine cJ (wP a0 b1 _ hx2) hO ?_
  intro H hO
  refine bB ?_
  refine bD [(4, (aK x1))] ?_
  refine bE ?_
  obtain rfl := oI h0
  exact aJ (Q_r hO)

theorem KL (r0 : (List aF)) (r : (List aF)) (h0 : uD r0 = some r) : bR Try.prog 105 [(eL aG r0)] (eL aG r) := by
  intro H0
  refine bY Try.func105 ?_
  have hO := aL.start H0
  unfold uD at h0
  refine aU aH 1 [] [] ?_
  refine aO ?_
  refine aT aH 6 ?_
  refine bO 2 ?_
  obtain ⟨c1, h0⟩ := bA h0
  refine aAr 3 32 (lN r0) (by kernel_rfl) (by kernel_rfl) c1 hO ?_
  intro lo2 H hO
  refine bO 4 ?_
  obtain ⟨c4, h0⟩ := bA h0
  refine uG (e := aG) ([] : List aF) r0 0 lo2 3 32 (eL aG r0) (fun lo3 => [(lo3, 3, List.map aG (([] : List aF) ++ r0))]) (by kernel_rfl) (by kernel_rfl) hO (by kernel_rfl) (DA (fun _ => by kernel_rfl)) c4 (fun _ => by kernel_rfl) ?_
  intro lo3 H hO
  refine bB ?_
  refine bD [(2, (.msl 3 lo3 0 (List.length (([] : List aF) ++ r0))))] ?_
  refine bE ?_
  refine cY [(2, (.msl 3 lo3 0 (List.length (([] : List aF) ++ r0))))] ?_
  refine wQ (en := aG) (([] : List aF) ++ r0) 0 0 2 3 lo3 (List.length (([] : List aF) ++ r0)) hO (by kernel_rfl) (by kernel_rfl) (by kernel_rfl) (L' := []) (by kernel_rfl) ?_
  intro H5 hO
  obtain rfl := oI h0
  exact aJ (Q_r hO)

theorem yD {σ : Type} (I : σ → Gs → Prop) (yield0_b : Nat) (eP : σ → (List aF) → (List aB) → Option (σ × Bool)) (yield0_h : ∀ st a0 a1 st2 r, eP st a0 a1 = some (st2, r) → GZ Try.prog (yv yield0_b) I st [(eL aG a0), (eL aE a1)] st2 (aK r)) (t1 : (List aC)) (sg0 : σ) (r : σ) (h0 : mF eP t1 sg0 = some r) : AN Try.prog 104 I sg0 [(yv yield0_b), (.rp (eL aD t1))] r (.tup []) := by
  intro H0 G0 hI hg
  refine bY Try.func104 ?_
  obtain ⟨G, hO, hI⟩ : ∃ G, aL ⟨H0, List.map (fun p : Nat × cX => p.1) G0, G⟩ H0 [] ∧ I sg0 G := ⟨G0, aL.KE hg, hI⟩
  clear hg
  unfold mF at h0
  refine aU aH 1 [] [(3, (eI (0 : Int)))] ?_
  refine bN 0 ?_
  refine cR [(0, (yv yield0_b)), (1, (.rp (eL aD t1))), (3, (eI (0 : Int)))] ?_
  refine cG (fun T H => ∃ sg : σ, ∃ i3 : Int, ∃ G : Gs, Has T [(0, (yv yield0_b)), (1, (.rp (eL aD t1))), (3, (eI i3))] ∧ aL ⟨H0, List.map (fun p : Nat × cX => p.1) G0, G⟩ H [] ∧ I sg G ∧ rH eP sg t1 i3 = some r) ?_ ⟨sg0, (0 : Int), G, .eq (by kernel_rfl), hO, hI, h0⟩
  clear hO hI h0
  rintro T H ⟨sg, i3, G, hT, hO, hI, h0⟩
  refine aZ hT ?_
  clear hT
  unfold rH at h0
  obtain ⟨rr0, hl0, h0⟩ := aX h0
  refine bV (by kernel_rfl) (fun (s : σ × Int) T H => ∃ G : Gs, Has T [(0, (yv yield0_b)), (1, (.rp (eL aD t1))), (3, (eI s.2))] ∧ aL ⟨H0, List.map (fun p : Nat × cX => p.1) G0, G⟩ H [] ∧ I s.1 G) hl0 ⟨G, .eq (by kernel_rfl), hO, hI⟩ ?_
  clear hO hI
  rintro k0 s out1 T H ⟨G, hT, hO, hI⟩ h1 ho0
  obtain ⟨sg, i3⟩ := s
  replace h1 : fX eP t1 sg i3 = some out1 := h1
  dsimp only at hT
  refine aZ hT ?_
  clear hT
  unfold fX at h1
  refine aO ?_
  refine aU aH 4 [] [(9, (aK (decide (i3 < (lN t1)))))] ?_
  refine bF h1 (fun h1 => ?_) (fun h1 => ?_)
  · refine bH ?_
    refine bD [(0, (yv yield0_b)), (1, (.rp (eL aD t1))), (3, (eI i3))] ?_
    refine bN 1 ?_
    refine aO ?_
    refine aT aH 6 ?_
    obtain ⟨c2, h1⟩ := bA h1
    refine nG [0 ≤ i3 ∧ i3 < (lN t1)] ⟨c2, trivial⟩ ?_
    refine bP [] [(4, (eL aG ((gD t1 i3).Row)))] ?_
    refine aO ?_
    refine aT aH 2 ?_
    refine mD (xs := []) (k := 2) (by kernel_rfl) (by kernel_rfl) ?_
    refine bB ?_
    refine bP [] [(5, (.sl true 0 (fun _ => .bad)))] ?_
    refine cL (fun T H => ∃ sg : σ, ∃ i3 : Int, ∃ r4 : (List aF), ∃ f5 : List aB, ∃ lo3 : Nat, ∃ G : Gs, Has T [(0, (yv yield0_b)), (1, (.rp (eL aD t1))), (3, (eI i3)), (4, (eL aG r4)), (5, (.msl 2 lo3 0 (List.length f5)))] ∧ aL ⟨H0, List.map (fun p : Nat × cX => p.1) G0, G⟩ H [(lo3, 2, List.map aE f5)] ∧ I sg G ∧ oX eP sg t1 i3 r4 f5 = some out1) ?_ ?_
    · clear hO hI h1
      rintro T H ⟨sg, i3, r4, f5, lo3, G, hT, hO, hI, h1⟩
      refine aZ hT ?_
      clear hT
      unfold oX at h1
      refine aO ?_
      refine aT aH 6 ?_
      refine zS (e := aE) f5 0 5 2 lo3 (List.length f5) [] (by kernel_rfl) hO (by kernel_rfl) (by kernel_rfl) (by kernel_rfl) (by kernel_rfl) ?_
      intro H hO
      refine bO 2 ?_
      obtain ⟨x7, hx8, h1⟩ := aX h1
      refine cJ (KL r4 _ hx8) hO ?_
      intro H hO
      refine bO 4 ?_
      obtain ⟨x10, hx11, h1⟩ := aX h1
      refine SY (I := I) (yv yield0_b) [(eL aG x7), (eL aE f5)] (aK x10.2) (by kernel_rfl) (by kernel_rfl) (yield0_h _ x7 f5 x10.1 x10.2 hx11) hO hI ?_
      intro G H hO hI
      refine bB ?_
      refine bP [4, 5] [(50, (aK (!x10.2)))] ?_
      refine bF h1 (fun h1 => ?_) (fun h1 => ?_)
      · refine bE ?_
        obtain rfl := oI h1
        obtain rfl : _ = rr0 := ho0
        replace h0 : some x10.1 = some r := h0
        obtain rfl := oI h0
        exact aJ (bJ (aP (bJ (oK (x := (.tup [])) (by kernel_rfl) (aS.refl _) ⟨rfl, G, hI, hO.FW⟩))))
      refine bH ?_
      exact aJ (aV (aI (⟨rfl, _, (oI h1).symm, _, .eq (by kernel_rfl), hO, hI⟩)))
    refine bN 2 ?_
    refine cR [(0, (yv yield0_b)), (1, (.rp (eL aD t1))), (3, (eI i3)), (4, (eL aG ((gD t1 i3).Row))), (5, (.sl true 0 (fun _ => .bad)))] ?_
    refine zQ (el := (fun _ => .bad)) 4 5 2 hO (by kernel_rfl) ?_
    intro lo24 H25 hO
    refine cG (fun T H => ∃ sg : σ, ∃ i3 : Int, ∃ r4 : (List aF), ∃ f5 : List aB, ∃ lo14 : Nat, ∃ G : Gs, Has T [(0, (yv yield0_b)), (1, (.rp (eL aD t1))), (3, (eI i3)), (4, (eL aG r4)), (5, (.msl 2 lo14 0 (List.length f5)))] ∧ aL ⟨H0, List.map (fun p : Nat × cX => p.1) G0, G⟩ H [(lo14, 2, List.map aE f5)] ∧ I sg G ∧ rE eP sg t1 i3 r4 f5 = some out1) ?_ ⟨sg, i3, (gD t1 i3).Row, ([] : List aB), lo24, G, .eq (by kernel_rfl), hO, hI, h1⟩
    clear hO hI h1
    rintro T H ⟨sg, i3, r4, f5, lo14, G, hT, hO, hI, h1⟩
    refine aZ hT ?_
    clear hT
    unfold rE at h1
    obtain ⟨rr1, hl1, h1⟩ := aX h1
    refine bV (by kernel_rfl) (fun (s : σ × Int × List aB) T H => ∃ lo14 : Nat, ∃ G : Gs, Has T [(0, (yv yield0_b)), (1, (.rp (eL aD t1))), (3, (eI s.2.1)), (4, (eL aG r4)), (5, (.msl 2 lo14 0 (List.length s.2.2)))] ∧ aL ⟨H0, List.map (fun p : Nat × cX => p.1) G0, G⟩ H [(lo14, 2, List.map aE s.2.2)] ∧ I s.1 G) hl1 ⟨lo14, G, .eq (by kernel_rfl), hO, hI⟩ ?_
    clear hO hI
    rintro k1 s out2 T H ⟨lo14, G, hT, hO, hI⟩ h2 ho1
    obtain ⟨sg, i3, f5⟩ := s
    replace h2 : iG eP t1 r4 sg i3 f5 = some out2 := h2
    dsimp only at hT
    refine aZ hT ?_
    clear hT
    unfold iG at h2
    refine aO ?_
    refine aO ?_
    refine aT aH 13 ?_
    obtain ⟨c15, h2⟩ := bA h2
    refine oG 11 [(((decide (i3 < (lN t1)))) = true → 0 ≤ i3 ∧ i3 < (lN t1))] ⟨c15, trivial⟩ ?_
    obtain ⟨x16, hx17, h2⟩ := aX h2
    refine mG [(20, true)] 77 [(eL aG ((gD t1 i3).Row)), (eL aG r4)] (aK x16) (decide (i3 < (lN t1))) (by kernel_rfl) (by kernel_rfl) (by kernel_rfl) (fun hb18 => (EK ((gD t1 i3).Row) r4 _ (jO hx17 hb18))) hO ?_
    intro H hO
    refine bB ?_
    refine bP [] [(28, (aK ((decide (i3 < (lN t1))) && x16)))] ?_
    refine bF h2 (fun h2 => ?_) (fun h2 => ?_)
    · refine bH ?_
      refine bD [(0, (yv yield0_b)), (1, (.rp (eL aD t1))), (3, (eI i3)), (4, (eL aG r4)), (5, (.msl 2 lo14 0 (List.length f5)))] ?_
      refine aO ?_
      refine bN 3 ?_
      refine hU (hM [32, 36, 37, 41]) aH 15 ?_
      obtain ⟨c20, h2⟩ := bA h2
      obtain ⟨c21, h2⟩ := bA h2
      refine cV 12 [0 ≤ i3 ∧ i3 < (lN t1), 0 ≤ i3 ∧ i3 < (lN t1)] ⟨c20, c21, trivial⟩ ?_
      refine DZ (xs := [(aE (aB.mk ((gD t1 i3).At) ((gD t1 i3).Net)))]) (k := 2) (by kernel_rfl) (by kernel_rfl) ?_
      obtain ⟨c23, h2⟩ := bA h2
      refine CY (e := aE) f5 ([aB.mk ((gD t1 i3).At) ((gD t1 i3).Net)]) 0 lo14 2 16 (fV [(aE (aB.mk ((gD t1 i3).At) ((gD t1 i3).Net)))]) (fun lo22 => [(lo22, 2, List.map aE (f5 ++ ([aB.mk ((gD t1 i3).At) ((gD t1 i3).Net)])))]) (by kernel_rfl) (by kernel_rfl) hO (by kernel_rfl) (by kernel_rfl) c23 (fun _ => by kernel_rfl) ?_
      intro lo22 H hO
      refine jN ?_
      refine cY [(0, (yv yield0_b)), (1, (.rp (eL aD t1))), (3, (eI i3)), (4, (eL aG r4)), (5, (.msl 2 lo22 0 (List.length (f5 ++ ([aB.mk ((gD t1 i3).At) ((gD t1 i3).Net)])))))] ?_
      refine aJ (aV (aI (?_)))
      refine aT aH 3 ?_
      refine bB ?_
      exact aJ (aI (⟨rfl, _, (oI h2).symm, _, _, .eq (by kernel_rfl), hO, hI⟩))
    refine dG 2 ?_
    obtain rfl := oI h2
    obtain rfl : _ = rr1 := ho1
    replace h1 : oX eP sg t1 i3 r4 f5 = some out1 := h1
    exact aJ (aR (aR (bL (aI (⟨rfl, _, _, _, _, _, _, .eq (by kernel_rfl), hO, hI, h1⟩)))))
  refine dG 0 ?_
  obtain rfl := oI h1
  obtain rfl : _ = rr0 := ho0
  replace h0 : some sg = some r := h0
  obtain rfl := oI h0
  exact aJ (aR (aR (bL (rD (x := (.tup [])) (by kernel_rfl) (aS.refl _) ⟨rfl, G, hI, hO.FW⟩))))

theorem tF (s0 : (List aF)) (f1_f : Nat) (f1_a f1_c : List V) (f1 : aF → Option Bool) (f1_h : ∀ a0 r, f1 a0 = some r → bR Try.prog f1_f (f1_a ++ [(aG a0)] ++ f1_c) (aK r)) (r : Int) (h0 : fR s0 f1 = some r) : bR Try.prog 91 [(eL aG s0), (.fn (.func f1_f) f1_a f1_c)] (eI r) := by
  intro H0
  refine bY Try.func91 ?_
  have hO := aL.start H0
  unfold fR at h0
  refine aU aH 1 [] [] ?_
  refine cL (fun T H => Has T [] ∧ aL ⟨H0, [], []⟩ H [] ∧ dN f1  = some r) ?_ ?_
  · clear hO h0
    rintro T H ⟨hT, hO, h0⟩
    refine aZ hT ?_
    clear hT
    unfold dN at h0
    refine bM aH 1 [(4, (eI (-1 : Int)))] ?_
    refine bE ?_
    obtain rfl := oI h0
    exact aJ (Q_r hO)
  refine aU aH 3 [] [(7, (eI (lN s0))), (8, (eI (0 : Int)))] ?_
  refine bN 0 ?_
  refine cR [(0, (eL aG s0)), (1, (.fn (.func f1_f) f1_a f1_c)), (7, (eI (lN s0))), (8, (eI (0 : Int)))] ?_
  refine cG (fun T H => ∃ t7 : Int, ∃ t8 : Int, Has T [(0, (eL aG s0)), (1, (.fn (.func f1_f) f1_a f1_c)), (7, (eI t7)), (8, (eI t8))] ∧ aL ⟨H0, [], []⟩ H [] ∧ fN f1 s0 t7 t8 = some r) ?_ ⟨(lN s0), (0 : Int), .eq (by kernel_rfl), hO, h0⟩
  clear hO h0
  rintro T H ⟨t7, t8, hT, hO, h0⟩
  refine aZ hT ?_
  clear hT
  unfold fN at h0
  obtain ⟨rr0, hl0, h0⟩ := aX h0
  refine bV (by kernel_rfl) (fun (s : Int) T H => Has T [(0, (eL aG s0)), (1, (.fn (.func f1_f) f1_a f1_c)), (7, (eI t7)), (8, (eI s))] ∧ aL ⟨H0, [], []⟩ H []) hl0 ⟨.eq (by kernel_rfl), hO⟩ ?_
  clear hO
  rintro k0 s out1 T H ⟨hT, hO⟩ h1 ho0
  obtain ⟨t8, rfl⟩ : ∃ x, x = s := ⟨_, rfl⟩
  replace h1 : fJ f1 s0 t7 t8 = some out1 := h1
  refine aZ hT ?_
  clear hT
  unfold fJ at h1
  refine aU aH 1 [] [(9, (aK (decide (t8 < t7))))] ?_
  refine aO ?_
  refine bF h1 (fun h1 => ?_) (fun h1 => ?_)
  · refine bH ?_
    refine bD [(0, (eL aG s0)), (1, (.fn (.func f1_f) f1_a f1_c)), (7, (eI t7)), (8, (eI t8))] ?_
    refine aO ?_
    refine bN 1 ?_
    refine aU aH 2 [] [(5, (eI t8))] ?_
    refine aO ?_
    refine aT aH 6 ?_
    obtain ⟨c2, h1⟩ := bA h1
    refine oG 5 [0 ≤ t8 ∧ t8 < (lN s0)] ⟨c2, trivial⟩ ?_
    obtain ⟨x3, hx4, h1⟩ := aX h1
    refine cJ (f1_h (gD s0 t8) _ hx4) hO ?_
    intro H hO
    refine cU ?_
    refine bP [] [(16, (aK x3))] ?_
    refine bF h1 (fun h1 => ?_) (fun h1 => ?_)
    · refine bM aH 2 [(4, (eI t8))] ?_
      refine bE ?_
      obtain rfl := oI h1
      obtain rfl : _ = rr0 := ho0
      replace h0 : some t8 = some r := h0
      obtain rfl := oI h0
      exact aJ (bJ (aP (aP (bJ (aP (Q_r hO))))))
    refine bH ?_
    refine cY [(0, (eL aG s0)), (1, (.fn (.func f1_f) f1_a f1_c)), (7, (eI t7)), (8, (eI t8))] ?_
    refine aJ (aV (aI (?_)))
    refine aT aH 2 ?_
    refine bB ?_
    exact aJ (aI (⟨rfl, _, (oI h1).symm, .eq (by kernel_rfl), hO⟩))
  refine dG 0 ?_
  obtain rfl := oI h1
  obtain rfl : _ = rr0 := ho0
  replace h0 : dN f1  = some r := h0
  exact aJ (aR (aR (bL (aI (⟨rfl, .eq (by kernel_rfl), hO, h0⟩)))))

theorem rQ (s0 : (List aF)) (f1_f : Nat) (f1_a f1_c : List V) (f1 : aF → Option Bool) (f1_h : ∀ a0 r, f1 a0 = some r → bR Try.prog f1_f (f1_a ++ [(aG a0)] ++ f1_c) (aK r)) (r : Bool) (h0 : dJ s0 f1 = some r) : bR Try.prog 87 [(eL aG s0), (.fn (.func f1_f) f1_a f1_c)] (aK r) := by
  intro H0
  refine bY Try.func87 ?_
  have hO := aL.start H0
  unfold dJ at h0
  refine aU aH 1 [] [] ?_
  refine aO ?_
  refine aT aH 5 ?_
  refine bO 2 ?_
  obtain ⟨x1, hx2, h0⟩ := aX h0
  refine cJ (tF s0 f1_f f1_a f1_c f1 f1_h _ hx2) hO ?_
  intro H hO
  refine bB ?_
  refine bD [(4, (aK (decide ((0 : Int) ≤ x1))))] ?_
  refine bE ?_
  obtain rfl := oI h0
  exact aJ (Q_r hO)

theorem xT (v0 : aF) (r : (bI × Bool)) (h0 : lJ v0 = some r) : bR Try.prog 111 [(aG v0)] (.tup [(bG r.1), (aK r.2)]) := by
  intro H0
  refine bY Try.func111 ?_
  have hO := aL.start H0
  unfold lJ at h0
  refine aO ?_
  refine aT aH 3 ?_
  refine eX 3 (aG v0) (by kernel_rfl) (by kernel_rfl) ?_
  refine bB ?_
  refine bD [(1, (.rp (aG v0)))] ?_
  refine aO ?_
  refine bN 0 ?_
  refine aU aH 9 [] [(4, (aK ((decide (v0.Kind = (1 : Int))) && (nJ v0.Text (⟨#[]⟩ : ByteArray)))))] ?_
  refine bF h0 (fun h0 => ?_) (fun h0 => ?_)
  · refine bM aH 5 [(2, (bG (bI.k_number v0.Num))), (3, (aK true))] ?_
    refine bE ?_
    obtain rfl := oI h0
    exact aJ (bJ (aP (Q_r hO)))
  refine aU aH 15 [4] [(16, (aK (((decide (v0.Kind = (2 : Int))) && (decide (v0.Num = (0 : Int)))) && (decide (((ByteArray.size v0.Text : Nat) : Int) ≤ (64 : Int))))))] ?_
  refine bF h0 (fun h0 => ?_) (fun h0 => ?_)
  · refine bM aH 5 [(2, (bG (bI.k_words v0.Text))), (3, (aK true))] ?_
    refine bE ?_
    obtain rfl := oI h0
    exact aJ (bJ (aP (Q_r hO)))
  refine bH ?_
  refine cY [] ?_
  refine aJ (aV (aI (?_)))
  refine bM aH 2 [(2, (bG bI.none_)), (3, (aK false))] ?_
  refine bE ?_
  obtain rfl := oI h0
  exact aJ (Q_r hO)

theorem SU (v0 : aF) (r : Bool) (h0 : vC v0 = some r) : bR Try.prog 89 [(aG v0)] (aK r) := by
  intro H0
  refine bY Try.func89 ?_
  have hO := aL.start H0
  unfold vC at h0
  refine aO ?_
  refine aT aH 2 ?_
  refine eX 3 (aG v0) (by kernel_rfl) (by kernel_rfl) ?_
  refine bB ?_
  refine bD [(1, (.rp (aG v0)))] ?_
  refine aO ?_
  refine aT aH 7 ?_
  refine bO 1 ?_
  obtain ⟨⟨x1_0, x1_1⟩, hx2, h0⟩ := aX h0
  refine cJ (xT v0 _ hx2) hO ?_
  intro H hO
  rcases x1_0 with _ | y4 | y5
  · replace h0 : (some x1_1) = some r := h0
    refine bB ?_
    refine bD [(4, (aK x1_1))] ?_
    refine bM aH 2 [(2, (aK x1_1))] ?_
    refine bE ?_
    obtain rfl := oI h0
    exact aJ (Q_r hO)
  · replace h0 : (some x1_1) = some r := h0
    refine bB ?_
    refine bD [(4, (aK x1_1))] ?_
    refine bM aH 2 [(2, (aK x1_1))] ?_
    refine bE ?_
    obtain rfl := oI h0
    exact aJ (Q_r hO)
  · replace h0 : (some x1_1) = some r := h0
    refine bB ?_
    refine bD [(4, (aK x1_1))] ?_
    refine bM aH 2 [(2, (aK x1_1))] ?_
    refine bE ?_
    obtain rfl := oI h0
    exact aJ (Q_r hO)

theorem SL (v0 : aF) (r : Bool) (h0 : uV v0 = some r) : bR Try.prog 88 [(aG v0)] (aK r) := by
  intro H0
  refine bY Try.func88 ?_
  have hO := aL.start H0
  unfold uV at h0
  refine aO ?_
  refine aT aH 2 ?_
  refine eX 3 (aG v0) (by kernel_rfl) (by kernel_rfl) ?_
  refine bB ?_
  refine bD [(1, (.rp (aG v0)))] ?_
  refine aO ?_
  refine aT aH 4 ?_
  refine bO 1 ?_
  obtain ⟨x1, hx2, h0⟩ := aX h0
  refine cJ (SU v0 _ hx2) hO ?_
  intro H hO
  refine bB ?_
  refine bD [(2, (aK (!x1)))] ?_
  refine bE ?_
  obtain rfl := oI h0
  exact aJ (Q_r hO)

theorem wV (r0 : (List aF)) (r : Bool) (h0 : oP r0 = some r) : bR Try.prog 55 [(eL aG r0)] (aK r) := by
  intro H0
  refine bY Try.func55 ?_
  have hO := aL.start H0
  unfold oP at h0
  refine aU aH 1 [] [] ?_
  refine aO ?_
  refine aU aH 3 [] [(5, (aK (decide ((8 : Int) < (lN r0)))))] ?_
  refine bF h0 (fun h0 => ?_) (fun h0 => ?_)
  · refine bM aH 1 [(2, (aK false))] ?_
    refine bE ?_
    obtain rfl := oI h0
    exact aJ (aP (Q_r hO))
  refine bH ?_
  refine bD [(0, (eL aG r0))] ?_
  refine aO ?_
  refine aT aH 4 ?_
  refine bO 1 ?_
  obtain ⟨x2, hx3, h0⟩ := aX h0
  refine cJ (rQ r0 88 [] [] (fun y0 => uV y0) (fun y0 r h => SL y0 r h) _ hx3) hO ?_
  intro H hO
  refine bB ?_
  refine bD [(2, (aK (!x2)))] ?_
  refine bE ?_
  obtain rfl := oI h0
  exact aJ (Q_r hO)

theorem KQ (t0 : (List aF)) (r : (Int × (List aF))) (h0 : sY t0 = some r) : zC Try.prog 92 [(.rp (eL aG t0))] (fun lo => (.fn (.func 93) [] [(.lp lo 0 0), (.rp (eL aG r.2))])) 1 [(eI r.1)] := by
  intro H0
  refine bY Try.func92 ?_
  have hO := aL.start H0
  unfold sY at h0
  refine aU aH 1 [] [] ?_
  refine aO ?_
  refine aT aH 2 ?_
  refine tI 1 (eI 0) (by kernel_rfl) (by kernel_rfl) hO ?_
  intro lo1 H hO
  refine nU 0 lo1 1 0 (eI 0) (eI (-1 : Int)) [(eI 0)] [(lo1, 1, [(eI (-1 : Int))])] hO rfl (by kernel_rfl) ?_
  intro H hO
  refine cU ?_
  refine bP [] [(2, (.lp lo1 0 0))] ?_
  refine bM aH 2 [(1, (.fn (.func 93) [] [(.lp lo1 0 0), (.rp (eL aG t0))]))] ?_
  refine bE ?_
  obtain rfl := oI h0
  exact aJ (oK (x := (.fn (.func 93) [] [(.lp lo1 0 0), (.rp (eL aG t0))])) (by kernel_rfl) (aS.refl _) ⟨lo1, rfl, hO⟩)

theorem sV {σ : Type} (I : σ → Gs → Prop) (s0 : (List aF)) (f1_v : V) (f1 : σ → aF → Option (σ × Bool)) (f1_h : ∀ st a0 st2 r, f1 st a0 = some (st2, r) → GZ Try.prog f1_v I st [(aG a0)] st2 (aK r)) (sg0 : σ) (r : (σ × Int)) (h0 : fE s0 f1 sg0 = some r) : AN Try.prog 91 I sg0 [(eL aG s0), f1_v] r.1 (eI r.2) := by
  intro H0 G0 hI hg
  refine bY Try.func91 ?_
  obtain ⟨G, hO, hI⟩ : ∃ G, aL ⟨H0, List.map (fun p : Nat × cX => p.1) G0, G⟩ H0 [] ∧ I sg0 G := ⟨G0, aL.KE hg, hI⟩
  clear hg
  unfold fE at h0
  refine aU aH 1 [] [] ?_
  refine cL (fun T H => ∃ sg : σ, ∃ G : Gs, Has T [] ∧ aL ⟨H0, List.map (fun p : Nat × cX => p.1) G0, G⟩ H [] ∧ I sg G ∧ dI f1 sg = some r) ?_ ?_
  · clear hO hI h0
    rintro T H ⟨sg, G, hT, hO, hI, h0⟩
    refine aZ hT ?_
    clear hT
    unfold dI at h0
    refine bM aH 1 [(4, (eI (-1 : Int)))] ?_
    refine bE ?_
    obtain rfl := oI h0
    exact aJ (oK (x := (eI (-1 : Int))) (by kernel_rfl) (aS.refl _) ⟨rfl, G, hI, hO.FW⟩)
  refine aU aH 3 [] [(7, (eI (lN s0))), (8, (eI (0 : Int)))] ?_
  refine bN 0 ?_
  refine cR [(0, (eL aG s0)), (1, f1_v), (7, (eI (lN s0))), (8, (eI (0 : Int)))] ?_
  refine cG (fun T H => ∃ sg : σ, ∃ t7 : Int, ∃ t8 : Int, ∃ G : Gs, Has T [(0, (eL aG s0)), (1, f1_v), (7, (eI t7)), (8, (eI t8))] ∧ aL ⟨H0, List.map (fun p : Nat × cX => p.1) G0, G⟩ H [] ∧ I sg G ∧ eU f1 sg s0 t7 t8 = some r) ?_ ⟨sg0, (lN s0), (0 : Int), G, .eq (by kernel_rfl), hO, hI, h0⟩
  clear hO hI h0
  rintro T H ⟨sg, t7, t8, G, hT, hO, hI, h0⟩
  refine aZ hT ?_
  clear hT
  unfold eU at h0
  obtain ⟨rr0, hl0, h0⟩ := aX h0
  refine bV (by kernel_rfl) (fun (s : σ × Int) T H => ∃ G : Gs, Has T [(0, (eL aG s0)), (1, f1_v), (7, (eI t7)), (8, (eI s.2))] ∧ aL ⟨H0, List.map (fun p : Nat × cX => p.1) G0, G⟩ H [] ∧ I s.1 G) hl0 ⟨G, .eq (by kernel_rfl), hO, hI⟩ ?_
  clear hO hI
  rintro k0 s out1 T H ⟨G, hT, hO, hI⟩ h1 ho0
  obtain ⟨sg, t8⟩ := s
  replace h1 : bU f1 s0 t7 sg t8 = some out1 := h1
  dsimp only at hT
  refine aZ hT ?_
  clear hT
  unfold bU at h1
  refine aU aH 1 [] [(9, (aK (decide (t8 < t7))))] ?_
  refine aO ?_
  refine bF h1 (fun h1 => ?_) (fun h1 => ?_)
  · refine bH ?_
    refine bD [(0, (eL aG s0)), (1, f1_v), (7, (eI t7)), (8, (eI t8))] ?_
    refine aO ?_
    refine bN 1 ?_
    refine aU aH 2 [] [(5, (eI t8))] ?_
    refine aO ?_
    refine aT aH 6 ?_
    obtain ⟨c2, h1⟩ := bA h1
    refine oG 5 [0 ≤ t8 ∧ t8 < (lN s0)] ⟨c2, trivial⟩ ?_
    obtain ⟨x3, hx4, h1⟩ := aX h1
    refine SY (I := I) f1_v [(aG (gD s0 t8))] (aK x3.2) (by kernel_rfl) (by kernel_rfl) (f1_h _ (gD s0 t8) x3.1 x3.2 hx4) hO hI ?_
    intro G H hO hI
    refine cU ?_
    refine bP [] [(16, (aK x3.2))] ?_
    refine bF h1 (fun h1 => ?_) (fun h1 => ?_)
    · refine bM aH 2 [(4, (eI t8))] ?_
      refine bE ?_
      obtain rfl := oI h1
      obtain rfl : _ = rr0 := ho0
      replace h0 : some (x3.1, t8) = some r := h0
      obtain rfl := oI h0
      exact aJ (bJ (aP (aP (bJ (aP (oK (x := (eI t8)) (by kernel_rfl) (aS.refl _) ⟨rfl, G, hI, hO.FW⟩))))))
    refine bH ?_
    refine cY [(0, (eL aG s0)), (1, f1_v), (7, (eI t7)), (8, (eI t8))] ?_
    refine aJ (aV (aI (?_)))
    refine aT aH 2 ?_
    refine bB ?_
    exact aJ (aI (⟨rfl, _, (oI h1).symm, _, .eq (by kernel_rfl), hO, hI⟩))
  refine dG 0 ?_
  obtain rfl := oI h1
  obtain rfl : _ = rr0 := ho0
  replace h0 : dI f1 sg = some r := h0
  exact aJ (aR (aR (bL (aI (⟨rfl, _, _, .eq (by kernel_rfl), hO, hI, h0⟩)))))

theorem HD (v0 : aF) (lo1p : Nat) (t1 : Int) (t2 : (List aF)) (r : (Bool × Int)) (h0 : jL v0 t1 t2 = some r) : lF Try.prog 93 lo1p 1 [(eI t1)] [(eI r.2)] [(aG v0), (.lp lo1p 0 0), (.rp (eL aG t2))] (aK r.1) := by
  intro H0 hl0
  refine bY Try.func93 ?_
  have hO := aL.pI hl0
  clear hl0
  unfold jL at h0
  refine aO ?_
  refine aT aH 2 ?_
  refine eX 3 (aG v0) (by kernel_rfl) (by kernel_rfl) ?_
  refine bB ?_
  refine bP [0] [(3, (.rp (aG v0)))] ?_
  refine aO ?_
  refine aT aH 3 ?_
  refine zY 0 lo1p 1 0 (eI t1) (eI t1) [(eI t1)] hO rfl ?_
  refine bO 2 ?_
  refine nU 0 lo1p 1 0 (eI t1) (eI (wR (t1 + (1 : Int)))) [(eI t1)] [(lo1p, 1, [(eI (wR (t1 + (1 : Int))))])] hO rfl (by kernel_rfl) ?_
  intro H hO
  refine cU ?_
  refine bP [] [] ?_
  refine aO ?_
  refine hU (hM [7, 8, 11]) aH 7 ?_
  refine mT 2 ?_
  refine lR 0 lo1p 1 0 (eI (wR (t1 + (1 : Int)))) (eI (wR (t1 + (1 : Int)))) [(eI (wR (t1 + (1 : Int))))] hO rfl ?_
  obtain ⟨c1, h0⟩ := bA h0
  refine EJ (Ds := [0 ≤ (wR (t1 + (1 : Int))) ∧ (wR (t1 + (1 : Int))) < (lN t2)]) (by kernel_rfl) ⟨c1, trivial⟩ ?_
  refine bD [(1, (.lp lo1p 0 0)), (4, (aK (!((decide (v0.Kind = ((gD t2 (wR (t1 + (1 : Int)))).Kind))) && ((decide (v0.Num = ((gD t2 (wR (t1 + (1 : Int)))).Num))) && ((nJ v0.Text ((gD t2 (wR (t1 + (1 : Int)))).Text)) && true))))))] ?_
  refine bE ?_
  obtain rfl := oI h0
  exact aJ (oK (x := (aK (!((decide (v0.Kind = ((gD t2 (wR (t1 + (1 : Int)))).Kind))) && ((decide (v0.Num = ((gD t2 (wR (t1 + (1 : Int)))).Num))) && ((nJ v0.Text ((gD t2 (wR (t1 + (1 : Int)))).Text)) && true)))))) (by kernel_rfl) (aS.refl _) ⟨rfl, hO.ext, hO.at 0 (by kernel_rfl), rfl⟩)

theorem CB (x0 : Int) (r : Bool) (h0 : nQ x0 = some r) : bR Try.prog 95 [(eI x0)] (aK r) := by
  intro H0
  refine bY Try.func95 ?_
  have hO := aL.start H0
  unfold nQ at h0
  refine aU aH 1 [] [] ?_
  refine bM aH 4 [(2, (aK (!decide (x0 = x0))))] ?_
  refine bE ?_
  obtain rfl := oI h0
  exact aJ (Q_r hO)

theorem uR (x0 : Int) (y1 : Int) (r : Int) (h0 : jM x0 y1 = some r) : bR Try.prog 62 [(eI x0), (eI y1)] (eI r) := by
  intro H0
  refine bY Try.func62 ?_
  have hO := aL.start H0
  unfold jM at h0
  refine aU aH 1 [] [] ?_
  refine aO ?_
  refine aT aH 3 ?_
  refine bO 1 ?_
  obtain ⟨x1, hx2, h0⟩ := aX h0
  refine cJ (CB x0 _ hx2) hO ?_
  intro H hO
  refine bB ?_
  refine bP [] [(5, (aK x1))] ?_
  refine aO ?_
  refine aT aH 3 ?_
  refine bO 1 ?_
  obtain ⟨x4, hx5, h0⟩ := aX h0
  refine cJ (CB y1 _ hx5) hO ?_
  intro H hO
  refine bB ?_
  refine bP [] [(6, (aK x4))] ?_
  refine aO ?_
  refine aU aH 1 [5] [(11, (aK x1))] ?_
  refine bF h0 (fun h0 => ?_) (fun h0 => ?_)
  · refine aO ?_
    refine bM aH 1 [(12, (aK x4))] ?_
    refine bF h0 (fun h0 => ?_) (fun h0 => ?_)
    · refine bM aH 1 [(4, (eI (0 : Int)))] ?_
      refine bE ?_
      obtain rfl := oI h0
      exact aJ (aP (aP (Q_r hO)))
    refine bH ?_
    refine bD [] ?_
    refine bM aH 1 [(4, (eI (-1 : Int)))] ?_
    refine bE ?_
    obtain rfl := oI h0
    exact aJ (aP (Q_r hO))
  refine bH ?_
  refine bD [(0, (eI x0)), (1, (eI y1)), (6, (aK x4))] ?_
  refine aO ?_
  refine aU aH 1 [6] [(13, (aK x4))] ?_
  refine bF h0 (fun h0 => ?_) (fun h0 => ?_)
  · refine bM aH 1 [(4, (eI (1 : Int)))] ?_
    refine bE ?_
    obtain rfl := oI h0
    exact aJ (aP (Q_r hO))
  refine bH ?_
  refine bD [(0, (eI x0)), (1, (eI y1))] ?_
  refine aO ?_
  refine aU aH 3 [] [(16, (aK (decide (x0 < y1))))] ?_
  refine bF h0 (fun h0 => ?_) (fun h0 => ?_)
  · refine bM aH 1 [(4, (eI (-1 : Int)))] ?_
    refine bE ?_
    obtain rfl := oI h0
    exact aJ (aP (Q_r hO))
  refine bH ?_
  refine bD [(0, (eI x0)), (1, (eI y1))] ?_
  refine aO ?_
  refine bM aH 3 [(19, (aK (decide (y1 < x0))))] ?_
  refine bF h0 (fun h0 => ?_) (fun h0 => ?_)
  · refine bM aH 1 [(4, (eI (1 : Int)))] ?_
    refine bE ?_
    obtain rfl := oI h0
    exact aJ (aP (Q_r hO))
  refine bH ?_
  refine bD [] ?_
  refine bM aH 1 [(4, (eI (0 : Int)))] ?_
  refine bE ?_
  obtain rfl := oI h0
  exact aJ (Q_r hO)

theorem tC (x0 : Int) (r : Bool) (h0 : jR x0 = some r) : bR Try.prog 119 [(eI x0)] (aK r) := by
  intro H0
  refine bY Try.func119 ?_
  have hO := aL.start H0
  unfold jR at h0
  refine aU aH 1 [] [] ?_
  refine bM aH 4 [(2, (aK (!decide (x0 = x0))))] ?_
  refine bE ?_
  obtain rfl := oI h0
  exact aJ (Q_r hO)

theorem zU (x0 : Int) (y1 : Int) (r : Int) (h0 : eA x0 y1 = some r) : bR Try.prog 114 [(eI x0), (eI y1)] (eI r) := by
  intro H0
  refine bY Try.func114 ?_
  have hO := aL.start H0
  unfold eA at h0
  refine aU aH 1 [] [] ?_
  refine aO ?_
  refine aT aH 3 ?_
  refine bO 1 ?_
  obtain ⟨x1, hx2, h0⟩ := aX h0
  refine cJ (tC x0 _ hx2) hO ?_
  intro H hO
  refine bB ?_
  refine bP [] [(5, (aK x1))] ?_
  refine aO ?_
  refine aT aH 3 ?_
  refine bO 1 ?_
  obtain ⟨x4, hx5, h0⟩ := aX h0
  refine cJ (tC y1 _ hx5) hO ?_
  intro H hO
  refine bB ?_
  refine bP [] [(6, (aK x4))] ?_
  refine aO ?_
  refine aU aH 1 [5] [(11, (aK x1))] ?_
  refine bF h0 (fun h0 => ?_) (fun h0 => ?_)
  · refine aO ?_
    refine bM aH 1 [(12, (aK x4))] ?_
    refine bF h0 (fun h0 => ?_) (fun h0 => ?_)
    · refine bM aH 1 [(4, (eI (0 : Int)))] ?_
      refine bE ?_
      obtain rfl := oI h0
      exact aJ (aP (aP (Q_r hO)))
    refine bH ?_
    refine bD [] ?_
    refine bM aH 1 [(4, (eI (-1 : Int)))] ?_
    refine bE ?_
    obtain rfl := oI h0
    exact aJ (aP (Q_r hO))
  refine bH ?_
  refine bD [(0, (eI x0)), (1, (eI y1)), (6, (aK x4))] ?_
  refine aO ?_
  refine aU aH 1 [6] [(13, (aK x4))] ?_
  refine bF h0 (fun h0 => ?_) (fun h0 => ?_)
  · refine bM aH 1 [(4, (eI (1 : Int)))] ?_
    refine bE ?_
    obtain rfl := oI h0
    exact aJ (aP (Q_r hO))
  refine bH ?_
  refine bD [(0, (eI x0)), (1, (eI y1))] ?_
  refine aO ?_
  refine aU aH 3 [] [(16, (aK (decide (x0 < y1))))] ?_
  refine bF h0 (fun h0 => ?_) (fun h0 => ?_)
  · refine bM aH 1 [(4, (eI (-1 : Int)))] ?_
    refine bE ?_
    obtain rfl := oI h0
    exact aJ (aP (Q_r hO))
  refine bH ?_
  refine bD [(0, (eI x0)), (1, (eI y1))] ?_
  refine aO ?_
  refine bM aH 3 [(19, (aK (decide (y1 < x0))))] ?_
  refine bF h0 (fun h0 => ?_) (fun h0 => ?_)
  · refine bM aH 1 [(4, (eI (1 : Int)))] ?_
    refine bE ?_
    obtain rfl := oI h0
    exact aJ (aP (Q_r hO))
  refine bH ?_
  refine bD [] ?_
  refine bM aH 1 [(4, (eI (0 : Int)))] ?_
  refine bE ?_
  obtain rfl := oI h0
  exact aJ (Q_r hO)

theorem wJ (a0 : ByteArray) (b1 : ByteArray) (r : Int) (h0 : iD a0 b1 = some r) : bR Try.prog 120 [(yQ a0), (yQ b1)] (eI r) := by
  intro H0
  refine bY Try.func120 ?_
  have hO := aL.start H0
  unfold iD at h0
  refine aU aH 1 [] [] ?_
  refine aO ?_
  refine aT aH 4 ?_
  refine bO 2 ?_
  refine aAP 124 [(yQ a0), (yQ b1)] (eI (LF a0 b1)) (by kernel_rfl) (by kernel_rfl) (ZL Try.func124 (by kernel_rfl) (by kernel_rfl) (by kernel_rfl) (by kernel_rfl) a0 b1) hO ?_
  intro H hO
  refine bB ?_
  refine bD [(4, (eI (LF a0 b1)))] ?_
  refine bE ?_
  obtain rfl := oI h0
  exact aJ (Q_r hO)

theorem HF (a0 : ByteArray) (b1 : ByteArray) (r : Int) (h0 : mH a0 b1 = some r) : bR Try.prog 115 [(yQ a0), (yQ b1)] (eI r) := by
  intro H0
  refine bY Try.func115 ?_
  have hO := aL.start H0
  unfold mH at h0
  refine aU aH 1 [] [] ?_
  refine aO ?_
  refine aT aH 4 ?_
  refine bO 2 ?_
  obtain ⟨x1, hx2, h0⟩ := aX h0
  refine cJ (wJ a0 b1 _ hx2) hO ?_
  intro H hO
  refine bB ?_
  refine bD [(4, (eI x1))] ?_
  refine bE ?_
  obtain rfl := oI h0
  exact aJ (Q_r hO)

theorem JJ (a0 : aF) (b1 : aF) (r : Int) (h0 : qC a0 b1 = some r) : bR Try.prog 94 [(aG a0), (aG b1)] (eI r) := by
  intro H0
  refine bY Try.func94 ?_
  have hO := aL.start H0
  unfold qC at h0
  refine aO ?_
  refine aT aH 3 ?_
  refine eX 3 (aG a0) (by kernel_rfl) (by kernel_rfl) ?_
  refine eX 3 (aG b1) (by kernel_rfl) (by kernel_rfl) ?_
  refine bB ?_
  refine bD [(2, (.rp (aG a0))), (3, (.rp (aG b1)))] ?_
  refine aO ?_
  refine aT aH 7 ?_
  refine bO 1 ?_
  obtain ⟨⟨x1_0, x1_1⟩, hx2, h0⟩ := aX h0
  refine cJ (xT a0 _ hx2) hO ?_
  intro H hO
  rcases x1_0 with _ | y4 | y5
  · replace h0 : ((lJ b1).bind fun (x6_0, x6_1) => match x6_0 with | .none_ => (cond ((!x1_1) || (!x6_1)) (some (0 : Int)) (none)) | .k_number y9 => (cond ((!x1_1) || (!x6_1)) (some (0 : Int)) (some (1 : Int))) | .k_words y10 => (cond ((!x1_1) || (!x6_1)) (some (0 : Int)) (none))) = some r := h0
    refine bB ?_
    refine bP [2] [(5, (bG bI.none_)), (6, (aK x1_1))] ?_
    refine aO ?_
    refine aT aH 7 ?_
    refine bO 1 ?_
    obtain ⟨⟨x6_0, x6_1⟩, hx7, h0⟩ := aX h0
    refine cJ (xT b1 _ hx7) hO ?_
    intro H hO
    rcases x6_0 with _ | y9 | y10
    · replace h0 : (cond ((!x1_1) || (!x6_1)) (some (0 : Int)) (none)) = some r := h0
      refine bB ?_
      refine bP [3] [(7, (bG bI.none_)), (8, (aK x6_1))] ?_
      refine aO ?_
      refine aU aH 6 [6, 8] [(28, (aK ((!x1_1) || (!x6_1))))] ?_
      refine bF h0 (fun h0 => ?_) (fun h0 => ?_)
      · refine bM aH 1 [(4, (eI (0 : Int)))] ?_
        refine bE ?_
        obtain rfl := oI h0
        exact aJ (aP (Q_r hO))
      refine bH ?_
      refine bD [(5, (bG bI.none_)), (7, (bG bI.none_))] ?_
      refine aU aH 7 [] [(9, (eI 0)), (10, (aK false))] ?_
      refine aU aH 7 [] [(11, (eI 0)), (12, (aK false))] ?_
      refine aO ?_
      refine bN 0 ?_
      refine aU aH 5 [] [(39, (aK false))] ?_
      refine nZ (false) (fun hc12 => ?_) (fun hc12 => ?_)
      · cases hc12
      · refine aU aH 2 [9, 10, 11, 39] [(47, (aK false))] ?_
        refine nZ (false) (fun hc13 => ?_) (fun hc13 => ?_)
        · cases hc13
        · refine bM aH 2 [(5, (bG bI.none_)), (7, (bG bI.none_)), (49, (aK false))] ?_
          refine nZ (false) (fun hc14 => ?_) (fun hc14 => ?_)
          · cases hc14
          · refine bH ?_
            refine cY [(5, (bG bI.none_)), (7, (bG bI.none_))] ?_
            refine aJ (aV (aI (?_)))
            refine aO ?_
            refine hU (hM []) aH 6 ?_
            cases h0
    · replace h0 : (cond ((!x1_1) || (!x6_1)) (some (0 : Int)) (some (1 : Int))) = some r := h0
      refine bB ?_
      refine bP [3] [(7, (bG (bI.k_number y9))), (8, (aK x6_1))] ?_
      refine aO ?_
      refine aU aH 6 [6, 8] [(28, (aK ((!x1_1) || (!x6_1))))] ?_
      refine bF h0 (fun h0 => ?_) (fun h0 => ?_)
      · refine bM aH 1 [(4, (eI (0 : Int)))] ?_
        refine bE ?_
        obtain rfl := oI h0
        exact aJ (aP (Q_r hO))
      refine bH ?_
      refine bD [(5, (bG bI.none_)), (7, (bG (bI.k_number y9)))] ?_
      refine aU aH 7 [] [(9, (eI 0)), (10, (aK false))] ?_
      refine aU aH 7 [] [(11, (eI y9)), (12, (aK true))] ?_
      refine aO ?_
      refine bN 0 ?_
      refine aU aH 5 [] [(39, (aK false))] ?_
      refine nZ (false) (fun hc16 => ?_) (fun hc16 => ?_)
      · cases hc16
      · refine aU aH 2 [9, 10, 11, 39] [(47, (aK false))] ?_
        refine nZ (false) (fun hc17 => ?_) (fun hc17 => ?_)
        · cases hc17
        · refine bM aH 2 [(5, (bG bI.none_)), (7, (bG (bI.k_number y9))), (49, (aK true))] ?_
          refine nZ (true) (fun hc18 => ?_) (fun hc18 => ?_)
          · refine bM aH 1 [(4, (eI (1 : Int)))] ?_
            refine bE ?_
            obtain rfl := oI h0
            exact aJ (bJ (aP (Q_r hO)))
          · cases hc18
    · replace h0 : (cond ((!x1_1) || (!x6_1)) (some (0 : Int)) (none)) = some r := h0
      refine bB ?_
      refine bP [3] [(7, (bG (bI.k_words y10))), (8, (aK x6_1))] ?_
      refine aO ?_
      refine aU aH 6 [6, 8] [(28, (aK ((!x1_1) || (!x6_1))))] ?_
      refine bF h0 (fun h0 => ?_) (fun h0 => ?_)
      · refine bM aH 1 [(4, (eI (0 : Int)))] ?_
        refine bE ?_
        obtain rfl := oI h0
        exact aJ (aP (Q_r hO))
      refine bH ?_
      refine bD [(5, (bG bI.none_)), (7, (bG (bI.k_words y10)))] ?_
      refine aU aH 7 [] [(9, (eI 0)), (10, (aK false))] ?_
      refine aU aH 7 [] [(11, (eI 0)), (12, (aK false))] ?_
      refine aO ?_
      refine bN 0 ?_
      refine aU aH 5 [] [(39, (aK false))] ?_
      refine nZ (false) (fun hc20 => ?_) (fun hc20 => ?_)
      · cases hc20
      · refine aU aH 2 [9, 10, 11, 39] [(47, (aK false))] ?_
        refine nZ (false) (fun hc21 => ?_) (fun hc21 => ?_)
        · cases hc21
        · refine bM aH 2 [(5, (bG bI.none_)), (7, (bG (bI.k_words y10))), (49, (aK false))] ?_
          refine nZ (false) (fun hc22 => ?_) (fun hc22 => ?_)
          · cases hc22
          · refine bH ?_
            refine cY [(5, (bG bI.none_)), (7, (bG (bI.k_words y10)))] ?_
            refine aJ (aV (aI (?_)))
            refine aO ?_
            refine hU (hM []) aH 6 ?_
            cases h0
  · replace h0 : ((lJ b1).bind fun (x23_0, x23_1) => match x23_0 with | .none_ => (cond ((!x1_1) || (!x23_1)) (some (0 : Int)) (some (-1 : Int))) | .k_number y26 => (cond ((!x1_1) || (!x23_1)) (some (0 : Int)) ((eA y4 y26).bind fun x33 => some x33)) | .k_words y27 => (cond ((!x1_1) || (!x23_1)) (some (0 : Int)) (some (-1 : Int)))) = some r := h0
    refine bB ?_
    refine bP [2] [(5, (bG (bI.k_number y4))), (6, (aK x1_1))] ?_
    refine aO ?_
    refine aT aH 7 ?_
    refine bO 1 ?_
    obtain ⟨⟨x23_0, x23_1⟩, hx24, h0⟩ := aX h0
    refine cJ (xT b1 _ hx24) hO ?_
    intro H hO
    rcases x23_0 with _ | y26 | y27
    · replace h0 : (cond ((!x1_1) || (!x23_1)) (some (0 : Int)) (some (-1 : Int))) = some r := h0
      refine bB ?_
      refine bP [3] [(7, (bG bI.none_)), (8, (aK x23_1))] ?_
      refine aO ?_
      refine aU aH 6 [6, 8] [(28, (aK ((!x1_1) || (!x23_1))))] ?_
      refine bF h0 (fun h0 => ?_) (fun h0 => ?_)
      · refine bM aH 1 [(4, (eI (0 : Int)))] ?_
        refine bE ?_
        obtain rfl := oI h0
        exact aJ (aP (Q_r hO))
      refine bH ?_
      refine bD [(5, (bG (bI.k_number y4))), (7, (bG bI.none_))] ?_
      refine aU aH 7 [] [(9, (eI y4)), (10, (aK true))] ?_
      refine aU aH 7 [] [(11, (eI 0)), (12, (aK false))] ?_
      refine aO ?_
      refine bN 0 ?_
      refine aU aH 5 [] [(39, (aK false))] ?_
      refine nZ (false) (fun hc29 => ?_) (fun hc29 => ?_)
      · cases hc29
      · refine aU aH 2 [9, 10, 11, 39] [(47, (aK true))] ?_
        refine nZ (true) (fun hc30 => ?_) (fun hc30 => ?_)
        · refine bM aH 1 [(4, (eI (-1 : Int)))] ?_
          refine bE ?_
          obtain rfl := oI h0
          exact aJ (bJ (aP (Q_r hO)))
        · cases hc30
    · replace h0 : (cond ((!x1_1) || (!x23_1)) (some (0 : Int)) ((eA y4 y26).bind fun x33 => some x33)) = some r := h0
      refine bB ?_
      refine bP [3] [(7, (bG (bI.k_number y26))), (8, (aK x23_1))] ?_
      refine aO ?_
      refine aU aH 6 [6, 8] [(28, (aK ((!x1_1) || (!x23_1))))] ?_
      refine bF h0 (fun h0 => ?_) (fun h0 => ?_)
      · refine bM aH 1 [(4, (eI (0 : Int)))] ?_
        refine bE ?_
        obtain rfl := oI h0
        exact aJ (aP (Q_r hO))
      refine bH ?_
      refine bD [(5, (bG (bI.k_number y4))), (7, (bG (bI.k_number y26)))] ?_
      refine aU aH 7 [] [(9, (eI y4)), (10, (aK true))] ?_
      refine aU aH 7 [] [(11, (eI y26)), (12, (aK true))] ?_
      refine aO ?_
      refine bN 0 ?_
      refine aU aH 5 [] [(39, (aK true))] ?_
      refine nZ (true) (fun hc32 => ?_) (fun hc32 => ?_)
      · refine aO ?_
        refine aT aH 4 ?_
        refine bO 2 ?_
        obtain ⟨x33, hx34, h0⟩ := aX h0
        refine cJ (zU y4 y26 _ hx34) hO ?_
        intro H hO
        refine bB ?_
        refine bD [(4, (eI x33))] ?_
        refine bE ?_
        obtain rfl := oI h0
        exact aJ (bJ (aP (Q_r hO)))
      · cases hc32
    · replace h0 : (cond ((!x1_1) || (!x23_1)) (some (0 : Int)) (some (-1 : Int))) = some r := h0
      refine bB ?_
      refine bP [3] [(7, (bG (bI.k_words y27))), (8, (aK x23_1))] ?_
      refine aO ?_
      refine aU aH 6 [6, 8] [(28, (aK ((!x1_1) || (!x23_1))))] ?_
      refine bF h0 (fun h0 => ?_) (fun h0 => ?_)
      · refine bM aH 1 [(4, (eI (0 : Int)))] ?_
        refine bE ?_
        obtain rfl := oI h0
        exact aJ (aP (Q_r hO))
      refine bH ?_
      refine bD [(5, (bG (bI.k_number y4))), (7, (bG (bI.k_words y27)))] ?_
      refine aU aH 7 [] [(9, (eI y4)), (10, (aK true))] ?_
      refine aU aH 7 [] [(11, (eI 0)), (12, (aK false))] ?_
      refine aO ?_
      refine bN 0 ?_
      refine aU aH 5 [] [(39, (aK false))] ?_
      refine nZ (false) (fun hc37 => ?_) (fun hc37 => ?_)
      · cases hc37
      · refine aU aH 2 [9, 10, 11, 39] [(47, (aK true))] ?_
        refine nZ (true) (fun hc38 => ?_) (fun hc38 => ?_)
        · refine bM aH 1 [(4, (eI (-1 : Int)))] ?_
          refine bE ?_
          obtain rfl := oI h0
          exact aJ (bJ (aP (Q_r hO)))
        · cases hc38
  · replace h0 : ((lJ b1).bind fun (x39_0, x39_1) => match x39_0 with | .none_ => (cond ((!x1_1) || (!x39_1)) (some (0 : Int)) (none)) | .k_number y42 => (cond ((!x1_1) || (!x39_1)) (some (0 : Int)) (some (1 : Int))) | .k_words y43 => (cond ((!x1_1) || (!x39_1)) (some (0 : Int)) ((mH y5 y43).bind fun x56 => some x56))) = some r := h0
    refine bB ?_
    refine bP [2] [(5, (bG (bI.k_words y5))), (6, (aK x1_1))] ?_
    refine aO ?_
    refine aT aH 7 ?_
    refine bO 1 ?_
    obtain ⟨⟨x39_0, x39_1⟩, hx40, h0⟩ := aX h0
    refine cJ (xT b1 _ hx40) hO ?_
    intro H hO
    rcases x39_0 with _ | y42 | y43
    · replace h0 : (cond ((!x1_1) || (!x39_1)) (some (0 : Int)) (none)) = some r := h0
      refine bB ?_
      refine bP [3] [(7, (bG bI.none_)), (8, (aK x39_1))] ?_
      refine aO ?_
      refine aU aH 6 [6, 8] [(28, (aK ((!x1_1) || (!x39_1))))] ?_
      refine bF h0 (fun h0 => ?_) (fun h0 => ?_)
      · refine bM aH 1 [(4, (eI (0 : Int)))] ?_
        refine bE ?_
        obtain rfl := oI h0
        exact aJ (aP (Q_r hO))
      refine bH ?_
      refine bD [(5, (bG (bI.k_words y5))), (7, (bG bI.none_))] ?_
      refine aU aH 7 [] [(9, (eI 0)), (10, (aK false))] ?_
      refine aU aH 7 [] [(11, (eI 0)), (12, (aK false))] ?_
      refine aO ?_
      refine bN 0 ?_
      refine aU aH 5 [] [(39, (aK false))] ?_
      refine nZ (false) (fun hc45 => ?_) (fun hc45 => ?_)
      · cases hc45
      · refine aU aH 2 [9, 10, 11, 39] [(47, (aK false))] ?_
        refine nZ (false) (fun hc46 => ?_) (fun hc46 => ?_)
        · cases hc46
        · refine bM aH 2 [(5, (bG (bI.k_words y5))), (7, (bG bI.none_)), (49, (aK false))] ?_
          refine nZ (false) (fun hc47 => ?_) (fun hc47 => ?_)
          · cases hc47
          · refine bH ?_
            refine cY [(5, (bG (bI.k_words y5))), (7, (bG bI.none_))] ?_
            refine aJ (aV (aI (?_)))
            refine aO ?_
            refine hU (hM []) aH 6 ?_
            cases h0
    · replace h0 : (cond ((!x1_1) || (!x39_1)) (some (0 : Int)) (some (1 : Int))) = some r := h0
      refine bB ?_
      refine bP [3] [(7, (bG (bI.k_number y42))), (8, (aK x39_1))] ?_
      refine aO ?_
      refine aU aH 6 [6, 8] [(28, (aK ((!x1_1) || (!x39_1))))] ?_
      refine bF h0 (fun h0 => ?_) (fun h0 => ?_)
      · refine bM aH 1 [(4, (eI (0 : Int)))] ?_
        refine bE ?_
        obtain rfl := oI h0
        exact aJ (aP (Q_r hO))
      refine bH ?_
      refine bD [(5, (bG (bI.k_words y5))), (7, (bG (bI.k_number y42)))] ?_
      refine aU aH 7 [] [(9, (eI 0)), (10, (aK false))] ?_
      refine aU aH 7 [] [(11, (eI y42)), (12, (aK true))] ?_
      refine aO ?_
      refine bN 0 ?_
      refine aU aH 5 [] [(39, (aK false))] ?_
      refine nZ (false) (fun hc49 => ?_) (fun hc49 => ?_)
      · cases hc49
      · refine aU aH 2 [9, 10, 11, 39] [(47, (aK false))] ?_
        refine nZ (false) (fun hc50 => ?_) (fun hc50 => ?_)
        · cases hc50
        · refine bM aH 2 [(5, (bG (bI.k_words y5))), (7, (bG (bI.k_number y42))), (49, (aK true))] ?_
          refine nZ (true) (fun hc51 => ?_) (fun hc51 => ?_)
          · refine bM aH 1 [(4, (eI (1 : Int)))] ?_
            refine bE ?_
            obtain rfl := oI h0
            exact aJ (bJ (aP (Q_r hO)))
          · cases hc51
    · replace h0 : (cond ((!x1_1) || (!x39_1)) (some (0 : Int)) ((mH y5 y43).bind fun x56 => some x56)) = some r := h0
      refine bB ?_
      refine bP [3] [(7, (bG (bI.k_words y43))), (8, (aK x39_1))] ?_
      refine aO ?_
      refine aU aH 6 [6, 8] [(28, (aK ((!x1_1) || (!x39_1))))] ?_
      refine bF h0 (fun h0 => ?_) (fun h0 => ?_)
      · refine bM aH 1 [(4, (eI (0 : Int)))] ?_
        refine bE ?_
        obtain rfl := oI h0
        exact aJ (aP (Q_r hO))
      refine bH ?_
      refine bD [(5, (bG (bI.k_words y5))), (7, (bG (bI.k_words y43)))] ?_
      refine aU aH 7 [] [(9, (eI 0)), (10, (aK false))] ?_
      refine aU aH 7 [] [(11, (eI 0)), (12, (aK false))] ?_
      refine aO ?_
      refine bN 0 ?_
      refine aU aH 5 [] [(39, (aK false))] ?_
      refine nZ (false) (fun hc53 => ?_) (fun hc53 => ?_)
      · cases hc53
      · refine aU aH 2 [9, 10, 11, 39] [(47, (aK false))] ?_
        refine nZ (false) (fun hc54 => ?_) (fun hc54 => ?_)
        · cases hc54
        · refine bM aH 2 [(5, (bG (bI.k_words y5))), (7, (bG (bI.k_words y43))), (49, (aK false))] ?_
          refine nZ (false) (fun hc55 => ?_) (fun hc55 => ?_)
          · cases hc55
          · refine bH ?_
            refine cY [(5, (bG (bI.k_words y5))), (7, (bG (bI.k_words y43)))] ?_
            refine aJ (aV (aI (?_)))
            refine aO ?_
            refine hU (hM []) aH 6 ?_
            refine mT 4 ?_
            obtain ⟨x56, hx57, h0⟩ := aX h0
            refine AB (HF y5 y43 _ hx57) hO ?_
            intro H hO
            refine jN ?_
            refine bD [(4, (eI x56))] ?_
            refine bE ?_
            obtain rfl := oI h0
            exact aJ (Q_r hO)

theorem EU (a0 : (List aF)) (b1 : (List aF)) (r : Int) (h0 : pR a0 b1 = some r) : bR Try.prog 61 [(eL aG a0), (eL aG b1)] (eI r) := by
  intro H0
  refine bY Try.func61 ?_
  have hO := aL.start H0
  unfold pR at h0
  refine aO ?_
  refine aT aH 2 ?_
  refine eX 1 (eL aG b1) (by kernel_rfl) (by kernel_rfl) ?_
  refine bB ?_
  refine bP [1] [(3, (.rp (eL aG b1)))] ?_
  refine aO ?_
  refine aO ?_
  refine aT aH 8 ?_
  refine bO 1 ?_
  obtain ⟨x1, hx2, h0⟩ := aX h0
  refine cJ (wV a0 _ hx2) hO ?_
  intro H hO
  refine bO 5 ?_
  obtain ⟨x4, hx5, h0⟩ := aX h0
  refine mG [(10, false)] 55 [(eL aG b1)] (aK x4) (!(!x1)) (by kernel_rfl) (by kernel_rfl) (by kernel_rfl) (fun hb6 => (wV b1 _ (jO hx5 hb6))) hO ?_
  intro H hO
  refine bB ?_
  refine bP [] [(14, (aK ((!x1) || (!x4))))] ?_
  refine bF h0 (fun h0 => ?_) (fun h0 => ?_)
  · refine bM aH 1 [(4, (eI (0 : Int)))] ?_
    refine bE ?_
    obtain rfl := oI h0
    exact aJ (aP (Q_r hO))
  refine bH ?_
  refine bD [(0, (eL aG a0)), (3, (.rp (eL aG b1)))] ?_
  refine aU aH 6 [] [(5, (eI (if (lN b1) < (lN a0) then (lN b1) else (lN a0))))] ?_
  refine aO ?_
  refine hU (hM []) aH 7 ?_
  obtain ⟨c8, h0⟩ := bA h0
  refine cV 4 [0 ≤ (if (lN b1) < (lN a0) then (lN b1) else (lN a0)) ∧ (if (lN b1) < (lN a0) then (lN b1) else (lN a0)) ≤ (lN a0)] ⟨c8, trivial⟩ ?_
  obtain ⟨x9, hx10, h0⟩ := aX h0
  refine aAw (L' := fun lo11 => [(lo11, 1, [(eI x9.1)])]) 1 [(eI x9.1)] 92 [(.rp (eL aG b1))] (fun lo11 => (.fn (.func 93) [] [(.lp lo11 0 0), (.rp (eL aG x9.2))])) (by kernel_rfl) (by kernel_rfl) (KQ b1 _ hx10) hO (fun _ => by kernel_rfl) ?_
  intro lo11 H hO
  obtain ⟨x12, hx13, h0⟩ := aX h0
  refine aAH (fun st G' => G' = up [(lo11, 1, [(eI st)])] ++ []) [(lo11, 1, [(eI x12.1)])] x9.1 x12.1 91 [(.sl false (Int.toNat (if (lN b1) < (lN a0) then (lN b1) else (lN a0))) (fun i => aG (List.getD a0 i default))), (.fn (.func 93) [] [(.lp lo11 0 0), (.rp (eL aG x9.2))])] (eI x12.2) (by kernel_rfl) (by kernel_rfl) (AN.sub (as0' := [(eL aG (List.take (Int.toNat (if (lN b1) < (lN a0) then (lN b1) else (lN a0))) a0)), (.fn (.func 93) [] [(.lp lo11 0 0), (.rp (eL aG x9.2))])]) (sV _ (List.take (Int.toNat (if (lN b1) < (lN a0) then (lN b1) else (lN a0))) a0) (.fn (.func 93) [] [(.lp lo11 0 0), (.rp (eL aG x9.2))]) (fun st y0 => (jL y0 st x9.2).bind fun o => some (o.2, o.1)) (fun st y0 st2 rr hr => (HD y0 lo11 st x9.2 _ (aBz hr)).toV (ys := []) (zs := [(aG y0)]) (cs := [(.lp lo11 0 0), (.rp (eL aG x9.2))]) (fun Gx hG => ⟨up [], up [] ++ [], hG, rfl⟩)) _ _ hx13) ⟨aAo (Int.toNat_le.2 (And.right c8)), aS.refl _, trivial⟩) hO rfl (fun _ h => h) ?_
  intro H hO
  refine jN ?_
  replace hO := hO.pick (L' := []) [] (by decide) (by kernel_rfl)
  refine bP [5] [(6, (eI x12.2))] ?_
  refine aO ?_
  refine aU aH 2 [] [(27, (aK (decide (x12.2 < (0 : Int)))))] ?_
  refine bF h0 (fun h0 => ?_) (fun h0 => ?_)
  · refine aO ?_
    refine aT aH 6 ?_
    refine bO 4 ?_
    obtain ⟨x15, hx16, h0⟩ := aX h0
    refine cJ (uR (lN a0) (lN b1) _ hx16) hO ?_
    intro H hO
    refine bB ?_
    refine bD [(4, (eI x15))] ?_
    refine bE ?_
    obtain rfl := oI h0
    exact aJ (aP (Q_r hO))
  refine bH ?_
  refine bD [(0, (eL aG a0)), (3, (.rp (eL aG b1))), (6, (eI x12.2))] ?_
  refine aO ?_
  refine hU (hM [36, 37, 40]) aH 10 ?_
  obtain ⟨c18, h0⟩ := bA h0
  obtain ⟨c19, h0⟩ := bA h0
  refine cV 8 [0 ≤ x12.2 ∧ x12.2 < (lN a0), 0 ≤ x12.2 ∧ x12.2 < (lN b1)] ⟨c18, c19, trivial⟩ ?_
  obtain ⟨x20, hx21, h0⟩ := aX h0
  refine AB (JJ (gD a0 x12.2) (gD b1 x12.2) _ hx21) hO ?_
  intro H hO
  refine jN ?_
  refine bD [(4, (eI x20))] ?_
  refine bE ?_
  obtain rfl := oI h0
  exact aJ (Q_r hO)

theorem HT (l0 : (List aC)) (holds1_f : Nat) (holds1_a holds1_c : List V) (tE : (List aB) → Option Bool) (holds1_h : ∀ a0 r, tE a0 = some r → bR Try.prog holds1_f (holds1_a ++ [(eL aE a0)] ++ holds1_c) (aK r)) (r : Bool) (h0 : sP l0 tE = some r) : bR Try.prog 49 [(eL aD l0), (.fn (.func holds1_f) holds1_a holds1_c)] (aK r) := by
  intro H0
  refine GU aH Try.func49 (by kernel_rfl) (by kernel_rfl) (by kernel_rfl) ?_
  have hO := aL.start H0
  unfold sP at h0
  refine aO ?_
  refine aT aH 2 ?_
  refine eX 1 (.fn (.func holds1_f) holds1_a holds1_c) (by kernel_rfl) (by kernel_rfl) ?_
  refine tI 1 (aK false) (by kernel_rfl) (by kernel_rfl) hO ?_
  intro lo1 H hO
  refine cU ?_
  refine bP [1] [(3, (.rp (.fn (.func holds1_f) holds1_a holds1_c))), (4, (.lp lo1 0 0))] ?_
  refine aO ?_
  refine aU aH 3 [] [(11, (aK (decide ((4096 : Int) < (lN l0)))))] ?_
  refine bF h0 (fun h0 => ?_) (fun h0 => ?_)
  · refine aO ?_
    refine aT aH 1 ?_
    refine nU 0 lo1 1 0 (aK false) (aK false) [(aK false)] [(lo1, 1, [(aK false)])] hO rfl (by kernel_rfl) ?_
    intro H hO
    refine cU ?_
    refine bD [(4, (.lp lo1 0 0))] ?_
    refine bE ?_
    obtain rfl := oI h0
    exact aJ (aP (QM0 (.inr rfl) (rs := [.cell 4 4]) (xs := [(aK false)]) (x := (aK false)) (by kernel_rfl) (sM (lo := lo1) (k := 1) (y := (aK false)) (x := (aK false)) 0 hO (by kernel_rfl) (by kernel_rfl) (by kernel_rfl) (by kernel_rfl) tR) (by kernel_rfl) ⟨rfl, hO.out⟩))
  refine bH ?_
  refine bD [(0, (eL aD l0)), (3, (.rp (.fn (.func holds1_f) holds1_a holds1_c))), (4, (.lp lo1 0 0))] ?_
  refine aO ?_
  refine aT aH 1 ?_
  refine yN 1 (.sl true 0 (fun _ => .bad)) (eL aG ([])) (by kernel_rfl) (by kernel_rfl) (by kernel_rfl) (dW) (by kernel_rfl) (by kernel_rfl) hO ?_
  intro lo3 H hO
  refine cU ?_
  refine bP [] [(5, (.lp lo3 0 0))] ?_
  refine aO ?_
  refine aT aH 2 ?_
  refine tI 1 (aK false) (by kernel_rfl) (by kernel_rfl) hO ?_
  intro lo4 H hO
  refine nU 2 lo4 1 0 (aK false) (aK false) [(aK false)] [(lo1, 1, [(aK false)]), (lo3, 1, [(eL aG ([]))]), (lo4, 1, [(aK false)])] hO rfl (by kernel_rfl) ?_
  intro H hO
  refine cU ?_
  refine bP [] [(6, (.lp lo4 0 0))] ?_
  refine aO ?_
  refine aO ?_
  refine aT aH 2 ?_
  refine bO 1 ?_
  obtain ⟨x5, hx6, h0⟩ := aX h0
  refine cJ (CL l0 _ hx6) hO ?_
  intro H hO
  refine cU ?_
  refine bP [0] [(13, (.fn (.func 104) [] [(.rp (eL aD x5))]))] ?_
  refine bN 0 ?_
  refine cR [(3, (.rp (.fn (.func holds1_f) holds1_a holds1_c))), (4, (.lp lo1 0 0)), (5, (.lp lo3 0 0)), (6, (.lp lo4 0 0)), (13, (.fn (.func 104) [] [(.rp (eL aD x5))]))] ?_
  refine cG (fun T H => ∃ t4 : Bool, ∃ oH : (List aF), ∃ jP : Bool, ∃ jZ : (List aC), ∃ lo7 : Nat, ∃ lo8 : Nat, ∃ lo9 : Nat, Has T [(3, (.rp (.fn (.func holds1_f) holds1_a holds1_c))), (4, (.lp lo7 0 0)), (5, (.lp lo8 0 0)), (6, (.lp lo9 0 0)), (13, (.fn (.func 104) [] [(.rp (eL aD jZ))]))] ∧ aL ⟨H0, [], []⟩ H [(lo7, 1, [(aK t4)]), (lo8, 1, [(eL aG oH)]), (lo9, 1, [(aK jP)])] ∧ xS tE t4 oH jP jZ = some r) ?_ ⟨false, [], false, x5, lo1, lo3, lo4, .eq (by kernel_rfl), hO, h0⟩
  clear hO h0
  rintro T H ⟨t4, oH, jP, jZ, lo7, lo8, lo9, hT, hO, h0⟩
  refine aZ (l := [(3, (.rp (.fn (.func holds1_f) holds1_a holds1_c))), (4, (.lp lo7 0 0)), (5, (.lp lo8 0 0)), (6, (.lp lo9 0 0)), (13, (.fn (.func 104) [] [(.rp (eL aD jZ))]))]) hT ?_
  clear hT
  unfold xS at h0
  obtain ⟨o0, hl0, h0⟩ := aX h0
  refine DU (fid := 104) (ys := []) (cs := [(.rp (eL aD jZ))]) #[14, 15] (fun (A : AL) (b lL : Nat) (st : (Bool × (List aF) × Bool) ⊕ (Bool × (List aF) × Bool)) (G' : Gs) => Sum.elim (fun (s : Bool × (List aF) × Bool) => G' = (lL, .raw (kP b A .ready none)) :: (up [(lo7, 1, [(aK s.1)]), (lo8, 1, [(eL aG s.2.1)]), (lo9, 1, [(aK s.2.2)])] ++ [])) (fun (s : Bool × (List aF) × Bool) => G' = (lL, .raw (kP b A .done (some .ret))) :: (up [(lo7, 1, [(aK s.1)]), (lo8, 1, [(eL aG s.2.1)]), (lo9, 1, [(aK s.2.2)])] ++ [])) st) (.inl (t4, oH, jP)) o0 (.tup []) (by kernel_rfl) (by kernel_rfl) (by kernel_rfl) hO (fun _ _ => rfl) ?_ ?_
  · intro b lL
    clear hO h0
    refine yD _ b (fun st t14 t15 => rnd (fun (s : Bool × (List aF) × Bool) => pG tE jZ s.1 s.2.1 s.2.2 t14 t15) st) ?_ jZ _ _ hl0
    intro st t14 t15 st2 rr hr
    obtain ⟨s, rfl, h1, rfl⟩ := VH hr
    clear hr
    intro Hr Gr hi hg
    obtain ⟨t4, oH, jP⟩ := s
    dsimp only [Sum.elim_inl] at hi
    obtain rfl := hi
    replace h1 : pG tE jZ t4 oH jP t14 t15 = some st2 := h1
    unfold pG at h1
    obtain ⟨E1, hE, hO⟩ := zF hg
    refine yW (EG (hO.gm 0 _ rfl).2 (by kernel_rfl) (by kernel_rfl) ?_)
    refine cR [(3, (.rp (.fn (.func holds1_f) holds1_a holds1_c))), (4, (.lp lo7 0 0)), (5, (.lp lo8 0 0)), (6, (.lp lo9 0 0)), (13, (.fn (.func 104) [] [(.rp (eL aD jZ))])), (14, (eL aG t14)), (15, (eL aE t15))] ?_
    refine aU aH 1 [13, 14] [(7, (eL aG t14))] ?_
    refine aT aH 1 ?_
    refine bB ?_
    refine cY [(3, (.rp (.fn (.func holds1_f) holds1_a holds1_c))), (4, (.lp lo7 0 0)), (5, (.lp lo8 0 0)), (6, (.lp lo9 0 0)), (7, (eL aG t14)), (8, (eL aE t15))] ?_
    refine aJ (⟨rfl, rfl, (hO.gm 0 _ rfl).2, ?_⟩)
    intro o1 ho1
    replace hO := hO.xZ o1
    refine bN 1 ?_
    refine aO ?_
    refine aO ?_
    refine aT aH 18 ?_
    refine bO 1 ?_
    obtain ⟨x10, hx11, h1⟩ := aX h1
    refine cJ (wV t14 _ hx11) hO ?_
    intro H hO
    refine bO 4 ?_
    refine yP [(19, false)] 2 lo9 1 0 (aK jP) (aK jP) [(aK jP)] (by kernel_rfl) (by kernel_rfl) hO (by kernel_rfl) (!(!x10)) (by kernel_rfl) (fun hb13 => rfl) ?_
    refine bO 6 ?_
    refine yP [(21, true), (19, false)] 1 lo8 1 0 (eL aG oH) (eL aG oH) [(eL aG oH)] (by kernel_rfl) (by kernel_rfl) hO (by kernel_rfl) (jP && (!(!x10))) (by kernel_rfl) (fun hb14 => rfl) ?_
    refine bO 8 ?_
    obtain ⟨x15, hx16, h1⟩ := aX h1
    refine mG [(21, true), (19, false)] 61 [(eL aG oH), (eL aG t14)] (eI x15) (jP && (!(!x10))) (by kernel_rfl) (by kernel_rfl) (by kernel_rfl) (fun hb17 => (EU oH t14 _ (jO hx16 hb17))) hO ?_
    intro H hO
    refine bO 15 ?_
    obtain ⟨x18, hx19, h1⟩ := aX h1
    refine mG [(28, false)] holds1_f (holds1_a ++ [(eL aE t15)] ++ holds1_c) (aK x18) (!((!x10) || (jP && (decide ((0 : Int) ≤ x15))))) (by kernel_rfl) (by kernel_rfl) (by kernel_rfl) (fun hb20 => (holds1_h t15 _ (jO hx19 hb20))) hO ?_
    intro H hO
    refine bB ?_
    refine bP [3, 8] [(33, (aK (((!x10) || (jP && (decide ((0 : Int) ≤ x15)))) || (!x18))))] ?_
    refine bF h1 (fun h1 => ?_) (fun h1 => ?_)
    · refine aO ?_
      refine aT aH 1 ?_
      refine nU 0 lo7 1 0 (aK t4) (aK false) [(aK t4)] [(lo7, 1, [(aK false)]), (lo8, 1, [(eL aG oH)]), (lo9, 1, [(aK jP)])] hO rfl (by kernel_rfl) ?_
      intro H hO
      refine cU ?_
      refine bP [7, 33] [] ?_
      refine bE ?_
      refine cY [(4, (.lp lo7 0 0)), (5, (.lp lo8 0 0)), (6, (.lp lo9 0 0))] ?_
      obtain rfl := oI h1
      exact aJ (aP (bJ (⟨(gF hO hE ho1 .dead).1, rfl, _, rfl, (gF hO hE ho1 _).2⟩)))
    refine bH ?_
    refine bD [(4, (.lp lo7 0 0)), (5, (.lp lo8 0 0)), (6, (.lp lo9 0 0)), (7, (eL aG t14))] ?_
    refine aT aH 3 ?_
    refine bO 1 ?_
    refine nU 1 lo8 1 0 (eL aG oH) (eL aG t14) [(eL aG oH)] [(lo7, 1, [(aK t4)]), (lo8, 1, [(eL aG t14)]), (lo9, 1, [(aK jP)])] hO rfl (by kernel_rfl) ?_
    intro H hO
    refine nU 2 lo9 1 0 (aK jP) (aK true) [(aK jP)] [(lo7, 1, [(aK t4)]), (lo8, 1, [(eL aG t14)]), (lo9, 1, [(aK true)])] hO rfl (by kernel_rfl) ?_
    intro H hO
    refine cU ?_
    refine cY [(4, (.lp lo7 0 0)), (5, (.lp lo8 0 0)), (6, (.lp lo9 0 0))] ?_
    obtain rfl := oI h1
    exact aJ (aV (⟨(gF hO hE ho1 .dead).1, rfl, _, rfl, (gF hO hE ho1 _).2⟩))
  · intro b lD lL H' G' hi hO
    rcases o0 with s | s
    · dsimp only [Sum.elim_inl] at hi
      obtain rfl := hi
      replace h0 : (some true) = some r := h0
      obtain ⟨hlL, hO⟩ := pZ hO
      refine ⟨_, _, hlL, (by intro e; cases e), ?_⟩
      refine cY [(4, (.lp lo7 0 0))] ?_
      replace hO := hO.pick (L' := [(lo7, 1, [(aK s.1)])]) [0] (by decide) (by kernel_rfl)
      refine aJ (aV (aI (?_)))
      refine aO ?_
      refine aT aH 1 ?_
      refine nU 0 lo7 1 0 (aK s.1) (aK true) [(aK s.1)] [(lo7, 1, [(aK true)])] hO rfl (by kernel_rfl) ?_
      intro H hO
      refine cU ?_
      refine bD [(4, (.lp lo7 0 0))] ?_
      refine bE ?_
      obtain rfl := oI h0
      have hD := (hO.gm 0 _ rfl).2
      replace hO := (hO.xZ .dead).wD
      exact aJ (QM1 (.inr rfl) hD (rs := [.cell 4 4]) (xs := [(aK true)]) (x := (aK true)) (by kernel_rfl) (sM (lo := lo7) (k := 1) (y := (aK true)) (x := (aK true)) 0 hO (by kernel_rfl) (by kernel_rfl) (by kernel_rfl) (by kernel_rfl) tR) (by kernel_rfl) ⟨rfl, hO.out⟩)
    · dsimp only [Sum.elim_inr] at hi
      obtain rfl := hi
      replace h0 : (some s.1) = some r := h0
      obtain ⟨hlL, hO⟩ := pZ hO
      refine ⟨_, _, hlL, (by intro e; cases e), ?_⟩
      refine bE ?_
      replace hO := hO.pick (L' := [(lo7, 1, [(aK s.1)])]) [0] (by decide) (by kernel_rfl)
      obtain rfl := oI h0
      have hD := (hO.gm 0 _ rfl).2
      replace hO := (hO.xZ .dead).wD
      exact aJ (bJ (aP (QM1 (.inr rfl) hD (rs := [.cell 4 4]) (xs := [(aK s.1)]) (x := (aK s.1)) (by kernel_rfl) (sM (lo := lo7) (k := 1) (y := (aK s.1)) (x := (aK s.1)) 0 hO (by kernel_rfl) (by kernel_rfl) (by kernel_rfl) (by kernel_rfl) tR) (by kernel_rfl) ⟨rfl, hO.out⟩)))

theorem HU (n0 : Int) (r : Bool) (h0 : vK n0 = some r) : bR Try.prog 85 [(eI n0)] (aK r) := by
  intro H0
  refine bY Try.func85 ?_
  have hO := aL.start H0
  unfold vK at h0
  refine aU aH 1 [] [] ?_
  refine bM aH 7 [(2, (aK ((decide (n0 ≤ (1048576 : Int))) && (decide ((-1048576 : Int) ≤ n0)))))] ?_
  refine bE ?_
  obtain rfl := oI h0
  exact aJ (Q_r hO)

theorem AP (f0 : (List aB)) (r : Bool) (h0 : oL f0 = some r) : bR Try.prog 51 [(eL aE f0)] (aK r) := by
  intro H0
  refine bY Try.func51 ?_
  have hO := aL.start H0
  unfold oL at h0
  refine aU aH 1 [] [] ?_
  refine aO ?_
  refine aU aH 3 [] [(8, (aK (decide ((1024 : Int) < (lN f0)))))] ?_
  refine bF h0 (fun h0 => ?_) (fun h0 => ?_)
  · refine bM aH 1 [(2, (aK false))] ?_
    refine bE ?_
    obtain rfl := oI h0
    exact aJ (aP (Q_r hO))
  refine bH ?_
  refine bD [(0, (eL aE f0))] ?_
  refine aU aH 1 [] [(3, (eI (-2 : Int)))] ?_
  refine cL (fun T H => Has T [] ∧ aL ⟨H0, [], []⟩ H [] ∧ vH  = some r) ?_ ?_
  · clear hO h0
    rintro T H ⟨hT, hO, h0⟩
    refine aZ hT ?_
    clear hT
    unfold vH at h0
    refine bM aH 1 [(2, (aK true))] ?_
    refine bE ?_
    obtain rfl := oI h0
    exact aJ (Q_r hO)
  refine aU aH 3 [0] [(9, (eL aE f0)), (10, (eI (lN f0))), (11, (eI (0 : Int)))] ?_
  refine bN 0 ?_
  refine cR [(3, (eI (-2 : Int))), (9, (eL aE f0)), (10, (eI (lN f0))), (11, (eI (0 : Int)))] ?_
  refine cG (fun T H => ∃ qK : Int, ∃ t9 : (List aB), ∃ t10 : Int, ∃ t11 : Int, Has T [(3, (eI qK)), (9, (eL aE t9)), (10, (eI t10)), (11, (eI t11))] ∧ aL ⟨H0, [], []⟩ H [] ∧ zA qK t9 t10 t11 = some r) ?_ ⟨(-2 : Int), f0, (lN f0), (0 : Int), .eq (by kernel_rfl), hO, h0⟩
  clear hO h0
  rintro T H ⟨qK, t9, t10, t11, hT, hO, h0⟩
  refine aZ hT ?_
  clear hT
  unfold zA at h0
  obtain ⟨rr0, hl0, h0⟩ := aX h0
  refine bV (by kernel_rfl) (fun (s : Int × Int) T H => Has T [(3, (eI s.1)), (9, (eL aE t9)), (10, (eI t10)), (11, (eI s.2))] ∧ aL ⟨H0, [], []⟩ H []) hl0 ⟨.eq (by kernel_rfl), hO⟩ ?_
  clear hO
  rintro k0 s out1 T H ⟨hT, hO⟩ h1 ho0
  obtain ⟨qK, t11⟩ := s
  replace h1 : mA t9 t10 qK t11 = some out1 := h1
  dsimp only at hT
  refine aZ hT ?_
  clear hT
  unfold mA at h1
  refine aU aH 1 [] [(12, (aK (decide (t11 < t10))))] ?_
  refine aO ?_
  refine bF h1 (fun h1 => ?_) (fun h1 => ?_)
  · refine bH ?_
    refine bD [(3, (eI qK)), (9, (eL aE t9)), (10, (eI t10)), (11, (eI t11))] ?_
    refine aO ?_
    refine bN 1 ?_
    refine aO ?_
    refine aT aH 4 ?_
    obtain ⟨c3, h1⟩ := bA h1
    refine oG 2 [0 ≤ t11 ∧ t11 < (lN t9)] ⟨c3, trivial⟩ ?_
    refine tI 2 (aE (aB.mk 0 0)) (by kernel_rfl) (by kernel_rfl) hO ?_
    intro lo4 H hO
    refine nU 0 lo4 2 0 (aE (aB.mk 0 0)) (aE (gD t9 t11)) [(aE (aB.mk 0 0))] [(lo4, 2, [(aE (gD t9 t11))])] hO rfl (by kernel_rfl) ?_
    intro H hO
    refine cU ?_
    refine bP [] [(5, (.lp lo4 0 0))] ?_
    refine aO ?_
    refine aO ?_
    refine aT aH 20 ?_
    refine bO 1 ?_
    refine zY 0 lo4 2 0 (aE (gD t9 t11)) (eI ((gD t9 t11).At)) [(aE (gD t9 t11))] hO rfl ?_
    refine bO 6 ?_
    refine yP [(19, false)] 0 lo4 2 0 (aE (gD t9 t11)) (eI ((gD t9 t11).At)) [(aE (gD t9 t11))] (by kernel_rfl) (by kernel_rfl) hO (by kernel_rfl) (!(decide (((gD t9 t11).At) ≤ qK))) (by kernel_rfl) (fun hb5 => rfl) ?_
    refine bO 11 ?_
    refine yP [(24, false)] 0 lo4 2 0 (aE (gD t9 t11)) (eI ((gD t9 t11).Net)) [(aE (gD t9 t11))] (by kernel_rfl) (by kernel_rfl) hO (by kernel_rfl) (!((decide (((gD t9 t11).At) ≤ qK)) || (decide ((1125899906842624 : Int) ≤ ((gD t9 t11).At))))) (by kernel_rfl) (fun hb6 => rfl) ?_
    refine bO 16 ?_
    refine yP [(29, false)] 0 lo4 2 0 (aE (gD t9 t11)) (eI ((gD t9 t11).Net)) [(aE (gD t9 t11))] (by kernel_rfl) (by kernel_rfl) hO (by kernel_rfl) (!(((decide (((gD t9 t11).At) ≤ qK)) || (decide ((1125899906842624 : Int) ≤ ((gD t9 t11).At)))) || (decide (((gD t9 t11).Net) = (0 : Int))))) (by kernel_rfl) (fun hb7 => rfl) ?_
    obtain ⟨x8, hx9, h1⟩ := aX h1
    refine mG [(29, false)] 85 [(eI ((gD t9 t11).Net))] (aK x8) (!(((decide (((gD t9 t11).At) ≤ qK)) || (decide ((1125899906842624 : Int) ≤ ((gD t9 t11).At)))) || (decide (((gD t9 t11).Net) = (0 : Int))))) (by kernel_rfl) (by kernel_rfl) (by kernel_rfl) (fun hb10 => (HU ((gD t9 t11).Net) _ (jO hx9 hb10))) hO ?_
    intro H hO
    refine bB ?_
    refine bP [3] [(34, (aK ((((decide (((gD t9 t11).At) ≤ qK)) || (decide ((1125899906842624 : Int) ≤ ((gD t9 t11).At)))) || (decide (((gD t9 t11).Net) = (0 : Int)))) || (!x8))))] ?_
    refine bF h1 (fun h1 => ?_) (fun h1 => ?_)
    · refine aO ?_
      refine aT aH 1 ?_
      refine bB ?_
      refine cY [(2, (aK false))] ?_
      replace hO := hO.pick (L' := []) [] (by decide) (by kernel_rfl)
      refine aJ (aI (?_))
      refine bE ?_
      obtain rfl := oI h1
      obtain rfl : _ = rr0 := ho0
      replace h0 : some false = some r := h0
      obtain rfl := oI h0
      exact aJ (aP (bJ (aP (aP (bJ (aP (Q_r hO)))))))
    refine bH ?_
    refine bD [(5, (.lp lo4 0 0)), (9, (eL aE t9)), (10, (eI t10)), (11, (eI t11))] ?_
    refine aT aH 3 ?_
    refine bO 1 ?_
    refine zY 0 lo4 2 0 (aE (gD t9 t11)) (eI ((gD t9 t11).At)) [(aE (gD t9 t11))] hO rfl ?_
    refine bB ?_
    refine cY [(3, (eI ((gD t9 t11).At))), (9, (eL aE t9)), (10, (eI t10)), (11, (eI t11))] ?_
    replace hO := hO.pick (L' := []) [] (by decide) (by kernel_rfl)
    refine aJ (aV (aI (?_)))
    refine aT aH 2 ?_
    refine bB ?_
    exact aJ (aI (⟨rfl, _, (oI h1).symm, .eq (by kernel_rfl), hO⟩))
  refine dG 0 ?_
  obtain rfl := oI h1
  obtain rfl : _ = rr0 := ho0
  replace h0 : vH  = some r := h0
  exact aJ (aR (aR (bL (aI (⟨rfl, .eq (by kernel_rfl), hO, h0⟩)))))

theorem AO (l0 : (List aC)) (r : Bool) (h0 : oF l0 = some r) : bR Try.prog 25 [(eL aD l0)] (aK r) := by
  intro H0
  refine bY Try.func25 ?_
  have hO := aL.start H0
  unfold oF at h0
  refine aU aH 1 [] [] ?_
  refine aO ?_
  refine aT aH 3 ?_
  refine bO 1 ?_
  obtain ⟨x1, hx2, h0⟩ := aX h0
  refine cJ (HT l0 51 [] [] (fun y0 => oL y0) (fun y0 r h => AP y0 r h) _ hx2) hO ?_
  intro H hO
  refine bB ?_
  refine bD [(2, (aK x1))] ?_
  refine bE ?_
  obtain rfl := oI h0
  exact aJ (Q_r hO)

theorem PX (f0 : (List aB)) (r : Int) (h0 : tP f0 = some r) : bR Try.prog 52 [(eL aE f0)] (eI r) := by
  intro H0
  refine bY Try.func52 ?_
  have hO := aL.start H0
  unfold tP at h0
  refine aU aH 1 [] [] ?_
  refine aO ?_
  refine aO ?_
  refine aT aH 8 ?_
  refine bO 1 ?_
  obtain ⟨x1, hx2, h0⟩ := aX h0
  refine cJ (AP f0 _ hx2) hO ?_
  intro H hO
  refine bB ?_
  refine bP [] [(14, (aK ((!x1) || (decide ((lN f0) = (0 : Int))))))] ?_
  refine bF h0 (fun h0 => ?_) (fun h0 => ?_)
  · refine bM aH 1 [(2, (eI (0 : Int)))] ?_
    refine bE ?_
    obtain rfl := oI h0
    exact aJ (aP (Q_r hO))
  refine bH ?_
  refine bD [(0, (eL aE f0))] ?_
  refine aU aH 2 [] [(3, (eI (0 : Int))), (4, (eI (0 : Int)))] ?_
  refine cL (fun T H => ∃ v3 : Int, ∃ fI : Int, Has T [(0, (eL aE f0)), (3, (eI v3)), (4, (eI fI))] ∧ aL ⟨H0, [], []⟩ H [] ∧ pQ f0 v3 fI = some r) ?_ ?_
  · clear hO h0
    rintro T H ⟨v3, fI, hT, hO, h0⟩
    refine aZ hT ?_
    clear hT
    unfold pQ at h0
    refine cL (fun T H => ∃ fI : Int, Has T [(4, (eI fI))] ∧ aL ⟨H0, [], []⟩ H [] ∧ rO fI = some r) ?_ ?_
    · clear hO h0
      rintro T H ⟨fI, hT, hO, h0⟩
      refine aZ hT ?_
      clear hT
      unfold rO at h0
      refine bM aH 2 [(2, (eI fI))] ?_
      refine bE ?_
      obtain rfl := oI h0
      exact aJ (Q_r hO)
    refine aU aH 3 [0] [(24, (eL aE f0)), (25, (eI (lN f0))), (26, (eI (0 : Int)))] ?_
    refine bN 0 ?_
    refine cR [(3, (eI v3)), (4, (eI fI)), (24, (eL aE f0)), (25, (eI (lN f0))), (26, (eI (0 : Int)))] ?_
    refine cG (fun T H => ∃ v3 : Int, ∃ fI : Int, ∃ t24 : (List aB), ∃ t25 : Int, ∃ t26 : Int, Has T [(3, (eI v3)), (4, (eI fI)), (24, (eL aE t24)), (25, (eI t25)), (26, (eI t26))] ∧ aL ⟨H0, [], []⟩ H [] ∧ sF v3 fI t24 t25 t26 = some r) ?_ ⟨v3, fI, f0, (lN f0), (0 : Int), .eq (by kernel_rfl), hO, h0⟩
    clear hO h0
    rintro T H ⟨v3, fI, t24, t25, t26, hT, hO, h0⟩
    refine aZ hT ?_
    clear hT
    unfold sF at h0
    obtain ⟨rr0, hl0, h0⟩ := aX h0
    refine bV (by kernel_rfl) (fun (s : Int × Int × Int) T H => Has T [(3, (eI s.1)), (4, (eI s.2.1)), (24, (eL aE t24)), (25, (eI t25)), (26, (eI s.2.2))] ∧ aL ⟨H0, [], []⟩ H []) hl0 ⟨.eq (by kernel_rfl), hO⟩ ?_
    clear hO
    rintro k0 s out1 T H ⟨hT, hO⟩ h1 ho0
    obtain ⟨v3, fI, t26⟩ := s
    replace h1 : mM t24 t25 v3 fI t26 = some out1 := h1
    dsimp only at hT
    refine aZ hT ?_
    clear hT
    unfold mM at h1
    refine aU aH 1 [] [(27, (aK (decide (t26 < t25))))] ?_
    refine aO ?_
    refine bF h1 (fun h1 => ?_) (fun h1 => ?_)
    · refine bH ?_
      refine bD [(3, (eI v3)), (4, (eI fI)), (24, (eL aE t24)), (25, (eI t25)), (26, (eI t26))] ?_
      refine aO ?_
      refine bN 1 ?_
      refine aO ?_
      refine aT aH 4 ?_
      obtain ⟨c6, h1⟩ := bA h1
      refine oG 2 [0 ≤ t26 ∧ t26 < (lN t24)] ⟨c6, trivial⟩ ?_
      refine tI 2 (aE (aB.mk 0 0)) (by kernel_rfl) (by kernel_rfl) hO ?_
      intro lo7 H hO
      refine nU 0 lo7 2 0 (aE (aB.mk 0 0)) (aE (gD t24 t26)) [(aE (aB.mk 0 0))] [(lo7, 2, [(aE (gD t24 t26))])] hO rfl (by kernel_rfl) ?_
      intro H hO
      refine cU ?_
      refine bP [] [(6, (.lp lo7 0 0))] ?_
      refine aO ?_
      refine aT aH 5 ?_
      refine bO 2 ?_
      refine zY 0 lo7 2 0 (aE (gD t24 t26)) (eI ((gD t24 t26).Net)) [(aE (gD t24 t26))] hO rfl ?_
      refine bB ?_
      replace hO := hO.pick (L' := []) [] (by decide) (by kernel_rfl)
      refine bP [3, 6] [(3, (eI (wR (v3 + ((gD t24 t26).Net)))))] ?_
      refine aT aH 4 ?_
      refine bB ?_
      refine cY [(3, (eI (wR (v3 + ((gD t24 t26).Net))))), (4, (eI (if (wR (v3 + ((gD t24 t26).Net))) < fI then (wR (v3 + ((gD t24 t26).Net))) else fI))), (24, (eL aE t24)), (25, (eI t25)), (26, (eI t26))] ?_
      refine aJ (aV (aI (?_)))
      refine aT aH 2 ?_
      refine bB ?_
      exact aJ (aI (⟨rfl, _, (oI h1).symm, .eq (by kernel_rfl), hO⟩))
    refine dG 0 ?_
    obtain rfl := oI h1
    obtain rfl : _ = rr0 := ho0
    replace h0 : rO fI = some r := h0
    exact aJ (aR (aR (bL (aI (⟨rfl, _, .eq (by kernel_rfl), hO, h0⟩)))))
  refine aO ?_
  refine aT aH 5 ?_
  obtain ⟨c8, h0⟩ := bA h0
  refine nG [0 ≤ (0 : Int) ∧ (0 : Int) < (lN f0)] ⟨c8, trivial⟩ ?_
  refine bP [] [(19, (aK (decide (((gD f0 (0 : Int)).At) = (-1 : Int)))))] ?_
  refine bF h0 (fun h0 => ?_) (fun h0 => ?_)
  · refine aT aH 5 ?_
    obtain ⟨c10, h0⟩ := bA h0
    refine nG [0 ≤ (0 : Int) ∧ (0 : Int) < (lN f0)] ⟨c10, trivial⟩ ?_
    exact aJ (aI (⟨rfl, _, _, .eq (by kernel_rfl), hO, h0⟩))
  refine bH ?_
  exact aJ (aI (⟨rfl, _, _, .eq (by kernel_rfl), hO, h0⟩))

theorem LB (f0 : (List aB)) (r : Bool) (h0 : qP f0 = some r) : bR Try.prog 50 [(eL aE f0)] (aK r) := by
  intro H0
  refine bY Try.func50 ?_
  have hO := aL.start H0
  unfold qP at h0
  refine aU aH 1 [] [] ?_
  refine aO ?_
  refine aT aH 8 ?_
  refine bO 1 ?_
  obtain ⟨x1, hx2, h0⟩ := aX h0
  refine cJ (AP f0 _ hx2) hO ?_
  intro H hO
  refine bO 4 ?_
  obtain ⟨x4, hx5, h0⟩ := aX h0
  refine mG [(5, true)] 52 [(eL aE f0)] (eI x4) x1 (by kernel_rfl) (by kernel_rfl) (by kernel_rfl) (fun hb6 => (PX f0 _ (jO hx5 hb6))) hO ?_
  intro H hO
  refine bB ?_
  refine bD [(2, (aK (x1 && (decide ((0 : Int) ≤ x4)))))] ?_
  refine bE ?_
  obtain rfl := oI h0
  exact aJ (Q_r hO)

theorem GK (l0 : (List aC)) (r : Bool) (h0 : qQ l0 = some r) : bR Try.prog 17 [(eL aD l0)] (aK r) := by
  intro H0
  refine bY Try.func17 ?_
  have hO := aL.start H0
  unfold qQ at h0
  refine aU aH 1 [] [] ?_
  refine aO ?_
  refine aT aH 3 ?_
  refine bO 1 ?_
  obtain ⟨x1, hx2, h0⟩ := aX h0
  refine cJ (HT l0 50 [] [] (fun y0 => qP y0) (fun y0 r h => LB y0 r h) _ hx2) hO ?_
  intro H hO
  refine bB ?_
  refine bD [(2, (aK x1))] ?_
  refine bE ?_
  obtain rfl := oI h0
  exact aJ (Q_r hO)

theorem tQ (s0 : (List aC)) (f1_f : Nat) (f1_a f1_c : List V) (f1 : aC → Option Bool) (f1_h : ∀ a0 r, f1 a0 = some r → bR Try.prog f1_f (f1_a ++ [(aD a0)] ++ f1_c) (aK r)) (r : Int) (h0 : fS s0 f1 = some r) : bR Try.prog 86 [(eL aD s0), (.fn (.func f1_f) f1_a f1_c)] (eI r) := by
  intro H0
  refine bY Try.func86 ?_
  have hO := aL.start H0
  unfold fS at h0
  refine aU aH 1 [] [] ?_
  refine cL (fun T H => Has T [] ∧ aL ⟨H0, [], []⟩ H [] ∧ dP f1  = some r) ?_ ?_
  · clear hO h0
    rintro T H ⟨hT, hO, h0⟩
    refine aZ hT ?_
    clear hT
    unfold dP at h0
    refine bM aH 1 [(4, (eI (-1 : Int)))] ?_
    refine bE ?_
    obtain rfl := oI h0
    exact aJ (Q_r hO)
  refine aU aH 3 [] [(7, (eI (lN s0))), (8, (eI (0 : Int)))] ?_
  refine bN 0 ?_
  refine cR [(0, (eL aD s0)), (1, (.fn (.func f1_f) f1_a f1_c)), (7, (eI (lN s0))), (8, (eI (0 : Int)))] ?_
  refine cG (fun T H => ∃ t7 : Int, ∃ t8 : Int, Has T [(0, (eL aD s0)), (1, (.fn (.func f1_f) f1_a f1_c)), (7, (eI t7)), (8, (eI t8))] ∧ aL ⟨H0, [], []⟩ H [] ∧ fM f1 s0 t7 t8 = some r) ?_ ⟨(lN s0), (0 : Int), .eq (by kernel_rfl), hO, h0⟩
  clear hO h0
  rintro T H ⟨t7, t8, hT, hO, h0⟩
  refine aZ hT ?_
  clear hT
  unfold fM at h0
  obtain ⟨rr0, hl0, h0⟩ := aX h0
  refine bV (by kernel_rfl) (fun (s : Int) T H => Has T [(0, (eL aD s0)), (1, (.fn (.func f1_f) f1_a f1_c)), (7, (eI t7)), (8, (eI s))] ∧ aL ⟨H0, [], []⟩ H []) hl0 ⟨.eq (by kernel_rfl), hO⟩ ?_
  clear hO
  rintro k0 s out1 T H ⟨hT, hO⟩ h1 ho0
  obtain ⟨t8, rfl⟩ : ∃ x, x = s := ⟨_, rfl⟩
  replace h1 : fO f1 s0 t7 t8 = some out1 := h1
  refine aZ hT ?_
  clear hT
  unfold fO at h1
  refine aU aH 1 [] [(9, (aK (decide (t8 < t7))))] ?_
  refine aO ?_
  refine bF h1 (fun h1 => ?_) (fun h1 => ?_)
  · refine bH ?_
    refine bD [(0, (eL aD s0)), (1, (.fn (.func f1_f) f1_a f1_c)), (7, (eI t7)), (8, (eI t8))] ?_
    refine aO ?_
    refine bN 1 ?_
    refine aU aH 2 [] [(5, (eI t8))] ?_
    refine aO ?_
    refine aT aH 6 ?_
    obtain ⟨c2, h1⟩ := bA h1
    refine oG 5 [0 ≤ t8 ∧ t8 < (lN s0)] ⟨c2, trivial⟩ ?_
    obtain ⟨x3, hx4, h1⟩ := aX h1
    refine cJ (f1_h (gD s0 t8) _ hx4) hO ?_
    intro H hO
    refine cU ?_
    refine bP [] [(16, (aK x3))] ?_
    refine bF h1 (fun h1 => ?_) (fun h1 => ?_)
    · refine bM aH 2 [(4, (eI t8))] ?_
      refine bE ?_
      obtain rfl := oI h1
      obtain rfl : _ = rr0 := ho0
      replace h0 : some t8 = some r := h0
      obtain rfl := oI h0
      exact aJ (bJ (aP (aP (bJ (aP (Q_r hO))))))
    refine bH ?_
    refine cY [(0, (eL aD s0)), (1, (.fn (.func f1_f) f1_a f1_c)), (7, (eI t7)), (8, (eI t8))] ?_
    refine aJ (aV (aI (?_)))
    refine aT aH 2 ?_
    refine bB ?_
    exact aJ (aI (⟨rfl, _, (oI h1).symm, .eq (by kernel_rfl), hO⟩))
  refine dG 0 ?_
  obtain rfl := oI h1
  obtain rfl : _ = rr0 := ho0
  replace h0 : dP f1  = some r := h0
  exact aJ (aR (aR (bL (aI (⟨rfl, .eq (by kernel_rfl), hO, h0⟩)))))

theorem mN (s0 : (List aC)) (f1_f : Nat) (f1_a f1_c : List V) (f1 : aC → Option Bool) (f1_h : ∀ a0 r, f1 a0 = some r → bR Try.prog f1_f (f1_a ++ [(aD a0)] ++ f1_c) (aK r)) (r : Bool) (h0 : cQ s0 f1 = some r) : bR Try.prog 53 [(eL aD s0), (.fn (.func f1_f) f1_a f1_c)] (aK r) := by
  intro H0
  refine bY Try.func53 ?_
  have hO := aL.start H0
  unfold cQ at h0
  refine aU aH 1 [] [] ?_
  refine aO ?_
  refine aT aH 5 ?_
  refine bO 2 ?_
  obtain ⟨x1, hx2, h0⟩ := aX h0
  refine cJ (tQ s0 f1_f f1_a f1_c f1 f1_h _ hx2) hO ?_
  intro H hO
  refine bB ?_
  refine bD [(4, (aK (decide ((0 : Int) ≤ x1))))] ?_
  refine bE ?_
  obtain rfl := oI h0
  exact aJ (Q_r hO)

theorem NJ (x0 : aC) (r : Bool) (h0 : sK x0 = some r) : bR Try.prog 54 [(aD x0)] (aK r) := by
  intro H0
  refine bY Try.func54 ?_
  have hO := aL.start H0
  unfold sK at h0
  refine aO ?_
  refine aT aH 2 ?_
  refine eX 3 (aD x0) (by kernel_rfl) (by kernel_rfl) ?_
  refine bB ?_
  refine bD [(1, (.rp (aD x0)))] ?_
  refine aO ?_
  refine aT aH 15 ?_
  refine bO 2 ?_
  obtain ⟨x1, hx2, h0⟩ := aX h0
  refine cJ (wV x0.Row _ hx2) hO ?_
  intro H hO
  refine bB ?_
  refine bD [(2, (aK (((!x1) || (decide ((1048576 : Int) < x0.Net))) || (decide (x0.Net < (-1048576 : Int))))))] ?_
  refine bE ?_
  obtain rfl := oI h0
  exact aJ (Q_r hO)

theorem NH (x0 : aC) (r : Bool) (h0 : rU x0 = some r) : bR Try.prog 56 [(aD x0)] (aK r) := by
  intro H0
  refine bY Try.func56 ?_
  have hO := aL.start H0
  unfold rU at h0
  refine aO ?_
  refine aT aH 2 ?_
  refine eX 3 (aD x0) (by kernel_rfl) (by kernel_rfl) ?_
  refine bB ?_
  refine bD [(1, (.rp (aD x0)))] ?_
  refine bM aH 9 [(2, (aK ((decide (x0.At < (-1 : Int))) || (decide ((1125899906842624 : Int) < x0.At)))))] ?_
  refine bE ?_
  obtain rfl := oI h0
  exact aJ (Q_r hO)

theorem wM (s0 : (List aC)) (r : (List aC)) (h0 : eZ s0 = some r) : zC Try.prog 57 [(eL aD s0)] (fun lo => (.msl 3 lo 0 (List.length r))) 3 (List.map aD r) := by
  intro H0
  refine bY Try.func57 ?_
  have hO := aL.start H0
  unfold eZ at h0
  refine aU aH 1 [] [] ?_
  refine aO ?_
  refine aO ?_
  refine aT aH 2 ?_
  refine bO 1 ?_
  refine ZY false (List.length s0) (fun i => aD (List.getD s0 i default)) (by kernel_rfl) (by kernel_rfl) ?_
  intro b1 hn2
  refine cU ?_
  refine bP [] [(4, (aK b1))] ?_
  refine nZ (b1) (fun hc3 => ?_) (fun hc3 => ?_)
  · replace h0 : some ([] : List aC) = some r := by
      have hl := List.eq_nil_of_length_eq_zero (hn2 hc3)
      rw [hl] at h0
      exact (bA h0).2
    refine bM aH 1 [(2, (.sl true 0 (fun _ => .bad)))] ?_
    refine bE ?_
    refine cY [(2, (.sl true 0 (fun _ => .bad)))] ?_
    refine QL (el := (fun _ => .bad)) 0 2 3 hO (by kernel_rfl) ?_
    intro lo4 H5 hO
    obtain rfl := oI h0
    exact aJ (aP (oK (x := (.msl 3 lo4 0 (List.length ([] : List aC)))) (by kernel_rfl) (aS.refl _) ⟨lo4, rfl, hO⟩))
  · refine bH ?_
    refine bD [(0, (eL aD s0))] ?_
    refine aO ?_
    refine aT aH 4 ?_
    refine mD (xs := []) (k := 3) (by kernel_rfl) (by kernel_rfl) ?_
    refine bO 2 ?_
    obtain ⟨c7, h0⟩ := bA h0
    refine KT (e := aD) s0 (fun _ => .bad) 3 40 (eL aD s0) (fun lo6 => [(lo6, 3, List.map aD s0)]) (by kernel_rfl) (by kernel_rfl) hO (DA (fun _ => by kernel_rfl)) c7 (fun _ => by kernel_rfl) ?_
    intro lo6 H hO
    refine bB ?_
    refine bD [(2, (.msl 3 lo6 0 (List.length s0)))] ?_
    refine bE ?_
    obtain rfl := oI h0
    exact aJ (oK (x := (.msl 3 lo6 0 (List.length s0))) (by kernel_rfl) (aS.refl _) ⟨lo6, rfl, hO⟩)

theorem mZ (lo0p : Nat) (aA : (List aC)) (a1 : Int) (b2 : Int) (cmp3_f : Nat) (cmp3_a cmp3_c : List V) (cmp3 : aC → aC → Option Int) (cmp3_h : ∀ a0 a1 r, cmp3 a0 a1 = some r → bR Try.prog cmp3_f (cmp3_a ++ [(aD a0), (aD a1)] ++ cmp3_c) (eI r)) (r : List aC) (h0 : dL aA a1 b2 cmp3 = some r) : lF Try.prog 112 lo0p 3 (List.map aD aA) (List.map aD r) [(.msl 3 lo0p 0 (List.length aA)), (eI a1), (eI b2), (.fn (.func cmp3_f) cmp3_a cmp3_c)] (.tup []) := by
  intro H0 hl0
  refine bY Try.func112 ?_
  have hO := aL.pI hl0
  clear hl0
  obtain ⟨N0, hN0⟩ : ∃ n, n = List.length aA := ⟨_, rfl⟩
  have hN : List.length aA = N0 := hN0.symm
  unfold dL at h0
  refine aU aH 3 [] [(8, (eI (wR (a1 + (1 : Int)))))] ?_
  refine bN 0 ?_
  refine cR [(0, (.msl 3 lo0p 0 (List.length aA))), (1, (eI a1)), (2, (eI b2)), (3, (.fn (.func cmp3_f) cmp3_a cmp3_c)), (8, (eI (wR (a1 + (1 : Int)))))] ?_
  refine cG (fun T H => ∃ aA : List aC, ∃ i8 : Int, Has T [(0, (.msl 3 lo0p 0 (List.length aA))), (1, (eI a1)), (2, (eI b2)), (3, (.fn (.func cmp3_f) cmp3_a cmp3_c)), (8, (eI i8))] ∧ aL ⟨H0, [lo0p], []⟩ H [(lo0p, 3, List.map aD aA)] ∧ List.length aA = N0 ∧ jA cmp3 aA a1 b2 i8 = some r) ?_ ⟨aA, wR (a1 + (1 : Int)), .eq (by kernel_rfl), hO, hN, h0⟩
  clear hO hN h0
  rintro T H ⟨aA, i8, hT, hO, hN, h0⟩
  refine aZ hT ?_
  clear hT
  unfold jA at h0
  obtain ⟨rr0, hl0, h0⟩ := aX h0
  refine bV (by kernel_rfl) (fun (s : List aC × Int) T H => Has T [(0, (.msl 3 lo0p 0 (List.length s.1))), (1, (eI a1)), (2, (eI b2)), (3, (.fn (.func cmp3_f) cmp3_a cmp3_c)), (8, (eI s.2))] ∧ aL ⟨H0, [lo0p], []⟩ H [(lo0p, 3, List.map aD s.1)] ∧ List.length s.1 = N0) hl0 ⟨.eq (by kernel_rfl), hO, hN⟩ ?_
  clear hO hN
  rintro k0 s out1 T H ⟨hT, hO, hN⟩ h1 ho0
  obtain ⟨aA, i8⟩ := s
  replace h1 : jB cmp3 a1 b2 aA i8 = some out1 := h1
  dsimp only at hT
  refine aZ hT ?_
  clear hT
  unfold jB at h1
  refine aO ?_
  refine aU aH 3 [] [(14, (aK (decide (i8 < b2))))] ?_
  refine bF h1 (fun h1 => ?_) (fun h1 => ?_)
  · refine bH ?_
    refine bD [(0, (.msl 3 lo0p 0 (List.length aA))), (1, (eI a1)), (2, (eI b2)), (3, (.fn (.func cmp3_f) cmp3_a cmp3_c)), (8, (eI i8))] ?_
    refine cL (fun T H => ∃ aA : List aC, Has T [(0, (.msl 3 lo0p 0 (List.length aA))), (1, (eI a1)), (2, (eI b2)), (3, (.fn (.func cmp3_f) cmp3_a cmp3_c)), (8, (eI i8))] ∧ aL ⟨H0, [lo0p], []⟩ H [(lo0p, 3, List.map aD aA)] ∧ List.length aA = N0 ∧ eW cmp3 aA a1 b2 i8 = some out1) ?_ ?_
    · clear hO hN h1
      rintro T H ⟨aA, hT, hO, hN, h1⟩
      refine aZ hT ?_
      clear hT
      unfold eW at h1
      refine aT aH 3 ?_
      refine bB ?_
      exact aJ (aI (⟨rfl, _, (oI h1).symm, .eq (by kernel_rfl), hO, hN⟩))
    refine bN 1 ?_
    refine aU aH 2 [] [(9, (eI i8))] ?_
    refine bN 2 ?_
    refine cR [(0, (.msl 3 lo0p 0 (List.length aA))), (1, (eI a1)), (2, (eI b2)), (3, (.fn (.func cmp3_f) cmp3_a cmp3_c)), (8, (eI i8)), (9, (eI i8))] ?_
    refine cG (fun T H => ∃ aA : List aC, ∃ j9 : Int, Has T [(0, (.msl 3 lo0p 0 (List.length aA))), (1, (eI a1)), (2, (eI b2)), (3, (.fn (.func cmp3_f) cmp3_a cmp3_c)), (8, (eI i8)), (9, (eI j9))] ∧ aL ⟨H0, [lo0p], []⟩ H [(lo0p, 3, List.map aD aA)] ∧ List.length aA = N0 ∧ jC cmp3 aA a1 b2 i8 j9 = some out1) ?_ ⟨aA, i8, .eq (by kernel_rfl), hO, hN, h1⟩
    clear hO hN h1
    rintro T H ⟨aA, j9, hT, hO, hN, h1⟩
    refine aZ hT ?_
    clear hT
    unfold jC at h1
    obtain ⟨rr1, hl1, h1⟩ := aX h1
    refine bV (by kernel_rfl) (fun (s : List aC × Int) T H => Has T [(0, (.msl 3 lo0p 0 (List.length s.1))), (1, (eI a1)), (2, (eI b2)), (3, (.fn (.func cmp3_f) cmp3_a cmp3_c)), (8, (eI i8)), (9, (eI s.2))] ∧ aL ⟨H0, [lo0p], []⟩ H [(lo0p, 3, List.map aD s.1)] ∧ List.length s.1 = N0) hl1 ⟨.eq (by kernel_rfl), hO, hN⟩ ?_
    clear hO hN
    rintro k1 s out2 T H ⟨hT, hO, hN⟩ h2 ho1
    obtain ⟨aA, j9⟩ := s
    replace h2 : jG cmp3 a1 b2 i8 aA j9 = some out2 := h2
    dsimp only at hT
    refine aZ hT ?_
    clear hT
    unfold jG at h2
    refine aO ?_
    refine aO ?_
    obtain ⟨c2, h2⟩ := bA h2
    obtain ⟨c3, h2⟩ := bA h2
    obtain ⟨x4, hx5, h2⟩ := aX h2
    refine hU (hM []) aH 17 ?_
    refine yH (K := fun T H => Has (lift T) [(0, (.msl 3 lo0p 0 (List.length aA))), (1, (eI a1)), (2, (eI b2)), (3, (.fn (.func cmp3_f) cmp3_a cmp3_c)), (8, (eI i8)), (9, (eI j9)), (34, (aK ((decide (a1 < j9)) && (decide (x4 < (0 : Int))))))] ∧ aL ⟨H0, [lo0p], []⟩ H [(lo0p, 3, List.map aD aA)]) ?_ ?_
    · refine mT 4 ?_
      refine nS (t := 21) (e := decide (a1 < j9)) (by kernel_rfl) (fun hg6 => ?_) (fun hg6 => ?_)
      · refine cV 8 [0 ≤ j9 ∧ j9 < (lN aA)] ⟨(c2 hg6), trivial⟩ ?_
        refine wX 0 lo0p 3 (0 + Int.toNat j9) (aD (gD aA j9)) (aD (gD aA j9)) (List.map aD aA) (by kernel_rfl) (by kernel_rfl) (by kernel_rfl) hO (by kernel_rfl) (cM (c2 hg6)) ?_
        refine cV 13 [0 ≤ (wR (j9 - (1 : Int))) ∧ (wR (j9 - (1 : Int))) < (lN aA)] ⟨(c3 hg6), trivial⟩ ?_
        refine wX 0 lo0p 3 (0 + Int.toNat (wR (j9 - (1 : Int)))) (aD (gD aA (wR (j9 - (1 : Int))))) (aD (gD aA (wR (j9 - (1 : Int))))) (List.map aD aA) (by kernel_rfl) (by kernel_rfl) (by kernel_rfl) hO (by kernel_rfl) (cM (c3 hg6)) ?_
        refine qT cmp3_f (cmp3_a ++ [(aD (gD aA j9)), (aD (gD aA (wR (j9 - (1 : Int)))))] ++ cmp3_c) (eI x4) (by kernel_rfl) (by kernel_rfl) (cmp3_h (gD aA j9) (gD aA (wR (j9 - (1 : Int)))) _ (jO hx5 hg6)) hO ?_
        intro H hO
        refine jN ?_
        exact ⟨⟨[(0, (.msl 3 lo0p 0 (List.length aA))), (1, (eI a1)), (2, (eI b2)), (3, (.fn (.func cmp3_f) cmp3_a cmp3_c)), (8, (eI i8)), (9, (eI j9)), (34, (aK (decide (x4 < (0 : Int)))))], by kernel_rfl, rfl, ⟨aS.refl _, aS.refl _, aS.refl _, aS.refl _, aS.refl _, aS.refl _, aS.eq (congrArg aK (eH hg6 rfl).symm), trivial⟩⟩, hO⟩
      refine jN ?_
      exact ⟨⟨[(0, (.msl 3 lo0p 0 (List.length aA))), (1, (eI a1)), (2, (eI b2)), (3, (.fn (.func cmp3_f) cmp3_a cmp3_c)), (8, (eI i8)), (9, (eI j9)), (34, (aK false))], by kernel_rfl, rfl, ⟨aS.refl _, aS.refl _, aS.refl _, aS.refl _, aS.refl _, aS.refl _, aS.eq (congrArg aK (eH hg6 rfl).symm), trivial⟩⟩, hO⟩
    · rintro T H ⟨hT, hO⟩
      refine cH hT ?_
      clear hT
      refine aJ (aI ?_)
      refine bF h2 (fun h2 => ?_) (fun h2 => ?_)
      · refine bH ?_
        refine bD [(0, (.msl 3 lo0p 0 (List.length aA))), (1, (eI a1)), (2, (eI b2)), (3, (.fn (.func cmp3_f) cmp3_a cmp3_c)), (8, (eI i8)), (9, (eI j9))] ?_
        refine aO ?_
        refine bN 3 ?_
        refine hU (hM []) aH 18 ?_
        obtain ⟨c8, h2⟩ := bA h2
        refine cV 9 [0 ≤ (wR (j9 - (1 : Int))) ∧ (wR (j9 - (1 : Int))) < (lN aA)] ⟨c8, trivial⟩ ?_
        refine lR 0 lo0p 3 (0 + Int.toNat (wR (j9 - (1 : Int)))) (aD (gD aA (wR (j9 - (1 : Int))))) (aD (gD aA (wR (j9 - (1 : Int))))) (List.map aD aA) hO (cM c8) ?_
        obtain ⟨c9, h2⟩ := bA h2
        refine cV 13 [0 ≤ j9 ∧ j9 < (lN aA)] ⟨c9, trivial⟩ ?_
        refine lR 0 lo0p 3 (0 + Int.toNat j9) (aD (gD aA j9)) (aD (gD aA j9)) (List.map aD aA) hO (cM c9) ?_
        obtain ⟨c10, h2⟩ := bA h2
        refine cV 15 [0 ≤ j9 ∧ j9 < (lN aA)] ⟨c10, trivial⟩ ?_
        refine tT 0 lo0p 3 (0 + Int.toNat j9) (aD (gD aA j9)) (aD (gD aA (wR (j9 - (1 : Int))))) (List.map aD aA) [(lo0p, 3, List.map aD (List.set aA (Int.toNat j9) (gD aA (wR (j9 - (1 : Int))))))] hO (cM c10) (by simp only [List.set, oD]) ?_
        intro H hO
        replace hN : List.length (List.set aA (Int.toNat j9) (gD aA (wR (j9 - (1 : Int))))) = N0 := by simpa using hN
        obtain ⟨c11, h2⟩ := bA h2
        refine cV 17 [0 ≤ (wR (j9 - (1 : Int))) ∧ (wR (j9 - (1 : Int))) < (lN aA)] ⟨c11, trivial⟩ ?_
        refine tT 0 lo0p 3 (0 + Int.toNat (wR (j9 - (1 : Int)))) (aD (gD (List.set aA (Int.toNat j9) (gD aA (wR (j9 - (1 : Int))))) (wR (j9 - (1 : Int))))) (aD (gD aA j9)) (List.map aD (List.set aA (Int.toNat j9) (gD aA (wR (j9 - (1 : Int)))))) [(lo0p, 3, List.map aD (List.set (List.set aA (Int.toNat j9) (gD aA (wR (j9 - (1 : Int))))) (Int.toNat (wR (j9 - (1 : Int)))) (gD aA j9)))] hO (wT c11 (by simp [])) (by simp only [List.set, oD]) ?_
        intro H hO
        replace hN : List.length (List.set (List.set aA (Int.toNat j9) (gD aA (wR (j9 - (1 : Int))))) (Int.toNat (wR (j9 - (1 : Int)))) (gD aA j9)) = N0 := by simpa using hN
        refine AU (by kernel_rfl) ?_
        refine cH (l := [(0, (.msl 3 lo0p 0 (List.length (List.set (List.set aA (Int.toNat j9) (gD aA (wR (j9 - (1 : Int))))) (Int.toNat (wR (j9 - (1 : Int)))) (gD aA j9))))), (1, (eI a1)), (2, (eI b2)), (3, (.fn (.func cmp3_f) cmp3_a cmp3_c)), (8, (eI i8)), (9, (eI j9))]) ⟨[(0, (.msl 3 lo0p 0 (List.length aA))), (1, (eI a1)), (2, (eI b2)), (3, (.fn (.func cmp3_f) cmp3_a cmp3_c)), (8, (eI i8)), (9, (eI j9))], by kernel_rfl, rfl, ⟨aS.eq (by simp []), aS.refl _, aS.refl _, aS.refl _, aS.refl _, aS.refl _, trivial⟩⟩ ?_
        refine aJ (aV (aI (?_)))
        refine aT aH 3 ?_
        refine bB ?_
        exact aJ (aI (⟨rfl, _, (oI h2).symm, .eq (by kernel_rfl), hO, hN⟩))
      refine dG 2 ?_
      obtain rfl := oI h2
      obtain rfl : _ = rr1 := ho1
      replace h1 : eW cmp3 aA a1 b2 i8 = some out1 := h1
      exact aJ (aR (aR (bL (aV (aI (⟨rfl, _, .eq (by kernel_rfl), hO, hN, h1⟩))))))
  refine dG 0 ?_
  obtain rfl := oI h1
  obtain rfl : _ = rr0 := ho0
  replace h0 : some aA = some r := h0
  obtain rfl := oI h0
  exact aJ (aR (aR (bL (rD (x := (.tup [])) (by kernel_rfl) (aS.refl _) ⟨rfl, hO.ext, hO.at 0 (by kernel_rfl), by simp only [List.length_map]; exact hN.trans hN0⟩))))

theorem lA (lo0p : Nat) (aA : (List aC)) (a1 : Int) (b2 : Int) (n3 : Int) (cmp4_f : Nat) (cmp4_a cmp4_c : List V) (cmp4 : aC → aC → Option Int) (cmp4_h : ∀ a0 a1 r, cmp4 a0 a1 = some r → bR Try.prog cmp4_f (cmp4_a ++ [(aD a0), (aD a1)] ++ cmp4_c) (eI r)) (r : List aC) (h0 : eF aA a1 b2 n3 cmp4 = some r) : lF Try.prog 123 lo0p 3 (List.map aD aA) (List.map aD r) [(.msl 3 lo0p 0 (List.length aA)), (eI a1), (eI b2), (eI n3), (.fn (.func cmp4_f) cmp4_a cmp4_c)] (.tup []) := by
  intro H0 hl0
  refine bY Try.func123 ?_
  have hO := aL.pI hl0
  clear hl0
  obtain ⟨N0, hN0⟩ : ∃ n, n = List.length aA := ⟨_, rfl⟩
  have hN : List.length aA = N0 := hN0.symm
  unfold eF at h0
  refine aU aH 1 [4] [(10, (eI (0 : Int)))] ?_
  refine bN 0 ?_
  refine cR [(0, (.msl 3 lo0p 0 (List.length aA))), (1, (eI a1)), (2, (eI b2)), (3, (eI n3)), (10, (eI (0 : Int)))] ?_
  refine cG (fun T H => ∃ aA : List aC, ∃ i10 : Int, Has T [(0, (.msl 3 lo0p 0 (List.length aA))), (1, (eI a1)), (2, (eI b2)), (3, (eI n3)), (10, (eI i10))] ∧ aL ⟨H0, [lo0p], []⟩ H [(lo0p, 3, List.map aD aA)] ∧ List.length aA = N0 ∧ kG cmp4 aA a1 b2 n3 i10 = some r) ?_ ⟨aA, (0 : Int), .eq (by kernel_rfl), hO, hN, h0⟩
  clear hO hN h0
  rintro T H ⟨aA, i10, hT, hO, hN, h0⟩
  refine aZ hT ?_
  clear hT
  unfold kG at h0
  obtain ⟨rr0, hl0, h0⟩ := aX h0
  refine bV (by kernel_rfl) (fun (s : List aC × Int) T H => Has T [(0, (.msl 3 lo0p 0 (List.length s.1))), (1, (eI a1)), (2, (eI b2)), (3, (eI n3)), (10, (eI s.2))] ∧ aL ⟨H0, [lo0p], []⟩ H [(lo0p, 3, List.map aD s.1)] ∧ List.length s.1 = N0) hl0 ⟨.eq (by kernel_rfl), hO, hN⟩ ?_
  clear hO hN
  rintro k0 s out1 T H ⟨hT, hO, hN⟩ h1 ho0
  obtain ⟨aA, i10⟩ := s
  replace h1 : kQ cmp4 a1 b2 n3 aA i10 = some out1 := h1
  dsimp only at hT
  refine aZ hT ?_
  clear hT
  unfold kQ at h1
  refine aO ?_
  refine aU aH 3 [] [(13, (aK (decide (i10 < n3))))] ?_
  refine bF h1 (fun h1 => ?_) (fun h1 => ?_)
  · refine bH ?_
    refine bD [(0, (.msl 3 lo0p 0 (List.length aA))), (1, (eI a1)), (2, (eI b2)), (3, (eI n3)), (10, (eI i10))] ?_
    refine aO ?_
    refine bN 1 ?_
    refine hU (hM []) aH 24 ?_
    obtain ⟨c2, h1⟩ := bA h1
    refine cV 13 [0 ≤ (wR (b2 + i10)) ∧ (wR (b2 + i10)) < (lN aA)] ⟨c2, trivial⟩ ?_
    refine lR 0 lo0p 3 (0 + Int.toNat (wR (b2 + i10))) (aD (gD aA (wR (b2 + i10)))) (aD (gD aA (wR (b2 + i10)))) (List.map aD aA) hO (cM c2) ?_
    obtain ⟨c3, h1⟩ := bA h1
    refine cV 19 [0 ≤ (wR (a1 + i10)) ∧ (wR (a1 + i10)) < (lN aA)] ⟨c3, trivial⟩ ?_
    refine lR 0 lo0p 3 (0 + Int.toNat (wR (a1 + i10))) (aD (gD aA (wR (a1 + i10)))) (aD (gD aA (wR (a1 + i10)))) (List.map aD aA) hO (cM c3) ?_
    obtain ⟨c4, h1⟩ := bA h1
    refine cV 21 [0 ≤ (wR (a1 + i10)) ∧ (wR (a1 + i10)) < (lN aA)] ⟨c4, trivial⟩ ?_
    refine tT 0 lo0p 3 (0 + Int.toNat (wR (a1 + i10))) (aD (gD aA (wR (a1 + i10)))) (aD (gD aA (wR (b2 + i10)))) (List.map aD aA) [(lo0p, 3, List.map aD (List.set aA (Int.toNat (wR (a1 + i10))) (gD aA (wR (b2 + i10)))))] hO (cM c4) (by simp only [List.set, oD]) ?_
    intro H hO
    replace hN : List.length (List.set aA (Int.toNat (wR (a1 + i10))) (gD aA (wR (b2 + i10)))) = N0 := by simpa using hN
    obtain ⟨c5, h1⟩ := bA h1
    refine cV 23 [0 ≤ (wR (b2 + i10)) ∧ (wR (b2 + i10)) < (lN aA)] ⟨c5, trivial⟩ ?_
    refine tT 0 lo0p 3 (0 + Int.toNat (wR (b2 + i10))) (aD (gD (List.set aA (Int.toNat (wR (a1 + i10))) (gD aA (wR (b2 + i10)))) (wR (b2 + i10)))) (aD (gD aA (wR (a1 + i10)))) (List.map aD (List.set aA (Int.toNat (wR (a1 + i10))) (gD aA (wR (b2 + i10))))) [(lo0p, 3, List.map aD (List.set (List.set aA (Int.toNat (wR (a1 + i10))) (gD aA (wR (b2 + i10)))) (Int.toNat (wR (b2 + i10))) (gD aA (wR (a1 + i10)))))] hO (wT c5 (by simp [])) (by simp only [List.set, oD]) ?_
    intro H hO
    replace hN : List.length (List.set (List.set aA (Int.toNat (wR (a1 + i10))) (gD aA (wR (b2 + i10)))) (Int.toNat (wR (b2 + i10))) (gD aA (wR (a1 + i10)))) = N0 := by simpa using hN
    refine AU (by kernel_rfl) ?_
    refine cH (l := [(0, (.msl 3 lo0p 0 (List.length (List.set (List.set aA (Int.toNat (wR (a1 + i10))) (gD aA (wR (b2 + i10)))) (Int.toNat (wR (b2 + i10))) (gD aA (wR (a1 + i10))))))), (1, (eI a1)), (2, (eI b2)), (3, (eI n3)), (10, (eI i10))]) ⟨[(0, (.msl 3 lo0p 0 (List.length aA))), (1, (eI a1)), (2, (eI b2)), (3, (eI n3)), (10, (eI i10))], by kernel_rfl, rfl, ⟨aS.eq (by simp []), aS.refl _, aS.refl _, aS.refl _, aS.refl _, trivial⟩⟩ ?_
    refine aJ (aV (aI (?_)))
    refine aT aH 3 ?_
    refine bB ?_
    exact aJ (aI (⟨rfl, _, (oI h1).symm, .eq (by kernel_rfl), hO, hN⟩))
  refine dG 0 ?_
  obtain rfl := oI h1
  obtain rfl : _ = rr0 := ho0
  replace h0 : some aA = some r := h0
  obtain rfl := oI h0
  exact aJ (aR (aR (bL (rD (x := (.tup [])) (by kernel_rfl) (aS.refl _) ⟨rfl, hO.ext, hO.at 0 (by kernel_rfl), by simp only [List.length_map]; exact hN.trans hN0⟩))))

theorem xA (lo0p : Nat) (aA : (List aC)) (a1 : Int) (m2 : Int) (b3 : Int) (cmp4_f : Nat) (cmp4_a cmp4_c : List V) (cmp4 : aC → aC → Option Int) (cmp4_h : ∀ a0 a1 r, cmp4 a0 a1 = some r → bR Try.prog cmp4_f (cmp4_a ++ [(aD a0), (aD a1)] ++ cmp4_c) (eI r)) (r : List aC) (h0 : lW aA a1 m2 b3 cmp4 = some r) : lF Try.prog 118 lo0p 3 (List.map aD aA) (List.map aD r) [(.msl 3 lo0p 0 (List.length aA)), (eI a1), (eI m2), (eI b3), (.fn (.func cmp4_f) cmp4_a cmp4_c)] (.tup []) := by
  intro H0 hl0
  refine bY Try.func118 ?_
  have hO := aL.pI hl0
  clear hl0
  obtain ⟨N0, hN0⟩ : ∃ n, n = List.length aA := ⟨_, rfl⟩
  have hN : List.length aA = N0 := hN0.symm
  unfold lW at h0
  refine aU aH 4 [1] [(10, (eI (wR (m2 - a1))))] ?_
  refine aU aH 4 [3] [(11, (eI (wR (b3 - m2))))] ?_
  refine cL (fun T H => ∃ aA : List aC, ∃ i10 : Int, Has T [(0, (.msl 3 lo0p 0 (List.length aA))), (2, (eI m2)), (4, (.fn (.func cmp4_f) cmp4_a cmp4_c)), (10, (eI i10))] ∧ aL ⟨H0, [lo0p], []⟩ H [(lo0p, 3, List.map aD aA)] ∧ List.length aA = N0 ∧ iF cmp4 aA m2 i10 = some r) ?_ ?_
  · clear hO hN h0
    rintro T H ⟨aA, i10, hT, hO, hN, h0⟩
    refine aZ hT ?_
    clear hT
    unfold iF at h0
    refine aT aH 8 ?_
    refine bO 7 ?_
    obtain ⟨x1, hx2, h0⟩ := aX h0
    refine oJ [(lo0p, 3, List.map aD x1)] 0 (lA lo0p aA (wR (m2 - i10)) m2 i10 cmp4_f cmp4_a cmp4_c cmp4 cmp4_h _ hx2) hO ?_
    intro H hO hl3
    simp only [List.length_map] at hl3
    replace hN := hl3.trans hN
    refine cU ?_
    refine cH (l := [(0, (.msl 3 lo0p 0 (List.length x1)))]) ⟨[(0, (.msl 3 lo0p 0 (List.length aA)))], by kernel_rfl, rfl, ⟨aS.eq (by simp [hl3]), trivial⟩⟩ ?_
    obtain rfl := oI h0
    exact aJ (rD (x := (.tup [])) (by kernel_rfl) (aS.refl _) ⟨rfl, hO.ext, hO.at 0 (by kernel_rfl), by simp only [List.length_map]; exact hN.trans hN0⟩)
  refine bN 0 ?_
  refine cR [(0, (.msl 3 lo0p 0 (List.length aA))), (2, (eI m2)), (4, (.fn (.func cmp4_f) cmp4_a cmp4_c)), (10, (eI (wR (m2 - a1)))), (11, (eI (wR (b3 - m2))))] ?_
  refine cG (fun T H => ∃ aA : List aC, ∃ i10 : Int, ∃ j11 : Int, Has T [(0, (.msl 3 lo0p 0 (List.length aA))), (2, (eI m2)), (4, (.fn (.func cmp4_f) cmp4_a cmp4_c)), (10, (eI i10)), (11, (eI j11))] ∧ aL ⟨H0, [lo0p], []⟩ H [(lo0p, 3, List.map aD aA)] ∧ List.length aA = N0 ∧ lO cmp4 aA m2 i10 j11 = some r) ?_ ⟨aA, wR (m2 - a1), wR (b3 - m2), .eq (by kernel_rfl), hO, hN, h0⟩
  clear hO hN h0
  rintro T H ⟨aA, i10, j11, hT, hO, hN, h0⟩
  refine aZ hT ?_
  clear hT
  unfold lO at h0
  obtain ⟨rr0, hl0, h0⟩ := aX h0
  refine bV (by kernel_rfl) (fun (s : List aC × Int × Int) T H => Has T [(0, (.msl 3 lo0p 0 (List.length s.1))), (2, (eI m2)), (4, (.fn (.func cmp4_f) cmp4_a cmp4_c)), (10, (eI s.2.1)), (11, (eI s.2.2))] ∧ aL ⟨H0, [lo0p], []⟩ H [(lo0p, 3, List.map aD s.1)] ∧ List.length s.1 = N0) hl0 ⟨.eq (by kernel_rfl), hO, hN⟩ ?_
  clear hO hN
  rintro k0 s out1 T H ⟨hT, hO, hN⟩ h1 ho0
  obtain ⟨aA, i10, j11⟩ := s
  replace h1 : lP cmp4 m2 aA i10 j11 = some out1 := h1
  dsimp only at hT
  refine aZ hT ?_
  clear hT
  unfold lP at h1
  refine aO ?_
  refine aU aH 3 [] [(20, (aK (!decide (i10 = j11))))] ?_
  refine bF h1 (fun h1 => ?_) (fun h1 => ?_)
  · refine bH ?_
    refine bD [(0, (.msl 3 lo0p 0 (List.length aA))), (2, (eI m2)), (4, (.fn (.func cmp4_f) cmp4_a cmp4_c)), (10, (eI i10)), (11, (eI j11))] ?_
    refine bN 1 ?_
    refine aU aH 3 [] [(23, (aK (decide (j11 < i10))))] ?_
    refine bF h1 (fun h1 => ?_) (fun h1 => ?_)
    · refine aO ?_
      refine aT aH 8 ?_
      refine bO 7 ?_
      obtain ⟨x6, hx7, h1⟩ := aX h1
      refine oJ [(lo0p, 3, List.map aD x6)] 0 (lA lo0p aA (wR (m2 - i10)) m2 j11 cmp4_f cmp4_a cmp4_c cmp4 cmp4_h _ hx7) hO ?_
      intro H hO hl8
      simp only [List.length_map] at hl8
      replace hN := hl8.trans hN
      refine cU ?_
      refine cH (l := [(0, (.msl 3 lo0p 0 (List.length x6))), (2, (eI m2)), (4, (.fn (.func cmp4_f) cmp4_a cmp4_c)), (10, (eI i10)), (11, (eI j11))]) ⟨[(0, (.msl 3 lo0p 0 (List.length aA))), (2, (eI m2)), (4, (.fn (.func cmp4_f) cmp4_a cmp4_c)), (10, (eI i10)), (11, (eI j11))], by kernel_rfl, rfl, ⟨aS.eq (by simp [hl8]), aS.refl _, aS.refl _, aS.refl _, aS.refl _, trivial⟩⟩ ?_
      refine aJ (aI (?_))
      refine aT aH 4 ?_
      refine bB ?_
      exact aJ (aV (aI (⟨rfl, _, (oI h1).symm, .eq (by kernel_rfl), hO, hN⟩)))
    refine aO ?_
    refine aT aH 12 ?_
    refine bO 11 ?_
    obtain ⟨x9, hx10, h1⟩ := aX h1
    refine oJ [(lo0p, 3, List.map aD x9)] 0 (lA lo0p aA (wR (m2 - i10)) (wR ((wR (m2 + j11)) - i10)) i10 cmp4_f cmp4_a cmp4_c cmp4 cmp4_h _ hx10) hO ?_
    intro H hO hl11
    simp only [List.length_map] at hl11
    replace hN := hl11.trans hN
    refine cU ?_
    refine cH (l := [(0, (.msl 3 lo0p 0 (List.length x9))), (2, (eI m2)), (4, (.fn (.func cmp4_f) cmp4_a cmp4_c)), (10, (eI i10)), (11, (eI j11))]) ⟨[(0, (.msl 3 lo0p 0 (List.length aA))), (2, (eI m2)), (4, (.fn (.func cmp4_f) cmp4_a cmp4_c)), (10, (eI i10)), (11, (eI j11))], by kernel_rfl, rfl, ⟨aS.eq (by simp [hl11]), aS.refl _, aS.refl _, aS.refl _, aS.refl _, trivial⟩⟩ ?_
    refine aJ (aI (?_))
    refine aT aH 4 ?_
    refine bB ?_
    exact aJ (aV (aI (⟨rfl, _, (oI h1).symm, .eq (by kernel_rfl), hO, hN⟩)))
  refine dG 0 ?_
  obtain rfl := oI h1
  obtain rfl : _ = rr0 := ho0
  replace h0 : iF cmp4 aA m2 i10 = some r := h0
  exact aJ (aR (aR (bL (aI (⟨rfl, _, _, .eq (by kernel_rfl), hO, hN, h0⟩)))))

theorem sU (cmp4_f : Nat) (cmp4_a cmp4_c : List V) (cmp4 : aC → aC → Option Int) (cmp4_h : ∀ a0 a1 r, cmp4 a0 a1 = some r → bR Try.prog cmp4_f (cmp4_a ++ [(aD a0), (aD a1)] ++ cmp4_c) (eI r)) (rec : (List aC) → Int → Int → Int → Option (List aC)) (ih : ∀ (lo0p : Nat) (aA : (List aC)) (a1 : Int) (m2 : Int) (b3 : Int) (r : List aC), rec aA a1 m2 b3 = some r → lF Try.prog 113 lo0p 3 (List.map aD aA) (List.map aD r) [(.msl 3 lo0p 0 (List.length aA)), (eI a1), (eI m2), (eI b3), (.fn (.func cmp4_f) cmp4_a cmp4_c)] (.tup [])) (lo0p : Nat) (aA : (List aC)) (a1 : Int) (m2 : Int) (b3 : Int) (r : List aC) (h0 : dU cmp4 rec aA a1 m2 b3 = some r) : lF Try.prog 113 lo0p 3 (List.map aD aA) (List.map aD r) [(.msl 3 lo0p 0 (List.length aA)), (eI a1), (eI m2), (eI b3), (.fn (.func cmp4_f) cmp4_a cmp4_c)] (.tup []) := by
  intro H0 hl0
  refine bY Try.func113 ?_
  have hO := aL.pI hl0
  clear hl0
  obtain ⟨N0, hN0⟩ : ∃ n, n = List.length aA := ⟨_, rfl⟩
  have hN : List.length aA = N0 := hN0.symm
  unfold dU at h0
  refine cL (fun T H => ∃ aA : List aC, Has T [(0, (.msl 3 lo0p 0 (List.length aA))), (1, (eI a1)), (2, (eI m2)), (3, (eI b3)), (4, (.fn (.func cmp4_f) cmp4_a cmp4_c))] ∧ aL ⟨H0, [lo0p], []⟩ H [(lo0p, 3, List.map aD aA)] ∧ List.length aA = N0 ∧ kV cmp4 rec aA a1 m2 b3 = some r) ?_ ?_
  · clear hO hN h0
    rintro T H ⟨aA, hT, hO, hN, h0⟩
    refine aZ hT ?_
    clear hT
    unfold kV at h0
    refine cL (fun T H => ∃ aA : List aC, Has T [(0, (.msl 3 lo0p 0 (List.length aA))), (1, (eI a1)), (2, (eI m2)), (3, (eI b3)), (4, (.fn (.func cmp4_f) cmp4_a cmp4_c))] ∧ aL ⟨H0, [lo0p], []⟩ H [(lo0p, 3, List.map aD aA)] ∧ List.length aA = N0 ∧ kZ cmp4 rec aA a1 m2 b3 = some r) ?_ ?_
    · clear hO hN h0
      rintro T H ⟨aA, hT, hO, hN, h0⟩
      refine aZ hT ?_
      clear hT
      unfold kZ at h0
      refine aO ?_
      refine aT aH 7 ?_
      obtain ⟨c1, h0⟩ := bA h0
      refine nG [0 ≤ (1 : Int)] ⟨c1, trivial⟩ ?_
      refine bP [] [(18, (eI (wR (Int.fdiv (IntKind.u64.wrap (wR (a1 + b3))) (2 ^ (min (Int.toNat (1 : Int)) 64))))))] ?_
      refine aU aH 4 [] [(19, (eI (wR ((wR (Int.fdiv (IntKind.u64.wrap (wR (a1 + b3))) (2 ^ (min (Int.toNat (1 : Int)) 64)))) + m2))))] ?_
      refine aU aH 2 [] [] ?_
      refine cL (fun T H => ∃ aA : List aC, ∃ bQ : Int, ∃ n19 : Int, ∃ aQ : Int, ∃ r21 : Int, Has T [(0, (.msl 3 lo0p 0 (List.length aA))), (1, (eI a1)), (2, (eI m2)), (3, (eI b3)), (4, (.fn (.func cmp4_f) cmp4_a cmp4_c)), (18, (eI bQ)), (19, (eI n19)), (20, (eI aQ)), (21, (eI r21))] ∧ aL ⟨H0, [lo0p], []⟩ H [(lo0p, 3, List.map aD aA)] ∧ List.length aA = N0 ∧ gT cmp4 rec aA a1 m2 b3 bQ n19 aQ r21 = some r) ?_ ?_
      · clear hO hN h0
        rintro T H ⟨aA, bQ, n19, aQ, r21, hT, hO, hN, h0⟩
        refine aZ hT ?_
        clear hT
        unfold gT at h0
        refine aU aH 3 [] [(22, (eI (wR (n19 - (1 : Int)))))] ?_
        refine cL (fun T H => ∃ aA : List aC, ∃ aQ : Int, Has T [(0, (.msl 3 lo0p 0 (List.length aA))), (1, (eI a1)), (2, (eI m2)), (3, (eI b3)), (4, (.fn (.func cmp4_f) cmp4_a cmp4_c)), (18, (eI bQ)), (19, (eI n19)), (20, (eI aQ))] ∧ aL ⟨H0, [lo0p], []⟩ H [(lo0p, 3, List.map aD aA)] ∧ List.length aA = N0 ∧ gG cmp4 rec aA a1 m2 b3 bQ n19 aQ = some r) ?_ ?_
        · clear hO hN h0
          rintro T H ⟨aA, aQ, hT, hO, hN, h0⟩
          refine aZ hT ?_
          clear hT
          unfold gG at h0
          refine aU aH 4 [19] [(24, (eI (wR (n19 - aQ))))] ?_
          refine cL (fun T H => ∃ aA : List aC, ∃ dV : Int, Has T [(0, (.msl 3 lo0p 0 (List.length aA))), (1, (eI a1)), (3, (eI b3)), (4, (.fn (.func cmp4_f) cmp4_a cmp4_c)), (18, (eI bQ)), (20, (eI aQ)), (24, (eI dV))] ∧ aL ⟨H0, [lo0p], []⟩ H [(lo0p, 3, List.map aD aA)] ∧ List.length aA = N0 ∧ gX cmp4 rec aA a1 b3 bQ aQ dV = some r) ?_ ?_
          · clear hO hN h0
            rintro T H ⟨aA, dV, hT, hO, hN, h0⟩
            refine aZ hT ?_
            clear hT
            unfold gX at h0
            refine cL (fun T H => ∃ aA : List aC, Has T [(0, (.msl 3 lo0p 0 (List.length aA))), (3, (eI b3)), (4, (.fn (.func cmp4_f) cmp4_a cmp4_c)), (18, (eI bQ)), (24, (eI dV))] ∧ aL ⟨H0, [lo0p], []⟩ H [(lo0p, 3, List.map aD aA)] ∧ List.length aA = N0 ∧ gS cmp4 rec aA b3 bQ dV = some r) ?_ ?_
            · clear hO hN h0
              rintro T H ⟨aA, hT, hO, hN, h0⟩
              refine aZ hT ?_
              clear hT
              unfold gS at h0
              refine aU aH 8 [] [(213, (aK ((decide (bQ < dV)) && (decide (dV < b3)))))] ?_
              refine bF h0 (fun h0 => ?_) (fun h0 => ?_)
              · refine aT aH 6 ?_
                refine bO 5 ?_
                obtain ⟨x3, hx4, h0⟩ := aX h0
                refine oJ [(lo0p, 3, List.map aD x3)] 0 (ih lo0p aA bQ dV b3 _ hx4) hO ?_
                intro H hO hl5
                simp only [List.length_map] at hl5
                replace hN := hl5.trans hN
                refine cU ?_
                refine cH (l := [(0, (.msl 3 lo0p 0 (List.length x3)))]) ⟨[(0, (.msl 3 lo0p 0 (List.length aA)))], by kernel_rfl, rfl, ⟨aS.eq (by simp [hl5]), trivial⟩⟩ ?_
                obtain rfl := oI h0
                exact aJ (rD (x := (.tup [])) (by kernel_rfl) (aS.refl _) ⟨rfl, hO.ext, hO.at 0 (by kernel_rfl), by simp only [List.length_map]; exact hN.trans hN0⟩)
              refine bH ?_
              obtain rfl := oI h0
              exact aJ (rD (x := (.tup [])) (by kernel_rfl) (aS.refl _) ⟨rfl, hO.ext, hO.at 0 (by kernel_rfl), by simp only [List.length_map]; exact hN.trans hN0⟩)
            refine aU aH 8 [] [(199, (aK ((decide (a1 < aQ)) && (decide (aQ < bQ)))))] ?_
            refine bF h0 (fun h0 => ?_) (fun h0 => ?_)
            · refine aT aH 6 ?_
              refine bO 5 ?_
              obtain ⟨x7, hx8, h0⟩ := aX h0
              refine oJ [(lo0p, 3, List.map aD x7)] 0 (ih lo0p aA a1 aQ bQ _ hx8) hO ?_
              intro H hO hl9
              simp only [List.length_map] at hl9
              replace hN := hl9.trans hN
              refine cU ?_
              refine cH (l := [(0, (.msl 3 lo0p 0 (List.length x7))), (3, (eI b3)), (4, (.fn (.func cmp4_f) cmp4_a cmp4_c)), (18, (eI bQ)), (24, (eI dV))]) ⟨[(0, (.msl 3 lo0p 0 (List.length aA))), (3, (eI b3)), (4, (.fn (.func cmp4_f) cmp4_a cmp4_c)), (18, (eI bQ)), (24, (eI dV))], by kernel_rfl, rfl, ⟨aS.eq (by simp [hl9]), aS.refl _, aS.refl _, aS.refl _, aS.refl _, trivial⟩⟩ ?_
              exact aJ (aI (⟨rfl, _, .eq (by kernel_rfl), hO, hN, h0⟩))
            refine bH ?_
            exact aJ (aI (⟨rfl, _, .eq (by kernel_rfl), hO, hN, h0⟩))
          refine aU aH 8 [] [(185, (aK ((decide (aQ < m2)) && (decide (m2 < (wR (n19 - aQ)))))))] ?_
          refine bF h0 (fun h0 => ?_) (fun h0 => ?_)
          · refine aT aH 6 ?_
            refine bO 5 ?_
            obtain ⟨x11, hx12, h0⟩ := aX h0
            refine oJ [(lo0p, 3, List.map aD x11)] 0 (xA lo0p aA aQ m2 (wR (n19 - aQ)) cmp4_f cmp4_a cmp4_c cmp4 cmp4_h _ hx12) hO ?_
            intro H hO hl13
            simp only [List.length_map] at hl13
            replace hN := hl13.trans hN
            refine cU ?_
            refine cH (l := [(0, (.msl 3 lo0p 0 (List.length x11))), (1, (eI a1)), (3, (eI b3)), (4, (.fn (.func cmp4_f) cmp4_a cmp4_c)), (18, (eI bQ)), (20, (eI aQ)), (24, (eI (wR (n19 - aQ))))]) ⟨[(0, (.msl 3 lo0p 0 (List.length aA))), (1, (eI a1)), (3, (eI b3)), (4, (.fn (.func cmp4_f) cmp4_a cmp4_c)), (18, (eI bQ)), (20, (eI aQ)), (24, (eI (wR (n19 - aQ))))], by kernel_rfl, rfl, ⟨aS.eq (by simp [hl13]), aS.refl _, aS.refl _, aS.refl _, aS.refl _, aS.refl _, aS.refl _, trivial⟩⟩ ?_
            exact aJ (aI (⟨rfl, _, _, .eq (by kernel_rfl), hO, hN, h0⟩))
          refine bH ?_
          exact aJ (aI (⟨rfl, _, _, .eq (by kernel_rfl), hO, hN, h0⟩))
        refine bN 8 ?_
        refine cR [(0, (.msl 3 lo0p 0 (List.length aA))), (1, (eI a1)), (2, (eI m2)), (3, (eI b3)), (4, (.fn (.func cmp4_f) cmp4_a cmp4_c)), (18, (eI bQ)), (19, (eI n19)), (20, (eI aQ)), (21, (eI r21)), (22, (eI (wR (n19 - (1 : Int)))))] ?_
        refine cG (fun T H => ∃ aA : List aC, ∃ aQ : Int, ∃ r21 : Int, ∃ p22 : Int, Has T [(0, (.msl 3 lo0p 0 (List.length aA))), (1, (eI a1)), (2, (eI m2)), (3, (eI b3)), (4, (.fn (.func cmp4_f) cmp4_a cmp4_c)), (18, (eI bQ)), (19, (eI n19)), (20, (eI aQ)), (21, (eI r21)), (22, (eI p22))] ∧ aL ⟨H0, [lo0p], []⟩ H [(lo0p, 3, List.map aD aA)] ∧ List.length aA = N0 ∧ kW cmp4 rec aA a1 m2 b3 bQ n19 aQ r21 p22 = some r) ?_ ⟨aA, aQ, r21, wR (n19 - (1 : Int)), .eq (by kernel_rfl), hO, hN, h0⟩
        clear hO hN h0
        rintro T H ⟨aA, aQ, r21, p22, hT, hO, hN, h0⟩
        refine aZ hT ?_
        clear hT
        unfold kW at h0
        obtain ⟨rr0, hl0, h0⟩ := aX h0
        refine bV (by kernel_rfl) (fun (s : List aC × Int × Int) T H => Has T [(0, (.msl 3 lo0p 0 (List.length s.1))), (1, (eI a1)), (2, (eI m2)), (3, (eI b3)), (4, (.fn (.func cmp4_f) cmp4_a cmp4_c)), (18, (eI bQ)), (19, (eI n19)), (20, (eI s.2.1)), (21, (eI s.2.2)), (22, (eI p22))] ∧ aL ⟨H0, [lo0p], []⟩ H [(lo0p, 3, List.map aD s.1)] ∧ List.length s.1 = N0) hl0 ⟨.eq (by kernel_rfl), hO, hN⟩ ?_
        clear hO hN
        rintro k0 s out1 T H ⟨hT, hO, hN⟩ h1 ho0
        obtain ⟨aA, aQ, r21⟩ := s
        replace h1 : kX cmp4 rec a1 m2 b3 bQ n19 p22 aA aQ r21 = some out1 := h1
        dsimp only at hT
        refine aZ hT ?_
        clear hT
        unfold kX at h1
        refine aO ?_
        refine aU aH 3 [] [(151, (aK (decide (aQ < r21))))] ?_
        refine bF h1 (fun h1 => ?_) (fun h1 => ?_)
        · refine bH ?_
          refine bD [(0, (.msl 3 lo0p 0 (List.length aA))), (1, (eI a1)), (2, (eI m2)), (3, (eI b3)), (4, (.fn (.func cmp4_f) cmp4_a cmp4_c)), (18, (eI bQ)), (19, (eI n19)), (20, (eI aQ)), (21, (eI r21)), (22, (eI p22))] ?_
          refine bN 9 ?_
          refine aO ?_
          refine aT aH 7 ?_
          obtain ⟨c15, h1⟩ := bA h1
          refine nG [0 ≤ (1 : Int)] ⟨c15, trivial⟩ ?_
          refine bP [] [(23, (eI (wR (Int.fdiv (IntKind.u64.wrap (wR (aQ + r21))) (2 ^ (min (Int.toNat (1 : Int)) 64))))))] ?_
          refine aO ?_
          refine hU (hM []) aH 14 ?_
          obtain ⟨c16, h1⟩ := bA h1
          refine cV 6 [0 ≤ (wR (p22 - (wR (Int.fdiv (IntKind.u64.wrap (wR (aQ + r21))) (2 ^ (min (Int.toNat (1 : Int)) 64)))))) ∧ (wR (p22 - (wR (Int.fdiv (IntKind.u64.wrap (wR (aQ + r21))) (2 ^ (min (Int.toNat (1 : Int)) 64)))))) < (lN aA)] ⟨c16, trivial⟩ ?_
          refine lR 0 lo0p 3 (0 + Int.toNat (wR (p22 - (wR (Int.fdiv (IntKind.u64.wrap (wR (aQ + r21))) (2 ^ (min (Int.toNat (1 : Int)) 64))))))) (aD (gD aA (wR (p22 - (wR (Int.fdiv (IntKind.u64.wrap (wR (aQ + r21))) (2 ^ (min (Int.toNat (1 : Int)) 64)))))))) (aD (gD aA (wR (p22 - (wR (Int.fdiv (IntKind.u64.wrap (wR (aQ + r21))) (2 ^ (min (Int.toNat (1 : Int)) 64)))))))) (List.map aD aA) hO (cM c16) ?_
          obtain ⟨c17, h1⟩ := bA h1
          refine cV 10 [0 ≤ (wR (Int.fdiv (IntKind.u64.wrap (wR (aQ + r21))) (2 ^ (min (Int.toNat (1 : Int)) 64)))) ∧ (wR (Int.fdiv (IntKind.u64.wrap (wR (aQ + r21))) (2 ^ (min (Int.toNat (1 : Int)) 64)))) < (lN aA)] ⟨c17, trivial⟩ ?_
          refine lR 0 lo0p 3 (0 + Int.toNat (wR (Int.fdiv (IntKind.u64.wrap (wR (aQ + r21))) (2 ^ (min (Int.toNat (1 : Int)) 64))))) (aD (gD aA (wR (Int.fdiv (IntKind.u64.wrap (wR (aQ + r21))) (2 ^ (min (Int.toNat (1 : Int)) 64)))))) (aD (gD aA (wR (Int.fdiv (IntKind.u64.wrap (wR (aQ + r21))) (2 ^ (min (Int.toNat (1 : Int)) 64)))))) (List.map aD aA) hO (cM c17) ?_
          obtain ⟨x18, hx19, h1⟩ := aX h1
          refine AB (cmp4_h (gD aA (wR (p22 - (wR (Int.fdiv (IntKind.u64.wrap (wR (aQ + r21))) (2 ^ (min (Int.toNat (1 : Int)) 64))))))) (gD aA (wR (Int.fdiv (IntKind.u64.wrap (wR (aQ + r21))) (2 ^ (min (Int.toNat (1 : Int)) 64))))) _ hx19) hO ?_
          intro H hO
          refine jN ?_
          refine bP [] [(171, (aK (!(decide (x18 < (0 : Int))))))] ?_
          refine bF h1 (fun h1 => ?_) (fun h1 => ?_)
          · refine aT aH 3 ?_
            refine bB ?_
            exact aJ (aV (aI (⟨rfl, _, (oI h1).symm, .eq (by kernel_rfl), hO, hN⟩)))
          refine aT aH 2 ?_
          refine bB ?_
          exact aJ (aV (aI (⟨rfl, _, (oI h1).symm, .eq (by kernel_rfl), hO, hN⟩)))
        refine dG 8 ?_
        obtain rfl := oI h1
        obtain rfl : _ = rr0 := ho0
        replace h0 : gG cmp4 rec aA a1 m2 b3 bQ n19 aQ = some r := h0
        exact aJ (aR (aR (bL (aI (⟨rfl, _, _, .eq (by kernel_rfl), hO, hN, h0⟩)))))
      refine aU aH 3 [] [(140, (aK (decide ((wR (Int.fdiv (IntKind.u64.wrap (wR (a1 + b3))) (2 ^ (min (Int.toNat (1 : Int)) 64)))) < m2))))] ?_
      refine bF h0 (fun h0 => ?_) (fun h0 => ?_)
      · refine bM aH 4 [(0, (.msl 3 lo0p 0 (List.length aA))), (1, (eI a1)), (2, (eI m2)), (3, (eI b3)), (4, (.fn (.func cmp4_f) cmp4_a cmp4_c)), (18, (eI (wR (Int.fdiv (IntKind.u64.wrap (wR (a1 + b3))) (2 ^ (min (Int.toNat (1 : Int)) 64)))))), (19, (eI (wR ((wR (Int.fdiv (IntKind.u64.wrap (wR (a1 + b3))) (2 ^ (min (Int.toNat (1 : Int)) 64)))) + m2)))), (20, (eI (wR ((wR ((wR (Int.fdiv (IntKind.u64.wrap (wR (a1 + b3))) (2 ^ (min (Int.toNat (1 : Int)) 64)))) + m2)) - b3))))] ?_
        refine aT aH 2 ?_
        refine bB ?_
        exact aJ (aI (⟨rfl, _, _, _, _, _, .eq (by kernel_rfl), hO, hN, h0⟩))
      refine bM aH 2 [(0, (.msl 3 lo0p 0 (List.length aA))), (1, (eI a1)), (2, (eI m2)), (3, (eI b3)), (4, (.fn (.func cmp4_f) cmp4_a cmp4_c)), (18, (eI (wR (Int.fdiv (IntKind.u64.wrap (wR (a1 + b3))) (2 ^ (min (Int.toNat (1 : Int)) 64)))))), (19, (eI (wR ((wR (Int.fdiv (IntKind.u64.wrap (wR (a1 + b3))) (2 ^ (min (Int.toNat (1 : Int)) 64)))) + m2)))), (20, (eI a1))] ?_
      refine aT aH 2 ?_
      refine bB ?_
      exact aJ (aI (⟨rfl, _, _, _, _, _, .eq (by kernel_rfl), hO, hN, h0⟩))
    refine aU aH 4 [] [(80, (aK (decide ((wR (b3 - m2)) = (1 : Int)))))] ?_
    refine bF h0 (fun h0 => ?_) (fun h0 => ?_)
    · refine aU aH 2 [1, 3, 80] [(14, (eI a1))] ?_
      refine aU aH 2 [] [(15, (eI m2))] ?_
      refine cL (fun T H => ∃ aA : List aC, ∃ i14 : Int, Has T [(0, (.msl 3 lo0p 0 (List.length aA))), (2, (eI m2)), (14, (eI i14))] ∧ aL ⟨H0, [lo0p], []⟩ H [(lo0p, 3, List.map aD aA)] ∧ List.length aA = N0 ∧ gU cmp4 rec aA m2 i14 = some r) ?_ ?_
      · clear hO hN h0
        rintro T H ⟨aA, i14, hT, hO, hN, h0⟩
        refine aZ hT ?_
        clear hT
        unfold gU at h0
        refine cL (fun T H => ∃ aA : List aC, Has T [(0, (.msl 3 lo0p 0 (List.length aA)))] ∧ aL ⟨H0, [lo0p], []⟩ H [(lo0p, 3, List.map aD aA)] ∧ List.length aA = N0 ∧ gI cmp4 rec aA = some r) ?_ ?_
        · clear hO hN h0
          rintro T H ⟨aA, hT, hO, hN, h0⟩
          refine aZ hT ?_
          clear hT
          unfold gI at h0
          refine bE ?_
          obtain rfl := oI h0
          exact aJ (aP (oK (x := (.tup [])) (by kernel_rfl) (aS.refl _) ⟨rfl, hO.ext, hO.at 0 (by kernel_rfl), by simp only [List.length_map]; exact hN.trans hN0⟩))
        refine aU aH 2 [2] [(17, (eI m2))] ?_
        refine bN 6 ?_
        refine cR [(0, (.msl 3 lo0p 0 (List.length aA))), (14, (eI i14)), (17, (eI m2))] ?_
        refine cG (fun T H => ∃ aA : List aC, ∃ k17 : Int, Has T [(0, (.msl 3 lo0p 0 (List.length aA))), (14, (eI i14)), (17, (eI k17))] ∧ aL ⟨H0, [lo0p], []⟩ H [(lo0p, 3, List.map aD aA)] ∧ List.length aA = N0 ∧ jW cmp4 rec aA i14 k17 = some r) ?_ ⟨aA, m2, .eq (by kernel_rfl), hO, hN, h0⟩
        clear hO hN h0
        rintro T H ⟨aA, k17, hT, hO, hN, h0⟩
        refine aZ hT ?_
        clear hT
        unfold jW at h0
        obtain ⟨rr0, hl0, h0⟩ := aX h0
        refine bV (by kernel_rfl) (fun (s : List aC × Int) T H => Has T [(0, (.msl 3 lo0p 0 (List.length s.1))), (14, (eI i14)), (17, (eI s.2))] ∧ aL ⟨H0, [lo0p], []⟩ H [(lo0p, 3, List.map aD s.1)] ∧ List.length s.1 = N0) hl0 ⟨.eq (by kernel_rfl), hO, hN⟩ ?_
        clear hO hN
        rintro k0 s out1 T H ⟨hT, hO, hN⟩ h1 ho0
        obtain ⟨aA, k17⟩ := s
        replace h1 : kO cmp4 rec i14 aA k17 = some out1 := h1
        dsimp only at hT
        refine aZ hT ?_
        clear hT
        unfold kO at h1
        refine aO ?_
        refine aU aH 3 [] [(110, (aK (decide (i14 < k17))))] ?_
        refine bF h1 (fun h1 => ?_) (fun h1 => ?_)
        · refine bH ?_
          refine bD [(0, (.msl 3 lo0p 0 (List.length aA))), (14, (eI i14)), (17, (eI k17))] ?_
          refine aO ?_
          refine bN 7 ?_
          refine hU (hM []) aH 18 ?_
          obtain ⟨c25, h1⟩ := bA h1
          refine cV 9 [0 ≤ (wR (k17 - (1 : Int))) ∧ (wR (k17 - (1 : Int))) < (lN aA)] ⟨c25, trivial⟩ ?_
          refine lR 0 lo0p 3 (0 + Int.toNat (wR (k17 - (1 : Int)))) (aD (gD aA (wR (k17 - (1 : Int))))) (aD (gD aA (wR (k17 - (1 : Int))))) (List.map aD aA) hO (cM c25) ?_
          obtain ⟨c26, h1⟩ := bA h1
          refine cV 13 [0 ≤ k17 ∧ k17 < (lN aA)] ⟨c26, trivial⟩ ?_
          refine lR 0 lo0p 3 (0 + Int.toNat k17) (aD (gD aA k17)) (aD (gD aA k17)) (List.map aD aA) hO (cM c26) ?_
          obtain ⟨c27, h1⟩ := bA h1
          refine cV 15 [0 ≤ k17 ∧ k17 < (lN aA)] ⟨c27, trivial⟩ ?_
          refine tT 0 lo0p 3 (0 + Int.toNat k17) (aD (gD aA k17)) (aD (gD aA (wR (k17 - (1 : Int))))) (List.map aD aA) [(lo0p, 3, List.map aD (List.set aA (Int.toNat k17) (gD aA (wR (k17 - (1 : Int))))))] hO (cM c27) (by simp only [List.set, oD]) ?_
          intro H hO
          replace hN : List.length (List.set aA (Int.toNat k17) (gD aA (wR (k17 - (1 : Int))))) = N0 := by simpa using hN
          obtain ⟨c28, h1⟩ := bA h1
          refine cV 17 [0 ≤ (wR (k17 - (1 : Int))) ∧ (wR (k17 - (1 : Int))) < (lN aA)] ⟨c28, trivial⟩ ?_
          refine tT 0 lo0p 3 (0 + Int.toNat (wR (k17 - (1 : Int)))) (aD (gD (List.set aA (Int.toNat k17) (gD aA (wR (k17 - (1 : Int))))) (wR (k17 - (1 : Int))))) (aD (gD aA k17)) (List.map aD (List.set aA (Int.toNat k17) (gD aA (wR (k17 - (1 : Int)))))) [(lo0p, 3, List.map aD (List.set (List.set aA (Int.toNat k17) (gD aA (wR (k17 - (1 : Int))))) (Int.toNat (wR (k17 - (1 : Int)))) (gD aA k17)))] hO (wT c28 (by simp [])) (by simp only [List.set, oD]) ?_
          intro H hO
          replace hN : List.length (List.set (List.set aA (Int.toNat k17) (gD aA (wR (k17 - (1 : Int))))) (Int.toNat (wR (k17 - (1 : Int)))) (gD aA k17)) = N0 := by simpa using hN
          refine AU (by kernel_rfl) ?_
          refine cH (l := [(0, (.msl 3 lo0p 0 (List.length (List.set (List.set aA (Int.toNat k17) (gD aA (wR (k17 - (1 : Int))))) (Int.toNat (wR (k17 - (1 : Int)))) (gD aA k17))))), (14, (eI i14)), (17, (eI k17))]) ⟨[(0, (.msl 3 lo0p 0 (List.length aA))), (14, (eI i14)), (17, (eI k17))], by kernel_rfl, rfl, ⟨aS.eq (by simp []), aS.refl _, aS.refl _, trivial⟩⟩ ?_
          refine aJ (aV (aI (?_)))
          refine aT aH 3 ?_
          refine bB ?_
          exact aJ (aI (⟨rfl, _, (oI h1).symm, .eq (by kernel_rfl), hO, hN⟩))
        refine dG 6 ?_
        obtain rfl := oI h1
        obtain rfl : _ = rr0 := ho0
        replace h0 : gI cmp4 rec aA = some r := h0
        exact aJ (aR (aR (bL (aI (⟨rfl, _, .eq (by kernel_rfl), hO, hN, h0⟩)))))
      refine bN 4 ?_
      refine cR [(0, (.msl 3 lo0p 0 (List.length aA))), (2, (eI m2)), (4, (.fn (.func cmp4_f) cmp4_a cmp4_c)), (14, (eI a1)), (15, (eI m2))] ?_
      refine cG (fun T H => ∃ aA : List aC, ∃ i14 : Int, ∃ j15 : Int, Has T [(0, (.msl 3 lo0p 0 (List.length aA))), (2, (eI m2)), (4, (.fn (.func cmp4_f) cmp4_a cmp4_c)), (14, (eI i14)), (15, (eI j15))] ∧ aL ⟨H0, [lo0p], []⟩ H [(lo0p, 3, List.map aD aA)] ∧ List.length aA = N0 ∧ kA cmp4 rec aA m2 i14 j15 = some r) ?_ ⟨aA, a1, m2, .eq (by kernel_rfl), hO, hN, h0⟩
      clear hO hN h0
      rintro T H ⟨aA, i14, j15, hT, hO, hN, h0⟩
      refine aZ hT ?_
      clear hT
      unfold kA at h0
      obtain ⟨rr0, hl0, h0⟩ := aX h0
      refine bV (by kernel_rfl) (fun (s : List aC × Int × Int) T H => Has T [(0, (.msl 3 lo0p 0 (List.length s.1))), (2, (eI m2)), (4, (.fn (.func cmp4_f) cmp4_a cmp4_c)), (14, (eI s.2.1)), (15, (eI s.2.2))] ∧ aL ⟨H0, [lo0p], []⟩ H [(lo0p, 3, List.map aD s.1)] ∧ List.length s.1 = N0) hl0 ⟨.eq (by kernel_rfl), hO, hN⟩ ?_
      clear hO hN
      rintro k0 s out1 T H ⟨hT, hO, hN⟩ h1 ho0
      obtain ⟨aA, i14, j15⟩ := s
      replace h1 : kE cmp4 rec m2 aA i14 j15 = some out1 := h1
      dsimp only at hT
      refine aZ hT ?_
      clear hT
      unfold kE at h1
      refine aO ?_
      refine aU aH 3 [] [(85, (aK (decide (i14 < j15))))] ?_
      refine bF h1 (fun h1 => ?_) (fun h1 => ?_)
      · refine bH ?_
        refine bD [(0, (.msl 3 lo0p 0 (List.length aA))), (2, (eI m2)), (4, (.fn (.func cmp4_f) cmp4_a cmp4_c)), (14, (eI i14)), (15, (eI j15))] ?_
        refine bN 5 ?_
        refine aO ?_
        refine aT aH 7 ?_
        obtain ⟨c30, h1⟩ := bA h1
        refine nG [0 ≤ (1 : Int)] ⟨c30, trivial⟩ ?_
        refine bP [] [(16, (eI (wR (Int.fdiv (IntKind.u64.wrap (wR (i14 + j15))) (2 ^ (min (Int.toNat (1 : Int)) 64))))))] ?_
        refine aO ?_
        refine hU (hM []) aH 12 ?_
        obtain ⟨c31, h1⟩ := bA h1
        refine cV 4 [0 ≤ m2 ∧ m2 < (lN aA)] ⟨c31, trivial⟩ ?_
        refine lR 0 lo0p 3 (0 + Int.toNat m2) (aD (gD aA m2)) (aD (gD aA m2)) (List.map aD aA) hO (cM c31) ?_
        obtain ⟨c32, h1⟩ := bA h1
        refine cV 8 [0 ≤ (wR (Int.fdiv (IntKind.u64.wrap (wR (i14 + j15))) (2 ^ (min (Int.toNat (1 : Int)) 64)))) ∧ (wR (Int.fdiv (IntKind.u64.wrap (wR (i14 + j15))) (2 ^ (min (Int.toNat (1 : Int)) 64)))) < (lN aA)] ⟨c32, trivial⟩ ?_
        refine lR 0 lo0p 3 (0 + Int.toNat (wR (Int.fdiv (IntKind.u64.wrap (wR (i14 + j15))) (2 ^ (min (Int.toNat (1 : Int)) 64))))) (aD (gD aA (wR (Int.fdiv (IntKind.u64.wrap (wR (i14 + j15))) (2 ^ (min (Int.toNat (1 : Int)) 64)))))) (aD (gD aA (wR (Int.fdiv (IntKind.u64.wrap (wR (i14 + j15))) (2 ^ (min (Int.toNat (1 : Int)) 64)))))) (List.map aD aA) hO (cM c32) ?_
        obtain ⟨x33, hx34, h1⟩ := aX h1
        refine AB (cmp4_h (gD aA m2) (gD aA (wR (Int.fdiv (IntKind.u64.wrap (wR (i14 + j15))) (2 ^ (min (Int.toNat (1 : Int)) 64))))) _ hx34) hO ?_
        intro H hO
        refine jN ?_
        refine bP [] [(103, (aK (!(decide (x33 < (0 : Int))))))] ?_
        refine bF h1 (fun h1 => ?_) (fun h1 => ?_)
        · refine aT aH 3 ?_
          refine bB ?_
          exact aJ (aV (aI (⟨rfl, _, (oI h1).symm, .eq (by kernel_rfl), hO, hN⟩)))
        refine aT aH 2 ?_
        refine bB ?_
        exact aJ (aV (aI (⟨rfl, _, (oI h1).symm, .eq (by kernel_rfl), hO, hN⟩)))
      refine dG 4 ?_
      obtain rfl := oI h1
      obtain rfl : _ = rr0 := ho0
      replace h0 : gU cmp4 rec aA m2 i14 = some r := h0
      exact aJ (aR (aR (bL (aI (⟨rfl, _, _, .eq (by kernel_rfl), hO, hN, h0⟩)))))
    refine bH ?_
    exact aJ (aI (⟨rfl, _, .eq (by kernel_rfl), hO, hN, h0⟩))
  refine aU aH 4 [] [(28, (aK (decide ((wR (m2 - a1)) = (1 : Int)))))] ?_
  refine bF h0 (fun h0 => ?_) (fun h0 => ?_)
  · refine aU aH 2 [2, 28] [(10, (eI m2))] ?_
    refine aU aH 2 [3] [(11, (eI b3))] ?_
    refine cL (fun T H => ∃ aA : List aC, ∃ i10 : Int, Has T [(0, (.msl 3 lo0p 0 (List.length aA))), (1, (eI a1)), (10, (eI i10))] ∧ aL ⟨H0, [lo0p], []⟩ H [(lo0p, 3, List.map aD aA)] ∧ List.length aA = N0 ∧ fZ cmp4 rec aA a1 i10 = some r) ?_ ?_
    · clear hO hN h0
      rintro T H ⟨aA, i10, hT, hO, hN, h0⟩
      refine aZ hT ?_
      clear hT
      unfold fZ at h0
      refine cL (fun T H => ∃ aA : List aC, Has T [(0, (.msl 3 lo0p 0 (List.length aA)))] ∧ aL ⟨H0, [lo0p], []⟩ H [(lo0p, 3, List.map aD aA)] ∧ List.length aA = N0 ∧ gE cmp4 rec aA = some r) ?_ ?_
      · clear hO hN h0
        rintro T H ⟨aA, hT, hO, hN, h0⟩
        refine aZ hT ?_
        clear hT
        unfold gE at h0
        refine bE ?_
        obtain rfl := oI h0
        exact aJ (aP (oK (x := (.tup [])) (by kernel_rfl) (aS.refl _) ⟨rfl, hO.ext, hO.at 0 (by kernel_rfl), by simp only [List.length_map]; exact hN.trans hN0⟩))
      refine aU aH 2 [1] [(13, (eI a1))] ?_
      refine bN 2 ?_
      refine cR [(0, (.msl 3 lo0p 0 (List.length aA))), (10, (eI i10)), (13, (eI a1))] ?_
      refine cG (fun T H => ∃ aA : List aC, ∃ k13 : Int, Has T [(0, (.msl 3 lo0p 0 (List.length aA))), (10, (eI i10)), (13, (eI k13))] ∧ aL ⟨H0, [lo0p], []⟩ H [(lo0p, 3, List.map aD aA)] ∧ List.length aA = N0 ∧ kI cmp4 rec aA i10 k13 = some r) ?_ ⟨aA, a1, .eq (by kernel_rfl), hO, hN, h0⟩
      clear hO hN h0
      rintro T H ⟨aA, k13, hT, hO, hN, h0⟩
      refine aZ hT ?_
      clear hT
      unfold kI at h0
      obtain ⟨rr0, hl0, h0⟩ := aX h0
      refine bV (by kernel_rfl) (fun (s : List aC × Int) T H => Has T [(0, (.msl 3 lo0p 0 (List.length s.1))), (10, (eI i10)), (13, (eI s.2))] ∧ aL ⟨H0, [lo0p], []⟩ H [(lo0p, 3, List.map aD s.1)] ∧ List.length s.1 = N0) hl0 ⟨.eq (by kernel_rfl), hO, hN⟩ ?_
      clear hO hN
      rintro k0 s out1 T H ⟨hT, hO, hN⟩ h1 ho0
      obtain ⟨aA, k13⟩ := s
      replace h1 : kH cmp4 rec i10 aA k13 = some out1 := h1
      dsimp only at hT
      refine aZ hT ?_
      clear hT
      unfold kH at h1
      refine aO ?_
      refine aU aH 4 [] [(58, (aK (decide (k13 < (wR (i10 - (1 : Int)))))))] ?_
      refine bF h1 (fun h1 => ?_) (fun h1 => ?_)
      · refine bH ?_
        refine bD [(0, (.msl 3 lo0p 0 (List.length aA))), (10, (eI i10)), (13, (eI k13))] ?_
        refine aO ?_
        refine bN 3 ?_
        refine hU (hM []) aH 18 ?_
        obtain ⟨c39, h1⟩ := bA h1
        refine cV 9 [0 ≤ (wR (k13 + (1 : Int))) ∧ (wR (k13 + (1 : Int))) < (lN aA)] ⟨c39, trivial⟩ ?_
        refine lR 0 lo0p 3 (0 + Int.toNat (wR (k13 + (1 : Int)))) (aD (gD aA (wR (k13 + (1 : Int))))) (aD (gD aA (wR (k13 + (1 : Int))))) (List.map aD aA) hO (cM c39) ?_
        obtain ⟨c40, h1⟩ := bA h1
        refine cV 13 [0 ≤ k13 ∧ k13 < (lN aA)] ⟨c40, trivial⟩ ?_
        refine lR 0 lo0p 3 (0 + Int.toNat k13) (aD (gD aA k13)) (aD (gD aA k13)) (List.map aD aA) hO (cM c40) ?_
        obtain ⟨c41, h1⟩ := bA h1
        refine cV 15 [0 ≤ k13 ∧ k13 < (lN aA)] ⟨c41, trivial⟩ ?_
        refine tT 0 lo0p 3 (0 + Int.toNat k13) (aD (gD aA k13)) (aD (gD aA (wR (k13 + (1 : Int))))) (List.map aD aA) [(lo0p, 3, List.map aD (List.set aA (Int.toNat k13) (gD aA (wR (k13 + (1 : Int))))))] hO (cM c41) (by simp only [List.set, oD]) ?_
        intro H hO
        replace hN : List.length (List.set aA (Int.toNat k13) (gD aA (wR (k13 + (1 : Int))))) = N0 := by simpa using hN
        obtain ⟨c42, h1⟩ := bA h1
        refine cV 17 [0 ≤ (wR (k13 + (1 : Int))) ∧ (wR (k13 + (1 : Int))) < (lN aA)] ⟨c42, trivial⟩ ?_
        refine tT 0 lo0p 3 (0 + Int.toNat (wR (k13 + (1 : Int)))) (aD (gD (List.set aA (Int.toNat k13) (gD aA (wR (k13 + (1 : Int))))) (wR (k13 + (1 : Int))))) (aD (gD aA k13)) (List.map aD (List.set aA (Int.toNat k13) (gD aA (wR (k13 + (1 : Int)))))) [(lo0p, 3, List.map aD (List.set (List.set aA (Int.toNat k13) (gD aA (wR (k13 + (1 : Int))))) (Int.toNat (wR (k13 + (1 : Int)))) (gD aA k13)))] hO (wT c42 (by simp [])) (by simp only [List.set, oD]) ?_
        intro H hO
        replace hN : List.length (List.set (List.set aA (Int.toNat k13) (gD aA (wR (k13 + (1 : Int))))) (Int.toNat (wR (k13 + (1 : Int)))) (gD aA k13)) = N0 := by simpa using hN
        refine AU (by kernel_rfl) ?_
        refine cH (l := [(0, (.msl 3 lo0p 0 (List.length (List.set (List.set aA (Int.toNat k13) (gD aA (wR (k13 + (1 : Int))))) (Int.toNat (wR (k13 + (1 : Int)))) (gD aA k13))))), (10, (eI i10)), (13, (eI k13))]) ⟨[(0, (.msl 3 lo0p 0 (List.length aA))), (10, (eI i10)), (13, (eI k13))], by kernel_rfl, rfl, ⟨aS.eq (by simp []), aS.refl _, aS.refl _, trivial⟩⟩ ?_
        refine aJ (aV (aI (?_)))
        refine aT aH 3 ?_
        refine bB ?_
        exact aJ (aI (⟨rfl, _, (oI h1).symm, .eq (by kernel_rfl), hO, hN⟩))
      refine dG 2 ?_
      obtain rfl := oI h1
      obtain rfl : _ = rr0 := ho0
      replace h0 : gE cmp4 rec aA = some r := h0
      exact aJ (aR (aR (bL (aI (⟨rfl, _, .eq (by kernel_rfl), hO, hN, h0⟩)))))
    refine bN 0 ?_
    refine cR [(0, (.msl 3 lo0p 0 (List.length aA))), (1, (eI a1)), (4, (.fn (.func cmp4_f) cmp4_a cmp4_c)), (10, (eI m2)), (11, (eI b3))] ?_
    refine cG (fun T H => ∃ aA : List aC, ∃ i10 : Int, ∃ j11 : Int, Has T [(0, (.msl 3 lo0p 0 (List.length aA))), (1, (eI a1)), (4, (.fn (.func cmp4_f) cmp4_a cmp4_c)), (10, (eI i10)), (11, (eI j11))] ∧ aL ⟨H0, [lo0p], []⟩ H [(lo0p, 3, List.map aD aA)] ∧ List.length aA = N0 ∧ kR cmp4 rec aA a1 i10 j11 = some r) ?_ ⟨aA, m2, b3, .eq (by kernel_rfl), hO, hN, h0⟩
    clear hO hN h0
    rintro T H ⟨aA, i10, j11, hT, hO, hN, h0⟩
    refine aZ hT ?_
    clear hT
    unfold kR at h0
    obtain ⟨rr0, hl0, h0⟩ := aX h0
    refine bV (by kernel_rfl) (fun (s : List aC × Int × Int) T H => Has T [(0, (.msl 3 lo0p 0 (List.length s.1))), (1, (eI a1)), (4, (.fn (.func cmp4_f) cmp4_a cmp4_c)), (10, (eI s.2.1)), (11, (eI s.2.2))] ∧ aL ⟨H0, [lo0p], []⟩ H [(lo0p, 3, List.map aD s.1)] ∧ List.length s.1 = N0) hl0 ⟨.eq (by kernel_rfl), hO, hN⟩ ?_
    clear hO hN
    rintro k0 s out1 T H ⟨hT, hO, hN⟩ h1 ho0
    obtain ⟨aA, i10, j11⟩ := s
    replace h1 : kJ cmp4 rec a1 aA i10 j11 = some out1 := h1
    dsimp only at hT
    refine aZ hT ?_
    clear hT
    unfold kJ at h1
    refine aO ?_
    refine aU aH 3 [] [(33, (aK (decide (i10 < j11))))] ?_
    refine bF h1 (fun h1 => ?_) (fun h1 => ?_)
    · refine bH ?_
      refine bD [(0, (.msl 3 lo0p 0 (List.length aA))), (1, (eI a1)), (4, (.fn (.func cmp4_f) cmp4_a cmp4_c)), (10, (eI i10)), (11, (eI j11))] ?_
      refine bN 1 ?_
      refine aO ?_
      refine aT aH 7 ?_
      obtain ⟨c44, h1⟩ := bA h1
      refine nG [0 ≤ (1 : Int)] ⟨c44, trivial⟩ ?_
      refine bP [] [(12, (eI (wR (Int.fdiv (IntKind.u64.wrap (wR (i10 + j11))) (2 ^ (min (Int.toNat (1 : Int)) 64))))))] ?_
      refine aO ?_
      refine hU (hM []) aH 11 ?_
      obtain ⟨c45, h1⟩ := bA h1
      refine cV 4 [0 ≤ (wR (Int.fdiv (IntKind.u64.wrap (wR (i10 + j11))) (2 ^ (min (Int.toNat (1 : Int)) 64)))) ∧ (wR (Int.fdiv (IntKind.u64.wrap (wR (i10 + j11))) (2 ^ (min (Int.toNat (1 : Int)) 64)))) < (lN aA)] ⟨c45, trivial⟩ ?_
      refine lR 0 lo0p 3 (0 + Int.toNat (wR (Int.fdiv (IntKind.u64.wrap (wR (i10 + j11))) (2 ^ (min (Int.toNat (1 : Int)) 64))))) (aD (gD aA (wR (Int.fdiv (IntKind.u64.wrap (wR (i10 + j11))) (2 ^ (min (Int.toNat (1 : Int)) 64)))))) (aD (gD aA (wR (Int.fdiv (IntKind.u64.wrap (wR (i10 + j11))) (2 ^ (min (Int.toNat (1 : Int)) 64)))))) (List.map aD aA) hO (cM c45) ?_
      obtain ⟨c46, h1⟩ := bA h1
      refine cV 8 [0 ≤ a1 ∧ a1 < (lN aA)] ⟨c46, trivial⟩ ?_
      refine lR 0 lo0p 3 (0 + Int.toNat a1) (aD (gD aA a1)) (aD (gD aA a1)) (List.map aD aA) hO (cM c46) ?_
      obtain ⟨x47, hx48, h1⟩ := aX h1
      refine AB (cmp4_h (gD aA (wR (Int.fdiv (IntKind.u64.wrap (wR (i10 + j11))) (2 ^ (min (Int.toNat (1 : Int)) 64))))) (gD aA a1) _ hx48) hO ?_
      intro H hO
      refine jN ?_
      refine bP [] [(50, (aK (decide (x47 < (0 : Int)))))] ?_
      refine bF h1 (fun h1 => ?_) (fun h1 => ?_)
      · refine aT aH 3 ?_
        refine bB ?_
        exact aJ (aV (aI (⟨rfl, _, (oI h1).symm, .eq (by kernel_rfl), hO, hN⟩)))
      refine aT aH 2 ?_
      refine bB ?_
      exact aJ (aV (aI (⟨rfl, _, (oI h1).symm, .eq (by kernel_rfl), hO, hN⟩)))
    refine dG 0 ?_
    obtain rfl := oI h1
    obtain rfl : _ = rr0 := ho0
    replace h0 : fZ cmp4 rec aA a1 i10 = some r := h0
    exact aJ (aR (aR (bL (aI (⟨rfl, _, _, .eq (by kernel_rfl), hO, hN, h0⟩)))))
  refine bH ?_
  exact aJ (aI (⟨rfl, _, .eq (by kernel_rfl), hO, hN, h0⟩))

theorem nM (cmp4_f : Nat) (cmp4_a cmp4_c : List V) (cmp4 : aC → aC → Option Int) (cmp4_h : ∀ a0 a1 r, cmp4 a0 a1 = some r → bR Try.prog cmp4_f (cmp4_a ++ [(aD a0), (aD a1)] ++ cmp4_c) (eI r)) : ∀ (k : Nat) (lo0p : Nat) (aA : (List aC)) (a1 : Int) (m2 : Int) (b3 : Int) (r : List aC), gN cmp4 k aA a1 m2 b3 = some r → lF Try.prog 113 lo0p 3 (List.map aD aA) (List.map aD r) [(.msl 3 lo0p 0 (List.length aA)), (eI a1), (eI m2), (eI b3), (.fn (.func cmp4_f) cmp4_a cmp4_c)] (.tup [])
  | 0, _, _, _, _, _, _, h => by cases h
  | k + 1, lo0p, aA, a1, m2, b3, r, h => sU cmp4_f cmp4_a cmp4_c cmp4 cmp4_h _ (nM cmp4_f cmp4_a cmp4_c cmp4 cmp4_h k) lo0p aA a1 m2 b3 r h

theorem oN (lo0p : Nat) (aA : (List aC)) (a1 : Int) (m2 : Int) (b3 : Int) (cmp4_f : Nat) (cmp4_a cmp4_c : List V) (cmp4 : aC → aC → Option Int) (cmp4_h : ∀ a0 a1 r, cmp4 a0 a1 = some r → bR Try.prog cmp4_f (cmp4_a ++ [(aD a0), (aD a1)] ++ cmp4_c) (eI r)) (r : List aC) (h0 : eN aA a1 m2 b3 cmp4 = some r) : lF Try.prog 113 lo0p 3 (List.map aD aA) (List.map aD r) [(.msl 3 lo0p 0 (List.length aA)), (eI a1), (eI m2), (eI b3), (.fn (.func cmp4_f) cmp4_a cmp4_c)] (.tup []) := by
  obtain ⟨k, hk⟩ := GF h0
  exact nM cmp4_f cmp4_a cmp4_c cmp4 cmp4_h k lo0p aA a1 m2 b3 r hk

theorem xE (lo0p : Nat) (aA : (List aC)) (n1 : Int) (cmp2_f : Nat) (cmp2_a cmp2_c : List V) (cmp2 : aC → aC → Option Int) (cmp2_h : ∀ a0 a1 r, cmp2 a0 a1 = some r → bR Try.prog cmp2_f (cmp2_a ++ [(aD a0), (aD a1)] ++ cmp2_c) (eI r)) (r : List aC) (h0 : fG aA n1 cmp2 = some r) : lF Try.prog 90 lo0p 3 (List.map aD aA) (List.map aD r) [(.msl 3 lo0p 0 (List.length aA)), (eI n1), (.fn (.func cmp2_f) cmp2_a cmp2_c)] (.tup []) := by
  intro H0 hl0
  refine bY Try.func90 ?_
  have hO := aL.pI hl0
  clear hl0
  obtain ⟨N0, hN0⟩ : ∃ n, n = List.length aA := ⟨_, rfl⟩
  have hN : List.length aA = N0 := hN0.symm
  unfold fG at h0
  refine aU aH 1 [] [(6, (eI (20 : Int)))] ?_
  refine aU aH 3 [] [(7, (eI (0 : Int))), (8, (eI (20 : Int)))] ?_
  refine cL (fun T H => ∃ aA : List aC, ∃ aN : Int, ∃ a7 : Int, Has T [(0, (.msl 3 lo0p 0 (List.length aA))), (1, (eI n1)), (2, (.fn (.func cmp2_f) cmp2_a cmp2_c)), (6, (eI aN)), (7, (eI a7))] ∧ aL ⟨H0, [lo0p], []⟩ H [(lo0p, 3, List.map aD aA)] ∧ List.length aA = N0 ∧ fA cmp2 aA n1 aN a7 = some r) ?_ ?_
  · clear hO hN h0
    rintro T H ⟨aA, aN, a7, hT, hO, hN, h0⟩
    refine aZ hT ?_
    clear hT
    unfold fA at h0
    refine aO ?_
    refine aT aH 5 ?_
    refine bO 4 ?_
    obtain ⟨x1, hx2, h0⟩ := aX h0
    refine oJ [(lo0p, 3, List.map aD x1)] 0 (mZ lo0p aA a7 n1 cmp2_f cmp2_a cmp2_c cmp2 cmp2_h _ hx2) hO ?_
    intro H hO hl3
    simp only [List.length_map] at hl3
    replace hN := hl3.trans hN
    refine cU ?_
    refine cH (l := [(0, (.msl 3 lo0p 0 (List.length x1))), (1, (eI n1)), (2, (.fn (.func cmp2_f) cmp2_a cmp2_c)), (6, (eI aN))]) ⟨[(0, (.msl 3 lo0p 0 (List.length aA))), (1, (eI n1)), (2, (.fn (.func cmp2_f) cmp2_a cmp2_c)), (6, (eI aN))], by kernel_rfl, rfl, ⟨aS.eq (by simp [hl3]), aS.refl _, aS.refl _, aS.refl _, trivial⟩⟩ ?_
    refine aJ (aI (?_))
    refine bN 2 ?_
    refine cR [(0, (.msl 3 lo0p 0 (List.length x1))), (1, (eI n1)), (2, (.fn (.func cmp2_f) cmp2_a cmp2_c)), (6, (eI aN))] ?_
    refine cG (fun T H => ∃ aA : List aC, ∃ aN : Int, Has T [(0, (.msl 3 lo0p 0 (List.length aA))), (1, (eI n1)), (2, (.fn (.func cmp2_f) cmp2_a cmp2_c)), (6, (eI aN))] ∧ aL ⟨H0, [lo0p], []⟩ H [(lo0p, 3, List.map aD aA)] ∧ List.length aA = N0 ∧ iV cmp2 aA n1 aN = some r) ?_ ⟨x1, aN, .eq (by kernel_rfl), hO, hN, h0⟩
    clear hO hN h0
    rintro T H ⟨aA, aN, hT, hO, hN, h0⟩
    refine aZ hT ?_
    clear hT
    unfold iV at h0
    obtain ⟨rr0, hl0, h0⟩ := aX h0
    refine bV (by kernel_rfl) (fun (s : List aC × Int) T H => Has T [(0, (.msl 3 lo0p 0 (List.length s.1))), (1, (eI n1)), (2, (.fn (.func cmp2_f) cmp2_a cmp2_c)), (6, (eI s.2))] ∧ aL ⟨H0, [lo0p], []⟩ H [(lo0p, 3, List.map aD s.1)] ∧ List.length s.1 = N0) hl0 ⟨.eq (by kernel_rfl), hO, hN⟩ ?_
    clear hO hN
    rintro k0 s out1 T H ⟨hT, hO, hN⟩ h1 ho0
    obtain ⟨aA, aN⟩ := s
    replace h1 : iM cmp2 n1 aA aN = some out1 := h1
    dsimp only at hT
    refine aZ hT ?_
    clear hT
    unfold iM at h1
    refine aO ?_
    refine aU aH 3 [] [(30, (aK (decide (aN < n1))))] ?_
    refine bF h1 (fun h1 => ?_) (fun h1 => ?_)
    · refine bH ?_
      refine bD [(0, (.msl 3 lo0p 0 (List.length aA))), (1, (eI n1)), (2, (.fn (.func cmp2_f) cmp2_a cmp2_c)), (6, (eI aN))] ?_
      refine bN 3 ?_
      refine aU aH 4 [] [(7, (eI (0 : Int))), (8, (eI (wR ((2 : Int) * aN))))] ?_
      refine cL (fun T H => ∃ aA : List aC, ∃ a7 : Int, Has T [(0, (.msl 3 lo0p 0 (List.length aA))), (1, (eI n1)), (2, (.fn (.func cmp2_f) cmp2_a cmp2_c)), (6, (eI aN)), (7, (eI a7))] ∧ aL ⟨H0, [lo0p], []⟩ H [(lo0p, 3, List.map aD aA)] ∧ List.length aA = N0 ∧ eY cmp2 aA n1 aN a7 = some out1) ?_ ?_
      · clear hO hN h1
        rintro T H ⟨aA, a7, hT, hO, hN, h1⟩
        refine aZ hT ?_
        clear hT
        unfold eY at h1
        refine cL (fun T H => ∃ aA : List aC, Has T [(0, (.msl 3 lo0p 0 (List.length aA))), (1, (eI n1)), (2, (.fn (.func cmp2_f) cmp2_a cmp2_c)), (6, (eI aN))] ∧ aL ⟨H0, [lo0p], []⟩ H [(lo0p, 3, List.map aD aA)] ∧ List.length aA = N0 ∧ iJ cmp2 aA n1 aN = some out1) ?_ ?_
        · clear hO hN h1
          rintro T H ⟨aA, hT, hO, hN, h1⟩
          refine aZ hT ?_
          clear hT
          unfold iJ at h1
          refine aT aH 3 ?_
          refine bB ?_
          exact aJ (aV (aI (⟨rfl, _, (oI h1).symm, .eq (by kernel_rfl), hO, hN⟩)))
        refine aU aH 4 [] [(9, (eI (wR (a7 + aN))))] ?_
        refine aU aH 3 [] [(54, (aK (decide ((wR (a7 + aN)) < n1))))] ?_
        refine bF h1 (fun h1 => ?_) (fun h1 => ?_)
        · refine aT aH 6 ?_
          refine bO 5 ?_
          obtain ⟨x6, hx7, h1⟩ := aX h1
          refine oJ [(lo0p, 3, List.map aD x6)] 0 (oN lo0p aA a7 (wR (a7 + aN)) n1 cmp2_f cmp2_a cmp2_c cmp2 cmp2_h _ hx7) hO ?_
          intro H hO hl8
          simp only [List.length_map] at hl8
          replace hN := hl8.trans hN
          refine cU ?_
          refine cH (l := [(0, (.msl 3 lo0p 0 (List.length x6))), (1, (eI n1)), (2, (.fn (.func cmp2_f) cmp2_a cmp2_c)), (6, (eI aN))]) ⟨[(0, (.msl 3 lo0p 0 (List.length aA))), (1, (eI n1)), (2, (.fn (.func cmp2_f) cmp2_a cmp2_c)), (6, (eI aN))], by kernel_rfl, rfl, ⟨aS.eq (by simp [hl8]), aS.refl _, aS.refl _, aS.refl _, trivial⟩⟩ ?_
          exact aJ (aI (⟨rfl, _, .eq (by kernel_rfl), hO, hN, h1⟩))
        refine bH ?_
        exact aJ (aI (⟨rfl, _, .eq (by kernel_rfl), hO, hN, h1⟩))
      refine bN 4 ?_
      refine cR [(0, (.msl 3 lo0p 0 (List.length aA))), (1, (eI n1)), (2, (.fn (.func cmp2_f) cmp2_a cmp2_c)), (6, (eI aN)), (7, (eI (0 : Int))), (8, (eI (wR ((2 : Int) * aN))))] ?_
      refine cG (fun T H => ∃ aA : List aC, ∃ a7 : Int, ∃ b8 : Int, Has T [(0, (.msl 3 lo0p 0 (List.length aA))), (1, (eI n1)), (2, (.fn (.func cmp2_f) cmp2_a cmp2_c)), (6, (eI aN)), (7, (eI a7)), (8, (eI b8))] ∧ aL ⟨H0, [lo0p], []⟩ H [(lo0p, 3, List.map aD aA)] ∧ List.length aA = N0 ∧ iI cmp2 aA n1 aN a7 b8 = some out1) ?_ ⟨aA, (0 : Int), wR ((2 : Int) * aN), .eq (by kernel_rfl), hO, hN, h1⟩
      clear hO hN h1
      rintro T H ⟨aA, a7, b8, hT, hO, hN, h1⟩
      refine aZ hT ?_
      clear hT
      unfold iI at h1
      obtain ⟨rr1, hl1, h1⟩ := aX h1
      refine bV (by kernel_rfl) (fun (s : List aC × Int × Int) T H => Has T [(0, (.msl 3 lo0p 0 (List.length s.1))), (1, (eI n1)), (2, (.fn (.func cmp2_f) cmp2_a cmp2_c)), (6, (eI aN)), (7, (eI s.2.1)), (8, (eI s.2.2))] ∧ aL ⟨H0, [lo0p], []⟩ H [(lo0p, 3, List.map aD s.1)] ∧ List.length s.1 = N0) hl1 ⟨.eq (by kernel_rfl), hO, hN⟩ ?_
      clear hO hN
      rintro k1 s out2 T H ⟨hT, hO, hN⟩ h2 ho1
      obtain ⟨aA, a7, b8⟩ := s
      replace h2 : iC cmp2 n1 aN aA a7 b8 = some out2 := h2
      dsimp only at hT
      refine aZ hT ?_
      clear hT
      unfold iC at h2
      refine aO ?_
      refine aU aH 3 [] [(35, (aK (decide (b8 ≤ n1))))] ?_
      refine bF h2 (fun h2 => ?_) (fun h2 => ?_)
      · refine bH ?_
        refine bD [(0, (.msl 3 lo0p 0 (List.length aA))), (1, (eI n1)), (2, (.fn (.func cmp2_f) cmp2_a cmp2_c)), (6, (eI aN)), (7, (eI a7)), (8, (eI b8))] ?_
        refine bN 5 ?_
        refine aO ?_
        refine aT aH 8 ?_
        refine bO 7 ?_
        obtain ⟨x10, hx11, h2⟩ := aX h2
        refine oJ [(lo0p, 3, List.map aD x10)] 0 (oN lo0p aA a7 (wR (a7 + aN)) b8 cmp2_f cmp2_a cmp2_c cmp2 cmp2_h _ hx11) hO ?_
        intro H hO hl12
        simp only [List.length_map] at hl12
        replace hN := hl12.trans hN
        refine cU ?_
        refine cH (l := [(0, (.msl 3 lo0p 0 (List.length x10))), (1, (eI n1)), (2, (.fn (.func cmp2_f) cmp2_a cmp2_c)), (6, (eI aN)), (8, (eI b8))]) ⟨[(0, (.msl 3 lo0p 0 (List.length aA))), (1, (eI n1)), (2, (.fn (.func cmp2_f) cmp2_a cmp2_c)), (6, (eI aN)), (8, (eI b8))], by kernel_rfl, rfl, ⟨aS.eq (by simp [hl12]), aS.refl _, aS.refl _, aS.refl _, aS.refl _, trivial⟩⟩ ?_
        refine aJ (aI (?_))
        refine aU aH 2 [] [(7, (eI b8))] ?_
        refine aT aH 5 ?_
        refine bB ?_
        exact aJ (aV (aI (⟨rfl, _, (oI h2).symm, .eq (by kernel_rfl), hO, hN⟩)))
      refine dG 4 ?_
      obtain rfl := oI h2
      obtain rfl : _ = rr1 := ho1
      replace h1 : eY cmp2 aA n1 aN a7 = some out1 := h1
      exact aJ (aR (aR (bL (aI (⟨rfl, _, _, .eq (by kernel_rfl), hO, hN, h1⟩)))))
    refine dG 2 ?_
    obtain rfl := oI h1
    obtain rfl : _ = rr0 := ho0
    replace h0 : some aA = some r := h0
    obtain rfl := oI h0
    exact aJ (aR (aR (bL (rD (x := (.tup [])) (by kernel_rfl) (aS.refl _) ⟨rfl, hO.ext, hO.at 0 (by kernel_rfl), by simp only [List.length_map]; exact hN.trans hN0⟩))))
  refine bN 0 ?_
  refine cR [(0, (.msl 3 lo0p 0 (List.length aA))), (1, (eI n1)), (2, (.fn (.func cmp2_f) cmp2_a cmp2_c)), (6, (eI (20 : Int))), (7, (eI (0 : Int))), (8, (eI (20 : Int)))] ?_
  refine cG (fun T H => ∃ aA : List aC, ∃ aN : Int, ∃ a7 : Int, ∃ b8 : Int, Has T [(0, (.msl 3 lo0p 0 (List.length aA))), (1, (eI n1)), (2, (.fn (.func cmp2_f) cmp2_a cmp2_c)), (6, (eI aN)), (7, (eI a7)), (8, (eI b8))] ∧ aL ⟨H0, [lo0p], []⟩ H [(lo0p, 3, List.map aD aA)] ∧ List.length aA = N0 ∧ iW cmp2 aA n1 aN a7 b8 = some r) ?_ ⟨aA, (20 : Int), (0 : Int), (20 : Int), .eq (by kernel_rfl), hO, hN, h0⟩
  clear hO hN h0
  rintro T H ⟨aA, aN, a7, b8, hT, hO, hN, h0⟩
  refine aZ hT ?_
  clear hT
  unfold iW at h0
  obtain ⟨rr0, hl0, h0⟩ := aX h0
  refine bV (by kernel_rfl) (fun (s : List aC × Int × Int) T H => Has T [(0, (.msl 3 lo0p 0 (List.length s.1))), (1, (eI n1)), (2, (.fn (.func cmp2_f) cmp2_a cmp2_c)), (6, (eI aN)), (7, (eI s.2.1)), (8, (eI s.2.2))] ∧ aL ⟨H0, [lo0p], []⟩ H [(lo0p, 3, List.map aD s.1)] ∧ List.length s.1 = N0) hl0 ⟨.eq (by kernel_rfl), hO, hN⟩ ?_
  clear hO hN
  rintro k0 s out1 T H ⟨hT, hO, hN⟩ h1 ho0
  obtain ⟨aA, a7, b8⟩ := s
  replace h1 : iT cmp2 n1 aN aA a7 b8 = some out1 := h1
  dsimp only at hT
  refine aZ hT ?_
  clear hT
  unfold iT at h1
  refine aO ?_
  refine aU aH 3 [] [(13, (aK (decide (b8 ≤ n1))))] ?_
  refine bF h1 (fun h1 => ?_) (fun h1 => ?_)
  · refine bH ?_
    refine bD [(0, (.msl 3 lo0p 0 (List.length aA))), (1, (eI n1)), (2, (.fn (.func cmp2_f) cmp2_a cmp2_c)), (6, (eI aN)), (7, (eI a7)), (8, (eI b8))] ?_
    refine bN 1 ?_
    refine aO ?_
    refine aT aH 5 ?_
    refine bO 4 ?_
    obtain ⟨x14, hx15, h1⟩ := aX h1
    refine oJ [(lo0p, 3, List.map aD x14)] 0 (mZ lo0p aA a7 b8 cmp2_f cmp2_a cmp2_c cmp2 cmp2_h _ hx15) hO ?_
    intro H hO hl16
    simp only [List.length_map] at hl16
    replace hN := hl16.trans hN
    refine cU ?_
    refine cH (l := [(0, (.msl 3 lo0p 0 (List.length x14))), (1, (eI n1)), (2, (.fn (.func cmp2_f) cmp2_a cmp2_c)), (6, (eI aN)), (8, (eI b8))]) ⟨[(0, (.msl 3 lo0p 0 (List.length aA))), (1, (eI n1)), (2, (.fn (.func cmp2_f) cmp2_a cmp2_c)), (6, (eI aN)), (8, (eI b8))], by kernel_rfl, rfl, ⟨aS.eq (by simp [hl16]), aS.refl _, aS.refl _, aS.refl _, aS.refl _, trivial⟩⟩ ?_
    refine aJ (aI (?_))
    refine aU aH 2 [] [(7, (eI b8))] ?_
    refine aT aH 4 ?_
    refine bB ?_
    exact aJ (aV (aI (⟨rfl, _, (oI h1).symm, .eq (by kernel_rfl), hO, hN⟩)))
  refine dG 0 ?_
  obtain rfl := oI h1
  obtain rfl : _ = rr0 := ho0
  replace h0 : fA cmp2 aA n1 aN a7 = some r := h0
  exact aJ (aR (aR (bL (aI (⟨rfl, _, _, _, .eq (by kernel_rfl), hO, hN, h0⟩)))))

theorem qV (lo0p : Nat) (x0 : (List aC)) (cmp1_f : Nat) (cmp1_a cmp1_c : List V) (cmp1 : aC → aC → Option Int) (cmp1_h : ∀ a0 a1 r, cmp1 a0 a1 = some r → bR Try.prog cmp1_f (cmp1_a ++ [(aD a0), (aD a1)] ++ cmp1_c) (eI r)) (r : List aC) (h0 : dF x0 cmp1 = some r) : lF Try.prog 58 lo0p 3 (List.map aD x0) (List.map aD r) [(.msl 3 lo0p 0 (List.length x0)), (.fn (.func cmp1_f) cmp1_a cmp1_c)] (.tup []) := by
  intro H0 hl0
  refine bY Try.func58 ?_
  have hO := aL.pI hl0
  clear hl0
  obtain ⟨N0, hN0⟩ : ∃ n, n = List.length x0 := ⟨_, rfl⟩
  have hN : List.length x0 = N0 := hN0.symm
  unfold dF at h0
  refine aT aH 5 ?_
  refine bO 4 ?_
  obtain ⟨x1, hx2, h0⟩ := aX h0
  refine oJ [(lo0p, 3, List.map aD x1)] 0 (xE lo0p x0 (lN x0) cmp1_f cmp1_a cmp1_c cmp1 cmp1_h _ hx2) hO ?_
  intro H hO hl3
  simp only [List.length_map] at hl3
  replace hN := hl3.trans hN
  refine cU ?_
  refine cH (l := [(0, (.msl 3 lo0p 0 (List.length x1)))]) ⟨[(0, (.msl 3 lo0p 0 (List.length x0)))], by kernel_rfl, rfl, ⟨aS.eq (by simp [hl3]), trivial⟩⟩ ?_
  obtain rfl := oI h0
  exact aJ (rD (x := (.tup [])) (by kernel_rfl) (aS.refl _) ⟨rfl, hO.ext, hO.at 0 (by kernel_rfl), by simp only [List.length_map]; exact hN.trans hN0⟩)

theorem PV (xW : (List Int)) (r : Int) (h0 : tS xW = some r) : bR Try.prog 60 [(eL (eI) xW)] (eI r) := by
  intro H0
  refine bY Try.func60 ?_
  have hO := aL.start H0
  unfold tS at h0
  refine aU aH 1 [] [] ?_
  refine aU aH 1 [] [(3, (eI (0 : Int)))] ?_
  refine cL (fun T H => ∃ nI : Int, Has T [(3, (eI nI))] ∧ aL ⟨H0, [], []⟩ H [] ∧ sE nI = some r) ?_ ?_
  · clear hO h0
    rintro T H ⟨nI, hT, hO, h0⟩
    refine aZ hT ?_
    clear hT
    unfold sE at h0
    refine bM aH 2 [(2, (eI nI))] ?_
    refine bE ?_
    obtain rfl := oI h0
    exact aJ (Q_r hO)
  refine aU aH 3 [0] [(6, (eL (eI) xW)), (7, (eI (lN xW))), (8, (eI (0 : Int)))] ?_
  refine bN 0 ?_
  refine cR [(3, (eI (0 : Int))), (6, (eL (eI) xW)), (7, (eI (lN xW))), (8, (eI (0 : Int)))] ?_
  refine cG (fun T H => ∃ nI : Int, ∃ t6 : (List Int), ∃ t7 : Int, ∃ t8 : Int, Has T [(3, (eI nI)), (6, (eL (eI) t6)), (7, (eI t7)), (8, (eI t8))] ∧ aL ⟨H0, [], []⟩ H [] ∧ vR nI t6 t7 t8 = some r) ?_ ⟨(0 : Int), xW, (lN xW), (0 : Int), .eq (by kernel_rfl), hO, h0⟩
  clear hO h0
  rintro T H ⟨nI, t6, t7, t8, hT, hO, h0⟩
  refine aZ hT ?_
  clear hT
  unfold vR at h0
  obtain ⟨rr0, hl0, h0⟩ := aX h0
  refine bV (by kernel_rfl) (fun (s : Int) T H => Has T [(3, (eI nI)), (6, (eL (eI) t6)), (7, (eI t7)), (8, (eI s))] ∧ aL ⟨H0, [], []⟩ H []) hl0 ⟨.eq (by kernel_rfl), hO⟩ ?_
  clear hO
  rintro k0 s out1 T H ⟨hT, hO⟩ h1 ho0
  obtain ⟨t8, rfl⟩ : ∃ x, x = s := ⟨_, rfl⟩
  replace h1 : gZ nI t6 t7 t8 = some out1 := h1
  refine aZ hT ?_
  clear hT
  unfold gZ at h1
  refine aU aH 1 [] [(9, (aK (decide (t8 < t7))))] ?_
  refine aO ?_
  refine bF h1 (fun h1 => ?_) (fun h1 => ?_)
  · refine bH ?_
    refine bD [(3, (eI nI)), (6, (eL (eI) t6)), (7, (eI t7)), (8, (eI t8))] ?_
    refine aO ?_
    refine bN 1 ?_
    refine aO ?_
    refine aT aH 3 ?_
    obtain ⟨c2, h1⟩ := bA h1
    refine nG [0 ≤ t8 ∧ t8 < (lN t6)] ⟨c2, trivial⟩ ?_
    refine bP [] [(5, (eI (gD t6 t8)))] ?_
    refine aU aH 3 [] [(14, (aK (!decide ((gD t6 t8) = nI))))] ?_
    refine bF h1 (fun h1 => ?_) (fun h1 => ?_)
    · refine bM aH 2 [(2, (eI (gD t6 t8)))] ?_
      refine bE ?_
      obtain rfl := oI h1
      obtain rfl : _ = rr0 := ho0
      replace h0 : some (gD t6 t8) = some r := h0
      obtain rfl := oI h0
      exact aJ (bJ (aP (aP (bJ (aP (Q_r hO))))))
    refine bH ?_
    refine cY [(3, (eI nI)), (6, (eL (eI) t6)), (7, (eI t7)), (8, (eI t8))] ?_
    refine aJ (aV (aI (?_)))
    refine aT aH 2 ?_
    refine bB ?_
    exact aJ (aI (⟨rfl, _, (oI h1).symm, .eq (by kernel_rfl), hO⟩))
  refine dG 0 ?_
  obtain rfl := oI h1
  obtain rfl : _ = rr0 := ho0
  replace h0 : sE nI = some r := h0
  exact aJ (aR (aR (bL (aI (⟨rfl, _, .eq (by kernel_rfl), hO, h0⟩)))))

theorem NL (x0 : aC) (y1 : aC) (r : Int) (h0 : mO x0 y1 = some r) : bR Try.prog 59 [(aD x0), (aD y1)] (eI r) := by
  intro H0
  refine bY Try.func59 ?_
  have hO := aL.start H0
  unfold mO at h0
  refine aO ?_
  refine aT aH 3 ?_
  refine eX 3 (aD x0) (by kernel_rfl) (by kernel_rfl) ?_
  refine eX 3 (aD y1) (by kernel_rfl) (by kernel_rfl) ?_
  refine bB ?_
  refine bD [(2, (.rp (aD x0))), (3, (.rp (aD y1)))] ?_
  refine aO ?_
  refine hU (hM [6, 8, 11, 13]) aH 13 ?_
  refine mT 4 ?_
  obtain ⟨x1, hx2, h0⟩ := aX h0
  refine AB (EU x0.Row y1.Row _ hx2) hO ?_
  intro H hO
  refine mT 9 ?_
  obtain ⟨x4, hx5, h0⟩ := aX h0
  refine AB (uR x0.At y1.At _ hx5) hO ?_
  intro H hO
  refine DZ (xs := [(eI x1), (eI x4)]) (k := 1) (by kernel_rfl) (by kernel_rfl) ?_
  obtain ⟨x7, hx8, h0⟩ := aX h0
  refine TV 60 [(fV [(eI x1), (eI x4)])] (eI x7) (by kernel_rfl) (by kernel_rfl) (bR.sub (PV ([x1, x4]) _ hx8) ⟨FH (l := [x1, x4]), trivial⟩) hO ?_
  intro H hO
  refine jN ?_
  refine bD [(4, (eI x7))] ?_
  refine bE ?_
  obtain rfl := oI h0
  exact aJ (Q_r hO)

theorem UQ (lo0p : Nat) (l0 : (List aC)) (r1 : (List aF)) (f2 : (List aB)) (r : (List aC)) (h0 : xK l0 r1 f2 = some r) : BY Try.prog 78 lo0p 3 (List.map aD l0) [(.msl 3 lo0p 0 (List.length l0)), (eL aG r1), (eL aE f2)] (fun lo => .msl 3 lo 0 (List.length r)) (List.map aD r) := by
  intro H0 hl0
  refine bY Try.func78 ?_
  have hO := aL.pI hl0
  clear hl0
  unfold xK at h0
  refine aU aH 1 [] [] ?_
  refine cL (fun T H => ∃ l0 : List aC, ∃ lo1 : Nat, Has T [(0, (.msl 3 lo1 0 (List.length l0)))] ∧ aL ⟨H0, [lo0p], []⟩ H [(lo1, 3, List.map aD l0)] ∧ zE l0 = some r) ?_ ?_
  · clear hO h0
    rintro T H ⟨l0, lo1, hT, hO, h0⟩
    refine aZ hT ?_
    clear hT
    unfold zE at h0
    refine bM aH 2 [(6, (.msl 3 lo1 0 (List.length l0)))] ?_
    refine bE ?_
    obtain rfl := oI h0
    exact aJ (oK (x := (.msl 3 lo1 0 (List.length l0))) (by kernel_rfl) (aS.refl _) ⟨lo1, rfl, hO⟩)
  refine aU aH 3 [2] [(9, (eL aE f2)), (10, (eI (lN f2))), (11, (eI (0 : Int)))] ?_
  refine bN 0 ?_
  refine cR [(0, (.msl 3 lo0p 0 (List.length l0))), (1, (eL aG r1)), (9, (eL aE f2)), (10, (eI (lN f2))), (11, (eI (0 : Int)))] ?_
  refine cG (fun T H => ∃ l0 : List aC, ∃ t9 : (List aB), ∃ t10 : Int, ∃ t11 : Int, ∃ lo3 : Nat, Has T [(0, (.msl 3 lo3 0 (List.length l0))), (1, (eL aG r1)), (9, (eL aE t9)), (10, (eI t10)), (11, (eI t11))] ∧ aL ⟨H0, [lo0p], []⟩ H [(lo3, 3, List.map aD l0)] ∧ zJ l0 r1 t9 t10 t11 = some r) ?_ ⟨l0, f2, (lN f2), (0 : Int), lo0p, .eq (by kernel_rfl), hO, h0⟩
  clear hO h0
  rintro T H ⟨l0, t9, t10, t11, lo3, hT, hO, h0⟩
  refine aZ hT ?_
  clear hT
  unfold zJ at h0
  obtain ⟨rr0, hl0, h0⟩ := aX h0
  refine bV (by kernel_rfl) (fun (s : List aC × Int) T H => ∃ lo3 : Nat, Has T [(0, (.msl 3 lo3 0 (List.length s.1))), (1, (eL aG r1)), (9, (eL aE t9)), (10, (eI t10)), (11, (eI s.2))] ∧ aL ⟨H0, [lo0p], []⟩ H [(lo3, 3, List.map aD s.1)]) hl0 ⟨lo3, .eq (by kernel_rfl), hO⟩ ?_
  clear hO
  rintro k0 s out1 T H ⟨lo3, hT, hO⟩ h1 ho0
  obtain ⟨l0, t11⟩ := s
  replace h1 : oO r1 t9 t10 l0 t11 = some out1 := h1
  dsimp only at hT
  refine aZ hT ?_
  clear hT
  unfold oO at h1
  refine aU aH 1 [] [(12, (aK (decide (t11 < t10))))] ?_
  refine aO ?_
  refine bF h1 (fun h1 => ?_) (fun h1 => ?_)
  · refine bH ?_
    refine bD [(0, (.msl 3 lo3 0 (List.length l0))), (1, (eL aG r1)), (9, (eL aE t9)), (10, (eI t10)), (11, (eI t11))] ?_
    refine aO ?_
    refine bN 1 ?_
    refine aO ?_
    refine aT aH 4 ?_
    obtain ⟨c5, h1⟩ := bA h1
    refine oG 2 [0 ≤ t11 ∧ t11 < (lN t9)] ⟨c5, trivial⟩ ?_
    refine tI 2 (aE (aB.mk 0 0)) (by kernel_rfl) (by kernel_rfl) hO ?_
    intro lo6 H hO
    refine nU 1 lo6 2 0 (aE (aB.mk 0 0)) (aE (gD t9 t11)) [(aE (aB.mk 0 0))] [(lo3, 3, List.map aD l0), (lo6, 2, [(aE (gD t9 t11))])] hO rfl (by kernel_rfl) ?_
    intro H hO
    refine cU ?_
    refine bP [] [(8, (.lp lo6 0 0))] ?_
    refine cR [(0, (.msl 3 lo3 0 (List.length l0))), (1, (eL aG r1)), (8, (.lp lo6 0 0)), (9, (eL aE t9)), (10, (eI t10)), (11, (eI t11))] ?_
    refine WR 2 1 8 2 lo6 (aE (gD t9 t11)) [(lo3, 3, List.map aD l0)] hO (by kernel_rfl) (by kernel_rfl) (by kernel_rfl) ?_
    intro H hO
    refine hU (hM [19, 21]) aH 11 ?_
    refine mT 2 ?_
    obtain ⟨x7, hx8, h1⟩ := aX h1
    refine AB (KL r1 _ hx8) hO ?_
    intro H hO
    refine mT 8 ?_
    refine DZ (xs := [(aD (aC.mk x7 ((gD t9 t11).At) ((gD t9 t11).Net)))]) (k := 3) (by kernel_rfl) (by kernel_rfl) ?_
    obtain ⟨c11, h1⟩ := bA h1
    refine CY (e := aD) l0 ([aC.mk x7 ((gD t9 t11).At) ((gD t9 t11).Net)]) 0 lo3 3 40 (fV [(aD (aC.mk x7 ((gD t9 t11).At) ((gD t9 t11).Net)))]) (fun lo10 => [(lo10, 3, List.map aD (l0 ++ ([aC.mk x7 ((gD t9 t11).At) ((gD t9 t11).Net)])))]) (by kernel_rfl) (by kernel_rfl) hO (by kernel_rfl) (by kernel_rfl) c11 (fun _ => by kernel_rfl) ?_
    intro lo10 H hO
    refine jN ?_
    refine cY [(0, (.msl 3 lo10 0 (List.length (l0 ++ ([aC.mk x7 ((gD t9 t11).At) ((gD t9 t11).Net)]))))), (1, (eL aG r1)), (9, (eL aE t9)), (10, (eI t10)), (11, (eI t11))] ?_
    refine aJ (aV (aI (?_)))
    refine aT aH 2 ?_
    refine bB ?_
    exact aJ (aI (⟨rfl, _, (oI h1).symm, _, .eq (by kernel_rfl), hO⟩))
  refine dG 0 ?_
  obtain rfl := oI h1
  obtain rfl : _ = rr0 := ho0
  replace h0 : zE l0 = some r := h0
  exact aJ (aR (aR (bL (aI (⟨rfl, _, _, .eq (by kernel_rfl), hO, h0⟩)))))

theorem NN (l0 : (List aC)) (by1_f : Nat) (by1_a by1_c : List V) (by1 : (List aB) → Option ((List aB) × Int)) (by1_h : ∀ a0 r, by1 a0 = some r → bR Try.prog by1_f (by1_a ++ [(eL aE a0)] ++ by1_c) (.tup [(eL aE r.1), (eI r.2)])) (r : ((List aC) × Int)) (h0 : rW l0 by1 = some r) : bR Try.prog 63 [(eL aD l0), (.fn (.func by1_f) by1_a by1_c)] (.tup [(eL aD r.1), (eI r.2)]) := by
  intro H0
  refine GU aH Try.func63 (by kernel_rfl) (by kernel_rfl) (by kernel_rfl) ?_
  have hO := aL.start H0
  unfold rW at h0
  refine aO ?_
  refine aT aH 3 ?_
  refine eX 1 (.fn (.func by1_f) by1_a by1_c) (by kernel_rfl) (by kernel_rfl) ?_
  refine yN 1 (.sl true 0 (fun _ => .bad)) (eL aD ([])) (by kernel_rfl) (by kernel_rfl) (by kernel_rfl) (dW) (by kernel_rfl) (by kernel_rfl) hO ?_
  intro lo1 H hO
  refine tI 1 (eI 0) (by kernel_rfl) (by kernel_rfl) hO ?_
  intro lo2 H hO
  refine cU ?_
  refine bP [1] [(3, (.rp (.fn (.func by1_f) by1_a by1_c))), (4, (.lp lo1 0 0)), (5, (.lp lo2 0 0))] ?_
  refine aO ?_
  refine aT aH 3 ?_
  refine mD (xs := []) (k := 3) (by kernel_rfl) (by kernel_rfl) ?_
  refine yN 1 (.sl true 0 (fun _ => .bad)) (eL aD ([])) (by kernel_rfl) (by kernel_rfl) (by kernel_rfl) (dW) (by kernel_rfl) (by kernel_rfl) hO ?_
  intro lo3 H hO
  refine aA2 11 3 (fun _ => .bad) (by kernel_rfl) hO (by kernel_rfl) ?_
  intro lo4 H hO
  refine nU 2 lo3 1 0 (eL aD ([])) (.msl 3 lo4 0 (List.length ([] : List aC))) [(eL aD ([]))] [(lo1, 1, [(eL aD ([]))]), (lo2, 1, [(eI 0)]), (lo3, 1, [(.msl 3 lo4 0 (List.length ([] : List aC)))]), (lo4, 3, List.map aD ([] : List aC))] hO rfl (by kernel_rfl) ?_
  intro H hO
  refine cU ?_
  refine bP [] [(6, (.lp lo3 0 0))] ?_
  refine aO ?_
  refine aO ?_
  refine aT aH 2 ?_
  refine bO 1 ?_
  obtain ⟨x5, hx6, h0⟩ := aX h0
  refine cJ (CL l0 _ hx6) hO ?_
  intro H hO
  refine cU ?_
  refine bP [0] [(13, (.fn (.func 104) [] [(.rp (eL aD x5))]))] ?_
  refine bN 0 ?_
  refine cR [(3, (.rp (.fn (.func by1_f) by1_a by1_c))), (4, (.lp lo1 0 0)), (5, (.lp lo2 0 0)), (6, (.lp lo3 0 0)), (13, (.fn (.func 104) [] [(.rp (eL aD x5))]))] ?_
  refine cG (fun T H => ∃ t4 : (List aC), ∃ t5 : Int, ∃ out6 : List aC, ∃ jZ : (List aC), ∃ lo7 : Nat, ∃ lo8 : Nat, ∃ lo9 : Nat, ∃ lo10 : Nat, Has T [(3, (.rp (.fn (.func by1_f) by1_a by1_c))), (4, (.lp lo7 0 0)), (5, (.lp lo8 0 0)), (6, (.lp lo9 0 0)), (13, (.fn (.func 104) [] [(.rp (eL aD jZ))]))] ∧ aL ⟨H0, [], []⟩ H [(lo7, 1, [(eL aD t4)]), (lo8, 1, [(eI t5)]), (lo9, 1, [(.msl 3 lo10 0 (List.length out6))]), (lo10, 3, List.map aD out6)] ∧ uK by1 t4 t5 out6 jZ = some r) ?_ ⟨[], 0, ([] : List aC), x5, lo1, lo2, lo3, lo4, .eq (by kernel_rfl), hO, h0⟩
  clear hO h0
  rintro T H ⟨t4, t5, out6, jZ, lo7, lo8, lo9, lo10, hT, hO, h0⟩
  refine aZ (l := [(3, (.rp (.fn (.func by1_f) by1_a by1_c))), (4, (.lp lo7 0 0)), (5, (.lp lo8 0 0)), (6, (.lp lo9 0 0)), (13, (.fn (.func 104) [] [(.rp (eL aD jZ))]))]) hT ?_
  clear hT
  unfold uK at h0
  obtain ⟨o0, hl0, h0⟩ := aX h0
  refine DU (fid := 104) (ys := []) (cs := [(.rp (eL aD jZ))]) #[14, 15] (fun (A : AL) (b lL : Nat) (st : ((List aC) × Int × List aC) ⊕ ((List aC) × Int × List aC)) (G' : Gs) => Sum.elim (fun (s : (List aC) × Int × List aC) => ∃ lo10 : Nat, G' = (lL, .raw (kP b A .ready none)) :: (up [(lo7, 1, [(eL aD s.1)]), (lo8, 1, [(eI s.2.1)]), (lo9, 1, [(.msl 3 lo10 0 (List.length s.2.2))]), (lo10, 3, List.map aD s.2.2)] ++ [])) (fun (s : (List aC) × Int × List aC) => ∃ lo10 : Nat, G' = (lL, .raw (kP b A .done (some .ret))) :: (up [(lo7, 1, [(eL aD s.1)]), (lo8, 1, [(eI s.2.1)]), (lo9, 1, [(.msl 3 lo10 0 (List.length s.2.2))]), (lo10, 3, List.map aD s.2.2)] ++ [])) st) (.inl (t4, t5, out6)) o0 (.tup []) (by kernel_rfl) (by kernel_rfl) (by kernel_rfl) hO (fun _ _ => ⟨lo10, rfl⟩) ?_ ?_
  · intro b lL
    clear hO h0
    refine yD _ b (fun st t14 t15 => rnd (fun (s : (List aC) × Int × List aC) => nE by1 jZ s.1 s.2.1 s.2.2 t14 t15) st) ?_ jZ _ _ hl0
    intro st t14 t15 st2 rr hr
    obtain ⟨s, rfl, h1, rfl⟩ := VH hr
    clear hr
    intro Hr Gr hi hg
    obtain ⟨t4, t5, out6⟩ := s
    dsimp only [Sum.elim_inl] at hi
    obtain ⟨lo10, rfl⟩ := hi
    replace h1 : nE by1 jZ t4 t5 out6 t14 t15 = some st2 := h1
    unfold nE at h1
    obtain ⟨E1, hE, hO⟩ := zF hg
    refine yW (EG (hO.gm 0 _ rfl).2 (by kernel_rfl) (by kernel_rfl) ?_)
    refine cR [(3, (.rp (.fn (.func by1_f) by1_a by1_c))), (4, (.lp lo7 0 0)), (5, (.lp lo8 0 0)), (6, (.lp lo9 0 0)), (13, (.fn (.func 104) [] [(.rp (eL aD jZ))])), (14, (eL aG t14)), (15, (eL aE t15))] ?_
    refine aU aH 1 [13, 14] [(7, (eL aG t14))] ?_
    refine aT aH 1 ?_
    refine bB ?_
    refine cY [(3, (.rp (.fn (.func by1_f) by1_a by1_c))), (4, (.lp lo7 0 0)), (5, (.lp lo8 0 0)), (6, (.lp lo9 0 0)), (7, (eL aG t14)), (8, (eL aE t15))] ?_
    refine aJ (⟨rfl, rfl, (hO.gm 0 _ rfl).2, ?_⟩)
    intro o1 ho1
    replace hO := hO.xZ o1
    refine bN 1 ?_
    refine aO ?_
    refine aT aH 8 ?_
    refine bO 2 ?_
    obtain ⟨x11, hx12, h1⟩ := aX h1
    refine cJ (by1_h t15 _ hx12) hO ?_
    intro H hO
    refine bB ?_
    refine bP [3, 8] [(9, (eL aE x11.1)), (10, (eI x11.2))] ?_
    refine aO ?_
    refine aU aH 2 [] [(23, (aK (!decide (x11.2 = (0 : Int)))))] ?_
    refine bF h1 (fun h1 => ?_) (fun h1 => ?_)
    · refine aO ?_
      refine aT aH 3 ?_
      refine bO 1 ?_
      refine nU 0 lo7 1 0 (eL aD t4) (.sl true 0 (fun _ => .bad)) [(eL aD t4)] [(lo7, 1, [(.sl true 0 (fun _ => .bad))]), (lo8, 1, [(eI t5)]), (lo9, 1, [(.msl 3 lo10 0 (List.length out6))]), (lo10, 3, List.map aD out6)] hO rfl (by kernel_rfl) ?_
      intro H hO
      refine nU 1 lo8 1 0 (eI t5) (eI x11.2) [(eI t5)] [(lo7, 1, [(.sl true 0 (fun _ => .bad))]), (lo8, 1, [(eI x11.2)]), (lo9, 1, [(.msl 3 lo10 0 (List.length out6))]), (lo10, 3, List.map aD out6)] hO rfl (by kernel_rfl) ?_
      intro H hO
      refine cU ?_
      refine DL 0 lo7 1 (.sl true 0 (fun _ => .bad)) (eL aD ([])) [(lo7, 1, [(eL aD ([]))]), (lo8, 1, [(eI x11.2)]), (lo9, 1, [(.msl 3 lo10 0 (List.length out6))]), (lo10, 3, List.map aD out6)] hO (by kernel_rfl) (by kernel_rfl) dW (by kernel_rfl) ?_
      intro H hO
      refine bD [(4, (.lp lo7 0 0)), (5, (.lp lo8 0 0)), (6, (.lp lo9 0 0))] ?_
      refine bE ?_
      refine cY [(4, (.lp lo7 0 0)), (5, (.lp lo8 0 0)), (6, (.lp lo9 0 0))] ?_
      obtain rfl := oI h1
      exact aJ (aP (bJ (⟨(gF hO hE ho1 .dead).1, rfl, _, ⟨lo10, rfl⟩, (gF hO hE ho1 _).2⟩)))
    refine bH ?_
    refine bD [(4, (.lp lo7 0 0)), (5, (.lp lo8 0 0)), (6, (.lp lo9 0 0)), (7, (eL aG t14)), (9, (eL aE x11.1))] ?_
    refine aO ?_
    refine aT aH 5 ?_
    refine zY 2 lo9 1 0 (.msl 3 lo10 0 (List.length out6)) (.msl 3 lo10 0 (List.length out6)) [(.msl 3 lo10 0 (List.length out6))] hO rfl ?_
    refine bO 3 ?_
    obtain ⟨x15, hx16, h1⟩ := aX h1
    refine TB (L' := fun lo17 => [(lo7, 1, [(eL aD t4)]), (lo8, 1, [(eI t5)]), (lo9, 1, [(.msl 3 lo10 0 (List.length out6))]), (lo17, 3, List.map aD x15)]) 3 lo10 3 (List.map aD out6) (List.map aD x15) 78 [(.msl 3 lo10 0 (List.length out6)), (eL aG t14), (eL aE x11.1)] (fun lo17 => (.msl 3 lo17 0 (List.length x15))) (by kernel_rfl) (by kernel_rfl) (UQ lo10 out6 t14 x11.1 _ hx16) hO (by kernel_rfl) (fun _ => by kernel_rfl) ?_
    intro lo17 H hO
    refine nU 2 lo9 1 0 (.msl 3 lo10 0 (List.length out6)) (.msl 3 lo17 0 (List.length x15)) [(.msl 3 lo10 0 (List.length out6))] [(lo7, 1, [(eL aD t4)]), (lo8, 1, [(eI t5)]), (lo9, 1, [(.msl 3 lo17 0 (List.length x15))]), (lo17, 3, List.map aD x15)] hO rfl (by kernel_rfl) ?_
    intro H hO
    refine cU ?_
    refine bP [7, 9] [] ?_
    refine aO ?_
    refine aT aH 3 ?_
    refine zY 2 lo9 1 0 (.msl 3 lo17 0 (List.length x15)) (.msl 3 lo17 0 (List.length x15)) [(.msl 3 lo17 0 (List.length x15))] hO rfl ?_
    refine bB ?_
    refine bP [] [(31, (aK (decide ((4096 : Int) < (lN x15)))))] ?_
    refine bF h1 (fun h1 => ?_) (fun h1 => ?_)
    · refine aO ?_
      refine aT aH 2 ?_
      refine nU 0 lo7 1 0 (eL aD t4) (.sl true 0 (fun _ => .bad)) [(eL aD t4)] [(lo7, 1, [(.sl true 0 (fun _ => .bad))]), (lo8, 1, [(eI t5)]), (lo9, 1, [(.msl 3 lo17 0 (List.length x15))]), (lo17, 3, List.map aD x15)] hO rfl (by kernel_rfl) ?_
      intro H hO
      refine nU 1 lo8 1 0 (eI t5) (eI (7 : Int)) [(eI t5)] [(lo7, 1, [(.sl true 0 (fun _ => .bad))]), (lo8, 1, [(eI (7 : Int))]), (lo9, 1, [(.msl 3 lo17 0 (List.length x15))]), (lo17, 3, List.map aD x15)] hO rfl (by kernel_rfl) ?_
      intro H hO
      refine cU ?_
      refine DL 0 lo7 1 (.sl true 0 (fun _ => .bad)) (eL aD ([])) [(lo7, 1, [(eL aD ([]))]), (lo8, 1, [(eI (7 : Int))]), (lo9, 1, [(.msl 3 lo17 0 (List.length x15))]), (lo17, 3, List.map aD x15)] hO (by kernel_rfl) (by kernel_rfl) dW (by kernel_rfl) ?_
      intro H hO
      refine bD [(4, (.lp lo7 0 0)), (5, (.lp lo8 0 0)), (6, (.lp lo9 0 0))] ?_
      refine bE ?_
      refine cY [(4, (.lp lo7 0 0)), (5, (.lp lo8 0 0)), (6, (.lp lo9 0 0))] ?_
      obtain rfl := oI h1
      exact aJ (bJ (⟨(gF hO hE ho1 .dead).1, rfl, _, ⟨lo17, rfl⟩, (gF hO hE ho1 _).2⟩))
    refine bH ?_
    refine cY [(4, (.lp lo7 0 0)), (5, (.lp lo8 0 0)), (6, (.lp lo9 0 0))] ?_
    obtain rfl := oI h1
    exact aJ (aV (⟨(gF hO hE ho1 .dead).1, rfl, _, ⟨lo17, rfl⟩, (gF hO hE ho1 _).2⟩))
  · intro b lD lL H' G' hi hO
    rcases o0 with s | s
    · dsimp only [Sum.elim_inl] at hi
      obtain ⟨lo10, rfl⟩ := hi
      replace h0 : (some (s.2.2, (0 : Int))) = some r := h0
      obtain ⟨hlL, hO⟩ := pZ hO
      refine ⟨_, _, hlL, (by intro e; cases e), ?_⟩
      refine cY [(4, (.lp lo7 0 0)), (5, (.lp lo8 0 0)), (6, (.lp lo9 0 0))] ?_
      refine aJ (aV (aI (?_)))
      refine aO ?_
      refine VE (e := aD) s.2.2 2 3 1 3 lo9 lo10 (List.length s.2.2) [(lo7, 1, [(eL aD s.1)]), (lo8, 1, [(eI s.2.1)]), (lo9, 1, [(eL aD s.2.2)])] hO (by kernel_rfl) (by kernel_rfl) (by kernel_rfl) (.inr (by decide)) (by kernel_rfl) ?_
      intro H hO
      refine aT aH 3 ?_
      refine zY 2 lo9 1 0 (eL aD s.2.2) (eL aD s.2.2) [(eL aD s.2.2)] hO rfl ?_
      refine nU 0 lo7 1 0 (eL aD s.1) (eL aD s.2.2) [(eL aD s.1)] [(lo7, 1, [(eL aD s.2.2)]), (lo8, 1, [(eI s.2.1)]), (lo9, 1, [(eL aD s.2.2)])] hO rfl (by kernel_rfl) ?_
      intro H hO
      refine nU 1 lo8 1 0 (eI s.2.1) (eI (0 : Int)) [(eI s.2.1)] [(lo7, 1, [(eL aD s.2.2)]), (lo8, 1, [(eI (0 : Int))]), (lo9, 1, [(eL aD s.2.2)])] hO rfl (by kernel_rfl) ?_
      intro H hO
      refine cU ?_
      replace hO := hO.pick (L' := [(lo7, 1, [(eL aD s.2.2)]), (lo8, 1, [(eI (0 : Int))])]) [0, 1] (by decide) (by kernel_rfl)
      refine bP [6] [] ?_
      refine bE ?_
      obtain rfl := oI h0
      have hD := (hO.gm 0 _ rfl).2
      replace hO := (hO.xZ .dead).wD
      exact aJ (QM1 (.inr rfl) hD (rs := [.cell 4 22, .cell 5 25]) (xs := [(eL aD s.2.2), (eI (0 : Int))]) (x := (.tup [(eL aD s.2.2), (eI (0 : Int))])) (by kernel_rfl) (sM (lo := lo7) (k := 1) (y := (eL aD s.2.2)) (x := (eL aD s.2.2)) 0 hO (by kernel_rfl) (by kernel_rfl) (by kernel_rfl) (by kernel_rfl) (sM (lo := lo8) (k := 1) (y := (eI (0 : Int))) (x := (eI (0 : Int))) 1 hO (by kernel_rfl) (by kernel_rfl) (by kernel_rfl) (by kernel_rfl) tR)) (by kernel_rfl) ⟨rfl, hO.out⟩)
    · dsimp only [Sum.elim_inr] at hi
      obtain ⟨lo10, rfl⟩ := hi
      replace h0 : (some (s.1, s.2.1)) = some r := h0
      obtain ⟨hlL, hO⟩ := pZ hO
      refine ⟨_, _, hlL, (by intro e; cases e), ?_⟩
      refine bE ?_
      replace hO := hO.pick (L' := [(lo7, 1, [(eL aD s.1)]), (lo8, 1, [(eI s.2.1)])]) [0, 1] (by decide) (by kernel_rfl)
      obtain rfl := oI h0
      have hD := (hO.gm 0 _ rfl).2
      replace hO := (hO.xZ .dead).wD
      exact aJ (bJ (aP (QM1 (.inr rfl) hD (rs := [.cell 4 22, .cell 5 25]) (xs := [(eL aD s.1), (eI s.2.1)]) (x := (.tup [(eL aD s.1), (eI s.2.1)])) (by kernel_rfl) (sM (lo := lo7) (k := 1) (y := (eL aD s.1)) (x := (eL aD s.1)) 0 hO (by kernel_rfl) (by kernel_rfl) (by kernel_rfl) (by kernel_rfl) (sM (lo := lo8) (k := 1) (y := (eI s.2.1)) (x := (eI s.2.1)) 1 hO (by kernel_rfl) (by kernel_rfl) (by kernel_rfl) (by kernel_rfl) tR)) (by kernel_rfl) ⟨rfl, hO.out⟩)))

theorem tD (s0 : (List aB)) (f1_f : Nat) (f1_a f1_c : List V) (f1 : aB → Option Bool) (f1_h : ∀ a0 r, f1 a0 = some r → bR Try.prog f1_f (f1_a ++ [(aE a0)] ++ f1_c) (aK r)) (r : Int) (h0 : fT s0 f1 = some r) : bR Try.prog 116 [(eL aE s0), (.fn (.func f1_f) f1_a f1_c)] (eI r) := by
  intro H0
  refine bY Try.func116 ?_
  have hO := aL.start H0
  unfold fT at h0
  refine aU aH 1 [] [] ?_
  refine cL (fun T H => Has T [] ∧ aL ⟨H0, [], []⟩ H [] ∧ dO f1  = some r) ?_ ?_
  · clear hO h0
    rintro T H ⟨hT, hO, h0⟩
    refine aZ hT ?_
    clear hT
    unfold dO at h0
    refine bM aH 1 [(4, (eI (-1 : Int)))] ?_
    refine bE ?_
    obtain rfl := oI h0
    exact aJ (Q_r hO)
  refine aU aH 3 [] [(7, (eI (lN s0))), (8, (eI (0 : Int)))] ?_
  refine bN 0 ?_
  refine cR [(0, (eL aE s0)), (1, (.fn (.func f1_f) f1_a f1_c)), (7, (eI (lN s0))), (8, (eI (0 : Int)))] ?_
  refine cG (fun T H => ∃ t7 : Int, ∃ t8 : Int, Has T [(0, (eL aE s0)), (1, (.fn (.func f1_f) f1_a f1_c)), (7, (eI t7)), (8, (eI t8))] ∧ aL ⟨H0, [], []⟩ H [] ∧ fK f1 s0 t7 t8 = some r) ?_ ⟨(lN s0), (0 : Int), .eq (by kernel_rfl), hO, h0⟩
  clear hO h0
  rintro T H ⟨t7, t8, hT, hO, h0⟩
  refine aZ hT ?_
  clear hT
  unfold fK at h0
  obtain ⟨rr0, hl0, h0⟩ := aX h0
  refine bV (by kernel_rfl) (fun (s : Int) T H => Has T [(0, (eL aE s0)), (1, (.fn (.func f1_f) f1_a f1_c)), (7, (eI t7)), (8, (eI s))] ∧ aL ⟨H0, [], []⟩ H []) hl0 ⟨.eq (by kernel_rfl), hO⟩ ?_
  clear hO
  rintro k0 s out1 T H ⟨hT, hO⟩ h1 ho0
  obtain ⟨t8, rfl⟩ : ∃ x, x = s := ⟨_, rfl⟩
  replace h1 : fL f1 s0 t7 t8 = some out1 := h1
  refine aZ hT ?_
  clear hT
  unfold fL at h1
  refine aU aH 1 [] [(9, (aK (decide (t8 < t7))))] ?_
  refine aO ?_
  refine bF h1 (fun h1 => ?_) (fun h1 => ?_)
  · refine bH ?_
    refine bD [(0, (eL aE s0)), (1, (.fn (.func f1_f) f1_a f1_c)), (7, (eI t7)), (8, (eI t8))] ?_
    refine aO ?_
    refine bN 1 ?_
    refine aU aH 2 [] [(5, (eI t8))] ?_
    refine aO ?_
    refine aT aH 6 ?_
    obtain ⟨c2, h1⟩ := bA h1
    refine oG 5 [0 ≤ t8 ∧ t8 < (lN s0)] ⟨c2, trivial⟩ ?_
    obtain ⟨x3, hx4, h1⟩ := aX h1
    refine cJ (f1_h (gD s0 t8) _ hx4) hO ?_
    intro H hO
    refine cU ?_
    refine bP [] [(16, (aK x3))] ?_
    refine bF h1 (fun h1 => ?_) (fun h1 => ?_)
    · refine bM aH 2 [(4, (eI t8))] ?_
      refine bE ?_
      obtain rfl := oI h1
      obtain rfl : _ = rr0 := ho0
      replace h0 : some t8 = some r := h0
      obtain rfl := oI h0
      exact aJ (bJ (aP (aP (bJ (aP (Q_r hO))))))
    refine bH ?_
    refine cY [(0, (eL aE s0)), (1, (.fn (.func f1_f) f1_a f1_c)), (7, (eI t7)), (8, (eI t8))] ?_
    refine aJ (aV (aI (?_)))
    refine aT aH 2 ?_
    refine bB ?_
    exact aJ (aI (⟨rfl, _, (oI h1).symm, .eq (by kernel_rfl), hO⟩))
  refine dG 0 ?_
  obtain rfl := oI h1
  obtain rfl : _ = rr0 := ho0
  replace h0 : dO f1  = some r := h0
  exact aJ (aR (aR (bL (aI (⟨rfl, .eq (by kernel_rfl), hO, h0⟩)))))

theorem mK (s0 : (List aB)) (f1_f : Nat) (f1_a f1_c : List V) (f1 : aB → Option Bool) (f1_h : ∀ a0 r, f1 a0 = some r → bR Try.prog f1_f (f1_a ++ [(aE a0)] ++ f1_c) (aK r)) (r : Bool) (h0 : cP s0 f1 = some r) : bR Try.prog 96 [(eL aE s0), (.fn (.func f1_f) f1_a f1_c)] (aK r) := by
  intro H0
  refine bY Try.func96 ?_
  have hO := aL.start H0
  unfold cP at h0
  refine aU aH 1 [] [] ?_
  refine aO ?_
  refine aT aH 5 ?_
  refine bO 2 ?_
  obtain ⟨x1, hx2, h0⟩ := aX h0
  refine cJ (tD s0 f1_f f1_a f1_c f1 f1_h _ hx2) hO ?_
  intro H hO
  refine bB ?_
  refine bD [(4, (aK (decide ((0 : Int) ≤ x1))))] ?_
  refine bE ?_
  obtain rfl := oI h0
  exact aJ (Q_r hO)

theorem NM (j0 : aB) (r : Bool) (h0 : rJ j0 = some r) : bR Try.prog 97 [(aE j0)] (aK r) := by
  intro H0
  refine bY Try.func97 ?_
  have hO := aL.start H0
  unfold rJ at h0
  refine aO ?_
  refine aT aH 2 ?_
  refine eX 2 (aE j0) (by kernel_rfl) (by kernel_rfl) ?_
  refine bB ?_
  refine bD [(1, (.rp (aE j0)))] ?_
  refine aO ?_
  refine aT aH 5 ?_
  refine bO 2 ?_
  obtain ⟨x1, hx2, h0⟩ := aX h0
  refine cJ (HU j0.Net _ hx2) hO ?_
  intro H hO
  refine bB ?_
  refine bD [(2, (aK (!x1)))] ?_
  refine bE ?_
  obtain rfl := oI h0
  exact aJ (Q_r hO)

theorem NG (j0 : aB) (r : Bool) (h0 : rP j0 = some r) : bR Try.prog 98 [(aE j0)] (aK r) := by
  intro H0
  refine bY Try.func98 ?_
  have hO := aL.start H0
  unfold rP at h0
  refine aO ?_
  refine aT aH 2 ?_
  refine eX 2 (aE j0) (by kernel_rfl) (by kernel_rfl) ?_
  refine bB ?_
  refine bD [(1, (.rp (aE j0)))] ?_
  refine bM aH 9 [(2, (aK ((decide (j0.At < (-1 : Int))) || (decide ((1125899906842624 : Int) < j0.At)))))] ?_
  refine bE ?_
  obtain rfl := oI h0
  exact aJ (Q_r hO)

theorem wN (s0 : (List aB)) (r : (List aB)) (h0 : fC s0 = some r) : zC Try.prog 99 [(eL aE s0)] (fun lo => (.msl 2 lo 0 (List.length r))) 2 (List.map aE r) := by
  intro H0
  refine bY Try.func99 ?_
  have hO := aL.start H0
  unfold fC at h0
  refine aU aH 1 [] [] ?_
  refine aO ?_
  refine aO ?_
  refine aT aH 2 ?_
  refine bO 1 ?_
  refine ZY false (List.length s0) (fun i => aE (List.getD s0 i default)) (by kernel_rfl) (by kernel_rfl) ?_
  intro b1 hn2
  refine cU ?_
  refine bP [] [(4, (aK b1))] ?_
  refine nZ (b1) (fun hc3 => ?_) (fun hc3 => ?_)
  · replace h0 : some ([] : List aB) = some r := by
      have hl := List.eq_nil_of_length_eq_zero (hn2 hc3)
      rw [hl] at h0
      exact (bA h0).2
    refine bM aH 1 [(2, (.sl true 0 (fun _ => .bad)))] ?_
    refine bE ?_
    refine cY [(2, (.sl true 0 (fun _ => .bad)))] ?_
    refine QL (el := (fun _ => .bad)) 0 2 2 hO (by kernel_rfl) ?_
    intro lo4 H5 hO
    obtain rfl := oI h0
    exact aJ (aP (oK (x := (.msl 2 lo4 0 (List.length ([] : List aB)))) (by kernel_rfl) (aS.refl _) ⟨lo4, rfl, hO⟩))
  · refine bH ?_
    refine bD [(0, (eL aE s0))] ?_
    refine aO ?_
    refine aT aH 4 ?_
    refine mD (xs := []) (k := 2) (by kernel_rfl) (by kernel_rfl) ?_
    refine bO 2 ?_
    obtain ⟨c7, h0⟩ := bA h0
    refine KT (e := aE) s0 (fun _ => .bad) 2 16 (eL aE s0) (fun lo6 => [(lo6, 2, List.map aE s0)]) (by kernel_rfl) (by kernel_rfl) hO (DA (fun _ => by kernel_rfl)) c7 (fun _ => by kernel_rfl) ?_
    intro lo6 H hO
    refine bB ?_
    refine bD [(2, (.msl 2 lo6 0 (List.length s0)))] ?_
    refine bE ?_
    obtain rfl := oI h0
    exact aJ (oK (x := (.msl 2 lo6 0 (List.length s0))) (by kernel_rfl) (aS.refl _) ⟨lo6, rfl, hO⟩)

theorem mY (lo0p : Nat) (aA : (List aB)) (a1 : Int) (b2 : Int) (cmp3_f : Nat) (cmp3_a cmp3_c : List V) (cmp3 : aB → aB → Option Int) (cmp3_h : ∀ a0 a1 r, cmp3 a0 a1 = some r → bR Try.prog cmp3_f (cmp3_a ++ [(aE a0), (aE a1)] ++ cmp3_c) (eI r)) (r : List aB) (h0 : dM aA a1 b2 cmp3 = some r) : lF Try.prog 121 lo0p 2 (List.map aE aA) (List.map aE r) [(.msl 2 lo0p 0 (List.length aA)), (eI a1), (eI b2), (.fn (.func cmp3_f) cmp3_a cmp3_c)] (.tup []) := by
  intro H0 hl0
  refine bY Try.func121 ?_
  have hO := aL.pI hl0
  clear hl0
  obtain ⟨N0, hN0⟩ : ∃ n, n = List.length aA := ⟨_, rfl⟩
  have hN : List.length aA = N0 := hN0.symm
  unfold dM at h0
  refine aU aH 3 [] [(8, (eI (wR (a1 + (1 : Int)))))] ?_
  refine bN 0 ?_
  refine cR [(0, (.msl 2 lo0p 0 (List.length aA))), (1, (eI a1)), (2, (eI b2)), (3, (.fn (.func cmp3_f) cmp3_a cmp3_c)), (8, (eI (wR (a1 + (1 : Int)))))] ?_
  refine cG (fun T H => ∃ aA : List aB, ∃ i8 : Int, Has T [(0, (.msl 2 lo0p 0 (List.length aA))), (1, (eI a1)), (2, (eI b2)), (3, (.fn (.func cmp3_f) cmp3_a cmp3_c)), (8, (eI i8))] ∧ aL ⟨H0, [lo0p], []⟩ H [(lo0p, 2, List.map aE aA)] ∧ List.length aA = N0 ∧ iY cmp3 aA a1 b2 i8 = some r) ?_ ⟨aA, wR (a1 + (1 : Int)), .eq (by kernel_rfl), hO, hN, h0⟩
  clear hO hN h0
  rintro T H ⟨aA, i8, hT, hO, hN, h0⟩
  refine aZ hT ?_
  clear hT
  unfold iY at h0
  obtain ⟨rr0, hl0, h0⟩ := aX h0
  refine bV (by kernel_rfl) (fun (s : List aB × Int) T H => Has T [(0, (.msl 2 lo0p 0 (List.length s.1))), (1, (eI a1)), (2, (eI b2)), (3, (.fn (.func cmp3_f) cmp3_a cmp3_c)), (8, (eI s.2))] ∧ aL ⟨H0, [lo0p], []⟩ H [(lo0p, 2, List.map aE s.1)] ∧ List.length s.1 = N0) hl0 ⟨.eq (by kernel_rfl), hO, hN⟩ ?_
  clear hO hN
  rintro k0 s out1 T H ⟨hT, hO, hN⟩ h1 ho0
  obtain ⟨aA, i8⟩ := s
  replace h1 : iZ cmp3 a1 b2 aA i8 = some out1 := h1
  dsimp only at hT
  refine aZ hT ?_
  clear hT
  unfold iZ at h1
  refine aO ?_
  refine aU aH 3 [] [(14, (aK (decide (i8 < b2))))] ?_
  refine bF h1 (fun h1 => ?_) (fun h1 => ?_)
  · refine bH ?_
    refine bD [(0, (.msl 2 lo0p 0 (List.length aA))), (1, (eI a1)), (2, (eI b2)), (3, (.fn (.func cmp3_f) cmp3_a cmp3_c)), (8, (eI i8))] ?_
    refine cL (fun T H => ∃ aA : List aB, Has T [(0, (.msl 2 lo0p 0 (List.length aA))), (1, (eI a1)), (2, (eI b2)), (3, (.fn (.func cmp3_f) cmp3_a cmp3_c)), (8, (eI i8))] ∧ aL ⟨H0, [lo0p], []⟩ H [(lo0p, 2, List.map aE aA)] ∧ List.length aA = N0 ∧ eT cmp3 aA a1 b2 i8 = some out1) ?_ ?_
    · clear hO hN h1
      rintro T H ⟨aA, hT, hO, hN, h1⟩
      refine aZ hT ?_
      clear hT
      unfold eT at h1
      refine aT aH 3 ?_
      refine bB ?_
      exact aJ (aI (⟨rfl, _, (oI h1).symm, .eq (by kernel_rfl), hO, hN⟩))
    refine bN 1 ?_
    refine aU aH 2 [] [(9, (eI i8))] ?_
    refine bN 2 ?_
    refine cR [(0, (.msl 2 lo0p 0 (List.length aA))), (1, (eI a1)), (2, (eI b2)), (3, (.fn (.func cmp3_f) cmp3_a cmp3_c)), (8, (eI i8)), (9, (eI i8))] ?_
    refine cG (fun T H => ∃ aA : List aB, ∃ j9 : Int, Has T [(0, (.msl 2 lo0p 0 (List.length aA))), (1, (eI a1)), (2, (eI b2)), (3, (.fn (.func cmp3_f) cmp3_a cmp3_c)), (8, (eI i8)), (9, (eI j9))] ∧ aL ⟨H0, [lo0p], []⟩ H [(lo0p, 2, List.map aE aA)] ∧ List.length aA = N0 ∧ jF cmp3 aA a1 b2 i8 j9 = some out1) ?_ ⟨aA, i8, .eq (by kernel_rfl), hO, hN, h1⟩
    clear hO hN h1
    rintro T H ⟨aA, j9, hT, hO, hN, h1⟩
    refine aZ hT ?_
    clear hT
    unfold jF at h1
    obtain ⟨rr1, hl1, h1⟩ := aX h1
    refine bV (by kernel_rfl) (fun (s : List aB × Int) T H => Has T [(0, (.msl 2 lo0p 0 (List.length s.1))), (1, (eI a1)), (2, (eI b2)), (3, (.fn (.func cmp3_f) cmp3_a cmp3_c)), (8, (eI i8)), (9, (eI s.2))] ∧ aL ⟨H0, [lo0p], []⟩ H [(lo0p, 2, List.map aE s.1)] ∧ List.length s.1 = N0) hl1 ⟨.eq (by kernel_rfl), hO, hN⟩ ?_
    clear hO hN
    rintro k1 s out2 T H ⟨hT, hO, hN⟩ h2 ho1
    obtain ⟨aA, j9⟩ := s
    replace h2 : jD cmp3 a1 b2 i8 aA j9 = some out2 := h2
    dsimp only at hT
    refine aZ hT ?_
    clear hT
    unfold jD at h2
    refine aO ?_
    refine aO ?_
    obtain ⟨c2, h2⟩ := bA h2
    obtain ⟨c3, h2⟩ := bA h2
    obtain ⟨x4, hx5, h2⟩ := aX h2
    refine hU (hM []) aH 17 ?_
    refine yH (K := fun T H => Has (lift T) [(0, (.msl 2 lo0p 0 (List.length aA))), (1, (eI a1)), (2, (eI b2)), (3, (.fn (.func cmp3_f) cmp3_a cmp3_c)), (8, (eI i8)), (9, (eI j9)), (34, (aK ((decide (a1 < j9)) && (decide (x4 < (0 : Int))))))] ∧ aL ⟨H0, [lo0p], []⟩ H [(lo0p, 2, List.map aE aA)]) ?_ ?_
    · refine mT 4 ?_
      refine nS (t := 21) (e := decide (a1 < j9)) (by kernel_rfl) (fun hg6 => ?_) (fun hg6 => ?_)
      · refine cV 8 [0 ≤ j9 ∧ j9 < (lN aA)] ⟨(c2 hg6), trivial⟩ ?_
        refine wX 0 lo0p 2 (0 + Int.toNat j9) (aE (gD aA j9)) (aE (gD aA j9)) (List.map aE aA) (by kernel_rfl) (by kernel_rfl) (by kernel_rfl) hO (by kernel_rfl) (cM (c2 hg6)) ?_
        refine cV 13 [0 ≤ (wR (j9 - (1 : Int))) ∧ (wR (j9 - (1 : Int))) < (lN aA)] ⟨(c3 hg6), trivial⟩ ?_
        refine wX 0 lo0p 2 (0 + Int.toNat (wR (j9 - (1 : Int)))) (aE (gD aA (wR (j9 - (1 : Int))))) (aE (gD aA (wR (j9 - (1 : Int))))) (List.map aE aA) (by kernel_rfl) (by kernel_rfl) (by kernel_rfl) hO (by kernel_rfl) (cM (c3 hg6)) ?_
        refine qT cmp3_f (cmp3_a ++ [(aE (gD aA j9)), (aE (gD aA (wR (j9 - (1 : Int)))))] ++ cmp3_c) (eI x4) (by kernel_rfl) (by kernel_rfl) (cmp3_h (gD aA j9) (gD aA (wR (j9 - (1 : Int)))) _ (jO hx5 hg6)) hO ?_
        intro H hO
        refine jN ?_
        exact ⟨⟨[(0, (.msl 2 lo0p 0 (List.length aA))), (1, (eI a1)), (2, (eI b2)), (3, (.fn (.func cmp3_f) cmp3_a cmp3_c)), (8, (eI i8)), (9, (eI j9)), (34, (aK (decide (x4 < (0 : Int)))))], by kernel_rfl, rfl, ⟨aS.refl _, aS.refl _, aS.refl _, aS.refl _, aS.refl _, aS.refl _, aS.eq (congrArg aK (eH hg6 rfl).symm), trivial⟩⟩, hO⟩
      refine jN ?_
      exact ⟨⟨[(0, (.msl 2 lo0p 0 (List.length aA))), (1, (eI a1)), (2, (eI b2)), (3, (.fn (.func cmp3_f) cmp3_a cmp3_c)), (8, (eI i8)), (9, (eI j9)), (34, (aK false))], by kernel_rfl, rfl, ⟨aS.refl _, aS.refl _, aS.refl _, aS.refl _, aS.refl _, aS.refl _, aS.eq (congrArg aK (eH hg6 rfl).symm), trivial⟩⟩, hO⟩
    · rintro T H ⟨hT, hO⟩
      refine cH hT ?_
      clear hT
      refine aJ (aI ?_)
      refine bF h2 (fun h2 => ?_) (fun h2 => ?_)
      · refine bH ?_
        refine bD [(0, (.msl 2 lo0p 0 (List.length aA))), (1, (eI a1)), (2, (eI b2)), (3, (.fn (.func cmp3_f) cmp3_a cmp3_c)), (8, (eI i8)), (9, (eI j9))] ?_
        refine aO ?_
        refine bN 3 ?_
        refine hU (hM []) aH 18 ?_
        obtain ⟨c8, h2⟩ := bA h2
        refine cV 9 [0 ≤ (wR (j9 - (1 : Int))) ∧ (wR (j9 - (1 : Int))) < (lN aA)] ⟨c8, trivial⟩ ?_
        refine lR 0 lo0p 2 (0 + Int.toNat (wR (j9 - (1 : Int)))) (aE (gD aA (wR (j9 - (1 : Int))))) (aE (gD aA (wR (j9 - (1 : Int))))) (List.map aE aA) hO (cM c8) ?_
        obtain ⟨c9, h2⟩ := bA h2
        refine cV 13 [0 ≤ j9 ∧ j9 < (lN aA)] ⟨c9, trivial⟩ ?_
        refine lR 0 lo0p 2 (0 + Int.toNat j9) (aE (gD aA j9)) (aE (gD aA j9)) (List.map aE aA) hO (cM c9) ?_
        obtain ⟨c10, h2⟩ := bA h2
        refine cV 15 [0 ≤ j9 ∧ j9 < (lN aA)] ⟨c10, trivial⟩ ?_
        refine tT 0 lo0p 2 (0 + Int.toNat j9) (aE (gD aA j9)) (aE (gD aA (wR (j9 - (1 : Int))))) (List.map aE aA) [(lo0p, 2, List.map aE (List.set aA (Int.toNat j9) (gD aA (wR (j9 - (1 : Int))))))] hO (cM c10) (by simp only [List.set, oD]) ?_
        intro H hO
        replace hN : List.length (List.set aA (Int.toNat j9) (gD aA (wR (j9 - (1 : Int))))) = N0 := by simpa using hN
        obtain ⟨c11, h2⟩ := bA h2
        refine cV 17 [0 ≤ (wR (j9 - (1 : Int))) ∧ (wR (j9 - (1 : Int))) < (lN aA)] ⟨c11, trivial⟩ ?_
        refine tT 0 lo0p 2 (0 + Int.toNat (wR (j9 - (1 : Int)))) (aE (gD (List.set aA (Int.toNat j9) (gD aA (wR (j9 - (1 : Int))))) (wR (j9 - (1 : Int))))) (aE (gD aA j9)) (List.map aE (List.set aA (Int.toNat j9) (gD aA (wR (j9 - (1 : Int)))))) [(lo0p, 2, List.map aE (List.set (List.set aA (Int.toNat j9) (gD aA (wR (j9 - (1 : Int))))) (Int.toNat (wR (j9 - (1 : Int)))) (gD aA j9)))] hO (wT c11 (by simp [])) (by simp only [List.set, oD]) ?_
        intro H hO
        replace hN : List.length (List.set (List.set aA (Int.toNat j9) (gD aA (wR (j9 - (1 : Int))))) (Int.toNat (wR (j9 - (1 : Int)))) (gD aA j9)) = N0 := by simpa using hN
        refine AU (by kernel_rfl) ?_
        refine cH (l := [(0, (.msl 2 lo0p 0 (List.length (List.set (List.set aA (Int.toNat j9) (gD aA (wR (j9 - (1 : Int))))) (Int.toNat (wR (j9 - (1 : Int)))) (gD aA j9))))), (1, (eI a1)), (2, (eI b2)), (3, (.fn (.func cmp3_f) cmp3_a cmp3_c)), (8, (eI i8)), (9, (eI j9))]) ⟨[(0, (.msl 2 lo0p 0 (List.length aA))), (1, (eI a1)), (2, (eI b2)), (3, (.fn (.func cmp3_f) cmp3_a cmp3_c)), (8, (eI i8)), (9, (eI j9))], by kernel_rfl, rfl, ⟨aS.eq (by simp []), aS.refl _, aS.refl _, aS.refl _, aS.refl _, aS.refl _, trivial⟩⟩ ?_
        refine aJ (aV (aI (?_)))
        refine aT aH 3 ?_
        refine bB ?_
        exact aJ (aI (⟨rfl, _, (oI h2).symm, .eq (by kernel_rfl), hO, hN⟩))
      refine dG 2 ?_
      obtain rfl := oI h2
      obtain rfl : _ = rr1 := ho1
      replace h1 : eT cmp3 aA a1 b2 i8 = some out1 := h1
      exact aJ (aR (aR (bL (aV (aI (⟨rfl, _, .eq (by kernel_rfl), hO, hN, h1⟩))))))
  refine dG 0 ?_
  obtain rfl := oI h1
  obtain rfl : _ = rr0 := ho0
  replace h0 : some aA = some r := h0
  obtain rfl := oI h0
  exact aJ (aR (aR (bL (rD (x := (.tup [])) (by kernel_rfl) (aS.refl _) ⟨rfl, hO.ext, hO.at 0 (by kernel_rfl), by simp only [List.length_map]; exact hN.trans hN0⟩))))

theorem kU (lo0p : Nat) (aA : (List aB)) (a1 : Int) (b2 : Int) (n3 : Int) (cmp4_f : Nat) (cmp4_a cmp4_c : List V) (cmp4 : aB → aB → Option Int) (cmp4_h : ∀ a0 a1 r, cmp4 a0 a1 = some r → bR Try.prog cmp4_f (cmp4_a ++ [(aE a0), (aE a1)] ++ cmp4_c) (eI r)) (r : List aB) (h0 : eE aA a1 b2 n3 cmp4 = some r) : lF Try.prog 126 lo0p 2 (List.map aE aA) (List.map aE r) [(.msl 2 lo0p 0 (List.length aA)), (eI a1), (eI b2), (eI n3), (.fn (.func cmp4_f) cmp4_a cmp4_c)] (.tup []) := by
  intro H0 hl0
  refine bY Try.func126 ?_
  have hO := aL.pI hl0
  clear hl0
  obtain ⟨N0, hN0⟩ : ∃ n, n = List.length aA := ⟨_, rfl⟩
  have hN : List.length aA = N0 := hN0.symm
  unfold eE at h0
  refine aU aH 1 [4] [(10, (eI (0 : Int)))] ?_
  refine bN 0 ?_
  refine cR [(0, (.msl 2 lo0p 0 (List.length aA))), (1, (eI a1)), (2, (eI b2)), (3, (eI n3)), (10, (eI (0 : Int)))] ?_
  refine cG (fun T H => ∃ aA : List aB, ∃ i10 : Int, Has T [(0, (.msl 2 lo0p 0 (List.length aA))), (1, (eI a1)), (2, (eI b2)), (3, (eI n3)), (10, (eI i10))] ∧ aL ⟨H0, [lo0p], []⟩ H [(lo0p, 2, List.map aE aA)] ∧ List.length aA = N0 ∧ kM cmp4 aA a1 b2 n3 i10 = some r) ?_ ⟨aA, (0 : Int), .eq (by kernel_rfl), hO, hN, h0⟩
  clear hO hN h0
  rintro T H ⟨aA, i10, hT, hO, hN, h0⟩
  refine aZ hT ?_
  clear hT
  unfold kM at h0
  obtain ⟨rr0, hl0, h0⟩ := aX h0
  refine bV (by kernel_rfl) (fun (s : List aB × Int) T H => Has T [(0, (.msl 2 lo0p 0 (List.length s.1))), (1, (eI a1)), (2, (eI b2)), (3, (eI n3)), (10, (eI s.2))] ∧ aL ⟨H0, [lo0p], []⟩ H [(lo0p, 2, List.map aE s.1)] ∧ List.length s.1 = N0) hl0 ⟨.eq (by kernel_rfl), hO, hN⟩ ?_
  clear hO hN
  rintro k0 s out1 T H ⟨hT, hO, hN⟩ h1 ho0
  obtain ⟨aA, i10⟩ := s
  replace h1 : kT cmp4 a1 b2 n3 aA i10 = some out1 := h1
  dsimp only at hT
  refine aZ hT ?_
  clear hT
  unfold kT at h1
  refine aO ?_
  refine aU aH 3 [] [(13, (aK (decide (i10 < n3))))] ?_
  refine bF h1 (fun h1 => ?_) (fun h1 => ?_)
  · refine bH ?_
    refine bD [(0, (.msl 2 lo0p 0 (List.length aA))), (1, (eI a1)), (2, (eI b2)), (3, (eI n3)), (10, (eI i10))] ?_
    refine aO ?_
    refine bN 1 ?_
    refine hU (hM []) aH 24 ?_
    obtain ⟨c2, h1⟩ := bA h1
    refine cV 13 [0 ≤ (wR (b2 + i10)) ∧ (wR (b2 + i10)) < (lN aA)] ⟨c2, trivial⟩ ?_
    refine lR 0 lo0p 2 (0 + Int.toNat (wR (b2 + i10))) (aE (gD aA (wR (b2 + i10)))) (aE (gD aA (wR (b2 + i10)))) (List.map aE aA) hO (cM c2) ?_
    obtain ⟨c3, h1⟩ := bA h1
    refine cV 19 [0 ≤ (wR (a1 + i10)) ∧ (wR (a1 + i10)) < (lN aA)] ⟨c3, trivial⟩ ?_
    refine lR 0 lo0p 2 (0 + Int.toNat (wR (a1 + i10))) (aE (gD aA (wR (a1 + i10)))) (aE (gD aA (wR (a1 + i10)))) (List.map aE aA) hO (cM c3) ?_
    obtain ⟨c4, h1⟩ := bA h1
    refine cV 21 [0 ≤ (wR (a1 + i10)) ∧ (wR (a1 + i10)) < (lN aA)] ⟨c4, trivial⟩ ?_
    refine tT 0 lo0p 2 (0 + Int.toNat (wR (a1 + i10))) (aE (gD aA (wR (a1 + i10)))) (aE (gD aA (wR (b2 + i10)))) (List.map aE aA) [(lo0p, 2, List.map aE (List.set aA (Int.toNat (wR (a1 + i10))) (gD aA (wR (b2 + i10)))))] hO (cM c4) (by simp only [List.set, oD]) ?_
    intro H hO
    replace hN : List.length (List.set aA (Int.toNat (wR (a1 + i10))) (gD aA (wR (b2 + i10)))) = N0 := by simpa using hN
    obtain ⟨c5, h1⟩ := bA h1
    refine cV 23 [0 ≤ (wR (b2 + i10)) ∧ (wR (b2 + i10)) < (lN aA)] ⟨c5, trivial⟩ ?_
    refine tT 0 lo0p 2 (0 + Int.toNat (wR (b2 + i10))) (aE (gD (List.set aA (Int.toNat (wR (a1 + i10))) (gD aA (wR (b2 + i10)))) (wR (b2 + i10)))) (aE (gD aA (wR (a1 + i10)))) (List.map aE (List.set aA (Int.toNat (wR (a1 + i10))) (gD aA (wR (b2 + i10))))) [(lo0p, 2, List.map aE (List.set (List.set aA (Int.toNat (wR (a1 + i10))) (gD aA (wR (b2 + i10)))) (Int.toNat (wR (b2 + i10))) (gD aA (wR (a1 + i10)))))] hO (wT c5 (by simp [])) (by simp only [List.set, oD]) ?_
    intro H hO
    replace hN : List.length (List.set (List.set aA (Int.toNat (wR (a1 + i10))) (gD aA (wR (b2 + i10)))) (Int.toNat (wR (b2 + i10))) (gD aA (wR (a1 + i10)))) = N0 := by simpa using hN
    refine AU (by kernel_rfl) ?_
    refine cH (l := [(0, (.msl 2 lo0p 0 (List.length (List.set (List.set aA (Int.toNat (wR (a1 + i10))) (gD aA (wR (b2 + i10)))) (Int.toNat (wR (b2 + i10))) (gD aA (wR (a1 + i10))))))), (1, (eI a1)), (2, (eI b2)), (3, (eI n3)), (10, (eI i10))]) ⟨[(0, (.msl 2 lo0p 0 (List.length aA))), (1, (eI a1)), (2, (eI b2)), (3, (eI n3)), (10, (eI i10))], by kernel_rfl, rfl, ⟨aS.eq (by simp []), aS.refl _, aS.refl _, aS.refl _, aS.refl _, trivial⟩⟩ ?_
    refine aJ (aV (aI (?_)))
    refine aT aH 3 ?_
    refine bB ?_
    exact aJ (aI (⟨rfl, _, (oI h1).symm, .eq (by kernel_rfl), hO, hN⟩))
  refine dG 0 ?_
  obtain rfl := oI h1
  obtain rfl : _ = rr0 := ho0
  replace h0 : some aA = some r := h0
  obtain rfl := oI h0
  exact aJ (aR (aR (bL (rD (x := (.tup [])) (by kernel_rfl) (aS.refl _) ⟨rfl, hO.ext, hO.at 0 (by kernel_rfl), by simp only [List.length_map]; exact hN.trans hN0⟩))))

theorem xD (lo0p : Nat) (aA : (List aB)) (a1 : Int) (m2 : Int) (b3 : Int) (cmp4_f : Nat) (cmp4_a cmp4_c : List V) (cmp4 : aB → aB → Option Int) (cmp4_h : ∀ a0 a1 r, cmp4 a0 a1 = some r → bR Try.prog cmp4_f (cmp4_a ++ [(aE a0), (aE a1)] ++ cmp4_c) (eI r)) (r : List aB) (h0 : lX aA a1 m2 b3 cmp4 = some r) : lF Try.prog 125 lo0p 2 (List.map aE aA) (List.map aE r) [(.msl 2 lo0p 0 (List.length aA)), (eI a1), (eI m2), (eI b3), (.fn (.func cmp4_f) cmp4_a cmp4_c)] (.tup []) := by
  intro H0 hl0
  refine bY Try.func125 ?_
  have hO := aL.pI hl0
  clear hl0
  obtain ⟨N0, hN0⟩ : ∃ n, n = List.length aA := ⟨_, rfl⟩
  have hN : List.length aA = N0 := hN0.symm
  unfold lX at h0
  refine aU aH 4 [1] [(10, (eI (wR (m2 - a1))))] ?_
  refine aU aH 4 [3] [(11, (eI (wR (b3 - m2))))] ?_
  refine cL (fun T H => ∃ aA : List aB, ∃ i10 : Int, Has T [(0, (.msl 2 lo0p 0 (List.length aA))), (2, (eI m2)), (4, (.fn (.func cmp4_f) cmp4_a cmp4_c)), (10, (eI i10))] ∧ aL ⟨H0, [lo0p], []⟩ H [(lo0p, 2, List.map aE aA)] ∧ List.length aA = N0 ∧ iR cmp4 aA m2 i10 = some r) ?_ ?_
  · clear hO hN h0
    rintro T H ⟨aA, i10, hT, hO, hN, h0⟩
    refine aZ hT ?_
    clear hT
    unfold iR at h0
    refine aT aH 8 ?_
    refine bO 7 ?_
    obtain ⟨x1, hx2, h0⟩ := aX h0
    refine oJ [(lo0p, 2, List.map aE x1)] 0 (kU lo0p aA (wR (m2 - i10)) m2 i10 cmp4_f cmp4_a cmp4_c cmp4 cmp4_h _ hx2) hO ?_
    intro H hO hl3
    simp only [List.length_map] at hl3
    replace hN := hl3.trans hN
    refine cU ?_
    refine cH (l := [(0, (.msl 2 lo0p 0 (List.length x1)))]) ⟨[(0, (.msl 2 lo0p 0 (List.length aA)))], by kernel_rfl, rfl, ⟨aS.eq (by simp [hl3]), trivial⟩⟩ ?_
    obtain rfl := oI h0
    exact aJ (rD (x := (.tup [])) (by kernel_rfl) (aS.refl _) ⟨rfl, hO.ext, hO.at 0 (by kernel_rfl), by simp only [List.length_map]; exact hN.trans hN0⟩)
  refine bN 0 ?_
  refine cR [(0, (.msl 2 lo0p 0 (List.length aA))), (2, (eI m2)), (4, (.fn (.func cmp4_f) cmp4_a cmp4_c)), (10, (eI (wR (m2 - a1)))), (11, (eI (wR (b3 - m2))))] ?_
  refine cG (fun T H => ∃ aA : List aB, ∃ i10 : Int, ∃ j11 : Int, Has T [(0, (.msl 2 lo0p 0 (List.length aA))), (2, (eI m2)), (4, (.fn (.func cmp4_f) cmp4_a cmp4_c)), (10, (eI i10)), (11, (eI j11))] ∧ aL ⟨H0, [lo0p], []⟩ H [(lo0p, 2, List.map aE aA)] ∧ List.length aA = N0 ∧ lQ cmp4 aA m2 i10 j11 = some r) ?_ ⟨aA, wR (m2 - a1), wR (b3 - m2), .eq (by kernel_rfl), hO, hN, h0⟩
  clear hO hN h0
  rintro T H ⟨aA, i10, j11, hT, hO, hN, h0⟩
  refine aZ hT ?_
  clear hT
  unfold lQ at h0
  obtain ⟨rr0, hl0, h0⟩ := aX h0
  refine bV (by kernel_rfl) (fun (s : List aB × Int × Int) T H => Has T [(0, (.msl 2 lo0p 0 (List.length s.1))), (2, (eI m2)), (4, (.fn (.func cmp4_f) cmp4_a cmp4_c)), (10, (eI s.2.1)), (11, (eI s.2.2))] ∧ aL ⟨H0, [lo0p], []⟩ H [(lo0p, 2, List.map aE s.1)] ∧ List.length s.1 = N0) hl0 ⟨.eq (by kernel_rfl), hO, hN⟩ ?_
  clear hO hN
  rintro k0 s out1 T H ⟨hT, hO, hN⟩ h1 ho0
  obtain ⟨aA, i10, j11⟩ := s
  replace h1 : lM cmp4 m2 aA i10 j11 = some out1 := h1
  dsimp only at hT
  refine aZ hT ?_
  clear hT
  unfold lM at h1
  refine aO ?_
  refine aU aH 3 [] [(20, (aK (!decide (i10 = j11))))] ?_
  refine bF h1 (fun h1 => ?_) (fun h1 => ?_)
  · refine bH ?_
    refine bD [(0, (.msl 2 lo0p 0 (List.length aA))), (2, (eI m2)), (4, (.fn (.func cmp4_f) cmp4_a cmp4_c)), (10, (eI i10)), (11, (eI j11))] ?_
    refine bN 1 ?_
    refine aU aH 3 [] [(23, (aK (decide (j11 < i10))))] ?_
    refine bF h1 (fun h1 => ?_) (fun h1 => ?_)
    · refine aO ?_
      refine aT aH 8 ?_
      refine bO 7 ?_
      obtain ⟨x6, hx7, h1⟩ := aX h1
      refine oJ [(lo0p, 2, List.map aE x6)] 0 (kU lo0p aA (wR (m2 - i10)) m2 j11 cmp4_f cmp4_a cmp4_c cmp4 cmp4_h _ hx7) hO ?_
      intro H hO hl8
      simp only [List.length_map] at hl8
      replace hN := hl8.trans hN
      refine cU ?_
      refine cH (l := [(0, (.msl 2 lo0p 0 (List.length x6))), (2, (eI m2)), (4, (.fn (.func cmp4_f) cmp4_a cmp4_c)), (10, (eI i10)), (11, (eI j11))]) ⟨[(0, (.msl 2 lo0p 0 (List.length aA))), (2, (eI m2)), (4, (.fn (.func cmp4_f) cmp4_a cmp4_c)), (10, (eI i10)), (11, (eI j11))], by kernel_rfl, rfl, ⟨aS.eq (by simp [hl8]), aS.refl _, aS.refl _, aS.refl _, aS.refl _, trivial⟩⟩ ?_
      refine aJ (aI (?_))
      refine aT aH 4 ?_
      refine bB ?_
      exact aJ (aV (aI (⟨rfl, _, (oI h1).symm, .eq (by kernel_rfl), hO, hN⟩)))
    refine aO ?_
    refine aT aH 12 ?_
    refine bO 11 ?_
    obtain ⟨x9, hx10, h1⟩ := aX h1
    refine oJ [(lo0p, 2, List.map aE x9)] 0 (kU lo0p aA (wR (m2 - i10)) (wR ((wR (m2 + j11)) - i10)) i10 cmp4_f cmp4_a cmp4_c cmp4 cmp4_h _ hx10) hO ?_
    intro H hO hl11
    simp only [List.length_map] at hl11
    replace hN := hl11.trans hN
    refine cU ?_
    refine cH (l := [(0, (.msl 2 lo0p 0 (List.length x9))), (2, (eI m2)), (4, (.fn (.func cmp4_f) cmp4_a cmp4_c)), (10, (eI i10)), (11, (eI j11))]) ⟨[(0, (.msl 2 lo0p 0 (List.length aA))), (2, (eI m2)), (4, (.fn (.func cmp4_f) cmp4_a cmp4_c)), (10, (eI i10)), (11, (eI j11))], by kernel_rfl, rfl, ⟨aS.eq (by simp [hl11]), aS.refl _, aS.refl _, aS.refl _, aS.refl _, trivial⟩⟩ ?_
    refine aJ (aI (?_))
    refine aT aH 4 ?_
    refine bB ?_
    exact aJ (aV (aI (⟨rfl, _, (oI h1).symm, .eq (by kernel_rfl), hO, hN⟩)))
  refine dG 0 ?_
  obtain rfl := oI h1
  obtain rfl : _ = rr0 := ho0
  replace h0 : iR cmp4 aA m2 i10 = some r := h0
  exact aJ (aR (aR (bL (aI (⟨rfl, _, _, .eq (by kernel_rfl), hO, hN, h0⟩)))))

end Go.Abs
namespace Go.Abs
open Go Go.RowKit Go.Proofs
end Go.Abs
