/- What the law LifeSettles stands on: the framework, the given functions as plain functions, their walks, and the plain laws; part 3. -/
import Derived.Test.YtbnnpfncgndidaaLifeSettlesZ2
set_option linter.unusedSimpArgs false
set_option linter.unusedVariables false
namespace Go.Abs
open Go
noncomputable def nW (a0 : (List aF)) (b1 : (List aF)) (i5 : Int) : Option ((Int) ⊕ (Unit ⊕ Bool)) :=
  cond (decide (i5 < ((List.length a0 : Nat) : Int)))
  (bE (0 ≤ i5 ∧ i5 < ((List.length a0 : Nat) : Int)) <|
  bE (0 ≤ i5 ∧ i5 < ((List.length b1 : Nat) : Int)) <|
  cond (!((decide (((List.getD a0 (Int.toNat i5) default).Kind) = ((List.getD b1 (Int.toNat i5) default).Kind))) && ((decide (((List.getD a0 (Int.toNat i5) default).Num) = ((List.getD b1 (Int.toNat i5) default).Num))) && ((mR ((List.getD a0 (Int.toNat i5) default).Text) ((List.getD b1 (Int.toNat i5) default).Text)) && true))))
  (some (.inr (.inr false)))
  (some (.inl (IntKind.i64.wrap (i5 + (1 : Int))))))
  (some (.inr (.inl ())))

noncomputable def tC (a0 : (List aF)) (b1 : (List aF)) (i5 : Int) : Option Bool :=
  (lp (fun s => nW a0 b1 s) i5).bind (Sum.elim (fun rr => pU ) (fun rr => some rr))

noncomputable def rF (a0 : (List aF)) (b1 : (List aF)) : Option Bool :=
  cond (!decide (((List.length a0 : Nat) : Int) = ((List.length b1 : Nat) : Int)))
  (some false)
  (tC a0 b1 (0 : Int))

noncomputable def pW  : Option Bool :=
  some true

noncomputable def oD (a0 : (List aC)) (b1 : (List aC)) (i5 : Int) : Option ((Int) ⊕ (Unit ⊕ Bool)) :=
  cond (decide (i5 < ((List.length a0 : Nat) : Int)))
  (bE (0 ≤ i5 ∧ i5 < ((List.length a0 : Nat) : Int)) <|
  bE (0 ≤ i5 ∧ i5 < ((List.length b1 : Nat) : Int)) <|
  bE ((((!(!decide (((List.getD a0 (Int.toNat i5) default).At) = ((List.getD b1 (Int.toNat i5) default).At))))) = true → 0 ≤ i5 ∧ i5 < ((List.length a0 : Nat) : Int))) <|
  bE ((((!(!decide (((List.getD a0 (Int.toNat i5) default).At) = ((List.getD b1 (Int.toNat i5) default).At))))) = true → 0 ≤ i5 ∧ i5 < ((List.length b1 : Nat) : Int))) <|
  bE ((((!((!decide (((List.getD a0 (Int.toNat i5) default).At) = ((List.getD b1 (Int.toNat i5) default).At))) || (!decide (((List.getD a0 (Int.toNat i5) default).Net) = ((List.getD b1 (Int.toNat i5) default).Net)))))) = true → 0 ≤ i5 ∧ i5 < ((List.length a0 : Nat) : Int))) <|
  bE ((((!((!decide (((List.getD a0 (Int.toNat i5) default).At) = ((List.getD b1 (Int.toNat i5) default).At))) || (!decide (((List.getD a0 (Int.toNat i5) default).Net) = ((List.getD b1 (Int.toNat i5) default).Net)))))) = true → 0 ≤ i5 ∧ i5 < ((List.length b1 : Nat) : Int))) <|
  (eX (!((!decide (((List.getD a0 (Int.toNat i5) default).At) = ((List.getD b1 (Int.toNat i5) default).At))) || (!decide (((List.getD a0 (Int.toNat i5) default).Net) = ((List.getD b1 (Int.toNat i5) default).Net))))) (rF ((List.getD a0 (Int.toNat i5) default).Row) ((List.getD b1 (Int.toNat i5) default).Row))).bind fun x9 =>
  cond (((!decide (((List.getD a0 (Int.toNat i5) default).At) = ((List.getD b1 (Int.toNat i5) default).At))) || (!decide (((List.getD a0 (Int.toNat i5) default).Net) = ((List.getD b1 (Int.toNat i5) default).Net)))) || (!x9))
  (some (.inr (.inr false)))
  (some (.inl (IntKind.i64.wrap (i5 + (1 : Int))))))
  (some (.inr (.inl ())))

noncomputable def sX (a0 : (List aC)) (b1 : (List aC)) (i5 : Int) : Option Bool :=
  (lp (fun s => oD a0 b1 s) i5).bind (Sum.elim (fun rr => pW ) (fun rr => some rr))

noncomputable def mG (a0 : (List aC)) (b1 : (List aC)) : Option Bool :=
  cond (!decide (((List.length a0 : Nat) : Int) = ((List.length b1 : Nat) : Int)))
  (some false)
  (sX a0 b1 (0 : Int))

noncomputable def rP (l0 : (List aC)) (by1 : (List aB) → Option ((List aB) × Int)) : Option ((List aC) × Int) :=
  (rU l0).bind fun x1 =>
  cond (!x1)
  (some ([], (2 : Int)))
  ((nZ l0 by1).bind fun x5 =>
  some (x5.1, x5.2))

noncomputable def pO (out6 : List aB) : Option ((List aB) × Int) :=
  (nB out6).bind fun x12 =>
  some (x12.1, x12.2)

noncomputable def oC (t1 : Int) (out6 : List aB) (v7 : Int) : Option ((List aB) × Int) :=
  cond (!decide (v7 = (0 : Int)))
  (bE ((List.length out6 + List.length ([aB.mk t1 (IntKind.i64.wrap (0 - v7))])) * 16 ≤ 140737488355328 ∧ List.length out6 + List.length ([aB.mk t1 (IntKind.i64.wrap (0 - v7))]) ≤ 9223372036854775807) <|
  pO (out6 ++ ([aB.mk t1 (IntKind.i64.wrap (0 - v7))])))
  (pO out6)

noncomputable def iI (t1 : Int) (t18 : (List aB)) (t19 : Int) (out6 : List aB) (v7 : Int) (t20 : Int) : Option ((List aB × Int × Int) ⊕ ((List aB × Int))) :=
  cond (decide (t20 < t19))
  (bE (0 ≤ t20 ∧ t20 < ((List.length t18 : Nat) : Int)) <|
  cond (decide (t1 ≤ ((List.getD t18 (Int.toNat t20) default).At)))
  (some (.inr (out6, v7)))
  (bE ((List.length out6 + List.length ([List.getD t18 (Int.toNat t20) default])) * 16 ≤ 140737488355328 ∧ List.length out6 + List.length ([List.getD t18 (Int.toNat t20) default]) ≤ 9223372036854775807) <|
  some (.inl (out6 ++ ([List.getD t18 (Int.toNat t20) default]), IntKind.i64.wrap (v7 + ((List.getD t18 (Int.toNat t20) default).Net)), IntKind.i64.wrap (t20 + (1 : Int))))))
  (some (.inr (out6, v7)))

noncomputable def tA (t1 : Int) (out6 : List aB) (v7 : Int) (t18 : (List aB)) (t19 : Int) (t20 : Int) : Option ((List aB) × Int) :=
  (lp (fun s => iI t1 t18 t19 s.1 s.2.1 s.2.2) (out6, v7, t20)).bind (fun rr => oC t1 rr.1 rr.2)

noncomputable def rI (f0 : (List aB)) (t1 : Int) : Option ((List aB) × Int) :=
  (kZ f0).bind fun x1 =>
  cond (!x1)
  (some ([], (2 : Int)))
  (cond (decide ((1125899906842624 : Int) ≤ t1))
  ((bY f0).bind fun x6 =>
  some (x6, (0 : Int)))
  (tA t1 ([] : List aB) (0 : Int) f0 ((List.length f0 : Nat) : Int) (0 : Int)))

noncomputable def nC (f0 : (List aB)) (t1 : Int) : Option ((List aB) × Int) :=
  (rI f0 t1).bind fun x1 =>
  some (x1.1, x1.2)

noncomputable def mC (l0 : (List aC)) (t1 : Int) : Option ((List aC) × Int) :=
  (rP l0 (fun y0 => nC y0 t1)).bind fun x1 =>
  some (x1.1, x1.2)

noncomputable def rH (f0 : (List aB)) (at7 : Int) (out8 : List aB) : Option ((List aB) × Int) :=
  bE (0 ≤ at7 ∧ at7 ≤ ((List.length f0 : Nat) : Int)) <|
  bE ((List.length out8 + List.length (List.drop (Int.toNat at7) f0)) * 16 ≤ 140737488355328 ∧ List.length out8 + List.length (List.drop (Int.toNat at7) f0) ≤ 9223372036854775807) <|
  (nB (out8 ++ (List.drop (Int.toNat at7) f0))).bind fun x18 =>
  some (x18.1, x18.2)

noncomputable def rJ (f0 : (List aB)) (v6 : Int) (at7 : Int) : Option ((List aB) × Int) :=
  cond (!decide (v6 = (0 : Int)))
  (bE (List.length ([aB.mk (-1 : Int) v6]) * 16 ≤ 140737488355328 ∧ List.length ([aB.mk (-1 : Int) v6]) ≤ 9223372036854775807) <|
  rH f0 at7 ([aB.mk (-1 : Int) v6]))
  (rH f0 at7 ([] : List aB))

noncomputable def kD (f0 : (List aB)) (t1 : Int) (v6 : Int) (at7 : Int) : Option ((Int × Int) ⊕ ((Int × Int))) :=
  bE ((((decide (at7 < ((List.length f0 : Nat) : Int)))) = true → 0 ≤ at7 ∧ at7 < ((List.length f0 : Nat) : Int))) <|
  cond ((decide (at7 < ((List.length f0 : Nat) : Int))) && (decide (((List.getD f0 (Int.toNat at7) default).At) < t1)))
  (bE (0 ≤ at7 ∧ at7 < ((List.length f0 : Nat) : Int)) <|
  some (.inl (IntKind.i64.wrap (v6 + ((List.getD f0 (Int.toNat at7) default).Net)), IntKind.i64.wrap (at7 + (1 : Int)))))
  (some (.inr (v6, at7)))

noncomputable def uE (f0 : (List aB)) (t1 : Int) (v6 : Int) (at7 : Int) : Option ((List aB) × Int) :=
  (lp (fun s => kD f0 t1 s.1 s.2) (v6, at7)).bind (fun rr => rJ f0 rr.1 rr.2)

noncomputable def sO (f0 : (List aB)) (t1 : Int) : Option ((List aB) × Int) :=
  (kZ f0).bind fun x1 =>
  cond (!x1)
  (some ([], (2 : Int)))
  (cond (decide ((1125899906842624 : Int) ≤ t1))
  (some ([], (0 : Int)))
  (cond (decide (t1 ≤ (-1 : Int)))
  ((bY f0).bind fun x7 =>
  some (x7, (0 : Int)))
  (uE f0 t1 (0 : Int) (0 : Int))))

noncomputable def nX (f0 : (List aB)) (t1 : Int) : Option ((List aB) × Int) :=
  (sO f0 t1).bind fun x1 =>
  some (x1.1, x1.2)

noncomputable def sL (l0 : (List aC)) (t1 : Int) : Option ((List aC) × Int) :=
  (rP l0 (fun y0 => nX y0 t1)).bind fun x1 =>
  some (x1.1, x1.2)

noncomputable def nK (l0 : (List aC)) (m1 : (List aC)) (d2 : Int) (t3 : Int) : Option Bool :=
  (mC l0 t3).bind fun x1 =>
  (mC m1 t3).bind fun x4 =>
  (eX (!((!decide (x1.2 = (0 : Int))) || (!decide (x4.2 = (0 : Int))))) (mG x1.1 x4.1)).bind fun x7 =>
  cond (((((!decide (x1.2 = (0 : Int))) || (!decide (x4.2 = (0 : Int)))) || (!x7)) || (decide (t3 < (0 : Int)))) || (decide ((1125899906842624 : Int) ≤ t3)))
  ((mJ ).bind fun x11 =>
  some x11)
  ((kV l0 d2 (0 : Int)).bind fun x14 =>
  (kV m1 d2 (0 : Int)).bind fun x17 =>
  cond ((!decide (x14.2 = (0 : Int))) || (!decide (x17.2 = (0 : Int))))
  ((mJ ).bind fun x21 =>
  some x21)
  ((mC x14.1 t3).bind fun x24 =>
  (mC x17.1 t3).bind fun x27 =>
  (eX ((decide (x24.2 = (0 : Int))) && (decide (x27.2 = (0 : Int)))) (mG x24.1 x27.1)).bind fun x30 =>
  cond (((decide (x24.2 = (0 : Int))) && (decide (x27.2 = (0 : Int)))) && (!x30))
  (some false)
  ((sL l0 t3).bind fun x34 =>
  cond (!decide (x34.2 = (0 : Int)))
  ((mJ ).bind fun x38 =>
  some x38)
  ((kV l0 d2 t3).bind fun x41 =>
  (kV x34.1 d2 t3).bind fun x44 =>
  (mJ ).bind fun x47 =>
  (eX x47 (mG x41.1 x44.1)).bind fun x50 =>
  some (x47 && x50)))))

end Go.Abs
namespace Go.Abs
open Go Go.RowKit
def xK (x : aF) : Prop := vE x.Kind ∧ vE x.Num ∧ (fun s => s.size ≤ maxLen) x.Text ∧ True

def oO (x : aC) : Prop := (fun l => (∀ a ∈ l, xK a) ∧ l.length * 32 ≤ 140737488351232) x.Row ∧ vE x.At ∧ vE x.Net ∧ True

end Go.Abs
namespace Go.Abs
open Go Go.RowKit Go.Proofs
noncomputable def tt : TT := ⟨RA Try.prog, LV Try.prog⟩

theorem aG : dP Try.prog tt := dP.of Try.prog

theorem DY (l0 : (List aC)) (r : (List aC)) (h0 : qF l0 = some r) : bU Try.prog 70 [(eL aE l0)] (.fn (.func 104) [] [(.rp (eL aE r))]) := by
  intro H0
  refine cB Try.func70 ?_
  have hO := aN.start H0
  unfold qF at h0
  refine aP ?_
  refine aS aG 2 ?_
  refine kC 1 (eL aE l0) (by kernel_rfl) (by kernel_rfl) ?_
  refine bA ?_
  refine bD [(1, (.rp (eL aE l0)))] ?_
  refine bT aG 2 [(2, (.fn (.func 104) [] [(.rp (eL aE l0))]))] ?_
  refine bG ?_
  obtain rfl := oI h0
  exact aI (oQ (x := (.fn (.func 104) [] [(.rp (eL aE l0))])) (by kernel_rfl) (aR.refl _) ⟨rfl, hO.out⟩)

theorem tI (s10 : (List aF)) (s21 : (List aF)) (r : Bool) (h0 : gN s10 s21 = some r) : bU Try.prog 106 [(eL aM s10), (eL aM s21)] (aJ r) := by
  intro H0
  refine cB Try.func106 ?_
  have hO := aN.start H0
  unfold gN at h0
  refine aT aG 1 [] [] ?_
  refine aP ?_
  refine aT aG 5 [] [(10, (aJ (!decide ((lN s10) = (lN s21)))))] ?_
  refine bH h0 (fun h0 => ?_) (fun h0 => ?_)
  · refine bT aG 1 [(4, (aJ false))] ?_
    refine bG ?_
    obtain rfl := oI h0
    exact aI (aW (Q_r hO))
  refine bK ?_
  refine bD [(0, (eL aM s10)), (1, (eL aM s21))] ?_
  refine dJ (fun T H => Has T [] ∧ aN ⟨H0, [], []⟩ H [] ∧ dM  = some r) ?_ ?_
  · clear hO h0
    rintro T H ⟨hT, hO, h0⟩
    refine aZ hT ?_
    clear hT
    unfold dM at h0
    refine bT aG 1 [(4, (aJ true))] ?_
    refine bG ?_
    obtain rfl := oI h0
    exact aI (Q_r hO)
  refine aT aG 3 [] [(12, (eI (lN s10))), (13, (eI (0 : Int)))] ?_
  refine bR 0 ?_
  refine dQ [(0, (eL aM s10)), (1, (eL aM s21)), (12, (eI (lN s10))), (13, (eI (0 : Int)))] ?_
  refine cV (fun T H => ∃ t12 : Int, ∃ t13 : Int, Has T [(0, (eL aM s10)), (1, (eL aM s21)), (12, (eI t12)), (13, (eI t13))] ∧ aN ⟨H0, [], []⟩ H [] ∧ fQ s10 s21 t12 t13 = some r) ?_ ⟨(lN s10), (0 : Int), .eq (by kernel_rfl), hO, h0⟩
  clear hO h0
  rintro T H ⟨t12, t13, hT, hO, h0⟩
  refine aZ hT ?_
  clear hT
  unfold fQ at h0
  obtain ⟨rr0, hl0, h0⟩ := aV h0
  refine bZ (by kernel_rfl) (fun (s : Int) T H => Has T [(0, (eL aM s10)), (1, (eL aM s21)), (12, (eI t12)), (13, (eI s))] ∧ aN ⟨H0, [], []⟩ H []) hl0 ⟨.eq (by kernel_rfl), hO⟩ ?_
  clear hO
  rintro k0 s out1 T H ⟨hT, hO⟩ h1 ho0
  obtain ⟨t13, rfl⟩ : ∃ x, x = s := ⟨_, rfl⟩
  replace h1 : cR s10 s21 t12 t13 = some out1 := h1
  refine aZ hT ?_
  clear hT
  unfold cR at h1
  refine aT aG 1 [] [(14, (aJ (decide (t13 < t12))))] ?_
  refine aP ?_
  refine bH h1 (fun h1 => ?_) (fun h1 => ?_)
  · refine bK ?_
    refine bD [(0, (eL aM s10)), (1, (eL aM s21)), (12, (eI t12)), (13, (eI t13))] ?_
    refine aP ?_
    refine bR 1 ?_
    refine aT aG 2 [] [(5, (eI t13))] ?_
    refine aP ?_
    refine kE (kA [19, 23]) aG 9 ?_
    obtain ⟨c3, h1⟩ := bF h1
    obtain ⟨c4, h1⟩ := bF h1
    refine KP (Ds := [0 ≤ t13 ∧ t13 < (lN s10), 0 ≤ t13 ∧ t13 < (lN s21)]) (by kernel_rfl) ⟨c3, c4, trivial⟩ ?_
    refine bO [5] [(24, (aJ (!((decide (((gD s10 t13).Kind) = ((gD s21 t13).Kind))) && ((decide (((gD s10 t13).Num) = ((gD s21 t13).Num))) && ((mR ((gD s10 t13).Text) ((gD s21 t13).Text)) && true))))))] ?_
    refine bH h1 (fun h1 => ?_) (fun h1 => ?_)
    · refine bT aG 1 [(4, (aJ false))] ?_
      refine bG ?_
      obtain rfl := oI h1
      obtain rfl : _ = rr0 := ho0
      replace h0 : some false = some r := h0
      obtain rfl := oI h0
      exact aI (bS (aW (aW (bS (aW (Q_r hO))))))
    refine bK ?_
    refine hU [(0, (eL aM s10)), (1, (eL aM s21)), (12, (eI t12)), (13, (eI t13))] ?_
    refine aI (aX (aH (?_)))
    refine aS aG 2 ?_
    refine bA ?_
    exact aI (aH (⟨rfl, _, (oI h1).symm, .eq (by kernel_rfl), hO⟩))
  refine eR 0 ?_
  obtain rfl := oI h1
  obtain rfl : _ = rr0 := ho0
  replace h0 : dM  = some r := h0
  exact aI (aU (aU (bM (aH (⟨rfl, .eq (by kernel_rfl), hO, h0⟩)))))

theorem RM (a0 : (List aF)) (b1 : (List aF)) (r : Bool) (h0 : uP a0 b1 = some r) : bU Try.prog 77 [(eL aM a0), (eL aM b1)] (aJ r) := by
  intro H0
  refine cB Try.func77 ?_
  have hO := aN.start H0
  unfold uP at h0
  refine aT aG 1 [] [] ?_
  refine aP ?_
  refine aS aG 4 ?_
  refine bI 2 ?_
  obtain ⟨x1, hx2, h0⟩ := aV h0
  refine cD (tI a0 b1 _ hx2) hO ?_
  intro H hO
  refine bA ?_
  refine bD [(4, (aJ x1))] ?_
  refine bG ?_
  obtain rfl := oI h0
  exact aI (Q_r hO)

theorem FO (r0 : (List aF)) (r : (List aF)) (h0 : rS r0 = some r) : bU Try.prog 105 [(eL aM r0)] (eL aM r) := by
  intro H0
  refine cB Try.func105 ?_
  have hO := aN.start H0
  unfold rS at h0
  refine aT aG 1 [] [] ?_
  refine aP ?_
  refine aS aG 6 ?_
  refine bI 2 ?_
  obtain ⟨c1, h0⟩ := bF h0
  refine PM 3 32 (lN r0) (by kernel_rfl) (by kernel_rfl) c1 hO ?_
  intro lo2 H hO
  refine bI 4 ?_
  obtain ⟨c4, h0⟩ := bF h0
  refine yU (e := aM) ([] : List aF) r0 0 lo2 3 32 (eL aM r0) (fun lo3 => [(lo3, 3, List.map aM (([] : List aF) ++ r0))]) (by kernel_rfl) (by kernel_rfl) hO (by kernel_rfl) (HS (fun _ => by kernel_rfl)) c4 (fun _ => by kernel_rfl) ?_
  intro lo3 H hO
  refine bA ?_
  refine bD [(2, (.msl 3 lo3 0 (List.length (([] : List aF) ++ r0))))] ?_
  refine bG ?_
  refine hU [(2, (.msl 3 lo3 0 (List.length (([] : List aF) ++ r0))))] ?_
  refine CC (en := aM) (([] : List aF) ++ r0) 0 0 2 3 lo3 (List.length (([] : List aF) ++ r0)) hO (by kernel_rfl) (by kernel_rfl) (by kernel_rfl) (L' := []) (by kernel_rfl) ?_
  intro H5 hO
  obtain rfl := oI h0
  exact aI (Q_r hO)

theorem yG {σ : Type} (I : σ → Gs → Prop) (yield0_b : Nat) (kP : σ → (List aF) → (List aB) → Option (σ × Bool)) (yield0_h : ∀ st a0 a1 st2 r, kP st a0 a1 = some (st2, r) → KN Try.prog (yv yield0_b) I st [(eL aM a0), (eL aD a1)] st2 (aJ r)) (t1 : (List aC)) (sg0 : σ) (r : σ) (h0 : mN kP t1 sg0 = some r) : xU Try.prog 104 I sg0 [(yv yield0_b), (.rp (eL aE t1))] r (.tup []) := by
  intro H0 G0 hI hg
  refine cB Try.func104 ?_
  obtain ⟨G, hO, hI⟩ : ∃ G, aN ⟨H0, List.map (fun p : Nat × cM => p.1) G0, G⟩ H0 [] ∧ I sg0 G := ⟨G0, aN.MI hg, hI⟩
  clear hg
  unfold mN at h0
  refine aT aG 1 [] [(3, (eI (0 : Int)))] ?_
  refine bR 0 ?_
  refine dQ [(0, (yv yield0_b)), (1, (.rp (eL aE t1))), (3, (eI (0 : Int)))] ?_
  refine cV (fun T H => ∃ sg : σ, ∃ i3 : Int, ∃ G : Gs, Has T [(0, (yv yield0_b)), (1, (.rp (eL aE t1))), (3, (eI i3))] ∧ aN ⟨H0, List.map (fun p : Nat × cM => p.1) G0, G⟩ H [] ∧ I sg G ∧ pE kP sg t1 i3 = some r) ?_ ⟨sg0, (0 : Int), G, .eq (by kernel_rfl), hO, hI, h0⟩
  clear hO hI h0
  rintro T H ⟨sg, i3, G, hT, hO, hI, h0⟩
  refine aZ hT ?_
  clear hT
  unfold pE at h0
  obtain ⟨rr0, hl0, h0⟩ := aV h0
  refine bZ (by kernel_rfl) (fun (s : σ × Int) T H => ∃ G : Gs, Has T [(0, (yv yield0_b)), (1, (.rp (eL aE t1))), (3, (eI s.2))] ∧ aN ⟨H0, List.map (fun p : Nat × cM => p.1) G0, G⟩ H [] ∧ I s.1 G) hl0 ⟨G, .eq (by kernel_rfl), hO, hI⟩ ?_
  clear hO hI
  rintro k0 s out1 T H ⟨G, hT, hO, hI⟩ h1 ho0
  obtain ⟨sg, i3⟩ := s
  replace h1 : eS kP t1 sg i3 = some out1 := h1
  dsimp only at hT
  refine aZ hT ?_
  clear hT
  unfold eS at h1
  refine aP ?_
  refine aT aG 4 [] [(9, (aJ (decide (i3 < (lN t1)))))] ?_
  refine bH h1 (fun h1 => ?_) (fun h1 => ?_)
  · refine bK ?_
    refine bD [(0, (yv yield0_b)), (1, (.rp (eL aE t1))), (3, (eI i3))] ?_
    refine bR 1 ?_
    refine aP ?_
    refine aS aG 6 ?_
    obtain ⟨c2, h1⟩ := bF h1
    refine tH [0 ≤ i3 ∧ i3 < (lN t1)] ⟨c2, trivial⟩ ?_
    refine bO [] [(4, (eL aM ((gD t1 i3).Row)))] ?_
    refine aP ?_
    refine aS aG 2 ?_
    refine rX (xs := []) (k := 2) (by kernel_rfl) (by kernel_rfl) ?_
    refine bA ?_
    refine bO [] [(5, (.sl true 0 (fun _ => .bad)))] ?_
    refine dJ (fun T H => ∃ sg : σ, ∃ i3 : Int, ∃ r4 : (List aF), ∃ f5 : List aB, ∃ lo3 : Nat, ∃ G : Gs, Has T [(0, (yv yield0_b)), (1, (.rp (eL aE t1))), (3, (eI i3)), (4, (eL aM r4)), (5, (.msl 2 lo3 0 (List.length f5)))] ∧ aN ⟨H0, List.map (fun p : Nat × cM => p.1) G0, G⟩ H [(lo3, 2, List.map aD f5)] ∧ I sg G ∧ nI kP sg t1 i3 r4 f5 = some out1) ?_ ?_
    · clear hO hI h1
      rintro T H ⟨sg, i3, r4, f5, lo3, G, hT, hO, hI, h1⟩
      refine aZ hT ?_
      clear hT
      unfold nI at h1
      refine aP ?_
      refine aS aG 6 ?_
      refine tU (e := aD) f5 0 5 2 lo3 (List.length f5) [] (by kernel_rfl) hO (by kernel_rfl) (by kernel_rfl) (by kernel_rfl) (by kernel_rfl) ?_
      intro H hO
      refine bI 2 ?_
      obtain ⟨x7, hx8, h1⟩ := aV h1
      refine cD (FO r4 _ hx8) hO ?_
      intro H hO
      refine bI 4 ?_
      obtain ⟨x10, hx11, h1⟩ := aV h1
      refine QM (I := I) (yv yield0_b) [(eL aM x7), (eL aD f5)] (aJ x10.2) (by kernel_rfl) (by kernel_rfl) (yield0_h _ x7 f5 x10.1 x10.2 hx11) hO hI ?_
      intro G H hO hI
      refine bA ?_
      refine bO [4, 5] [(50, (aJ (!x10.2)))] ?_
      refine bH h1 (fun h1 => ?_) (fun h1 => ?_)
      · refine bG ?_
        obtain rfl := oI h1
        obtain rfl : _ = rr0 := ho0
        replace h0 : some x10.1 = some r := h0
        obtain rfl := oI h0
        exact aI (bS (aW (bS (oQ (x := (.tup [])) (by kernel_rfl) (aR.refl _) ⟨rfl, G, hI, hO.NC⟩))))
      refine bK ?_
      exact aI (aX (aH (⟨rfl, _, (oI h1).symm, _, .eq (by kernel_rfl), hO, hI⟩)))
    refine bR 2 ?_
    refine dQ [(0, (yv yield0_b)), (1, (.rp (eL aE t1))), (3, (eI i3)), (4, (eL aM ((gD t1 i3).Row))), (5, (.sl true 0 (fun _ => .bad)))] ?_
    refine NY (el := (fun _ => .bad)) 4 5 2 hO (by kernel_rfl) ?_
    intro lo24 H25 hO
    refine cV (fun T H => ∃ sg : σ, ∃ i3 : Int, ∃ r4 : (List aF), ∃ f5 : List aB, ∃ lo14 : Nat, ∃ G : Gs, Has T [(0, (yv yield0_b)), (1, (.rp (eL aE t1))), (3, (eI i3)), (4, (eL aM r4)), (5, (.msl 2 lo14 0 (List.length f5)))] ∧ aN ⟨H0, List.map (fun p : Nat × cM => p.1) G0, G⟩ H [(lo14, 2, List.map aD f5)] ∧ I sg G ∧ pI kP sg t1 i3 r4 f5 = some out1) ?_ ⟨sg, i3, (gD t1 i3).Row, ([] : List aB), lo24, G, .eq (by kernel_rfl), hO, hI, h1⟩
    clear hO hI h1
    rintro T H ⟨sg, i3, r4, f5, lo14, G, hT, hO, hI, h1⟩
    refine aZ hT ?_
    clear hT
    unfold pI at h1
    obtain ⟨rr1, hl1, h1⟩ := aV h1
    refine bZ (by kernel_rfl) (fun (s : σ × Int × List aB) T H => ∃ lo14 : Nat, ∃ G : Gs, Has T [(0, (yv yield0_b)), (1, (.rp (eL aE t1))), (3, (eI s.2.1)), (4, (eL aM r4)), (5, (.msl 2 lo14 0 (List.length s.2.2)))] ∧ aN ⟨H0, List.map (fun p : Nat × cM => p.1) G0, G⟩ H [(lo14, 2, List.map aD s.2.2)] ∧ I s.1 G) hl1 ⟨lo14, G, .eq (by kernel_rfl), hO, hI⟩ ?_
    clear hO hI
    rintro k1 s out2 T H ⟨lo14, G, hT, hO, hI⟩ h2 ho1
    obtain ⟨sg, i3, f5⟩ := s
    replace h2 : gO kP t1 r4 sg i3 f5 = some out2 := h2
    dsimp only at hT
    refine aZ hT ?_
    clear hT
    unfold gO at h2
    refine aP ?_
    refine aP ?_
    refine aS aG 13 ?_
    obtain ⟨c15, h2⟩ := bF h2
    refine wE 11 [(((decide (i3 < (lN t1)))) = true → 0 ≤ i3 ∧ i3 < (lN t1))] ⟨c15, trivial⟩ ?_
    obtain ⟨x16, hx17, h2⟩ := aV h2
    refine oT [(20, true)] 77 [(eL aM ((gD t1 i3).Row)), (eL aM r4)] (aJ x16) (decide (i3 < (lN t1))) (by kernel_rfl) (by kernel_rfl) (by kernel_rfl) (fun hb18 => (RM ((gD t1 i3).Row) r4 _ (pX hx17 hb18))) hO ?_
    intro H hO
    refine bA ?_
    refine bO [] [(28, (aJ ((decide (i3 < (lN t1))) && x16)))] ?_
    refine bH h2 (fun h2 => ?_) (fun h2 => ?_)
    · refine bK ?_
      refine bD [(0, (yv yield0_b)), (1, (.rp (eL aE t1))), (3, (eI i3)), (4, (eL aM r4)), (5, (.msl 2 lo14 0 (List.length f5)))] ?_
      refine aP ?_
      refine bR 3 ?_
      refine kE (kA [32, 36, 37, 41]) aG 15 ?_
      obtain ⟨c20, h2⟩ := bF h2
      obtain ⟨c21, h2⟩ := bF h2
      refine cT 12 [0 ≤ i3 ∧ i3 < (lN t1), 0 ≤ i3 ∧ i3 < (lN t1)] ⟨c20, c21, trivial⟩ ?_
      refine KV (xs := [(aD (aB.mk ((gD t1 i3).At) ((gD t1 i3).Net)))]) (k := 2) (by kernel_rfl) (by kernel_rfl) ?_
      obtain ⟨c23, h2⟩ := bF h2
      refine HX (e := aD) f5 ([aB.mk ((gD t1 i3).At) ((gD t1 i3).Net)]) 0 lo14 2 16 (kM [(aD (aB.mk ((gD t1 i3).At) ((gD t1 i3).Net)))]) (fun lo22 => [(lo22, 2, List.map aD (f5 ++ ([aB.mk ((gD t1 i3).At) ((gD t1 i3).Net)])))]) (by kernel_rfl) (by kernel_rfl) hO (by kernel_rfl) (by kernel_rfl) c23 (fun _ => by kernel_rfl) ?_
      intro lo22 H hO
      refine nO ?_
      refine hU [(0, (yv yield0_b)), (1, (.rp (eL aE t1))), (3, (eI i3)), (4, (eL aM r4)), (5, (.msl 2 lo22 0 (List.length (f5 ++ ([aB.mk ((gD t1 i3).At) ((gD t1 i3).Net)])))))] ?_
      refine aI (aX (aH (?_)))
      refine aS aG 3 ?_
      refine bA ?_
      exact aI (aH (⟨rfl, _, (oI h2).symm, _, _, .eq (by kernel_rfl), hO, hI⟩))
    refine eR 2 ?_
    obtain rfl := oI h2
    obtain rfl : _ = rr1 := ho1
    replace h1 : nI kP sg t1 i3 r4 f5 = some out1 := h1
    exact aI (aU (aU (bM (aH (⟨rfl, _, _, _, _, _, _, .eq (by kernel_rfl), hO, hI, h1⟩)))))
  refine eR 0 ?_
  obtain rfl := oI h1
  obtain rfl : _ = rr0 := ho0
  replace h0 : some sg = some r := h0
  obtain rfl := oI h0
  exact aI (aU (aU (bM (pK (x := (.tup [])) (by kernel_rfl) (aR.refl _) ⟨rfl, G, hI, hO.NC⟩))))

theorem rG (s0 : (List aF)) (f1_f : Nat) (f1_a f1_c : List V) (f1 : aF → Option Bool) (f1_h : ∀ a0 r, f1 a0 = some r → bU Try.prog f1_f (f1_a ++ [(aM a0)] ++ f1_c) (aJ r)) (r : Int) (h0 : eP s0 f1 = some r) : bU Try.prog 91 [(eL aM s0), (.fn (.func f1_f) f1_a f1_c)] (eI r) := by
  intro H0
  refine cB Try.func91 ?_
  have hO := aN.start H0
  unfold eP at h0
  refine aT aG 1 [] [] ?_
  refine dJ (fun T H => Has T [] ∧ aN ⟨H0, [], []⟩ H [] ∧ cX f1  = some r) ?_ ?_
  · clear hO h0
    rintro T H ⟨hT, hO, h0⟩
    refine aZ hT ?_
    clear hT
    unfold cX at h0
    refine bT aG 1 [(4, (eI (-1 : Int)))] ?_
    refine bG ?_
    obtain rfl := oI h0
    exact aI (Q_r hO)
  refine aT aG 3 [] [(7, (eI (lN s0))), (8, (eI (0 : Int)))] ?_
  refine bR 0 ?_
  refine dQ [(0, (eL aM s0)), (1, (.fn (.func f1_f) f1_a f1_c)), (7, (eI (lN s0))), (8, (eI (0 : Int)))] ?_
  refine cV (fun T H => ∃ t7 : Int, ∃ t8 : Int, Has T [(0, (eL aM s0)), (1, (.fn (.func f1_f) f1_a f1_c)), (7, (eI t7)), (8, (eI t8))] ∧ aN ⟨H0, [], []⟩ H [] ∧ eK f1 s0 t7 t8 = some r) ?_ ⟨(lN s0), (0 : Int), .eq (by kernel_rfl), hO, h0⟩
  clear hO h0
  rintro T H ⟨t7, t8, hT, hO, h0⟩
  refine aZ hT ?_
  clear hT
  unfold eK at h0
  obtain ⟨rr0, hl0, h0⟩ := aV h0
  refine bZ (by kernel_rfl) (fun (s : Int) T H => Has T [(0, (eL aM s0)), (1, (.fn (.func f1_f) f1_a f1_c)), (7, (eI t7)), (8, (eI s))] ∧ aN ⟨H0, [], []⟩ H []) hl0 ⟨.eq (by kernel_rfl), hO⟩ ?_
  clear hO
  rintro k0 s out1 T H ⟨hT, hO⟩ h1 ho0
  obtain ⟨t8, rfl⟩ : ∃ x, x = s := ⟨_, rfl⟩
  replace h1 : eF f1 s0 t7 t8 = some out1 := h1
  refine aZ hT ?_
  clear hT
  unfold eF at h1
  refine aT aG 1 [] [(9, (aJ (decide (t8 < t7))))] ?_
  refine aP ?_
  refine bH h1 (fun h1 => ?_) (fun h1 => ?_)
  · refine bK ?_
    refine bD [(0, (eL aM s0)), (1, (.fn (.func f1_f) f1_a f1_c)), (7, (eI t7)), (8, (eI t8))] ?_
    refine aP ?_
    refine bR 1 ?_
    refine aT aG 2 [] [(5, (eI t8))] ?_
    refine aP ?_
    refine aS aG 6 ?_
    obtain ⟨c2, h1⟩ := bF h1
    refine wE 5 [0 ≤ t8 ∧ t8 < (lN s0)] ⟨c2, trivial⟩ ?_
    obtain ⟨x3, hx4, h1⟩ := aV h1
    refine cD (f1_h (gD s0 t8) _ hx4) hO ?_
    intro H hO
    refine cQ ?_
    refine bO [] [(16, (aJ x3))] ?_
    refine bH h1 (fun h1 => ?_) (fun h1 => ?_)
    · refine bT aG 2 [(4, (eI t8))] ?_
      refine bG ?_
      obtain rfl := oI h1
      obtain rfl : _ = rr0 := ho0
      replace h0 : some t8 = some r := h0
      obtain rfl := oI h0
      exact aI (bS (aW (aW (bS (aW (Q_r hO))))))
    refine bK ?_
    refine hU [(0, (eL aM s0)), (1, (.fn (.func f1_f) f1_a f1_c)), (7, (eI t7)), (8, (eI t8))] ?_
    refine aI (aX (aH (?_)))
    refine aS aG 2 ?_
    refine bA ?_
    exact aI (aH (⟨rfl, _, (oI h1).symm, .eq (by kernel_rfl), hO⟩))
  refine eR 0 ?_
  obtain rfl := oI h1
  obtain rfl : _ = rr0 := ho0
  replace h0 : cX f1  = some r := h0
  exact aI (aU (aU (bM (aH (⟨rfl, .eq (by kernel_rfl), hO, h0⟩)))))

theorem pR (s0 : (List aF)) (f1_f : Nat) (f1_a f1_c : List V) (f1 : aF → Option Bool) (f1_h : ∀ a0 r, f1 a0 = some r → bU Try.prog f1_f (f1_a ++ [(aM a0)] ++ f1_c) (aJ r)) (r : Bool) (h0 : cO s0 f1 = some r) : bU Try.prog 87 [(eL aM s0), (.fn (.func f1_f) f1_a f1_c)] (aJ r) := by
  intro H0
  refine cB Try.func87 ?_
  have hO := aN.start H0
  unfold cO at h0
  refine aT aG 1 [] [] ?_
  refine aP ?_
  refine aS aG 5 ?_
  refine bI 2 ?_
  obtain ⟨x1, hx2, h0⟩ := aV h0
  refine cD (rG s0 f1_f f1_a f1_c f1 f1_h _ hx2) hO ?_
  intro H hO
  refine bA ?_
  refine bD [(4, (aJ (decide ((0 : Int) ≤ x1))))] ?_
  refine bG ?_
  obtain rfl := oI h0
  exact aI (Q_r hO)

theorem uN (v0 : aF) (r : (bB × Bool)) (h0 : kF v0 = some r) : bU Try.prog 111 [(aM v0)] (.tup [(aY r.1), (aJ r.2)]) := by
  intro H0
  refine cB Try.func111 ?_
  have hO := aN.start H0
  unfold kF at h0
  refine aP ?_
  refine aS aG 3 ?_
  refine kC 3 (aM v0) (by kernel_rfl) (by kernel_rfl) ?_
  refine bA ?_
  refine bD [(1, (.rp (aM v0)))] ?_
  refine aP ?_
  refine bR 0 ?_
  refine aT aG 9 [] [(4, (aJ ((decide (v0.Kind = (1 : Int))) && (mR v0.Text (⟨#[]⟩ : ByteArray)))))] ?_
  refine bH h0 (fun h0 => ?_) (fun h0 => ?_)
  · refine bT aG 5 [(2, (aY (bB.k_number v0.Num))), (3, (aJ true))] ?_
    refine bG ?_
    obtain rfl := oI h0
    exact aI (bS (aW (Q_r hO)))
  refine aT aG 15 [4] [(16, (aJ (((decide (v0.Kind = (2 : Int))) && (decide (v0.Num = (0 : Int)))) && (decide (((ByteArray.size v0.Text : Nat) : Int) ≤ (64 : Int))))))] ?_
  refine bH h0 (fun h0 => ?_) (fun h0 => ?_)
  · refine bT aG 5 [(2, (aY (bB.k_words v0.Text))), (3, (aJ true))] ?_
    refine bG ?_
    obtain rfl := oI h0
    exact aI (bS (aW (Q_r hO)))
  refine bK ?_
  refine hU [] ?_
  refine aI (aX (aH (?_)))
  refine bT aG 2 [(2, (aY bB.none_)), (3, (aJ false))] ?_
  refine bG ?_
  obtain rfl := oI h0
  exact aI (Q_r hO)

theorem PI (v0 : aF) (r : Bool) (h0 : sP v0 = some r) : bU Try.prog 89 [(aM v0)] (aJ r) := by
  intro H0
  refine cB Try.func89 ?_
  have hO := aN.start H0
  unfold sP at h0
  refine aP ?_
  refine aS aG 2 ?_
  refine kC 3 (aM v0) (by kernel_rfl) (by kernel_rfl) ?_
  refine bA ?_
  refine bD [(1, (.rp (aM v0)))] ?_
  refine aP ?_
  refine aS aG 7 ?_
  refine bI 1 ?_
  obtain ⟨⟨x1_0, x1_1⟩, hx2, h0⟩ := aV h0
  refine cD (uN v0 _ hx2) hO ?_
  intro H hO
  rcases x1_0 with _ | y4 | y5
  · replace h0 : (some x1_1) = some r := h0
    refine bA ?_
    refine bD [(4, (aJ x1_1))] ?_
    refine bT aG 2 [(2, (aJ x1_1))] ?_
    refine bG ?_
    obtain rfl := oI h0
    exact aI (Q_r hO)
  · replace h0 : (some x1_1) = some r := h0
    refine bA ?_
    refine bD [(4, (aJ x1_1))] ?_
    refine bT aG 2 [(2, (aJ x1_1))] ?_
    refine bG ?_
    obtain rfl := oI h0
    exact aI (Q_r hO)
  · replace h0 : (some x1_1) = some r := h0
    refine bA ?_
    refine bD [(4, (aJ x1_1))] ?_
    refine bT aG 2 [(2, (aJ x1_1))] ?_
    refine bG ?_
    obtain rfl := oI h0
    exact aI (Q_r hO)

theorem PA (v0 : aF) (r : Bool) (h0 : sK v0 = some r) : bU Try.prog 88 [(aM v0)] (aJ r) := by
  intro H0
  refine cB Try.func88 ?_
  have hO := aN.start H0
  unfold sK at h0
  refine aP ?_
  refine aS aG 2 ?_
  refine kC 3 (aM v0) (by kernel_rfl) (by kernel_rfl) ?_
  refine bA ?_
  refine bD [(1, (.rp (aM v0)))] ?_
  refine aP ?_
  refine aS aG 4 ?_
  refine bI 1 ?_
  obtain ⟨x1, hx2, h0⟩ := aV h0
  refine cD (PI v0 _ hx2) hO ?_
  intro H hO
  refine bA ?_
  refine bD [(2, (aJ (!x1)))] ?_
  refine bG ?_
  obtain rfl := oI h0
  exact aI (Q_r hO)

theorem xZ (r0 : (List aF)) (r : Bool) (h0 : oY r0 = some r) : bU Try.prog 55 [(eL aM r0)] (aJ r) := by
  intro H0
  refine cB Try.func55 ?_
  have hO := aN.start H0
  unfold oY at h0
  refine aT aG 1 [] [] ?_
  refine aP ?_
  refine aT aG 3 [] [(5, (aJ (decide ((8 : Int) < (lN r0)))))] ?_
  refine bH h0 (fun h0 => ?_) (fun h0 => ?_)
  · refine bT aG 1 [(2, (aJ false))] ?_
    refine bG ?_
    obtain rfl := oI h0
    exact aI (aW (Q_r hO))
  refine bK ?_
  refine bD [(0, (eL aM r0))] ?_
  refine aP ?_
  refine aS aG 4 ?_
  refine bI 1 ?_
  obtain ⟨x2, hx3, h0⟩ := aV h0
  refine cD (pR r0 88 [] [] (fun y0 => sK y0) (fun y0 r h => PA y0 r h) _ hx3) hO ?_
  intro H hO
  refine bA ?_
  refine bD [(2, (aJ (!x2)))] ?_
  refine bG ?_
  obtain rfl := oI h0
  exact aI (Q_r hO)

theorem GX (t0 : (List aF)) (r : (Int × (List aF))) (h0 : qO t0 = some r) : wL Try.prog 92 [(.rp (eL aM t0))] (fun lo => (.fn (.func 93) [] [(.lp lo 0 0), (.rp (eL aM r.2))])) 1 [(eI r.1)] := by
  intro H0
  refine cB Try.func92 ?_
  have hO := aN.start H0
  unfold qO at h0
  refine aT aG 1 [] [] ?_
  refine aP ?_
  refine aS aG 2 ?_
  refine pL 1 (eI 0) (by kernel_rfl) (by kernel_rfl) hO ?_
  intro lo1 H hO
  refine nN 0 lo1 1 0 (eI 0) (eI (-1 : Int)) [(eI 0)] [(lo1, 1, [(eI (-1 : Int))])] hO rfl (by kernel_rfl) ?_
  intro H hO
  refine cQ ?_
  refine bO [] [(2, (.lp lo1 0 0))] ?_
  refine bT aG 2 [(1, (.fn (.func 93) [] [(.lp lo1 0 0), (.rp (eL aM t0))]))] ?_
  refine bG ?_
  obtain rfl := oI h0
  exact aI (oQ (x := (.fn (.func 93) [] [(.lp lo1 0 0), (.rp (eL aM t0))])) (by kernel_rfl) (aR.refl _) ⟨lo1, rfl, hO⟩)

theorem qL {σ : Type} (I : σ → Gs → Prop) (s0 : (List aF)) (f1_v : V) (f1 : σ → aF → Option (σ × Bool)) (f1_h : ∀ st a0 st2 r, f1 st a0 = some (st2, r) → KN Try.prog f1_v I st [(aM a0)] st2 (aJ r)) (sg0 : σ) (r : (σ × Int)) (h0 : eA s0 f1 sg0 = some r) : xU Try.prog 91 I sg0 [(eL aM s0), f1_v] r.1 (eI r.2) := by
  intro H0 G0 hI hg
  refine cB Try.func91 ?_
  obtain ⟨G, hO, hI⟩ : ∃ G, aN ⟨H0, List.map (fun p : Nat × cM => p.1) G0, G⟩ H0 [] ∧ I sg0 G := ⟨G0, aN.MI hg, hI⟩
  clear hg
  unfold eA at h0
  refine aT aG 1 [] [] ?_
  refine dJ (fun T H => ∃ sg : σ, ∃ G : Gs, Has T [] ∧ aN ⟨H0, List.map (fun p : Nat × cM => p.1) G0, G⟩ H [] ∧ I sg G ∧ cP f1 sg = some r) ?_ ?_
  · clear hO hI h0
    rintro T H ⟨sg, G, hT, hO, hI, h0⟩
    refine aZ hT ?_
    clear hT
    unfold cP at h0
    refine bT aG 1 [(4, (eI (-1 : Int)))] ?_
    refine bG ?_
    obtain rfl := oI h0
    exact aI (oQ (x := (eI (-1 : Int))) (by kernel_rfl) (aR.refl _) ⟨rfl, G, hI, hO.NC⟩)
  refine aT aG 3 [] [(7, (eI (lN s0))), (8, (eI (0 : Int)))] ?_
  refine bR 0 ?_
  refine dQ [(0, (eL aM s0)), (1, f1_v), (7, (eI (lN s0))), (8, (eI (0 : Int)))] ?_
  refine cV (fun T H => ∃ sg : σ, ∃ t7 : Int, ∃ t8 : Int, ∃ G : Gs, Has T [(0, (eL aM s0)), (1, f1_v), (7, (eI t7)), (8, (eI t8))] ∧ aN ⟨H0, List.map (fun p : Nat × cM => p.1) G0, G⟩ H [] ∧ I sg G ∧ dS f1 sg s0 t7 t8 = some r) ?_ ⟨sg0, (lN s0), (0 : Int), G, .eq (by kernel_rfl), hO, hI, h0⟩
  clear hO hI h0
  rintro T H ⟨sg, t7, t8, G, hT, hO, hI, h0⟩
  refine aZ hT ?_
  clear hT
  unfold dS at h0
  obtain ⟨rr0, hl0, h0⟩ := aV h0
  refine bZ (by kernel_rfl) (fun (s : σ × Int) T H => ∃ G : Gs, Has T [(0, (eL aM s0)), (1, f1_v), (7, (eI t7)), (8, (eI s.2))] ∧ aN ⟨H0, List.map (fun p : Nat × cM => p.1) G0, G⟩ H [] ∧ I s.1 G) hl0 ⟨G, .eq (by kernel_rfl), hO, hI⟩ ?_
  clear hO hI
  rintro k0 s out1 T H ⟨G, hT, hO, hI⟩ h1 ho0
  obtain ⟨sg, t8⟩ := s
  replace h1 : bP f1 s0 t7 sg t8 = some out1 := h1
  dsimp only at hT
  refine aZ hT ?_
  clear hT
  unfold bP at h1
  refine aT aG 1 [] [(9, (aJ (decide (t8 < t7))))] ?_
  refine aP ?_
  refine bH h1 (fun h1 => ?_) (fun h1 => ?_)
  · refine bK ?_
    refine bD [(0, (eL aM s0)), (1, f1_v), (7, (eI t7)), (8, (eI t8))] ?_
    refine aP ?_
    refine bR 1 ?_
    refine aT aG 2 [] [(5, (eI t8))] ?_
    refine aP ?_
    refine aS aG 6 ?_
    obtain ⟨c2, h1⟩ := bF h1
    refine wE 5 [0 ≤ t8 ∧ t8 < (lN s0)] ⟨c2, trivial⟩ ?_
    obtain ⟨x3, hx4, h1⟩ := aV h1
    refine QM (I := I) f1_v [(aM (gD s0 t8))] (aJ x3.2) (by kernel_rfl) (by kernel_rfl) (f1_h _ (gD s0 t8) x3.1 x3.2 hx4) hO hI ?_
    intro G H hO hI
    refine cQ ?_
    refine bO [] [(16, (aJ x3.2))] ?_
    refine bH h1 (fun h1 => ?_) (fun h1 => ?_)
    · refine bT aG 2 [(4, (eI t8))] ?_
      refine bG ?_
      obtain rfl := oI h1
      obtain rfl : _ = rr0 := ho0
      replace h0 : some (x3.1, t8) = some r := h0
      obtain rfl := oI h0
      exact aI (bS (aW (aW (bS (aW (oQ (x := (eI t8)) (by kernel_rfl) (aR.refl _) ⟨rfl, G, hI, hO.NC⟩))))))
    refine bK ?_
    refine hU [(0, (eL aM s0)), (1, f1_v), (7, (eI t7)), (8, (eI t8))] ?_
    refine aI (aX (aH (?_)))
    refine aS aG 2 ?_
    refine bA ?_
    exact aI (aH (⟨rfl, _, (oI h1).symm, _, .eq (by kernel_rfl), hO, hI⟩))
  refine eR 0 ?_
  obtain rfl := oI h1
  obtain rfl : _ = rr0 := ho0
  replace h0 : cP f1 sg = some r := h0
  exact aI (aU (aU (bM (aH (⟨rfl, _, _, .eq (by kernel_rfl), hO, hI, h0⟩)))))

theorem DP (v0 : aF) (lo1p : Nat) (t1 : Int) (t2 : (List aF)) (r : (Bool × Int)) (h0 : gZ v0 t1 t2 = some r) : jX Try.prog 93 lo1p 1 [(eI t1)] [(eI r.2)] [(aM v0), (.lp lo1p 0 0), (.rp (eL aM t2))] (aJ r.1) := by
  intro H0 hl0
  refine cB Try.func93 ?_
  have hO := aN.oJ hl0
  clear hl0
  unfold gZ at h0
  refine aP ?_
  refine aS aG 2 ?_
  refine kC 3 (aM v0) (by kernel_rfl) (by kernel_rfl) ?_
  refine bA ?_
  refine bO [0] [(3, (.rp (aM v0)))] ?_
  refine aP ?_
  refine aS aG 3 ?_
  refine uD 0 lo1p 1 0 (eI t1) (eI t1) [(eI t1)] hO rfl ?_
  refine bI 2 ?_
  refine nN 0 lo1p 1 0 (eI t1) (eI (wR (t1 + (1 : Int)))) [(eI t1)] [(lo1p, 1, [(eI (wR (t1 + (1 : Int))))])] hO rfl (by kernel_rfl) ?_
  intro H hO
  refine cQ ?_
  refine bO [] [] ?_
  refine aP ?_
  refine kE (kA [7, 8, 11]) aG 7 ?_
  refine tZ 2 ?_
  refine kG 0 lo1p 1 0 (eI (wR (t1 + (1 : Int)))) (eI (wR (t1 + (1 : Int)))) [(eI (wR (t1 + (1 : Int))))] hO rfl ?_
  obtain ⟨c1, h0⟩ := bF h0
  refine KP (Ds := [0 ≤ (wR (t1 + (1 : Int))) ∧ (wR (t1 + (1 : Int))) < (lN t2)]) (by kernel_rfl) ⟨c1, trivial⟩ ?_
  refine bD [(1, (.lp lo1p 0 0)), (4, (aJ (!((decide (v0.Kind = ((gD t2 (wR (t1 + (1 : Int)))).Kind))) && ((decide (v0.Num = ((gD t2 (wR (t1 + (1 : Int)))).Num))) && ((mR v0.Text ((gD t2 (wR (t1 + (1 : Int)))).Text)) && true))))))] ?_
  refine bG ?_
  obtain rfl := oI h0
  exact aI (oQ (x := (aJ (!((decide (v0.Kind = ((gD t2 (wR (t1 + (1 : Int)))).Kind))) && ((decide (v0.Num = ((gD t2 (wR (t1 + (1 : Int)))).Num))) && ((mR v0.Text ((gD t2 (wR (t1 + (1 : Int)))).Text)) && true)))))) (by kernel_rfl) (aR.refl _) ⟨rfl, hO.ext, hO.at 0 (by kernel_rfl), rfl⟩)

theorem yE (x0 : Int) (r : Bool) (h0 : mK x0 = some r) : bU Try.prog 95 [(eI x0)] (aJ r) := by
  intro H0
  refine cB Try.func95 ?_
  have hO := aN.start H0
  unfold mK at h0
  refine aT aG 1 [] [] ?_
  refine bT aG 4 [(2, (aJ (!decide (x0 = x0))))] ?_
  refine bG ?_
  obtain rfl := oI h0
  exact aI (Q_r hO)

theorem sE (x0 : Int) (y1 : Int) (r : Int) (h0 : hM x0 y1 = some r) : bU Try.prog 62 [(eI x0), (eI y1)] (eI r) := by
  intro H0
  refine cB Try.func62 ?_
  have hO := aN.start H0
  unfold hM at h0
  refine aT aG 1 [] [] ?_
  refine aP ?_
  refine aS aG 3 ?_
  refine bI 1 ?_
  obtain ⟨x1, hx2, h0⟩ := aV h0
  refine cD (yE x0 _ hx2) hO ?_
  intro H hO
  refine bA ?_
  refine bO [] [(5, (aJ x1))] ?_
  refine aP ?_
  refine aS aG 3 ?_
  refine bI 1 ?_
  obtain ⟨x4, hx5, h0⟩ := aV h0
  refine cD (yE y1 _ hx5) hO ?_
  intro H hO
  refine bA ?_
  refine bO [] [(6, (aJ x4))] ?_
  refine aP ?_
  refine aT aG 1 [5] [(11, (aJ x1))] ?_
  refine bH h0 (fun h0 => ?_) (fun h0 => ?_)
  · refine aP ?_
    refine bT aG 1 [(12, (aJ x4))] ?_
    refine bH h0 (fun h0 => ?_) (fun h0 => ?_)
    · refine bT aG 1 [(4, (eI (0 : Int)))] ?_
      refine bG ?_
      obtain rfl := oI h0
      exact aI (aW (aW (Q_r hO)))
    refine bK ?_
    refine bD [] ?_
    refine bT aG 1 [(4, (eI (-1 : Int)))] ?_
    refine bG ?_
    obtain rfl := oI h0
    exact aI (aW (Q_r hO))
  refine bK ?_
  refine bD [(0, (eI x0)), (1, (eI y1)), (6, (aJ x4))] ?_
  refine aP ?_
  refine aT aG 1 [6] [(13, (aJ x4))] ?_
  refine bH h0 (fun h0 => ?_) (fun h0 => ?_)
  · refine bT aG 1 [(4, (eI (1 : Int)))] ?_
    refine bG ?_
    obtain rfl := oI h0
    exact aI (aW (Q_r hO))
  refine bK ?_
  refine bD [(0, (eI x0)), (1, (eI y1))] ?_
  refine aP ?_
  refine aT aG 3 [] [(16, (aJ (decide (x0 < y1))))] ?_
  refine bH h0 (fun h0 => ?_) (fun h0 => ?_)
  · refine bT aG 1 [(4, (eI (-1 : Int)))] ?_
    refine bG ?_
    obtain rfl := oI h0
    exact aI (aW (Q_r hO))
  refine bK ?_
  refine bD [(0, (eI x0)), (1, (eI y1))] ?_
  refine aP ?_
  refine bT aG 3 [(19, (aJ (decide (y1 < x0))))] ?_
  refine bH h0 (fun h0 => ?_) (fun h0 => ?_)
  · refine bT aG 1 [(4, (eI (1 : Int)))] ?_
    refine bG ?_
    obtain rfl := oI h0
    exact aI (aW (Q_r hO))
  refine bK ?_
  refine bD [] ?_
  refine bT aG 1 [(4, (eI (0 : Int)))] ?_
  refine bG ?_
  obtain rfl := oI h0
  exact aI (Q_r hO)

theorem qS (x0 : Int) (r : Bool) (h0 : iG x0 = some r) : bU Try.prog 119 [(eI x0)] (aJ r) := by
  intro H0
  refine cB Try.func119 ?_
  have hO := aN.start H0
  unfold iG at h0
  refine aT aG 1 [] [] ?_
  refine bT aG 4 [(2, (aJ (!decide (x0 = x0))))] ?_
  refine bG ?_
  obtain rfl := oI h0
  exact aI (Q_r hO)

theorem wF (x0 : Int) (y1 : Int) (r : Int) (h0 : dH x0 y1 = some r) : bU Try.prog 114 [(eI x0), (eI y1)] (eI r) := by
  intro H0
  refine cB Try.func114 ?_
  have hO := aN.start H0
  unfold dH at h0
  refine aT aG 1 [] [] ?_
  refine aP ?_
  refine aS aG 3 ?_
  refine bI 1 ?_
  obtain ⟨x1, hx2, h0⟩ := aV h0
  refine cD (qS x0 _ hx2) hO ?_
  intro H hO
  refine bA ?_
  refine bO [] [(5, (aJ x1))] ?_
  refine aP ?_
  refine aS aG 3 ?_
  refine bI 1 ?_
  obtain ⟨x4, hx5, h0⟩ := aV h0
  refine cD (qS y1 _ hx5) hO ?_
  intro H hO
  refine bA ?_
  refine bO [] [(6, (aJ x4))] ?_
  refine aP ?_
  refine aT aG 1 [5] [(11, (aJ x1))] ?_
  refine bH h0 (fun h0 => ?_) (fun h0 => ?_)
  · refine aP ?_
    refine bT aG 1 [(12, (aJ x4))] ?_
    refine bH h0 (fun h0 => ?_) (fun h0 => ?_)
    · refine bT aG 1 [(4, (eI (0 : Int)))] ?_
      refine bG ?_
      obtain rfl := oI h0
      exact aI (aW (aW (Q_r hO)))
    refine bK ?_
    refine bD [] ?_
    refine bT aG 1 [(4, (eI (-1 : Int)))] ?_
    refine bG ?_
    obtain rfl := oI h0
    exact aI (aW (Q_r hO))
  refine bK ?_
  refine bD [(0, (eI x0)), (1, (eI y1)), (6, (aJ x4))] ?_
  refine aP ?_
  refine aT aG 1 [6] [(13, (aJ x4))] ?_
  refine bH h0 (fun h0 => ?_) (fun h0 => ?_)
  · refine bT aG 1 [(4, (eI (1 : Int)))] ?_
    refine bG ?_
    obtain rfl := oI h0
    exact aI (aW (Q_r hO))
  refine bK ?_
  refine bD [(0, (eI x0)), (1, (eI y1))] ?_
  refine aP ?_
  refine aT aG 3 [] [(16, (aJ (decide (x0 < y1))))] ?_
  refine bH h0 (fun h0 => ?_) (fun h0 => ?_)
  · refine bT aG 1 [(4, (eI (-1 : Int)))] ?_
    refine bG ?_
    obtain rfl := oI h0
    exact aI (aW (Q_r hO))
  refine bK ?_
  refine bD [(0, (eI x0)), (1, (eI y1))] ?_
  refine aP ?_
  refine bT aG 3 [(19, (aJ (decide (y1 < x0))))] ?_
  refine bH h0 (fun h0 => ?_) (fun h0 => ?_)
  · refine bT aG 1 [(4, (eI (1 : Int)))] ?_
    refine bG ?_
    obtain rfl := oI h0
    exact aI (aW (Q_r hO))
  refine bK ?_
  refine bD [] ?_
  refine bT aG 1 [(4, (eI (0 : Int)))] ?_
  refine bG ?_
  obtain rfl := oI h0
  exact aI (Q_r hO)

theorem tK (a0 : ByteArray) (b1 : ByteArray) (r : Int) (h0 : fY a0 b1 = some r) : bU Try.prog 120 [(vH a0), (vH b1)] (eI r) := by
  intro H0
  refine cB Try.func120 ?_
  have hO := aN.start H0
  unfold fY at h0
  refine aT aG 1 [] [] ?_
  refine aP ?_
  refine aS aG 4 ?_
  refine bI 2 ?_
  refine YC 124 [(vH a0), (vH b1)] (eI (HJ a0 b1)) (by kernel_rfl) (by kernel_rfl) (VR Try.func124 (by kernel_rfl) (by kernel_rfl) (by kernel_rfl) (by kernel_rfl) a0 b1) hO ?_
  intro H hO
  refine bA ?_
  refine bD [(4, (eI (HJ a0 b1)))] ?_
  refine bG ?_
  obtain rfl := oI h0
  exact aI (Q_r hO)

theorem DQ (a0 : ByteArray) (b1 : ByteArray) (r : Int) (h0 : lF a0 b1 = some r) : bU Try.prog 115 [(vH a0), (vH b1)] (eI r) := by
  intro H0
  refine cB Try.func115 ?_
  have hO := aN.start H0
  unfold lF at h0
  refine aT aG 1 [] [] ?_
  refine aP ?_
  refine aS aG 4 ?_
  refine bI 2 ?_
  obtain ⟨x1, hx2, h0⟩ := aV h0
  refine cD (tK a0 b1 _ hx2) hO ?_
  intro H hO
  refine bA ?_
  refine bD [(4, (eI x1))] ?_
  refine bG ?_
  obtain rfl := oI h0
  exact aI (Q_r hO)

theorem FY (a0 : aF) (b1 : aF) (r : Int) (h0 : oF a0 b1 = some r) : bU Try.prog 94 [(aM a0), (aM b1)] (eI r) := by
  intro H0
  refine cB Try.func94 ?_
  have hO := aN.start H0
  unfold oF at h0
  refine aP ?_
  refine aS aG 3 ?_
  refine kC 3 (aM a0) (by kernel_rfl) (by kernel_rfl) ?_
  refine kC 3 (aM b1) (by kernel_rfl) (by kernel_rfl) ?_
  refine bA ?_
  refine bD [(2, (.rp (aM a0))), (3, (.rp (aM b1)))] ?_
  refine aP ?_
  refine aS aG 7 ?_
  refine bI 1 ?_
  obtain ⟨⟨x1_0, x1_1⟩, hx2, h0⟩ := aV h0
  refine cD (uN a0 _ hx2) hO ?_
  intro H hO
  rcases x1_0 with _ | y4 | y5
  · replace h0 : ((kF b1).bind fun (x6_0, x6_1) => match x6_0 with | .none_ => (cond ((!x1_1) || (!x6_1)) (some (0 : Int)) (none)) | .k_number y9 => (cond ((!x1_1) || (!x6_1)) (some (0 : Int)) (some (1 : Int))) | .k_words y10 => (cond ((!x1_1) || (!x6_1)) (some (0 : Int)) (none))) = some r := h0
    refine bA ?_
    refine bO [2] [(5, (aY bB.none_)), (6, (aJ x1_1))] ?_
    refine aP ?_
    refine aS aG 7 ?_
    refine bI 1 ?_
    obtain ⟨⟨x6_0, x6_1⟩, hx7, h0⟩ := aV h0
    refine cD (uN b1 _ hx7) hO ?_
    intro H hO
    rcases x6_0 with _ | y9 | y10
    · replace h0 : (cond ((!x1_1) || (!x6_1)) (some (0 : Int)) (none)) = some r := h0
      refine bA ?_
      refine bO [3] [(7, (aY bB.none_)), (8, (aJ x6_1))] ?_
      refine aP ?_
      refine aT aG 6 [6, 8] [(28, (aJ ((!x1_1) || (!x6_1))))] ?_
      refine bH h0 (fun h0 => ?_) (fun h0 => ?_)
      · refine bT aG 1 [(4, (eI (0 : Int)))] ?_
        refine bG ?_
        obtain rfl := oI h0
        exact aI (aW (Q_r hO))
      refine bK ?_
      refine bD [(5, (aY bB.none_)), (7, (aY bB.none_))] ?_
      refine aT aG 7 [] [(9, (eI 0)), (10, (aJ false))] ?_
      refine aT aG 7 [] [(11, (eI 0)), (12, (aJ false))] ?_
      refine aP ?_
      refine bR 0 ?_
      refine aT aG 5 [] [(39, (aJ false))] ?_
      refine mP (false) (fun hc12 => ?_) (fun hc12 => ?_)
      · cases hc12
      · refine aT aG 2 [9, 10, 11, 39] [(47, (aJ false))] ?_
        refine mP (false) (fun hc13 => ?_) (fun hc13 => ?_)
        · cases hc13
        · refine bT aG 2 [(5, (aY bB.none_)), (7, (aY bB.none_)), (49, (aJ false))] ?_
          refine mP (false) (fun hc14 => ?_) (fun hc14 => ?_)
          · cases hc14
          · refine bK ?_
            refine hU [(5, (aY bB.none_)), (7, (aY bB.none_))] ?_
            refine aI (aX (aH (?_)))
            refine aP ?_
            refine kE (kA []) aG 6 ?_
            cases h0
    · replace h0 : (cond ((!x1_1) || (!x6_1)) (some (0 : Int)) (some (1 : Int))) = some r := h0
      refine bA ?_
      refine bO [3] [(7, (aY (bB.k_number y9))), (8, (aJ x6_1))] ?_
      refine aP ?_
      refine aT aG 6 [6, 8] [(28, (aJ ((!x1_1) || (!x6_1))))] ?_
      refine bH h0 (fun h0 => ?_) (fun h0 => ?_)
      · refine bT aG 1 [(4, (eI (0 : Int)))] ?_
        refine bG ?_
        obtain rfl := oI h0
        exact aI (aW (Q_r hO))
      refine bK ?_
      refine bD [(5, (aY bB.none_)), (7, (aY (bB.k_number y9)))] ?_
      refine aT aG 7 [] [(9, (eI 0)), (10, (aJ false))] ?_
      refine aT aG 7 [] [(11, (eI y9)), (12, (aJ true))] ?_
      refine aP ?_
      refine bR 0 ?_
      refine aT aG 5 [] [(39, (aJ false))] ?_
      refine mP (false) (fun hc16 => ?_) (fun hc16 => ?_)
      · cases hc16
      · refine aT aG 2 [9, 10, 11, 39] [(47, (aJ false))] ?_
        refine mP (false) (fun hc17 => ?_) (fun hc17 => ?_)
        · cases hc17
        · refine bT aG 2 [(5, (aY bB.none_)), (7, (aY (bB.k_number y9))), (49, (aJ true))] ?_
          refine mP (true) (fun hc18 => ?_) (fun hc18 => ?_)
          · refine bT aG 1 [(4, (eI (1 : Int)))] ?_
            refine bG ?_
            obtain rfl := oI h0
            exact aI (bS (aW (Q_r hO)))
          · cases hc18
    · replace h0 : (cond ((!x1_1) || (!x6_1)) (some (0 : Int)) (none)) = some r := h0
      refine bA ?_
      refine bO [3] [(7, (aY (bB.k_words y10))), (8, (aJ x6_1))] ?_
      refine aP ?_
      refine aT aG 6 [6, 8] [(28, (aJ ((!x1_1) || (!x6_1))))] ?_
      refine bH h0 (fun h0 => ?_) (fun h0 => ?_)
      · refine bT aG 1 [(4, (eI (0 : Int)))] ?_
        refine bG ?_
        obtain rfl := oI h0
        exact aI (aW (Q_r hO))
      refine bK ?_
      refine bD [(5, (aY bB.none_)), (7, (aY (bB.k_words y10)))] ?_
      refine aT aG 7 [] [(9, (eI 0)), (10, (aJ false))] ?_
      refine aT aG 7 [] [(11, (eI 0)), (12, (aJ false))] ?_
      refine aP ?_
      refine bR 0 ?_
      refine aT aG 5 [] [(39, (aJ false))] ?_
      refine mP (false) (fun hc20 => ?_) (fun hc20 => ?_)
      · cases hc20
      · refine aT aG 2 [9, 10, 11, 39] [(47, (aJ false))] ?_
        refine mP (false) (fun hc21 => ?_) (fun hc21 => ?_)
        · cases hc21
        · refine bT aG 2 [(5, (aY bB.none_)), (7, (aY (bB.k_words y10))), (49, (aJ false))] ?_
          refine mP (false) (fun hc22 => ?_) (fun hc22 => ?_)
          · cases hc22
          · refine bK ?_
            refine hU [(5, (aY bB.none_)), (7, (aY (bB.k_words y10)))] ?_
            refine aI (aX (aH (?_)))
            refine aP ?_
            refine kE (kA []) aG 6 ?_
            cases h0
  · replace h0 : ((kF b1).bind fun (x23_0, x23_1) => match x23_0 with | .none_ => (cond ((!x1_1) || (!x23_1)) (some (0 : Int)) (some (-1 : Int))) | .k_number y26 => (cond ((!x1_1) || (!x23_1)) (some (0 : Int)) ((dH y4 y26).bind fun x33 => some x33)) | .k_words y27 => (cond ((!x1_1) || (!x23_1)) (some (0 : Int)) (some (-1 : Int)))) = some r := h0
    refine bA ?_
    refine bO [2] [(5, (aY (bB.k_number y4))), (6, (aJ x1_1))] ?_
    refine aP ?_
    refine aS aG 7 ?_
    refine bI 1 ?_
    obtain ⟨⟨x23_0, x23_1⟩, hx24, h0⟩ := aV h0
    refine cD (uN b1 _ hx24) hO ?_
    intro H hO
    rcases x23_0 with _ | y26 | y27
    · replace h0 : (cond ((!x1_1) || (!x23_1)) (some (0 : Int)) (some (-1 : Int))) = some r := h0
      refine bA ?_
      refine bO [3] [(7, (aY bB.none_)), (8, (aJ x23_1))] ?_
      refine aP ?_
      refine aT aG 6 [6, 8] [(28, (aJ ((!x1_1) || (!x23_1))))] ?_
      refine bH h0 (fun h0 => ?_) (fun h0 => ?_)
      · refine bT aG 1 [(4, (eI (0 : Int)))] ?_
        refine bG ?_
        obtain rfl := oI h0
        exact aI (aW (Q_r hO))
      refine bK ?_
      refine bD [(5, (aY (bB.k_number y4))), (7, (aY bB.none_))] ?_
      refine aT aG 7 [] [(9, (eI y4)), (10, (aJ true))] ?_
      refine aT aG 7 [] [(11, (eI 0)), (12, (aJ false))] ?_
      refine aP ?_
      refine bR 0 ?_
      refine aT aG 5 [] [(39, (aJ false))] ?_
      refine mP (false) (fun hc29 => ?_) (fun hc29 => ?_)
      · cases hc29
      · refine aT aG 2 [9, 10, 11, 39] [(47, (aJ true))] ?_
        refine mP (true) (fun hc30 => ?_) (fun hc30 => ?_)
        · refine bT aG 1 [(4, (eI (-1 : Int)))] ?_
          refine bG ?_
          obtain rfl := oI h0
          exact aI (bS (aW (Q_r hO)))
        · cases hc30
    · replace h0 : (cond ((!x1_1) || (!x23_1)) (some (0 : Int)) ((dH y4 y26).bind fun x33 => some x33)) = some r := h0
      refine bA ?_
      refine bO [3] [(7, (aY (bB.k_number y26))), (8, (aJ x23_1))] ?_
      refine aP ?_
      refine aT aG 6 [6, 8] [(28, (aJ ((!x1_1) || (!x23_1))))] ?_
      refine bH h0 (fun h0 => ?_) (fun h0 => ?_)
      · refine bT aG 1 [(4, (eI (0 : Int)))] ?_
        refine bG ?_
        obtain rfl := oI h0
        exact aI (aW (Q_r hO))
      refine bK ?_
      refine bD [(5, (aY (bB.k_number y4))), (7, (aY (bB.k_number y26)))] ?_
      refine aT aG 7 [] [(9, (eI y4)), (10, (aJ true))] ?_
      refine aT aG 7 [] [(11, (eI y26)), (12, (aJ true))] ?_
      refine aP ?_
      refine bR 0 ?_
      refine aT aG 5 [] [(39, (aJ true))] ?_
      refine mP (true) (fun hc32 => ?_) (fun hc32 => ?_)
      · refine aP ?_
        refine aS aG 4 ?_
        refine bI 2 ?_
        obtain ⟨x33, hx34, h0⟩ := aV h0
        refine cD (wF y4 y26 _ hx34) hO ?_
        intro H hO
        refine bA ?_
        refine bD [(4, (eI x33))] ?_
        refine bG ?_
        obtain rfl := oI h0
        exact aI (bS (aW (Q_r hO)))
      · cases hc32
    · replace h0 : (cond ((!x1_1) || (!x23_1)) (some (0 : Int)) (some (-1 : Int))) = some r := h0
      refine bA ?_
      refine bO [3] [(7, (aY (bB.k_words y27))), (8, (aJ x23_1))] ?_
      refine aP ?_
      refine aT aG 6 [6, 8] [(28, (aJ ((!x1_1) || (!x23_1))))] ?_
      refine bH h0 (fun h0 => ?_) (fun h0 => ?_)
      · refine bT aG 1 [(4, (eI (0 : Int)))] ?_
        refine bG ?_
        obtain rfl := oI h0
        exact aI (aW (Q_r hO))
      refine bK ?_
      refine bD [(5, (aY (bB.k_number y4))), (7, (aY (bB.k_words y27)))] ?_
      refine aT aG 7 [] [(9, (eI y4)), (10, (aJ true))] ?_
      refine aT aG 7 [] [(11, (eI 0)), (12, (aJ false))] ?_
      refine aP ?_
      refine bR 0 ?_
      refine aT aG 5 [] [(39, (aJ false))] ?_
      refine mP (false) (fun hc37 => ?_) (fun hc37 => ?_)
      · cases hc37
      · refine aT aG 2 [9, 10, 11, 39] [(47, (aJ true))] ?_
        refine mP (true) (fun hc38 => ?_) (fun hc38 => ?_)
        · refine bT aG 1 [(4, (eI (-1 : Int)))] ?_
          refine bG ?_
          obtain rfl := oI h0
          exact aI (bS (aW (Q_r hO)))
        · cases hc38
  · replace h0 : ((kF b1).bind fun (x39_0, x39_1) => match x39_0 with | .none_ => (cond ((!x1_1) || (!x39_1)) (some (0 : Int)) (none)) | .k_number y42 => (cond ((!x1_1) || (!x39_1)) (some (0 : Int)) (some (1 : Int))) | .k_words y43 => (cond ((!x1_1) || (!x39_1)) (some (0 : Int)) ((lF y5 y43).bind fun x56 => some x56))) = some r := h0
    refine bA ?_
    refine bO [2] [(5, (aY (bB.k_words y5))), (6, (aJ x1_1))] ?_
    refine aP ?_
    refine aS aG 7 ?_
    refine bI 1 ?_
    obtain ⟨⟨x39_0, x39_1⟩, hx40, h0⟩ := aV h0
    refine cD (uN b1 _ hx40) hO ?_
    intro H hO
    rcases x39_0 with _ | y42 | y43
    · replace h0 : (cond ((!x1_1) || (!x39_1)) (some (0 : Int)) (none)) = some r := h0
      refine bA ?_
      refine bO [3] [(7, (aY bB.none_)), (8, (aJ x39_1))] ?_
      refine aP ?_
      refine aT aG 6 [6, 8] [(28, (aJ ((!x1_1) || (!x39_1))))] ?_
      refine bH h0 (fun h0 => ?_) (fun h0 => ?_)
      · refine bT aG 1 [(4, (eI (0 : Int)))] ?_
        refine bG ?_
        obtain rfl := oI h0
        exact aI (aW (Q_r hO))
      refine bK ?_
      refine bD [(5, (aY (bB.k_words y5))), (7, (aY bB.none_))] ?_
      refine aT aG 7 [] [(9, (eI 0)), (10, (aJ false))] ?_
      refine aT aG 7 [] [(11, (eI 0)), (12, (aJ false))] ?_
      refine aP ?_
      refine bR 0 ?_
      refine aT aG 5 [] [(39, (aJ false))] ?_
      refine mP (false) (fun hc45 => ?_) (fun hc45 => ?_)
      · cases hc45
      · refine aT aG 2 [9, 10, 11, 39] [(47, (aJ false))] ?_
        refine mP (false) (fun hc46 => ?_) (fun hc46 => ?_)
        · cases hc46
        · refine bT aG 2 [(5, (aY (bB.k_words y5))), (7, (aY bB.none_)), (49, (aJ false))] ?_
          refine mP (false) (fun hc47 => ?_) (fun hc47 => ?_)
          · cases hc47
          · refine bK ?_
            refine hU [(5, (aY (bB.k_words y5))), (7, (aY bB.none_))] ?_
            refine aI (aX (aH (?_)))
            refine aP ?_
            refine kE (kA []) aG 6 ?_
            cases h0
    · replace h0 : (cond ((!x1_1) || (!x39_1)) (some (0 : Int)) (some (1 : Int))) = some r := h0
      refine bA ?_
      refine bO [3] [(7, (aY (bB.k_number y42))), (8, (aJ x39_1))] ?_
      refine aP ?_
      refine aT aG 6 [6, 8] [(28, (aJ ((!x1_1) || (!x39_1))))] ?_
      refine bH h0 (fun h0 => ?_) (fun h0 => ?_)
      · refine bT aG 1 [(4, (eI (0 : Int)))] ?_
        refine bG ?_
        obtain rfl := oI h0
        exact aI (aW (Q_r hO))
      refine bK ?_
      refine bD [(5, (aY (bB.k_words y5))), (7, (aY (bB.k_number y42)))] ?_
      refine aT aG 7 [] [(9, (eI 0)), (10, (aJ false))] ?_
      refine aT aG 7 [] [(11, (eI y42)), (12, (aJ true))] ?_
      refine aP ?_
      refine bR 0 ?_
      refine aT aG 5 [] [(39, (aJ false))] ?_
      refine mP (false) (fun hc49 => ?_) (fun hc49 => ?_)
      · cases hc49
      · refine aT aG 2 [9, 10, 11, 39] [(47, (aJ false))] ?_
        refine mP (false) (fun hc50 => ?_) (fun hc50 => ?_)
        · cases hc50
        · refine bT aG 2 [(5, (aY (bB.k_words y5))), (7, (aY (bB.k_number y42))), (49, (aJ true))] ?_
          refine mP (true) (fun hc51 => ?_) (fun hc51 => ?_)
          · refine bT aG 1 [(4, (eI (1 : Int)))] ?_
            refine bG ?_
            obtain rfl := oI h0
            exact aI (bS (aW (Q_r hO)))
          · cases hc51
    · replace h0 : (cond ((!x1_1) || (!x39_1)) (some (0 : Int)) ((lF y5 y43).bind fun x56 => some x56)) = some r := h0
      refine bA ?_
      refine bO [3] [(7, (aY (bB.k_words y43))), (8, (aJ x39_1))] ?_
      refine aP ?_
      refine aT aG 6 [6, 8] [(28, (aJ ((!x1_1) || (!x39_1))))] ?_
      refine bH h0 (fun h0 => ?_) (fun h0 => ?_)
      · refine bT aG 1 [(4, (eI (0 : Int)))] ?_
        refine bG ?_
        obtain rfl := oI h0
        exact aI (aW (Q_r hO))
      refine bK ?_
      refine bD [(5, (aY (bB.k_words y5))), (7, (aY (bB.k_words y43)))] ?_
      refine aT aG 7 [] [(9, (eI 0)), (10, (aJ false))] ?_
      refine aT aG 7 [] [(11, (eI 0)), (12, (aJ false))] ?_
      refine aP ?_
      refine bR 0 ?_
      refine aT aG 5 [] [(39, (aJ false))] ?_
      refine mP (false) (fun hc53 => ?_) (fun hc53 => ?_)
      · cases hc53
      · refine aT aG 2 [9, 10, 11, 39] [(47, (aJ false))] ?_
        refine mP (false) (fun hc54 => ?_) (fun hc54 => ?_)
        · cases hc54
        · refine bT aG 2 [(5, (aY (bB.k_words y5))), (7, (aY (bB.k_words y43))), (49, (aJ false))] ?_
          refine mP (false) (fun hc55 => ?_) (fun hc55 => ?_)
          · cases hc55
          · refine bK ?_
            refine hU [(5, (aY (bB.k_words y5))), (7, (aY (bB.k_words y43)))] ?_
            refine aI (aX (aH (?_)))
            refine aP ?_
            refine kE (kA []) aG 6 ?_
            refine tZ 4 ?_
            obtain ⟨x56, hx57, h0⟩ := aV h0
            refine wC (DQ y5 y43 _ hx57) hO ?_
            intro H hO
            refine nO ?_
            refine bD [(4, (eI x56))] ?_
            refine bG ?_
            obtain rfl := oI h0
            exact aI (Q_r hO)

theorem BE (a0 : (List aF)) (b1 : (List aF)) (r : Int) (h0 : nV a0 b1 = some r) : bU Try.prog 61 [(eL aM a0), (eL aM b1)] (eI r) := by
  intro H0
  refine cB Try.func61 ?_
  have hO := aN.start H0
  unfold nV at h0
  refine aP ?_
  refine aS aG 2 ?_
  refine kC 1 (eL aM b1) (by kernel_rfl) (by kernel_rfl) ?_
  refine bA ?_
  refine bO [1] [(3, (.rp (eL aM b1)))] ?_
  refine aP ?_
  refine aP ?_
  refine aS aG 8 ?_
  refine bI 1 ?_
  obtain ⟨x1, hx2, h0⟩ := aV h0
  refine cD (xZ a0 _ hx2) hO ?_
  intro H hO
  refine bI 5 ?_
  obtain ⟨x4, hx5, h0⟩ := aV h0
  refine oT [(10, false)] 55 [(eL aM b1)] (aJ x4) (!(!x1)) (by kernel_rfl) (by kernel_rfl) (by kernel_rfl) (fun hb6 => (xZ b1 _ (pX hx5 hb6))) hO ?_
  intro H hO
  refine bA ?_
  refine bO [] [(14, (aJ ((!x1) || (!x4))))] ?_
  refine bH h0 (fun h0 => ?_) (fun h0 => ?_)
  · refine bT aG 1 [(4, (eI (0 : Int)))] ?_
    refine bG ?_
    obtain rfl := oI h0
    exact aI (aW (Q_r hO))
  refine bK ?_
  refine bD [(0, (eL aM a0)), (3, (.rp (eL aM b1)))] ?_
  refine aT aG 6 [] [(5, (eI (if (lN b1) < (lN a0) then (lN b1) else (lN a0))))] ?_
  refine aP ?_
  refine kE (kA []) aG 7 ?_
  obtain ⟨c8, h0⟩ := bF h0
  refine cT 4 [0 ≤ (if (lN b1) < (lN a0) then (lN b1) else (lN a0)) ∧ (if (lN b1) < (lN a0) then (lN b1) else (lN a0)) ≤ (lN a0)] ⟨c8, trivial⟩ ?_
  obtain ⟨x9, hx10, h0⟩ := aV h0
  refine XH (L' := fun lo11 => [(lo11, 1, [(eI x9.1)])]) 1 [(eI x9.1)] 92 [(.rp (eL aM b1))] (fun lo11 => (.fn (.func 93) [] [(.lp lo11 0 0), (.rp (eL aM x9.2))])) (by kernel_rfl) (by kernel_rfl) (GX b1 _ hx10) hO (fun _ => by kernel_rfl) ?_
  intro lo11 H hO
  obtain ⟨x12, hx13, h0⟩ := aV h0
  refine XD (fun st G' => G' = up [(lo11, 1, [(eI st)])] ++ []) [(lo11, 1, [(eI x12.1)])] x9.1 x12.1 91 [(.sl false (Int.toNat (if (lN b1) < (lN a0) then (lN b1) else (lN a0))) (fun i => aM (List.getD a0 i default))), (.fn (.func 93) [] [(.lp lo11 0 0), (.rp (eL aM x9.2))])] (eI x12.2) (by kernel_rfl) (by kernel_rfl) (xU.sub (as0' := [(eL aM (List.take (Int.toNat (if (lN b1) < (lN a0) then (lN b1) else (lN a0))) a0)), (.fn (.func 93) [] [(.lp lo11 0 0), (.rp (eL aM x9.2))])]) (qL _ (List.take (Int.toNat (if (lN b1) < (lN a0) then (lN b1) else (lN a0))) a0) (.fn (.func 93) [] [(.lp lo11 0 0), (.rp (eL aM x9.2))]) (fun st y0 => (gZ y0 st x9.2).bind fun o => some (o.2, o.1)) (fun st y0 st2 rr hr => (DP y0 lo11 st x9.2 _ (ZX hr)).toV (ys := []) (zs := [(aM y0)]) (cs := [(.lp lo11 0 0), (.rp (eL aM x9.2))]) (fun Gx hG => ⟨up [], up [] ++ [], hG, rfl⟩)) _ _ hx13) ⟨XV (Int.toNat_le.2 (And.right c8)), aR.refl _, trivial⟩) hO rfl (fun _ h => h) ?_
  intro H hO
  refine nO ?_
  replace hO := hO.pick (L' := []) [] (by decide) (by kernel_rfl)
  refine bO [5] [(6, (eI x12.2))] ?_
  refine aP ?_
  refine aT aG 2 [] [(27, (aJ (decide (x12.2 < (0 : Int)))))] ?_
  refine bH h0 (fun h0 => ?_) (fun h0 => ?_)
  · refine aP ?_
    refine aS aG 6 ?_
    refine bI 4 ?_
    obtain ⟨x15, hx16, h0⟩ := aV h0
    refine cD (sE (lN a0) (lN b1) _ hx16) hO ?_
    intro H hO
    refine bA ?_
    refine bD [(4, (eI x15))] ?_
    refine bG ?_
    obtain rfl := oI h0
    exact aI (aW (Q_r hO))
  refine bK ?_
  refine bD [(0, (eL aM a0)), (3, (.rp (eL aM b1))), (6, (eI x12.2))] ?_
  refine aP ?_
  refine kE (kA [36, 37, 40]) aG 10 ?_
  obtain ⟨c18, h0⟩ := bF h0
  obtain ⟨c19, h0⟩ := bF h0
  refine cT 8 [0 ≤ x12.2 ∧ x12.2 < (lN a0), 0 ≤ x12.2 ∧ x12.2 < (lN b1)] ⟨c18, c19, trivial⟩ ?_
  obtain ⟨x20, hx21, h0⟩ := aV h0
  refine wC (FY (gD a0 x12.2) (gD b1 x12.2) _ hx21) hO ?_
  intro H hO
  refine nO ?_
  refine bD [(4, (eI x20))] ?_
  refine bG ?_
  obtain rfl := oI h0
  exact aI (Q_r hO)

theorem DR (l0 : (List aC)) (holds1_f : Nat) (holds1_a holds1_c : List V) (qQ : (List aB) → Option Bool) (holds1_h : ∀ a0 r, qQ a0 = some r → bU Try.prog holds1_f (holds1_a ++ [(eL aD a0)] ++ holds1_c) (aJ r)) (r : Bool) (h0 : qH l0 qQ = some r) : bU Try.prog 49 [(eL aE l0), (.fn (.func holds1_f) holds1_a holds1_c)] (aJ r) := by
  intro H0
  refine PO aG Try.func49 (by kernel_rfl) (by kernel_rfl) (by kernel_rfl) ?_
  have hO := aN.start H0
  unfold qH at h0
  refine aP ?_
  refine aS aG 2 ?_
  refine kC 1 (.fn (.func holds1_f) holds1_a holds1_c) (by kernel_rfl) (by kernel_rfl) ?_
  refine pL 1 (aJ false) (by kernel_rfl) (by kernel_rfl) hO ?_
  intro lo1 H hO
  refine cQ ?_
  refine bO [1] [(3, (.rp (.fn (.func holds1_f) holds1_a holds1_c))), (4, (.lp lo1 0 0))] ?_
  refine aP ?_
  refine aT aG 3 [] [(11, (aJ (decide ((4096 : Int) < (lN l0)))))] ?_
  refine bH h0 (fun h0 => ?_) (fun h0 => ?_)
  · refine aP ?_
    refine aS aG 1 ?_
    refine nN 0 lo1 1 0 (aJ false) (aJ false) [(aJ false)] [(lo1, 1, [(aJ false)])] hO rfl (by kernel_rfl) ?_
    intro H hO
    refine cQ ?_
    refine bD [(4, (.lp lo1 0 0))] ?_
    refine bG ?_
    obtain rfl := oI h0
    exact aI (aW (QM0 (.inr rfl) (rs := [.cell 4 4]) (xs := [(aJ false)]) (x := (aJ false)) (by kernel_rfl) (vB (lo := lo1) (k := 1) (y := (aJ false)) (x := (aJ false)) 0 hO (by kernel_rfl) (by kernel_rfl) (by kernel_rfl) (by kernel_rfl) CB) (by kernel_rfl) ⟨rfl, hO.out⟩))
  refine bK ?_
  refine bD [(0, (eL aE l0)), (3, (.rp (.fn (.func holds1_f) holds1_a holds1_c))), (4, (.lp lo1 0 0))] ?_
  refine aP ?_
  refine aS aG 1 ?_
  refine zR 1 (.sl true 0 (fun _ => .bad)) (eL aM ([])) (by kernel_rfl) (by kernel_rfl) (by kernel_rfl) (iQ) (by kernel_rfl) (by kernel_rfl) hO ?_
  intro lo3 H hO
  refine cQ ?_
  refine bO [] [(5, (.lp lo3 0 0))] ?_
  refine aP ?_
  refine aS aG 2 ?_
  refine pL 1 (aJ false) (by kernel_rfl) (by kernel_rfl) hO ?_
  intro lo4 H hO
  refine nN 2 lo4 1 0 (aJ false) (aJ false) [(aJ false)] [(lo1, 1, [(aJ false)]), (lo3, 1, [(eL aM ([]))]), (lo4, 1, [(aJ false)])] hO rfl (by kernel_rfl) ?_
  intro H hO
  refine cQ ?_
  refine bO [] [(6, (.lp lo4 0 0))] ?_
  refine aP ?_
  refine aP ?_
  refine aS aG 2 ?_
  refine bI 1 ?_
  obtain ⟨x5, hx6, h0⟩ := aV h0
  refine cD (DY l0 _ hx6) hO ?_
  intro H hO
  refine cQ ?_
  refine bO [0] [(13, (.fn (.func 104) [] [(.rp (eL aE x5))]))] ?_
  refine bR 0 ?_
  refine dQ [(3, (.rp (.fn (.func holds1_f) holds1_a holds1_c))), (4, (.lp lo1 0 0)), (5, (.lp lo3 0 0)), (6, (.lp lo4 0 0)), (13, (.fn (.func 104) [] [(.rp (eL aE x5))]))] ?_
  refine cV (fun T H => ∃ t4 : Bool, ∃ mS : (List aF), ∃ iA : Bool, ∃ jF : (List aC), ∃ lo7 : Nat, ∃ lo8 : Nat, ∃ lo9 : Nat, Has T [(3, (.rp (.fn (.func holds1_f) holds1_a holds1_c))), (4, (.lp lo7 0 0)), (5, (.lp lo8 0 0)), (6, (.lp lo9 0 0)), (13, (.fn (.func 104) [] [(.rp (eL aE jF))]))] ∧ aN ⟨H0, [], []⟩ H [(lo7, 1, [(aJ t4)]), (lo8, 1, [(eL aM mS)]), (lo9, 1, [(aJ iA)])] ∧ uR qQ t4 mS iA jF = some r) ?_ ⟨false, [], false, x5, lo1, lo3, lo4, .eq (by kernel_rfl), hO, h0⟩
  clear hO h0
  rintro T H ⟨t4, mS, iA, jF, lo7, lo8, lo9, hT, hO, h0⟩
  refine aZ (l := [(3, (.rp (.fn (.func holds1_f) holds1_a holds1_c))), (4, (.lp lo7 0 0)), (5, (.lp lo8 0 0)), (6, (.lp lo9 0 0)), (13, (.fn (.func 104) [] [(.rp (eL aE jF))]))]) hT ?_
  clear hT
  unfold uR at h0
  obtain ⟨o0, hl0, h0⟩ := aV h0
  refine MF (fid := 104) (ys := []) (cs := [(.rp (eL aE jF))]) #[14, 15] (fun (A : zQ) (b lL : Nat) (st : (Bool × (List aF) × Bool) ⊕ (Bool × (List aF) × Bool)) (G' : Gs) => Sum.elim (fun (s : Bool × (List aF) × Bool) => G' = (lL, .raw (lA b A .ready none)) :: (up [(lo7, 1, [(aJ s.1)]), (lo8, 1, [(eL aM s.2.1)]), (lo9, 1, [(aJ s.2.2)])] ++ [])) (fun (s : Bool × (List aF) × Bool) => G' = (lL, .raw (lA b A .done (some .ret))) :: (up [(lo7, 1, [(aJ s.1)]), (lo8, 1, [(eL aM s.2.1)]), (lo9, 1, [(aJ s.2.2)])] ++ [])) st) (.inl (t4, mS, iA)) o0 (.tup []) (by kernel_rfl) (by kernel_rfl) (by kernel_rfl) hO (fun _ _ => rfl) ?_ ?_
  · intro b lL
    clear hO h0
    refine yG _ b (fun st t14 t15 => rnd (fun (s : Bool × (List aF) × Bool) => nG qQ jF s.1 s.2.1 s.2.2 t14 t15) st) ?_ jF _ _ hl0
    intro st t14 t15 st2 rr hr
    obtain ⟨s, rfl, h1, rfl⟩ := ZH hr
    clear hr
    intro Hr Gr hi hg
    obtain ⟨t4, mS, iA⟩ := s
    dsimp only [Sum.elim_inl] at hi
    obtain rfl := hi
    replace h1 : nG qQ jF t4 mS iA t14 t15 = some st2 := h1
    unfold nG at h1
    obtain ⟨E1, hE, hO⟩ := DT hg
    refine DV (NG (hO.gm 0 _ rfl).2 (by kernel_rfl) (by kernel_rfl) ?_)
    refine dQ [(3, (.rp (.fn (.func holds1_f) holds1_a holds1_c))), (4, (.lp lo7 0 0)), (5, (.lp lo8 0 0)), (6, (.lp lo9 0 0)), (13, (.fn (.func 104) [] [(.rp (eL aE jF))])), (14, (eL aM t14)), (15, (eL aD t15))] ?_
    refine aT aG 1 [13, 14] [(7, (eL aM t14))] ?_
    refine aS aG 1 ?_
    refine bA ?_
    refine hU [(3, (.rp (.fn (.func holds1_f) holds1_a holds1_c))), (4, (.lp lo7 0 0)), (5, (.lp lo8 0 0)), (6, (.lp lo9 0 0)), (7, (eL aM t14)), (8, (eL aD t15))] ?_
    refine aI (⟨rfl, rfl, (hO.gm 0 _ rfl).2, ?_⟩)
    intro o1 ho1
    replace hO := hO.BO o1
    refine bR 1 ?_
    refine aP ?_
    refine aP ?_
    refine aS aG 18 ?_
    refine bI 1 ?_
    obtain ⟨x10, hx11, h1⟩ := aV h1
    refine cD (xZ t14 _ hx11) hO ?_
    intro H hO
    refine bI 4 ?_
    refine tR [(19, false)] 2 lo9 1 0 (aJ iA) (aJ iA) [(aJ iA)] (by kernel_rfl) (by kernel_rfl) hO (by kernel_rfl) (!(!x10)) (by kernel_rfl) (fun hb13 => rfl) ?_
    refine bI 6 ?_
    refine tR [(21, true), (19, false)] 1 lo8 1 0 (eL aM mS) (eL aM mS) [(eL aM mS)] (by kernel_rfl) (by kernel_rfl) hO (by kernel_rfl) (iA && (!(!x10))) (by kernel_rfl) (fun hb14 => rfl) ?_
    refine bI 8 ?_
    obtain ⟨x15, hx16, h1⟩ := aV h1
    refine oT [(21, true), (19, false)] 61 [(eL aM mS), (eL aM t14)] (eI x15) (iA && (!(!x10))) (by kernel_rfl) (by kernel_rfl) (by kernel_rfl) (fun hb17 => (BE mS t14 _ (pX hx16 hb17))) hO ?_
    intro H hO
    refine bI 15 ?_
    obtain ⟨x18, hx19, h1⟩ := aV h1
    refine oT [(28, false)] holds1_f (holds1_a ++ [(eL aD t15)] ++ holds1_c) (aJ x18) (!((!x10) || (iA && (decide ((0 : Int) ≤ x15))))) (by kernel_rfl) (by kernel_rfl) (by kernel_rfl) (fun hb20 => (holds1_h t15 _ (pX hx19 hb20))) hO ?_
    intro H hO
    refine bA ?_
    refine bO [3, 8] [(33, (aJ (((!x10) || (iA && (decide ((0 : Int) ≤ x15)))) || (!x18))))] ?_
    refine bH h1 (fun h1 => ?_) (fun h1 => ?_)
    · refine aP ?_
      refine aS aG 1 ?_
      refine nN 0 lo7 1 0 (aJ t4) (aJ false) [(aJ t4)] [(lo7, 1, [(aJ false)]), (lo8, 1, [(eL aM mS)]), (lo9, 1, [(aJ iA)])] hO rfl (by kernel_rfl) ?_
      intro H hO
      refine cQ ?_
      refine bO [7, 33] [] ?_
      refine bG ?_
      refine hU [(4, (.lp lo7 0 0)), (5, (.lp lo8 0 0)), (6, (.lp lo9 0 0))] ?_
      obtain rfl := oI h1
      exact aI (aW (bS (⟨(mY hO hE ho1 .dead).1, rfl, _, rfl, (mY hO hE ho1 _).2⟩)))
    refine bK ?_
    refine bD [(4, (.lp lo7 0 0)), (5, (.lp lo8 0 0)), (6, (.lp lo9 0 0)), (7, (eL aM t14))] ?_
    refine aS aG 3 ?_
    refine bI 1 ?_
    refine nN 1 lo8 1 0 (eL aM mS) (eL aM t14) [(eL aM mS)] [(lo7, 1, [(aJ t4)]), (lo8, 1, [(eL aM t14)]), (lo9, 1, [(aJ iA)])] hO rfl (by kernel_rfl) ?_
    intro H hO
    refine nN 2 lo9 1 0 (aJ iA) (aJ true) [(aJ iA)] [(lo7, 1, [(aJ t4)]), (lo8, 1, [(eL aM t14)]), (lo9, 1, [(aJ true)])] hO rfl (by kernel_rfl) ?_
    intro H hO
    refine cQ ?_
    refine hU [(4, (.lp lo7 0 0)), (5, (.lp lo8 0 0)), (6, (.lp lo9 0 0))] ?_
    obtain rfl := oI h1
    exact aI (aX (⟨(mY hO hE ho1 .dead).1, rfl, _, rfl, (mY hO hE ho1 _).2⟩))
  · intro b lD lL H' G' hi hO
    rcases o0 with s | s
    · dsimp only [Sum.elim_inl] at hi
      obtain rfl := hi
      replace h0 : (some true) = some r := h0
      obtain ⟨hlL, hO⟩ := wM hO
      refine ⟨_, _, hlL, (by intro e; cases e), ?_⟩
      refine hU [(4, (.lp lo7 0 0))] ?_
      replace hO := hO.pick (L' := [(lo7, 1, [(aJ s.1)])]) [0] (by decide) (by kernel_rfl)
      refine aI (aX (aH (?_)))
      refine aP ?_
      refine aS aG 1 ?_
      refine nN 0 lo7 1 0 (aJ s.1) (aJ true) [(aJ s.1)] [(lo7, 1, [(aJ true)])] hO rfl (by kernel_rfl) ?_
      intro H hO
      refine cQ ?_
      refine bD [(4, (.lp lo7 0 0))] ?_
      refine bG ?_
      obtain rfl := oI h0
      have hD := (hO.gm 0 _ rfl).2
      replace hO := (hO.BO .dead).zU
      exact aI (QM1 (.inr rfl) hD (rs := [.cell 4 4]) (xs := [(aJ true)]) (x := (aJ true)) (by kernel_rfl) (vB (lo := lo7) (k := 1) (y := (aJ true)) (x := (aJ true)) 0 hO (by kernel_rfl) (by kernel_rfl) (by kernel_rfl) (by kernel_rfl) CB) (by kernel_rfl) ⟨rfl, hO.out⟩)
    · dsimp only [Sum.elim_inr] at hi
      obtain rfl := hi
      replace h0 : (some s.1) = some r := h0
      obtain ⟨hlL, hO⟩ := wM hO
      refine ⟨_, _, hlL, (by intro e; cases e), ?_⟩
      refine bG ?_
      replace hO := hO.pick (L' := [(lo7, 1, [(aJ s.1)])]) [0] (by decide) (by kernel_rfl)
      obtain rfl := oI h0
      have hD := (hO.gm 0 _ rfl).2
      replace hO := (hO.BO .dead).zU
      exact aI (bS (aW (QM1 (.inr rfl) hD (rs := [.cell 4 4]) (xs := [(aJ s.1)]) (x := (aJ s.1)) (by kernel_rfl) (vB (lo := lo7) (k := 1) (y := (aJ s.1)) (x := (aJ s.1)) 0 hO (by kernel_rfl) (by kernel_rfl) (by kernel_rfl) (by kernel_rfl) CB) (by kernel_rfl) ⟨rfl, hO.out⟩)))

theorem DU (n0 : Int) (r : Bool) (h0 : sM n0 = some r) : bU Try.prog 85 [(eI n0)] (aJ r) := by
  intro H0
  refine cB Try.func85 ?_
  have hO := aN.start H0
  unfold sM at h0
  refine aT aG 1 [] [] ?_
  refine bT aG 7 [(2, (aJ ((decide (n0 ≤ (1048576 : Int))) && (decide ((-1048576 : Int) ≤ n0)))))] ?_
  refine bG ?_
  obtain rfl := oI h0
  exact aI (Q_r hO)

theorem rR (f0 : (List aB)) (r : Bool) (h0 : kZ f0 = some r) : bU Try.prog 51 [(eL aD f0)] (aJ r) := by
  intro H0
  refine cB Try.func51 ?_
  have hO := aN.start H0
  unfold kZ at h0
  refine aT aG 1 [] [] ?_
  refine aP ?_
  refine aT aG 3 [] [(8, (aJ (decide ((1024 : Int) < (lN f0)))))] ?_
  refine bH h0 (fun h0 => ?_) (fun h0 => ?_)
  · refine bT aG 1 [(2, (aJ false))] ?_
    refine bG ?_
    obtain rfl := oI h0
    exact aI (aW (Q_r hO))
  refine bK ?_
  refine bD [(0, (eL aD f0))] ?_
  refine aT aG 1 [] [(3, (eI (-2 : Int)))] ?_
  refine dJ (fun T H => Has T [] ∧ aN ⟨H0, [], []⟩ H [] ∧ sI  = some r) ?_ ?_
  · clear hO h0
    rintro T H ⟨hT, hO, h0⟩
    refine aZ hT ?_
    clear hT
    unfold sI at h0
    refine bT aG 1 [(2, (aJ true))] ?_
    refine bG ?_
    obtain rfl := oI h0
    exact aI (Q_r hO)
  refine aT aG 3 [0] [(9, (eL aD f0)), (10, (eI (lN f0))), (11, (eI (0 : Int)))] ?_
  refine bR 0 ?_
  refine dQ [(3, (eI (-2 : Int))), (9, (eL aD f0)), (10, (eI (lN f0))), (11, (eI (0 : Int)))] ?_
  refine cV (fun T H => ∃ oR : Int, ∃ t9 : (List aB), ∃ t10 : Int, ∃ t11 : Int, Has T [(3, (eI oR)), (9, (eL aD t9)), (10, (eI t10)), (11, (eI t11))] ∧ aN ⟨H0, [], []⟩ H [] ∧ vO oR t9 t10 t11 = some r) ?_ ⟨(-2 : Int), f0, (lN f0), (0 : Int), .eq (by kernel_rfl), hO, h0⟩
  clear hO h0
  rintro T H ⟨oR, t9, t10, t11, hT, hO, h0⟩
  refine aZ hT ?_
  clear hT
  unfold vO at h0
  obtain ⟨rr0, hl0, h0⟩ := aV h0
  refine bZ (by kernel_rfl) (fun (s : Int × Int) T H => Has T [(3, (eI s.1)), (9, (eL aD t9)), (10, (eI t10)), (11, (eI s.2))] ∧ aN ⟨H0, [], []⟩ H []) hl0 ⟨.eq (by kernel_rfl), hO⟩ ?_
  clear hO
  rintro k0 s out1 T H ⟨hT, hO⟩ h1 ho0
  obtain ⟨oR, t11⟩ := s
  replace h1 : kU t9 t10 oR t11 = some out1 := h1
  dsimp only at hT
  refine aZ hT ?_
  clear hT
  unfold kU at h1
  refine aT aG 1 [] [(12, (aJ (decide (t11 < t10))))] ?_
  refine aP ?_
  refine bH h1 (fun h1 => ?_) (fun h1 => ?_)
  · refine bK ?_
    refine bD [(3, (eI oR)), (9, (eL aD t9)), (10, (eI t10)), (11, (eI t11))] ?_
    refine aP ?_
    refine bR 1 ?_
    refine aP ?_
    refine aS aG 4 ?_
    obtain ⟨c3, h1⟩ := bF h1
    refine wE 2 [0 ≤ t11 ∧ t11 < (lN t9)] ⟨c3, trivial⟩ ?_
    refine pL 2 (aD (aB.mk 0 0)) (by kernel_rfl) (by kernel_rfl) hO ?_
    intro lo4 H hO
    refine nN 0 lo4 2 0 (aD (aB.mk 0 0)) (aD (gD t9 t11)) [(aD (aB.mk 0 0))] [(lo4, 2, [(aD (gD t9 t11))])] hO rfl (by kernel_rfl) ?_
    intro H hO
    refine cQ ?_
    refine bO [] [(5, (.lp lo4 0 0))] ?_
    refine aP ?_
    refine aP ?_
    refine aS aG 20 ?_
    refine bI 1 ?_
    refine uD 0 lo4 2 0 (aD (gD t9 t11)) (eI ((gD t9 t11).At)) [(aD (gD t9 t11))] hO rfl ?_
    refine bI 6 ?_
    refine tR [(19, false)] 0 lo4 2 0 (aD (gD t9 t11)) (eI ((gD t9 t11).At)) [(aD (gD t9 t11))] (by kernel_rfl) (by kernel_rfl) hO (by kernel_rfl) (!(decide (((gD t9 t11).At) ≤ oR))) (by kernel_rfl) (fun hb5 => rfl) ?_
    refine bI 11 ?_
    refine tR [(24, false)] 0 lo4 2 0 (aD (gD t9 t11)) (eI ((gD t9 t11).Net)) [(aD (gD t9 t11))] (by kernel_rfl) (by kernel_rfl) hO (by kernel_rfl) (!((decide (((gD t9 t11).At) ≤ oR)) || (decide ((1125899906842624 : Int) ≤ ((gD t9 t11).At))))) (by kernel_rfl) (fun hb6 => rfl) ?_
    refine bI 16 ?_
    refine tR [(29, false)] 0 lo4 2 0 (aD (gD t9 t11)) (eI ((gD t9 t11).Net)) [(aD (gD t9 t11))] (by kernel_rfl) (by kernel_rfl) hO (by kernel_rfl) (!(((decide (((gD t9 t11).At) ≤ oR)) || (decide ((1125899906842624 : Int) ≤ ((gD t9 t11).At)))) || (decide (((gD t9 t11).Net) = (0 : Int))))) (by kernel_rfl) (fun hb7 => rfl) ?_
    obtain ⟨x8, hx9, h1⟩ := aV h1
    refine oT [(29, false)] 85 [(eI ((gD t9 t11).Net))] (aJ x8) (!(((decide (((gD t9 t11).At) ≤ oR)) || (decide ((1125899906842624 : Int) ≤ ((gD t9 t11).At)))) || (decide (((gD t9 t11).Net) = (0 : Int))))) (by kernel_rfl) (by kernel_rfl) (by kernel_rfl) (fun hb10 => (DU ((gD t9 t11).Net) _ (pX hx9 hb10))) hO ?_
    intro H hO
    refine bA ?_
    refine bO [3] [(34, (aJ ((((decide (((gD t9 t11).At) ≤ oR)) || (decide ((1125899906842624 : Int) ≤ ((gD t9 t11).At)))) || (decide (((gD t9 t11).Net) = (0 : Int)))) || (!x8))))] ?_
    refine bH h1 (fun h1 => ?_) (fun h1 => ?_)
    · refine aP ?_
      refine aS aG 1 ?_
      refine bA ?_
      refine hU [(2, (aJ false))] ?_
      replace hO := hO.pick (L' := []) [] (by decide) (by kernel_rfl)
      refine aI (aH (?_))
      refine bG ?_
      obtain rfl := oI h1
      obtain rfl : _ = rr0 := ho0
      replace h0 : some false = some r := h0
      obtain rfl := oI h0
      exact aI (aW (bS (aW (aW (bS (aW (Q_r hO)))))))
    refine bK ?_
    refine bD [(5, (.lp lo4 0 0)), (9, (eL aD t9)), (10, (eI t10)), (11, (eI t11))] ?_
    refine aS aG 3 ?_
    refine bI 1 ?_
    refine uD 0 lo4 2 0 (aD (gD t9 t11)) (eI ((gD t9 t11).At)) [(aD (gD t9 t11))] hO rfl ?_
    refine bA ?_
    refine hU [(3, (eI ((gD t9 t11).At))), (9, (eL aD t9)), (10, (eI t10)), (11, (eI t11))] ?_
    replace hO := hO.pick (L' := []) [] (by decide) (by kernel_rfl)
    refine aI (aX (aH (?_)))
    refine aS aG 2 ?_
    refine bA ?_
    exact aI (aH (⟨rfl, _, (oI h1).symm, .eq (by kernel_rfl), hO⟩))
  refine eR 0 ?_
  obtain rfl := oI h1
  obtain rfl : _ = rr0 := ho0
  replace h0 : sI  = some r := h0
  exact aI (aU (aU (bM (aH (⟨rfl, .eq (by kernel_rfl), hO, h0⟩)))))

theorem GZ (l0 : (List aC)) (r : Bool) (h0 : rU l0 = some r) : bU Try.prog 25 [(eL aE l0)] (aJ r) := by
  intro H0
  refine cB Try.func25 ?_
  have hO := aN.start H0
  unfold rU at h0
  refine aT aG 1 [] [] ?_
  refine aP ?_
  refine aS aG 3 ?_
  refine bI 1 ?_
  obtain ⟨x1, hx2, h0⟩ := aV h0
  refine cD (DR l0 51 [] [] (fun y0 => kZ y0) (fun y0 r h => rR y0 r h) _ hx2) hO ?_
  intro H hO
  refine bA ?_
  refine bD [(2, (aJ x1))] ?_
  refine bG ?_
  obtain rfl := oI h0
  exact aI (Q_r hO)

theorem LP (f0 : (List aB)) (r : Int) (h0 : rM f0 = some r) : bU Try.prog 52 [(eL aD f0)] (eI r) := by
  intro H0
  refine cB Try.func52 ?_
  have hO := aN.start H0
  unfold rM at h0
  refine aT aG 1 [] [] ?_
  refine aP ?_
  refine aP ?_
  refine aS aG 8 ?_
  refine bI 1 ?_
  obtain ⟨x1, hx2, h0⟩ := aV h0
  refine cD (rR f0 _ hx2) hO ?_
  intro H hO
  refine bA ?_
  refine bO [] [(14, (aJ ((!x1) || (decide ((lN f0) = (0 : Int))))))] ?_
  refine bH h0 (fun h0 => ?_) (fun h0 => ?_)
  · refine bT aG 1 [(2, (eI (0 : Int)))] ?_
    refine bG ?_
    obtain rfl := oI h0
    exact aI (aW (Q_r hO))
  refine bK ?_
  refine bD [(0, (eL aD f0))] ?_
  refine aT aG 2 [] [(3, (eI (0 : Int))), (4, (eI (0 : Int)))] ?_
  refine dJ (fun T H => ∃ v3 : Int, ∃ eE : Int, Has T [(0, (eL aD f0)), (3, (eI v3)), (4, (eI eE))] ∧ aN ⟨H0, [], []⟩ H [] ∧ nR f0 v3 eE = some r) ?_ ?_
  · clear hO h0
    rintro T H ⟨v3, eE, hT, hO, h0⟩
    refine aZ hT ?_
    clear hT
    unfold nR at h0
    refine dJ (fun T H => ∃ eE : Int, Has T [(4, (eI eE))] ∧ aN ⟨H0, [], []⟩ H [] ∧ qB eE = some r) ?_ ?_
    · clear hO h0
      rintro T H ⟨eE, hT, hO, h0⟩
      refine aZ hT ?_
      clear hT
      unfold qB at h0
      refine bT aG 2 [(2, (eI eE))] ?_
      refine bG ?_
      obtain rfl := oI h0
      exact aI (Q_r hO)
    refine aT aG 3 [0] [(24, (eL aD f0)), (25, (eI (lN f0))), (26, (eI (0 : Int)))] ?_
    refine bR 0 ?_
    refine dQ [(3, (eI v3)), (4, (eI eE)), (24, (eL aD f0)), (25, (eI (lN f0))), (26, (eI (0 : Int)))] ?_
    refine cV (fun T H => ∃ v3 : Int, ∃ eE : Int, ∃ t24 : (List aB), ∃ t25 : Int, ∃ t26 : Int, Has T [(3, (eI v3)), (4, (eI eE)), (24, (eL aD t24)), (25, (eI t25)), (26, (eI t26))] ∧ aN ⟨H0, [], []⟩ H [] ∧ qC v3 eE t24 t25 t26 = some r) ?_ ⟨v3, eE, f0, (lN f0), (0 : Int), .eq (by kernel_rfl), hO, h0⟩
    clear hO h0
    rintro T H ⟨v3, eE, t24, t25, t26, hT, hO, h0⟩
    refine aZ hT ?_
    clear hT
    unfold qC at h0
    obtain ⟨rr0, hl0, h0⟩ := aV h0
    refine bZ (by kernel_rfl) (fun (s : Int × Int × Int) T H => Has T [(3, (eI s.1)), (4, (eI s.2.1)), (24, (eL aD t24)), (25, (eI t25)), (26, (eI s.2.2))] ∧ aN ⟨H0, [], []⟩ H []) hl0 ⟨.eq (by kernel_rfl), hO⟩ ?_
    clear hO
    rintro k0 s out1 T H ⟨hT, hO⟩ h1 ho0
    obtain ⟨v3, eE, t26⟩ := s
    replace h1 : lK t24 t25 v3 eE t26 = some out1 := h1
    dsimp only at hT
    refine aZ hT ?_
    clear hT
    unfold lK at h1
    refine aT aG 1 [] [(27, (aJ (decide (t26 < t25))))] ?_
    refine aP ?_
    refine bH h1 (fun h1 => ?_) (fun h1 => ?_)
    · refine bK ?_
      refine bD [(3, (eI v3)), (4, (eI eE)), (24, (eL aD t24)), (25, (eI t25)), (26, (eI t26))] ?_
      refine aP ?_
      refine bR 1 ?_
      refine aP ?_
      refine aS aG 4 ?_
      obtain ⟨c6, h1⟩ := bF h1
      refine wE 2 [0 ≤ t26 ∧ t26 < (lN t24)] ⟨c6, trivial⟩ ?_
      refine pL 2 (aD (aB.mk 0 0)) (by kernel_rfl) (by kernel_rfl) hO ?_
      intro lo7 H hO
      refine nN 0 lo7 2 0 (aD (aB.mk 0 0)) (aD (gD t24 t26)) [(aD (aB.mk 0 0))] [(lo7, 2, [(aD (gD t24 t26))])] hO rfl (by kernel_rfl) ?_
      intro H hO
      refine cQ ?_
      refine bO [] [(6, (.lp lo7 0 0))] ?_
      refine aP ?_
      refine aS aG 5 ?_
      refine bI 2 ?_
      refine uD 0 lo7 2 0 (aD (gD t24 t26)) (eI ((gD t24 t26).Net)) [(aD (gD t24 t26))] hO rfl ?_
      refine bA ?_
      replace hO := hO.pick (L' := []) [] (by decide) (by kernel_rfl)
      refine bO [3, 6] [(3, (eI (wR (v3 + ((gD t24 t26).Net)))))] ?_
      refine aS aG 4 ?_
      refine bA ?_
      refine hU [(3, (eI (wR (v3 + ((gD t24 t26).Net))))), (4, (eI (if (wR (v3 + ((gD t24 t26).Net))) < eE then (wR (v3 + ((gD t24 t26).Net))) else eE))), (24, (eL aD t24)), (25, (eI t25)), (26, (eI t26))] ?_
      refine aI (aX (aH (?_)))
      refine aS aG 2 ?_
      refine bA ?_
      exact aI (aH (⟨rfl, _, (oI h1).symm, .eq (by kernel_rfl), hO⟩))
    refine eR 0 ?_
    obtain rfl := oI h1
    obtain rfl : _ = rr0 := ho0
    replace h0 : qB eE = some r := h0
    exact aI (aU (aU (bM (aH (⟨rfl, _, .eq (by kernel_rfl), hO, h0⟩)))))
  refine aP ?_
  refine aS aG 5 ?_
  obtain ⟨c8, h0⟩ := bF h0
  refine tH [0 ≤ (0 : Int) ∧ (0 : Int) < (lN f0)] ⟨c8, trivial⟩ ?_
  refine bO [] [(19, (aJ (decide (((gD f0 (0 : Int)).At) = (-1 : Int)))))] ?_
  refine bH h0 (fun h0 => ?_) (fun h0 => ?_)
  · refine aS aG 5 ?_
    obtain ⟨c10, h0⟩ := bF h0
    refine tH [0 ≤ (0 : Int) ∧ (0 : Int) < (lN f0)] ⟨c10, trivial⟩ ?_
    exact aI (aH (⟨rfl, _, _, .eq (by kernel_rfl), hO, h0⟩))
  refine bK ?_
  exact aI (aH (⟨rfl, _, _, .eq (by kernel_rfl), hO, h0⟩))

theorem HH (f0 : (List aB)) (r : Bool) (h0 : oS f0 = some r) : bU Try.prog 50 [(eL aD f0)] (aJ r) := by
  intro H0
  refine cB Try.func50 ?_
  have hO := aN.start H0
  unfold oS at h0
  refine aT aG 1 [] [] ?_
  refine aP ?_
  refine aS aG 8 ?_
  refine bI 1 ?_
  obtain ⟨x1, hx2, h0⟩ := aV h0
  refine cD (rR f0 _ hx2) hO ?_
  intro H hO
  refine bI 4 ?_
  obtain ⟨x4, hx5, h0⟩ := aV h0
  refine oT [(5, true)] 52 [(eL aD f0)] (eI x4) x1 (by kernel_rfl) (by kernel_rfl) (by kernel_rfl) (fun hb6 => (LP f0 _ (pX hx5 hb6))) hO ?_
  intro H hO
  refine bA ?_
  refine bD [(2, (aJ (x1 && (decide ((0 : Int) ≤ x4)))))] ?_
  refine bG ?_
  obtain rfl := oI h0
  exact aI (Q_r hO)

theorem OF (l0 : (List aC)) (r : Bool) (h0 : rD l0 = some r) : bU Try.prog 17 [(eL aE l0)] (aJ r) := by
  intro H0
  refine cB Try.func17 ?_
  have hO := aN.start H0
  unfold rD at h0
  refine aT aG 1 [] [] ?_
  refine aP ?_
  refine aS aG 3 ?_
  refine bI 1 ?_
  obtain ⟨x1, hx2, h0⟩ := aV h0
  refine cD (DR l0 50 [] [] (fun y0 => oS y0) (fun y0 r h => HH y0 r h) _ hx2) hO ?_
  intro H hO
  refine bA ?_
  refine bD [(2, (aJ x1))] ?_
  refine bG ?_
  obtain rfl := oI h0
  exact aI (Q_r hO)

theorem JW (t0 : Int) (t1 : Int) (r : Int) (h0 : sW t0 t1 = some r) : bU Try.prog 43 [(eI t0), (.rp (eI t1))] (eI r) := by
  intro H0
  refine cB Try.func43 ?_
  have hO := aN.start H0
  unfold sW at h0
  refine aT aG 1 [] [] ?_
  refine bT aG 5 [(3, (eI (if (1125899906842624 : Int) < (wR (t0 + t1)) then (1125899906842624 : Int) else (wR (t0 + t1)))))] ?_
  refine bG ?_
  obtain rfl := oI h0
  exact aI (Q_r hO)

theorem qZ (s0 : (List aC)) (f1_f : Nat) (f1_a f1_c : List V) (f1 : aC → Option Bool) (f1_h : ∀ a0 r, f1 a0 = some r → bU Try.prog f1_f (f1_a ++ [(aE a0)] ++ f1_c) (aJ r)) (r : Int) (h0 : eN s0 f1 = some r) : bU Try.prog 86 [(eL aE s0), (.fn (.func f1_f) f1_a f1_c)] (eI r) := by
  intro H0
  refine cB Try.func86 ?_
  have hO := aN.start H0
  unfold eN at h0
  refine aT aG 1 [] [] ?_
  refine dJ (fun T H => Has T [] ∧ aN ⟨H0, [], []⟩ H [] ∧ cZ f1  = some r) ?_ ?_
  · clear hO h0
    rintro T H ⟨hT, hO, h0⟩
    refine aZ hT ?_
    clear hT
    unfold cZ at h0
    refine bT aG 1 [(4, (eI (-1 : Int)))] ?_
    refine bG ?_
    obtain rfl := oI h0
    exact aI (Q_r hO)
  refine aT aG 3 [] [(7, (eI (lN s0))), (8, (eI (0 : Int)))] ?_
  refine bR 0 ?_
  refine dQ [(0, (eL aE s0)), (1, (.fn (.func f1_f) f1_a f1_c)), (7, (eI (lN s0))), (8, (eI (0 : Int)))] ?_
  refine cV (fun T H => ∃ t7 : Int, ∃ t8 : Int, Has T [(0, (eL aE s0)), (1, (.fn (.func f1_f) f1_a f1_c)), (7, (eI t7)), (8, (eI t8))] ∧ aN ⟨H0, [], []⟩ H [] ∧ eM f1 s0 t7 t8 = some r) ?_ ⟨(lN s0), (0 : Int), .eq (by kernel_rfl), hO, h0⟩
  clear hO h0
  rintro T H ⟨t7, t8, hT, hO, h0⟩
  refine aZ hT ?_
  clear hT
  unfold eM at h0
  obtain ⟨rr0, hl0, h0⟩ := aV h0
  refine bZ (by kernel_rfl) (fun (s : Int) T H => Has T [(0, (eL aE s0)), (1, (.fn (.func f1_f) f1_a f1_c)), (7, (eI t7)), (8, (eI s))] ∧ aN ⟨H0, [], []⟩ H []) hl0 ⟨.eq (by kernel_rfl), hO⟩ ?_
  clear hO
  rintro k0 s out1 T H ⟨hT, hO⟩ h1 ho0
  obtain ⟨t8, rfl⟩ : ∃ x, x = s := ⟨_, rfl⟩
  replace h1 : eH f1 s0 t7 t8 = some out1 := h1
  refine aZ hT ?_
  clear hT
  unfold eH at h1
  refine aT aG 1 [] [(9, (aJ (decide (t8 < t7))))] ?_
  refine aP ?_
  refine bH h1 (fun h1 => ?_) (fun h1 => ?_)
  · refine bK ?_
    refine bD [(0, (eL aE s0)), (1, (.fn (.func f1_f) f1_a f1_c)), (7, (eI t7)), (8, (eI t8))] ?_
    refine aP ?_
    refine bR 1 ?_
    refine aT aG 2 [] [(5, (eI t8))] ?_
    refine aP ?_
    refine aS aG 6 ?_
    obtain ⟨c2, h1⟩ := bF h1
    refine wE 5 [0 ≤ t8 ∧ t8 < (lN s0)] ⟨c2, trivial⟩ ?_
    obtain ⟨x3, hx4, h1⟩ := aV h1
    refine cD (f1_h (gD s0 t8) _ hx4) hO ?_
    intro H hO
    refine cQ ?_
    refine bO [] [(16, (aJ x3))] ?_
    refine bH h1 (fun h1 => ?_) (fun h1 => ?_)
    · refine bT aG 2 [(4, (eI t8))] ?_
      refine bG ?_
      obtain rfl := oI h1
      obtain rfl : _ = rr0 := ho0
      replace h0 : some t8 = some r := h0
      obtain rfl := oI h0
      exact aI (bS (aW (aW (bS (aW (Q_r hO))))))
    refine bK ?_
    refine hU [(0, (eL aE s0)), (1, (.fn (.func f1_f) f1_a f1_c)), (7, (eI t7)), (8, (eI t8))] ?_
    refine aI (aX (aH (?_)))
    refine aS aG 2 ?_
    refine bA ?_
    exact aI (aH (⟨rfl, _, (oI h1).symm, .eq (by kernel_rfl), hO⟩))
  refine eR 0 ?_
  obtain rfl := oI h1
  obtain rfl : _ = rr0 := ho0
  replace h0 : cZ f1  = some r := h0
  exact aI (aU (aU (bM (aH (⟨rfl, .eq (by kernel_rfl), hO, h0⟩)))))

theorem lG (s0 : (List aC)) (f1_f : Nat) (f1_a f1_c : List V) (f1 : aC → Option Bool) (f1_h : ∀ a0 r, f1 a0 = some r → bU Try.prog f1_f (f1_a ++ [(aE a0)] ++ f1_c) (aJ r)) (r : Bool) (h0 : cG s0 f1 = some r) : bU Try.prog 53 [(eL aE s0), (.fn (.func f1_f) f1_a f1_c)] (aJ r) := by
  intro H0
  refine cB Try.func53 ?_
  have hO := aN.start H0
  unfold cG at h0
  refine aT aG 1 [] [] ?_
  refine aP ?_
  refine aS aG 5 ?_
  refine bI 2 ?_
  obtain ⟨x1, hx2, h0⟩ := aV h0
  refine cD (qZ s0 f1_f f1_a f1_c f1 f1_h _ hx2) hO ?_
  intro H hO
  refine bA ?_
  refine bD [(4, (aJ (decide ((0 : Int) ≤ x1))))] ?_
  refine bG ?_
  obtain rfl := oI h0
  exact aI (Q_r hO)

theorem KF (x0 : aC) (r : Bool) (h0 : pT x0 = some r) : bU Try.prog 54 [(aE x0)] (aJ r) := by
  intro H0
  refine cB Try.func54 ?_
  have hO := aN.start H0
  unfold pT at h0
  refine aP ?_
  refine aS aG 2 ?_
  refine kC 3 (aE x0) (by kernel_rfl) (by kernel_rfl) ?_
  refine bA ?_
  refine bD [(1, (.rp (aE x0)))] ?_
  refine aP ?_
  refine aS aG 15 ?_
  refine bI 2 ?_
  obtain ⟨x1, hx2, h0⟩ := aV h0
  refine cD (xZ x0.Row _ hx2) hO ?_
  intro H hO
  refine bA ?_
  refine bD [(2, (aJ (((!x1) || (decide ((1048576 : Int) < x0.Net))) || (decide (x0.Net < (-1048576 : Int))))))] ?_
  refine bG ?_
  obtain rfl := oI h0
  exact aI (Q_r hO)

theorem JY (x0 : aC) (r : Bool) (h0 : qA x0 = some r) : bU Try.prog 56 [(aE x0)] (aJ r) := by
  intro H0
  refine cB Try.func56 ?_
  have hO := aN.start H0
  unfold qA at h0
  refine aP ?_
  refine aS aG 2 ?_
  refine kC 3 (aE x0) (by kernel_rfl) (by kernel_rfl) ?_
  refine bA ?_
  refine bD [(1, (.rp (aE x0)))] ?_
  refine bT aG 9 [(2, (aJ ((decide (x0.At < (-1 : Int))) || (decide ((1125899906842624 : Int) < x0.At)))))] ?_
  refine bG ?_
  obtain rfl := oI h0
  exact aI (Q_r hO)

theorem tJ (s0 : (List aC)) (r : (List aC)) (h0 : dZ s0 = some r) : wL Try.prog 57 [(eL aE s0)] (fun lo => (.msl 3 lo 0 (List.length r))) 3 (List.map aE r) := by
  intro H0
  refine cB Try.func57 ?_
  have hO := aN.start H0
  unfold dZ at h0
  refine aT aG 1 [] [] ?_
  refine aP ?_
  refine aP ?_
  refine aS aG 2 ?_
  refine bI 1 ?_
  refine WZ false (List.length s0) (fun i => aE (List.getD s0 i default)) (by kernel_rfl) (by kernel_rfl) ?_
  intro b1 hn2
  refine cQ ?_
  refine bO [] [(4, (aJ b1))] ?_
  refine mP (b1) (fun hc3 => ?_) (fun hc3 => ?_)
  · replace h0 : some ([] : List aC) = some r := by
      have hl := List.eq_nil_of_length_eq_zero (hn2 hc3)
      rw [hl] at h0
      exact (bF h0).2
    refine bT aG 1 [(2, (.sl true 0 (fun _ => .bad)))] ?_
    refine bG ?_
    refine hU [(2, (.sl true 0 (fun _ => .bad)))] ?_
    refine LI (el := (fun _ => .bad)) 0 2 3 hO (by kernel_rfl) ?_
    intro lo4 H5 hO
    obtain rfl := oI h0
    exact aI (aW (oQ (x := (.msl 3 lo4 0 (List.length ([] : List aC)))) (by kernel_rfl) (aR.refl _) ⟨lo4, rfl, hO⟩))
  · refine bK ?_
    refine bD [(0, (eL aE s0))] ?_
    refine aP ?_
    refine aS aG 4 ?_
    refine rX (xs := []) (k := 3) (by kernel_rfl) (by kernel_rfl) ?_
    refine bI 2 ?_
    obtain ⟨c7, h0⟩ := bF h0
    refine HU (e := aE) s0 (fun _ => .bad) 3 40 (eL aE s0) (fun lo6 => [(lo6, 3, List.map aE s0)]) (by kernel_rfl) (by kernel_rfl) hO (HS (fun _ => by kernel_rfl)) c7 (fun _ => by kernel_rfl) ?_
    intro lo6 H hO
    refine bA ?_
    refine bD [(2, (.msl 3 lo6 0 (List.length s0)))] ?_
    refine bG ?_
    obtain rfl := oI h0
    exact aI (oQ (x := (.msl 3 lo6 0 (List.length s0))) (by kernel_rfl) (aR.refl _) ⟨lo6, rfl, hO⟩)

theorem lS (lo0p : Nat) (aA : (List aC)) (a1 : Int) (b2 : Int) (cmp3_f : Nat) (cmp3_a cmp3_c : List V) (cmp3 : aC → aC → Option Int) (cmp3_h : ∀ a0 a1 r, cmp3 a0 a1 = some r → bU Try.prog cmp3_f (cmp3_a ++ [(aE a0), (aE a1)] ++ cmp3_c) (eI r)) (r : List aC) (h0 : cU aA a1 b2 cmp3 = some r) : jX Try.prog 112 lo0p 3 (List.map aE aA) (List.map aE r) [(.msl 3 lo0p 0 (List.length aA)), (eI a1), (eI b2), (.fn (.func cmp3_f) cmp3_a cmp3_c)] (.tup []) := by
  intro H0 hl0
  refine cB Try.func112 ?_
  have hO := aN.oJ hl0
  clear hl0
  obtain ⟨N0, hN0⟩ : ∃ n, n = List.length aA := ⟨_, rfl⟩
  have hN : List.length aA = N0 := hN0.symm
  unfold cU at h0
  refine aT aG 3 [] [(8, (eI (wR (a1 + (1 : Int)))))] ?_
  refine bR 0 ?_
  refine dQ [(0, (.msl 3 lo0p 0 (List.length aA))), (1, (eI a1)), (2, (eI b2)), (3, (.fn (.func cmp3_f) cmp3_a cmp3_c)), (8, (eI (wR (a1 + (1 : Int)))))] ?_
  refine cV (fun T H => ∃ aA : List aC, ∃ i8 : Int, Has T [(0, (.msl 3 lo0p 0 (List.length aA))), (1, (eI a1)), (2, (eI b2)), (3, (.fn (.func cmp3_f) cmp3_a cmp3_c)), (8, (eI i8))] ∧ aN ⟨H0, [lo0p], []⟩ H [(lo0p, 3, List.map aE aA)] ∧ List.length aA = N0 ∧ gP cmp3 aA a1 b2 i8 = some r) ?_ ⟨aA, wR (a1 + (1 : Int)), .eq (by kernel_rfl), hO, hN, h0⟩
  clear hO hN h0
  rintro T H ⟨aA, i8, hT, hO, hN, h0⟩
  refine aZ hT ?_
  clear hT
  unfold gP at h0
  obtain ⟨rr0, hl0, h0⟩ := aV h0
  refine bZ (by kernel_rfl) (fun (s : List aC × Int) T H => Has T [(0, (.msl 3 lo0p 0 (List.length s.1))), (1, (eI a1)), (2, (eI b2)), (3, (.fn (.func cmp3_f) cmp3_a cmp3_c)), (8, (eI s.2))] ∧ aN ⟨H0, [lo0p], []⟩ H [(lo0p, 3, List.map aE s.1)] ∧ List.length s.1 = N0) hl0 ⟨.eq (by kernel_rfl), hO, hN⟩ ?_
  clear hO hN
  rintro k0 s out1 T H ⟨hT, hO, hN⟩ h1 ho0
  obtain ⟨aA, i8⟩ := s
  replace h1 : gT cmp3 a1 b2 aA i8 = some out1 := h1
  dsimp only at hT
  refine aZ hT ?_
  clear hT
  unfold gT at h1
  refine aP ?_
  refine aT aG 3 [] [(14, (aJ (decide (i8 < b2))))] ?_
  refine bH h1 (fun h1 => ?_) (fun h1 => ?_)
  · refine bK ?_
    refine bD [(0, (.msl 3 lo0p 0 (List.length aA))), (1, (eI a1)), (2, (eI b2)), (3, (.fn (.func cmp3_f) cmp3_a cmp3_c)), (8, (eI i8))] ?_
    refine dJ (fun T H => ∃ aA : List aC, Has T [(0, (.msl 3 lo0p 0 (List.length aA))), (1, (eI a1)), (2, (eI b2)), (3, (.fn (.func cmp3_f) cmp3_a cmp3_c)), (8, (eI i8))] ∧ aN ⟨H0, [lo0p], []⟩ H [(lo0p, 3, List.map aE aA)] ∧ List.length aA = N0 ∧ dU cmp3 aA a1 b2 i8 = some out1) ?_ ?_
    · clear hO hN h1
      rintro T H ⟨aA, hT, hO, hN, h1⟩
      refine aZ hT ?_
      clear hT
      unfold dU at h1
      refine aS aG 3 ?_
      refine bA ?_
      exact aI (aH (⟨rfl, _, (oI h1).symm, .eq (by kernel_rfl), hO, hN⟩))
    refine bR 1 ?_
    refine aT aG 2 [] [(9, (eI i8))] ?_
    refine bR 2 ?_
    refine dQ [(0, (.msl 3 lo0p 0 (List.length aA))), (1, (eI a1)), (2, (eI b2)), (3, (.fn (.func cmp3_f) cmp3_a cmp3_c)), (8, (eI i8)), (9, (eI i8))] ?_
    refine cV (fun T H => ∃ aA : List aC, ∃ j9 : Int, Has T [(0, (.msl 3 lo0p 0 (List.length aA))), (1, (eI a1)), (2, (eI b2)), (3, (.fn (.func cmp3_f) cmp3_a cmp3_c)), (8, (eI i8)), (9, (eI j9))] ∧ aN ⟨H0, [lo0p], []⟩ H [(lo0p, 3, List.map aE aA)] ∧ List.length aA = N0 ∧ gW cmp3 aA a1 b2 i8 j9 = some out1) ?_ ⟨aA, i8, .eq (by kernel_rfl), hO, hN, h1⟩
    clear hO hN h1
    rintro T H ⟨aA, j9, hT, hO, hN, h1⟩
    refine aZ hT ?_
    clear hT
    unfold gW at h1
    obtain ⟨rr1, hl1, h1⟩ := aV h1
    refine bZ (by kernel_rfl) (fun (s : List aC × Int) T H => Has T [(0, (.msl 3 lo0p 0 (List.length s.1))), (1, (eI a1)), (2, (eI b2)), (3, (.fn (.func cmp3_f) cmp3_a cmp3_c)), (8, (eI i8)), (9, (eI s.2))] ∧ aN ⟨H0, [lo0p], []⟩ H [(lo0p, 3, List.map aE s.1)] ∧ List.length s.1 = N0) hl1 ⟨.eq (by kernel_rfl), hO, hN⟩ ?_
    clear hO hN
    rintro k1 s out2 T H ⟨hT, hO, hN⟩ h2 ho1
    obtain ⟨aA, j9⟩ := s
    replace h2 : gS cmp3 a1 b2 i8 aA j9 = some out2 := h2
    dsimp only at hT
    refine aZ hT ?_
    clear hT
    unfold gS at h2
    refine aP ?_
    refine aP ?_
    obtain ⟨c2, h2⟩ := bF h2
    obtain ⟨c3, h2⟩ := bF h2
    obtain ⟨x4, hx5, h2⟩ := aV h2
    refine kE (kA []) aG 17 ?_
    refine BR (K := fun T H => Has (lift T) [(0, (.msl 3 lo0p 0 (List.length aA))), (1, (eI a1)), (2, (eI b2)), (3, (.fn (.func cmp3_f) cmp3_a cmp3_c)), (8, (eI i8)), (9, (eI j9)), (34, (aJ ((decide (a1 < j9)) && (decide (x4 < (0 : Int))))))] ∧ aN ⟨H0, [lo0p], []⟩ H [(lo0p, 3, List.map aE aA)]) ?_ ?_
    · refine tZ 4 ?_
      refine zD (t := 21) (e := decide (a1 < j9)) (by kernel_rfl) (fun hg6 => ?_) (fun hg6 => ?_)
      · refine cT 8 [0 ≤ j9 ∧ j9 < (lN aA)] ⟨(c2 hg6), trivial⟩ ?_
        refine wX 0 lo0p 3 (0 + Int.toNat j9) (aE (gD aA j9)) (aE (gD aA j9)) (List.map aE aA) (by kernel_rfl) (by kernel_rfl) (by kernel_rfl) hO (by kernel_rfl) (cH (c2 hg6)) ?_
        refine cT 13 [0 ≤ (wR (j9 - (1 : Int))) ∧ (wR (j9 - (1 : Int))) < (lN aA)] ⟨(c3 hg6), trivial⟩ ?_
        refine wX 0 lo0p 3 (0 + Int.toNat (wR (j9 - (1 : Int)))) (aE (gD aA (wR (j9 - (1 : Int))))) (aE (gD aA (wR (j9 - (1 : Int))))) (List.map aE aA) (by kernel_rfl) (by kernel_rfl) (by kernel_rfl) hO (by kernel_rfl) (cH (c3 hg6)) ?_
        refine HY cmp3_f (cmp3_a ++ [(aE (gD aA j9)), (aE (gD aA (wR (j9 - (1 : Int)))))] ++ cmp3_c) (eI x4) (by kernel_rfl) (by kernel_rfl) (cmp3_h (gD aA j9) (gD aA (wR (j9 - (1 : Int)))) _ (pX hx5 hg6)) hO ?_
        intro H hO
        refine nO ?_
        exact ⟨⟨[(0, (.msl 3 lo0p 0 (List.length aA))), (1, (eI a1)), (2, (eI b2)), (3, (.fn (.func cmp3_f) cmp3_a cmp3_c)), (8, (eI i8)), (9, (eI j9)), (34, (aJ (decide (x4 < (0 : Int)))))], by kernel_rfl, rfl, ⟨aR.refl _, aR.refl _, aR.refl _, aR.refl _, aR.refl _, aR.refl _, aR.eq (congrArg aJ (DJ hg6 rfl).symm), trivial⟩⟩, hO⟩
      refine nO ?_
      exact ⟨⟨[(0, (.msl 3 lo0p 0 (List.length aA))), (1, (eI a1)), (2, (eI b2)), (3, (.fn (.func cmp3_f) cmp3_a cmp3_c)), (8, (eI i8)), (9, (eI j9)), (34, (aJ false))], by kernel_rfl, rfl, ⟨aR.refl _, aR.refl _, aR.refl _, aR.refl _, aR.refl _, aR.refl _, aR.eq (congrArg aJ (DJ hg6 rfl).symm), trivial⟩⟩, hO⟩
    · rintro T H ⟨hT, hO⟩
      refine cE hT ?_
      clear hT
      refine aI (aH ?_)
      refine bH h2 (fun h2 => ?_) (fun h2 => ?_)
      · refine bK ?_
        refine bD [(0, (.msl 3 lo0p 0 (List.length aA))), (1, (eI a1)), (2, (eI b2)), (3, (.fn (.func cmp3_f) cmp3_a cmp3_c)), (8, (eI i8)), (9, (eI j9))] ?_
        refine aP ?_
        refine bR 3 ?_
        refine kE (kA []) aG 18 ?_
        obtain ⟨c8, h2⟩ := bF h2
        refine cT 9 [0 ≤ (wR (j9 - (1 : Int))) ∧ (wR (j9 - (1 : Int))) < (lN aA)] ⟨c8, trivial⟩ ?_
        refine kG 0 lo0p 3 (0 + Int.toNat (wR (j9 - (1 : Int)))) (aE (gD aA (wR (j9 - (1 : Int))))) (aE (gD aA (wR (j9 - (1 : Int))))) (List.map aE aA) hO (cH c8) ?_
        obtain ⟨c9, h2⟩ := bF h2
        refine cT 13 [0 ≤ j9 ∧ j9 < (lN aA)] ⟨c9, trivial⟩ ?_
        refine kG 0 lo0p 3 (0 + Int.toNat j9) (aE (gD aA j9)) (aE (gD aA j9)) (List.map aE aA) hO (cH c9) ?_
        obtain ⟨c10, h2⟩ := bF h2
        refine cT 15 [0 ≤ j9 ∧ j9 < (lN aA)] ⟨c10, trivial⟩ ?_
        refine qU 0 lo0p 3 (0 + Int.toNat j9) (aE (gD aA j9)) (aE (gD aA (wR (j9 - (1 : Int))))) (List.map aE aA) [(lo0p, 3, List.map aE (List.set aA (Int.toNat j9) (gD aA (wR (j9 - (1 : Int))))))] hO (cH c10) (by simp only [List.set, mQ]) ?_
        intro H hO
        replace hN : List.length (List.set aA (Int.toNat j9) (gD aA (wR (j9 - (1 : Int))))) = N0 := by simpa using hN
        obtain ⟨c11, h2⟩ := bF h2
        refine cT 17 [0 ≤ (wR (j9 - (1 : Int))) ∧ (wR (j9 - (1 : Int))) < (lN aA)] ⟨c11, trivial⟩ ?_
        refine qU 0 lo0p 3 (0 + Int.toNat (wR (j9 - (1 : Int)))) (aE (gD (List.set aA (Int.toNat j9) (gD aA (wR (j9 - (1 : Int))))) (wR (j9 - (1 : Int))))) (aE (gD aA j9)) (List.map aE (List.set aA (Int.toNat j9) (gD aA (wR (j9 - (1 : Int)))))) [(lo0p, 3, List.map aE (List.set (List.set aA (Int.toNat j9) (gD aA (wR (j9 - (1 : Int))))) (Int.toNat (wR (j9 - (1 : Int)))) (gD aA j9)))] hO (tM c11 (by simp [])) (by simp only [List.set, mQ]) ?_
        intro H hO
        replace hN : List.length (List.set (List.set aA (Int.toNat j9) (gD aA (wR (j9 - (1 : Int))))) (Int.toNat (wR (j9 - (1 : Int)))) (gD aA j9)) = N0 := by simpa using hN
        refine wQ (by kernel_rfl) ?_
        refine cE (l := [(0, (.msl 3 lo0p 0 (List.length (List.set (List.set aA (Int.toNat j9) (gD aA (wR (j9 - (1 : Int))))) (Int.toNat (wR (j9 - (1 : Int)))) (gD aA j9))))), (1, (eI a1)), (2, (eI b2)), (3, (.fn (.func cmp3_f) cmp3_a cmp3_c)), (8, (eI i8)), (9, (eI j9))]) ⟨[(0, (.msl 3 lo0p 0 (List.length aA))), (1, (eI a1)), (2, (eI b2)), (3, (.fn (.func cmp3_f) cmp3_a cmp3_c)), (8, (eI i8)), (9, (eI j9))], by kernel_rfl, rfl, ⟨aR.eq (by simp []), aR.refl _, aR.refl _, aR.refl _, aR.refl _, aR.refl _, trivial⟩⟩ ?_
        refine aI (aX (aH (?_)))
        refine aS aG 3 ?_
        refine bA ?_
        exact aI (aH (⟨rfl, _, (oI h2).symm, .eq (by kernel_rfl), hO, hN⟩))
      refine eR 2 ?_
      obtain rfl := oI h2
      obtain rfl : _ = rr1 := ho1
      replace h1 : dU cmp3 aA a1 b2 i8 = some out1 := h1
      exact aI (aU (aU (bM (aX (aH (⟨rfl, _, .eq (by kernel_rfl), hO, hN, h1⟩))))))
  refine eR 0 ?_
  obtain rfl := oI h1
  obtain rfl : _ = rr0 := ho0
  replace h0 : some aA = some r := h0
  obtain rfl := oI h0
  exact aI (aU (aU (bM (pK (x := (.tup [])) (by kernel_rfl) (aR.refl _) ⟨rfl, hO.ext, hO.at 0 (by kernel_rfl), by simp only [List.length_map]; exact hN.trans hN0⟩))))

theorem jS (lo0p : Nat) (aA : (List aC)) (a1 : Int) (b2 : Int) (n3 : Int) (cmp4_f : Nat) (cmp4_a cmp4_c : List V) (cmp4 : aC → aC → Option Int) (cmp4_h : ∀ a0 a1 r, cmp4 a0 a1 = some r → bU Try.prog cmp4_f (cmp4_a ++ [(aE a0), (aE a1)] ++ cmp4_c) (eI r)) (r : List aC) (h0 : dK aA a1 b2 n3 cmp4 = some r) : jX Try.prog 123 lo0p 3 (List.map aE aA) (List.map aE r) [(.msl 3 lo0p 0 (List.length aA)), (eI a1), (eI b2), (eI n3), (.fn (.func cmp4_f) cmp4_a cmp4_c)] (.tup []) := by
  intro H0 hl0
  refine cB Try.func123 ?_
  have hO := aN.oJ hl0
  clear hl0
  obtain ⟨N0, hN0⟩ : ∃ n, n = List.length aA := ⟨_, rfl⟩
  have hN : List.length aA = N0 := hN0.symm
  unfold dK at h0
  refine aT aG 1 [4] [(10, (eI (0 : Int)))] ?_
  refine bR 0 ?_
  refine dQ [(0, (.msl 3 lo0p 0 (List.length aA))), (1, (eI a1)), (2, (eI b2)), (3, (eI n3)), (10, (eI (0 : Int)))] ?_
  refine cV (fun T H => ∃ aA : List aC, ∃ i10 : Int, Has T [(0, (.msl 3 lo0p 0 (List.length aA))), (1, (eI a1)), (2, (eI b2)), (3, (eI n3)), (10, (eI i10))] ∧ aN ⟨H0, [lo0p], []⟩ H [(lo0p, 3, List.map aE aA)] ∧ List.length aA = N0 ∧ iS cmp4 aA a1 b2 n3 i10 = some r) ?_ ⟨aA, (0 : Int), .eq (by kernel_rfl), hO, hN, h0⟩
  clear hO hN h0
  rintro T H ⟨aA, i10, hT, hO, hN, h0⟩
  refine aZ hT ?_
  clear hT
  unfold iS at h0
  obtain ⟨rr0, hl0, h0⟩ := aV h0
  refine bZ (by kernel_rfl) (fun (s : List aC × Int) T H => Has T [(0, (.msl 3 lo0p 0 (List.length s.1))), (1, (eI a1)), (2, (eI b2)), (3, (eI n3)), (10, (eI s.2))] ∧ aN ⟨H0, [lo0p], []⟩ H [(lo0p, 3, List.map aE s.1)] ∧ List.length s.1 = N0) hl0 ⟨.eq (by kernel_rfl), hO, hN⟩ ?_
  clear hO hN
  rintro k0 s out1 T H ⟨hT, hO, hN⟩ h1 ho0
  obtain ⟨aA, i10⟩ := s
  replace h1 : iX cmp4 a1 b2 n3 aA i10 = some out1 := h1
  dsimp only at hT
  refine aZ hT ?_
  clear hT
  unfold iX at h1
  refine aP ?_
  refine aT aG 3 [] [(13, (aJ (decide (i10 < n3))))] ?_
  refine bH h1 (fun h1 => ?_) (fun h1 => ?_)
  · refine bK ?_
    refine bD [(0, (.msl 3 lo0p 0 (List.length aA))), (1, (eI a1)), (2, (eI b2)), (3, (eI n3)), (10, (eI i10))] ?_
    refine aP ?_
    refine bR 1 ?_
    refine kE (kA []) aG 24 ?_
    obtain ⟨c2, h1⟩ := bF h1
    refine cT 13 [0 ≤ (wR (b2 + i10)) ∧ (wR (b2 + i10)) < (lN aA)] ⟨c2, trivial⟩ ?_
    refine kG 0 lo0p 3 (0 + Int.toNat (wR (b2 + i10))) (aE (gD aA (wR (b2 + i10)))) (aE (gD aA (wR (b2 + i10)))) (List.map aE aA) hO (cH c2) ?_
    obtain ⟨c3, h1⟩ := bF h1
    refine cT 19 [0 ≤ (wR (a1 + i10)) ∧ (wR (a1 + i10)) < (lN aA)] ⟨c3, trivial⟩ ?_
    refine kG 0 lo0p 3 (0 + Int.toNat (wR (a1 + i10))) (aE (gD aA (wR (a1 + i10)))) (aE (gD aA (wR (a1 + i10)))) (List.map aE aA) hO (cH c3) ?_
    obtain ⟨c4, h1⟩ := bF h1
    refine cT 21 [0 ≤ (wR (a1 + i10)) ∧ (wR (a1 + i10)) < (lN aA)] ⟨c4, trivial⟩ ?_
    refine qU 0 lo0p 3 (0 + Int.toNat (wR (a1 + i10))) (aE (gD aA (wR (a1 + i10)))) (aE (gD aA (wR (b2 + i10)))) (List.map aE aA) [(lo0p, 3, List.map aE (List.set aA (Int.toNat (wR (a1 + i10))) (gD aA (wR (b2 + i10)))))] hO (cH c4) (by simp only [List.set, mQ]) ?_
    intro H hO
    replace hN : List.length (List.set aA (Int.toNat (wR (a1 + i10))) (gD aA (wR (b2 + i10)))) = N0 := by simpa using hN
    obtain ⟨c5, h1⟩ := bF h1
    refine cT 23 [0 ≤ (wR (b2 + i10)) ∧ (wR (b2 + i10)) < (lN aA)] ⟨c5, trivial⟩ ?_
    refine qU 0 lo0p 3 (0 + Int.toNat (wR (b2 + i10))) (aE (gD (List.set aA (Int.toNat (wR (a1 + i10))) (gD aA (wR (b2 + i10)))) (wR (b2 + i10)))) (aE (gD aA (wR (a1 + i10)))) (List.map aE (List.set aA (Int.toNat (wR (a1 + i10))) (gD aA (wR (b2 + i10))))) [(lo0p, 3, List.map aE (List.set (List.set aA (Int.toNat (wR (a1 + i10))) (gD aA (wR (b2 + i10)))) (Int.toNat (wR (b2 + i10))) (gD aA (wR (a1 + i10)))))] hO (tM c5 (by simp [])) (by simp only [List.set, mQ]) ?_
    intro H hO
    replace hN : List.length (List.set (List.set aA (Int.toNat (wR (a1 + i10))) (gD aA (wR (b2 + i10)))) (Int.toNat (wR (b2 + i10))) (gD aA (wR (a1 + i10)))) = N0 := by simpa using hN
    refine wQ (by kernel_rfl) ?_
    refine cE (l := [(0, (.msl 3 lo0p 0 (List.length (List.set (List.set aA (Int.toNat (wR (a1 + i10))) (gD aA (wR (b2 + i10)))) (Int.toNat (wR (b2 + i10))) (gD aA (wR (a1 + i10))))))), (1, (eI a1)), (2, (eI b2)), (3, (eI n3)), (10, (eI i10))]) ⟨[(0, (.msl 3 lo0p 0 (List.length aA))), (1, (eI a1)), (2, (eI b2)), (3, (eI n3)), (10, (eI i10))], by kernel_rfl, rfl, ⟨aR.eq (by simp []), aR.refl _, aR.refl _, aR.refl _, aR.refl _, trivial⟩⟩ ?_
    refine aI (aX (aH (?_)))
    refine aS aG 3 ?_
    refine bA ?_
    exact aI (aH (⟨rfl, _, (oI h1).symm, .eq (by kernel_rfl), hO, hN⟩))
  refine eR 0 ?_
  obtain rfl := oI h1
  obtain rfl : _ = rr0 := ho0
  replace h0 : some aA = some r := h0
  obtain rfl := oI h0
  exact aI (aU (aU (bM (pK (x := (.tup [])) (by kernel_rfl) (aR.refl _) ⟨rfl, hO.ext, hO.at 0 (by kernel_rfl), by simp only [List.length_map]; exact hN.trans hN0⟩))))

theorem tV (lo0p : Nat) (aA : (List aC)) (a1 : Int) (m2 : Int) (b3 : Int) (cmp4_f : Nat) (cmp4_a cmp4_c : List V) (cmp4 : aC → aC → Option Int) (cmp4_h : ∀ a0 a1 r, cmp4 a0 a1 = some r → bU Try.prog cmp4_f (cmp4_a ++ [(aE a0), (aE a1)] ++ cmp4_c) (eI r)) (r : List aC) (h0 : kR aA a1 m2 b3 cmp4 = some r) : jX Try.prog 118 lo0p 3 (List.map aE aA) (List.map aE r) [(.msl 3 lo0p 0 (List.length aA)), (eI a1), (eI m2), (eI b3), (.fn (.func cmp4_f) cmp4_a cmp4_c)] (.tup []) := by
  intro H0 hl0
  refine cB Try.func118 ?_
  have hO := aN.oJ hl0
  clear hl0
  obtain ⟨N0, hN0⟩ : ∃ n, n = List.length aA := ⟨_, rfl⟩
  have hN : List.length aA = N0 := hN0.symm
  unfold kR at h0
  refine aT aG 4 [1] [(10, (eI (wR (m2 - a1))))] ?_
  refine aT aG 4 [3] [(11, (eI (wR (b3 - m2))))] ?_
  refine dJ (fun T H => ∃ aA : List aC, ∃ i10 : Int, Has T [(0, (.msl 3 lo0p 0 (List.length aA))), (2, (eI m2)), (4, (.fn (.func cmp4_f) cmp4_a cmp4_c)), (10, (eI i10))] ∧ aN ⟨H0, [lo0p], []⟩ H [(lo0p, 3, List.map aE aA)] ∧ List.length aA = N0 ∧ gI cmp4 aA m2 i10 = some r) ?_ ?_
  · clear hO hN h0
    rintro T H ⟨aA, i10, hT, hO, hN, h0⟩
    refine aZ hT ?_
    clear hT
    unfold gI at h0
    refine aS aG 8 ?_
    refine bI 7 ?_
    obtain ⟨x1, hx2, h0⟩ := aV h0
    refine mT [(lo0p, 3, List.map aE x1)] 0 (jS lo0p aA (wR (m2 - i10)) m2 i10 cmp4_f cmp4_a cmp4_c cmp4 cmp4_h _ hx2) hO ?_
    intro H hO hl3
    simp only [List.length_map] at hl3
    replace hN := hl3.trans hN
    refine cQ ?_
    refine cE (l := [(0, (.msl 3 lo0p 0 (List.length x1)))]) ⟨[(0, (.msl 3 lo0p 0 (List.length aA)))], by kernel_rfl, rfl, ⟨aR.eq (by simp [hl3]), trivial⟩⟩ ?_
    obtain rfl := oI h0
    exact aI (pK (x := (.tup [])) (by kernel_rfl) (aR.refl _) ⟨rfl, hO.ext, hO.at 0 (by kernel_rfl), by simp only [List.length_map]; exact hN.trans hN0⟩)
  refine bR 0 ?_
  refine dQ [(0, (.msl 3 lo0p 0 (List.length aA))), (2, (eI m2)), (4, (.fn (.func cmp4_f) cmp4_a cmp4_c)), (10, (eI (wR (m2 - a1)))), (11, (eI (wR (b3 - m2))))] ?_
  refine cV (fun T H => ∃ aA : List aC, ∃ i10 : Int, ∃ j11 : Int, Has T [(0, (.msl 3 lo0p 0 (List.length aA))), (2, (eI m2)), (4, (.fn (.func cmp4_f) cmp4_a cmp4_c)), (10, (eI i10)), (11, (eI j11))] ∧ aN ⟨H0, [lo0p], []⟩ H [(lo0p, 3, List.map aE aA)] ∧ List.length aA = N0 ∧ kJ cmp4 aA m2 i10 j11 = some r) ?_ ⟨aA, wR (m2 - a1), wR (b3 - m2), .eq (by kernel_rfl), hO, hN, h0⟩
  clear hO hN h0
  rintro T H ⟨aA, i10, j11, hT, hO, hN, h0⟩
  refine aZ hT ?_
  clear hT
  unfold kJ at h0
  obtain ⟨rr0, hl0, h0⟩ := aV h0
  refine bZ (by kernel_rfl) (fun (s : List aC × Int × Int) T H => Has T [(0, (.msl 3 lo0p 0 (List.length s.1))), (2, (eI m2)), (4, (.fn (.func cmp4_f) cmp4_a cmp4_c)), (10, (eI s.2.1)), (11, (eI s.2.2))] ∧ aN ⟨H0, [lo0p], []⟩ H [(lo0p, 3, List.map aE s.1)] ∧ List.length s.1 = N0) hl0 ⟨.eq (by kernel_rfl), hO, hN⟩ ?_
  clear hO hN
  rintro k0 s out1 T H ⟨hT, hO, hN⟩ h1 ho0
  obtain ⟨aA, i10, j11⟩ := s
  replace h1 : kL cmp4 m2 aA i10 j11 = some out1 := h1
  dsimp only at hT
  refine aZ hT ?_
  clear hT
  unfold kL at h1
  refine aP ?_
  refine aT aG 3 [] [(20, (aJ (!decide (i10 = j11))))] ?_
  refine bH h1 (fun h1 => ?_) (fun h1 => ?_)
  · refine bK ?_
    refine bD [(0, (.msl 3 lo0p 0 (List.length aA))), (2, (eI m2)), (4, (.fn (.func cmp4_f) cmp4_a cmp4_c)), (10, (eI i10)), (11, (eI j11))] ?_
    refine bR 1 ?_
    refine aT aG 3 [] [(23, (aJ (decide (j11 < i10))))] ?_
    refine bH h1 (fun h1 => ?_) (fun h1 => ?_)
    · refine aP ?_
      refine aS aG 8 ?_
      refine bI 7 ?_
      obtain ⟨x6, hx7, h1⟩ := aV h1
      refine mT [(lo0p, 3, List.map aE x6)] 0 (jS lo0p aA (wR (m2 - i10)) m2 j11 cmp4_f cmp4_a cmp4_c cmp4 cmp4_h _ hx7) hO ?_
      intro H hO hl8
      simp only [List.length_map] at hl8
      replace hN := hl8.trans hN
      refine cQ ?_
      refine cE (l := [(0, (.msl 3 lo0p 0 (List.length x6))), (2, (eI m2)), (4, (.fn (.func cmp4_f) cmp4_a cmp4_c)), (10, (eI i10)), (11, (eI j11))]) ⟨[(0, (.msl 3 lo0p 0 (List.length aA))), (2, (eI m2)), (4, (.fn (.func cmp4_f) cmp4_a cmp4_c)), (10, (eI i10)), (11, (eI j11))], by kernel_rfl, rfl, ⟨aR.eq (by simp [hl8]), aR.refl _, aR.refl _, aR.refl _, aR.refl _, trivial⟩⟩ ?_
      refine aI (aH (?_))
      refine aS aG 4 ?_
      refine bA ?_
      exact aI (aX (aH (⟨rfl, _, (oI h1).symm, .eq (by kernel_rfl), hO, hN⟩)))
    refine aP ?_
    refine aS aG 12 ?_
    refine bI 11 ?_
    obtain ⟨x9, hx10, h1⟩ := aV h1
    refine mT [(lo0p, 3, List.map aE x9)] 0 (jS lo0p aA (wR (m2 - i10)) (wR ((wR (m2 + j11)) - i10)) i10 cmp4_f cmp4_a cmp4_c cmp4 cmp4_h _ hx10) hO ?_
    intro H hO hl11
    simp only [List.length_map] at hl11
    replace hN := hl11.trans hN
    refine cQ ?_
    refine cE (l := [(0, (.msl 3 lo0p 0 (List.length x9))), (2, (eI m2)), (4, (.fn (.func cmp4_f) cmp4_a cmp4_c)), (10, (eI i10)), (11, (eI j11))]) ⟨[(0, (.msl 3 lo0p 0 (List.length aA))), (2, (eI m2)), (4, (.fn (.func cmp4_f) cmp4_a cmp4_c)), (10, (eI i10)), (11, (eI j11))], by kernel_rfl, rfl, ⟨aR.eq (by simp [hl11]), aR.refl _, aR.refl _, aR.refl _, aR.refl _, trivial⟩⟩ ?_
    refine aI (aH (?_))
    refine aS aG 4 ?_
    refine bA ?_
    exact aI (aX (aH (⟨rfl, _, (oI h1).symm, .eq (by kernel_rfl), hO, hN⟩)))
  refine eR 0 ?_
  obtain rfl := oI h1
  obtain rfl : _ = rr0 := ho0
  replace h0 : gI cmp4 aA m2 i10 = some r := h0
  exact aI (aU (aU (bM (aH (⟨rfl, _, _, .eq (by kernel_rfl), hO, hN, h0⟩)))))

theorem qJ (cmp4_f : Nat) (cmp4_a cmp4_c : List V) (cmp4 : aC → aC → Option Int) (cmp4_h : ∀ a0 a1 r, cmp4 a0 a1 = some r → bU Try.prog cmp4_f (cmp4_a ++ [(aE a0), (aE a1)] ++ cmp4_c) (eI r)) (rec : (List aC) → Int → Int → Int → Option (List aC)) (ih : ∀ (lo0p : Nat) (aA : (List aC)) (a1 : Int) (m2 : Int) (b3 : Int) (r : List aC), rec aA a1 m2 b3 = some r → jX Try.prog 113 lo0p 3 (List.map aE aA) (List.map aE r) [(.msl 3 lo0p 0 (List.length aA)), (eI a1), (eI m2), (eI b3), (.fn (.func cmp4_f) cmp4_a cmp4_c)] (.tup [])) (lo0p : Nat) (aA : (List aC)) (a1 : Int) (m2 : Int) (b3 : Int) (r : List aC) (h0 : dA cmp4 rec aA a1 m2 b3 = some r) : jX Try.prog 113 lo0p 3 (List.map aE aA) (List.map aE r) [(.msl 3 lo0p 0 (List.length aA)), (eI a1), (eI m2), (eI b3), (.fn (.func cmp4_f) cmp4_a cmp4_c)] (.tup []) := by
  intro H0 hl0
  refine cB Try.func113 ?_
  have hO := aN.oJ hl0
  clear hl0
  obtain ⟨N0, hN0⟩ : ∃ n, n = List.length aA := ⟨_, rfl⟩
  have hN : List.length aA = N0 := hN0.symm
  unfold dA at h0
  refine dJ (fun T H => ∃ aA : List aC, Has T [(0, (.msl 3 lo0p 0 (List.length aA))), (1, (eI a1)), (2, (eI m2)), (3, (eI b3)), (4, (.fn (.func cmp4_f) cmp4_a cmp4_c))] ∧ aN ⟨H0, [lo0p], []⟩ H [(lo0p, 3, List.map aE aA)] ∧ List.length aA = N0 ∧ jL cmp4 rec aA a1 m2 b3 = some r) ?_ ?_
  · clear hO hN h0
    rintro T H ⟨aA, hT, hO, hN, h0⟩
    refine aZ hT ?_
    clear hT
    unfold jL at h0
    refine dJ (fun T H => ∃ aA : List aC, Has T [(0, (.msl 3 lo0p 0 (List.length aA))), (1, (eI a1)), (2, (eI m2)), (3, (eI b3)), (4, (.fn (.func cmp4_f) cmp4_a cmp4_c))] ∧ aN ⟨H0, [lo0p], []⟩ H [(lo0p, 3, List.map aE aA)] ∧ List.length aA = N0 ∧ jN cmp4 rec aA a1 m2 b3 = some r) ?_ ?_
    · clear hO hN h0
      rintro T H ⟨aA, hT, hO, hN, h0⟩
      refine aZ hT ?_
      clear hT
      unfold jN at h0
      refine aP ?_
      refine aS aG 7 ?_
      obtain ⟨c1, h0⟩ := bF h0
      refine tH [0 ≤ (1 : Int)] ⟨c1, trivial⟩ ?_
      refine bO [] [(18, (eI (wR (Int.fdiv (IntKind.u64.wrap (wR (a1 + b3))) (2 ^ (min (Int.toNat (1 : Int)) 64))))))] ?_
      refine aT aG 4 [] [(19, (eI (wR ((wR (Int.fdiv (IntKind.u64.wrap (wR (a1 + b3))) (2 ^ (min (Int.toNat (1 : Int)) 64)))) + m2))))] ?_
      refine aT aG 2 [] [] ?_
      refine dJ (fun T H => ∃ aA : List aC, ∃ bJ : Int, ∃ n19 : Int, ∃ aO : Int, ∃ r21 : Int, Has T [(0, (.msl 3 lo0p 0 (List.length aA))), (1, (eI a1)), (2, (eI m2)), (3, (eI b3)), (4, (.fn (.func cmp4_f) cmp4_a cmp4_c)), (18, (eI bJ)), (19, (eI n19)), (20, (eI aO)), (21, (eI r21))] ∧ aN ⟨H0, [lo0p], []⟩ H [(lo0p, 3, List.map aE aA)] ∧ List.length aA = N0 ∧ fF cmp4 rec aA a1 m2 b3 bJ n19 aO r21 = some r) ?_ ?_
      · clear hO hN h0
        rintro T H ⟨aA, bJ, n19, aO, r21, hT, hO, hN, h0⟩
        refine aZ hT ?_
        clear hT
        unfold fF at h0
        refine aT aG 3 [] [(22, (eI (wR (n19 - (1 : Int)))))] ?_
        refine dJ (fun T H => ∃ aA : List aC, ∃ aO : Int, Has T [(0, (.msl 3 lo0p 0 (List.length aA))), (1, (eI a1)), (2, (eI m2)), (3, (eI b3)), (4, (.fn (.func cmp4_f) cmp4_a cmp4_c)), (18, (eI bJ)), (19, (eI n19)), (20, (eI aO))] ∧ aN ⟨H0, [lo0p], []⟩ H [(lo0p, 3, List.map aE aA)] ∧ List.length aA = N0 ∧ fA cmp4 rec aA a1 m2 b3 bJ n19 aO = some r) ?_ ?_
        · clear hO hN h0
          rintro T H ⟨aA, aO, hT, hO, hN, h0⟩
          refine aZ hT ?_
          clear hT
          unfold fA at h0
          refine aT aG 4 [19] [(24, (eI (wR (n19 - aO))))] ?_
          refine dJ (fun T H => ∃ aA : List aC, ∃ dD : Int, Has T [(0, (.msl 3 lo0p 0 (List.length aA))), (1, (eI a1)), (3, (eI b3)), (4, (.fn (.func cmp4_f) cmp4_a cmp4_c)), (18, (eI bJ)), (20, (eI aO)), (24, (eI dD))] ∧ aN ⟨H0, [lo0p], []⟩ H [(lo0p, 3, List.map aE aA)] ∧ List.length aA = N0 ∧ fO cmp4 rec aA a1 b3 bJ aO dD = some r) ?_ ?_
          · clear hO hN h0
            rintro T H ⟨aA, dD, hT, hO, hN, h0⟩
            refine aZ hT ?_
            clear hT
            unfold fO at h0
            refine dJ (fun T H => ∃ aA : List aC, Has T [(0, (.msl 3 lo0p 0 (List.length aA))), (3, (eI b3)), (4, (.fn (.func cmp4_f) cmp4_a cmp4_c)), (18, (eI bJ)), (24, (eI dD))] ∧ aN ⟨H0, [lo0p], []⟩ H [(lo0p, 3, List.map aE aA)] ∧ List.length aA = N0 ∧ fG cmp4 rec aA b3 bJ dD = some r) ?_ ?_
            · clear hO hN h0
              rintro T H ⟨aA, hT, hO, hN, h0⟩
              refine aZ hT ?_
              clear hT
              unfold fG at h0
              refine aT aG 8 [] [(213, (aJ ((decide (bJ < dD)) && (decide (dD < b3)))))] ?_
              refine bH h0 (fun h0 => ?_) (fun h0 => ?_)
              · refine aS aG 6 ?_
                refine bI 5 ?_
                obtain ⟨x3, hx4, h0⟩ := aV h0
                refine mT [(lo0p, 3, List.map aE x3)] 0 (ih lo0p aA bJ dD b3 _ hx4) hO ?_
                intro H hO hl5
                simp only [List.length_map] at hl5
                replace hN := hl5.trans hN
                refine cQ ?_
                refine cE (l := [(0, (.msl 3 lo0p 0 (List.length x3)))]) ⟨[(0, (.msl 3 lo0p 0 (List.length aA)))], by kernel_rfl, rfl, ⟨aR.eq (by simp [hl5]), trivial⟩⟩ ?_
                obtain rfl := oI h0
                exact aI (pK (x := (.tup [])) (by kernel_rfl) (aR.refl _) ⟨rfl, hO.ext, hO.at 0 (by kernel_rfl), by simp only [List.length_map]; exact hN.trans hN0⟩)
              refine bK ?_
              obtain rfl := oI h0
              exact aI (pK (x := (.tup [])) (by kernel_rfl) (aR.refl _) ⟨rfl, hO.ext, hO.at 0 (by kernel_rfl), by simp only [List.length_map]; exact hN.trans hN0⟩)
            refine aT aG 8 [] [(199, (aJ ((decide (a1 < aO)) && (decide (aO < bJ)))))] ?_
            refine bH h0 (fun h0 => ?_) (fun h0 => ?_)
            · refine aS aG 6 ?_
              refine bI 5 ?_
              obtain ⟨x7, hx8, h0⟩ := aV h0
              refine mT [(lo0p, 3, List.map aE x7)] 0 (ih lo0p aA a1 aO bJ _ hx8) hO ?_
              intro H hO hl9
              simp only [List.length_map] at hl9
              replace hN := hl9.trans hN
              refine cQ ?_
              refine cE (l := [(0, (.msl 3 lo0p 0 (List.length x7))), (3, (eI b3)), (4, (.fn (.func cmp4_f) cmp4_a cmp4_c)), (18, (eI bJ)), (24, (eI dD))]) ⟨[(0, (.msl 3 lo0p 0 (List.length aA))), (3, (eI b3)), (4, (.fn (.func cmp4_f) cmp4_a cmp4_c)), (18, (eI bJ)), (24, (eI dD))], by kernel_rfl, rfl, ⟨aR.eq (by simp [hl9]), aR.refl _, aR.refl _, aR.refl _, aR.refl _, trivial⟩⟩ ?_
              exact aI (aH (⟨rfl, _, .eq (by kernel_rfl), hO, hN, h0⟩))
            refine bK ?_
            exact aI (aH (⟨rfl, _, .eq (by kernel_rfl), hO, hN, h0⟩))
          refine aT aG 8 [] [(185, (aJ ((decide (aO < m2)) && (decide (m2 < (wR (n19 - aO)))))))] ?_
          refine bH h0 (fun h0 => ?_) (fun h0 => ?_)
          · refine aS aG 6 ?_
            refine bI 5 ?_
            obtain ⟨x11, hx12, h0⟩ := aV h0
            refine mT [(lo0p, 3, List.map aE x11)] 0 (tV lo0p aA aO m2 (wR (n19 - aO)) cmp4_f cmp4_a cmp4_c cmp4 cmp4_h _ hx12) hO ?_
            intro H hO hl13
            simp only [List.length_map] at hl13
            replace hN := hl13.trans hN
            refine cQ ?_
            refine cE (l := [(0, (.msl 3 lo0p 0 (List.length x11))), (1, (eI a1)), (3, (eI b3)), (4, (.fn (.func cmp4_f) cmp4_a cmp4_c)), (18, (eI bJ)), (20, (eI aO)), (24, (eI (wR (n19 - aO))))]) ⟨[(0, (.msl 3 lo0p 0 (List.length aA))), (1, (eI a1)), (3, (eI b3)), (4, (.fn (.func cmp4_f) cmp4_a cmp4_c)), (18, (eI bJ)), (20, (eI aO)), (24, (eI (wR (n19 - aO))))], by kernel_rfl, rfl, ⟨aR.eq (by simp [hl13]), aR.refl _, aR.refl _, aR.refl _, aR.refl _, aR.refl _, aR.refl _, trivial⟩⟩ ?_
            exact aI (aH (⟨rfl, _, _, .eq (by kernel_rfl), hO, hN, h0⟩))
          refine bK ?_
          exact aI (aH (⟨rfl, _, _, .eq (by kernel_rfl), hO, hN, h0⟩))
        refine bR 8 ?_
        refine dQ [(0, (.msl 3 lo0p 0 (List.length aA))), (1, (eI a1)), (2, (eI m2)), (3, (eI b3)), (4, (.fn (.func cmp4_f) cmp4_a cmp4_c)), (18, (eI bJ)), (19, (eI n19)), (20, (eI aO)), (21, (eI r21)), (22, (eI (wR (n19 - (1 : Int)))))] ?_
        refine cV (fun T H => ∃ aA : List aC, ∃ aO : Int, ∃ r21 : Int, ∃ p22 : Int, Has T [(0, (.msl 3 lo0p 0 (List.length aA))), (1, (eI a1)), (2, (eI m2)), (3, (eI b3)), (4, (.fn (.func cmp4_f) cmp4_a cmp4_c)), (18, (eI bJ)), (19, (eI n19)), (20, (eI aO)), (21, (eI r21)), (22, (eI p22))] ∧ aN ⟨H0, [lo0p], []⟩ H [(lo0p, 3, List.map aE aA)] ∧ List.length aA = N0 ∧ jO cmp4 rec aA a1 m2 b3 bJ n19 aO r21 p22 = some r) ?_ ⟨aA, aO, r21, wR (n19 - (1 : Int)), .eq (by kernel_rfl), hO, hN, h0⟩
        clear hO hN h0
        rintro T H ⟨aA, aO, r21, p22, hT, hO, hN, h0⟩
        refine aZ hT ?_
        clear hT
        unfold jO at h0
        obtain ⟨rr0, hl0, h0⟩ := aV h0
        refine bZ (by kernel_rfl) (fun (s : List aC × Int × Int) T H => Has T [(0, (.msl 3 lo0p 0 (List.length s.1))), (1, (eI a1)), (2, (eI m2)), (3, (eI b3)), (4, (.fn (.func cmp4_f) cmp4_a cmp4_c)), (18, (eI bJ)), (19, (eI n19)), (20, (eI s.2.1)), (21, (eI s.2.2)), (22, (eI p22))] ∧ aN ⟨H0, [lo0p], []⟩ H [(lo0p, 3, List.map aE s.1)] ∧ List.length s.1 = N0) hl0 ⟨.eq (by kernel_rfl), hO, hN⟩ ?_
        clear hO hN
        rintro k0 s out1 T H ⟨hT, hO, hN⟩ h1 ho0
        obtain ⟨aA, aO, r21⟩ := s
        replace h1 : jT cmp4 rec a1 m2 b3 bJ n19 p22 aA aO r21 = some out1 := h1
        dsimp only at hT
        refine aZ hT ?_
        clear hT
        unfold jT at h1
        refine aP ?_
        refine aT aG 3 [] [(151, (aJ (decide (aO < r21))))] ?_
        refine bH h1 (fun h1 => ?_) (fun h1 => ?_)
        · refine bK ?_
          refine bD [(0, (.msl 3 lo0p 0 (List.length aA))), (1, (eI a1)), (2, (eI m2)), (3, (eI b3)), (4, (.fn (.func cmp4_f) cmp4_a cmp4_c)), (18, (eI bJ)), (19, (eI n19)), (20, (eI aO)), (21, (eI r21)), (22, (eI p22))] ?_
          refine bR 9 ?_
          refine aP ?_
          refine aS aG 7 ?_
          obtain ⟨c15, h1⟩ := bF h1
          refine tH [0 ≤ (1 : Int)] ⟨c15, trivial⟩ ?_
          refine bO [] [(23, (eI (wR (Int.fdiv (IntKind.u64.wrap (wR (aO + r21))) (2 ^ (min (Int.toNat (1 : Int)) 64))))))] ?_
          refine aP ?_
          refine kE (kA []) aG 14 ?_
          obtain ⟨c16, h1⟩ := bF h1
          refine cT 6 [0 ≤ (wR (p22 - (wR (Int.fdiv (IntKind.u64.wrap (wR (aO + r21))) (2 ^ (min (Int.toNat (1 : Int)) 64)))))) ∧ (wR (p22 - (wR (Int.fdiv (IntKind.u64.wrap (wR (aO + r21))) (2 ^ (min (Int.toNat (1 : Int)) 64)))))) < (lN aA)] ⟨c16, trivial⟩ ?_
          refine kG 0 lo0p 3 (0 + Int.toNat (wR (p22 - (wR (Int.fdiv (IntKind.u64.wrap (wR (aO + r21))) (2 ^ (min (Int.toNat (1 : Int)) 64))))))) (aE (gD aA (wR (p22 - (wR (Int.fdiv (IntKind.u64.wrap (wR (aO + r21))) (2 ^ (min (Int.toNat (1 : Int)) 64)))))))) (aE (gD aA (wR (p22 - (wR (Int.fdiv (IntKind.u64.wrap (wR (aO + r21))) (2 ^ (min (Int.toNat (1 : Int)) 64)))))))) (List.map aE aA) hO (cH c16) ?_
          obtain ⟨c17, h1⟩ := bF h1
          refine cT 10 [0 ≤ (wR (Int.fdiv (IntKind.u64.wrap (wR (aO + r21))) (2 ^ (min (Int.toNat (1 : Int)) 64)))) ∧ (wR (Int.fdiv (IntKind.u64.wrap (wR (aO + r21))) (2 ^ (min (Int.toNat (1 : Int)) 64)))) < (lN aA)] ⟨c17, trivial⟩ ?_
          refine kG 0 lo0p 3 (0 + Int.toNat (wR (Int.fdiv (IntKind.u64.wrap (wR (aO + r21))) (2 ^ (min (Int.toNat (1 : Int)) 64))))) (aE (gD aA (wR (Int.fdiv (IntKind.u64.wrap (wR (aO + r21))) (2 ^ (min (Int.toNat (1 : Int)) 64)))))) (aE (gD aA (wR (Int.fdiv (IntKind.u64.wrap (wR (aO + r21))) (2 ^ (min (Int.toNat (1 : Int)) 64)))))) (List.map aE aA) hO (cH c17) ?_
          obtain ⟨x18, hx19, h1⟩ := aV h1
          refine wC (cmp4_h (gD aA (wR (p22 - (wR (Int.fdiv (IntKind.u64.wrap (wR (aO + r21))) (2 ^ (min (Int.toNat (1 : Int)) 64))))))) (gD aA (wR (Int.fdiv (IntKind.u64.wrap (wR (aO + r21))) (2 ^ (min (Int.toNat (1 : Int)) 64))))) _ hx19) hO ?_
          intro H hO
          refine nO ?_
          refine bO [] [(171, (aJ (!(decide (x18 < (0 : Int))))))] ?_
          refine bH h1 (fun h1 => ?_) (fun h1 => ?_)
          · refine aS aG 3 ?_
            refine bA ?_
            exact aI (aX (aH (⟨rfl, _, (oI h1).symm, .eq (by kernel_rfl), hO, hN⟩)))
          refine aS aG 2 ?_
          refine bA ?_
          exact aI (aX (aH (⟨rfl, _, (oI h1).symm, .eq (by kernel_rfl), hO, hN⟩)))
        refine eR 8 ?_
        obtain rfl := oI h1
        obtain rfl : _ = rr0 := ho0
        replace h0 : fA cmp4 rec aA a1 m2 b3 bJ n19 aO = some r := h0
        exact aI (aU (aU (bM (aH (⟨rfl, _, _, .eq (by kernel_rfl), hO, hN, h0⟩)))))
      refine aT aG 3 [] [(140, (aJ (decide ((wR (Int.fdiv (IntKind.u64.wrap (wR (a1 + b3))) (2 ^ (min (Int.toNat (1 : Int)) 64)))) < m2))))] ?_
      refine bH h0 (fun h0 => ?_) (fun h0 => ?_)
      · refine bT aG 4 [(0, (.msl 3 lo0p 0 (List.length aA))), (1, (eI a1)), (2, (eI m2)), (3, (eI b3)), (4, (.fn (.func cmp4_f) cmp4_a cmp4_c)), (18, (eI (wR (Int.fdiv (IntKind.u64.wrap (wR (a1 + b3))) (2 ^ (min (Int.toNat (1 : Int)) 64)))))), (19, (eI (wR ((wR (Int.fdiv (IntKind.u64.wrap (wR (a1 + b3))) (2 ^ (min (Int.toNat (1 : Int)) 64)))) + m2)))), (20, (eI (wR ((wR ((wR (Int.fdiv (IntKind.u64.wrap (wR (a1 + b3))) (2 ^ (min (Int.toNat (1 : Int)) 64)))) + m2)) - b3))))] ?_
        refine aS aG 2 ?_
        refine bA ?_
        exact aI (aH (⟨rfl, _, _, _, _, _, .eq (by kernel_rfl), hO, hN, h0⟩))
      refine bT aG 2 [(0, (.msl 3 lo0p 0 (List.length aA))), (1, (eI a1)), (2, (eI m2)), (3, (eI b3)), (4, (.fn (.func cmp4_f) cmp4_a cmp4_c)), (18, (eI (wR (Int.fdiv (IntKind.u64.wrap (wR (a1 + b3))) (2 ^ (min (Int.toNat (1 : Int)) 64)))))), (19, (eI (wR ((wR (Int.fdiv (IntKind.u64.wrap (wR (a1 + b3))) (2 ^ (min (Int.toNat (1 : Int)) 64)))) + m2)))), (20, (eI a1))] ?_
      refine aS aG 2 ?_
      refine bA ?_
      exact aI (aH (⟨rfl, _, _, _, _, _, .eq (by kernel_rfl), hO, hN, h0⟩))
    refine aT aG 4 [] [(80, (aJ (decide ((wR (b3 - m2)) = (1 : Int)))))] ?_
    refine bH h0 (fun h0 => ?_) (fun h0 => ?_)
    · refine aT aG 2 [1, 3, 80] [(14, (eI a1))] ?_
      refine aT aG 2 [] [(15, (eI m2))] ?_
      refine dJ (fun T H => ∃ aA : List aC, ∃ i14 : Int, Has T [(0, (.msl 3 lo0p 0 (List.length aA))), (2, (eI m2)), (14, (eI i14))] ∧ aN ⟨H0, [lo0p], []⟩ H [(lo0p, 3, List.map aE aA)] ∧ List.length aA = N0 ∧ fL cmp4 rec aA m2 i14 = some r) ?_ ?_
      · clear hO hN h0
        rintro T H ⟨aA, i14, hT, hO, hN, h0⟩
        refine aZ hT ?_
        clear hT
        unfold fL at h0
        refine dJ (fun T H => ∃ aA : List aC, Has T [(0, (.msl 3 lo0p 0 (List.length aA)))] ∧ aN ⟨H0, [lo0p], []⟩ H [(lo0p, 3, List.map aE aA)] ∧ List.length aA = N0 ∧ fJ cmp4 rec aA = some r) ?_ ?_
        · clear hO hN h0
          rintro T H ⟨aA, hT, hO, hN, h0⟩
          refine aZ hT ?_
          clear hT
          unfold fJ at h0
          refine bG ?_
          obtain rfl := oI h0
          exact aI (aW (oQ (x := (.tup [])) (by kernel_rfl) (aR.refl _) ⟨rfl, hO.ext, hO.at 0 (by kernel_rfl), by simp only [List.length_map]; exact hN.trans hN0⟩))
        refine aT aG 2 [2] [(17, (eI m2))] ?_
        refine bR 6 ?_
        refine dQ [(0, (.msl 3 lo0p 0 (List.length aA))), (14, (eI i14)), (17, (eI m2))] ?_
        refine cV (fun T H => ∃ aA : List aC, ∃ k17 : Int, Has T [(0, (.msl 3 lo0p 0 (List.length aA))), (14, (eI i14)), (17, (eI k17))] ∧ aN ⟨H0, [lo0p], []⟩ H [(lo0p, 3, List.map aE aA)] ∧ List.length aA = N0 ∧ jH cmp4 rec aA i14 k17 = some r) ?_ ⟨aA, m2, .eq (by kernel_rfl), hO, hN, h0⟩
        clear hO hN h0
        rintro T H ⟨aA, k17, hT, hO, hN, h0⟩
        refine aZ hT ?_
        clear hT
        unfold jH at h0
        obtain ⟨rr0, hl0, h0⟩ := aV h0
        refine bZ (by kernel_rfl) (fun (s : List aC × Int) T H => Has T [(0, (.msl 3 lo0p 0 (List.length s.1))), (14, (eI i14)), (17, (eI s.2))] ∧ aN ⟨H0, [lo0p], []⟩ H [(lo0p, 3, List.map aE s.1)] ∧ List.length s.1 = N0) hl0 ⟨.eq (by kernel_rfl), hO, hN⟩ ?_
        clear hO hN
        rintro k0 s out1 T H ⟨hT, hO, hN⟩ h1 ho0
        obtain ⟨aA, k17⟩ := s
        replace h1 : jG cmp4 rec i14 aA k17 = some out1 := h1
        dsimp only at hT
        refine aZ hT ?_
        clear hT
        unfold jG at h1
        refine aP ?_
        refine aT aG 3 [] [(110, (aJ (decide (i14 < k17))))] ?_
        refine bH h1 (fun h1 => ?_) (fun h1 => ?_)
        · refine bK ?_
          refine bD [(0, (.msl 3 lo0p 0 (List.length aA))), (14, (eI i14)), (17, (eI k17))] ?_
          refine aP ?_
          refine bR 7 ?_
          refine kE (kA []) aG 18 ?_
          obtain ⟨c25, h1⟩ := bF h1
          refine cT 9 [0 ≤ (wR (k17 - (1 : Int))) ∧ (wR (k17 - (1 : Int))) < (lN aA)] ⟨c25, trivial⟩ ?_
          refine kG 0 lo0p 3 (0 + Int.toNat (wR (k17 - (1 : Int)))) (aE (gD aA (wR (k17 - (1 : Int))))) (aE (gD aA (wR (k17 - (1 : Int))))) (List.map aE aA) hO (cH c25) ?_
          obtain ⟨c26, h1⟩ := bF h1
          refine cT 13 [0 ≤ k17 ∧ k17 < (lN aA)] ⟨c26, trivial⟩ ?_
          refine kG 0 lo0p 3 (0 + Int.toNat k17) (aE (gD aA k17)) (aE (gD aA k17)) (List.map aE aA) hO (cH c26) ?_
          obtain ⟨c27, h1⟩ := bF h1
          refine cT 15 [0 ≤ k17 ∧ k17 < (lN aA)] ⟨c27, trivial⟩ ?_
          refine qU 0 lo0p 3 (0 + Int.toNat k17) (aE (gD aA k17)) (aE (gD aA (wR (k17 - (1 : Int))))) (List.map aE aA) [(lo0p, 3, List.map aE (List.set aA (Int.toNat k17) (gD aA (wR (k17 - (1 : Int))))))] hO (cH c27) (by simp only [List.set, mQ]) ?_
          intro H hO
          replace hN : List.length (List.set aA (Int.toNat k17) (gD aA (wR (k17 - (1 : Int))))) = N0 := by simpa using hN
          obtain ⟨c28, h1⟩ := bF h1
          refine cT 17 [0 ≤ (wR (k17 - (1 : Int))) ∧ (wR (k17 - (1 : Int))) < (lN aA)] ⟨c28, trivial⟩ ?_
          refine qU 0 lo0p 3 (0 + Int.toNat (wR (k17 - (1 : Int)))) (aE (gD (List.set aA (Int.toNat k17) (gD aA (wR (k17 - (1 : Int))))) (wR (k17 - (1 : Int))))) (aE (gD aA k17)) (List.map aE (List.set aA (Int.toNat k17) (gD aA (wR (k17 - (1 : Int)))))) [(lo0p, 3, List.map aE (List.set (List.set aA (Int.toNat k17) (gD aA (wR (k17 - (1 : Int))))) (Int.toNat (wR (k17 - (1 : Int)))) (gD aA k17)))] hO (tM c28 (by simp [])) (by simp only [List.set, mQ]) ?_
          intro H hO
          replace hN : List.length (List.set (List.set aA (Int.toNat k17) (gD aA (wR (k17 - (1 : Int))))) (Int.toNat (wR (k17 - (1 : Int)))) (gD aA k17)) = N0 := by simpa using hN
          refine wQ (by kernel_rfl) ?_
          refine cE (l := [(0, (.msl 3 lo0p 0 (List.length (List.set (List.set aA (Int.toNat k17) (gD aA (wR (k17 - (1 : Int))))) (Int.toNat (wR (k17 - (1 : Int)))) (gD aA k17))))), (14, (eI i14)), (17, (eI k17))]) ⟨[(0, (.msl 3 lo0p 0 (List.length aA))), (14, (eI i14)), (17, (eI k17))], by kernel_rfl, rfl, ⟨aR.eq (by simp []), aR.refl _, aR.refl _, trivial⟩⟩ ?_
          refine aI (aX (aH (?_)))
          refine aS aG 3 ?_
          refine bA ?_
          exact aI (aH (⟨rfl, _, (oI h1).symm, .eq (by kernel_rfl), hO, hN⟩))
        refine eR 6 ?_
        obtain rfl := oI h1
        obtain rfl : _ = rr0 := ho0
        replace h0 : fJ cmp4 rec aA = some r := h0
        exact aI (aU (aU (bM (aH (⟨rfl, _, .eq (by kernel_rfl), hO, hN, h0⟩)))))
      refine bR 4 ?_
      refine dQ [(0, (.msl 3 lo0p 0 (List.length aA))), (2, (eI m2)), (4, (.fn (.func cmp4_f) cmp4_a cmp4_c)), (14, (eI a1)), (15, (eI m2))] ?_
      refine cV (fun T H => ∃ aA : List aC, ∃ i14 : Int, ∃ j15 : Int, Has T [(0, (.msl 3 lo0p 0 (List.length aA))), (2, (eI m2)), (4, (.fn (.func cmp4_f) cmp4_a cmp4_c)), (14, (eI i14)), (15, (eI j15))] ∧ aN ⟨H0, [lo0p], []⟩ H [(lo0p, 3, List.map aE aA)] ∧ List.length aA = N0 ∧ iT cmp4 rec aA m2 i14 j15 = some r) ?_ ⟨aA, a1, m2, .eq (by kernel_rfl), hO, hN, h0⟩
      clear hO hN h0
      rintro T H ⟨aA, i14, j15, hT, hO, hN, h0⟩
      refine aZ hT ?_
      clear hT
      unfold iT at h0
      obtain ⟨rr0, hl0, h0⟩ := aV h0
      refine bZ (by kernel_rfl) (fun (s : List aC × Int × Int) T H => Has T [(0, (.msl 3 lo0p 0 (List.length s.1))), (2, (eI m2)), (4, (.fn (.func cmp4_f) cmp4_a cmp4_c)), (14, (eI s.2.1)), (15, (eI s.2.2))] ∧ aN ⟨H0, [lo0p], []⟩ H [(lo0p, 3, List.map aE s.1)] ∧ List.length s.1 = N0) hl0 ⟨.eq (by kernel_rfl), hO, hN⟩ ?_
      clear hO hN
      rintro k0 s out1 T H ⟨hT, hO, hN⟩ h1 ho0
      obtain ⟨aA, i14, j15⟩ := s
      replace h1 : jD cmp4 rec m2 aA i14 j15 = some out1 := h1
      dsimp only at hT
      refine aZ hT ?_
      clear hT
      unfold jD at h1
      refine aP ?_
      refine aT aG 3 [] [(85, (aJ (decide (i14 < j15))))] ?_
      refine bH h1 (fun h1 => ?_) (fun h1 => ?_)
      · refine bK ?_
        refine bD [(0, (.msl 3 lo0p 0 (List.length aA))), (2, (eI m2)), (4, (.fn (.func cmp4_f) cmp4_a cmp4_c)), (14, (eI i14)), (15, (eI j15))] ?_
        refine bR 5 ?_
        refine aP ?_
        refine aS aG 7 ?_
        obtain ⟨c30, h1⟩ := bF h1
        refine tH [0 ≤ (1 : Int)] ⟨c30, trivial⟩ ?_
        refine bO [] [(16, (eI (wR (Int.fdiv (IntKind.u64.wrap (wR (i14 + j15))) (2 ^ (min (Int.toNat (1 : Int)) 64))))))] ?_
        refine aP ?_
        refine kE (kA []) aG 12 ?_
        obtain ⟨c31, h1⟩ := bF h1
        refine cT 4 [0 ≤ m2 ∧ m2 < (lN aA)] ⟨c31, trivial⟩ ?_
        refine kG 0 lo0p 3 (0 + Int.toNat m2) (aE (gD aA m2)) (aE (gD aA m2)) (List.map aE aA) hO (cH c31) ?_
        obtain ⟨c32, h1⟩ := bF h1
        refine cT 8 [0 ≤ (wR (Int.fdiv (IntKind.u64.wrap (wR (i14 + j15))) (2 ^ (min (Int.toNat (1 : Int)) 64)))) ∧ (wR (Int.fdiv (IntKind.u64.wrap (wR (i14 + j15))) (2 ^ (min (Int.toNat (1 : Int)) 64)))) < (lN aA)] ⟨c32, trivial⟩ ?_
        refine kG 0 lo0p 3 (0 + Int.toNat (wR (Int.fdiv (IntKind.u64.wrap (wR (i14 + j15))) (2 ^ (min (Int.toNat (1 : Int)) 64))))) (aE (gD aA (wR (Int.fdiv (IntKind.u64.wrap (wR (i14 + j15))) (2 ^ (min (Int.toNat (1 : Int)) 64)))))) (aE (gD aA (wR (Int.fdiv (IntKind.u64.wrap (wR (i14 + j15))) (2 ^ (min (Int.toNat (1 : Int)) 64)))))) (List.map aE aA) hO (cH c32) ?_
        obtain ⟨x33, hx34, h1⟩ := aV h1
        refine wC (cmp4_h (gD aA m2) (gD aA (wR (Int.fdiv (IntKind.u64.wrap (wR (i14 + j15))) (2 ^ (min (Int.toNat (1 : Int)) 64))))) _ hx34) hO ?_
        intro H hO
        refine nO ?_
        refine bO [] [(103, (aJ (!(decide (x33 < (0 : Int))))))] ?_
        refine bH h1 (fun h1 => ?_) (fun h1 => ?_)
        · refine aS aG 3 ?_
          refine bA ?_
          exact aI (aX (aH (⟨rfl, _, (oI h1).symm, .eq (by kernel_rfl), hO, hN⟩)))
        refine aS aG 2 ?_
        refine bA ?_
        exact aI (aX (aH (⟨rfl, _, (oI h1).symm, .eq (by kernel_rfl), hO, hN⟩)))
      refine eR 4 ?_
      obtain rfl := oI h1
      obtain rfl : _ = rr0 := ho0
      replace h0 : fL cmp4 rec aA m2 i14 = some r := h0
      exact aI (aU (aU (bM (aH (⟨rfl, _, _, .eq (by kernel_rfl), hO, hN, h0⟩)))))
    refine bK ?_
    exact aI (aH (⟨rfl, _, .eq (by kernel_rfl), hO, hN, h0⟩))
  refine aT aG 4 [] [(28, (aJ (decide ((wR (m2 - a1)) = (1 : Int)))))] ?_
  refine bH h0 (fun h0 => ?_) (fun h0 => ?_)
  · refine aT aG 2 [2, 28] [(10, (eI m2))] ?_
    refine aT aG 2 [3] [(11, (eI b3))] ?_
    refine dJ (fun T H => ∃ aA : List aC, ∃ i10 : Int, Has T [(0, (.msl 3 lo0p 0 (List.length aA))), (1, (eI a1)), (10, (eI i10))] ∧ aN ⟨H0, [lo0p], []⟩ H [(lo0p, 3, List.map aE aA)] ∧ List.length aA = N0 ∧ eU cmp4 rec aA a1 i10 = some r) ?_ ?_
    · clear hO hN h0
      rintro T H ⟨aA, i10, hT, hO, hN, h0⟩
      refine aZ hT ?_
      clear hT
      unfold eU at h0
      refine dJ (fun T H => ∃ aA : List aC, Has T [(0, (.msl 3 lo0p 0 (List.length aA)))] ∧ aN ⟨H0, [lo0p], []⟩ H [(lo0p, 3, List.map aE aA)] ∧ List.length aA = N0 ∧ eW cmp4 rec aA = some r) ?_ ?_
      · clear hO hN h0
        rintro T H ⟨aA, hT, hO, hN, h0⟩
        refine aZ hT ?_
        clear hT
        unfold eW at h0
        refine bG ?_
        obtain rfl := oI h0
        exact aI (aW (oQ (x := (.tup [])) (by kernel_rfl) (aR.refl _) ⟨rfl, hO.ext, hO.at 0 (by kernel_rfl), by simp only [List.length_map]; exact hN.trans hN0⟩))
      refine aT aG 2 [1] [(13, (eI a1))] ?_
      refine bR 2 ?_
      refine dQ [(0, (.msl 3 lo0p 0 (List.length aA))), (10, (eI i10)), (13, (eI a1))] ?_
      refine cV (fun T H => ∃ aA : List aC, ∃ k13 : Int, Has T [(0, (.msl 3 lo0p 0 (List.length aA))), (10, (eI i10)), (13, (eI k13))] ∧ aN ⟨H0, [lo0p], []⟩ H [(lo0p, 3, List.map aE aA)] ∧ List.length aA = N0 ∧ jA cmp4 rec aA i10 k13 = some r) ?_ ⟨aA, a1, .eq (by kernel_rfl), hO, hN, h0⟩
      clear hO hN h0
      rintro T H ⟨aA, k13, hT, hO, hN, h0⟩
      refine aZ hT ?_
      clear hT
      unfold jA at h0
      obtain ⟨rr0, hl0, h0⟩ := aV h0
      refine bZ (by kernel_rfl) (fun (s : List aC × Int) T H => Has T [(0, (.msl 3 lo0p 0 (List.length s.1))), (10, (eI i10)), (13, (eI s.2))] ∧ aN ⟨H0, [lo0p], []⟩ H [(lo0p, 3, List.map aE s.1)] ∧ List.length s.1 = N0) hl0 ⟨.eq (by kernel_rfl), hO, hN⟩ ?_
      clear hO hN
      rintro k0 s out1 T H ⟨hT, hO, hN⟩ h1 ho0
      obtain ⟨aA, k13⟩ := s
      replace h1 : iO cmp4 rec i10 aA k13 = some out1 := h1
      dsimp only at hT
      refine aZ hT ?_
      clear hT
      unfold iO at h1
      refine aP ?_
      refine aT aG 4 [] [(58, (aJ (decide (k13 < (wR (i10 - (1 : Int)))))))] ?_
      refine bH h1 (fun h1 => ?_) (fun h1 => ?_)
      · refine bK ?_
        refine bD [(0, (.msl 3 lo0p 0 (List.length aA))), (10, (eI i10)), (13, (eI k13))] ?_
        refine aP ?_
        refine bR 3 ?_
        refine kE (kA []) aG 18 ?_
        obtain ⟨c39, h1⟩ := bF h1
        refine cT 9 [0 ≤ (wR (k13 + (1 : Int))) ∧ (wR (k13 + (1 : Int))) < (lN aA)] ⟨c39, trivial⟩ ?_
        refine kG 0 lo0p 3 (0 + Int.toNat (wR (k13 + (1 : Int)))) (aE (gD aA (wR (k13 + (1 : Int))))) (aE (gD aA (wR (k13 + (1 : Int))))) (List.map aE aA) hO (cH c39) ?_
        obtain ⟨c40, h1⟩ := bF h1
        refine cT 13 [0 ≤ k13 ∧ k13 < (lN aA)] ⟨c40, trivial⟩ ?_
        refine kG 0 lo0p 3 (0 + Int.toNat k13) (aE (gD aA k13)) (aE (gD aA k13)) (List.map aE aA) hO (cH c40) ?_
        obtain ⟨c41, h1⟩ := bF h1
        refine cT 15 [0 ≤ k13 ∧ k13 < (lN aA)] ⟨c41, trivial⟩ ?_
        refine qU 0 lo0p 3 (0 + Int.toNat k13) (aE (gD aA k13)) (aE (gD aA (wR (k13 + (1 : Int))))) (List.map aE aA) [(lo0p, 3, List.map aE (List.set aA (Int.toNat k13) (gD aA (wR (k13 + (1 : Int))))))] hO (cH c41) (by simp only [List.set, mQ]) ?_
        intro H hO
        replace hN : List.length (List.set aA (Int.toNat k13) (gD aA (wR (k13 + (1 : Int))))) = N0 := by simpa using hN
        obtain ⟨c42, h1⟩ := bF h1
        refine cT 17 [0 ≤ (wR (k13 + (1 : Int))) ∧ (wR (k13 + (1 : Int))) < (lN aA)] ⟨c42, trivial⟩ ?_
        refine qU 0 lo0p 3 (0 + Int.toNat (wR (k13 + (1 : Int)))) (aE (gD (List.set aA (Int.toNat k13) (gD aA (wR (k13 + (1 : Int))))) (wR (k13 + (1 : Int))))) (aE (gD aA k13)) (List.map aE (List.set aA (Int.toNat k13) (gD aA (wR (k13 + (1 : Int)))))) [(lo0p, 3, List.map aE (List.set (List.set aA (Int.toNat k13) (gD aA (wR (k13 + (1 : Int))))) (Int.toNat (wR (k13 + (1 : Int)))) (gD aA k13)))] hO (tM c42 (by simp [])) (by simp only [List.set, mQ]) ?_
        intro H hO
        replace hN : List.length (List.set (List.set aA (Int.toNat k13) (gD aA (wR (k13 + (1 : Int))))) (Int.toNat (wR (k13 + (1 : Int)))) (gD aA k13)) = N0 := by simpa using hN
        refine wQ (by kernel_rfl) ?_
        refine cE (l := [(0, (.msl 3 lo0p 0 (List.length (List.set (List.set aA (Int.toNat k13) (gD aA (wR (k13 + (1 : Int))))) (Int.toNat (wR (k13 + (1 : Int)))) (gD aA k13))))), (10, (eI i10)), (13, (eI k13))]) ⟨[(0, (.msl 3 lo0p 0 (List.length aA))), (10, (eI i10)), (13, (eI k13))], by kernel_rfl, rfl, ⟨aR.eq (by simp []), aR.refl _, aR.refl _, trivial⟩⟩ ?_
        refine aI (aX (aH (?_)))
        refine aS aG 3 ?_
        refine bA ?_
        exact aI (aH (⟨rfl, _, (oI h1).symm, .eq (by kernel_rfl), hO, hN⟩))
      refine eR 2 ?_
      obtain rfl := oI h1
      obtain rfl : _ = rr0 := ho0
      replace h0 : eW cmp4 rec aA = some r := h0
      exact aI (aU (aU (bM (aH (⟨rfl, _, .eq (by kernel_rfl), hO, hN, h0⟩)))))
    refine bR 0 ?_
    refine dQ [(0, (.msl 3 lo0p 0 (List.length aA))), (1, (eI a1)), (4, (.fn (.func cmp4_f) cmp4_a cmp4_c)), (10, (eI m2)), (11, (eI b3))] ?_
    refine cV (fun T H => ∃ aA : List aC, ∃ i10 : Int, ∃ j11 : Int, Has T [(0, (.msl 3 lo0p 0 (List.length aA))), (1, (eI a1)), (4, (.fn (.func cmp4_f) cmp4_a cmp4_c)), (10, (eI i10)), (11, (eI j11))] ∧ aN ⟨H0, [lo0p], []⟩ H [(lo0p, 3, List.map aE aA)] ∧ List.length aA = N0 ∧ iR cmp4 rec aA a1 i10 j11 = some r) ?_ ⟨aA, m2, b3, .eq (by kernel_rfl), hO, hN, h0⟩
    clear hO hN h0
    rintro T H ⟨aA, i10, j11, hT, hO, hN, h0⟩
    refine aZ hT ?_
    clear hT
    unfold iR at h0
    obtain ⟨rr0, hl0, h0⟩ := aV h0
    refine bZ (by kernel_rfl) (fun (s : List aC × Int × Int) T H => Has T [(0, (.msl 3 lo0p 0 (List.length s.1))), (1, (eI a1)), (4, (.fn (.func cmp4_f) cmp4_a cmp4_c)), (10, (eI s.2.1)), (11, (eI s.2.2))] ∧ aN ⟨H0, [lo0p], []⟩ H [(lo0p, 3, List.map aE s.1)] ∧ List.length s.1 = N0) hl0 ⟨.eq (by kernel_rfl), hO, hN⟩ ?_
    clear hO hN
    rintro k0 s out1 T H ⟨hT, hO, hN⟩ h1 ho0
    obtain ⟨aA, i10, j11⟩ := s
    replace h1 : iY cmp4 rec a1 aA i10 j11 = some out1 := h1
    dsimp only at hT
    refine aZ hT ?_
    clear hT
    unfold iY at h1
    refine aP ?_
    refine aT aG 3 [] [(33, (aJ (decide (i10 < j11))))] ?_
    refine bH h1 (fun h1 => ?_) (fun h1 => ?_)
    · refine bK ?_
      refine bD [(0, (.msl 3 lo0p 0 (List.length aA))), (1, (eI a1)), (4, (.fn (.func cmp4_f) cmp4_a cmp4_c)), (10, (eI i10)), (11, (eI j11))] ?_
      refine bR 1 ?_
      refine aP ?_
      refine aS aG 7 ?_
      obtain ⟨c44, h1⟩ := bF h1
      refine tH [0 ≤ (1 : Int)] ⟨c44, trivial⟩ ?_
      refine bO [] [(12, (eI (wR (Int.fdiv (IntKind.u64.wrap (wR (i10 + j11))) (2 ^ (min (Int.toNat (1 : Int)) 64))))))] ?_
      refine aP ?_
      refine kE (kA []) aG 11 ?_
      obtain ⟨c45, h1⟩ := bF h1
      refine cT 4 [0 ≤ (wR (Int.fdiv (IntKind.u64.wrap (wR (i10 + j11))) (2 ^ (min (Int.toNat (1 : Int)) 64)))) ∧ (wR (Int.fdiv (IntKind.u64.wrap (wR (i10 + j11))) (2 ^ (min (Int.toNat (1 : Int)) 64)))) < (lN aA)] ⟨c45, trivial⟩ ?_
      refine kG 0 lo0p 3 (0 + Int.toNat (wR (Int.fdiv (IntKind.u64.wrap (wR (i10 + j11))) (2 ^ (min (Int.toNat (1 : Int)) 64))))) (aE (gD aA (wR (Int.fdiv (IntKind.u64.wrap (wR (i10 + j11))) (2 ^ (min (Int.toNat (1 : Int)) 64)))))) (aE (gD aA (wR (Int.fdiv (IntKind.u64.wrap (wR (i10 + j11))) (2 ^ (min (Int.toNat (1 : Int)) 64)))))) (List.map aE aA) hO (cH c45) ?_
      obtain ⟨c46, h1⟩ := bF h1
      refine cT 8 [0 ≤ a1 ∧ a1 < (lN aA)] ⟨c46, trivial⟩ ?_
      refine kG 0 lo0p 3 (0 + Int.toNat a1) (aE (gD aA a1)) (aE (gD aA a1)) (List.map aE aA) hO (cH c46) ?_
      obtain ⟨x47, hx48, h1⟩ := aV h1
      refine wC (cmp4_h (gD aA (wR (Int.fdiv (IntKind.u64.wrap (wR (i10 + j11))) (2 ^ (min (Int.toNat (1 : Int)) 64))))) (gD aA a1) _ hx48) hO ?_
      intro H hO
      refine nO ?_
      refine bO [] [(50, (aJ (decide (x47 < (0 : Int)))))] ?_
      refine bH h1 (fun h1 => ?_) (fun h1 => ?_)
      · refine aS aG 3 ?_
        refine bA ?_
        exact aI (aX (aH (⟨rfl, _, (oI h1).symm, .eq (by kernel_rfl), hO, hN⟩)))
      refine aS aG 2 ?_
      refine bA ?_
      exact aI (aX (aH (⟨rfl, _, (oI h1).symm, .eq (by kernel_rfl), hO, hN⟩)))
    refine eR 0 ?_
    obtain rfl := oI h1
    obtain rfl : _ = rr0 := ho0
    replace h0 : eU cmp4 rec aA a1 i10 = some r := h0
    exact aI (aU (aU (bM (aH (⟨rfl, _, _, .eq (by kernel_rfl), hO, hN, h0⟩)))))
  refine bK ?_
  exact aI (aH (⟨rfl, _, .eq (by kernel_rfl), hO, hN, h0⟩))

theorem mI (cmp4_f : Nat) (cmp4_a cmp4_c : List V) (cmp4 : aC → aC → Option Int) (cmp4_h : ∀ a0 a1 r, cmp4 a0 a1 = some r → bU Try.prog cmp4_f (cmp4_a ++ [(aE a0), (aE a1)] ++ cmp4_c) (eI r)) : ∀ (k : Nat) (lo0p : Nat) (aA : (List aC)) (a1 : Int) (m2 : Int) (b3 : Int) (r : List aC), fN cmp4 k aA a1 m2 b3 = some r → jX Try.prog 113 lo0p 3 (List.map aE aA) (List.map aE r) [(.msl 3 lo0p 0 (List.length aA)), (eI a1), (eI m2), (eI b3), (.fn (.func cmp4_f) cmp4_a cmp4_c)] (.tup [])
  | 0, _, _, _, _, _, _, h => by cases h
  | k + 1, lo0p, aA, a1, m2, b3, r, h => qJ cmp4_f cmp4_a cmp4_c cmp4 cmp4_h _ (mI cmp4_f cmp4_a cmp4_c cmp4 cmp4_h k) lo0p aA a1 m2 b3 r h

theorem nA (lo0p : Nat) (aA : (List aC)) (a1 : Int) (m2 : Int) (b3 : Int) (cmp4_f : Nat) (cmp4_a cmp4_c : List V) (cmp4 : aC → aC → Option Int) (cmp4_h : ∀ a0 a1 r, cmp4 a0 a1 = some r → bU Try.prog cmp4_f (cmp4_a ++ [(aE a0), (aE a1)] ++ cmp4_c) (eI r)) (r : List aC) (h0 : dO aA a1 m2 b3 cmp4 = some r) : jX Try.prog 113 lo0p 3 (List.map aE aA) (List.map aE r) [(.msl 3 lo0p 0 (List.length aA)), (eI a1), (eI m2), (eI b3), (.fn (.func cmp4_f) cmp4_a cmp4_c)] (.tup []) := by
  obtain ⟨k, hk⟩ := BL h0
  exact mI cmp4_f cmp4_a cmp4_c cmp4 cmp4_h k lo0p aA a1 m2 b3 r hk

theorem tY (lo0p : Nat) (aA : (List aC)) (n1 : Int) (cmp2_f : Nat) (cmp2_a cmp2_c : List V) (cmp2 : aC → aC → Option Int) (cmp2_h : ∀ a0 a1 r, cmp2 a0 a1 = some r → bU Try.prog cmp2_f (cmp2_a ++ [(aE a0), (aE a1)] ++ cmp2_c) (eI r)) (r : List aC) (h0 : eD aA n1 cmp2 = some r) : jX Try.prog 90 lo0p 3 (List.map aE aA) (List.map aE r) [(.msl 3 lo0p 0 (List.length aA)), (eI n1), (.fn (.func cmp2_f) cmp2_a cmp2_c)] (.tup []) := by
  intro H0 hl0
  refine cB Try.func90 ?_
  have hO := aN.oJ hl0
  clear hl0
  obtain ⟨N0, hN0⟩ : ∃ n, n = List.length aA := ⟨_, rfl⟩
  have hN : List.length aA = N0 := hN0.symm
  unfold eD at h0
  refine aT aG 1 [] [(6, (eI (20 : Int)))] ?_
  refine aT aG 3 [] [(7, (eI (0 : Int))), (8, (eI (20 : Int)))] ?_
  refine dJ (fun T H => ∃ aA : List aC, ∃ aL : Int, ∃ a7 : Int, Has T [(0, (.msl 3 lo0p 0 (List.length aA))), (1, (eI n1)), (2, (.fn (.func cmp2_f) cmp2_a cmp2_c)), (6, (eI aL)), (7, (eI a7))] ∧ aN ⟨H0, [lo0p], []⟩ H [(lo0p, 3, List.map aE aA)] ∧ List.length aA = N0 ∧ dX cmp2 aA n1 aL a7 = some r) ?_ ?_
  · clear hO hN h0
    rintro T H ⟨aA, aL, a7, hT, hO, hN, h0⟩
    refine aZ hT ?_
    clear hT
    unfold dX at h0
    refine aP ?_
    refine aS aG 5 ?_
    refine bI 4 ?_
    obtain ⟨x1, hx2, h0⟩ := aV h0
    refine mT [(lo0p, 3, List.map aE x1)] 0 (lS lo0p aA a7 n1 cmp2_f cmp2_a cmp2_c cmp2 cmp2_h _ hx2) hO ?_
    intro H hO hl3
    simp only [List.length_map] at hl3
    replace hN := hl3.trans hN
    refine cQ ?_
    refine cE (l := [(0, (.msl 3 lo0p 0 (List.length x1))), (1, (eI n1)), (2, (.fn (.func cmp2_f) cmp2_a cmp2_c)), (6, (eI aL))]) ⟨[(0, (.msl 3 lo0p 0 (List.length aA))), (1, (eI n1)), (2, (.fn (.func cmp2_f) cmp2_a cmp2_c)), (6, (eI aL))], by kernel_rfl, rfl, ⟨aR.eq (by simp [hl3]), aR.refl _, aR.refl _, aR.refl _, trivial⟩⟩ ?_
    refine aI (aH (?_))
    refine bR 2 ?_
    refine dQ [(0, (.msl 3 lo0p 0 (List.length x1))), (1, (eI n1)), (2, (.fn (.func cmp2_f) cmp2_a cmp2_c)), (6, (eI aL))] ?_
    refine cV (fun T H => ∃ aA : List aC, ∃ aL : Int, Has T [(0, (.msl 3 lo0p 0 (List.length aA))), (1, (eI n1)), (2, (.fn (.func cmp2_f) cmp2_a cmp2_c)), (6, (eI aL))] ∧ aN ⟨H0, [lo0p], []⟩ H [(lo0p, 3, List.map aE aA)] ∧ List.length aA = N0 ∧ fX cmp2 aA n1 aL = some r) ?_ ⟨x1, aL, .eq (by kernel_rfl), hO, hN, h0⟩
    clear hO hN h0
    rintro T H ⟨aA, aL, hT, hO, hN, h0⟩
    refine aZ hT ?_
    clear hT
    unfold fX at h0
    obtain ⟨rr0, hl0, h0⟩ := aV h0
    refine bZ (by kernel_rfl) (fun (s : List aC × Int) T H => Has T [(0, (.msl 3 lo0p 0 (List.length s.1))), (1, (eI n1)), (2, (.fn (.func cmp2_f) cmp2_a cmp2_c)), (6, (eI s.2))] ∧ aN ⟨H0, [lo0p], []⟩ H [(lo0p, 3, List.map aE s.1)] ∧ List.length s.1 = N0) hl0 ⟨.eq (by kernel_rfl), hO, hN⟩ ?_
    clear hO hN
    rintro k0 s out1 T H ⟨hT, hO, hN⟩ h1 ho0
    obtain ⟨aA, aL⟩ := s
    replace h1 : gJ cmp2 n1 aA aL = some out1 := h1
    dsimp only at hT
    refine aZ hT ?_
    clear hT
    unfold gJ at h1
    refine aP ?_
    refine aT aG 3 [] [(30, (aJ (decide (aL < n1))))] ?_
    refine bH h1 (fun h1 => ?_) (fun h1 => ?_)
    · refine bK ?_
      refine bD [(0, (.msl 3 lo0p 0 (List.length aA))), (1, (eI n1)), (2, (.fn (.func cmp2_f) cmp2_a cmp2_c)), (6, (eI aL))] ?_
      refine bR 3 ?_
      refine aT aG 4 [] [(7, (eI (0 : Int))), (8, (eI (wR ((2 : Int) * aL))))] ?_
      refine dJ (fun T H => ∃ aA : List aC, ∃ a7 : Int, Has T [(0, (.msl 3 lo0p 0 (List.length aA))), (1, (eI n1)), (2, (.fn (.func cmp2_f) cmp2_a cmp2_c)), (6, (eI aL)), (7, (eI a7))] ∧ aN ⟨H0, [lo0p], []⟩ H [(lo0p, 3, List.map aE aA)] ∧ List.length aA = N0 ∧ dW cmp2 aA n1 aL a7 = some out1) ?_ ?_
      · clear hO hN h1
        rintro T H ⟨aA, a7, hT, hO, hN, h1⟩
        refine aZ hT ?_
        clear hT
        unfold dW at h1
        refine dJ (fun T H => ∃ aA : List aC, Has T [(0, (.msl 3 lo0p 0 (List.length aA))), (1, (eI n1)), (2, (.fn (.func cmp2_f) cmp2_a cmp2_c)), (6, (eI aL))] ∧ aN ⟨H0, [lo0p], []⟩ H [(lo0p, 3, List.map aE aA)] ∧ List.length aA = N0 ∧ fU cmp2 aA n1 aL = some out1) ?_ ?_
        · clear hO hN h1
          rintro T H ⟨aA, hT, hO, hN, h1⟩
          refine aZ hT ?_
          clear hT
          unfold fU at h1
          refine aS aG 3 ?_
          refine bA ?_
          exact aI (aX (aH (⟨rfl, _, (oI h1).symm, .eq (by kernel_rfl), hO, hN⟩)))
        refine aT aG 4 [] [(9, (eI (wR (a7 + aL))))] ?_
        refine aT aG 3 [] [(54, (aJ (decide ((wR (a7 + aL)) < n1))))] ?_
        refine bH h1 (fun h1 => ?_) (fun h1 => ?_)
        · refine aS aG 6 ?_
          refine bI 5 ?_
          obtain ⟨x6, hx7, h1⟩ := aV h1
          refine mT [(lo0p, 3, List.map aE x6)] 0 (nA lo0p aA a7 (wR (a7 + aL)) n1 cmp2_f cmp2_a cmp2_c cmp2 cmp2_h _ hx7) hO ?_
          intro H hO hl8
          simp only [List.length_map] at hl8
          replace hN := hl8.trans hN
          refine cQ ?_
          refine cE (l := [(0, (.msl 3 lo0p 0 (List.length x6))), (1, (eI n1)), (2, (.fn (.func cmp2_f) cmp2_a cmp2_c)), (6, (eI aL))]) ⟨[(0, (.msl 3 lo0p 0 (List.length aA))), (1, (eI n1)), (2, (.fn (.func cmp2_f) cmp2_a cmp2_c)), (6, (eI aL))], by kernel_rfl, rfl, ⟨aR.eq (by simp [hl8]), aR.refl _, aR.refl _, aR.refl _, trivial⟩⟩ ?_
          exact aI (aH (⟨rfl, _, .eq (by kernel_rfl), hO, hN, h1⟩))
        refine bK ?_
        exact aI (aH (⟨rfl, _, .eq (by kernel_rfl), hO, hN, h1⟩))
      refine bR 4 ?_
      refine dQ [(0, (.msl 3 lo0p 0 (List.length aA))), (1, (eI n1)), (2, (.fn (.func cmp2_f) cmp2_a cmp2_c)), (6, (eI aL)), (7, (eI (0 : Int))), (8, (eI (wR ((2 : Int) * aL))))] ?_
      refine cV (fun T H => ∃ aA : List aC, ∃ a7 : Int, ∃ b8 : Int, Has T [(0, (.msl 3 lo0p 0 (List.length aA))), (1, (eI n1)), (2, (.fn (.func cmp2_f) cmp2_a cmp2_c)), (6, (eI aL)), (7, (eI a7)), (8, (eI b8))] ∧ aN ⟨H0, [lo0p], []⟩ H [(lo0p, 3, List.map aE aA)] ∧ List.length aA = N0 ∧ gG cmp2 aA n1 aL a7 b8 = some out1) ?_ ⟨aA, (0 : Int), wR ((2 : Int) * aL), .eq (by kernel_rfl), hO, hN, h1⟩
      clear hO hN h1
      rintro T H ⟨aA, a7, b8, hT, hO, hN, h1⟩
      refine aZ hT ?_
      clear hT
      unfold gG at h1
      obtain ⟨rr1, hl1, h1⟩ := aV h1
      refine bZ (by kernel_rfl) (fun (s : List aC × Int × Int) T H => Has T [(0, (.msl 3 lo0p 0 (List.length s.1))), (1, (eI n1)), (2, (.fn (.func cmp2_f) cmp2_a cmp2_c)), (6, (eI aL)), (7, (eI s.2.1)), (8, (eI s.2.2))] ∧ aN ⟨H0, [lo0p], []⟩ H [(lo0p, 3, List.map aE s.1)] ∧ List.length s.1 = N0) hl1 ⟨.eq (by kernel_rfl), hO, hN⟩ ?_
      clear hO hN
      rintro k1 s out2 T H ⟨hT, hO, hN⟩ h2 ho1
      obtain ⟨aA, a7, b8⟩ := s
      replace h2 : gE cmp2 n1 aL aA a7 b8 = some out2 := h2
      dsimp only at hT
      refine aZ hT ?_
      clear hT
      unfold gE at h2
      refine aP ?_
      refine aT aG 3 [] [(35, (aJ (decide (b8 ≤ n1))))] ?_
      refine bH h2 (fun h2 => ?_) (fun h2 => ?_)
      · refine bK ?_
        refine bD [(0, (.msl 3 lo0p 0 (List.length aA))), (1, (eI n1)), (2, (.fn (.func cmp2_f) cmp2_a cmp2_c)), (6, (eI aL)), (7, (eI a7)), (8, (eI b8))] ?_
        refine bR 5 ?_
        refine aP ?_
        refine aS aG 8 ?_
        refine bI 7 ?_
        obtain ⟨x10, hx11, h2⟩ := aV h2
        refine mT [(lo0p, 3, List.map aE x10)] 0 (nA lo0p aA a7 (wR (a7 + aL)) b8 cmp2_f cmp2_a cmp2_c cmp2 cmp2_h _ hx11) hO ?_
        intro H hO hl12
        simp only [List.length_map] at hl12
        replace hN := hl12.trans hN
        refine cQ ?_
        refine cE (l := [(0, (.msl 3 lo0p 0 (List.length x10))), (1, (eI n1)), (2, (.fn (.func cmp2_f) cmp2_a cmp2_c)), (6, (eI aL)), (8, (eI b8))]) ⟨[(0, (.msl 3 lo0p 0 (List.length aA))), (1, (eI n1)), (2, (.fn (.func cmp2_f) cmp2_a cmp2_c)), (6, (eI aL)), (8, (eI b8))], by kernel_rfl, rfl, ⟨aR.eq (by simp [hl12]), aR.refl _, aR.refl _, aR.refl _, aR.refl _, trivial⟩⟩ ?_
        refine aI (aH (?_))
        refine aT aG 2 [] [(7, (eI b8))] ?_
        refine aS aG 5 ?_
        refine bA ?_
        exact aI (aX (aH (⟨rfl, _, (oI h2).symm, .eq (by kernel_rfl), hO, hN⟩)))
      refine eR 4 ?_
      obtain rfl := oI h2
      obtain rfl : _ = rr1 := ho1
      replace h1 : dW cmp2 aA n1 aL a7 = some out1 := h1
      exact aI (aU (aU (bM (aH (⟨rfl, _, _, .eq (by kernel_rfl), hO, hN, h1⟩)))))
    refine eR 2 ?_
    obtain rfl := oI h1
    obtain rfl : _ = rr0 := ho0
    replace h0 : some aA = some r := h0
    obtain rfl := oI h0
    exact aI (aU (aU (bM (pK (x := (.tup [])) (by kernel_rfl) (aR.refl _) ⟨rfl, hO.ext, hO.at 0 (by kernel_rfl), by simp only [List.length_map]; exact hN.trans hN0⟩))))
  refine bR 0 ?_
  refine dQ [(0, (.msl 3 lo0p 0 (List.length aA))), (1, (eI n1)), (2, (.fn (.func cmp2_f) cmp2_a cmp2_c)), (6, (eI (20 : Int))), (7, (eI (0 : Int))), (8, (eI (20 : Int)))] ?_
  refine cV (fun T H => ∃ aA : List aC, ∃ aL : Int, ∃ a7 : Int, ∃ b8 : Int, Has T [(0, (.msl 3 lo0p 0 (List.length aA))), (1, (eI n1)), (2, (.fn (.func cmp2_f) cmp2_a cmp2_c)), (6, (eI aL)), (7, (eI a7)), (8, (eI b8))] ∧ aN ⟨H0, [lo0p], []⟩ H [(lo0p, 3, List.map aE aA)] ∧ List.length aA = N0 ∧ fS cmp2 aA n1 aL a7 b8 = some r) ?_ ⟨aA, (20 : Int), (0 : Int), (20 : Int), .eq (by kernel_rfl), hO, hN, h0⟩
  clear hO hN h0
  rintro T H ⟨aA, aL, a7, b8, hT, hO, hN, h0⟩
  refine aZ hT ?_
  clear hT
  unfold fS at h0
  obtain ⟨rr0, hl0, h0⟩ := aV h0
  refine bZ (by kernel_rfl) (fun (s : List aC × Int × Int) T H => Has T [(0, (.msl 3 lo0p 0 (List.length s.1))), (1, (eI n1)), (2, (.fn (.func cmp2_f) cmp2_a cmp2_c)), (6, (eI aL)), (7, (eI s.2.1)), (8, (eI s.2.2))] ∧ aN ⟨H0, [lo0p], []⟩ H [(lo0p, 3, List.map aE s.1)] ∧ List.length s.1 = N0) hl0 ⟨.eq (by kernel_rfl), hO, hN⟩ ?_
  clear hO hN
  rintro k0 s out1 T H ⟨hT, hO, hN⟩ h1 ho0
  obtain ⟨aA, a7, b8⟩ := s
  replace h1 : gF cmp2 n1 aL aA a7 b8 = some out1 := h1
  dsimp only at hT
  refine aZ hT ?_
  clear hT
  unfold gF at h1
  refine aP ?_
  refine aT aG 3 [] [(13, (aJ (decide (b8 ≤ n1))))] ?_
  refine bH h1 (fun h1 => ?_) (fun h1 => ?_)
  · refine bK ?_
    refine bD [(0, (.msl 3 lo0p 0 (List.length aA))), (1, (eI n1)), (2, (.fn (.func cmp2_f) cmp2_a cmp2_c)), (6, (eI aL)), (7, (eI a7)), (8, (eI b8))] ?_
    refine bR 1 ?_
    refine aP ?_
    refine aS aG 5 ?_
    refine bI 4 ?_
    obtain ⟨x14, hx15, h1⟩ := aV h1
    refine mT [(lo0p, 3, List.map aE x14)] 0 (lS lo0p aA a7 b8 cmp2_f cmp2_a cmp2_c cmp2 cmp2_h _ hx15) hO ?_
    intro H hO hl16
    simp only [List.length_map] at hl16
    replace hN := hl16.trans hN
    refine cQ ?_
    refine cE (l := [(0, (.msl 3 lo0p 0 (List.length x14))), (1, (eI n1)), (2, (.fn (.func cmp2_f) cmp2_a cmp2_c)), (6, (eI aL)), (8, (eI b8))]) ⟨[(0, (.msl 3 lo0p 0 (List.length aA))), (1, (eI n1)), (2, (.fn (.func cmp2_f) cmp2_a cmp2_c)), (6, (eI aL)), (8, (eI b8))], by kernel_rfl, rfl, ⟨aR.eq (by simp [hl16]), aR.refl _, aR.refl _, aR.refl _, aR.refl _, trivial⟩⟩ ?_
    refine aI (aH (?_))
    refine aT aG 2 [] [(7, (eI b8))] ?_
    refine aS aG 4 ?_
    refine bA ?_
    exact aI (aX (aH (⟨rfl, _, (oI h1).symm, .eq (by kernel_rfl), hO, hN⟩)))
  refine eR 0 ?_
  obtain rfl := oI h1
  obtain rfl : _ = rr0 := ho0
  replace h0 : dX cmp2 aA n1 aL a7 = some r := h0
  exact aI (aU (aU (bM (aH (⟨rfl, _, _, _, .eq (by kernel_rfl), hO, hN, h0⟩)))))

theorem oW (lo0p : Nat) (x0 : (List aC)) (cmp1_f : Nat) (cmp1_a cmp1_c : List V) (cmp1 : aC → aC → Option Int) (cmp1_h : ∀ a0 a1 r, cmp1 a0 a1 = some r → bU Try.prog cmp1_f (cmp1_a ++ [(aE a0), (aE a1)] ++ cmp1_c) (eI r)) (r : List aC) (h0 : cL x0 cmp1 = some r) : jX Try.prog 58 lo0p 3 (List.map aE x0) (List.map aE r) [(.msl 3 lo0p 0 (List.length x0)), (.fn (.func cmp1_f) cmp1_a cmp1_c)] (.tup []) := by
  intro H0 hl0
  refine cB Try.func58 ?_
  have hO := aN.oJ hl0
  clear hl0
  obtain ⟨N0, hN0⟩ : ∃ n, n = List.length x0 := ⟨_, rfl⟩
  have hN : List.length x0 = N0 := hN0.symm
  unfold cL at h0
  refine aS aG 5 ?_
  refine bI 4 ?_
  obtain ⟨x1, hx2, h0⟩ := aV h0
  refine mT [(lo0p, 3, List.map aE x1)] 0 (tY lo0p x0 (lN x0) cmp1_f cmp1_a cmp1_c cmp1 cmp1_h _ hx2) hO ?_
  intro H hO hl3
  simp only [List.length_map] at hl3
  replace hN := hl3.trans hN
  refine cQ ?_
  refine cE (l := [(0, (.msl 3 lo0p 0 (List.length x1)))]) ⟨[(0, (.msl 3 lo0p 0 (List.length x0)))], by kernel_rfl, rfl, ⟨aR.eq (by simp [hl3]), trivial⟩⟩ ?_
  obtain rfl := oI h0
  exact aI (pK (x := (.tup [])) (by kernel_rfl) (aR.refl _) ⟨rfl, hO.ext, hO.at 0 (by kernel_rfl), by simp only [List.length_map]; exact hN.trans hN0⟩)

theorem MZ (uS : (List Int)) (r : Int) (h0 : rO uS = some r) : bU Try.prog 60 [(eL (eI) uS)] (eI r) := by
  intro H0
  refine cB Try.func60 ?_
  have hO := aN.start H0
  unfold rO at h0
  refine aT aG 1 [] [] ?_
  refine aT aG 1 [] [(3, (eI (0 : Int)))] ?_
  refine dJ (fun T H => ∃ mB : Int, Has T [(3, (eI mB))] ∧ aN ⟨H0, [], []⟩ H [] ∧ pN mB = some r) ?_ ?_
  · clear hO h0
    rintro T H ⟨mB, hT, hO, h0⟩
    refine aZ hT ?_
    clear hT
    unfold pN at h0
    refine bT aG 2 [(2, (eI mB))] ?_
    refine bG ?_
    obtain rfl := oI h0
    exact aI (Q_r hO)
  refine aT aG 3 [0] [(6, (eL (eI) uS)), (7, (eI (lN uS))), (8, (eI (0 : Int)))] ?_
  refine bR 0 ?_
  refine dQ [(3, (eI (0 : Int))), (6, (eL (eI) uS)), (7, (eI (lN uS))), (8, (eI (0 : Int)))] ?_
  refine cV (fun T H => ∃ mB : Int, ∃ t6 : (List Int), ∃ t7 : Int, ∃ t8 : Int, Has T [(3, (eI mB)), (6, (eL (eI) t6)), (7, (eI t7)), (8, (eI t8))] ∧ aN ⟨H0, [], []⟩ H [] ∧ sV mB t6 t7 t8 = some r) ?_ ⟨(0 : Int), uS, (lN uS), (0 : Int), .eq (by kernel_rfl), hO, h0⟩
  clear hO h0
  rintro T H ⟨mB, t6, t7, t8, hT, hO, h0⟩
  refine aZ hT ?_
  clear hT
  unfold sV at h0
  obtain ⟨rr0, hl0, h0⟩ := aV h0
  refine bZ (by kernel_rfl) (fun (s : Int) T H => Has T [(3, (eI mB)), (6, (eL (eI) t6)), (7, (eI t7)), (8, (eI s))] ∧ aN ⟨H0, [], []⟩ H []) hl0 ⟨.eq (by kernel_rfl), hO⟩ ?_
  clear hO
  rintro k0 s out1 T H ⟨hT, hO⟩ h1 ho0
  obtain ⟨t8, rfl⟩ : ∃ x, x = s := ⟨_, rfl⟩
  replace h1 : fP mB t6 t7 t8 = some out1 := h1
  refine aZ hT ?_
  clear hT
  unfold fP at h1
  refine aT aG 1 [] [(9, (aJ (decide (t8 < t7))))] ?_
  refine aP ?_
  refine bH h1 (fun h1 => ?_) (fun h1 => ?_)
  · refine bK ?_
    refine bD [(3, (eI mB)), (6, (eL (eI) t6)), (7, (eI t7)), (8, (eI t8))] ?_
    refine aP ?_
    refine bR 1 ?_
    refine aP ?_
    refine aS aG 3 ?_
    obtain ⟨c2, h1⟩ := bF h1
    refine tH [0 ≤ t8 ∧ t8 < (lN t6)] ⟨c2, trivial⟩ ?_
    refine bO [] [(5, (eI (gD t6 t8)))] ?_
    refine aT aG 3 [] [(14, (aJ (!decide ((gD t6 t8) = mB))))] ?_
    refine bH h1 (fun h1 => ?_) (fun h1 => ?_)
    · refine bT aG 2 [(2, (eI (gD t6 t8)))] ?_
      refine bG ?_
      obtain rfl := oI h1
      obtain rfl : _ = rr0 := ho0
      replace h0 : some (gD t6 t8) = some r := h0
      obtain rfl := oI h0
      exact aI (bS (aW (aW (bS (aW (Q_r hO))))))
    refine bK ?_
    refine hU [(3, (eI mB)), (6, (eL (eI) t6)), (7, (eI t7)), (8, (eI t8))] ?_
    refine aI (aX (aH (?_)))
    refine aS aG 2 ?_
    refine bA ?_
    exact aI (aH (⟨rfl, _, (oI h1).symm, .eq (by kernel_rfl), hO⟩))
  refine eR 0 ?_
  obtain rfl := oI h1
  obtain rfl : _ = rr0 := ho0
  replace h0 : pN mB = some r := h0
  exact aI (aU (aU (bM (aH (⟨rfl, _, .eq (by kernel_rfl), hO, h0⟩)))))

theorem JU (x0 : aC) (y1 : aC) (r : Int) (h0 : lH x0 y1 = some r) : bU Try.prog 59 [(aE x0), (aE y1)] (eI r) := by
  intro H0
  refine cB Try.func59 ?_
  have hO := aN.start H0
  unfold lH at h0
  refine aP ?_
  refine aS aG 3 ?_
  refine kC 3 (aE x0) (by kernel_rfl) (by kernel_rfl) ?_
  refine kC 3 (aE y1) (by kernel_rfl) (by kernel_rfl) ?_
  refine bA ?_
  refine bD [(2, (.rp (aE x0))), (3, (.rp (aE y1)))] ?_
  refine aP ?_
  refine kE (kA [6, 8, 11, 13]) aG 13 ?_
  refine tZ 4 ?_
  obtain ⟨x1, hx2, h0⟩ := aV h0
  refine wC (BE x0.Row y1.Row _ hx2) hO ?_
  intro H hO
  refine tZ 9 ?_
  obtain ⟨x4, hx5, h0⟩ := aV h0
  refine wC (sE x0.At y1.At _ hx5) hO ?_
  intro H hO
  refine KV (xs := [(eI x1), (eI x4)]) (k := 1) (by kernel_rfl) (by kernel_rfl) ?_
  obtain ⟨x7, hx8, h0⟩ := aV h0
  refine PX 60 [(kM [(eI x1), (eI x4)])] (eI x7) (by kernel_rfl) (by kernel_rfl) (bU.sub (MZ ([x1, x4]) _ hx8) ⟨LR (l := [x1, x4]), trivial⟩) hO ?_
  intro H hO
  refine nO ?_
  refine bD [(4, (eI x7))] ?_
  refine bG ?_
  obtain rfl := oI h0
  exact aI (Q_r hO)

theorem QZ (lo0p : Nat) (l0 : (List aC)) (r1 : (List aF)) (f2 : (List aB)) (r : (List aC)) (h0 : uX l0 r1 f2 = some r) : zY Try.prog 78 lo0p 3 (List.map aE l0) [(.msl 3 lo0p 0 (List.length l0)), (eL aM r1), (eL aD f2)] (fun lo => .msl 3 lo 0 (List.length r)) (List.map aE r) := by
  intro H0 hl0
  refine cB Try.func78 ?_
  have hO := aN.oJ hl0
  clear hl0
  unfold uX at h0
  refine aT aG 1 [] [] ?_
  refine dJ (fun T H => ∃ l0 : List aC, ∃ lo1 : Nat, Has T [(0, (.msl 3 lo1 0 (List.length l0)))] ∧ aN ⟨H0, [lo0p], []⟩ H [(lo1, 3, List.map aE l0)] ∧ vR l0 = some r) ?_ ?_
  · clear hO h0
    rintro T H ⟨l0, lo1, hT, hO, h0⟩
    refine aZ hT ?_
    clear hT
    unfold vR at h0
    refine bT aG 2 [(6, (.msl 3 lo1 0 (List.length l0)))] ?_
    refine bG ?_
    obtain rfl := oI h0
    exact aI (oQ (x := (.msl 3 lo1 0 (List.length l0))) (by kernel_rfl) (aR.refl _) ⟨lo1, rfl, hO⟩)
  refine aT aG 3 [2] [(9, (eL aD f2)), (10, (eI (lN f2))), (11, (eI (0 : Int)))] ?_
  refine bR 0 ?_
  refine dQ [(0, (.msl 3 lo0p 0 (List.length l0))), (1, (eL aM r1)), (9, (eL aD f2)), (10, (eI (lN f2))), (11, (eI (0 : Int)))] ?_
  refine cV (fun T H => ∃ l0 : List aC, ∃ t9 : (List aB), ∃ t10 : Int, ∃ t11 : Int, ∃ lo3 : Nat, Has T [(0, (.msl 3 lo3 0 (List.length l0))), (1, (eL aM r1)), (9, (eL aD t9)), (10, (eI t10)), (11, (eI t11))] ∧ aN ⟨H0, [lo0p], []⟩ H [(lo3, 3, List.map aE l0)] ∧ vP l0 r1 t9 t10 t11 = some r) ?_ ⟨l0, f2, (lN f2), (0 : Int), lo0p, .eq (by kernel_rfl), hO, h0⟩
  clear hO h0
  rintro T H ⟨l0, t9, t10, t11, lo3, hT, hO, h0⟩
  refine aZ hT ?_
  clear hT
  unfold vP at h0
  obtain ⟨rr0, hl0, h0⟩ := aV h0
  refine bZ (by kernel_rfl) (fun (s : List aC × Int) T H => ∃ lo3 : Nat, Has T [(0, (.msl 3 lo3 0 (List.length s.1))), (1, (eL aM r1)), (9, (eL aD t9)), (10, (eI t10)), (11, (eI s.2))] ∧ aN ⟨H0, [lo0p], []⟩ H [(lo3, 3, List.map aE s.1)]) hl0 ⟨lo3, .eq (by kernel_rfl), hO⟩ ?_
  clear hO
  rintro k0 s out1 T H ⟨lo3, hT, hO⟩ h1 ho0
  obtain ⟨l0, t11⟩ := s
  replace h1 : mV r1 t9 t10 l0 t11 = some out1 := h1
  dsimp only at hT
  refine aZ hT ?_
  clear hT
  unfold mV at h1
  refine aT aG 1 [] [(12, (aJ (decide (t11 < t10))))] ?_
  refine aP ?_
  refine bH h1 (fun h1 => ?_) (fun h1 => ?_)
  · refine bK ?_
    refine bD [(0, (.msl 3 lo3 0 (List.length l0))), (1, (eL aM r1)), (9, (eL aD t9)), (10, (eI t10)), (11, (eI t11))] ?_
    refine aP ?_
    refine bR 1 ?_
    refine aP ?_
    refine aS aG 4 ?_
    obtain ⟨c5, h1⟩ := bF h1
    refine wE 2 [0 ≤ t11 ∧ t11 < (lN t9)] ⟨c5, trivial⟩ ?_
    refine pL 2 (aD (aB.mk 0 0)) (by kernel_rfl) (by kernel_rfl) hO ?_
    intro lo6 H hO
    refine nN 1 lo6 2 0 (aD (aB.mk 0 0)) (aD (gD t9 t11)) [(aD (aB.mk 0 0))] [(lo3, 3, List.map aE l0), (lo6, 2, [(aD (gD t9 t11))])] hO rfl (by kernel_rfl) ?_
    intro H hO
    refine cQ ?_
    refine bO [] [(8, (.lp lo6 0 0))] ?_
    refine dQ [(0, (.msl 3 lo3 0 (List.length l0))), (1, (eL aM r1)), (8, (.lp lo6 0 0)), (9, (eL aD t9)), (10, (eI t10)), (11, (eI t11))] ?_
    refine JB 2 1 8 2 lo6 (aD (gD t9 t11)) [(lo3, 3, List.map aE l0)] hO (by kernel_rfl) (by kernel_rfl) (by kernel_rfl) ?_
    intro H hO
    refine kE (kA [19, 21]) aG 11 ?_
    refine tZ 2 ?_
    obtain ⟨x7, hx8, h1⟩ := aV h1
    refine wC (FO r1 _ hx8) hO ?_
    intro H hO
    refine tZ 8 ?_
    refine KV (xs := [(aE (aC.mk x7 ((gD t9 t11).At) ((gD t9 t11).Net)))]) (k := 3) (by kernel_rfl) (by kernel_rfl) ?_
    obtain ⟨c11, h1⟩ := bF h1
    refine HX (e := aE) l0 ([aC.mk x7 ((gD t9 t11).At) ((gD t9 t11).Net)]) 0 lo3 3 40 (kM [(aE (aC.mk x7 ((gD t9 t11).At) ((gD t9 t11).Net)))]) (fun lo10 => [(lo10, 3, List.map aE (l0 ++ ([aC.mk x7 ((gD t9 t11).At) ((gD t9 t11).Net)])))]) (by kernel_rfl) (by kernel_rfl) hO (by kernel_rfl) (by kernel_rfl) c11 (fun _ => by kernel_rfl) ?_
    intro lo10 H hO
    refine nO ?_
    refine hU [(0, (.msl 3 lo10 0 (List.length (l0 ++ ([aC.mk x7 ((gD t9 t11).At) ((gD t9 t11).Net)]))))), (1, (eL aM r1)), (9, (eL aD t9)), (10, (eI t10)), (11, (eI t11))] ?_
    refine aI (aX (aH (?_)))
    refine aS aG 2 ?_
    refine bA ?_
    exact aI (aH (⟨rfl, _, (oI h1).symm, _, .eq (by kernel_rfl), hO⟩))
  refine eR 0 ?_
  obtain rfl := oI h1
  obtain rfl : _ = rr0 := ho0
  replace h0 : vR l0 = some r := h0
  exact aI (aU (aU (bM (aH (⟨rfl, _, _, .eq (by kernel_rfl), hO, h0⟩)))))

theorem BC (l0 : (List aC)) (by1_f : Nat) (by1_a by1_c : List V) (by1 : (List aB) → Option ((List aB) × Int)) (by1_h : ∀ a0 r, by1 a0 = some r → bU Try.prog by1_f (by1_a ++ [(eL aD a0)] ++ by1_c) (.tup [(eL aD r.1), (eI r.2)])) (r : ((List aC) × Int)) (h0 : nZ l0 by1 = some r) : bU Try.prog 63 [(eL aE l0), (.fn (.func by1_f) by1_a by1_c)] (.tup [(eL aE r.1), (eI r.2)]) := by
  intro H0
  refine PO aG Try.func63 (by kernel_rfl) (by kernel_rfl) (by kernel_rfl) ?_
  have hO := aN.start H0
  unfold nZ at h0
  refine aP ?_
  refine aS aG 3 ?_
  refine kC 1 (.fn (.func by1_f) by1_a by1_c) (by kernel_rfl) (by kernel_rfl) ?_
  refine zR 1 (.sl true 0 (fun _ => .bad)) (eL aE ([])) (by kernel_rfl) (by kernel_rfl) (by kernel_rfl) (iQ) (by kernel_rfl) (by kernel_rfl) hO ?_
  intro lo1 H hO
  refine pL 1 (eI 0) (by kernel_rfl) (by kernel_rfl) hO ?_
  intro lo2 H hO
  refine cQ ?_
  refine bO [1] [(3, (.rp (.fn (.func by1_f) by1_a by1_c))), (4, (.lp lo1 0 0)), (5, (.lp lo2 0 0))] ?_
  refine aP ?_
  refine aS aG 3 ?_
  refine rX (xs := []) (k := 3) (by kernel_rfl) (by kernel_rfl) ?_
  refine zR 1 (.sl true 0 (fun _ => .bad)) (eL aE ([])) (by kernel_rfl) (by kernel_rfl) (by kernel_rfl) (iQ) (by kernel_rfl) (by kernel_rfl) hO ?_
  intro lo3 H hO
  refine YY 11 3 (fun _ => .bad) (by kernel_rfl) hO (by kernel_rfl) ?_
  intro lo4 H hO
  refine nN 2 lo3 1 0 (eL aE ([])) (.msl 3 lo4 0 (List.length ([] : List aC))) [(eL aE ([]))] [(lo1, 1, [(eL aE ([]))]), (lo2, 1, [(eI 0)]), (lo3, 1, [(.msl 3 lo4 0 (List.length ([] : List aC)))]), (lo4, 3, List.map aE ([] : List aC))] hO rfl (by kernel_rfl) ?_
  intro H hO
  refine cQ ?_
  refine bO [] [(6, (.lp lo3 0 0))] ?_
  refine aP ?_
  refine aP ?_
  refine aS aG 2 ?_
  refine bI 1 ?_
  obtain ⟨x5, hx6, h0⟩ := aV h0
  refine cD (DY l0 _ hx6) hO ?_
  intro H hO
  refine cQ ?_
  refine bO [0] [(13, (.fn (.func 104) [] [(.rp (eL aE x5))]))] ?_
  refine bR 0 ?_
  refine dQ [(3, (.rp (.fn (.func by1_f) by1_a by1_c))), (4, (.lp lo1 0 0)), (5, (.lp lo2 0 0)), (6, (.lp lo3 0 0)), (13, (.fn (.func 104) [] [(.rp (eL aE x5))]))] ?_
  refine cV (fun T H => ∃ t4 : (List aC), ∃ t5 : Int, ∃ out6 : List aC, ∃ jF : (List aC), ∃ lo7 : Nat, ∃ lo8 : Nat, ∃ lo9 : Nat, ∃ lo10 : Nat, Has T [(3, (.rp (.fn (.func by1_f) by1_a by1_c))), (4, (.lp lo7 0 0)), (5, (.lp lo8 0 0)), (6, (.lp lo9 0 0)), (13, (.fn (.func 104) [] [(.rp (eL aE jF))]))] ∧ aN ⟨H0, [], []⟩ H [(lo7, 1, [(eL aE t4)]), (lo8, 1, [(eI t5)]), (lo9, 1, [(.msl 3 lo10 0 (List.length out6))]), (lo10, 3, List.map aE out6)] ∧ rQ by1 t4 t5 out6 jF = some r) ?_ ⟨[], 0, ([] : List aC), x5, lo1, lo2, lo3, lo4, .eq (by kernel_rfl), hO, h0⟩
  clear hO h0
  rintro T H ⟨t4, t5, out6, jF, lo7, lo8, lo9, lo10, hT, hO, h0⟩
  refine aZ (l := [(3, (.rp (.fn (.func by1_f) by1_a by1_c))), (4, (.lp lo7 0 0)), (5, (.lp lo8 0 0)), (6, (.lp lo9 0 0)), (13, (.fn (.func 104) [] [(.rp (eL aE jF))]))]) hT ?_
  clear hT
  unfold rQ at h0
  obtain ⟨o0, hl0, h0⟩ := aV h0
  refine MF (fid := 104) (ys := []) (cs := [(.rp (eL aE jF))]) #[14, 15] (fun (A : zQ) (b lL : Nat) (st : ((List aC) × Int × List aC) ⊕ ((List aC) × Int × List aC)) (G' : Gs) => Sum.elim (fun (s : (List aC) × Int × List aC) => ∃ lo10 : Nat, G' = (lL, .raw (lA b A .ready none)) :: (up [(lo7, 1, [(eL aE s.1)]), (lo8, 1, [(eI s.2.1)]), (lo9, 1, [(.msl 3 lo10 0 (List.length s.2.2))]), (lo10, 3, List.map aE s.2.2)] ++ [])) (fun (s : (List aC) × Int × List aC) => ∃ lo10 : Nat, G' = (lL, .raw (lA b A .done (some .ret))) :: (up [(lo7, 1, [(eL aE s.1)]), (lo8, 1, [(eI s.2.1)]), (lo9, 1, [(.msl 3 lo10 0 (List.length s.2.2))]), (lo10, 3, List.map aE s.2.2)] ++ [])) st) (.inl (t4, t5, out6)) o0 (.tup []) (by kernel_rfl) (by kernel_rfl) (by kernel_rfl) hO (fun _ _ => ⟨lo10, rfl⟩) ?_ ?_
  · intro b lL
    clear hO h0
    refine yG _ b (fun st t14 t15 => rnd (fun (s : (List aC) × Int × List aC) => lU by1 jF s.1 s.2.1 s.2.2 t14 t15) st) ?_ jF _ _ hl0
    intro st t14 t15 st2 rr hr
    obtain ⟨s, rfl, h1, rfl⟩ := ZH hr
    clear hr
    intro Hr Gr hi hg
    obtain ⟨t4, t5, out6⟩ := s
    dsimp only [Sum.elim_inl] at hi
    obtain ⟨lo10, rfl⟩ := hi
    replace h1 : lU by1 jF t4 t5 out6 t14 t15 = some st2 := h1
    unfold lU at h1
    obtain ⟨E1, hE, hO⟩ := DT hg
    refine DV (NG (hO.gm 0 _ rfl).2 (by kernel_rfl) (by kernel_rfl) ?_)
    refine dQ [(3, (.rp (.fn (.func by1_f) by1_a by1_c))), (4, (.lp lo7 0 0)), (5, (.lp lo8 0 0)), (6, (.lp lo9 0 0)), (13, (.fn (.func 104) [] [(.rp (eL aE jF))])), (14, (eL aM t14)), (15, (eL aD t15))] ?_
    refine aT aG 1 [13, 14] [(7, (eL aM t14))] ?_
    refine aS aG 1 ?_
    refine bA ?_
    refine hU [(3, (.rp (.fn (.func by1_f) by1_a by1_c))), (4, (.lp lo7 0 0)), (5, (.lp lo8 0 0)), (6, (.lp lo9 0 0)), (7, (eL aM t14)), (8, (eL aD t15))] ?_
    refine aI (⟨rfl, rfl, (hO.gm 0 _ rfl).2, ?_⟩)
    intro o1 ho1
    replace hO := hO.BO o1
    refine bR 1 ?_
    refine aP ?_
    refine aS aG 8 ?_
    refine bI 2 ?_
    obtain ⟨x11, hx12, h1⟩ := aV h1
    refine cD (by1_h t15 _ hx12) hO ?_
    intro H hO
    refine bA ?_
    refine bO [3, 8] [(9, (eL aD x11.1)), (10, (eI x11.2))] ?_
    refine aP ?_
    refine aT aG 2 [] [(23, (aJ (!decide (x11.2 = (0 : Int)))))] ?_
    refine bH h1 (fun h1 => ?_) (fun h1 => ?_)
    · refine aP ?_
      refine aS aG 3 ?_
      refine bI 1 ?_
      refine nN 0 lo7 1 0 (eL aE t4) (.sl true 0 (fun _ => .bad)) [(eL aE t4)] [(lo7, 1, [(.sl true 0 (fun _ => .bad))]), (lo8, 1, [(eI t5)]), (lo9, 1, [(.msl 3 lo10 0 (List.length out6))]), (lo10, 3, List.map aE out6)] hO rfl (by kernel_rfl) ?_
      intro H hO
      refine nN 1 lo8 1 0 (eI t5) (eI x11.2) [(eI t5)] [(lo7, 1, [(.sl true 0 (fun _ => .bad))]), (lo8, 1, [(eI x11.2)]), (lo9, 1, [(.msl 3 lo10 0 (List.length out6))]), (lo10, 3, List.map aE out6)] hO rfl (by kernel_rfl) ?_
      intro H hO
      refine cQ ?_
      refine MQ 0 lo7 1 (.sl true 0 (fun _ => .bad)) (eL aE ([])) [(lo7, 1, [(eL aE ([]))]), (lo8, 1, [(eI x11.2)]), (lo9, 1, [(.msl 3 lo10 0 (List.length out6))]), (lo10, 3, List.map aE out6)] hO (by kernel_rfl) (by kernel_rfl) iQ (by kernel_rfl) ?_
      intro H hO
      refine bD [(4, (.lp lo7 0 0)), (5, (.lp lo8 0 0)), (6, (.lp lo9 0 0))] ?_
      refine bG ?_
      refine hU [(4, (.lp lo7 0 0)), (5, (.lp lo8 0 0)), (6, (.lp lo9 0 0))] ?_
      obtain rfl := oI h1
      exact aI (aW (bS (⟨(mY hO hE ho1 .dead).1, rfl, _, ⟨lo10, rfl⟩, (mY hO hE ho1 _).2⟩)))
    refine bK ?_
    refine bD [(4, (.lp lo7 0 0)), (5, (.lp lo8 0 0)), (6, (.lp lo9 0 0)), (7, (eL aM t14)), (9, (eL aD x11.1))] ?_
    refine aP ?_
    refine aS aG 5 ?_
    refine uD 2 lo9 1 0 (.msl 3 lo10 0 (List.length out6)) (.msl 3 lo10 0 (List.length out6)) [(.msl 3 lo10 0 (List.length out6))] hO rfl ?_
    refine bI 3 ?_
    obtain ⟨x15, hx16, h1⟩ := aV h1
    refine XQ (L' := fun lo17 => [(lo7, 1, [(eL aE t4)]), (lo8, 1, [(eI t5)]), (lo9, 1, [(.msl 3 lo10 0 (List.length out6))]), (lo17, 3, List.map aE x15)]) 3 lo10 3 (List.map aE out6) (List.map aE x15) 78 [(.msl 3 lo10 0 (List.length out6)), (eL aM t14), (eL aD x11.1)] (fun lo17 => (.msl 3 lo17 0 (List.length x15))) (by kernel_rfl) (by kernel_rfl) (QZ lo10 out6 t14 x11.1 _ hx16) hO (by kernel_rfl) (fun _ => by kernel_rfl) ?_
    intro lo17 H hO
    refine nN 2 lo9 1 0 (.msl 3 lo10 0 (List.length out6)) (.msl 3 lo17 0 (List.length x15)) [(.msl 3 lo10 0 (List.length out6))] [(lo7, 1, [(eL aE t4)]), (lo8, 1, [(eI t5)]), (lo9, 1, [(.msl 3 lo17 0 (List.length x15))]), (lo17, 3, List.map aE x15)] hO rfl (by kernel_rfl) ?_
    intro H hO
    refine cQ ?_
    refine bO [7, 9] [] ?_
    refine aP ?_
    refine aS aG 3 ?_
    refine uD 2 lo9 1 0 (.msl 3 lo17 0 (List.length x15)) (.msl 3 lo17 0 (List.length x15)) [(.msl 3 lo17 0 (List.length x15))] hO rfl ?_
    refine bA ?_
    refine bO [] [(31, (aJ (decide ((4096 : Int) < (lN x15)))))] ?_
    refine bH h1 (fun h1 => ?_) (fun h1 => ?_)
    · refine aP ?_
      refine aS aG 2 ?_
      refine nN 0 lo7 1 0 (eL aE t4) (.sl true 0 (fun _ => .bad)) [(eL aE t4)] [(lo7, 1, [(.sl true 0 (fun _ => .bad))]), (lo8, 1, [(eI t5)]), (lo9, 1, [(.msl 3 lo17 0 (List.length x15))]), (lo17, 3, List.map aE x15)] hO rfl (by kernel_rfl) ?_
      intro H hO
      refine nN 1 lo8 1 0 (eI t5) (eI (7 : Int)) [(eI t5)] [(lo7, 1, [(.sl true 0 (fun _ => .bad))]), (lo8, 1, [(eI (7 : Int))]), (lo9, 1, [(.msl 3 lo17 0 (List.length x15))]), (lo17, 3, List.map aE x15)] hO rfl (by kernel_rfl) ?_
      intro H hO
      refine cQ ?_
      refine MQ 0 lo7 1 (.sl true 0 (fun _ => .bad)) (eL aE ([])) [(lo7, 1, [(eL aE ([]))]), (lo8, 1, [(eI (7 : Int))]), (lo9, 1, [(.msl 3 lo17 0 (List.length x15))]), (lo17, 3, List.map aE x15)] hO (by kernel_rfl) (by kernel_rfl) iQ (by kernel_rfl) ?_
      intro H hO
      refine bD [(4, (.lp lo7 0 0)), (5, (.lp lo8 0 0)), (6, (.lp lo9 0 0))] ?_
      refine bG ?_
      refine hU [(4, (.lp lo7 0 0)), (5, (.lp lo8 0 0)), (6, (.lp lo9 0 0))] ?_
      obtain rfl := oI h1
      exact aI (bS (⟨(mY hO hE ho1 .dead).1, rfl, _, ⟨lo17, rfl⟩, (mY hO hE ho1 _).2⟩))
    refine bK ?_
    refine hU [(4, (.lp lo7 0 0)), (5, (.lp lo8 0 0)), (6, (.lp lo9 0 0))] ?_
    obtain rfl := oI h1
    exact aI (aX (⟨(mY hO hE ho1 .dead).1, rfl, _, ⟨lo17, rfl⟩, (mY hO hE ho1 _).2⟩))
  · intro b lD lL H' G' hi hO
    rcases o0 with s | s
    · dsimp only [Sum.elim_inl] at hi
      obtain ⟨lo10, rfl⟩ := hi
      replace h0 : (some (s.2.2, (0 : Int))) = some r := h0
      obtain ⟨hlL, hO⟩ := wM hO
      refine ⟨_, _, hlL, (by intro e; cases e), ?_⟩
      refine hU [(4, (.lp lo7 0 0)), (5, (.lp lo8 0 0)), (6, (.lp lo9 0 0))] ?_
      refine aI (aX (aH (?_)))
      refine aP ?_
      refine QV (e := aE) s.2.2 2 3 1 3 lo9 lo10 (List.length s.2.2) [(lo7, 1, [(eL aE s.1)]), (lo8, 1, [(eI s.2.1)]), (lo9, 1, [(eL aE s.2.2)])] hO (by kernel_rfl) (by kernel_rfl) (by kernel_rfl) (.inr (by decide)) (by kernel_rfl) ?_
      intro H hO
      refine aS aG 3 ?_
      refine uD 2 lo9 1 0 (eL aE s.2.2) (eL aE s.2.2) [(eL aE s.2.2)] hO rfl ?_
      refine nN 0 lo7 1 0 (eL aE s.1) (eL aE s.2.2) [(eL aE s.1)] [(lo7, 1, [(eL aE s.2.2)]), (lo8, 1, [(eI s.2.1)]), (lo9, 1, [(eL aE s.2.2)])] hO rfl (by kernel_rfl) ?_
      intro H hO
      refine nN 1 lo8 1 0 (eI s.2.1) (eI (0 : Int)) [(eI s.2.1)] [(lo7, 1, [(eL aE s.2.2)]), (lo8, 1, [(eI (0 : Int))]), (lo9, 1, [(eL aE s.2.2)])] hO rfl (by kernel_rfl) ?_
      intro H hO
      refine cQ ?_
      replace hO := hO.pick (L' := [(lo7, 1, [(eL aE s.2.2)]), (lo8, 1, [(eI (0 : Int))])]) [0, 1] (by decide) (by kernel_rfl)
      refine bO [6] [] ?_
      refine bG ?_
      obtain rfl := oI h0
      have hD := (hO.gm 0 _ rfl).2
      replace hO := (hO.BO .dead).zU
      exact aI (QM1 (.inr rfl) hD (rs := [.cell 4 22, .cell 5 25]) (xs := [(eL aE s.2.2), (eI (0 : Int))]) (x := (.tup [(eL aE s.2.2), (eI (0 : Int))])) (by kernel_rfl) (vB (lo := lo7) (k := 1) (y := (eL aE s.2.2)) (x := (eL aE s.2.2)) 0 hO (by kernel_rfl) (by kernel_rfl) (by kernel_rfl) (by kernel_rfl) (vB (lo := lo8) (k := 1) (y := (eI (0 : Int))) (x := (eI (0 : Int))) 1 hO (by kernel_rfl) (by kernel_rfl) (by kernel_rfl) (by kernel_rfl) CB)) (by kernel_rfl) ⟨rfl, hO.out⟩)
    · dsimp only [Sum.elim_inr] at hi
      obtain ⟨lo10, rfl⟩ := hi
      replace h0 : (some (s.1, s.2.1)) = some r := h0
      obtain ⟨hlL, hO⟩ := wM hO
      refine ⟨_, _, hlL, (by intro e; cases e), ?_⟩
      refine bG ?_
      replace hO := hO.pick (L' := [(lo7, 1, [(eL aE s.1)]), (lo8, 1, [(eI s.2.1)])]) [0, 1] (by decide) (by kernel_rfl)
      obtain rfl := oI h0
      have hD := (hO.gm 0 _ rfl).2
      replace hO := (hO.BO .dead).zU
      exact aI (bS (aW (QM1 (.inr rfl) hD (rs := [.cell 4 22, .cell 5 25]) (xs := [(eL aE s.1), (eI s.2.1)]) (x := (.tup [(eL aE s.1), (eI s.2.1)])) (by kernel_rfl) (vB (lo := lo7) (k := 1) (y := (eL aE s.1)) (x := (eL aE s.1)) 0 hO (by kernel_rfl) (by kernel_rfl) (by kernel_rfl) (by kernel_rfl) (vB (lo := lo8) (k := 1) (y := (eI s.2.1)) (x := (eI s.2.1)) 1 hO (by kernel_rfl) (by kernel_rfl) (by kernel_rfl) (by kernel_rfl) CB)) (by kernel_rfl) ⟨rfl, hO.out⟩)))

theorem qX (s0 : (List aB)) (f1_f : Nat) (f1_a f1_c : List V) (f1 : aB → Option Bool) (f1_h : ∀ a0 r, f1 a0 = some r → bU Try.prog f1_f (f1_a ++ [(aD a0)] ++ f1_c) (aJ r)) (r : Int) (h0 : eO s0 f1 = some r) : bU Try.prog 116 [(eL aD s0), (.fn (.func f1_f) f1_a f1_c)] (eI r) := by
  intro H0
  refine cB Try.func116 ?_
  have hO := aN.start H0
  unfold eO at h0
  refine aT aG 1 [] [] ?_
  refine dJ (fun T H => Has T [] ∧ aN ⟨H0, [], []⟩ H [] ∧ cY f1  = some r) ?_ ?_
  · clear hO h0
    rintro T H ⟨hT, hO, h0⟩
    refine aZ hT ?_
    clear hT
    unfold cY at h0
    refine bT aG 1 [(4, (eI (-1 : Int)))] ?_
    refine bG ?_
    obtain rfl := oI h0
    exact aI (Q_r hO)
  refine aT aG 3 [] [(7, (eI (lN s0))), (8, (eI (0 : Int)))] ?_
  refine bR 0 ?_
  refine dQ [(0, (eL aD s0)), (1, (.fn (.func f1_f) f1_a f1_c)), (7, (eI (lN s0))), (8, (eI (0 : Int)))] ?_
  refine cV (fun T H => ∃ t7 : Int, ∃ t8 : Int, Has T [(0, (eL aD s0)), (1, (.fn (.func f1_f) f1_a f1_c)), (7, (eI t7)), (8, (eI t8))] ∧ aN ⟨H0, [], []⟩ H [] ∧ eJ f1 s0 t7 t8 = some r) ?_ ⟨(lN s0), (0 : Int), .eq (by kernel_rfl), hO, h0⟩
  clear hO h0
  rintro T H ⟨t7, t8, hT, hO, h0⟩
  refine aZ hT ?_
  clear hT
  unfold eJ at h0
  obtain ⟨rr0, hl0, h0⟩ := aV h0
  refine bZ (by kernel_rfl) (fun (s : Int) T H => Has T [(0, (eL aD s0)), (1, (.fn (.func f1_f) f1_a f1_c)), (7, (eI t7)), (8, (eI s))] ∧ aN ⟨H0, [], []⟩ H []) hl0 ⟨.eq (by kernel_rfl), hO⟩ ?_
  clear hO
  rintro k0 s out1 T H ⟨hT, hO⟩ h1 ho0
  obtain ⟨t8, rfl⟩ : ∃ x, x = s := ⟨_, rfl⟩
  replace h1 : eG f1 s0 t7 t8 = some out1 := h1
  refine aZ hT ?_
  clear hT
  unfold eG at h1
  refine aT aG 1 [] [(9, (aJ (decide (t8 < t7))))] ?_
  refine aP ?_
  refine bH h1 (fun h1 => ?_) (fun h1 => ?_)
  · refine bK ?_
    refine bD [(0, (eL aD s0)), (1, (.fn (.func f1_f) f1_a f1_c)), (7, (eI t7)), (8, (eI t8))] ?_
    refine aP ?_
    refine bR 1 ?_
    refine aT aG 2 [] [(5, (eI t8))] ?_
    refine aP ?_
    refine aS aG 6 ?_
    obtain ⟨c2, h1⟩ := bF h1
    refine wE 5 [0 ≤ t8 ∧ t8 < (lN s0)] ⟨c2, trivial⟩ ?_
    obtain ⟨x3, hx4, h1⟩ := aV h1
    refine cD (f1_h (gD s0 t8) _ hx4) hO ?_
    intro H hO
    refine cQ ?_
    refine bO [] [(16, (aJ x3))] ?_
    refine bH h1 (fun h1 => ?_) (fun h1 => ?_)
    · refine bT aG 2 [(4, (eI t8))] ?_
      refine bG ?_
      obtain rfl := oI h1
      obtain rfl : _ = rr0 := ho0
      replace h0 : some t8 = some r := h0
      obtain rfl := oI h0
      exact aI (bS (aW (aW (bS (aW (Q_r hO))))))
    refine bK ?_
    refine hU [(0, (eL aD s0)), (1, (.fn (.func f1_f) f1_a f1_c)), (7, (eI t7)), (8, (eI t8))] ?_
    refine aI (aX (aH (?_)))
    refine aS aG 2 ?_
    refine bA ?_
    exact aI (aH (⟨rfl, _, (oI h1).symm, .eq (by kernel_rfl), hO⟩))
  refine eR 0 ?_
  obtain rfl := oI h1
  obtain rfl : _ = rr0 := ho0
  replace h0 : cY f1  = some r := h0
  exact aI (aU (aU (bM (aH (⟨rfl, .eq (by kernel_rfl), hO, h0⟩)))))

theorem lI (s0 : (List aB)) (f1_f : Nat) (f1_a f1_c : List V) (f1 : aB → Option Bool) (f1_h : ∀ a0 r, f1 a0 = some r → bU Try.prog f1_f (f1_a ++ [(aD a0)] ++ f1_c) (aJ r)) (r : Bool) (h0 : cF s0 f1 = some r) : bU Try.prog 96 [(eL aD s0), (.fn (.func f1_f) f1_a f1_c)] (aJ r) := by
  intro H0
  refine cB Try.func96 ?_
  have hO := aN.start H0
  unfold cF at h0
  refine aT aG 1 [] [] ?_
  refine aP ?_
  refine aS aG 5 ?_
  refine bI 2 ?_
  obtain ⟨x1, hx2, h0⟩ := aV h0
  refine cD (qX s0 f1_f f1_a f1_c f1 f1_h _ hx2) hO ?_
  intro H hO
  refine bA ?_
  refine bD [(4, (aJ (decide ((0 : Int) ≤ x1))))] ?_
  refine bG ?_
  obtain rfl := oI h0
  exact aI (Q_r hO)

theorem JV (j0 : aB) (r : Bool) (h0 : pY j0 = some r) : bU Try.prog 97 [(aD j0)] (aJ r) := by
  intro H0
  refine cB Try.func97 ?_
  have hO := aN.start H0
  unfold pY at h0
  refine aP ?_
  refine aS aG 2 ?_
  refine kC 2 (aD j0) (by kernel_rfl) (by kernel_rfl) ?_
  refine bA ?_
  refine bD [(1, (.rp (aD j0)))] ?_
  refine aP ?_
  refine aS aG 5 ?_
  refine bI 2 ?_
  obtain ⟨x1, hx2, h0⟩ := aV h0
  refine cD (DU j0.Net _ hx2) hO ?_
  intro H hO
  refine bA ?_
  refine bD [(2, (aJ (!x1)))] ?_
  refine bG ?_
  obtain rfl := oI h0
  exact aI (Q_r hO)

theorem JZ (j0 : aB) (r : Bool) (h0 : pV j0 = some r) : bU Try.prog 98 [(aD j0)] (aJ r) := by
  intro H0
  refine cB Try.func98 ?_
  have hO := aN.start H0
  unfold pV at h0
  refine aP ?_
  refine aS aG 2 ?_
  refine kC 2 (aD j0) (by kernel_rfl) (by kernel_rfl) ?_
  refine bA ?_
  refine bD [(1, (.rp (aD j0)))] ?_
  refine bT aG 9 [(2, (aJ ((decide (j0.At < (-1 : Int))) || (decide ((1125899906842624 : Int) < j0.At)))))] ?_
  refine bG ?_
  obtain rfl := oI h0
  exact aI (Q_r hO)

theorem kK (s0 : (List aB)) (r : (List aB)) (h0 : bY s0 = some r) : wL Try.prog 99 [(eL aD s0)] (fun lo => (.msl 2 lo 0 (List.length r))) 2 (List.map aD r) := by
  intro H0
  refine cB Try.func99 ?_
  have hO := aN.start H0
  unfold bY at h0
  refine aT aG 1 [] [] ?_
  refine aP ?_
  refine aP ?_
  refine aS aG 2 ?_
  refine bI 1 ?_
  refine WZ false (List.length s0) (fun i => aD (List.getD s0 i default)) (by kernel_rfl) (by kernel_rfl) ?_
  intro b1 hn2
  refine cQ ?_
  refine bO [] [(4, (aJ b1))] ?_
  refine mP (b1) (fun hc3 => ?_) (fun hc3 => ?_)
  · replace h0 : some ([] : List aB) = some r := by
      have hl := List.eq_nil_of_length_eq_zero (hn2 hc3)
      rw [hl] at h0
      exact (bF h0).2
    refine bT aG 1 [(2, (.sl true 0 (fun _ => .bad)))] ?_
    refine bG ?_
    refine hU [(2, (.sl true 0 (fun _ => .bad)))] ?_
    refine LI (el := (fun _ => .bad)) 0 2 2 hO (by kernel_rfl) ?_
    intro lo4 H5 hO
    obtain rfl := oI h0
    exact aI (aW (oQ (x := (.msl 2 lo4 0 (List.length ([] : List aB)))) (by kernel_rfl) (aR.refl _) ⟨lo4, rfl, hO⟩))
  · refine bK ?_
    refine bD [(0, (eL aD s0))] ?_
    refine aP ?_
    refine aS aG 4 ?_
    refine rX (xs := []) (k := 2) (by kernel_rfl) (by kernel_rfl) ?_
    refine bI 2 ?_
    obtain ⟨c7, h0⟩ := bF h0
    refine HU (e := aD) s0 (fun _ => .bad) 2 16 (eL aD s0) (fun lo6 => [(lo6, 2, List.map aD s0)]) (by kernel_rfl) (by kernel_rfl) hO (HS (fun _ => by kernel_rfl)) c7 (fun _ => by kernel_rfl) ?_
    intro lo6 H hO
    refine bA ?_
    refine bD [(2, (.msl 2 lo6 0 (List.length s0)))] ?_
    refine bG ?_
    obtain rfl := oI h0
    exact aI (oQ (x := (.msl 2 lo6 0 (List.length s0))) (by kernel_rfl) (aR.refl _) ⟨lo6, rfl, hO⟩)

theorem lR (lo0p : Nat) (aA : (List aB)) (a1 : Int) (b2 : Int) (cmp3_f : Nat) (cmp3_a cmp3_c : List V) (cmp3 : aB → aB → Option Int) (cmp3_h : ∀ a0 a1 r, cmp3 a0 a1 = some r → bU Try.prog cmp3_f (cmp3_a ++ [(aD a0), (aD a1)] ++ cmp3_c) (eI r)) (r : List aB) (h0 : cS aA a1 b2 cmp3 = some r) : jX Try.prog 121 lo0p 2 (List.map aD aA) (List.map aD r) [(.msl 2 lo0p 0 (List.length aA)), (eI a1), (eI b2), (.fn (.func cmp3_f) cmp3_a cmp3_c)] (.tup []) := by
  intro H0 hl0
  refine cB Try.func121 ?_
  have hO := aN.oJ hl0
  clear hl0
  obtain ⟨N0, hN0⟩ : ∃ n, n = List.length aA := ⟨_, rfl⟩
  have hN : List.length aA = N0 := hN0.symm
  unfold cS at h0
  refine aT aG 3 [] [(8, (eI (wR (a1 + (1 : Int)))))] ?_
  refine bR 0 ?_
  refine dQ [(0, (.msl 2 lo0p 0 (List.length aA))), (1, (eI a1)), (2, (eI b2)), (3, (.fn (.func cmp3_f) cmp3_a cmp3_c)), (8, (eI (wR (a1 + (1 : Int)))))] ?_
  refine cV (fun T H => ∃ aA : List aB, ∃ i8 : Int, Has T [(0, (.msl 2 lo0p 0 (List.length aA))), (1, (eI a1)), (2, (eI b2)), (3, (.fn (.func cmp3_f) cmp3_a cmp3_c)), (8, (eI i8))] ∧ aN ⟨H0, [lo0p], []⟩ H [(lo0p, 2, List.map aD aA)] ∧ List.length aA = N0 ∧ gR cmp3 aA a1 b2 i8 = some r) ?_ ⟨aA, wR (a1 + (1 : Int)), .eq (by kernel_rfl), hO, hN, h0⟩
  clear hO hN h0
  rintro T H ⟨aA, i8, hT, hO, hN, h0⟩
  refine aZ hT ?_
  clear hT
  unfold gR at h0
  obtain ⟨rr0, hl0, h0⟩ := aV h0
  refine bZ (by kernel_rfl) (fun (s : List aB × Int) T H => Has T [(0, (.msl 2 lo0p 0 (List.length s.1))), (1, (eI a1)), (2, (eI b2)), (3, (.fn (.func cmp3_f) cmp3_a cmp3_c)), (8, (eI s.2))] ∧ aN ⟨H0, [lo0p], []⟩ H [(lo0p, 2, List.map aD s.1)] ∧ List.length s.1 = N0) hl0 ⟨.eq (by kernel_rfl), hO, hN⟩ ?_
  clear hO hN
  rintro k0 s out1 T H ⟨hT, hO, hN⟩ h1 ho0
  obtain ⟨aA, i8⟩ := s
  replace h1 : gQ cmp3 a1 b2 aA i8 = some out1 := h1
  dsimp only at hT
  refine aZ hT ?_
  clear hT
  unfold gQ at h1
  refine aP ?_
  refine aT aG 3 [] [(14, (aJ (decide (i8 < b2))))] ?_
  refine bH h1 (fun h1 => ?_) (fun h1 => ?_)
  · refine bK ?_
    refine bD [(0, (.msl 2 lo0p 0 (List.length aA))), (1, (eI a1)), (2, (eI b2)), (3, (.fn (.func cmp3_f) cmp3_a cmp3_c)), (8, (eI i8))] ?_
    refine dJ (fun T H => ∃ aA : List aB, Has T [(0, (.msl 2 lo0p 0 (List.length aA))), (1, (eI a1)), (2, (eI b2)), (3, (.fn (.func cmp3_f) cmp3_a cmp3_c)), (8, (eI i8))] ∧ aN ⟨H0, [lo0p], []⟩ H [(lo0p, 2, List.map aD aA)] ∧ List.length aA = N0 ∧ dR cmp3 aA a1 b2 i8 = some out1) ?_ ?_
    · clear hO hN h1
      rintro T H ⟨aA, hT, hO, hN, h1⟩
      refine aZ hT ?_
      clear hT
      unfold dR at h1
      refine aS aG 3 ?_
      refine bA ?_
      exact aI (aH (⟨rfl, _, (oI h1).symm, .eq (by kernel_rfl), hO, hN⟩))
    refine bR 1 ?_
    refine aT aG 2 [] [(9, (eI i8))] ?_
    refine bR 2 ?_
    refine dQ [(0, (.msl 2 lo0p 0 (List.length aA))), (1, (eI a1)), (2, (eI b2)), (3, (.fn (.func cmp3_f) cmp3_a cmp3_c)), (8, (eI i8)), (9, (eI i8))] ?_
    refine cV (fun T H => ∃ aA : List aB, ∃ j9 : Int, Has T [(0, (.msl 2 lo0p 0 (List.length aA))), (1, (eI a1)), (2, (eI b2)), (3, (.fn (.func cmp3_f) cmp3_a cmp3_c)), (8, (eI i8)), (9, (eI j9))] ∧ aN ⟨H0, [lo0p], []⟩ H [(lo0p, 2, List.map aD aA)] ∧ List.length aA = N0 ∧ gV cmp3 aA a1 b2 i8 j9 = some out1) ?_ ⟨aA, i8, .eq (by kernel_rfl), hO, hN, h1⟩
    clear hO hN h1
    rintro T H ⟨aA, j9, hT, hO, hN, h1⟩
    refine aZ hT ?_
    clear hT
    unfold gV at h1
    obtain ⟨rr1, hl1, h1⟩ := aV h1
    refine bZ (by kernel_rfl) (fun (s : List aB × Int) T H => Has T [(0, (.msl 2 lo0p 0 (List.length s.1))), (1, (eI a1)), (2, (eI b2)), (3, (.fn (.func cmp3_f) cmp3_a cmp3_c)), (8, (eI i8)), (9, (eI s.2))] ∧ aN ⟨H0, [lo0p], []⟩ H [(lo0p, 2, List.map aD s.1)] ∧ List.length s.1 = N0) hl1 ⟨.eq (by kernel_rfl), hO, hN⟩ ?_
    clear hO hN
    rintro k1 s out2 T H ⟨hT, hO, hN⟩ h2 ho1
    obtain ⟨aA, j9⟩ := s
    replace h2 : gU cmp3 a1 b2 i8 aA j9 = some out2 := h2
    dsimp only at hT
    refine aZ hT ?_
    clear hT
    unfold gU at h2
    refine aP ?_
    refine aP ?_
    obtain ⟨c2, h2⟩ := bF h2
    obtain ⟨c3, h2⟩ := bF h2
    obtain ⟨x4, hx5, h2⟩ := aV h2
    refine kE (kA []) aG 17 ?_
    refine BR (K := fun T H => Has (lift T) [(0, (.msl 2 lo0p 0 (List.length aA))), (1, (eI a1)), (2, (eI b2)), (3, (.fn (.func cmp3_f) cmp3_a cmp3_c)), (8, (eI i8)), (9, (eI j9)), (34, (aJ ((decide (a1 < j9)) && (decide (x4 < (0 : Int))))))] ∧ aN ⟨H0, [lo0p], []⟩ H [(lo0p, 2, List.map aD aA)]) ?_ ?_
    · refine tZ 4 ?_
      refine zD (t := 21) (e := decide (a1 < j9)) (by kernel_rfl) (fun hg6 => ?_) (fun hg6 => ?_)
      · refine cT 8 [0 ≤ j9 ∧ j9 < (lN aA)] ⟨(c2 hg6), trivial⟩ ?_
        refine wX 0 lo0p 2 (0 + Int.toNat j9) (aD (gD aA j9)) (aD (gD aA j9)) (List.map aD aA) (by kernel_rfl) (by kernel_rfl) (by kernel_rfl) hO (by kernel_rfl) (cH (c2 hg6)) ?_
        refine cT 13 [0 ≤ (wR (j9 - (1 : Int))) ∧ (wR (j9 - (1 : Int))) < (lN aA)] ⟨(c3 hg6), trivial⟩ ?_
        refine wX 0 lo0p 2 (0 + Int.toNat (wR (j9 - (1 : Int)))) (aD (gD aA (wR (j9 - (1 : Int))))) (aD (gD aA (wR (j9 - (1 : Int))))) (List.map aD aA) (by kernel_rfl) (by kernel_rfl) (by kernel_rfl) hO (by kernel_rfl) (cH (c3 hg6)) ?_
        refine HY cmp3_f (cmp3_a ++ [(aD (gD aA j9)), (aD (gD aA (wR (j9 - (1 : Int)))))] ++ cmp3_c) (eI x4) (by kernel_rfl) (by kernel_rfl) (cmp3_h (gD aA j9) (gD aA (wR (j9 - (1 : Int)))) _ (pX hx5 hg6)) hO ?_
        intro H hO
        refine nO ?_
        exact ⟨⟨[(0, (.msl 2 lo0p 0 (List.length aA))), (1, (eI a1)), (2, (eI b2)), (3, (.fn (.func cmp3_f) cmp3_a cmp3_c)), (8, (eI i8)), (9, (eI j9)), (34, (aJ (decide (x4 < (0 : Int)))))], by kernel_rfl, rfl, ⟨aR.refl _, aR.refl _, aR.refl _, aR.refl _, aR.refl _, aR.refl _, aR.eq (congrArg aJ (DJ hg6 rfl).symm), trivial⟩⟩, hO⟩
      refine nO ?_
      exact ⟨⟨[(0, (.msl 2 lo0p 0 (List.length aA))), (1, (eI a1)), (2, (eI b2)), (3, (.fn (.func cmp3_f) cmp3_a cmp3_c)), (8, (eI i8)), (9, (eI j9)), (34, (aJ false))], by kernel_rfl, rfl, ⟨aR.refl _, aR.refl _, aR.refl _, aR.refl _, aR.refl _, aR.refl _, aR.eq (congrArg aJ (DJ hg6 rfl).symm), trivial⟩⟩, hO⟩
    · rintro T H ⟨hT, hO⟩
      refine cE hT ?_
      clear hT
      refine aI (aH ?_)
      refine bH h2 (fun h2 => ?_) (fun h2 => ?_)
      · refine bK ?_
        refine bD [(0, (.msl 2 lo0p 0 (List.length aA))), (1, (eI a1)), (2, (eI b2)), (3, (.fn (.func cmp3_f) cmp3_a cmp3_c)), (8, (eI i8)), (9, (eI j9))] ?_
        refine aP ?_
        refine bR 3 ?_
        refine kE (kA []) aG 18 ?_
        obtain ⟨c8, h2⟩ := bF h2
        refine cT 9 [0 ≤ (wR (j9 - (1 : Int))) ∧ (wR (j9 - (1 : Int))) < (lN aA)] ⟨c8, trivial⟩ ?_
        refine kG 0 lo0p 2 (0 + Int.toNat (wR (j9 - (1 : Int)))) (aD (gD aA (wR (j9 - (1 : Int))))) (aD (gD aA (wR (j9 - (1 : Int))))) (List.map aD aA) hO (cH c8) ?_
        obtain ⟨c9, h2⟩ := bF h2
        refine cT 13 [0 ≤ j9 ∧ j9 < (lN aA)] ⟨c9, trivial⟩ ?_
        refine kG 0 lo0p 2 (0 + Int.toNat j9) (aD (gD aA j9)) (aD (gD aA j9)) (List.map aD aA) hO (cH c9) ?_
        obtain ⟨c10, h2⟩ := bF h2
        refine cT 15 [0 ≤ j9 ∧ j9 < (lN aA)] ⟨c10, trivial⟩ ?_
        refine qU 0 lo0p 2 (0 + Int.toNat j9) (aD (gD aA j9)) (aD (gD aA (wR (j9 - (1 : Int))))) (List.map aD aA) [(lo0p, 2, List.map aD (List.set aA (Int.toNat j9) (gD aA (wR (j9 - (1 : Int))))))] hO (cH c10) (by simp only [List.set, mQ]) ?_
        intro H hO
        replace hN : List.length (List.set aA (Int.toNat j9) (gD aA (wR (j9 - (1 : Int))))) = N0 := by simpa using hN
        obtain ⟨c11, h2⟩ := bF h2
        refine cT 17 [0 ≤ (wR (j9 - (1 : Int))) ∧ (wR (j9 - (1 : Int))) < (lN aA)] ⟨c11, trivial⟩ ?_
        refine qU 0 lo0p 2 (0 + Int.toNat (wR (j9 - (1 : Int)))) (aD (gD (List.set aA (Int.toNat j9) (gD aA (wR (j9 - (1 : Int))))) (wR (j9 - (1 : Int))))) (aD (gD aA j9)) (List.map aD (List.set aA (Int.toNat j9) (gD aA (wR (j9 - (1 : Int)))))) [(lo0p, 2, List.map aD (List.set (List.set aA (Int.toNat j9) (gD aA (wR (j9 - (1 : Int))))) (Int.toNat (wR (j9 - (1 : Int)))) (gD aA j9)))] hO (tM c11 (by simp [])) (by simp only [List.set, mQ]) ?_
        intro H hO
        replace hN : List.length (List.set (List.set aA (Int.toNat j9) (gD aA (wR (j9 - (1 : Int))))) (Int.toNat (wR (j9 - (1 : Int)))) (gD aA j9)) = N0 := by simpa using hN
        refine wQ (by kernel_rfl) ?_
        refine cE (l := [(0, (.msl 2 lo0p 0 (List.length (List.set (List.set aA (Int.toNat j9) (gD aA (wR (j9 - (1 : Int))))) (Int.toNat (wR (j9 - (1 : Int)))) (gD aA j9))))), (1, (eI a1)), (2, (eI b2)), (3, (.fn (.func cmp3_f) cmp3_a cmp3_c)), (8, (eI i8)), (9, (eI j9))]) ⟨[(0, (.msl 2 lo0p 0 (List.length aA))), (1, (eI a1)), (2, (eI b2)), (3, (.fn (.func cmp3_f) cmp3_a cmp3_c)), (8, (eI i8)), (9, (eI j9))], by kernel_rfl, rfl, ⟨aR.eq (by simp []), aR.refl _, aR.refl _, aR.refl _, aR.refl _, aR.refl _, trivial⟩⟩ ?_
        refine aI (aX (aH (?_)))
        refine aS aG 3 ?_
        refine bA ?_
        exact aI (aH (⟨rfl, _, (oI h2).symm, .eq (by kernel_rfl), hO, hN⟩))
      refine eR 2 ?_
      obtain rfl := oI h2
      obtain rfl : _ = rr1 := ho1
      replace h1 : dR cmp3 aA a1 b2 i8 = some out1 := h1
      exact aI (aU (aU (bM (aX (aH (⟨rfl, _, .eq (by kernel_rfl), hO, hN, h1⟩))))))
  refine eR 0 ?_
  obtain rfl := oI h1
  obtain rfl : _ = rr0 := ho0
  replace h0 : some aA = some r := h0
  obtain rfl := oI h0
  exact aI (aU (aU (bM (pK (x := (.tup [])) (by kernel_rfl) (aR.refl _) ⟨rfl, hO.ext, hO.at 0 (by kernel_rfl), by simp only [List.length_map]; exact hN.trans hN0⟩))))

theorem jM (lo0p : Nat) (aA : (List aB)) (a1 : Int) (b2 : Int) (n3 : Int) (cmp4_f : Nat) (cmp4_a cmp4_c : List V) (cmp4 : aB → aB → Option Int) (cmp4_h : ∀ a0 a1 r, cmp4 a0 a1 = some r → bU Try.prog cmp4_f (cmp4_a ++ [(aD a0), (aD a1)] ++ cmp4_c) (eI r)) (r : List aB) (h0 : dL aA a1 b2 n3 cmp4 = some r) : jX Try.prog 126 lo0p 2 (List.map aD aA) (List.map aD r) [(.msl 2 lo0p 0 (List.length aA)), (eI a1), (eI b2), (eI n3), (.fn (.func cmp4_f) cmp4_a cmp4_c)] (.tup []) := by
  intro H0 hl0
  refine cB Try.func126 ?_
  have hO := aN.oJ hl0
  clear hl0
  obtain ⟨N0, hN0⟩ : ∃ n, n = List.length aA := ⟨_, rfl⟩
  have hN : List.length aA = N0 := hN0.symm
  unfold dL at h0
  refine aT aG 1 [4] [(10, (eI (0 : Int)))] ?_
  refine bR 0 ?_
  refine dQ [(0, (.msl 2 lo0p 0 (List.length aA))), (1, (eI a1)), (2, (eI b2)), (3, (eI n3)), (10, (eI (0 : Int)))] ?_
  refine cV (fun T H => ∃ aA : List aB, ∃ i10 : Int, Has T [(0, (.msl 2 lo0p 0 (List.length aA))), (1, (eI a1)), (2, (eI b2)), (3, (eI n3)), (10, (eI i10))] ∧ aN ⟨H0, [lo0p], []⟩ H [(lo0p, 2, List.map aD aA)] ∧ List.length aA = N0 ∧ jJ cmp4 aA a1 b2 n3 i10 = some r) ?_ ⟨aA, (0 : Int), .eq (by kernel_rfl), hO, hN, h0⟩
  clear hO hN h0
  rintro T H ⟨aA, i10, hT, hO, hN, h0⟩
  refine aZ hT ?_
  clear hT
  unfold jJ at h0
  obtain ⟨rr0, hl0, h0⟩ := aV h0
  refine bZ (by kernel_rfl) (fun (s : List aB × Int) T H => Has T [(0, (.msl 2 lo0p 0 (List.length s.1))), (1, (eI a1)), (2, (eI b2)), (3, (eI n3)), (10, (eI s.2))] ∧ aN ⟨H0, [lo0p], []⟩ H [(lo0p, 2, List.map aD s.1)] ∧ List.length s.1 = N0) hl0 ⟨.eq (by kernel_rfl), hO, hN⟩ ?_
  clear hO hN
  rintro k0 s out1 T H ⟨hT, hO, hN⟩ h1 ho0
  obtain ⟨aA, i10⟩ := s
  replace h1 : jC cmp4 a1 b2 n3 aA i10 = some out1 := h1
  dsimp only at hT
  refine aZ hT ?_
  clear hT
  unfold jC at h1
  refine aP ?_
  refine aT aG 3 [] [(13, (aJ (decide (i10 < n3))))] ?_
  refine bH h1 (fun h1 => ?_) (fun h1 => ?_)
  · refine bK ?_
    refine bD [(0, (.msl 2 lo0p 0 (List.length aA))), (1, (eI a1)), (2, (eI b2)), (3, (eI n3)), (10, (eI i10))] ?_
    refine aP ?_
    refine bR 1 ?_
    refine kE (kA []) aG 24 ?_
    obtain ⟨c2, h1⟩ := bF h1
    refine cT 13 [0 ≤ (wR (b2 + i10)) ∧ (wR (b2 + i10)) < (lN aA)] ⟨c2, trivial⟩ ?_
    refine kG 0 lo0p 2 (0 + Int.toNat (wR (b2 + i10))) (aD (gD aA (wR (b2 + i10)))) (aD (gD aA (wR (b2 + i10)))) (List.map aD aA) hO (cH c2) ?_
    obtain ⟨c3, h1⟩ := bF h1
    refine cT 19 [0 ≤ (wR (a1 + i10)) ∧ (wR (a1 + i10)) < (lN aA)] ⟨c3, trivial⟩ ?_
    refine kG 0 lo0p 2 (0 + Int.toNat (wR (a1 + i10))) (aD (gD aA (wR (a1 + i10)))) (aD (gD aA (wR (a1 + i10)))) (List.map aD aA) hO (cH c3) ?_
    obtain ⟨c4, h1⟩ := bF h1
    refine cT 21 [0 ≤ (wR (a1 + i10)) ∧ (wR (a1 + i10)) < (lN aA)] ⟨c4, trivial⟩ ?_
    refine qU 0 lo0p 2 (0 + Int.toNat (wR (a1 + i10))) (aD (gD aA (wR (a1 + i10)))) (aD (gD aA (wR (b2 + i10)))) (List.map aD aA) [(lo0p, 2, List.map aD (List.set aA (Int.toNat (wR (a1 + i10))) (gD aA (wR (b2 + i10)))))] hO (cH c4) (by simp only [List.set, mQ]) ?_
    intro H hO
    replace hN : List.length (List.set aA (Int.toNat (wR (a1 + i10))) (gD aA (wR (b2 + i10)))) = N0 := by simpa using hN
    obtain ⟨c5, h1⟩ := bF h1
    refine cT 23 [0 ≤ (wR (b2 + i10)) ∧ (wR (b2 + i10)) < (lN aA)] ⟨c5, trivial⟩ ?_
    refine qU 0 lo0p 2 (0 + Int.toNat (wR (b2 + i10))) (aD (gD (List.set aA (Int.toNat (wR (a1 + i10))) (gD aA (wR (b2 + i10)))) (wR (b2 + i10)))) (aD (gD aA (wR (a1 + i10)))) (List.map aD (List.set aA (Int.toNat (wR (a1 + i10))) (gD aA (wR (b2 + i10))))) [(lo0p, 2, List.map aD (List.set (List.set aA (Int.toNat (wR (a1 + i10))) (gD aA (wR (b2 + i10)))) (Int.toNat (wR (b2 + i10))) (gD aA (wR (a1 + i10)))))] hO (tM c5 (by simp [])) (by simp only [List.set, mQ]) ?_
    intro H hO
    replace hN : List.length (List.set (List.set aA (Int.toNat (wR (a1 + i10))) (gD aA (wR (b2 + i10)))) (Int.toNat (wR (b2 + i10))) (gD aA (wR (a1 + i10)))) = N0 := by simpa using hN
    refine wQ (by kernel_rfl) ?_
    refine cE (l := [(0, (.msl 2 lo0p 0 (List.length (List.set (List.set aA (Int.toNat (wR (a1 + i10))) (gD aA (wR (b2 + i10)))) (Int.toNat (wR (b2 + i10))) (gD aA (wR (a1 + i10))))))), (1, (eI a1)), (2, (eI b2)), (3, (eI n3)), (10, (eI i10))]) ⟨[(0, (.msl 2 lo0p 0 (List.length aA))), (1, (eI a1)), (2, (eI b2)), (3, (eI n3)), (10, (eI i10))], by kernel_rfl, rfl, ⟨aR.eq (by simp []), aR.refl _, aR.refl _, aR.refl _, aR.refl _, trivial⟩⟩ ?_
    refine aI (aX (aH (?_)))
    refine aS aG 3 ?_
    refine bA ?_
    exact aI (aH (⟨rfl, _, (oI h1).symm, .eq (by kernel_rfl), hO, hN⟩))
  refine eR 0 ?_
  obtain rfl := oI h1
  obtain rfl : _ = rr0 := ho0
  replace h0 : some aA = some r := h0
  obtain rfl := oI h0
  exact aI (aU (aU (bM (pK (x := (.tup [])) (by kernel_rfl) (aR.refl _) ⟨rfl, hO.ext, hO.at 0 (by kernel_rfl), by simp only [List.length_map]; exact hN.trans hN0⟩))))

theorem tX (lo0p : Nat) (aA : (List aB)) (a1 : Int) (m2 : Int) (b3 : Int) (cmp4_f : Nat) (cmp4_a cmp4_c : List V) (cmp4 : aB → aB → Option Int) (cmp4_h : ∀ a0 a1 r, cmp4 a0 a1 = some r → bU Try.prog cmp4_f (cmp4_a ++ [(aD a0), (aD a1)] ++ cmp4_c) (eI r)) (r : List aB) (h0 : kS aA a1 m2 b3 cmp4 = some r) : jX Try.prog 125 lo0p 2 (List.map aD aA) (List.map aD r) [(.msl 2 lo0p 0 (List.length aA)), (eI a1), (eI m2), (eI b3), (.fn (.func cmp4_f) cmp4_a cmp4_c)] (.tup []) := by
  intro H0 hl0
  refine cB Try.func125 ?_
  have hO := aN.oJ hl0
  clear hl0
  obtain ⟨N0, hN0⟩ : ∃ n, n = List.length aA := ⟨_, rfl⟩
  have hN : List.length aA = N0 := hN0.symm
  unfold kS at h0
  refine aT aG 4 [1] [(10, (eI (wR (m2 - a1))))] ?_
  refine aT aG 4 [3] [(11, (eI (wR (b3 - m2))))] ?_
  refine dJ (fun T H => ∃ aA : List aB, ∃ i10 : Int, Has T [(0, (.msl 2 lo0p 0 (List.length aA))), (2, (eI m2)), (4, (.fn (.func cmp4_f) cmp4_a cmp4_c)), (10, (eI i10))] ∧ aN ⟨H0, [lo0p], []⟩ H [(lo0p, 2, List.map aD aA)] ∧ List.length aA = N0 ∧ fV cmp4 aA m2 i10 = some r) ?_ ?_
  · clear hO hN h0
    rintro T H ⟨aA, i10, hT, hO, hN, h0⟩
    refine aZ hT ?_
    clear hT
    unfold fV at h0
    refine aS aG 8 ?_
    refine bI 7 ?_
    obtain ⟨x1, hx2, h0⟩ := aV h0
    refine mT [(lo0p, 2, List.map aD x1)] 0 (jM lo0p aA (wR (m2 - i10)) m2 i10 cmp4_f cmp4_a cmp4_c cmp4 cmp4_h _ hx2) hO ?_
    intro H hO hl3
    simp only [List.length_map] at hl3
    replace hN := hl3.trans hN
    refine cQ ?_
    refine cE (l := [(0, (.msl 2 lo0p 0 (List.length x1)))]) ⟨[(0, (.msl 2 lo0p 0 (List.length aA)))], by kernel_rfl, rfl, ⟨aR.eq (by simp [hl3]), trivial⟩⟩ ?_
    obtain rfl := oI h0
    exact aI (pK (x := (.tup [])) (by kernel_rfl) (aR.refl _) ⟨rfl, hO.ext, hO.at 0 (by kernel_rfl), by simp only [List.length_map]; exact hN.trans hN0⟩)
  refine bR 0 ?_
  refine dQ [(0, (.msl 2 lo0p 0 (List.length aA))), (2, (eI m2)), (4, (.fn (.func cmp4_f) cmp4_a cmp4_c)), (10, (eI (wR (m2 - a1)))), (11, (eI (wR (b3 - m2))))] ?_
  refine cV (fun T H => ∃ aA : List aB, ∃ i10 : Int, ∃ j11 : Int, Has T [(0, (.msl 2 lo0p 0 (List.length aA))), (2, (eI m2)), (4, (.fn (.func cmp4_f) cmp4_a cmp4_c)), (10, (eI i10)), (11, (eI j11))] ∧ aN ⟨H0, [lo0p], []⟩ H [(lo0p, 2, List.map aD aA)] ∧ List.length aA = N0 ∧ kI cmp4 aA m2 i10 j11 = some r) ?_ ⟨aA, wR (m2 - a1), wR (b3 - m2), .eq (by kernel_rfl), hO, hN, h0⟩
  clear hO hN h0
  rintro T H ⟨aA, i10, j11, hT, hO, hN, h0⟩
  refine aZ hT ?_
  clear hT
  unfold kI at h0
  obtain ⟨rr0, hl0, h0⟩ := aV h0
  refine bZ (by kernel_rfl) (fun (s : List aB × Int × Int) T H => Has T [(0, (.msl 2 lo0p 0 (List.length s.1))), (2, (eI m2)), (4, (.fn (.func cmp4_f) cmp4_a cmp4_c)), (10, (eI s.2.1)), (11, (eI s.2.2))] ∧ aN ⟨H0, [lo0p], []⟩ H [(lo0p, 2, List.map aD s.1)] ∧ List.length s.1 = N0) hl0 ⟨.eq (by kernel_rfl), hO, hN⟩ ?_
  clear hO hN
  rintro k0 s out1 T H ⟨hT, hO, hN⟩ h1 ho0
  obtain ⟨aA, i10, j11⟩ := s
  replace h1 : kH cmp4 m2 aA i10 j11 = some out1 := h1
  dsimp only at hT
  refine aZ hT ?_
  clear hT
  unfold kH at h1
  refine aP ?_
  refine aT aG 3 [] [(20, (aJ (!decide (i10 = j11))))] ?_
  refine bH h1 (fun h1 => ?_) (fun h1 => ?_)
  · refine bK ?_
    refine bD [(0, (.msl 2 lo0p 0 (List.length aA))), (2, (eI m2)), (4, (.fn (.func cmp4_f) cmp4_a cmp4_c)), (10, (eI i10)), (11, (eI j11))] ?_
    refine bR 1 ?_
    refine aT aG 3 [] [(23, (aJ (decide (j11 < i10))))] ?_
    refine bH h1 (fun h1 => ?_) (fun h1 => ?_)
    · refine aP ?_
      refine aS aG 8 ?_
      refine bI 7 ?_
      obtain ⟨x6, hx7, h1⟩ := aV h1
      refine mT [(lo0p, 2, List.map aD x6)] 0 (jM lo0p aA (wR (m2 - i10)) m2 j11 cmp4_f cmp4_a cmp4_c cmp4 cmp4_h _ hx7) hO ?_
      intro H hO hl8
      simp only [List.length_map] at hl8
      replace hN := hl8.trans hN
      refine cQ ?_
      refine cE (l := [(0, (.msl 2 lo0p 0 (List.length x6))), (2, (eI m2)), (4, (.fn (.func cmp4_f) cmp4_a cmp4_c)), (10, (eI i10)), (11, (eI j11))]) ⟨[(0, (.msl 2 lo0p 0 (List.length aA))), (2, (eI m2)), (4, (.fn (.func cmp4_f) cmp4_a cmp4_c)), (10, (eI i10)), (11, (eI j11))], by kernel_rfl, rfl, ⟨aR.eq (by simp [hl8]), aR.refl _, aR.refl _, aR.refl _, aR.refl _, trivial⟩⟩ ?_
      refine aI (aH (?_))
      refine aS aG 4 ?_
      refine bA ?_
      exact aI (aX (aH (⟨rfl, _, (oI h1).symm, .eq (by kernel_rfl), hO, hN⟩)))
    refine aP ?_
    refine aS aG 12 ?_
    refine bI 11 ?_
    obtain ⟨x9, hx10, h1⟩ := aV h1
    refine mT [(lo0p, 2, List.map aD x9)] 0 (jM lo0p aA (wR (m2 - i10)) (wR ((wR (m2 + j11)) - i10)) i10 cmp4_f cmp4_a cmp4_c cmp4 cmp4_h _ hx10) hO ?_
    intro H hO hl11
    simp only [List.length_map] at hl11
    replace hN := hl11.trans hN
    refine cQ ?_
    refine cE (l := [(0, (.msl 2 lo0p 0 (List.length x9))), (2, (eI m2)), (4, (.fn (.func cmp4_f) cmp4_a cmp4_c)), (10, (eI i10)), (11, (eI j11))]) ⟨[(0, (.msl 2 lo0p 0 (List.length aA))), (2, (eI m2)), (4, (.fn (.func cmp4_f) cmp4_a cmp4_c)), (10, (eI i10)), (11, (eI j11))], by kernel_rfl, rfl, ⟨aR.eq (by simp [hl11]), aR.refl _, aR.refl _, aR.refl _, aR.refl _, trivial⟩⟩ ?_
    refine aI (aH (?_))
    refine aS aG 4 ?_
    refine bA ?_
    exact aI (aX (aH (⟨rfl, _, (oI h1).symm, .eq (by kernel_rfl), hO, hN⟩)))
  refine eR 0 ?_
  obtain rfl := oI h1
  obtain rfl : _ = rr0 := ho0
  replace h0 : fV cmp4 aA m2 i10 = some r := h0
  exact aI (aU (aU (bM (aH (⟨rfl, _, _, .eq (by kernel_rfl), hO, hN, h0⟩)))))

end Go.Abs
namespace Go.Abs
open Go Go.RowKit Go.Proofs
theorem qM (cmp4_f : Nat) (cmp4_a cmp4_c : List V) (cmp4 : aB → aB → Option Int) (cmp4_h : ∀ a0 a1 r, cmp4 a0 a1 = some r → bU Try.prog cmp4_f (cmp4_a ++ [(aD a0), (aD a1)] ++ cmp4_c) (eI r)) (rec : (List aB) → Int → Int → Int → Option (List aB)) (ih : ∀ (lo0p : Nat) (aA : (List aB)) (a1 : Int) (m2 : Int) (b3 : Int) (r : List aB), rec aA a1 m2 b3 = some r → jX Try.prog 122 lo0p 2 (List.map aD aA) (List.map aD r) [(.msl 2 lo0p 0 (List.length aA)), (eI a1), (eI m2), (eI b3), (.fn (.func cmp4_f) cmp4_a cmp4_c)] (.tup [])) (lo0p : Nat) (aA : (List aB)) (a1 : Int) (m2 : Int) (b3 : Int) (r : List aB) (h0 : dB cmp4 rec aA a1 m2 b3 = some r) : jX Try.prog 122 lo0p 2 (List.map aD aA) (List.map aD r) [(.msl 2 lo0p 0 (List.length aA)), (eI a1), (eI m2), (eI b3), (.fn (.func cmp4_f) cmp4_a cmp4_c)] (.tup []) := by
  intro H0 hl0
  refine cB Try.func122 ?_
  have hO := aN.oJ hl0
  clear hl0
  obtain ⟨N0, hN0⟩ : ∃ n, n = List.length aA := ⟨_, rfl⟩
  have hN : List.length aA = N0 := hN0.symm
  unfold dB at h0
  refine dJ (fun T H => ∃ aA : List aB, Has T [(0, (.msl 2 lo0p 0 (List.length aA))), (1, (eI a1)), (2, (eI m2)), (3, (eI b3)), (4, (.fn (.func cmp4_f) cmp4_a cmp4_c))] ∧ aN ⟨H0, [lo0p], []⟩ H [(lo0p, 2, List.map aD aA)] ∧ List.length aA = N0 ∧ jQ cmp4 rec aA a1 m2 b3 = some r) ?_ ?_
  · clear hO hN h0
    rintro T H ⟨aA, hT, hO, hN, h0⟩
    refine aZ hT ?_
    clear hT
    unfold jQ at h0
    refine dJ (fun T H => ∃ aA : List aB, Has T [(0, (.msl 2 lo0p 0 (List.length aA))), (1, (eI a1)), (2, (eI m2)), (3, (eI b3)), (4, (.fn (.func cmp4_f) cmp4_a cmp4_c))] ∧ aN ⟨H0, [lo0p], []⟩ H [(lo0p, 2, List.map aD aA)] ∧ List.length aA = N0 ∧ jU cmp4 rec aA a1 m2 b3 = some r) ?_ ?_
    · clear hO hN h0
      rintro T H ⟨aA, hT, hO, hN, h0⟩
      refine aZ hT ?_
      clear hT
      unfold jU at h0
      refine aP ?_
      refine aS aG 7 ?_
      obtain ⟨c1, h0⟩ := bF h0
      refine tH [0 ≤ (1 : Int)] ⟨c1, trivial⟩ ?_
      refine bO [] [(18, (eI (wR (Int.fdiv (IntKind.u64.wrap (wR (a1 + b3))) (2 ^ (min (Int.toNat (1 : Int)) 64))))))] ?_
      refine aT aG 4 [] [(19, (eI (wR ((wR (Int.fdiv (IntKind.u64.wrap (wR (a1 + b3))) (2 ^ (min (Int.toNat (1 : Int)) 64)))) + m2))))] ?_
      refine aT aG 2 [] [] ?_
      refine dJ (fun T H => ∃ aA : List aB, ∃ bJ : Int, ∃ n19 : Int, ∃ aO : Int, ∃ r21 : Int, Has T [(0, (.msl 2 lo0p 0 (List.length aA))), (1, (eI a1)), (2, (eI m2)), (3, (eI b3)), (4, (.fn (.func cmp4_f) cmp4_a cmp4_c)), (18, (eI bJ)), (19, (eI n19)), (20, (eI aO)), (21, (eI r21))] ∧ aN ⟨H0, [lo0p], []⟩ H [(lo0p, 2, List.map aD aA)] ∧ List.length aA = N0 ∧ fE cmp4 rec aA a1 m2 b3 bJ n19 aO r21 = some r) ?_ ?_
      · clear hO hN h0
        rintro T H ⟨aA, bJ, n19, aO, r21, hT, hO, hN, h0⟩
        refine aZ hT ?_
        clear hT
        unfold fE at h0
        refine aT aG 3 [] [(22, (eI (wR (n19 - (1 : Int)))))] ?_
        refine dJ (fun T H => ∃ aA : List aB, ∃ aO : Int, Has T [(0, (.msl 2 lo0p 0 (List.length aA))), (1, (eI a1)), (2, (eI m2)), (3, (eI b3)), (4, (.fn (.func cmp4_f) cmp4_a cmp4_c)), (18, (eI bJ)), (19, (eI n19)), (20, (eI aO))] ∧ aN ⟨H0, [lo0p], []⟩ H [(lo0p, 2, List.map aD aA)] ∧ List.length aA = N0 ∧ fM cmp4 rec aA a1 m2 b3 bJ n19 aO = some r) ?_ ?_
        · clear hO hN h0
          rintro T H ⟨aA, aO, hT, hO, hN, h0⟩
          refine aZ hT ?_
          clear hT
          unfold fM at h0
          refine aT aG 4 [19] [(24, (eI (wR (n19 - aO))))] ?_
          refine dJ (fun T H => ∃ aA : List aB, ∃ dD : Int, Has T [(0, (.msl 2 lo0p 0 (List.length aA))), (1, (eI a1)), (3, (eI b3)), (4, (.fn (.func cmp4_f) cmp4_a cmp4_c)), (18, (eI bJ)), (20, (eI aO)), (24, (eI dD))] ∧ aN ⟨H0, [lo0p], []⟩ H [(lo0p, 2, List.map aD aA)] ∧ List.length aA = N0 ∧ fH cmp4 rec aA a1 b3 bJ aO dD = some r) ?_ ?_
          · clear hO hN h0
            rintro T H ⟨aA, dD, hT, hO, hN, h0⟩
            refine aZ hT ?_
            clear hT
            unfold fH at h0
            refine dJ (fun T H => ∃ aA : List aB, Has T [(0, (.msl 2 lo0p 0 (List.length aA))), (3, (eI b3)), (4, (.fn (.func cmp4_f) cmp4_a cmp4_c)), (18, (eI bJ)), (24, (eI dD))] ∧ aN ⟨H0, [lo0p], []⟩ H [(lo0p, 2, List.map aD aA)] ∧ List.length aA = N0 ∧ eZ cmp4 rec aA b3 bJ dD = some r) ?_ ?_
            · clear hO hN h0
              rintro T H ⟨aA, hT, hO, hN, h0⟩
              refine aZ hT ?_
              clear hT
              unfold eZ at h0
              refine aT aG 8 [] [(213, (aJ ((decide (bJ < dD)) && (decide (dD < b3)))))] ?_
              refine bH h0 (fun h0 => ?_) (fun h0 => ?_)
              · refine aS aG 6 ?_
                refine bI 5 ?_
                obtain ⟨x3, hx4, h0⟩ := aV h0
                refine mT [(lo0p, 2, List.map aD x3)] 0 (ih lo0p aA bJ dD b3 _ hx4) hO ?_
                intro H hO hl5
                simp only [List.length_map] at hl5
                replace hN := hl5.trans hN
                refine cQ ?_
                refine cE (l := [(0, (.msl 2 lo0p 0 (List.length x3)))]) ⟨[(0, (.msl 2 lo0p 0 (List.length aA)))], by kernel_rfl, rfl, ⟨aR.eq (by simp [hl5]), trivial⟩⟩ ?_
                obtain rfl := oI h0
                exact aI (pK (x := (.tup [])) (by kernel_rfl) (aR.refl _) ⟨rfl, hO.ext, hO.at 0 (by kernel_rfl), by simp only [List.length_map]; exact hN.trans hN0⟩)
              refine bK ?_
              obtain rfl := oI h0
              exact aI (pK (x := (.tup [])) (by kernel_rfl) (aR.refl _) ⟨rfl, hO.ext, hO.at 0 (by kernel_rfl), by simp only [List.length_map]; exact hN.trans hN0⟩)
            refine aT aG 8 [] [(199, (aJ ((decide (a1 < aO)) && (decide (aO < bJ)))))] ?_
            refine bH h0 (fun h0 => ?_) (fun h0 => ?_)
            · refine aS aG 6 ?_
              refine bI 5 ?_
              obtain ⟨x7, hx8, h0⟩ := aV h0
              refine mT [(lo0p, 2, List.map aD x7)] 0 (ih lo0p aA a1 aO bJ _ hx8) hO ?_
              intro H hO hl9
              simp only [List.length_map] at hl9
              replace hN := hl9.trans hN
              refine cQ ?_
              refine cE (l := [(0, (.msl 2 lo0p 0 (List.length x7))), (3, (eI b3)), (4, (.fn (.func cmp4_f) cmp4_a cmp4_c)), (18, (eI bJ)), (24, (eI dD))]) ⟨[(0, (.msl 2 lo0p 0 (List.length aA))), (3, (eI b3)), (4, (.fn (.func cmp4_f) cmp4_a cmp4_c)), (18, (eI bJ)), (24, (eI dD))], by kernel_rfl, rfl, ⟨aR.eq (by simp [hl9]), aR.refl _, aR.refl _, aR.refl _, aR.refl _, trivial⟩⟩ ?_
              exact aI (aH (⟨rfl, _, .eq (by kernel_rfl), hO, hN, h0⟩))
            refine bK ?_
            exact aI (aH (⟨rfl, _, .eq (by kernel_rfl), hO, hN, h0⟩))
          refine aT aG 8 [] [(185, (aJ ((decide (aO < m2)) && (decide (m2 < (wR (n19 - aO)))))))] ?_
          refine bH h0 (fun h0 => ?_) (fun h0 => ?_)
          · refine aS aG 6 ?_
            refine bI 5 ?_
            obtain ⟨x11, hx12, h0⟩ := aV h0
            refine mT [(lo0p, 2, List.map aD x11)] 0 (tX lo0p aA aO m2 (wR (n19 - aO)) cmp4_f cmp4_a cmp4_c cmp4 cmp4_h _ hx12) hO ?_
            intro H hO hl13
            simp only [List.length_map] at hl13
            replace hN := hl13.trans hN
            refine cQ ?_
            refine cE (l := [(0, (.msl 2 lo0p 0 (List.length x11))), (1, (eI a1)), (3, (eI b3)), (4, (.fn (.func cmp4_f) cmp4_a cmp4_c)), (18, (eI bJ)), (20, (eI aO)), (24, (eI (wR (n19 - aO))))]) ⟨[(0, (.msl 2 lo0p 0 (List.length aA))), (1, (eI a1)), (3, (eI b3)), (4, (.fn (.func cmp4_f) cmp4_a cmp4_c)), (18, (eI bJ)), (20, (eI aO)), (24, (eI (wR (n19 - aO))))], by kernel_rfl, rfl, ⟨aR.eq (by simp [hl13]), aR.refl _, aR.refl _, aR.refl _, aR.refl _, aR.refl _, aR.refl _, trivial⟩⟩ ?_
            exact aI (aH (⟨rfl, _, _, .eq (by kernel_rfl), hO, hN, h0⟩))
          refine bK ?_
          exact aI (aH (⟨rfl, _, _, .eq (by kernel_rfl), hO, hN, h0⟩))
        refine bR 8 ?_
        refine dQ [(0, (.msl 2 lo0p 0 (List.length aA))), (1, (eI a1)), (2, (eI m2)), (3, (eI b3)), (4, (.fn (.func cmp4_f) cmp4_a cmp4_c)), (18, (eI bJ)), (19, (eI n19)), (20, (eI aO)), (21, (eI r21)), (22, (eI (wR (n19 - (1 : Int)))))] ?_
        refine cV (fun T H => ∃ aA : List aB, ∃ aO : Int, ∃ r21 : Int, ∃ p22 : Int, Has T [(0, (.msl 2 lo0p 0 (List.length aA))), (1, (eI a1)), (2, (eI m2)), (3, (eI b3)), (4, (.fn (.func cmp4_f) cmp4_a cmp4_c)), (18, (eI bJ)), (19, (eI n19)), (20, (eI aO)), (21, (eI r21)), (22, (eI p22))] ∧ aN ⟨H0, [lo0p], []⟩ H [(lo0p, 2, List.map aD aA)] ∧ List.length aA = N0 ∧ jR cmp4 rec aA a1 m2 b3 bJ n19 aO r21 p22 = some r) ?_ ⟨aA, aO, r21, wR (n19 - (1 : Int)), .eq (by kernel_rfl), hO, hN, h0⟩
        clear hO hN h0
        rintro T H ⟨aA, aO, r21, p22, hT, hO, hN, h0⟩
        refine aZ hT ?_
        clear hT
        unfold jR at h0
        obtain ⟨rr0, hl0, h0⟩ := aV h0
        refine bZ (by kernel_rfl) (fun (s : List aB × Int × Int) T H => Has T [(0, (.msl 2 lo0p 0 (List.length s.1))), (1, (eI a1)), (2, (eI m2)), (3, (eI b3)), (4, (.fn (.func cmp4_f) cmp4_a cmp4_c)), (18, (eI bJ)), (19, (eI n19)), (20, (eI s.2.1)), (21, (eI s.2.2)), (22, (eI p22))] ∧ aN ⟨H0, [lo0p], []⟩ H [(lo0p, 2, List.map aD s.1)] ∧ List.length s.1 = N0) hl0 ⟨.eq (by kernel_rfl), hO, hN⟩ ?_
        clear hO hN
        rintro k0 s out1 T H ⟨hT, hO, hN⟩ h1 ho0
        obtain ⟨aA, aO, r21⟩ := s
        replace h1 : jP cmp4 rec a1 m2 b3 bJ n19 p22 aA aO r21 = some out1 := h1
        dsimp only at hT
        refine aZ hT ?_
        clear hT
        unfold jP at h1
        refine aP ?_
        refine aT aG 3 [] [(151, (aJ (decide (aO < r21))))] ?_
        refine bH h1 (fun h1 => ?_) (fun h1 => ?_)
        · refine bK ?_
          refine bD [(0, (.msl 2 lo0p 0 (List.length aA))), (1, (eI a1)), (2, (eI m2)), (3, (eI b3)), (4, (.fn (.func cmp4_f) cmp4_a cmp4_c)), (18, (eI bJ)), (19, (eI n19)), (20, (eI aO)), (21, (eI r21)), (22, (eI p22))] ?_
          refine bR 9 ?_
          refine aP ?_
          refine aS aG 7 ?_
          obtain ⟨c15, h1⟩ := bF h1
          refine tH [0 ≤ (1 : Int)] ⟨c15, trivial⟩ ?_
          refine bO [] [(23, (eI (wR (Int.fdiv (IntKind.u64.wrap (wR (aO + r21))) (2 ^ (min (Int.toNat (1 : Int)) 64))))))] ?_
          refine aP ?_
          refine kE (kA []) aG 14 ?_
          obtain ⟨c16, h1⟩ := bF h1
          refine cT 6 [0 ≤ (wR (p22 - (wR (Int.fdiv (IntKind.u64.wrap (wR (aO + r21))) (2 ^ (min (Int.toNat (1 : Int)) 64)))))) ∧ (wR (p22 - (wR (Int.fdiv (IntKind.u64.wrap (wR (aO + r21))) (2 ^ (min (Int.toNat (1 : Int)) 64)))))) < (lN aA)] ⟨c16, trivial⟩ ?_
          refine kG 0 lo0p 2 (0 + Int.toNat (wR (p22 - (wR (Int.fdiv (IntKind.u64.wrap (wR (aO + r21))) (2 ^ (min (Int.toNat (1 : Int)) 64))))))) (aD (gD aA (wR (p22 - (wR (Int.fdiv (IntKind.u64.wrap (wR (aO + r21))) (2 ^ (min (Int.toNat (1 : Int)) 64)))))))) (aD (gD aA (wR (p22 - (wR (Int.fdiv (IntKind.u64.wrap (wR (aO + r21))) (2 ^ (min (Int.toNat (1 : Int)) 64)))))))) (List.map aD aA) hO (cH c16) ?_
          obtain ⟨c17, h1⟩ := bF h1
          refine cT 10 [0 ≤ (wR (Int.fdiv (IntKind.u64.wrap (wR (aO + r21))) (2 ^ (min (Int.toNat (1 : Int)) 64)))) ∧ (wR (Int.fdiv (IntKind.u64.wrap (wR (aO + r21))) (2 ^ (min (Int.toNat (1 : Int)) 64)))) < (lN aA)] ⟨c17, trivial⟩ ?_
          refine kG 0 lo0p 2 (0 + Int.toNat (wR (Int.fdiv (IntKind.u64.wrap (wR (aO + r21))) (2 ^ (min (Int.toNat (1 : Int)) 64))))) (aD (gD aA (wR (Int.fdiv (IntKind.u64.wrap (wR (aO + r21))) (2 ^ (min (Int.toNat (1 : Int)) 64)))))) (aD (gD aA (wR (Int.fdiv (IntKind.u64.wrap (wR (aO + r21))) (2 ^ (min (Int.toNat (1 : Int)) 64)))))) (List.map aD aA) hO (cH c17) ?_
          obtain ⟨x18, hx19, h1⟩ := aV h1
          refine wC (cmp4_h (gD aA (wR (p22 - (wR (Int.fdiv (IntKind.u64.wrap (wR (aO + r21))) (2 ^ (min (Int.toNat (1 : Int)) 64))))))) (gD aA (wR (Int.fdiv (IntKind.u64.wrap (wR (aO + r21))) (2 ^ (min (Int.toNat (1 : Int)) 64))))) _ hx19) hO ?_
          intro H hO
          refine nO ?_
          refine bO [] [(171, (aJ (!(decide (x18 < (0 : Int))))))] ?_
          refine bH h1 (fun h1 => ?_) (fun h1 => ?_)
          · refine aS aG 3 ?_
            refine bA ?_
            exact aI (aX (aH (⟨rfl, _, (oI h1).symm, .eq (by kernel_rfl), hO, hN⟩)))
          refine aS aG 2 ?_
          refine bA ?_
          exact aI (aX (aH (⟨rfl, _, (oI h1).symm, .eq (by kernel_rfl), hO, hN⟩)))
        refine eR 8 ?_
        obtain rfl := oI h1
        obtain rfl : _ = rr0 := ho0
        replace h0 : fM cmp4 rec aA a1 m2 b3 bJ n19 aO = some r := h0
        exact aI (aU (aU (bM (aH (⟨rfl, _, _, .eq (by kernel_rfl), hO, hN, h0⟩)))))
      refine aT aG 3 [] [(140, (aJ (decide ((wR (Int.fdiv (IntKind.u64.wrap (wR (a1 + b3))) (2 ^ (min (Int.toNat (1 : Int)) 64)))) < m2))))] ?_
      refine bH h0 (fun h0 => ?_) (fun h0 => ?_)
      · refine bT aG 4 [(0, (.msl 2 lo0p 0 (List.length aA))), (1, (eI a1)), (2, (eI m2)), (3, (eI b3)), (4, (.fn (.func cmp4_f) cmp4_a cmp4_c)), (18, (eI (wR (Int.fdiv (IntKind.u64.wrap (wR (a1 + b3))) (2 ^ (min (Int.toNat (1 : Int)) 64)))))), (19, (eI (wR ((wR (Int.fdiv (IntKind.u64.wrap (wR (a1 + b3))) (2 ^ (min (Int.toNat (1 : Int)) 64)))) + m2)))), (20, (eI (wR ((wR ((wR (Int.fdiv (IntKind.u64.wrap (wR (a1 + b3))) (2 ^ (min (Int.toNat (1 : Int)) 64)))) + m2)) - b3))))] ?_
        refine aS aG 2 ?_
        refine bA ?_
        exact aI (aH (⟨rfl, _, _, _, _, _, .eq (by kernel_rfl), hO, hN, h0⟩))
      refine bT aG 2 [(0, (.msl 2 lo0p 0 (List.length aA))), (1, (eI a1)), (2, (eI m2)), (3, (eI b3)), (4, (.fn (.func cmp4_f) cmp4_a cmp4_c)), (18, (eI (wR (Int.fdiv (IntKind.u64.wrap (wR (a1 + b3))) (2 ^ (min (Int.toNat (1 : Int)) 64)))))), (19, (eI (wR ((wR (Int.fdiv (IntKind.u64.wrap (wR (a1 + b3))) (2 ^ (min (Int.toNat (1 : Int)) 64)))) + m2)))), (20, (eI a1))] ?_
      refine aS aG 2 ?_
      refine bA ?_
      exact aI (aH (⟨rfl, _, _, _, _, _, .eq (by kernel_rfl), hO, hN, h0⟩))
    refine aT aG 4 [] [(80, (aJ (decide ((wR (b3 - m2)) = (1 : Int)))))] ?_
    refine bH h0 (fun h0 => ?_) (fun h0 => ?_)
    · refine aT aG 2 [1, 3, 80] [(14, (eI a1))] ?_
      refine aT aG 2 [] [(15, (eI m2))] ?_
      refine dJ (fun T H => ∃ aA : List aB, ∃ i14 : Int, Has T [(0, (.msl 2 lo0p 0 (List.length aA))), (2, (eI m2)), (14, (eI i14))] ∧ aN ⟨H0, [lo0p], []⟩ H [(lo0p, 2, List.map aD aA)] ∧ List.length aA = N0 ∧ fK cmp4 rec aA m2 i14 = some r) ?_ ?_
      · clear hO hN h0
        rintro T H ⟨aA, i14, hT, hO, hN, h0⟩
        refine aZ hT ?_
        clear hT
        unfold fK at h0
        refine dJ (fun T H => ∃ aA : List aB, Has T [(0, (.msl 2 lo0p 0 (List.length aA)))] ∧ aN ⟨H0, [lo0p], []⟩ H [(lo0p, 2, List.map aD aA)] ∧ List.length aA = N0 ∧ fD cmp4 rec aA = some r) ?_ ?_
        · clear hO hN h0
          rintro T H ⟨aA, hT, hO, hN, h0⟩
          refine aZ hT ?_
          clear hT
          unfold fD at h0
          refine bG ?_
          obtain rfl := oI h0
          exact aI (aW (oQ (x := (.tup [])) (by kernel_rfl) (aR.refl _) ⟨rfl, hO.ext, hO.at 0 (by kernel_rfl), by simp only [List.length_map]; exact hN.trans hN0⟩))
        refine aT aG 2 [2] [(17, (eI m2))] ?_
        refine bR 6 ?_
        refine dQ [(0, (.msl 2 lo0p 0 (List.length aA))), (14, (eI i14)), (17, (eI m2))] ?_
        refine cV (fun T H => ∃ aA : List aB, ∃ k17 : Int, Has T [(0, (.msl 2 lo0p 0 (List.length aA))), (14, (eI i14)), (17, (eI k17))] ∧ aN ⟨H0, [lo0p], []⟩ H [(lo0p, 2, List.map aD aA)] ∧ List.length aA = N0 ∧ iV cmp4 rec aA i14 k17 = some r) ?_ ⟨aA, m2, .eq (by kernel_rfl), hO, hN, h0⟩
        clear hO hN h0
        rintro T H ⟨aA, k17, hT, hO, hN, h0⟩
        refine aZ hT ?_
        clear hT
        unfold iV at h0
        obtain ⟨rr0, hl0, h0⟩ := aV h0
        refine bZ (by kernel_rfl) (fun (s : List aB × Int) T H => Has T [(0, (.msl 2 lo0p 0 (List.length s.1))), (14, (eI i14)), (17, (eI s.2))] ∧ aN ⟨H0, [lo0p], []⟩ H [(lo0p, 2, List.map aD s.1)] ∧ List.length s.1 = N0) hl0 ⟨.eq (by kernel_rfl), hO, hN⟩ ?_
        clear hO hN
        rintro k0 s out1 T H ⟨hT, hO, hN⟩ h1 ho0
        obtain ⟨aA, k17⟩ := s
        replace h1 : iZ cmp4 rec i14 aA k17 = some out1 := h1
        dsimp only at hT
        refine aZ hT ?_
        clear hT
        unfold iZ at h1
        refine aP ?_
        refine aT aG 3 [] [(110, (aJ (decide (i14 < k17))))] ?_
        refine bH h1 (fun h1 => ?_) (fun h1 => ?_)
        · refine bK ?_
          refine bD [(0, (.msl 2 lo0p 0 (List.length aA))), (14, (eI i14)), (17, (eI k17))] ?_
          refine aP ?_
          refine bR 7 ?_
          refine kE (kA []) aG 18 ?_
          obtain ⟨c25, h1⟩ := bF h1
          refine cT 9 [0 ≤ (wR (k17 - (1 : Int))) ∧ (wR (k17 - (1 : Int))) < (lN aA)] ⟨c25, trivial⟩ ?_
          refine kG 0 lo0p 2 (0 + Int.toNat (wR (k17 - (1 : Int)))) (aD (gD aA (wR (k17 - (1 : Int))))) (aD (gD aA (wR (k17 - (1 : Int))))) (List.map aD aA) hO (cH c25) ?_
          obtain ⟨c26, h1⟩ := bF h1
          refine cT 13 [0 ≤ k17 ∧ k17 < (lN aA)] ⟨c26, trivial⟩ ?_
          refine kG 0 lo0p 2 (0 + Int.toNat k17) (aD (gD aA k17)) (aD (gD aA k17)) (List.map aD aA) hO (cH c26) ?_
          obtain ⟨c27, h1⟩ := bF h1
          refine cT 15 [0 ≤ k17 ∧ k17 < (lN aA)] ⟨c27, trivial⟩ ?_
          refine qU 0 lo0p 2 (0 + Int.toNat k17) (aD (gD aA k17)) (aD (gD aA (wR (k17 - (1 : Int))))) (List.map aD aA) [(lo0p, 2, List.map aD (List.set aA (Int.toNat k17) (gD aA (wR (k17 - (1 : Int))))))] hO (cH c27) (by simp only [List.set, mQ]) ?_
          intro H hO
          replace hN : List.length (List.set aA (Int.toNat k17) (gD aA (wR (k17 - (1 : Int))))) = N0 := by simpa using hN
          obtain ⟨c28, h1⟩ := bF h1
          refine cT 17 [0 ≤ (wR (k17 - (1 : Int))) ∧ (wR (k17 - (1 : Int))) < (lN aA)] ⟨c28, trivial⟩ ?_
          refine qU 0 lo0p 2 (0 + Int.toNat (wR (k17 - (1 : Int)))) (aD (gD (List.set aA (Int.toNat k17) (gD aA (wR (k17 - (1 : Int))))) (wR (k17 - (1 : Int))))) (aD (gD aA k17)) (List.map aD (List.set aA (Int.toNat k17) (gD aA (wR (k17 - (1 : Int)))))) [(lo0p, 2, List.map aD (List.set (List.set aA (Int.toNat k17) (gD aA (wR (k17 - (1 : Int))))) (Int.toNat (wR (k17 - (1 : Int)))) (gD aA k17)))] hO (tM c28 (by simp [])) (by simp only [List.set, mQ]) ?_
          intro H hO
          replace hN : List.length (List.set (List.set aA (Int.toNat k17) (gD aA (wR (k17 - (1 : Int))))) (Int.toNat (wR (k17 - (1 : Int)))) (gD aA k17)) = N0 := by simpa using hN
          refine wQ (by kernel_rfl) ?_
          refine cE (l := [(0, (.msl 2 lo0p 0 (List.length (List.set (List.set aA (Int.toNat k17) (gD aA (wR (k17 - (1 : Int))))) (Int.toNat (wR (k17 - (1 : Int)))) (gD aA k17))))), (14, (eI i14)), (17, (eI k17))]) ⟨[(0, (.msl 2 lo0p 0 (List.length aA))), (14, (eI i14)), (17, (eI k17))], by kernel_rfl, rfl, ⟨aR.eq (by simp []), aR.refl _, aR.refl _, trivial⟩⟩ ?_
          refine aI (aX (aH (?_)))
          refine aS aG 3 ?_
          refine bA ?_
          exact aI (aH (⟨rfl, _, (oI h1).symm, .eq (by kernel_rfl), hO, hN⟩))
        refine eR 6 ?_
        obtain rfl := oI h1
        obtain rfl : _ = rr0 := ho0
        replace h0 : fD cmp4 rec aA = some r := h0
        exact aI (aU (aU (bM (aH (⟨rfl, _, .eq (by kernel_rfl), hO, hN, h0⟩)))))
      refine bR 4 ?_
      refine dQ [(0, (.msl 2 lo0p 0 (List.length aA))), (2, (eI m2)), (4, (.fn (.func cmp4_f) cmp4_a cmp4_c)), (14, (eI a1)), (15, (eI m2))] ?_
      refine cV (fun T H => ∃ aA : List aB, ∃ i14 : Int, ∃ j15 : Int, Has T [(0, (.msl 2 lo0p 0 (List.length aA))), (2, (eI m2)), (4, (.fn (.func cmp4_f) cmp4_a cmp4_c)), (14, (eI i14)), (15, (eI j15))] ∧ aN ⟨H0, [lo0p], []⟩ H [(lo0p, 2, List.map aD aA)] ∧ List.length aA = N0 ∧ iU cmp4 rec aA m2 i14 j15 = some r) ?_ ⟨aA, a1, m2, .eq (by kernel_rfl), hO, hN, h0⟩
      clear hO hN h0
      rintro T H ⟨aA, i14, j15, hT, hO, hN, h0⟩
      refine aZ hT ?_
      clear hT
      unfold iU at h0
      obtain ⟨rr0, hl0, h0⟩ := aV h0
      refine bZ (by kernel_rfl) (fun (s : List aB × Int × Int) T H => Has T [(0, (.msl 2 lo0p 0 (List.length s.1))), (2, (eI m2)), (4, (.fn (.func cmp4_f) cmp4_a cmp4_c)), (14, (eI s.2.1)), (15, (eI s.2.2))] ∧ aN ⟨H0, [lo0p], []⟩ H [(lo0p, 2, List.map aD s.1)] ∧ List.length s.1 = N0) hl0 ⟨.eq (by kernel_rfl), hO, hN⟩ ?_
      clear hO hN
      rintro k0 s out1 T H ⟨hT, hO, hN⟩ h1 ho0
      obtain ⟨aA, i14, j15⟩ := s
      replace h1 : iK cmp4 rec m2 aA i14 j15 = some out1 := h1
      dsimp only at hT
      refine aZ hT ?_
      clear hT
      unfold iK at h1
      refine aP ?_
      refine aT aG 3 [] [(85, (aJ (decide (i14 < j15))))] ?_
      refine bH h1 (fun h1 => ?_) (fun h1 => ?_)
      · refine bK ?_
        refine bD [(0, (.msl 2 lo0p 0 (List.length aA))), (2, (eI m2)), (4, (.fn (.func cmp4_f) cmp4_a cmp4_c)), (14, (eI i14)), (15, (eI j15))] ?_
        refine bR 5 ?_
        refine aP ?_
        refine aS aG 7 ?_
        obtain ⟨c30, h1⟩ := bF h1
        refine tH [0 ≤ (1 : Int)] ⟨c30, trivial⟩ ?_
        refine bO [] [(16, (eI (wR (Int.fdiv (IntKind.u64.wrap (wR (i14 + j15))) (2 ^ (min (Int.toNat (1 : Int)) 64))))))] ?_
        refine aP ?_
        refine kE (kA []) aG 12 ?_
        obtain ⟨c31, h1⟩ := bF h1
        refine cT 4 [0 ≤ m2 ∧ m2 < (lN aA)] ⟨c31, trivial⟩ ?_
        refine kG 0 lo0p 2 (0 + Int.toNat m2) (aD (gD aA m2)) (aD (gD aA m2)) (List.map aD aA) hO (cH c31) ?_
        obtain ⟨c32, h1⟩ := bF h1
        refine cT 8 [0 ≤ (wR (Int.fdiv (IntKind.u64.wrap (wR (i14 + j15))) (2 ^ (min (Int.toNat (1 : Int)) 64)))) ∧ (wR (Int.fdiv (IntKind.u64.wrap (wR (i14 + j15))) (2 ^ (min (Int.toNat (1 : Int)) 64)))) < (lN aA)] ⟨c32, trivial⟩ ?_
        refine kG 0 lo0p 2 (0 + Int.toNat (wR (Int.fdiv (IntKind.u64.wrap (wR (i14 + j15))) (2 ^ (min (Int.toNat (1 : Int)) 64))))) (aD (gD aA (wR (Int.fdiv (IntKind.u64.wrap (wR (i14 + j15))) (2 ^ (min (Int.toNat (1 : Int)) 64)))))) (aD (gD aA (wR (Int.fdiv (IntKind.u64.wrap (wR (i14 + j15))) (2 ^ (min (Int.toNat (1 : Int)) 64)))))) (List.map aD aA) hO (cH c32) ?_
        obtain ⟨x33, hx34, h1⟩ := aV h1
        refine wC (cmp4_h (gD aA m2) (gD aA (wR (Int.fdiv (IntKind.u64.wrap (wR (i14 + j15))) (2 ^ (min (Int.toNat (1 : Int)) 64))))) _ hx34) hO ?_
        intro H hO
        refine nO ?_
        refine bO [] [(103, (aJ (!(decide (x33 < (0 : Int))))))] ?_
        refine bH h1 (fun h1 => ?_) (fun h1 => ?_)
        · refine aS aG 3 ?_
          refine bA ?_
          exact aI (aX (aH (⟨rfl, _, (oI h1).symm, .eq (by kernel_rfl), hO, hN⟩)))
        refine aS aG 2 ?_
        refine bA ?_
        exact aI (aX (aH (⟨rfl, _, (oI h1).symm, .eq (by kernel_rfl), hO, hN⟩)))
      refine eR 4 ?_
      obtain rfl := oI h1
      obtain rfl : _ = rr0 := ho0
      replace h0 : fK cmp4 rec aA m2 i14 = some r := h0
      exact aI (aU (aU (bM (aH (⟨rfl, _, _, .eq (by kernel_rfl), hO, hN, h0⟩)))))
    refine bK ?_
    exact aI (aH (⟨rfl, _, .eq (by kernel_rfl), hO, hN, h0⟩))
  refine aT aG 4 [] [(28, (aJ (decide ((wR (m2 - a1)) = (1 : Int)))))] ?_
  refine bH h0 (fun h0 => ?_) (fun h0 => ?_)
  · refine aT aG 2 [2, 28] [(10, (eI m2))] ?_
    refine aT aG 2 [3] [(11, (eI b3))] ?_
    refine dJ (fun T H => ∃ aA : List aB, ∃ i10 : Int, Has T [(0, (.msl 2 lo0p 0 (List.length aA))), (1, (eI a1)), (10, (eI i10))] ∧ aN ⟨H0, [lo0p], []⟩ H [(lo0p, 2, List.map aD aA)] ∧ List.length aA = N0 ∧ eY cmp4 rec aA a1 i10 = some r) ?_ ?_
    · clear hO hN h0
      rintro T H ⟨aA, i10, hT, hO, hN, h0⟩
      refine aZ hT ?_
      clear hT
      unfold eY at h0
      refine dJ (fun T H => ∃ aA : List aB, Has T [(0, (.msl 2 lo0p 0 (List.length aA)))] ∧ aN ⟨H0, [lo0p], []⟩ H [(lo0p, 2, List.map aD aA)] ∧ List.length aA = N0 ∧ eV cmp4 rec aA = some r) ?_ ?_
      · clear hO hN h0
        rintro T H ⟨aA, hT, hO, hN, h0⟩
        refine aZ hT ?_
        clear hT
        unfold eV at h0
        refine bG ?_
        obtain rfl := oI h0
        exact aI (aW (oQ (x := (.tup [])) (by kernel_rfl) (aR.refl _) ⟨rfl, hO.ext, hO.at 0 (by kernel_rfl), by simp only [List.length_map]; exact hN.trans hN0⟩))
      refine aT aG 2 [1] [(13, (eI a1))] ?_
      refine bR 2 ?_
      refine dQ [(0, (.msl 2 lo0p 0 (List.length aA))), (10, (eI i10)), (13, (eI a1))] ?_
      refine cV (fun T H => ∃ aA : List aB, ∃ k13 : Int, Has T [(0, (.msl 2 lo0p 0 (List.length aA))), (10, (eI i10)), (13, (eI k13))] ∧ aN ⟨H0, [lo0p], []⟩ H [(lo0p, 2, List.map aD aA)] ∧ List.length aA = N0 ∧ jB cmp4 rec aA i10 k13 = some r) ?_ ⟨aA, a1, .eq (by kernel_rfl), hO, hN, h0⟩
      clear hO hN h0
      rintro T H ⟨aA, k13, hT, hO, hN, h0⟩
      refine aZ hT ?_
      clear hT
      unfold jB at h0
      obtain ⟨rr0, hl0, h0⟩ := aV h0
      refine bZ (by kernel_rfl) (fun (s : List aB × Int) T H => Has T [(0, (.msl 2 lo0p 0 (List.length s.1))), (10, (eI i10)), (13, (eI s.2))] ∧ aN ⟨H0, [lo0p], []⟩ H [(lo0p, 2, List.map aD s.1)] ∧ List.length s.1 = N0) hl0 ⟨.eq (by kernel_rfl), hO, hN⟩ ?_
      clear hO hN
      rintro k0 s out1 T H ⟨hT, hO, hN⟩ h1 ho0
      obtain ⟨aA, k13⟩ := s
      replace h1 : jI cmp4 rec i10 aA k13 = some out1 := h1
      dsimp only at hT
      refine aZ hT ?_
      clear hT
      unfold jI at h1
      refine aP ?_
      refine aT aG 4 [] [(58, (aJ (decide (k13 < (wR (i10 - (1 : Int)))))))] ?_
      refine bH h1 (fun h1 => ?_) (fun h1 => ?_)
      · refine bK ?_
        refine bD [(0, (.msl 2 lo0p 0 (List.length aA))), (10, (eI i10)), (13, (eI k13))] ?_
        refine aP ?_
        refine bR 3 ?_
        refine kE (kA []) aG 18 ?_
        obtain ⟨c39, h1⟩ := bF h1
        refine cT 9 [0 ≤ (wR (k13 + (1 : Int))) ∧ (wR (k13 + (1 : Int))) < (lN aA)] ⟨c39, trivial⟩ ?_
        refine kG 0 lo0p 2 (0 + Int.toNat (wR (k13 + (1 : Int)))) (aD (gD aA (wR (k13 + (1 : Int))))) (aD (gD aA (wR (k13 + (1 : Int))))) (List.map aD aA) hO (cH c39) ?_
        obtain ⟨c40, h1⟩ := bF h1
        refine cT 13 [0 ≤ k13 ∧ k13 < (lN aA)] ⟨c40, trivial⟩ ?_
        refine kG 0 lo0p 2 (0 + Int.toNat k13) (aD (gD aA k13)) (aD (gD aA k13)) (List.map aD aA) hO (cH c40) ?_
        obtain ⟨c41, h1⟩ := bF h1
        refine cT 15 [0 ≤ k13 ∧ k13 < (lN aA)] ⟨c41, trivial⟩ ?_
        refine qU 0 lo0p 2 (0 + Int.toNat k13) (aD (gD aA k13)) (aD (gD aA (wR (k13 + (1 : Int))))) (List.map aD aA) [(lo0p, 2, List.map aD (List.set aA (Int.toNat k13) (gD aA (wR (k13 + (1 : Int))))))] hO (cH c41) (by simp only [List.set, mQ]) ?_
        intro H hO
        replace hN : List.length (List.set aA (Int.toNat k13) (gD aA (wR (k13 + (1 : Int))))) = N0 := by simpa using hN
        obtain ⟨c42, h1⟩ := bF h1
        refine cT 17 [0 ≤ (wR (k13 + (1 : Int))) ∧ (wR (k13 + (1 : Int))) < (lN aA)] ⟨c42, trivial⟩ ?_
        refine qU 0 lo0p 2 (0 + Int.toNat (wR (k13 + (1 : Int)))) (aD (gD (List.set aA (Int.toNat k13) (gD aA (wR (k13 + (1 : Int))))) (wR (k13 + (1 : Int))))) (aD (gD aA k13)) (List.map aD (List.set aA (Int.toNat k13) (gD aA (wR (k13 + (1 : Int)))))) [(lo0p, 2, List.map aD (List.set (List.set aA (Int.toNat k13) (gD aA (wR (k13 + (1 : Int))))) (Int.toNat (wR (k13 + (1 : Int)))) (gD aA k13)))] hO (tM c42 (by simp [])) (by simp only [List.set, mQ]) ?_
        intro H hO
        replace hN : List.length (List.set (List.set aA (Int.toNat k13) (gD aA (wR (k13 + (1 : Int))))) (Int.toNat (wR (k13 + (1 : Int)))) (gD aA k13)) = N0 := by simpa using hN
        refine wQ (by kernel_rfl) ?_
        refine cE (l := [(0, (.msl 2 lo0p 0 (List.length (List.set (List.set aA (Int.toNat k13) (gD aA (wR (k13 + (1 : Int))))) (Int.toNat (wR (k13 + (1 : Int)))) (gD aA k13))))), (10, (eI i10)), (13, (eI k13))]) ⟨[(0, (.msl 2 lo0p 0 (List.length aA))), (10, (eI i10)), (13, (eI k13))], by kernel_rfl, rfl, ⟨aR.eq (by simp []), aR.refl _, aR.refl _, trivial⟩⟩ ?_
        refine aI (aX (aH (?_)))
        refine aS aG 3 ?_
        refine bA ?_
        exact aI (aH (⟨rfl, _, (oI h1).symm, .eq (by kernel_rfl), hO, hN⟩))
      refine eR 2 ?_
      obtain rfl := oI h1
      obtain rfl : _ = rr0 := ho0
      replace h0 : eV cmp4 rec aA = some r := h0
      exact aI (aU (aU (bM (aH (⟨rfl, _, .eq (by kernel_rfl), hO, hN, h0⟩)))))
    refine bR 0 ?_
    refine dQ [(0, (.msl 2 lo0p 0 (List.length aA))), (1, (eI a1)), (4, (.fn (.func cmp4_f) cmp4_a cmp4_c)), (10, (eI m2)), (11, (eI b3))] ?_
    refine cV (fun T H => ∃ aA : List aB, ∃ i10 : Int, ∃ j11 : Int, Has T [(0, (.msl 2 lo0p 0 (List.length aA))), (1, (eI a1)), (4, (.fn (.func cmp4_f) cmp4_a cmp4_c)), (10, (eI i10)), (11, (eI j11))] ∧ aN ⟨H0, [lo0p], []⟩ H [(lo0p, 2, List.map aD aA)] ∧ List.length aA = N0 ∧ iW cmp4 rec aA a1 i10 j11 = some r) ?_ ⟨aA, m2, b3, .eq (by kernel_rfl), hO, hN, h0⟩
    clear hO hN h0
    rintro T H ⟨aA, i10, j11, hT, hO, hN, h0⟩
    refine aZ hT ?_
    clear hT
    unfold iW at h0
    obtain ⟨rr0, hl0, h0⟩ := aV h0
    refine bZ (by kernel_rfl) (fun (s : List aB × Int × Int) T H => Has T [(0, (.msl 2 lo0p 0 (List.length s.1))), (1, (eI a1)), (4, (.fn (.func cmp4_f) cmp4_a cmp4_c)), (10, (eI s.2.1)), (11, (eI s.2.2))] ∧ aN ⟨H0, [lo0p], []⟩ H [(lo0p, 2, List.map aD s.1)] ∧ List.length s.1 = N0) hl0 ⟨.eq (by kernel_rfl), hO, hN⟩ ?_
    clear hO hN
    rintro k0 s out1 T H ⟨hT, hO, hN⟩ h1 ho0
    obtain ⟨aA, i10, j11⟩ := s
    replace h1 : iL cmp4 rec a1 aA i10 j11 = some out1 := h1
    dsimp only at hT
    refine aZ hT ?_
    clear hT
    unfold iL at h1
    refine aP ?_
    refine aT aG 3 [] [(33, (aJ (decide (i10 < j11))))] ?_
    refine bH h1 (fun h1 => ?_) (fun h1 => ?_)
    · refine bK ?_
      refine bD [(0, (.msl 2 lo0p 0 (List.length aA))), (1, (eI a1)), (4, (.fn (.func cmp4_f) cmp4_a cmp4_c)), (10, (eI i10)), (11, (eI j11))] ?_
      refine bR 1 ?_
      refine aP ?_
      refine aS aG 7 ?_
      obtain ⟨c44, h1⟩ := bF h1
      refine tH [0 ≤ (1 : Int)] ⟨c44, trivial⟩ ?_
      refine bO [] [(12, (eI (wR (Int.fdiv (IntKind.u64.wrap (wR (i10 + j11))) (2 ^ (min (Int.toNat (1 : Int)) 64))))))] ?_
      refine aP ?_
      refine kE (kA []) aG 11 ?_
      obtain ⟨c45, h1⟩ := bF h1
      refine cT 4 [0 ≤ (wR (Int.fdiv (IntKind.u64.wrap (wR (i10 + j11))) (2 ^ (min (Int.toNat (1 : Int)) 64)))) ∧ (wR (Int.fdiv (IntKind.u64.wrap (wR (i10 + j11))) (2 ^ (min (Int.toNat (1 : Int)) 64)))) < (lN aA)] ⟨c45, trivial⟩ ?_
      refine kG 0 lo0p 2 (0 + Int.toNat (wR (Int.fdiv (IntKind.u64.wrap (wR (i10 + j11))) (2 ^ (min (Int.toNat (1 : Int)) 64))))) (aD (gD aA (wR (Int.fdiv (IntKind.u64.wrap (wR (i10 + j11))) (2 ^ (min (Int.toNat (1 : Int)) 64)))))) (aD (gD aA (wR (Int.fdiv (IntKind.u64.wrap (wR (i10 + j11))) (2 ^ (min (Int.toNat (1 : Int)) 64)))))) (List.map aD aA) hO (cH c45) ?_
      obtain ⟨c46, h1⟩ := bF h1
      refine cT 8 [0 ≤ a1 ∧ a1 < (lN aA)] ⟨c46, trivial⟩ ?_
      refine kG 0 lo0p 2 (0 + Int.toNat a1) (aD (gD aA a1)) (aD (gD aA a1)) (List.map aD aA) hO (cH c46) ?_
      obtain ⟨x47, hx48, h1⟩ := aV h1
      refine wC (cmp4_h (gD aA (wR (Int.fdiv (IntKind.u64.wrap (wR (i10 + j11))) (2 ^ (min (Int.toNat (1 : Int)) 64))))) (gD aA a1) _ hx48) hO ?_
      intro H hO
      refine nO ?_
      refine bO [] [(50, (aJ (decide (x47 < (0 : Int)))))] ?_
      refine bH h1 (fun h1 => ?_) (fun h1 => ?_)
      · refine aS aG 3 ?_
        refine bA ?_
        exact aI (aX (aH (⟨rfl, _, (oI h1).symm, .eq (by kernel_rfl), hO, hN⟩)))
      refine aS aG 2 ?_
      refine bA ?_
      exact aI (aX (aH (⟨rfl, _, (oI h1).symm, .eq (by kernel_rfl), hO, hN⟩)))
    refine eR 0 ?_
    obtain rfl := oI h1
    obtain rfl : _ = rr0 := ho0
    replace h0 : eY cmp4 rec aA a1 i10 = some r := h0
    exact aI (aU (aU (bM (aH (⟨rfl, _, _, .eq (by kernel_rfl), hO, hN, h0⟩)))))
  refine bK ?_
  exact aI (aH (⟨rfl, _, .eq (by kernel_rfl), hO, hN, h0⟩))

theorem mF (cmp4_f : Nat) (cmp4_a cmp4_c : List V) (cmp4 : aB → aB → Option Int) (cmp4_h : ∀ a0 a1 r, cmp4 a0 a1 = some r → bU Try.prog cmp4_f (cmp4_a ++ [(aD a0), (aD a1)] ++ cmp4_c) (eI r)) : ∀ (k : Nat) (lo0p : Nat) (aA : (List aB)) (a1 : Int) (m2 : Int) (b3 : Int) (r : List aB), fI cmp4 k aA a1 m2 b3 = some r → jX Try.prog 122 lo0p 2 (List.map aD aA) (List.map aD r) [(.msl 2 lo0p 0 (List.length aA)), (eI a1), (eI m2), (eI b3), (.fn (.func cmp4_f) cmp4_a cmp4_c)] (.tup [])
  | 0, _, _, _, _, _, _, h => by cases h
  | k + 1, lo0p, aA, a1, m2, b3, r, h => qM cmp4_f cmp4_a cmp4_c cmp4 cmp4_h _ (mF cmp4_f cmp4_a cmp4_c cmp4 cmp4_h k) lo0p aA a1 m2 b3 r h

theorem mU (lo0p : Nat) (aA : (List aB)) (a1 : Int) (m2 : Int) (b3 : Int) (cmp4_f : Nat) (cmp4_a cmp4_c : List V) (cmp4 : aB → aB → Option Int) (cmp4_h : ∀ a0 a1 r, cmp4 a0 a1 = some r → bU Try.prog cmp4_f (cmp4_a ++ [(aD a0), (aD a1)] ++ cmp4_c) (eI r)) (r : List aB) (h0 : dN aA a1 m2 b3 cmp4 = some r) : jX Try.prog 122 lo0p 2 (List.map aD aA) (List.map aD r) [(.msl 2 lo0p 0 (List.length aA)), (eI a1), (eI m2), (eI b3), (.fn (.func cmp4_f) cmp4_a cmp4_c)] (.tup []) := by
  obtain ⟨k, hk⟩ := BL h0
  exact mF cmp4_f cmp4_a cmp4_c cmp4 cmp4_h k lo0p aA a1 m2 b3 r hk

end Go.Abs
