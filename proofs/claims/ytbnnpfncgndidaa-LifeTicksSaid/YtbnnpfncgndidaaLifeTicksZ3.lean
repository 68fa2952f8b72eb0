/- What the law LifeTicks stands on: the framework, the given functions as plain functions, their walks, and the plain laws; part 3. -/
import Derived.Test.YtbnnpfncgndidaaLifeTicksZ2
set_option linter.unusedSimpArgs false
set_option linter.unusedVariables false
namespace Go.Abs
open Go
noncomputable def lV (f0 : (List aB)) (d1 : Int) (bT : Int) (t3 : Int) (n9 : Int) (i10 : Int) : Option ((Int × Int) ⊕ (Int)) :=
  cond (decide (i10 < ((List.length f0 : Nat) : Int)))
  (bD (0 ≤ i10 ∧ i10 < ((List.length f0 : Nat) : Int)) <|
  bD ((((decide ((0 : Int) < ((List.getD f0 (Int.toNat i10) default).Net)))) = true → 0 ≤ i10 ∧ i10 < ((List.length f0 : Nat) : Int))) <|
  bD (((((decide ((0 : Int) < ((List.getD f0 (Int.toNat i10) default).Net))) && (decide (bT ≤ ((List.getD f0 (Int.toNat i10) default).At))))) = true → 0 ≤ i10 ∧ i10 < ((List.length f0 : Nat) : Int))) <|
  bD ((((((decide ((0 : Int) < ((List.getD f0 (Int.toNat i10) default).Net))) && (decide (bT ≤ ((List.getD f0 (Int.toNat i10) default).At)))) && (decide (((List.getD f0 (Int.toNat i10) default).At) ≤ t3)))) = true → 0 ≤ i10 ∧ i10 < ((List.length f0 : Nat) : Int))) <|
  cond ((((decide ((0 : Int) < ((List.getD f0 (Int.toNat i10) default).Net))) && (decide (bT ≤ ((List.getD f0 (Int.toNat i10) default).At)))) && (decide (((List.getD f0 (Int.toNat i10) default).At) ≤ t3))) && (decide ((IntKind.i64.wrap (t3 - d1)) < ((List.getD f0 (Int.toNat i10) default).At))))
  (bD (0 ≤ i10 ∧ i10 < ((List.length f0 : Nat) : Int)) <|
  qL f0 d1 bT t3 (IntKind.i64.wrap (n9 + ((List.getD f0 (Int.toNat i10) default).Net))) i10)
  (qL f0 d1 bT t3 n9 i10))
  (some (.inr n9))

noncomputable def tQ (f0 : (List aB)) (d1 : Int) (bT : Int) (t3 : Int) (n9 : Int) (i10 : Int) : Option Int :=
  (lp (fun s => lV f0 d1 bT t3 s.1 s.2) (n9, i10)).bind (fun rr => qD rr)

noncomputable def rL (f0 : (List aB)) (d1 : Int) (bT : Int) (t3 : Int) : Option Int :=
  tQ f0 d1 bT t3 (0 : Int) (0 : Int)

noncomputable def lU  : Option Bool :=
  (nW ).bind fun x8 =>
  some x8

noncomputable def hM (l0 : (List aC)) (d1 : Int) (bT : Int) (t3 : Int) (a9 : (List aC)) (i11 : Int) : Option ((Int) ⊕ (Unit ⊕ Bool)) :=
  cond (decide (i11 < ((List.length l0 : Nat) : Int)))
  (bD (0 ≤ i11 ∧ i11 < ((List.length l0 : Nat) : Int)) <|
  (nB l0 ((List.getD l0 (Int.toNat i11) default).Row)).bind fun x13 =>
  (rL x13 d1 bT t3).bind fun x16 =>
  bD (0 ≤ i11 ∧ i11 < ((List.length l0 : Nat) : Int)) <|
  (nB a9 ((List.getD l0 (Int.toNat i11) default).Row)).bind fun x20 =>
  (mY x20 t3).bind fun x23 =>
  cond (!decide (x23 = x16))
  (some (.inr (.inr false)))
  (some (.inl (IntKind.i64.wrap (i11 + (1 : Int))))))
  (some (.inr (.inl ())))

noncomputable def nG (l0 : (List aC)) (d1 : Int) (bT : Int) (t3 : Int) (a9 : (List aC)) (i11 : Int) : Option Bool :=
  (lp (fun s => hM l0 d1 bT t3 a9 s) i11).bind (Sum.elim (fun rr => lU ) (fun rr => some rr))

noncomputable def nO (l0 : (List aC)) (d1 : Int) (bT : Int) (t3 : Int) : Option Bool :=
  (nL l0 d1 bT).bind fun x1 =>
  cond ((((!decide (x1.2 = (0 : Int))) || (decide ((200 : Int) < ((List.length l0 : Nat) : Int)))) || (decide (t3 < (0 : Int)))) || (decide ((1125899906842624 : Int) ≤ t3)))
  ((nW ).bind fun x5 =>
  some (x5 && ((decide (x1.2 = (0 : Int))) || (decide (((List.length x1.1 : Nat) : Int) = (0 : Int))))))
  (nG l0 d1 bT t3 x1.1 (0 : Int))

end Go.Abs
namespace Go.Abs
open Go Go.RowKit
def wB (x : aF) : Prop := sV x.Kind ∧ sV x.Num ∧ (fun s => s.size ≤ maxLen) x.Text ∧ True

def rB (x : aC) : Prop := (fun l => (∀ a ∈ l, wB a) ∧ l.length * 32 ≤ 140737488351232) x.Row ∧ sV x.At ∧ sV x.Net ∧ True

end Go.Abs
namespace Go.Abs
open Go Go.RowKit Go.Proofs
noncomputable def tt : TT := ⟨NW Try.prog, JO Try.prog⟩

theorem aG : dP Try.prog tt := dP.of Try.prog

theorem CE (l0 : (List aC)) (r : (List aC)) (h0 : pH l0 = some r) : bV Try.prog 70 [(eL aD l0)] (.fn (.func 104) [] [(.rp (eL aD r))]) := by
  intro H0
  refine cE Try.func70 ?_
  have hO := aN.start H0
  unfold pH at h0
  refine aP ?_
  refine aV aG 2 ?_
  refine kK 1 (eL aD l0) (by kernel_rfl) (by kernel_rfl) ?_
  refine bC ?_
  refine bF [(1, (.rp (eL aD l0)))] ?_
  refine bQ aG 2 [(2, (.fn (.func 104) [] [(.rp (eL aD l0))]))] ?_
  refine bI ?_
  obtain rfl := oI h0
  exact aI (nP (x := (.fn (.func 104) [] [(.rp (eL aD l0))])) (by kernel_rfl) (aR.refl _) ⟨rfl, hO.out⟩)

theorem sC (s10 : (List aF)) (s21 : (List aF)) (r : Bool) (h0 : gK s10 s21 = some r) : bV Try.prog 106 [(eL aL s10), (eL aL s21)] (aM r) := by
  intro H0
  refine cE Try.func106 ?_
  have hO := aN.start H0
  unfold gK at h0
  refine aS aG 1 [] [] ?_
  refine aP ?_
  refine aS aG 5 [] [(10, (aM (!decide ((lN s10) = (lN s21)))))] ?_
  refine bH h0 (fun h0 => ?_) (fun h0 => ?_)
  · refine bQ aG 1 [(4, (aM false))] ?_
    refine bI ?_
    obtain rfl := oI h0
    exact aI (aX (Q_r hO))
  refine bJ ?_
  refine bF [(0, (eL aL s10)), (1, (eL aL s21))] ?_
  refine cY (fun T H => Has T [] ∧ aN ⟨H0, [], []⟩ H [] ∧ dM  = some r) ?_ ?_
  · clear hO h0
    rintro T H ⟨hT, hO, h0⟩
    refine aY hT ?_
    clear hT
    unfold dM at h0
    refine bQ aG 1 [(4, (aM true))] ?_
    refine bI ?_
    obtain rfl := oI h0
    exact aI (Q_r hO)
  refine aS aG 3 [] [(12, (eI (lN s10))), (13, (eI (0 : Int)))] ?_
  refine bO 0 ?_
  refine dL [(0, (eL aL s10)), (1, (eL aL s21)), (12, (eI (lN s10))), (13, (eI (0 : Int)))] ?_
  refine cR (fun T H => ∃ t12 : Int, ∃ t13 : Int, Has T [(0, (eL aL s10)), (1, (eL aL s21)), (12, (eI t12)), (13, (eI t13))] ∧ aN ⟨H0, [], []⟩ H [] ∧ fO s10 s21 t12 t13 = some r) ?_ ⟨(lN s10), (0 : Int), .eq (by kernel_rfl), hO, h0⟩
  clear hO h0
  rintro T H ⟨t12, t13, hT, hO, h0⟩
  refine aY hT ?_
  clear hT
  unfold fO at h0
  obtain ⟨rr0, hl0, h0⟩ := aW h0
  refine bZ (by kernel_rfl) (fun (s : Int) T H => Has T [(0, (eL aL s10)), (1, (eL aL s21)), (12, (eI t12)), (13, (eI s))] ∧ aN ⟨H0, [], []⟩ H []) hl0 ⟨.eq (by kernel_rfl), hO⟩ ?_
  clear hO
  rintro k0 s out1 T H ⟨hT, hO⟩ h1 ho0
  obtain ⟨t13, rfl⟩ : ∃ x, x = s := ⟨_, rfl⟩
  replace h1 : cQ s10 s21 t12 t13 = some out1 := h1
  refine aY hT ?_
  clear hT
  unfold cQ at h1
  refine aS aG 1 [] [(14, (aM (decide (t13 < t12))))] ?_
  refine aP ?_
  refine bH h1 (fun h1 => ?_) (fun h1 => ?_)
  · refine bJ ?_
    refine bF [(0, (eL aL s10)), (1, (eL aL s21)), (12, (eI t12)), (13, (eI t13))] ?_
    refine aP ?_
    refine bO 1 ?_
    refine aS aG 2 [] [(5, (eI t13))] ?_
    refine aP ?_
    refine jP (jQ [19, 23]) aG 9 ?_
    obtain ⟨c3, h1⟩ := bE h1
    obtain ⟨c4, h1⟩ := bE h1
    refine HZ (Ds := [0 ≤ t13 ∧ t13 < (lN s10), 0 ≤ t13 ∧ t13 < (lN s21)]) (by kernel_rfl) ⟨c3, c4, trivial⟩ ?_
    refine bR [5] [(24, (aM (!((decide (((gD s10 t13).Kind) = ((gD s21 t13).Kind))) && ((decide (((gD s10 t13).Num) = ((gD s21 t13).Num))) && ((mD ((gD s10 t13).Text) ((gD s21 t13).Text)) && true))))))] ?_
    refine bH h1 (fun h1 => ?_) (fun h1 => ?_)
    · refine bQ aG 1 [(4, (aM false))] ?_
      refine bI ?_
      obtain rfl := oI h1
      obtain rfl : _ = rr0 := ho0
      replace h0 : some false = some r := h0
      obtain rfl := oI h0
      exact aI (bU (aX (aX (bU (aX (Q_r hO))))))
    refine bJ ?_
    refine iZ [(0, (eL aL s10)), (1, (eL aL s21)), (12, (eI t12)), (13, (eI t13))] ?_
    refine aI (aT (aH (?_)))
    refine aV aG 2 ?_
    refine bC ?_
    exact aI (aH (⟨rfl, _, (oI h1).symm, .eq (by kernel_rfl), hO⟩))
  refine eP 0 ?_
  obtain rfl := oI h1
  obtain rfl : _ = rr0 := ho0
  replace h0 : dM  = some r := h0
  exact aI (aU (aU (bL (aH (⟨rfl, .eq (by kernel_rfl), hO, h0⟩)))))

theorem NU (a0 : (List aF)) (b1 : (List aF)) (r : Bool) (h0 : tB a0 b1 = some r) : bV Try.prog 77 [(eL aL a0), (eL aL b1)] (aM r) := by
  intro H0
  refine cE Try.func77 ?_
  have hO := aN.start H0
  unfold tB at h0
  refine aS aG 1 [] [] ?_
  refine aP ?_
  refine aV aG 4 ?_
  refine bN 2 ?_
  obtain ⟨x1, hx2, h0⟩ := aW h0
  refine dA (sC a0 b1 _ hx2) hO ?_
  intro H hO
  refine bC ?_
  refine bF [(4, (aM x1))] ?_
  refine bI ?_
  obtain rfl := oI h0
  exact aI (Q_r hO)

theorem EX (r0 : (List aF)) (r : (List aF)) (h0 : qP r0 = some r) : bV Try.prog 105 [(eL aL r0)] (eL aL r) := by
  intro H0
  refine cE Try.func105 ?_
  have hO := aN.start H0
  unfold qP at h0
  refine aS aG 1 [] [] ?_
  refine aP ?_
  refine aV aG 6 ?_
  refine bN 2 ?_
  obtain ⟨c1, h0⟩ := bE h0
  refine MY 3 32 (lN r0) (by kernel_rfl) (by kernel_rfl) c1 hO ?_
  intro lo2 H hO
  refine bN 4 ?_
  obtain ⟨c4, h0⟩ := bE h0
  refine MU (e := aL) ([] : List aF) r0 0 lo2 3 32 (eL aL r0) (fun lo3 => [(lo3, 3, List.map aL (([] : List aF) ++ r0))]) (by kernel_rfl) (by kernel_rfl) hO (by kernel_rfl) (FK (fun _ => by kernel_rfl)) c4 (fun _ => by kernel_rfl) ?_
  intro lo3 H hO
  refine bC ?_
  refine bF [(2, (.msl 3 lo3 0 (List.length (([] : List aF) ++ r0))))] ?_
  refine bI ?_
  refine iZ [(2, (.msl 3 lo3 0 (List.length (([] : List aF) ++ r0))))] ?_
  refine FY (en := aL) (([] : List aF) ++ r0) 0 0 2 3 lo3 (List.length (([] : List aF) ++ r0)) hO (by kernel_rfl) (by kernel_rfl) (by kernel_rfl) (L' := []) (by kernel_rfl) ?_
  intro H5 hO
  obtain rfl := oI h0
  exact aI (Q_r hO)

theorem xE {σ : Type} (I : σ → Gs → Prop) (yield0_b : Nat) (kD : σ → (List aF) → (List aB) → Option (σ × Bool)) (yield0_h : ∀ st a0 a1 st2 r, kD st a0 a1 = some (st2, r) → HY Try.prog (yv yield0_b) I st [(eL aL a0), (eL aE a1)] st2 (aM r)) (t1 : (List aC)) (sg0 : σ) (r : σ) (h0 : lY kD t1 sg0 = some r) : wP Try.prog 104 I sg0 [(yv yield0_b), (.rp (eL aD t1))] r (.tup []) := by
  intro H0 G0 hI hg
  refine cE Try.func104 ?_
  obtain ⟨G, hO, hI⟩ : ∃ G, aN ⟨H0, List.map (fun p : Nat × cL => p.1) G0, G⟩ H0 [] ∧ I sg0 G := ⟨G0, aN.IM hg, hI⟩
  clear hg
  unfold lY at h0
  refine aS aG 1 [] [(3, (eI (0 : Int)))] ?_
  refine bO 0 ?_
  refine dL [(0, (yv yield0_b)), (1, (.rp (eL aD t1))), (3, (eI (0 : Int)))] ?_
  refine cR (fun T H => ∃ sg : σ, ∃ i3 : Int, ∃ G : Gs, Has T [(0, (yv yield0_b)), (1, (.rp (eL aD t1))), (3, (eI i3))] ∧ aN ⟨H0, List.map (fun p : Nat × cL => p.1) G0, G⟩ H [] ∧ I sg G ∧ oG kD sg t1 i3 = some r) ?_ ⟨sg0, (0 : Int), G, .eq (by kernel_rfl), hO, hI, h0⟩
  clear hO hI h0
  rintro T H ⟨sg, i3, G, hT, hO, hI, h0⟩
  refine aY hT ?_
  clear hT
  unfold oG at h0
  obtain ⟨rr0, hl0, h0⟩ := aW h0
  refine bZ (by kernel_rfl) (fun (s : σ × Int) T H => ∃ G : Gs, Has T [(0, (yv yield0_b)), (1, (.rp (eL aD t1))), (3, (eI s.2))] ∧ aN ⟨H0, List.map (fun p : Nat × cL => p.1) G0, G⟩ H [] ∧ I s.1 G) hl0 ⟨G, .eq (by kernel_rfl), hO, hI⟩ ?_
  clear hO hI
  rintro k0 s out1 T H ⟨G, hT, hO, hI⟩ h1 ho0
  obtain ⟨sg, i3⟩ := s
  replace h1 : eR kD t1 sg i3 = some out1 := h1
  dsimp only at hT
  refine aY hT ?_
  clear hT
  unfold eR at h1
  refine aP ?_
  refine aS aG 4 [] [(9, (aM (decide (i3 < (lN t1)))))] ?_
  refine bH h1 (fun h1 => ?_) (fun h1 => ?_)
  · refine bJ ?_
    refine bF [(0, (yv yield0_b)), (1, (.rp (eL aD t1))), (3, (eI i3))] ?_
    refine bO 1 ?_
    refine aP ?_
    refine aV aG 6 ?_
    obtain ⟨c2, h1⟩ := bE h1
    refine pV [0 ≤ i3 ∧ i3 < (lN t1)] ⟨c2, trivial⟩ ?_
    refine bR [] [(4, (eL aL ((gD t1 i3).Row)))] ?_
    refine aP ?_
    refine aV aG 2 ?_
    refine vM (xs := []) (k := 2) (by kernel_rfl) (by kernel_rfl) ?_
    refine bC ?_
    refine bR [] [(5, (.sl true 0 (fun _ => .bad)))] ?_
    refine cY (fun T H => ∃ sg : σ, ∃ i3 : Int, ∃ r4 : (List aF), ∃ f5 : List aB, ∃ lo3 : Nat, ∃ G : Gs, Has T [(0, (yv yield0_b)), (1, (.rp (eL aD t1))), (3, (eI i3)), (4, (eL aL r4)), (5, (.msl 2 lo3 0 (List.length f5)))] ∧ aN ⟨H0, List.map (fun p : Nat × cL => p.1) G0, G⟩ H [(lo3, 2, List.map aE f5)] ∧ I sg G ∧ mS kD sg t1 i3 r4 f5 = some out1) ?_ ?_
    · clear hO hI h1
      rintro T H ⟨sg, i3, r4, f5, lo3, G, hT, hO, hI, h1⟩
      refine aY hT ?_
      clear hT
      unfold mS at h1
      refine aP ?_
      refine aV aG 6 ?_
      refine wQ (e := aE) f5 0 5 2 lo3 (List.length f5) [] (by kernel_rfl) hO (by kernel_rfl) (by kernel_rfl) (by kernel_rfl) (by kernel_rfl) ?_
      intro H hO
      refine bN 2 ?_
      obtain ⟨x7, hx8, h1⟩ := aW h1
      refine dA (EX r4 _ hx8) hO ?_
      intro H hO
      refine bN 4 ?_
      obtain ⟨x10, hx11, h1⟩ := aW h1
      refine MX (I := I) (yv yield0_b) [(eL aL x7), (eL aE f5)] (aM x10.2) (by kernel_rfl) (by kernel_rfl) (yield0_h _ x7 f5 x10.1 x10.2 hx11) hO hI ?_
      intro G H hO hI
      refine bC ?_
      refine bR [4, 5] [(50, (aM (!x10.2)))] ?_
      refine bH h1 (fun h1 => ?_) (fun h1 => ?_)
      · refine bI ?_
        obtain rfl := oI h1
        obtain rfl : _ = rr0 := ho0
        replace h0 : some x10.1 = some r := h0
        obtain rfl := oI h0
        exact aI (bU (aX (bU (nP (x := (.tup [])) (by kernel_rfl) (aR.refl _) ⟨rfl, G, hI, hO.IQ⟩))))
      refine bJ ?_
      exact aI (aT (aH (⟨rfl, _, (oI h1).symm, _, .eq (by kernel_rfl), hO, hI⟩)))
    refine bO 2 ?_
    refine dL [(0, (yv yield0_b)), (1, (.rp (eL aD t1))), (3, (eI i3)), (4, (eL aL ((gD t1 i3).Row))), (5, (.sl true 0 (fun _ => .bad)))] ?_
    refine JU (el := (fun _ => .bad)) 4 5 2 hO (by kernel_rfl) ?_
    intro lo24 H25 hO
    refine cR (fun T H => ∃ sg : σ, ∃ i3 : Int, ∃ r4 : (List aF), ∃ f5 : List aB, ∃ lo14 : Nat, ∃ G : Gs, Has T [(0, (yv yield0_b)), (1, (.rp (eL aD t1))), (3, (eI i3)), (4, (eL aL r4)), (5, (.msl 2 lo14 0 (List.length f5)))] ∧ aN ⟨H0, List.map (fun p : Nat × cL => p.1) G0, G⟩ H [(lo14, 2, List.map aE f5)] ∧ I sg G ∧ oH kD sg t1 i3 r4 f5 = some out1) ?_ ⟨sg, i3, (gD t1 i3).Row, ([] : List aB), lo24, G, .eq (by kernel_rfl), hO, hI, h1⟩
    clear hO hI h1
    rintro T H ⟨sg, i3, r4, f5, lo14, G, hT, hO, hI, h1⟩
    refine aY hT ?_
    clear hT
    unfold oH at h1
    obtain ⟨rr1, hl1, h1⟩ := aW h1
    refine bZ (by kernel_rfl) (fun (s : σ × Int × List aB) T H => ∃ lo14 : Nat, ∃ G : Gs, Has T [(0, (yv yield0_b)), (1, (.rp (eL aD t1))), (3, (eI s.2.1)), (4, (eL aL r4)), (5, (.msl 2 lo14 0 (List.length s.2.2)))] ∧ aN ⟨H0, List.map (fun p : Nat × cL => p.1) G0, G⟩ H [(lo14, 2, List.map aE s.2.2)] ∧ I s.1 G) hl1 ⟨lo14, G, .eq (by kernel_rfl), hO, hI⟩ ?_
    clear hO hI
    rintro k1 s out2 T H ⟨lo14, G, hT, hO, hI⟩ h2 ho1
    obtain ⟨sg, i3, f5⟩ := s
    replace h2 : fX kD t1 r4 sg i3 f5 = some out2 := h2
    dsimp only at hT
    refine aY hT ?_
    clear hT
    unfold fX at h2
    refine aP ?_
    refine aP ?_
    refine aV aG 13 ?_
    obtain ⟨c15, h2⟩ := bE h2
    refine uB 11 [(((decide (i3 < (lN t1)))) = true → 0 ≤ i3 ∧ i3 < (lN t1))] ⟨c15, trivial⟩ ?_
    obtain ⟨x16, hx17, h2⟩ := aW h2
    refine sG [(20, true)] 77 [(eL aL ((gD t1 i3).Row)), (eL aL r4)] (aM x16) (decide (i3 < (lN t1))) (by kernel_rfl) (by kernel_rfl) (by kernel_rfl) (fun hb18 => (NU ((gD t1 i3).Row) r4 _ (uP hx17 hb18))) hO ?_
    intro H hO
    refine bC ?_
    refine bR [] [(28, (aM ((decide (i3 < (lN t1))) && x16)))] ?_
    refine bH h2 (fun h2 => ?_) (fun h2 => ?_)
    · refine bJ ?_
      refine bF [(0, (yv yield0_b)), (1, (.rp (eL aD t1))), (3, (eI i3)), (4, (eL aL r4)), (5, (.msl 2 lo14 0 (List.length f5)))] ?_
      refine aP ?_
      refine bO 3 ?_
      refine jP (jQ [32, 36, 37, 41]) aG 15 ?_
      obtain ⟨c20, h2⟩ := bE h2
      obtain ⟨c21, h2⟩ := bE h2
      refine cX 12 [0 ≤ i3 ∧ i3 < (lN t1), 0 ≤ i3 ∧ i3 < (lN t1)] ⟨c20, c21, trivial⟩ ?_
      refine DQ (xs := [(aE (aB.mk ((gD t1 i3).At) ((gD t1 i3).Net)))]) (k := 2) (by kernel_rfl) (by kernel_rfl) ?_
      obtain ⟨c23, h2⟩ := bE h2
      refine BN (e := aE) f5 ([aB.mk ((gD t1 i3).At) ((gD t1 i3).Net)]) 0 lo14 2 16 (lO [(aE (aB.mk ((gD t1 i3).At) ((gD t1 i3).Net)))]) (fun lo22 => [(lo22, 2, List.map aE (f5 ++ ([aB.mk ((gD t1 i3).At) ((gD t1 i3).Net)])))]) (by kernel_rfl) (by kernel_rfl) hO (by kernel_rfl) (by kernel_rfl) c23 (fun _ => by kernel_rfl) ?_
      intro lo22 H hO
      refine nS ?_
      refine iZ [(0, (yv yield0_b)), (1, (.rp (eL aD t1))), (3, (eI i3)), (4, (eL aL r4)), (5, (.msl 2 lo22 0 (List.length (f5 ++ ([aB.mk ((gD t1 i3).At) ((gD t1 i3).Net)])))))] ?_
      refine aI (aT (aH (?_)))
      refine aV aG 3 ?_
      refine bC ?_
      exact aI (aH (⟨rfl, _, (oI h2).symm, _, _, .eq (by kernel_rfl), hO, hI⟩))
    refine eP 2 ?_
    obtain rfl := oI h2
    obtain rfl : _ = rr1 := ho1
    replace h1 : mS kD sg t1 i3 r4 f5 = some out1 := h1
    exact aI (aU (aU (bL (aH (⟨rfl, _, _, _, _, _, _, .eq (by kernel_rfl), hO, hI, h1⟩)))))
  refine eP 0 ?_
  obtain rfl := oI h1
  obtain rfl : _ = rr0 := ho0
  replace h0 : some sg = some r := h0
  obtain rfl := oI h0
  exact aI (aU (aU (bL (oD (x := (.tup [])) (by kernel_rfl) (aR.refl _) ⟨rfl, G, hI, hO.IQ⟩))))

theorem pS (s0 : (List aF)) (f1_f : Nat) (f1_a f1_c : List V) (f1 : aF → Option Bool) (f1_h : ∀ a0 r, f1 a0 = some r → bV Try.prog f1_f (f1_a ++ [(aL a0)] ++ f1_c) (aM r)) (r : Int) (h0 : eM s0 f1 = some r) : bV Try.prog 91 [(eL aL s0), (.fn (.func f1_f) f1_a f1_c)] (eI r) := by
  intro H0
  refine cE Try.func91 ?_
  have hO := aN.start H0
  unfold eM at h0
  refine aS aG 1 [] [] ?_
  refine cY (fun T H => Has T [] ∧ aN ⟨H0, [], []⟩ H [] ∧ cW f1  = some r) ?_ ?_
  · clear hO h0
    rintro T H ⟨hT, hO, h0⟩
    refine aY hT ?_
    clear hT
    unfold cW at h0
    refine bQ aG 1 [(4, (eI (-1 : Int)))] ?_
    refine bI ?_
    obtain rfl := oI h0
    exact aI (Q_r hO)
  refine aS aG 3 [] [(7, (eI (lN s0))), (8, (eI (0 : Int)))] ?_
  refine bO 0 ?_
  refine dL [(0, (eL aL s0)), (1, (.fn (.func f1_f) f1_a f1_c)), (7, (eI (lN s0))), (8, (eI (0 : Int)))] ?_
  refine cR (fun T H => ∃ t7 : Int, ∃ t8 : Int, Has T [(0, (eL aL s0)), (1, (.fn (.func f1_f) f1_a f1_c)), (7, (eI t7)), (8, (eI t8))] ∧ aN ⟨H0, [], []⟩ H [] ∧ eE f1 s0 t7 t8 = some r) ?_ ⟨(lN s0), (0 : Int), .eq (by kernel_rfl), hO, h0⟩
  clear hO h0
  rintro T H ⟨t7, t8, hT, hO, h0⟩
  refine aY hT ?_
  clear hT
  unfold eE at h0
  obtain ⟨rr0, hl0, h0⟩ := aW h0
  refine bZ (by kernel_rfl) (fun (s : Int) T H => Has T [(0, (eL aL s0)), (1, (.fn (.func f1_f) f1_a f1_c)), (7, (eI t7)), (8, (eI s))] ∧ aN ⟨H0, [], []⟩ H []) hl0 ⟨.eq (by kernel_rfl), hO⟩ ?_
  clear hO
  rintro k0 s out1 T H ⟨hT, hO⟩ h1 ho0
  obtain ⟨t8, rfl⟩ : ∃ x, x = s := ⟨_, rfl⟩
  replace h1 : eF f1 s0 t7 t8 = some out1 := h1
  refine aY hT ?_
  clear hT
  unfold eF at h1
  refine aS aG 1 [] [(9, (aM (decide (t8 < t7))))] ?_
  refine aP ?_
  refine bH h1 (fun h1 => ?_) (fun h1 => ?_)
  · refine bJ ?_
    refine bF [(0, (eL aL s0)), (1, (.fn (.func f1_f) f1_a f1_c)), (7, (eI t7)), (8, (eI t8))] ?_
    refine aP ?_
    refine bO 1 ?_
    refine aS aG 2 [] [(5, (eI t8))] ?_
    refine aP ?_
    refine aV aG 6 ?_
    obtain ⟨c2, h1⟩ := bE h1
    refine uB 5 [0 ≤ t8 ∧ t8 < (lN s0)] ⟨c2, trivial⟩ ?_
    obtain ⟨x3, hx4, h1⟩ := aW h1
    refine dA (f1_h (gD s0 t8) _ hx4) hO ?_
    intro H hO
    refine cP ?_
    refine bR [] [(16, (aM x3))] ?_
    refine bH h1 (fun h1 => ?_) (fun h1 => ?_)
    · refine bQ aG 2 [(4, (eI t8))] ?_
      refine bI ?_
      obtain rfl := oI h1
      obtain rfl : _ = rr0 := ho0
      replace h0 : some t8 = some r := h0
      obtain rfl := oI h0
      exact aI (bU (aX (aX (bU (aX (Q_r hO))))))
    refine bJ ?_
    refine iZ [(0, (eL aL s0)), (1, (.fn (.func f1_f) f1_a f1_c)), (7, (eI t7)), (8, (eI t8))] ?_
    refine aI (aT (aH (?_)))
    refine aV aG 2 ?_
    refine bC ?_
    exact aI (aH (⟨rfl, _, (oI h1).symm, .eq (by kernel_rfl), hO⟩))
  refine eP 0 ?_
  obtain rfl := oI h1
  obtain rfl : _ = rr0 := ho0
  replace h0 : cW f1  = some r := h0
  exact aI (aU (aU (bL (aH (⟨rfl, .eq (by kernel_rfl), hO, h0⟩)))))

theorem oK (s0 : (List aF)) (f1_f : Nat) (f1_a f1_c : List V) (f1 : aF → Option Bool) (f1_h : ∀ a0 r, f1 a0 = some r → bV Try.prog f1_f (f1_a ++ [(aL a0)] ++ f1_c) (aM r)) (r : Bool) (h0 : cO s0 f1 = some r) : bV Try.prog 87 [(eL aL s0), (.fn (.func f1_f) f1_a f1_c)] (aM r) := by
  intro H0
  refine cE Try.func87 ?_
  have hO := aN.start H0
  unfold cO at h0
  refine aS aG 1 [] [] ?_
  refine aP ?_
  refine aV aG 5 ?_
  refine bN 2 ?_
  obtain ⟨x1, hx2, h0⟩ := aW h0
  refine dA (pS s0 f1_f f1_a f1_c f1 f1_h _ hx2) hO ?_
  intro H hO
  refine bC ?_
  refine bF [(4, (aM (decide ((0 : Int) ≤ x1))))] ?_
  refine bI ?_
  obtain rfl := oI h0
  exact aI (Q_r hO)

theorem sX (v0 : aF) (r : (bA × Bool)) (h0 : jS v0 = some r) : bV Try.prog 111 [(aL v0)] (.tup [(aZ r.1), (aM r.2)]) := by
  intro H0
  refine cE Try.func111 ?_
  have hO := aN.start H0
  unfold jS at h0
  refine aP ?_
  refine aV aG 3 ?_
  refine kK 3 (aL v0) (by kernel_rfl) (by kernel_rfl) ?_
  refine bC ?_
  refine bF [(1, (.rp (aL v0)))] ?_
  refine aP ?_
  refine bO 0 ?_
  refine aS aG 9 [] [(4, (aM ((decide (v0.Kind = (1 : Int))) && (mD v0.Text (⟨#[]⟩ : ByteArray)))))] ?_
  refine bH h0 (fun h0 => ?_) (fun h0 => ?_)
  · refine bQ aG 5 [(2, (aZ (bA.k_number v0.Num))), (3, (aM true))] ?_
    refine bI ?_
    obtain rfl := oI h0
    exact aI (bU (aX (Q_r hO)))
  refine aS aG 15 [4] [(16, (aM (((decide (v0.Kind = (2 : Int))) && (decide (v0.Num = (0 : Int)))) && (decide (((ByteArray.size v0.Text : Nat) : Int) ≤ (64 : Int))))))] ?_
  refine bH h0 (fun h0 => ?_) (fun h0 => ?_)
  · refine bQ aG 5 [(2, (aZ (bA.k_words v0.Text))), (3, (aM true))] ?_
    refine bI ?_
    obtain rfl := oI h0
    exact aI (bU (aX (Q_r hO)))
  refine bJ ?_
  refine iZ [] ?_
  refine aI (aT (aH (?_)))
  refine bQ aG 2 [(2, (aZ bA.none_)), (3, (aM false))] ?_
  refine bI ?_
  obtain rfl := oI h0
  exact aI (Q_r hO)

theorem LS (v0 : aF) (r : Bool) (h0 : rH v0 = some r) : bV Try.prog 89 [(aL v0)] (aM r) := by
  intro H0
  refine cE Try.func89 ?_
  have hO := aN.start H0
  unfold rH at h0
  refine aP ?_
  refine aV aG 2 ?_
  refine kK 3 (aL v0) (by kernel_rfl) (by kernel_rfl) ?_
  refine bC ?_
  refine bF [(1, (.rp (aL v0)))] ?_
  refine aP ?_
  refine aV aG 7 ?_
  refine bN 1 ?_
  obtain ⟨⟨x1_0, x1_1⟩, hx2, h0⟩ := aW h0
  refine dA (sX v0 _ hx2) hO ?_
  intro H hO
  rcases x1_0 with _ | y4 | y5
  · replace h0 : (some x1_1) = some r := h0
    refine bC ?_
    refine bF [(4, (aM x1_1))] ?_
    refine bQ aG 2 [(2, (aM x1_1))] ?_
    refine bI ?_
    obtain rfl := oI h0
    exact aI (Q_r hO)
  · replace h0 : (some x1_1) = some r := h0
    refine bC ?_
    refine bF [(4, (aM x1_1))] ?_
    refine bQ aG 2 [(2, (aM x1_1))] ?_
    refine bI ?_
    obtain rfl := oI h0
    exact aI (Q_r hO)
  · replace h0 : (some x1_1) = some r := h0
    refine bC ?_
    refine bF [(4, (aM x1_1))] ?_
    refine bQ aG 2 [(2, (aM x1_1))] ?_
    refine bI ?_
    obtain rfl := oI h0
    exact aI (Q_r hO)

theorem LN (v0 : aF) (r : Bool) (h0 : rI v0 = some r) : bV Try.prog 88 [(aL v0)] (aM r) := by
  intro H0
  refine cE Try.func88 ?_
  have hO := aN.start H0
  unfold rI at h0
  refine aP ?_
  refine aV aG 2 ?_
  refine kK 3 (aL v0) (by kernel_rfl) (by kernel_rfl) ?_
  refine bC ?_
  refine bF [(1, (.rp (aL v0)))] ?_
  refine aP ?_
  refine aV aG 4 ?_
  refine bN 1 ?_
  obtain ⟨x1, hx2, h0⟩ := aW h0
  refine dA (LS v0 _ hx2) hO ?_
  intro H hO
  refine bC ?_
  refine bF [(2, (aM (!x1)))] ?_
  refine bI ?_
  obtain rfl := oI h0
  exact aI (Q_r hO)

theorem wT (r0 : (List aF)) (r : Bool) (h0 : oC r0 = some r) : bV Try.prog 55 [(eL aL r0)] (aM r) := by
  intro H0
  refine cE Try.func55 ?_
  have hO := aN.start H0
  unfold oC at h0
  refine aS aG 1 [] [] ?_
  refine aP ?_
  refine aS aG 3 [] [(5, (aM (decide ((8 : Int) < (lN r0)))))] ?_
  refine bH h0 (fun h0 => ?_) (fun h0 => ?_)
  · refine bQ aG 1 [(2, (aM false))] ?_
    refine bI ?_
    obtain rfl := oI h0
    exact aI (aX (Q_r hO))
  refine bJ ?_
  refine bF [(0, (eL aL r0))] ?_
  refine aP ?_
  refine aV aG 4 ?_
  refine bN 1 ?_
  obtain ⟨x2, hx3, h0⟩ := aW h0
  refine dA (oK r0 88 [] [] (fun y0 => rI y0) (fun y0 r h => LN y0 r h) _ hx3) hO ?_
  intro H hO
  refine bC ?_
  refine bF [(2, (aM (!x2)))] ?_
  refine bI ?_
  obtain rfl := oI h0
  exact aI (Q_r hO)

theorem DZ (t0 : (List aF)) (r : (Int × (List aF))) (h0 : pM t0 = some r) : vP Try.prog 92 [(.rp (eL aL t0))] (fun lo => (.fn (.func 93) [] [(.lp lo 0 0), (.rp (eL aL r.2))])) 1 [(eI r.1)] := by
  intro H0
  refine cE Try.func92 ?_
  have hO := aN.start H0
  unfold pM at h0
  refine aS aG 1 [] [] ?_
  refine aP ?_
  refine aV aG 2 ?_
  refine pP 1 (eI 0) (by kernel_rfl) (by kernel_rfl) hO ?_
  intro lo1 H hO
  refine nM 0 lo1 1 0 (eI 0) (eI (-1 : Int)) [(eI 0)] [(lo1, 1, [(eI (-1 : Int))])] hO rfl (by kernel_rfl) ?_
  intro H hO
  refine cP ?_
  refine bR [] [(2, (.lp lo1 0 0))] ?_
  refine bQ aG 2 [(1, (.fn (.func 93) [] [(.lp lo1 0 0), (.rp (eL aL t0))]))] ?_
  refine bI ?_
  obtain rfl := oI h0
  exact aI (nP (x := (.fn (.func 93) [] [(.lp lo1 0 0), (.rp (eL aL t0))])) (by kernel_rfl) (aR.refl _) ⟨lo1, rfl, hO⟩)

theorem pK {σ : Type} (I : σ → Gs → Prop) (s0 : (List aF)) (f1_v : V) (f1 : σ → aF → Option (σ × Bool)) (f1_h : ∀ st a0 st2 r, f1 st a0 = some (st2, r) → HY Try.prog f1_v I st [(aL a0)] st2 (aM r)) (sg0 : σ) (r : (σ × Int)) (h0 : eA s0 f1 sg0 = some r) : wP Try.prog 91 I sg0 [(eL aL s0), f1_v] r.1 (eI r.2) := by
  intro H0 G0 hI hg
  refine cE Try.func91 ?_
  obtain ⟨G, hO, hI⟩ : ∃ G, aN ⟨H0, List.map (fun p : Nat × cL => p.1) G0, G⟩ H0 [] ∧ I sg0 G := ⟨G0, aN.IM hg, hI⟩
  clear hg
  unfold eA at h0
  refine aS aG 1 [] [] ?_
  refine cY (fun T H => ∃ sg : σ, ∃ G : Gs, Has T [] ∧ aN ⟨H0, List.map (fun p : Nat × cL => p.1) G0, G⟩ H [] ∧ I sg G ∧ cN f1 sg = some r) ?_ ?_
  · clear hO hI h0
    rintro T H ⟨sg, G, hT, hO, hI, h0⟩
    refine aY hT ?_
    clear hT
    unfold cN at h0
    refine bQ aG 1 [(4, (eI (-1 : Int)))] ?_
    refine bI ?_
    obtain rfl := oI h0
    exact aI (nP (x := (eI (-1 : Int))) (by kernel_rfl) (aR.refl _) ⟨rfl, G, hI, hO.IQ⟩)
  refine aS aG 3 [] [(7, (eI (lN s0))), (8, (eI (0 : Int)))] ?_
  refine bO 0 ?_
  refine dL [(0, (eL aL s0)), (1, f1_v), (7, (eI (lN s0))), (8, (eI (0 : Int)))] ?_
  refine cR (fun T H => ∃ sg : σ, ∃ t7 : Int, ∃ t8 : Int, ∃ G : Gs, Has T [(0, (eL aL s0)), (1, f1_v), (7, (eI t7)), (8, (eI t8))] ∧ aN ⟨H0, List.map (fun p : Nat × cL => p.1) G0, G⟩ H [] ∧ I sg G ∧ dQ f1 sg s0 t7 t8 = some r) ?_ ⟨sg0, (lN s0), (0 : Int), G, .eq (by kernel_rfl), hO, hI, h0⟩
  clear hO hI h0
  rintro T H ⟨sg, t7, t8, G, hT, hO, hI, h0⟩
  refine aY hT ?_
  clear hT
  unfold dQ at h0
  obtain ⟨rr0, hl0, h0⟩ := aW h0
  refine bZ (by kernel_rfl) (fun (s : σ × Int) T H => ∃ G : Gs, Has T [(0, (eL aL s0)), (1, f1_v), (7, (eI t7)), (8, (eI s.2))] ∧ aN ⟨H0, List.map (fun p : Nat × cL => p.1) G0, G⟩ H [] ∧ I s.1 G) hl0 ⟨G, .eq (by kernel_rfl), hO, hI⟩ ?_
  clear hO hI
  rintro k0 s out1 T H ⟨G, hT, hO, hI⟩ h1 ho0
  obtain ⟨sg, t8⟩ := s
  replace h1 : bM f1 s0 t7 sg t8 = some out1 := h1
  dsimp only at hT
  refine aY hT ?_
  clear hT
  unfold bM at h1
  refine aS aG 1 [] [(9, (aM (decide (t8 < t7))))] ?_
  refine aP ?_
  refine bH h1 (fun h1 => ?_) (fun h1 => ?_)
  · refine bJ ?_
    refine bF [(0, (eL aL s0)), (1, f1_v), (7, (eI t7)), (8, (eI t8))] ?_
    refine aP ?_
    refine bO 1 ?_
    refine aS aG 2 [] [(5, (eI t8))] ?_
    refine aP ?_
    refine aV aG 6 ?_
    obtain ⟨c2, h1⟩ := bE h1
    refine uB 5 [0 ≤ t8 ∧ t8 < (lN s0)] ⟨c2, trivial⟩ ?_
    obtain ⟨x3, hx4, h1⟩ := aW h1
    refine MX (I := I) f1_v [(aL (gD s0 t8))] (aM x3.2) (by kernel_rfl) (by kernel_rfl) (f1_h _ (gD s0 t8) x3.1 x3.2 hx4) hO hI ?_
    intro G H hO hI
    refine cP ?_
    refine bR [] [(16, (aM x3.2))] ?_
    refine bH h1 (fun h1 => ?_) (fun h1 => ?_)
    · refine bQ aG 2 [(4, (eI t8))] ?_
      refine bI ?_
      obtain rfl := oI h1
      obtain rfl : _ = rr0 := ho0
      replace h0 : some (x3.1, t8) = some r := h0
      obtain rfl := oI h0
      exact aI (bU (aX (aX (bU (aX (nP (x := (eI t8)) (by kernel_rfl) (aR.refl _) ⟨rfl, G, hI, hO.IQ⟩))))))
    refine bJ ?_
    refine iZ [(0, (eL aL s0)), (1, f1_v), (7, (eI t7)), (8, (eI t8))] ?_
    refine aI (aT (aH (?_)))
    refine aV aG 2 ?_
    refine bC ?_
    exact aI (aH (⟨rfl, _, (oI h1).symm, _, .eq (by kernel_rfl), hO, hI⟩))
  refine eP 0 ?_
  obtain rfl := oI h1
  obtain rfl : _ = rr0 := ho0
  replace h0 : cN f1 sg = some r := h0
  exact aI (aU (aU (bL (aH (⟨rfl, _, _, .eq (by kernel_rfl), hO, hI, h0⟩)))))

theorem BU (v0 : aF) (lo1p : Nat) (t1 : Int) (t2 : (List aF)) (r : (Bool × Int)) (h0 : gX v0 t1 t2 = some r) : jL Try.prog 93 lo1p 1 [(eI t1)] [(eI r.2)] [(aL v0), (.lp lo1p 0 0), (.rp (eL aL t2))] (aM r.1) := by
  intro H0 hl0
  refine cE Try.func93 ?_
  have hO := aN.nF hl0
  clear hl0
  unfold gX at h0
  refine aP ?_
  refine aV aG 2 ?_
  refine kK 3 (aL v0) (by kernel_rfl) (by kernel_rfl) ?_
  refine bC ?_
  refine bR [0] [(3, (.rp (aL v0)))] ?_
  refine aP ?_
  refine aV aG 3 ?_
  refine wH 0 lo1p 1 0 (eI t1) (eI t1) [(eI t1)] hO rfl ?_
  refine bN 2 ?_
  refine nM 0 lo1p 1 0 (eI t1) (eI (wR (t1 + (1 : Int)))) [(eI t1)] [(lo1p, 1, [(eI (wR (t1 + (1 : Int))))])] hO rfl (by kernel_rfl) ?_
  intro H hO
  refine cP ?_
  refine bR [] [] ?_
  refine aP ?_
  refine jP (jQ [7, 8, 11]) aG 7 ?_
  refine tI 2 ?_
  refine jW 0 lo1p 1 0 (eI (wR (t1 + (1 : Int)))) (eI (wR (t1 + (1 : Int)))) [(eI (wR (t1 + (1 : Int))))] hO rfl ?_
  obtain ⟨c1, h0⟩ := bE h0
  refine HZ (Ds := [0 ≤ (wR (t1 + (1 : Int))) ∧ (wR (t1 + (1 : Int))) < (lN t2)]) (by kernel_rfl) ⟨c1, trivial⟩ ?_
  refine bF [(1, (.lp lo1p 0 0)), (4, (aM (!((decide (v0.Kind = ((gD t2 (wR (t1 + (1 : Int)))).Kind))) && ((decide (v0.Num = ((gD t2 (wR (t1 + (1 : Int)))).Num))) && ((mD v0.Text ((gD t2 (wR (t1 + (1 : Int)))).Text)) && true))))))] ?_
  refine bI ?_
  obtain rfl := oI h0
  exact aI (nP (x := (aM (!((decide (v0.Kind = ((gD t2 (wR (t1 + (1 : Int)))).Kind))) && ((decide (v0.Num = ((gD t2 (wR (t1 + (1 : Int)))).Num))) && ((mD v0.Text ((gD t2 (wR (t1 + (1 : Int)))).Text)) && true)))))) (by kernel_rfl) (aR.refl _) ⟨rfl, hO.ext, hO.at 0 (by kernel_rfl), rfl⟩)

theorem wV (x0 : Int) (r : Bool) (h0 : lX x0 = some r) : bV Try.prog 95 [(eI x0)] (aM r) := by
  intro H0
  refine cE Try.func95 ?_
  have hO := aN.start H0
  unfold lX at h0
  refine aS aG 1 [] [] ?_
  refine bQ aG 4 [(2, (aM (!decide (x0 = x0))))] ?_
  refine bI ?_
  obtain rfl := oI h0
  exact aI (Q_r hO)

theorem qZ (x0 : Int) (y1 : Int) (r : Int) (h0 : gW x0 y1 = some r) : bV Try.prog 62 [(eI x0), (eI y1)] (eI r) := by
  intro H0
  refine cE Try.func62 ?_
  have hO := aN.start H0
  unfold gW at h0
  refine aS aG 1 [] [] ?_
  refine aP ?_
  refine aV aG 3 ?_
  refine bN 1 ?_
  obtain ⟨x1, hx2, h0⟩ := aW h0
  refine dA (wV x0 _ hx2) hO ?_
  intro H hO
  refine bC ?_
  refine bR [] [(5, (aM x1))] ?_
  refine aP ?_
  refine aV aG 3 ?_
  refine bN 1 ?_
  obtain ⟨x4, hx5, h0⟩ := aW h0
  refine dA (wV y1 _ hx5) hO ?_
  intro H hO
  refine bC ?_
  refine bR [] [(6, (aM x4))] ?_
  refine aP ?_
  refine aS aG 1 [5] [(11, (aM x1))] ?_
  refine bH h0 (fun h0 => ?_) (fun h0 => ?_)
  · refine aP ?_
    refine bQ aG 1 [(12, (aM x4))] ?_
    refine bH h0 (fun h0 => ?_) (fun h0 => ?_)
    · refine bQ aG 1 [(4, (eI (0 : Int)))] ?_
      refine bI ?_
      obtain rfl := oI h0
      exact aI (aX (aX (Q_r hO)))
    refine bJ ?_
    refine bF [] ?_
    refine bQ aG 1 [(4, (eI (-1 : Int)))] ?_
    refine bI ?_
    obtain rfl := oI h0
    exact aI (aX (Q_r hO))
  refine bJ ?_
  refine bF [(0, (eI x0)), (1, (eI y1)), (6, (aM x4))] ?_
  refine aP ?_
  refine aS aG 1 [6] [(13, (aM x4))] ?_
  refine bH h0 (fun h0 => ?_) (fun h0 => ?_)
  · refine bQ aG 1 [(4, (eI (1 : Int)))] ?_
    refine bI ?_
    obtain rfl := oI h0
    exact aI (aX (Q_r hO))
  refine bJ ?_
  refine bF [(0, (eI x0)), (1, (eI y1))] ?_
  refine aP ?_
  refine aS aG 3 [] [(16, (aM (decide (x0 < y1))))] ?_
  refine bH h0 (fun h0 => ?_) (fun h0 => ?_)
  · refine bQ aG 1 [(4, (eI (-1 : Int)))] ?_
    refine bI ?_
    obtain rfl := oI h0
    exact aI (aX (Q_r hO))
  refine bJ ?_
  refine bF [(0, (eI x0)), (1, (eI y1))] ?_
  refine aP ?_
  refine bQ aG 3 [(19, (aM (decide (y1 < x0))))] ?_
  refine bH h0 (fun h0 => ?_) (fun h0 => ?_)
  · refine bQ aG 1 [(4, (eI (1 : Int)))] ?_
    refine bI ?_
    obtain rfl := oI h0
    exact aI (aX (Q_r hO))
  refine bJ ?_
  refine bF [] ?_
  refine bQ aG 1 [(4, (eI (0 : Int)))] ?_
  refine bI ?_
  obtain rfl := oI h0
  exact aI (Q_r hO)

theorem qM (x0 : Int) (r : Bool) (h0 : iA x0 = some r) : bV Try.prog 119 [(eI x0)] (aM r) := by
  intro H0
  refine cE Try.func119 ?_
  have hO := aN.start H0
  unfold iA at h0
  refine aS aG 1 [] [] ?_
  refine bQ aG 4 [(2, (aM (!decide (x0 = x0))))] ?_
  refine bI ?_
  obtain rfl := oI h0
  exact aI (Q_r hO)

theorem vA (x0 : Int) (y1 : Int) (r : Int) (h0 : dI x0 y1 = some r) : bV Try.prog 114 [(eI x0), (eI y1)] (eI r) := by
  intro H0
  refine cE Try.func114 ?_
  have hO := aN.start H0
  unfold dI at h0
  refine aS aG 1 [] [] ?_
  refine aP ?_
  refine aV aG 3 ?_
  refine bN 1 ?_
  obtain ⟨x1, hx2, h0⟩ := aW h0
  refine dA (qM x0 _ hx2) hO ?_
  intro H hO
  refine bC ?_
  refine bR [] [(5, (aM x1))] ?_
  refine aP ?_
  refine aV aG 3 ?_
  refine bN 1 ?_
  obtain ⟨x4, hx5, h0⟩ := aW h0
  refine dA (qM y1 _ hx5) hO ?_
  intro H hO
  refine bC ?_
  refine bR [] [(6, (aM x4))] ?_
  refine aP ?_
  refine aS aG 1 [5] [(11, (aM x1))] ?_
  refine bH h0 (fun h0 => ?_) (fun h0 => ?_)
  · refine aP ?_
    refine bQ aG 1 [(12, (aM x4))] ?_
    refine bH h0 (fun h0 => ?_) (fun h0 => ?_)
    · refine bQ aG 1 [(4, (eI (0 : Int)))] ?_
      refine bI ?_
      obtain rfl := oI h0
      exact aI (aX (aX (Q_r hO)))
    refine bJ ?_
    refine bF [] ?_
    refine bQ aG 1 [(4, (eI (-1 : Int)))] ?_
    refine bI ?_
    obtain rfl := oI h0
    exact aI (aX (Q_r hO))
  refine bJ ?_
  refine bF [(0, (eI x0)), (1, (eI y1)), (6, (aM x4))] ?_
  refine aP ?_
  refine aS aG 1 [6] [(13, (aM x4))] ?_
  refine bH h0 (fun h0 => ?_) (fun h0 => ?_)
  · refine bQ aG 1 [(4, (eI (1 : Int)))] ?_
    refine bI ?_
    obtain rfl := oI h0
    exact aI (aX (Q_r hO))
  refine bJ ?_
  refine bF [(0, (eI x0)), (1, (eI y1))] ?_
  refine aP ?_
  refine aS aG 3 [] [(16, (aM (decide (x0 < y1))))] ?_
  refine bH h0 (fun h0 => ?_) (fun h0 => ?_)
  · refine bQ aG 1 [(4, (eI (-1 : Int)))] ?_
    refine bI ?_
    obtain rfl := oI h0
    exact aI (aX (Q_r hO))
  refine bJ ?_
  refine bF [(0, (eI x0)), (1, (eI y1))] ?_
  refine aP ?_
  refine bQ aG 3 [(19, (aM (decide (y1 < x0))))] ?_
  refine bH h0 (fun h0 => ?_) (fun h0 => ?_)
  · refine bQ aG 1 [(4, (eI (1 : Int)))] ?_
    refine bI ?_
    obtain rfl := oI h0
    exact aI (aX (Q_r hO))
  refine bJ ?_
  refine bF [] ?_
  refine bQ aG 1 [(4, (eI (0 : Int)))] ?_
  refine bI ?_
  obtain rfl := oI h0
  exact aI (Q_r hO)

theorem sE (a0 : ByteArray) (b1 : ByteArray) (r : Int) (h0 : gG a0 b1 = some r) : bV Try.prog 120 [(uA a0), (uA b1)] (eI r) := by
  intro H0
  refine cE Try.func120 ?_
  have hO := aN.start H0
  unfold gG at h0
  refine aS aG 1 [] [] ?_
  refine aP ?_
  refine aV aG 4 ?_
  refine bN 2 ?_
  refine TX 124 [(uA a0), (uA b1)] (eI (FB a0 b1)) (by kernel_rfl) (by kernel_rfl) (SX Try.func124 (by kernel_rfl) (by kernel_rfl) (by kernel_rfl) (by kernel_rfl) a0 b1) hO ?_
  intro H hO
  refine bC ?_
  refine bF [(4, (eI (FB a0 b1)))] ?_
  refine bI ?_
  obtain rfl := oI h0
  exact aI (Q_r hO)

theorem BT (a0 : ByteArray) (b1 : ByteArray) (r : Int) (h0 : kR a0 b1 = some r) : bV Try.prog 115 [(uA a0), (uA b1)] (eI r) := by
  intro H0
  refine cE Try.func115 ?_
  have hO := aN.start H0
  unfold kR at h0
  refine aS aG 1 [] [] ?_
  refine aP ?_
  refine aV aG 4 ?_
  refine bN 2 ?_
  obtain ⟨x1, hx2, h0⟩ := aW h0
  refine dA (sE a0 b1 _ hx2) hO ?_
  intro H hO
  refine bC ?_
  refine bF [(4, (eI x1))] ?_
  refine bI ?_
  obtain rfl := oI h0
  exact aI (Q_r hO)

theorem DO (a0 : aF) (b1 : aF) (r : Int) (h0 : nH a0 b1 = some r) : bV Try.prog 94 [(aL a0), (aL b1)] (eI r) := by
  intro H0
  refine cE Try.func94 ?_
  have hO := aN.start H0
  unfold nH at h0
  refine aP ?_
  refine aV aG 3 ?_
  refine kK 3 (aL a0) (by kernel_rfl) (by kernel_rfl) ?_
  refine kK 3 (aL b1) (by kernel_rfl) (by kernel_rfl) ?_
  refine bC ?_
  refine bF [(2, (.rp (aL a0))), (3, (.rp (aL b1)))] ?_
  refine aP ?_
  refine aV aG 7 ?_
  refine bN 1 ?_
  obtain ⟨⟨x1_0, x1_1⟩, hx2, h0⟩ := aW h0
  refine dA (sX a0 _ hx2) hO ?_
  intro H hO
  rcases x1_0 with _ | y4 | y5
  · replace h0 : ((jS b1).bind fun (x6_0, x6_1) => match x6_0 with | .none_ => (cond ((!x1_1) || (!x6_1)) (some (0 : Int)) (none)) | .k_number y9 => (cond ((!x1_1) || (!x6_1)) (some (0 : Int)) (some (1 : Int))) | .k_words y10 => (cond ((!x1_1) || (!x6_1)) (some (0 : Int)) (none))) = some r := h0
    refine bC ?_
    refine bR [2] [(5, (aZ bA.none_)), (6, (aM x1_1))] ?_
    refine aP ?_
    refine aV aG 7 ?_
    refine bN 1 ?_
    obtain ⟨⟨x6_0, x6_1⟩, hx7, h0⟩ := aW h0
    refine dA (sX b1 _ hx7) hO ?_
    intro H hO
    rcases x6_0 with _ | y9 | y10
    · replace h0 : (cond ((!x1_1) || (!x6_1)) (some (0 : Int)) (none)) = some r := h0
      refine bC ?_
      refine bR [3] [(7, (aZ bA.none_)), (8, (aM x6_1))] ?_
      refine aP ?_
      refine aS aG 6 [6, 8] [(28, (aM ((!x1_1) || (!x6_1))))] ?_
      refine bH h0 (fun h0 => ?_) (fun h0 => ?_)
      · refine bQ aG 1 [(4, (eI (0 : Int)))] ?_
        refine bI ?_
        obtain rfl := oI h0
        exact aI (aX (Q_r hO))
      refine bJ ?_
      refine bF [(5, (aZ bA.none_)), (7, (aZ bA.none_))] ?_
      refine aS aG 7 [] [(9, (eI 0)), (10, (aM false))] ?_
      refine aS aG 7 [] [(11, (eI 0)), (12, (aM false))] ?_
      refine aP ?_
      refine bO 0 ?_
      refine aS aG 5 [] [(39, (aM false))] ?_
      refine mA (false) (fun hc12 => ?_) (fun hc12 => ?_)
      · cases hc12
      · refine aS aG 2 [9, 10, 11, 39] [(47, (aM false))] ?_
        refine mA (false) (fun hc13 => ?_) (fun hc13 => ?_)
        · cases hc13
        · refine bQ aG 2 [(5, (aZ bA.none_)), (7, (aZ bA.none_)), (49, (aM false))] ?_
          refine mA (false) (fun hc14 => ?_) (fun hc14 => ?_)
          · cases hc14
          · refine bJ ?_
            refine iZ [(5, (aZ bA.none_)), (7, (aZ bA.none_))] ?_
            refine aI (aT (aH (?_)))
            refine aP ?_
            refine jP (jQ []) aG 6 ?_
            cases h0
    · replace h0 : (cond ((!x1_1) || (!x6_1)) (some (0 : Int)) (some (1 : Int))) = some r := h0
      refine bC ?_
      refine bR [3] [(7, (aZ (bA.k_number y9))), (8, (aM x6_1))] ?_
      refine aP ?_
      refine aS aG 6 [6, 8] [(28, (aM ((!x1_1) || (!x6_1))))] ?_
      refine bH h0 (fun h0 => ?_) (fun h0 => ?_)
      · refine bQ aG 1 [(4, (eI (0 : Int)))] ?_
        refine bI ?_
        obtain rfl := oI h0
        exact aI (aX (Q_r hO))
      refine bJ ?_
      refine bF [(5, (aZ bA.none_)), (7, (aZ (bA.k_number y9)))] ?_
      refine aS aG 7 [] [(9, (eI 0)), (10, (aM false))] ?_
      refine aS aG 7 [] [(11, (eI y9)), (12, (aM true))] ?_
      refine aP ?_
      refine bO 0 ?_
      refine aS aG 5 [] [(39, (aM false))] ?_
      refine mA (false) (fun hc16 => ?_) (fun hc16 => ?_)
      · cases hc16
      · refine aS aG 2 [9, 10, 11, 39] [(47, (aM false))] ?_
        refine mA (false) (fun hc17 => ?_) (fun hc17 => ?_)
        · cases hc17
        · refine bQ aG 2 [(5, (aZ bA.none_)), (7, (aZ (bA.k_number y9))), (49, (aM true))] ?_
          refine mA (true) (fun hc18 => ?_) (fun hc18 => ?_)
          · refine bQ aG 1 [(4, (eI (1 : Int)))] ?_
            refine bI ?_
            obtain rfl := oI h0
            exact aI (bU (aX (Q_r hO)))
          · cases hc18
    · replace h0 : (cond ((!x1_1) || (!x6_1)) (some (0 : Int)) (none)) = some r := h0
      refine bC ?_
      refine bR [3] [(7, (aZ (bA.k_words y10))), (8, (aM x6_1))] ?_
      refine aP ?_
      refine aS aG 6 [6, 8] [(28, (aM ((!x1_1) || (!x6_1))))] ?_
      refine bH h0 (fun h0 => ?_) (fun h0 => ?_)
      · refine bQ aG 1 [(4, (eI (0 : Int)))] ?_
        refine bI ?_
        obtain rfl := oI h0
        exact aI (aX (Q_r hO))
      refine bJ ?_
      refine bF [(5, (aZ bA.none_)), (7, (aZ (bA.k_words y10)))] ?_
      refine aS aG 7 [] [(9, (eI 0)), (10, (aM false))] ?_
      refine aS aG 7 [] [(11, (eI 0)), (12, (aM false))] ?_
      refine aP ?_
      refine bO 0 ?_
      refine aS aG 5 [] [(39, (aM false))] ?_
      refine mA (false) (fun hc20 => ?_) (fun hc20 => ?_)
      · cases hc20
      · refine aS aG 2 [9, 10, 11, 39] [(47, (aM false))] ?_
        refine mA (false) (fun hc21 => ?_) (fun hc21 => ?_)
        · cases hc21
        · refine bQ aG 2 [(5, (aZ bA.none_)), (7, (aZ (bA.k_words y10))), (49, (aM false))] ?_
          refine mA (false) (fun hc22 => ?_) (fun hc22 => ?_)
          · cases hc22
          · refine bJ ?_
            refine iZ [(5, (aZ bA.none_)), (7, (aZ (bA.k_words y10)))] ?_
            refine aI (aT (aH (?_)))
            refine aP ?_
            refine jP (jQ []) aG 6 ?_
            cases h0
  · replace h0 : ((jS b1).bind fun (x23_0, x23_1) => match x23_0 with | .none_ => (cond ((!x1_1) || (!x23_1)) (some (0 : Int)) (some (-1 : Int))) | .k_number y26 => (cond ((!x1_1) || (!x23_1)) (some (0 : Int)) ((dI y4 y26).bind fun x33 => some x33)) | .k_words y27 => (cond ((!x1_1) || (!x23_1)) (some (0 : Int)) (some (-1 : Int)))) = some r := h0
    refine bC ?_
    refine bR [2] [(5, (aZ (bA.k_number y4))), (6, (aM x1_1))] ?_
    refine aP ?_
    refine aV aG 7 ?_
    refine bN 1 ?_
    obtain ⟨⟨x23_0, x23_1⟩, hx24, h0⟩ := aW h0
    refine dA (sX b1 _ hx24) hO ?_
    intro H hO
    rcases x23_0 with _ | y26 | y27
    · replace h0 : (cond ((!x1_1) || (!x23_1)) (some (0 : Int)) (some (-1 : Int))) = some r := h0
      refine bC ?_
      refine bR [3] [(7, (aZ bA.none_)), (8, (aM x23_1))] ?_
      refine aP ?_
      refine aS aG 6 [6, 8] [(28, (aM ((!x1_1) || (!x23_1))))] ?_
      refine bH h0 (fun h0 => ?_) (fun h0 => ?_)
      · refine bQ aG 1 [(4, (eI (0 : Int)))] ?_
        refine bI ?_
        obtain rfl := oI h0
        exact aI (aX (Q_r hO))
      refine bJ ?_
      refine bF [(5, (aZ (bA.k_number y4))), (7, (aZ bA.none_))] ?_
      refine aS aG 7 [] [(9, (eI y4)), (10, (aM true))] ?_
      refine aS aG 7 [] [(11, (eI 0)), (12, (aM false))] ?_
      refine aP ?_
      refine bO 0 ?_
      refine aS aG 5 [] [(39, (aM false))] ?_
      refine mA (false) (fun hc29 => ?_) (fun hc29 => ?_)
      · cases hc29
      · refine aS aG 2 [9, 10, 11, 39] [(47, (aM true))] ?_
        refine mA (true) (fun hc30 => ?_) (fun hc30 => ?_)
        · refine bQ aG 1 [(4, (eI (-1 : Int)))] ?_
          refine bI ?_
          obtain rfl := oI h0
          exact aI (bU (aX (Q_r hO)))
        · cases hc30
    · replace h0 : (cond ((!x1_1) || (!x23_1)) (some (0 : Int)) ((dI y4 y26).bind fun x33 => some x33)) = some r := h0
      refine bC ?_
      refine bR [3] [(7, (aZ (bA.k_number y26))), (8, (aM x23_1))] ?_
      refine aP ?_
      refine aS aG 6 [6, 8] [(28, (aM ((!x1_1) || (!x23_1))))] ?_
      refine bH h0 (fun h0 => ?_) (fun h0 => ?_)
      · refine bQ aG 1 [(4, (eI (0 : Int)))] ?_
        refine bI ?_
        obtain rfl := oI h0
        exact aI (aX (Q_r hO))
      refine bJ ?_
      refine bF [(5, (aZ (bA.k_number y4))), (7, (aZ (bA.k_number y26)))] ?_
      refine aS aG 7 [] [(9, (eI y4)), (10, (aM true))] ?_
      refine aS aG 7 [] [(11, (eI y26)), (12, (aM true))] ?_
      refine aP ?_
      refine bO 0 ?_
      refine aS aG 5 [] [(39, (aM true))] ?_
      refine mA (true) (fun hc32 => ?_) (fun hc32 => ?_)
      · refine aP ?_
        refine aV aG 4 ?_
        refine bN 2 ?_
        obtain ⟨x33, hx34, h0⟩ := aW h0
        refine dA (vA y4 y26 _ hx34) hO ?_
        intro H hO
        refine bC ?_
        refine bF [(4, (eI x33))] ?_
        refine bI ?_
        obtain rfl := oI h0
        exact aI (bU (aX (Q_r hO)))
      · cases hc32
    · replace h0 : (cond ((!x1_1) || (!x23_1)) (some (0 : Int)) (some (-1 : Int))) = some r := h0
      refine bC ?_
      refine bR [3] [(7, (aZ (bA.k_words y27))), (8, (aM x23_1))] ?_
      refine aP ?_
      refine aS aG 6 [6, 8] [(28, (aM ((!x1_1) || (!x23_1))))] ?_
      refine bH h0 (fun h0 => ?_) (fun h0 => ?_)
      · refine bQ aG 1 [(4, (eI (0 : Int)))] ?_
        refine bI ?_
        obtain rfl := oI h0
        exact aI (aX (Q_r hO))
      refine bJ ?_
      refine bF [(5, (aZ (bA.k_number y4))), (7, (aZ (bA.k_words y27)))] ?_
      refine aS aG 7 [] [(9, (eI y4)), (10, (aM true))] ?_
      refine aS aG 7 [] [(11, (eI 0)), (12, (aM false))] ?_
      refine aP ?_
      refine bO 0 ?_
      refine aS aG 5 [] [(39, (aM false))] ?_
      refine mA (false) (fun hc37 => ?_) (fun hc37 => ?_)
      · cases hc37
      · refine aS aG 2 [9, 10, 11, 39] [(47, (aM true))] ?_
        refine mA (true) (fun hc38 => ?_) (fun hc38 => ?_)
        · refine bQ aG 1 [(4, (eI (-1 : Int)))] ?_
          refine bI ?_
          obtain rfl := oI h0
          exact aI (bU (aX (Q_r hO)))
        · cases hc38
  · replace h0 : ((jS b1).bind fun (x39_0, x39_1) => match x39_0 with | .none_ => (cond ((!x1_1) || (!x39_1)) (some (0 : Int)) (none)) | .k_number y42 => (cond ((!x1_1) || (!x39_1)) (some (0 : Int)) (some (1 : Int))) | .k_words y43 => (cond ((!x1_1) || (!x39_1)) (some (0 : Int)) ((kR y5 y43).bind fun x56 => some x56))) = some r := h0
    refine bC ?_
    refine bR [2] [(5, (aZ (bA.k_words y5))), (6, (aM x1_1))] ?_
    refine aP ?_
    refine aV aG 7 ?_
    refine bN 1 ?_
    obtain ⟨⟨x39_0, x39_1⟩, hx40, h0⟩ := aW h0
    refine dA (sX b1 _ hx40) hO ?_
    intro H hO
    rcases x39_0 with _ | y42 | y43
    · replace h0 : (cond ((!x1_1) || (!x39_1)) (some (0 : Int)) (none)) = some r := h0
      refine bC ?_
      refine bR [3] [(7, (aZ bA.none_)), (8, (aM x39_1))] ?_
      refine aP ?_
      refine aS aG 6 [6, 8] [(28, (aM ((!x1_1) || (!x39_1))))] ?_
      refine bH h0 (fun h0 => ?_) (fun h0 => ?_)
      · refine bQ aG 1 [(4, (eI (0 : Int)))] ?_
        refine bI ?_
        obtain rfl := oI h0
        exact aI (aX (Q_r hO))
      refine bJ ?_
      refine bF [(5, (aZ (bA.k_words y5))), (7, (aZ bA.none_))] ?_
      refine aS aG 7 [] [(9, (eI 0)), (10, (aM false))] ?_
      refine aS aG 7 [] [(11, (eI 0)), (12, (aM false))] ?_
      refine aP ?_
      refine bO 0 ?_
      refine aS aG 5 [] [(39, (aM false))] ?_
      refine mA (false) (fun hc45 => ?_) (fun hc45 => ?_)
      · cases hc45
      · refine aS aG 2 [9, 10, 11, 39] [(47, (aM false))] ?_
        refine mA (false) (fun hc46 => ?_) (fun hc46 => ?_)
        · cases hc46
        · refine bQ aG 2 [(5, (aZ (bA.k_words y5))), (7, (aZ bA.none_)), (49, (aM false))] ?_
          refine mA (false) (fun hc47 => ?_) (fun hc47 => ?_)
          · cases hc47
          · refine bJ ?_
            refine iZ [(5, (aZ (bA.k_words y5))), (7, (aZ bA.none_))] ?_
            refine aI (aT (aH (?_)))
            refine aP ?_
            refine jP (jQ []) aG 6 ?_
            cases h0
    · replace h0 : (cond ((!x1_1) || (!x39_1)) (some (0 : Int)) (some (1 : Int))) = some r := h0
      refine bC ?_
      refine bR [3] [(7, (aZ (bA.k_number y42))), (8, (aM x39_1))] ?_
      refine aP ?_
      refine aS aG 6 [6, 8] [(28, (aM ((!x1_1) || (!x39_1))))] ?_
      refine bH h0 (fun h0 => ?_) (fun h0 => ?_)
      · refine bQ aG 1 [(4, (eI (0 : Int)))] ?_
        refine bI ?_
        obtain rfl := oI h0
        exact aI (aX (Q_r hO))
      refine bJ ?_
      refine bF [(5, (aZ (bA.k_words y5))), (7, (aZ (bA.k_number y42)))] ?_
      refine aS aG 7 [] [(9, (eI 0)), (10, (aM false))] ?_
      refine aS aG 7 [] [(11, (eI y42)), (12, (aM true))] ?_
      refine aP ?_
      refine bO 0 ?_
      refine aS aG 5 [] [(39, (aM false))] ?_
      refine mA (false) (fun hc49 => ?_) (fun hc49 => ?_)
      · cases hc49
      · refine aS aG 2 [9, 10, 11, 39] [(47, (aM false))] ?_
        refine mA (false) (fun hc50 => ?_) (fun hc50 => ?_)
        · cases hc50
        · refine bQ aG 2 [(5, (aZ (bA.k_words y5))), (7, (aZ (bA.k_number y42))), (49, (aM true))] ?_
          refine mA (true) (fun hc51 => ?_) (fun hc51 => ?_)
          · refine bQ aG 1 [(4, (eI (1 : Int)))] ?_
            refine bI ?_
            obtain rfl := oI h0
            exact aI (bU (aX (Q_r hO)))
          · cases hc51
    · replace h0 : (cond ((!x1_1) || (!x39_1)) (some (0 : Int)) ((kR y5 y43).bind fun x56 => some x56)) = some r := h0
      refine bC ?_
      refine bR [3] [(7, (aZ (bA.k_words y43))), (8, (aM x39_1))] ?_
      refine aP ?_
      refine aS aG 6 [6, 8] [(28, (aM ((!x1_1) || (!x39_1))))] ?_
      refine bH h0 (fun h0 => ?_) (fun h0 => ?_)
      · refine bQ aG 1 [(4, (eI (0 : Int)))] ?_
        refine bI ?_
        obtain rfl := oI h0
        exact aI (aX (Q_r hO))
      refine bJ ?_
      refine bF [(5, (aZ (bA.k_words y5))), (7, (aZ (bA.k_words y43)))] ?_
      refine aS aG 7 [] [(9, (eI 0)), (10, (aM false))] ?_
      refine aS aG 7 [] [(11, (eI 0)), (12, (aM false))] ?_
      refine aP ?_
      refine bO 0 ?_
      refine aS aG 5 [] [(39, (aM false))] ?_
      refine mA (false) (fun hc53 => ?_) (fun hc53 => ?_)
      · cases hc53
      · refine aS aG 2 [9, 10, 11, 39] [(47, (aM false))] ?_
        refine mA (false) (fun hc54 => ?_) (fun hc54 => ?_)
        · cases hc54
        · refine bQ aG 2 [(5, (aZ (bA.k_words y5))), (7, (aZ (bA.k_words y43))), (49, (aM false))] ?_
          refine mA (false) (fun hc55 => ?_) (fun hc55 => ?_)
          · cases hc55
          · refine bJ ?_
            refine iZ [(5, (aZ (bA.k_words y5))), (7, (aZ (bA.k_words y43)))] ?_
            refine aI (aT (aH (?_)))
            refine aP ?_
            refine jP (jQ []) aG 6 ?_
            refine tI 4 ?_
            obtain ⟨x56, hx57, h0⟩ := aW h0
            refine vD (BT y5 y43 _ hx57) hO ?_
            intro H hO
            refine nS ?_
            refine bF [(4, (eI x56))] ?_
            refine bI ?_
            obtain rfl := oI h0
            exact aI (Q_r hO)

theorem zN (a0 : (List aF)) (b1 : (List aF)) (r : Int) (h0 : nC a0 b1 = some r) : bV Try.prog 61 [(eL aL a0), (eL aL b1)] (eI r) := by
  intro H0
  refine cE Try.func61 ?_
  have hO := aN.start H0
  unfold nC at h0
  refine aP ?_
  refine aV aG 2 ?_
  refine kK 1 (eL aL b1) (by kernel_rfl) (by kernel_rfl) ?_
  refine bC ?_
  refine bR [1] [(3, (.rp (eL aL b1)))] ?_
  refine aP ?_
  refine aP ?_
  refine aV aG 8 ?_
  refine bN 1 ?_
  obtain ⟨x1, hx2, h0⟩ := aW h0
  refine dA (wT a0 _ hx2) hO ?_
  intro H hO
  refine bN 5 ?_
  obtain ⟨x4, hx5, h0⟩ := aW h0
  refine sG [(10, false)] 55 [(eL aL b1)] (aM x4) (!(!x1)) (by kernel_rfl) (by kernel_rfl) (by kernel_rfl) (fun hb6 => (wT b1 _ (uP hx5 hb6))) hO ?_
  intro H hO
  refine bC ?_
  refine bR [] [(14, (aM ((!x1) || (!x4))))] ?_
  refine bH h0 (fun h0 => ?_) (fun h0 => ?_)
  · refine bQ aG 1 [(4, (eI (0 : Int)))] ?_
    refine bI ?_
    obtain rfl := oI h0
    exact aI (aX (Q_r hO))
  refine bJ ?_
  refine bF [(0, (eL aL a0)), (3, (.rp (eL aL b1)))] ?_
  refine aS aG 6 [] [(5, (eI (if (lN b1) < (lN a0) then (lN b1) else (lN a0))))] ?_
  refine aP ?_
  refine jP (jQ []) aG 7 ?_
  obtain ⟨c8, h0⟩ := bE h0
  refine cX 4 [0 ≤ (if (lN b1) < (lN a0) then (lN b1) else (lN a0)) ∧ (if (lN b1) < (lN a0) then (lN b1) else (lN a0)) ≤ (lN a0)] ⟨c8, trivial⟩ ?_
  obtain ⟨x9, hx10, h0⟩ := aW h0
  refine TV (L' := fun lo11 => [(lo11, 1, [(eI x9.1)])]) 1 [(eI x9.1)] 92 [(.rp (eL aL b1))] (fun lo11 => (.fn (.func 93) [] [(.lp lo11 0 0), (.rp (eL aL x9.2))])) (by kernel_rfl) (by kernel_rfl) (DZ b1 _ hx10) hO (fun _ => by kernel_rfl) ?_
  intro lo11 H hO
  obtain ⟨x12, hx13, h0⟩ := aW h0
  refine UE (fun st G' => G' = up [(lo11, 1, [(eI st)])] ++ []) [(lo11, 1, [(eI x12.1)])] x9.1 x12.1 91 [(.sl false (Int.toNat (if (lN b1) < (lN a0) then (lN b1) else (lN a0))) (fun i => aL (List.getD a0 i default))), (.fn (.func 93) [] [(.lp lo11 0 0), (.rp (eL aL x9.2))])] (eI x12.2) (by kernel_rfl) (by kernel_rfl) (wP.sub (as0' := [(eL aL (List.take (Int.toNat (if (lN b1) < (lN a0) then (lN b1) else (lN a0))) a0)), (.fn (.func 93) [] [(.lp lo11 0 0), (.rp (eL aL x9.2))])]) (pK _ (List.take (Int.toNat (if (lN b1) < (lN a0) then (lN b1) else (lN a0))) a0) (.fn (.func 93) [] [(.lp lo11 0 0), (.rp (eL aL x9.2))]) (fun st y0 => (gX y0 st x9.2).bind fun o => some (o.2, o.1)) (fun st y0 st2 rr hr => (BU y0 lo11 st x9.2 _ (WO hr)).toV (ys := []) (zs := [(aL y0)]) (cs := [(.lp lo11 0 0), (.rp (eL aL x9.2))]) (fun Gx hG => ⟨up [], up [] ++ [], hG, rfl⟩)) _ _ hx13) ⟨UH (Int.toNat_le.2 (And.right c8)), aR.refl _, trivial⟩) hO rfl (fun _ h => h) ?_
  intro H hO
  refine nS ?_
  replace hO := hO.pick (L' := []) [] (by decide) (by kernel_rfl)
  refine bR [5] [(6, (eI x12.2))] ?_
  refine aP ?_
  refine aS aG 2 [] [(27, (aM (decide (x12.2 < (0 : Int)))))] ?_
  refine bH h0 (fun h0 => ?_) (fun h0 => ?_)
  · refine aP ?_
    refine aV aG 6 ?_
    refine bN 4 ?_
    obtain ⟨x15, hx16, h0⟩ := aW h0
    refine dA (qZ (lN a0) (lN b1) _ hx16) hO ?_
    intro H hO
    refine bC ?_
    refine bF [(4, (eI x15))] ?_
    refine bI ?_
    obtain rfl := oI h0
    exact aI (aX (Q_r hO))
  refine bJ ?_
  refine bF [(0, (eL aL a0)), (3, (.rp (eL aL b1))), (6, (eI x12.2))] ?_
  refine aP ?_
  refine jP (jQ [36, 37, 40]) aG 10 ?_
  obtain ⟨c18, h0⟩ := bE h0
  obtain ⟨c19, h0⟩ := bE h0
  refine cX 8 [0 ≤ x12.2 ∧ x12.2 < (lN a0), 0 ≤ x12.2 ∧ x12.2 < (lN b1)] ⟨c18, c19, trivial⟩ ?_
  obtain ⟨x20, hx21, h0⟩ := aW h0
  refine vD (DO (gD a0 x12.2) (gD b1 x12.2) _ hx21) hO ?_
  intro H hO
  refine nS ?_
  refine bF [(4, (eI x20))] ?_
  refine bI ?_
  obtain rfl := oI h0
  exact aI (Q_r hO)

theorem BW (l0 : (List aC)) (holds1_f : Nat) (holds1_a holds1_c : List V) (pQ : (List aB) → Option Bool) (holds1_h : ∀ a0 r, pQ a0 = some r → bV Try.prog holds1_f (holds1_a ++ [(eL aE a0)] ++ holds1_c) (aM r)) (r : Bool) (h0 : pE l0 pQ = some r) : bV Try.prog 49 [(eL aD l0), (.fn (.func holds1_f) holds1_a holds1_c)] (aM r) := by
  intro H0
  refine MN aG Try.func49 (by kernel_rfl) (by kernel_rfl) (by kernel_rfl) ?_
  have hO := aN.start H0
  unfold pE at h0
  refine aP ?_
  refine aV aG 2 ?_
  refine kK 1 (.fn (.func holds1_f) holds1_a holds1_c) (by kernel_rfl) (by kernel_rfl) ?_
  refine pP 1 (aM false) (by kernel_rfl) (by kernel_rfl) hO ?_
  intro lo1 H hO
  refine cP ?_
  refine bR [1] [(3, (.rp (.fn (.func holds1_f) holds1_a holds1_c))), (4, (.lp lo1 0 0))] ?_
  refine aP ?_
  refine aS aG 3 [] [(11, (aM (decide ((4096 : Int) < (lN l0)))))] ?_
  refine bH h0 (fun h0 => ?_) (fun h0 => ?_)
  · refine aP ?_
    refine aV aG 1 ?_
    refine nM 0 lo1 1 0 (aM false) (aM false) [(aM false)] [(lo1, 1, [(aM false)])] hO rfl (by kernel_rfl) ?_
    intro H hO
    refine cP ?_
    refine bF [(4, (.lp lo1 0 0))] ?_
    refine bI ?_
    obtain rfl := oI h0
    exact aI (aX (QM0 (.inr rfl) (rs := [.cell 4 4]) (xs := [(aM false)]) (x := (aM false)) (by kernel_rfl) (tV (lo := lo1) (k := 1) (y := (aM false)) (x := (aM false)) 0 hO (by kernel_rfl) (by kernel_rfl) (by kernel_rfl) (by kernel_rfl) AQ) (by kernel_rfl) ⟨rfl, hO.out⟩))
  refine bJ ?_
  refine bF [(0, (eL aD l0)), (3, (.rp (.fn (.func holds1_f) holds1_a holds1_c))), (4, (.lp lo1 0 0))] ?_
  refine aP ?_
  refine aV aG 1 ?_
  refine yQ 1 (.sl true 0 (fun _ => .bad)) (eL aL ([])) (by kernel_rfl) (by kernel_rfl) (by kernel_rfl) (lJ) (by kernel_rfl) (by kernel_rfl) hO ?_
  intro lo3 H hO
  refine cP ?_
  refine bR [] [(5, (.lp lo3 0 0))] ?_
  refine aP ?_
  refine aV aG 2 ?_
  refine pP 1 (aM false) (by kernel_rfl) (by kernel_rfl) hO ?_
  intro lo4 H hO
  refine nM 2 lo4 1 0 (aM false) (aM false) [(aM false)] [(lo1, 1, [(aM false)]), (lo3, 1, [(eL aL ([]))]), (lo4, 1, [(aM false)])] hO rfl (by kernel_rfl) ?_
  intro H hO
  refine cP ?_
  refine bR [] [(6, (.lp lo4 0 0))] ?_
  refine aP ?_
  refine aP ?_
  refine aV aG 2 ?_
  refine bN 1 ?_
  obtain ⟨x5, hx6, h0⟩ := aW h0
  refine dA (CE l0 _ hx6) hO ?_
  intro H hO
  refine cP ?_
  refine bR [0] [(13, (.fn (.func 104) [] [(.rp (eL aD x5))]))] ?_
  refine bO 0 ?_
  refine dL [(3, (.rp (.fn (.func holds1_f) holds1_a holds1_c))), (4, (.lp lo1 0 0)), (5, (.lp lo3 0 0)), (6, (.lp lo4 0 0)), (13, (.fn (.func 104) [] [(.rp (eL aD x5))]))] ?_
  refine cR (fun T H => ∃ t4 : Bool, ∃ mH : (List aF), ∃ gZ : Bool, ∃ iE : (List aC), ∃ lo7 : Nat, ∃ lo8 : Nat, ∃ lo9 : Nat, Has T [(3, (.rp (.fn (.func holds1_f) holds1_a holds1_c))), (4, (.lp lo7 0 0)), (5, (.lp lo8 0 0)), (6, (.lp lo9 0 0)), (13, (.fn (.func 104) [] [(.rp (eL aD iE))]))] ∧ aN ⟨H0, [], []⟩ H [(lo7, 1, [(aM t4)]), (lo8, 1, [(eL aL mH)]), (lo9, 1, [(aM gZ)])] ∧ sW pQ t4 mH gZ iE = some r) ?_ ⟨false, [], false, x5, lo1, lo3, lo4, .eq (by kernel_rfl), hO, h0⟩
  clear hO h0
  rintro T H ⟨t4, mH, gZ, iE, lo7, lo8, lo9, hT, hO, h0⟩
  refine aY (l := [(3, (.rp (.fn (.func holds1_f) holds1_a holds1_c))), (4, (.lp lo7 0 0)), (5, (.lp lo8 0 0)), (6, (.lp lo9 0 0)), (13, (.fn (.func 104) [] [(.rp (eL aD iE))]))]) hT ?_
  clear hT
  unfold sW at h0
  obtain ⟨o0, hl0, h0⟩ := aW h0
  refine KL (fid := 104) (ys := []) (cs := [(.rp (eL aD iE))]) #[14, 15] (fun (A : yM) (b lL : Nat) (st : (Bool × (List aF) × Bool) ⊕ (Bool × (List aF) × Bool)) (G' : Gs) => Sum.elim (fun (s : Bool × (List aF) × Bool) => G' = (lL, .raw (kM b A .ready none)) :: (up [(lo7, 1, [(aM s.1)]), (lo8, 1, [(eL aL s.2.1)]), (lo9, 1, [(aM s.2.2)])] ++ [])) (fun (s : Bool × (List aF) × Bool) => G' = (lL, .raw (kM b A .done (some .ret))) :: (up [(lo7, 1, [(aM s.1)]), (lo8, 1, [(eL aL s.2.1)]), (lo9, 1, [(aM s.2.2)])] ++ [])) st) (.inl (t4, mH, gZ)) o0 (.tup []) (by kernel_rfl) (by kernel_rfl) (by kernel_rfl) hO (fun _ _ => rfl) ?_ ?_
  · intro b lL
    clear hO h0
    refine xE _ b (fun st t14 t15 => rnd (fun (s : Bool × (List aF) × Bool) => mT pQ iE s.1 s.2.1 s.2.2 t14 t15) st) ?_ iE _ _ hl0
    intro st t14 t15 st2 rr hr
    obtain ⟨s, rfl, h1, rfl⟩ := WG hr
    clear hr
    intro Hr Gr hi hg
    obtain ⟨t4, mH, gZ⟩ := s
    dsimp only [Sum.elim_inl] at hi
    obtain rfl := hi
    replace h1 : mT pQ iE t4 mH gZ t14 t15 = some st2 := h1
    unfold mT at h1
    obtain ⟨E1, hE, hO⟩ := BY hg
    refine CF (IL (hO.gm 0 _ rfl).2 (by kernel_rfl) (by kernel_rfl) ?_)
    refine dL [(3, (.rp (.fn (.func holds1_f) holds1_a holds1_c))), (4, (.lp lo7 0 0)), (5, (.lp lo8 0 0)), (6, (.lp lo9 0 0)), (13, (.fn (.func 104) [] [(.rp (eL aD iE))])), (14, (eL aL t14)), (15, (eL aE t15))] ?_
    refine aS aG 1 [13, 14] [(7, (eL aL t14))] ?_
    refine aV aG 1 ?_
    refine bC ?_
    refine iZ [(3, (.rp (.fn (.func holds1_f) holds1_a holds1_c))), (4, (.lp lo7 0 0)), (5, (.lp lo8 0 0)), (6, (.lp lo9 0 0)), (7, (eL aL t14)), (8, (eL aE t15))] ?_
    refine aI (⟨rfl, rfl, (hO.gm 0 _ rfl).2, ?_⟩)
    intro o1 ho1
    replace hO := hO.BC o1
    refine bO 1 ?_
    refine aP ?_
    refine aP ?_
    refine aV aG 18 ?_
    refine bN 1 ?_
    obtain ⟨x10, hx11, h1⟩ := aW h1
    refine dA (wT t14 _ hx11) hO ?_
    intro H hO
    refine bN 4 ?_
    refine sH [(19, false)] 2 lo9 1 0 (aM gZ) (aM gZ) [(aM gZ)] (by kernel_rfl) (by kernel_rfl) hO (by kernel_rfl) (!(!x10)) (by kernel_rfl) (fun hb13 => rfl) ?_
    refine bN 6 ?_
    refine sH [(21, true), (19, false)] 1 lo8 1 0 (eL aL mH) (eL aL mH) [(eL aL mH)] (by kernel_rfl) (by kernel_rfl) hO (by kernel_rfl) (gZ && (!(!x10))) (by kernel_rfl) (fun hb14 => rfl) ?_
    refine bN 8 ?_
    obtain ⟨x15, hx16, h1⟩ := aW h1
    refine sG [(21, true), (19, false)] 61 [(eL aL mH), (eL aL t14)] (eI x15) (gZ && (!(!x10))) (by kernel_rfl) (by kernel_rfl) (by kernel_rfl) (fun hb17 => (zN mH t14 _ (uP hx16 hb17))) hO ?_
    intro H hO
    refine bN 15 ?_
    obtain ⟨x18, hx19, h1⟩ := aW h1
    refine sG [(28, false)] holds1_f (holds1_a ++ [(eL aE t15)] ++ holds1_c) (aM x18) (!((!x10) || (gZ && (decide ((0 : Int) ≤ x15))))) (by kernel_rfl) (by kernel_rfl) (by kernel_rfl) (fun hb20 => (holds1_h t15 _ (uP hx19 hb20))) hO ?_
    intro H hO
    refine bC ?_
    refine bR [3, 8] [(33, (aM (((!x10) || (gZ && (decide ((0 : Int) ≤ x15)))) || (!x18))))] ?_
    refine bH h1 (fun h1 => ?_) (fun h1 => ?_)
    · refine aP ?_
      refine aV aG 1 ?_
      refine nM 0 lo7 1 0 (aM t4) (aM false) [(aM t4)] [(lo7, 1, [(aM false)]), (lo8, 1, [(eL aL mH)]), (lo9, 1, [(aM gZ)])] hO rfl (by kernel_rfl) ?_
      intro H hO
      refine cP ?_
      refine bR [7, 33] [] ?_
      refine bI ?_
      refine iZ [(4, (.lp lo7 0 0)), (5, (.lp lo8 0 0)), (6, (.lp lo9 0 0))] ?_
      obtain rfl := oI h1
      exact aI (aX (bU (⟨(mN hO hE ho1 .dead).1, rfl, _, rfl, (mN hO hE ho1 _).2⟩)))
    refine bJ ?_
    refine bF [(4, (.lp lo7 0 0)), (5, (.lp lo8 0 0)), (6, (.lp lo9 0 0)), (7, (eL aL t14))] ?_
    refine aV aG 3 ?_
    refine bN 1 ?_
    refine nM 1 lo8 1 0 (eL aL mH) (eL aL t14) [(eL aL mH)] [(lo7, 1, [(aM t4)]), (lo8, 1, [(eL aL t14)]), (lo9, 1, [(aM gZ)])] hO rfl (by kernel_rfl) ?_
    intro H hO
    refine nM 2 lo9 1 0 (aM gZ) (aM true) [(aM gZ)] [(lo7, 1, [(aM t4)]), (lo8, 1, [(eL aL t14)]), (lo9, 1, [(aM true)])] hO rfl (by kernel_rfl) ?_
    intro H hO
    refine cP ?_
    refine iZ [(4, (.lp lo7 0 0)), (5, (.lp lo8 0 0)), (6, (.lp lo9 0 0))] ?_
    obtain rfl := oI h1
    exact aI (aT (⟨(mN hO hE ho1 .dead).1, rfl, _, rfl, (mN hO hE ho1 _).2⟩))
  · intro b lD lL H' G' hi hO
    rcases o0 with s | s
    · dsimp only [Sum.elim_inl] at hi
      obtain rfl := hi
      replace h0 : (some true) = some r := h0
      obtain ⟨hlL, hO⟩ := vR hO
      refine ⟨_, _, hlL, (by intro e; cases e), ?_⟩
      refine iZ [(4, (.lp lo7 0 0))] ?_
      replace hO := hO.pick (L' := [(lo7, 1, [(aM s.1)])]) [0] (by decide) (by kernel_rfl)
      refine aI (aT (aH (?_)))
      refine aP ?_
      refine aV aG 1 ?_
      refine nM 0 lo7 1 0 (aM s.1) (aM true) [(aM s.1)] [(lo7, 1, [(aM true)])] hO rfl (by kernel_rfl) ?_
      intro H hO
      refine cP ?_
      refine bF [(4, (.lp lo7 0 0))] ?_
      refine bI ?_
      obtain rfl := oI h0
      have hD := (hO.gm 0 _ rfl).2
      replace hO := (hO.BC .dead).yR
      exact aI (QM1 (.inr rfl) hD (rs := [.cell 4 4]) (xs := [(aM true)]) (x := (aM true)) (by kernel_rfl) (tV (lo := lo7) (k := 1) (y := (aM true)) (x := (aM true)) 0 hO (by kernel_rfl) (by kernel_rfl) (by kernel_rfl) (by kernel_rfl) AQ) (by kernel_rfl) ⟨rfl, hO.out⟩)
    · dsimp only [Sum.elim_inr] at hi
      obtain rfl := hi
      replace h0 : (some s.1) = some r := h0
      obtain ⟨hlL, hO⟩ := vR hO
      refine ⟨_, _, hlL, (by intro e; cases e), ?_⟩
      refine bI ?_
      replace hO := hO.pick (L' := [(lo7, 1, [(aM s.1)])]) [0] (by decide) (by kernel_rfl)
      obtain rfl := oI h0
      have hD := (hO.gm 0 _ rfl).2
      replace hO := (hO.BC .dead).yR
      exact aI (bU (aX (QM1 (.inr rfl) hD (rs := [.cell 4 4]) (xs := [(aM s.1)]) (x := (aM s.1)) (by kernel_rfl) (tV (lo := lo7) (k := 1) (y := (aM s.1)) (x := (aM s.1)) 0 hO (by kernel_rfl) (by kernel_rfl) (by kernel_rfl) (by kernel_rfl) AQ) (by kernel_rfl) ⟨rfl, hO.out⟩)))

theorem CH (n0 : Int) (r : Bool) (h0 : rC n0 = some r) : bV Try.prog 85 [(eI n0)] (aM r) := by
  intro H0
  refine cE Try.func85 ?_
  have hO := aN.start H0
  unfold rC at h0
  refine aS aG 1 [] [] ?_
  refine bQ aG 7 [(2, (aM ((decide (n0 ≤ (1048576 : Int))) && (decide ((-1048576 : Int) ≤ n0)))))] ?_
  refine bI ?_
  obtain rfl := oI h0
  exact aI (Q_r hO)

theorem vG (f0 : (List aB)) (r : Bool) (h0 : mF f0 = some r) : bV Try.prog 51 [(eL aE f0)] (aM r) := by
  intro H0
  refine cE Try.func51 ?_
  have hO := aN.start H0
  unfold mF at h0
  refine aS aG 1 [] [] ?_
  refine aP ?_
  refine aS aG 3 [] [(8, (aM (decide ((1024 : Int) < (lN f0)))))] ?_
  refine bH h0 (fun h0 => ?_) (fun h0 => ?_)
  · refine bQ aG 1 [(2, (aM false))] ?_
    refine bI ?_
    obtain rfl := oI h0
    exact aI (aX (Q_r hO))
  refine bJ ?_
  refine bF [(0, (eL aE f0))] ?_
  refine aS aG 1 [] [(3, (eI (-2 : Int)))] ?_
  refine cY (fun T H => Has T [] ∧ aN ⟨H0, [], []⟩ H [] ∧ rG  = some r) ?_ ?_
  · clear hO h0
    rintro T H ⟨hT, hO, h0⟩
    refine aY hT ?_
    clear hT
    unfold rG at h0
    refine bQ aG 1 [(2, (aM true))] ?_
    refine bI ?_
    obtain rfl := oI h0
    exact aI (Q_r hO)
  refine aS aG 3 [0] [(9, (eL aE f0)), (10, (eI (lN f0))), (11, (eI (0 : Int)))] ?_
  refine bO 0 ?_
  refine dL [(3, (eI (-2 : Int))), (9, (eL aE f0)), (10, (eI (lN f0))), (11, (eI (0 : Int)))] ?_
  refine cR (fun T H => ∃ nQ : Int, ∃ t9 : (List aB), ∃ t10 : Int, ∃ t11 : Int, Has T [(3, (eI nQ)), (9, (eL aE t9)), (10, (eI t10)), (11, (eI t11))] ∧ aN ⟨H0, [], []⟩ H [] ∧ uH nQ t9 t10 t11 = some r) ?_ ⟨(-2 : Int), f0, (lN f0), (0 : Int), .eq (by kernel_rfl), hO, h0⟩
  clear hO h0
  rintro T H ⟨nQ, t9, t10, t11, hT, hO, h0⟩
  refine aY hT ?_
  clear hT
  unfold uH at h0
  obtain ⟨rr0, hl0, h0⟩ := aW h0
  refine bZ (by kernel_rfl) (fun (s : Int × Int) T H => Has T [(3, (eI s.1)), (9, (eL aE t9)), (10, (eI t10)), (11, (eI s.2))] ∧ aN ⟨H0, [], []⟩ H []) hl0 ⟨.eq (by kernel_rfl), hO⟩ ?_
  clear hO
  rintro k0 s out1 T H ⟨hT, hO⟩ h1 ho0
  obtain ⟨nQ, t11⟩ := s
  replace h1 : kG t9 t10 nQ t11 = some out1 := h1
  dsimp only at hT
  refine aY hT ?_
  clear hT
  unfold kG at h1
  refine aS aG 1 [] [(12, (aM (decide (t11 < t10))))] ?_
  refine aP ?_
  refine bH h1 (fun h1 => ?_) (fun h1 => ?_)
  · refine bJ ?_
    refine bF [(3, (eI nQ)), (9, (eL aE t9)), (10, (eI t10)), (11, (eI t11))] ?_
    refine aP ?_
    refine bO 1 ?_
    refine aP ?_
    refine aV aG 4 ?_
    obtain ⟨c3, h1⟩ := bE h1
    refine uB 2 [0 ≤ t11 ∧ t11 < (lN t9)] ⟨c3, trivial⟩ ?_
    refine pP 2 (aE (aB.mk 0 0)) (by kernel_rfl) (by kernel_rfl) hO ?_
    intro lo4 H hO
    refine nM 0 lo4 2 0 (aE (aB.mk 0 0)) (aE (gD t9 t11)) [(aE (aB.mk 0 0))] [(lo4, 2, [(aE (gD t9 t11))])] hO rfl (by kernel_rfl) ?_
    intro H hO
    refine cP ?_
    refine bR [] [(5, (.lp lo4 0 0))] ?_
    refine aP ?_
    refine aP ?_
    refine aV aG 20 ?_
    refine bN 1 ?_
    refine wH 0 lo4 2 0 (aE (gD t9 t11)) (eI ((gD t9 t11).At)) [(aE (gD t9 t11))] hO rfl ?_
    refine bN 6 ?_
    refine sH [(19, false)] 0 lo4 2 0 (aE (gD t9 t11)) (eI ((gD t9 t11).At)) [(aE (gD t9 t11))] (by kernel_rfl) (by kernel_rfl) hO (by kernel_rfl) (!(decide (((gD t9 t11).At) ≤ nQ))) (by kernel_rfl) (fun hb5 => rfl) ?_
    refine bN 11 ?_
    refine sH [(24, false)] 0 lo4 2 0 (aE (gD t9 t11)) (eI ((gD t9 t11).Net)) [(aE (gD t9 t11))] (by kernel_rfl) (by kernel_rfl) hO (by kernel_rfl) (!((decide (((gD t9 t11).At) ≤ nQ)) || (decide ((1125899906842624 : Int) ≤ ((gD t9 t11).At))))) (by kernel_rfl) (fun hb6 => rfl) ?_
    refine bN 16 ?_
    refine sH [(29, false)] 0 lo4 2 0 (aE (gD t9 t11)) (eI ((gD t9 t11).Net)) [(aE (gD t9 t11))] (by kernel_rfl) (by kernel_rfl) hO (by kernel_rfl) (!(((decide (((gD t9 t11).At) ≤ nQ)) || (decide ((1125899906842624 : Int) ≤ ((gD t9 t11).At)))) || (decide (((gD t9 t11).Net) = (0 : Int))))) (by kernel_rfl) (fun hb7 => rfl) ?_
    obtain ⟨x8, hx9, h1⟩ := aW h1
    refine sG [(29, false)] 85 [(eI ((gD t9 t11).Net))] (aM x8) (!(((decide (((gD t9 t11).At) ≤ nQ)) || (decide ((1125899906842624 : Int) ≤ ((gD t9 t11).At)))) || (decide (((gD t9 t11).Net) = (0 : Int))))) (by kernel_rfl) (by kernel_rfl) (by kernel_rfl) (fun hb10 => (CH ((gD t9 t11).Net) _ (uP hx9 hb10))) hO ?_
    intro H hO
    refine bC ?_
    refine bR [3] [(34, (aM ((((decide (((gD t9 t11).At) ≤ nQ)) || (decide ((1125899906842624 : Int) ≤ ((gD t9 t11).At)))) || (decide (((gD t9 t11).Net) = (0 : Int)))) || (!x8))))] ?_
    refine bH h1 (fun h1 => ?_) (fun h1 => ?_)
    · refine aP ?_
      refine aV aG 1 ?_
      refine bC ?_
      refine iZ [(2, (aM false))] ?_
      replace hO := hO.pick (L' := []) [] (by decide) (by kernel_rfl)
      refine aI (aH (?_))
      refine bI ?_
      obtain rfl := oI h1
      obtain rfl : _ = rr0 := ho0
      replace h0 : some false = some r := h0
      obtain rfl := oI h0
      exact aI (aX (bU (aX (aX (bU (aX (Q_r hO)))))))
    refine bJ ?_
    refine bF [(5, (.lp lo4 0 0)), (9, (eL aE t9)), (10, (eI t10)), (11, (eI t11))] ?_
    refine aV aG 3 ?_
    refine bN 1 ?_
    refine wH 0 lo4 2 0 (aE (gD t9 t11)) (eI ((gD t9 t11).At)) [(aE (gD t9 t11))] hO rfl ?_
    refine bC ?_
    refine iZ [(3, (eI ((gD t9 t11).At))), (9, (eL aE t9)), (10, (eI t10)), (11, (eI t11))] ?_
    replace hO := hO.pick (L' := []) [] (by decide) (by kernel_rfl)
    refine aI (aT (aH (?_)))
    refine aV aG 2 ?_
    refine bC ?_
    exact aI (aH (⟨rfl, _, (oI h1).symm, .eq (by kernel_rfl), hO⟩))
  refine eP 0 ?_
  obtain rfl := oI h1
  obtain rfl : _ = rr0 := ho0
  replace h0 : rG  = some r := h0
  exact aI (aU (aU (bL (aH (⟨rfl, .eq (by kernel_rfl), hO, h0⟩)))))

theorem OM (l0 : (List aC)) (r : Bool) (h0 : sY l0 = some r) : bV Try.prog 25 [(eL aD l0)] (aM r) := by
  intro H0
  refine cE Try.func25 ?_
  have hO := aN.start H0
  unfold sY at h0
  refine aS aG 1 [] [] ?_
  refine aP ?_
  refine aV aG 3 ?_
  refine bN 1 ?_
  obtain ⟨x1, hx2, h0⟩ := aW h0
  refine dA (BW l0 51 [] [] (fun y0 => mF y0) (fun y0 r h => vG y0 r h) _ hx2) hO ?_
  intro H hO
  refine bC ?_
  refine bF [(2, (aM x1))] ?_
  refine bI ?_
  obtain rfl := oI h0
  exact aI (Q_r hO)

theorem KB (f0 : (List aB)) (r : Int) (h0 : pX f0 = some r) : bV Try.prog 52 [(eL aE f0)] (eI r) := by
  intro H0
  refine cE Try.func52 ?_
  have hO := aN.start H0
  unfold pX at h0
  refine aS aG 1 [] [] ?_
  refine aP ?_
  refine aP ?_
  refine aV aG 8 ?_
  refine bN 1 ?_
  obtain ⟨x1, hx2, h0⟩ := aW h0
  refine dA (vG f0 _ hx2) hO ?_
  intro H hO
  refine bC ?_
  refine bR [] [(14, (aM ((!x1) || (decide ((lN f0) = (0 : Int))))))] ?_
  refine bH h0 (fun h0 => ?_) (fun h0 => ?_)
  · refine bQ aG 1 [(2, (eI (0 : Int)))] ?_
    refine bI ?_
    obtain rfl := oI h0
    exact aI (aX (Q_r hO))
  refine bJ ?_
  refine bF [(0, (eL aE f0))] ?_
  refine aS aG 2 [] [(3, (eI (0 : Int))), (4, (eI (0 : Int)))] ?_
  refine cY (fun T H => ∃ v3 : Int, ∃ eD : Int, Has T [(0, (eL aE f0)), (3, (eI v3)), (4, (eI eD))] ∧ aN ⟨H0, [], []⟩ H [] ∧ nA f0 v3 eD = some r) ?_ ?_
  · clear hO h0
    rintro T H ⟨v3, eD, hT, hO, h0⟩
    refine aY hT ?_
    clear hT
    unfold nA at h0
    refine cY (fun T H => ∃ eD : Int, Has T [(4, (eI eD))] ∧ aN ⟨H0, [], []⟩ H [] ∧ oP eD = some r) ?_ ?_
    · clear hO h0
      rintro T H ⟨eD, hT, hO, h0⟩
      refine aY hT ?_
      clear hT
      unfold oP at h0
      refine bQ aG 2 [(2, (eI eD))] ?_
      refine bI ?_
      obtain rfl := oI h0
      exact aI (Q_r hO)
    refine aS aG 3 [0] [(24, (eL aE f0)), (25, (eI (lN f0))), (26, (eI (0 : Int)))] ?_
    refine bO 0 ?_
    refine dL [(3, (eI v3)), (4, (eI eD)), (24, (eL aE f0)), (25, (eI (lN f0))), (26, (eI (0 : Int)))] ?_
    refine cR (fun T H => ∃ v3 : Int, ∃ eD : Int, ∃ t24 : (List aB), ∃ t25 : Int, ∃ t26 : Int, Has T [(3, (eI v3)), (4, (eI eD)), (24, (eL aE t24)), (25, (eI t25)), (26, (eI t26))] ∧ aN ⟨H0, [], []⟩ H [] ∧ oM v3 eD t24 t25 t26 = some r) ?_ ⟨v3, eD, f0, (lN f0), (0 : Int), .eq (by kernel_rfl), hO, h0⟩
    clear hO h0
    rintro T H ⟨v3, eD, t24, t25, t26, hT, hO, h0⟩
    refine aY hT ?_
    clear hT
    unfold oM at h0
    obtain ⟨rr0, hl0, h0⟩ := aW h0
    refine bZ (by kernel_rfl) (fun (s : Int × Int × Int) T H => Has T [(3, (eI s.1)), (4, (eI s.2.1)), (24, (eL aE t24)), (25, (eI t25)), (26, (eI s.2.2))] ∧ aN ⟨H0, [], []⟩ H []) hl0 ⟨.eq (by kernel_rfl), hO⟩ ?_
    clear hO
    rintro k0 s out1 T H ⟨hT, hO⟩ h1 ho0
    obtain ⟨v3, eD, t26⟩ := s
    replace h1 : kT t24 t25 v3 eD t26 = some out1 := h1
    dsimp only at hT
    refine aY hT ?_
    clear hT
    unfold kT at h1
    refine aS aG 1 [] [(27, (aM (decide (t26 < t25))))] ?_
    refine aP ?_
    refine bH h1 (fun h1 => ?_) (fun h1 => ?_)
    · refine bJ ?_
      refine bF [(3, (eI v3)), (4, (eI eD)), (24, (eL aE t24)), (25, (eI t25)), (26, (eI t26))] ?_
      refine aP ?_
      refine bO 1 ?_
      refine aP ?_
      refine aV aG 4 ?_
      obtain ⟨c6, h1⟩ := bE h1
      refine uB 2 [0 ≤ t26 ∧ t26 < (lN t24)] ⟨c6, trivial⟩ ?_
      refine pP 2 (aE (aB.mk 0 0)) (by kernel_rfl) (by kernel_rfl) hO ?_
      intro lo7 H hO
      refine nM 0 lo7 2 0 (aE (aB.mk 0 0)) (aE (gD t24 t26)) [(aE (aB.mk 0 0))] [(lo7, 2, [(aE (gD t24 t26))])] hO rfl (by kernel_rfl) ?_
      intro H hO
      refine cP ?_
      refine bR [] [(6, (.lp lo7 0 0))] ?_
      refine aP ?_
      refine aV aG 5 ?_
      refine bN 2 ?_
      refine wH 0 lo7 2 0 (aE (gD t24 t26)) (eI ((gD t24 t26).Net)) [(aE (gD t24 t26))] hO rfl ?_
      refine bC ?_
      replace hO := hO.pick (L' := []) [] (by decide) (by kernel_rfl)
      refine bR [3, 6] [(3, (eI (wR (v3 + ((gD t24 t26).Net)))))] ?_
      refine aV aG 4 ?_
      refine bC ?_
      refine iZ [(3, (eI (wR (v3 + ((gD t24 t26).Net))))), (4, (eI (if (wR (v3 + ((gD t24 t26).Net))) < eD then (wR (v3 + ((gD t24 t26).Net))) else eD))), (24, (eL aE t24)), (25, (eI t25)), (26, (eI t26))] ?_
      refine aI (aT (aH (?_)))
      refine aV aG 2 ?_
      refine bC ?_
      exact aI (aH (⟨rfl, _, (oI h1).symm, .eq (by kernel_rfl), hO⟩))
    refine eP 0 ?_
    obtain rfl := oI h1
    obtain rfl : _ = rr0 := ho0
    replace h0 : oP eD = some r := h0
    exact aI (aU (aU (bL (aH (⟨rfl, _, .eq (by kernel_rfl), hO, h0⟩)))))
  refine aP ?_
  refine aV aG 5 ?_
  obtain ⟨c8, h0⟩ := bE h0
  refine pV [0 ≤ (0 : Int) ∧ (0 : Int) < (lN f0)] ⟨c8, trivial⟩ ?_
  refine bR [] [(19, (aM (decide (((gD f0 (0 : Int)).At) = (-1 : Int)))))] ?_
  refine bH h0 (fun h0 => ?_) (fun h0 => ?_)
  · refine aV aG 5 ?_
    obtain ⟨c10, h0⟩ := bE h0
    refine pV [0 ≤ (0 : Int) ∧ (0 : Int) < (lN f0)] ⟨c10, trivial⟩ ?_
    exact aI (aH (⟨rfl, _, _, .eq (by kernel_rfl), hO, h0⟩))
  refine bJ ?_
  exact aI (aH (⟨rfl, _, _, .eq (by kernel_rfl), hO, h0⟩))

theorem FL (f0 : (List aB)) (r : Bool) (h0 : nV f0 = some r) : bV Try.prog 50 [(eL aE f0)] (aM r) := by
  intro H0
  refine cE Try.func50 ?_
  have hO := aN.start H0
  unfold nV at h0
  refine aS aG 1 [] [] ?_
  refine aP ?_
  refine aV aG 8 ?_
  refine bN 1 ?_
  obtain ⟨x1, hx2, h0⟩ := aW h0
  refine dA (vG f0 _ hx2) hO ?_
  intro H hO
  refine bN 4 ?_
  obtain ⟨x4, hx5, h0⟩ := aW h0
  refine sG [(5, true)] 52 [(eL aE f0)] (eI x4) x1 (by kernel_rfl) (by kernel_rfl) (by kernel_rfl) (fun hb6 => (KB f0 _ (uP hx5 hb6))) hO ?_
  intro H hO
  refine bC ?_
  refine bF [(2, (aM (x1 && (decide ((0 : Int) ≤ x4)))))] ?_
  refine bI ?_
  obtain rfl := oI h0
  exact aI (Q_r hO)

theorem KR (l0 : (List aC)) (r : Bool) (h0 : pY l0 = some r) : bV Try.prog 17 [(eL aD l0)] (aM r) := by
  intro H0
  refine cE Try.func17 ?_
  have hO := aN.start H0
  unfold pY at h0
  refine aS aG 1 [] [] ?_
  refine aP ?_
  refine aV aG 3 ?_
  refine bN 1 ?_
  obtain ⟨x1, hx2, h0⟩ := aW h0
  refine dA (BW l0 50 [] [] (fun y0 => nV y0) (fun y0 r h => FL y0 r h) _ hx2) hO ?_
  intro H hO
  refine bC ?_
  refine bF [(2, (aM x1))] ?_
  refine bI ?_
  obtain rfl := oI h0
  exact aI (Q_r hO)

theorem HG (t0 : Int) (t1 : Int) (r : Int) (h0 : rN t0 t1 = some r) : bV Try.prog 43 [(eI t0), (.rp (eI t1))] (eI r) := by
  intro H0
  refine cE Try.func43 ?_
  have hO := aN.start H0
  unfold rN at h0
  refine aS aG 1 [] [] ?_
  refine bQ aG 5 [(3, (eI (if (1125899906842624 : Int) < (wR (t0 + t1)) then (1125899906842624 : Int) else (wR (t0 + t1)))))] ?_
  refine bI ?_
  obtain rfl := oI h0
  exact aI (Q_r hO)

theorem pZ (s0 : (List aC)) (f1_f : Nat) (f1_a f1_c : List V) (f1 : aC → Option Bool) (f1_h : ∀ a0 r, f1 a0 = some r → bV Try.prog f1_f (f1_a ++ [(aD a0)] ++ f1_c) (aM r)) (r : Int) (h0 : eO s0 f1 = some r) : bV Try.prog 86 [(eL aD s0), (.fn (.func f1_f) f1_a f1_c)] (eI r) := by
  intro H0
  refine cE Try.func86 ?_
  have hO := aN.start H0
  unfold eO at h0
  refine aS aG 1 [] [] ?_
  refine cY (fun T H => Has T [] ∧ aN ⟨H0, [], []⟩ H [] ∧ cU f1  = some r) ?_ ?_
  · clear hO h0
    rintro T H ⟨hT, hO, h0⟩
    refine aY hT ?_
    clear hT
    unfold cU at h0
    refine bQ aG 1 [(4, (eI (-1 : Int)))] ?_
    refine bI ?_
    obtain rfl := oI h0
    exact aI (Q_r hO)
  refine aS aG 3 [] [(7, (eI (lN s0))), (8, (eI (0 : Int)))] ?_
  refine bO 0 ?_
  refine dL [(0, (eL aD s0)), (1, (.fn (.func f1_f) f1_a f1_c)), (7, (eI (lN s0))), (8, (eI (0 : Int)))] ?_
  refine cR (fun T H => ∃ t7 : Int, ∃ t8 : Int, Has T [(0, (eL aD s0)), (1, (.fn (.func f1_f) f1_a f1_c)), (7, (eI t7)), (8, (eI t8))] ∧ aN ⟨H0, [], []⟩ H [] ∧ eJ f1 s0 t7 t8 = some r) ?_ ⟨(lN s0), (0 : Int), .eq (by kernel_rfl), hO, h0⟩
  clear hO h0
  rintro T H ⟨t7, t8, hT, hO, h0⟩
  refine aY hT ?_
  clear hT
  unfold eJ at h0
  obtain ⟨rr0, hl0, h0⟩ := aW h0
  refine bZ (by kernel_rfl) (fun (s : Int) T H => Has T [(0, (eL aD s0)), (1, (.fn (.func f1_f) f1_a f1_c)), (7, (eI t7)), (8, (eI s))] ∧ aN ⟨H0, [], []⟩ H []) hl0 ⟨.eq (by kernel_rfl), hO⟩ ?_
  clear hO
  rintro k0 s out1 T H ⟨hT, hO⟩ h1 ho0
  obtain ⟨t8, rfl⟩ : ∃ x, x = s := ⟨_, rfl⟩
  replace h1 : eK f1 s0 t7 t8 = some out1 := h1
  refine aY hT ?_
  clear hT
  unfold eK at h1
  refine aS aG 1 [] [(9, (aM (decide (t8 < t7))))] ?_
  refine aP ?_
  refine bH h1 (fun h1 => ?_) (fun h1 => ?_)
  · refine bJ ?_
    refine bF [(0, (eL aD s0)), (1, (.fn (.func f1_f) f1_a f1_c)), (7, (eI t7)), (8, (eI t8))] ?_
    refine aP ?_
    refine bO 1 ?_
    refine aS aG 2 [] [(5, (eI t8))] ?_
    refine aP ?_
    refine aV aG 6 ?_
    obtain ⟨c2, h1⟩ := bE h1
    refine uB 5 [0 ≤ t8 ∧ t8 < (lN s0)] ⟨c2, trivial⟩ ?_
    obtain ⟨x3, hx4, h1⟩ := aW h1
    refine dA (f1_h (gD s0 t8) _ hx4) hO ?_
    intro H hO
    refine cP ?_
    refine bR [] [(16, (aM x3))] ?_
    refine bH h1 (fun h1 => ?_) (fun h1 => ?_)
    · refine bQ aG 2 [(4, (eI t8))] ?_
      refine bI ?_
      obtain rfl := oI h1
      obtain rfl : _ = rr0 := ho0
      replace h0 : some t8 = some r := h0
      obtain rfl := oI h0
      exact aI (bU (aX (aX (bU (aX (Q_r hO))))))
    refine bJ ?_
    refine iZ [(0, (eL aD s0)), (1, (.fn (.func f1_f) f1_a f1_c)), (7, (eI t7)), (8, (eI t8))] ?_
    refine aI (aT (aH (?_)))
    refine aV aG 2 ?_
    refine bC ?_
    exact aI (aH (⟨rfl, _, (oI h1).symm, .eq (by kernel_rfl), hO⟩))
  refine eP 0 ?_
  obtain rfl := oI h1
  obtain rfl : _ = rr0 := ho0
  replace h0 : cU f1  = some r := h0
  exact aI (aU (aU (bL (aH (⟨rfl, .eq (by kernel_rfl), hO, h0⟩)))))

theorem kY (s0 : (List aC)) (f1_f : Nat) (f1_a f1_c : List V) (f1 : aC → Option Bool) (f1_h : ∀ a0 r, f1 a0 = some r → bV Try.prog f1_f (f1_a ++ [(aD a0)] ++ f1_c) (aM r)) (r : Bool) (h0 : cB s0 f1 = some r) : bV Try.prog 53 [(eL aD s0), (.fn (.func f1_f) f1_a f1_c)] (aM r) := by
  intro H0
  refine cE Try.func53 ?_
  have hO := aN.start H0
  unfold cB at h0
  refine aS aG 1 [] [] ?_
  refine aP ?_
  refine aV aG 5 ?_
  refine bN 2 ?_
  obtain ⟨x1, hx2, h0⟩ := aW h0
  refine dA (pZ s0 f1_f f1_a f1_c f1 f1_h _ hx2) hO ?_
  intro H hO
  refine bC ?_
  refine bF [(4, (aM (decide ((0 : Int) ≤ x1))))] ?_
  refine bI ?_
  obtain rfl := oI h0
  exact aI (Q_r hO)

theorem HL (x0 : aC) (r : Bool) (h0 : oL x0 = some r) : bV Try.prog 54 [(aD x0)] (aM r) := by
  intro H0
  refine cE Try.func54 ?_
  have hO := aN.start H0
  unfold oL at h0
  refine aP ?_
  refine aV aG 2 ?_
  refine kK 3 (aD x0) (by kernel_rfl) (by kernel_rfl) ?_
  refine bC ?_
  refine bF [(1, (.rp (aD x0)))] ?_
  refine aP ?_
  refine aV aG 15 ?_
  refine bN 2 ?_
  obtain ⟨x1, hx2, h0⟩ := aW h0
  refine dA (wT x0.Row _ hx2) hO ?_
  intro H hO
  refine bC ?_
  refine bF [(2, (aM (((!x1) || (decide ((1048576 : Int) < x0.Net))) || (decide (x0.Net < (-1048576 : Int))))))] ?_
  refine bI ?_
  obtain rfl := oI h0
  exact aI (Q_r hO)

theorem HE (x0 : aC) (r : Bool) (h0 : oN x0 = some r) : bV Try.prog 56 [(aD x0)] (aM r) := by
  intro H0
  refine cE Try.func56 ?_
  have hO := aN.start H0
  unfold oN at h0
  refine aP ?_
  refine aV aG 2 ?_
  refine kK 3 (aD x0) (by kernel_rfl) (by kernel_rfl) ?_
  refine bC ?_
  refine bF [(1, (.rp (aD x0)))] ?_
  refine bQ aG 9 [(2, (aM ((decide (x0.At < (-1 : Int))) || (decide ((1125899906842624 : Int) < x0.At)))))] ?_
  refine bI ?_
  obtain rfl := oI h0
  exact aI (Q_r hO)

theorem rX (s0 : (List aC)) (r : (List aC)) (h0 : dV s0 = some r) : vP Try.prog 57 [(eL aD s0)] (fun lo => (.msl 3 lo 0 (List.length r))) 3 (List.map aD r) := by
  intro H0
  refine cE Try.func57 ?_
  have hO := aN.start H0
  unfold dV at h0
  refine aS aG 1 [] [] ?_
  refine aP ?_
  refine aP ?_
  refine aV aG 2 ?_
  refine bN 1 ?_
  refine TK false (List.length s0) (fun i => aD (List.getD s0 i default)) (by kernel_rfl) (by kernel_rfl) ?_
  intro b1 hn2
  refine cP ?_
  refine bR [] [(4, (aM b1))] ?_
  refine mA (b1) (fun hc3 => ?_) (fun hc3 => ?_)
  · replace h0 : some ([] : List aC) = some r := by
      have hl := List.eq_nil_of_length_eq_zero (hn2 hc3)
      rw [hl] at h0
      exact (bE h0).2
    refine bQ aG 1 [(2, (.sl true 0 (fun _ => .bad)))] ?_
    refine bI ?_
    refine iZ [(2, (.sl true 0 (fun _ => .bad)))] ?_
    refine PV (el := (fun _ => .bad)) 0 2 3 hO (by kernel_rfl) ?_
    intro lo4 H5 hO
    obtain rfl := oI h0
    exact aI (aX (nP (x := (.msl 3 lo4 0 (List.length ([] : List aC)))) (by kernel_rfl) (aR.refl _) ⟨lo4, rfl, hO⟩))
  · refine bJ ?_
    refine bF [(0, (eL aD s0))] ?_
    refine aP ?_
    refine aV aG 4 ?_
    refine vM (xs := []) (k := 3) (by kernel_rfl) (by kernel_rfl) ?_
    refine bN 2 ?_
    obtain ⟨c7, h0⟩ := bE h0
    refine MF (e := aD) s0 (fun _ => .bad) 3 40 (eL aD s0) (fun lo6 => [(lo6, 3, List.map aD s0)]) (by kernel_rfl) (by kernel_rfl) hO (FK (fun _ => by kernel_rfl)) c7 (fun _ => by kernel_rfl) ?_
    intro lo6 H hO
    refine bC ?_
    refine bF [(2, (.msl 3 lo6 0 (List.length s0)))] ?_
    refine bI ?_
    obtain rfl := oI h0
    exact aI (nP (x := (.msl 3 lo6 0 (List.length s0))) (by kernel_rfl) (aR.refl _) ⟨lo6, rfl, hO⟩)

theorem lB (lo0p : Nat) (aA : (List aC)) (a1 : Int) (b2 : Int) (cmp3_f : Nat) (cmp3_a cmp3_c : List V) (cmp3 : aC → aC → Option Int) (cmp3_h : ∀ a0 a1 r, cmp3 a0 a1 = some r → bV Try.prog cmp3_f (cmp3_a ++ [(aD a0), (aD a1)] ++ cmp3_c) (eI r)) (r : List aC) (h0 : cT aA a1 b2 cmp3 = some r) : jL Try.prog 112 lo0p 3 (List.map aD aA) (List.map aD r) [(.msl 3 lo0p 0 (List.length aA)), (eI a1), (eI b2), (.fn (.func cmp3_f) cmp3_a cmp3_c)] (.tup []) := by
  intro H0 hl0
  refine cE Try.func112 ?_
  have hO := aN.nF hl0
  clear hl0
  obtain ⟨N0, hN0⟩ : ∃ n, n = List.length aA := ⟨_, rfl⟩
  have hN : List.length aA = N0 := hN0.symm
  unfold cT at h0
  refine aS aG 3 [] [(8, (eI (wR (a1 + (1 : Int)))))] ?_
  refine bO 0 ?_
  refine dL [(0, (.msl 3 lo0p 0 (List.length aA))), (1, (eI a1)), (2, (eI b2)), (3, (.fn (.func cmp3_f) cmp3_a cmp3_c)), (8, (eI (wR (a1 + (1 : Int)))))] ?_
  refine cR (fun T H => ∃ aA : List aC, ∃ i8 : Int, Has T [(0, (.msl 3 lo0p 0 (List.length aA))), (1, (eI a1)), (2, (eI b2)), (3, (.fn (.func cmp3_f) cmp3_a cmp3_c)), (8, (eI i8))] ∧ aN ⟨H0, [lo0p], []⟩ H [(lo0p, 3, List.map aD aA)] ∧ List.length aA = N0 ∧ gQ cmp3 aA a1 b2 i8 = some r) ?_ ⟨aA, wR (a1 + (1 : Int)), .eq (by kernel_rfl), hO, hN, h0⟩
  clear hO hN h0
  rintro T H ⟨aA, i8, hT, hO, hN, h0⟩
  refine aY hT ?_
  clear hT
  unfold gQ at h0
  obtain ⟨rr0, hl0, h0⟩ := aW h0
  refine bZ (by kernel_rfl) (fun (s : List aC × Int) T H => Has T [(0, (.msl 3 lo0p 0 (List.length s.1))), (1, (eI a1)), (2, (eI b2)), (3, (.fn (.func cmp3_f) cmp3_a cmp3_c)), (8, (eI s.2))] ∧ aN ⟨H0, [lo0p], []⟩ H [(lo0p, 3, List.map aD s.1)] ∧ List.length s.1 = N0) hl0 ⟨.eq (by kernel_rfl), hO, hN⟩ ?_
  clear hO hN
  rintro k0 s out1 T H ⟨hT, hO, hN⟩ h1 ho0
  obtain ⟨aA, i8⟩ := s
  replace h1 : gM cmp3 a1 b2 aA i8 = some out1 := h1
  dsimp only at hT
  refine aY hT ?_
  clear hT
  unfold gM at h1
  refine aP ?_
  refine aS aG 3 [] [(14, (aM (decide (i8 < b2))))] ?_
  refine bH h1 (fun h1 => ?_) (fun h1 => ?_)
  · refine bJ ?_
    refine bF [(0, (.msl 3 lo0p 0 (List.length aA))), (1, (eI a1)), (2, (eI b2)), (3, (.fn (.func cmp3_f) cmp3_a cmp3_c)), (8, (eI i8))] ?_
    refine cY (fun T H => ∃ aA : List aC, Has T [(0, (.msl 3 lo0p 0 (List.length aA))), (1, (eI a1)), (2, (eI b2)), (3, (.fn (.func cmp3_f) cmp3_a cmp3_c)), (8, (eI i8))] ∧ aN ⟨H0, [lo0p], []⟩ H [(lo0p, 3, List.map aD aA)] ∧ List.length aA = N0 ∧ dS cmp3 aA a1 b2 i8 = some out1) ?_ ?_
    · clear hO hN h1
      rintro T H ⟨aA, hT, hO, hN, h1⟩
      refine aY hT ?_
      clear hT
      unfold dS at h1
      refine aV aG 3 ?_
      refine bC ?_
      exact aI (aH (⟨rfl, _, (oI h1).symm, .eq (by kernel_rfl), hO, hN⟩))
    refine bO 1 ?_
    refine aS aG 2 [] [(9, (eI i8))] ?_
    refine bO 2 ?_
    refine dL [(0, (.msl 3 lo0p 0 (List.length aA))), (1, (eI a1)), (2, (eI b2)), (3, (.fn (.func cmp3_f) cmp3_a cmp3_c)), (8, (eI i8)), (9, (eI i8))] ?_
    refine cR (fun T H => ∃ aA : List aC, ∃ j9 : Int, Has T [(0, (.msl 3 lo0p 0 (List.length aA))), (1, (eI a1)), (2, (eI b2)), (3, (.fn (.func cmp3_f) cmp3_a cmp3_c)), (8, (eI i8)), (9, (eI j9))] ∧ aN ⟨H0, [lo0p], []⟩ H [(lo0p, 3, List.map aD aA)] ∧ List.length aA = N0 ∧ gO cmp3 aA a1 b2 i8 j9 = some out1) ?_ ⟨aA, i8, .eq (by kernel_rfl), hO, hN, h1⟩
    clear hO hN h1
    rintro T H ⟨aA, j9, hT, hO, hN, h1⟩
    refine aY hT ?_
    clear hT
    unfold gO at h1
    obtain ⟨rr1, hl1, h1⟩ := aW h1
    refine bZ (by kernel_rfl) (fun (s : List aC × Int) T H => Has T [(0, (.msl 3 lo0p 0 (List.length s.1))), (1, (eI a1)), (2, (eI b2)), (3, (.fn (.func cmp3_f) cmp3_a cmp3_c)), (8, (eI i8)), (9, (eI s.2))] ∧ aN ⟨H0, [lo0p], []⟩ H [(lo0p, 3, List.map aD s.1)] ∧ List.length s.1 = N0) hl1 ⟨.eq (by kernel_rfl), hO, hN⟩ ?_
    clear hO hN
    rintro k1 s out2 T H ⟨hT, hO, hN⟩ h2 ho1
    obtain ⟨aA, j9⟩ := s
    replace h2 : gP cmp3 a1 b2 i8 aA j9 = some out2 := h2
    dsimp only at hT
    refine aY hT ?_
    clear hT
    unfold gP at h2
    refine aP ?_
    refine aP ?_
    obtain ⟨c2, h2⟩ := bE h2
    obtain ⟨c3, h2⟩ := bE h2
    obtain ⟨x4, hx5, h2⟩ := aW h2
    refine jP (jQ []) aG 17 ?_
    refine ET (K := fun T H => Has (lift T) [(0, (.msl 3 lo0p 0 (List.length aA))), (1, (eI a1)), (2, (eI b2)), (3, (.fn (.func cmp3_f) cmp3_a cmp3_c)), (8, (eI i8)), (9, (eI j9)), (34, (aM ((decide (a1 < j9)) && (decide (x4 < (0 : Int))))))] ∧ aN ⟨H0, [lo0p], []⟩ H [(lo0p, 3, List.map aD aA)]) ?_ ?_
    · refine tI 4 ?_
      refine FE (t := 21) (e := decide (a1 < j9)) (by kernel_rfl) (fun hg6 => ?_) (fun hg6 => ?_)
      · refine cX 8 [0 ≤ j9 ∧ j9 < (lN aA)] ⟨(c2 hg6), trivial⟩ ?_
        refine vT 0 lo0p 3 (0 + Int.toNat j9) (aD (gD aA j9)) (aD (gD aA j9)) (List.map aD aA) (by kernel_rfl) (by kernel_rfl) (by kernel_rfl) hO (by kernel_rfl) (cD (c2 hg6)) ?_
        refine cX 13 [0 ≤ (wR (j9 - (1 : Int))) ∧ (wR (j9 - (1 : Int))) < (lN aA)] ⟨(c3 hg6), trivial⟩ ?_
        refine vT 0 lo0p 3 (0 + Int.toNat (wR (j9 - (1 : Int)))) (aD (gD aA (wR (j9 - (1 : Int))))) (aD (gD aA (wR (j9 - (1 : Int))))) (List.map aD aA) (by kernel_rfl) (by kernel_rfl) (by kernel_rfl) hO (by kernel_rfl) (cD (c3 hg6)) ?_
        refine MW cmp3_f (cmp3_a ++ [(aD (gD aA j9)), (aD (gD aA (wR (j9 - (1 : Int)))))] ++ cmp3_c) (eI x4) (by kernel_rfl) (by kernel_rfl) (cmp3_h (gD aA j9) (gD aA (wR (j9 - (1 : Int)))) _ (uP hx5 hg6)) hO ?_
        intro H hO
        refine nS ?_
        exact ⟨⟨[(0, (.msl 3 lo0p 0 (List.length aA))), (1, (eI a1)), (2, (eI b2)), (3, (.fn (.func cmp3_f) cmp3_a cmp3_c)), (8, (eI i8)), (9, (eI j9)), (34, (aM (decide (x4 < (0 : Int)))))], by kernel_rfl, rfl, ⟨aR.refl _, aR.refl _, aR.refl _, aR.refl _, aR.refl _, aR.refl _, aR.eq (congrArg aM (BL hg6 rfl).symm), trivial⟩⟩, hO⟩
      refine nS ?_
      exact ⟨⟨[(0, (.msl 3 lo0p 0 (List.length aA))), (1, (eI a1)), (2, (eI b2)), (3, (.fn (.func cmp3_f) cmp3_a cmp3_c)), (8, (eI i8)), (9, (eI j9)), (34, (aM false))], by kernel_rfl, rfl, ⟨aR.refl _, aR.refl _, aR.refl _, aR.refl _, aR.refl _, aR.refl _, aR.eq (congrArg aM (BL hg6 rfl).symm), trivial⟩⟩, hO⟩
    · rintro T H ⟨hT, hO⟩
      refine cG hT ?_
      clear hT
      refine aI (aH ?_)
      refine bH h2 (fun h2 => ?_) (fun h2 => ?_)
      · refine bJ ?_
        refine bF [(0, (.msl 3 lo0p 0 (List.length aA))), (1, (eI a1)), (2, (eI b2)), (3, (.fn (.func cmp3_f) cmp3_a cmp3_c)), (8, (eI i8)), (9, (eI j9))] ?_
        refine aP ?_
        refine bO 3 ?_
        refine jP (jQ []) aG 18 ?_
        obtain ⟨c8, h2⟩ := bE h2
        refine cX 9 [0 ≤ (wR (j9 - (1 : Int))) ∧ (wR (j9 - (1 : Int))) < (lN aA)] ⟨c8, trivial⟩ ?_
        refine jW 0 lo0p 3 (0 + Int.toNat (wR (j9 - (1 : Int)))) (aD (gD aA (wR (j9 - (1 : Int))))) (aD (gD aA (wR (j9 - (1 : Int))))) (List.map aD aA) hO (cD c8) ?_
        obtain ⟨c9, h2⟩ := bE h2
        refine cX 13 [0 ≤ j9 ∧ j9 < (lN aA)] ⟨c9, trivial⟩ ?_
        refine jW 0 lo0p 3 (0 + Int.toNat j9) (aD (gD aA j9)) (aD (gD aA j9)) (List.map aD aA) hO (cD c9) ?_
        obtain ⟨c10, h2⟩ := bE h2
        refine cX 15 [0 ≤ j9 ∧ j9 < (lN aA)] ⟨c10, trivial⟩ ?_
        refine pW 0 lo0p 3 (0 + Int.toNat j9) (aD (gD aA j9)) (aD (gD aA (wR (j9 - (1 : Int))))) (List.map aD aA) [(lo0p, 3, List.map aD (List.set aA (Int.toNat j9) (gD aA (wR (j9 - (1 : Int))))))] hO (cD c10) (by simp only [List.set, mC]) ?_
        intro H hO
        replace hN : List.length (List.set aA (Int.toNat j9) (gD aA (wR (j9 - (1 : Int))))) = N0 := by simpa using hN
        obtain ⟨c11, h2⟩ := bE h2
        refine cX 17 [0 ≤ (wR (j9 - (1 : Int))) ∧ (wR (j9 - (1 : Int))) < (lN aA)] ⟨c11, trivial⟩ ?_
        refine pW 0 lo0p 3 (0 + Int.toNat (wR (j9 - (1 : Int)))) (aD (gD (List.set aA (Int.toNat j9) (gD aA (wR (j9 - (1 : Int))))) (wR (j9 - (1 : Int))))) (aD (gD aA j9)) (List.map aD (List.set aA (Int.toNat j9) (gD aA (wR (j9 - (1 : Int)))))) [(lo0p, 3, List.map aD (List.set (List.set aA (Int.toNat j9) (gD aA (wR (j9 - (1 : Int))))) (Int.toNat (wR (j9 - (1 : Int)))) (gD aA j9)))] hO (sJ c11 (by simp [])) (by simp only [List.set, mC]) ?_
        intro H hO
        replace hN : List.length (List.set (List.set aA (Int.toNat j9) (gD aA (wR (j9 - (1 : Int))))) (Int.toNat (wR (j9 - (1 : Int)))) (gD aA j9)) = N0 := by simpa using hN
        refine vJ (by kernel_rfl) ?_
        refine cG (l := [(0, (.msl 3 lo0p 0 (List.length (List.set (List.set aA (Int.toNat j9) (gD aA (wR (j9 - (1 : Int))))) (Int.toNat (wR (j9 - (1 : Int)))) (gD aA j9))))), (1, (eI a1)), (2, (eI b2)), (3, (.fn (.func cmp3_f) cmp3_a cmp3_c)), (8, (eI i8)), (9, (eI j9))]) ⟨[(0, (.msl 3 lo0p 0 (List.length aA))), (1, (eI a1)), (2, (eI b2)), (3, (.fn (.func cmp3_f) cmp3_a cmp3_c)), (8, (eI i8)), (9, (eI j9))], by kernel_rfl, rfl, ⟨aR.eq (by simp []), aR.refl _, aR.refl _, aR.refl _, aR.refl _, aR.refl _, trivial⟩⟩ ?_
        refine aI (aT (aH (?_)))
        refine aV aG 3 ?_
        refine bC ?_
        exact aI (aH (⟨rfl, _, (oI h2).symm, .eq (by kernel_rfl), hO, hN⟩))
      refine eP 2 ?_
      obtain rfl := oI h2
      obtain rfl : _ = rr1 := ho1
      replace h1 : dS cmp3 aA a1 b2 i8 = some out1 := h1
      exact aI (aU (aU (bL (aT (aH (⟨rfl, _, .eq (by kernel_rfl), hO, hN, h1⟩))))))
  refine eP 0 ?_
  obtain rfl := oI h1
  obtain rfl : _ = rr0 := ho0
  replace h0 : some aA = some r := h0
  obtain rfl := oI h0
  exact aI (aU (aU (bL (oD (x := (.tup [])) (by kernel_rfl) (aR.refl _) ⟨rfl, hO.ext, hO.at 0 (by kernel_rfl), by simp only [List.length_map]; exact hN.trans hN0⟩))))

theorem jI (lo0p : Nat) (aA : (List aC)) (a1 : Int) (b2 : Int) (n3 : Int) (cmp4_f : Nat) (cmp4_a cmp4_c : List V) (cmp4 : aC → aC → Option Int) (cmp4_h : ∀ a0 a1 r, cmp4 a0 a1 = some r → bV Try.prog cmp4_f (cmp4_a ++ [(aD a0), (aD a1)] ++ cmp4_c) (eI r)) (r : List aC) (h0 : dJ aA a1 b2 n3 cmp4 = some r) : jL Try.prog 123 lo0p 3 (List.map aD aA) (List.map aD r) [(.msl 3 lo0p 0 (List.length aA)), (eI a1), (eI b2), (eI n3), (.fn (.func cmp4_f) cmp4_a cmp4_c)] (.tup []) := by
  intro H0 hl0
  refine cE Try.func123 ?_
  have hO := aN.nF hl0
  clear hl0
  obtain ⟨N0, hN0⟩ : ∃ n, n = List.length aA := ⟨_, rfl⟩
  have hN : List.length aA = N0 := hN0.symm
  unfold dJ at h0
  refine aS aG 1 [4] [(10, (eI (0 : Int)))] ?_
  refine bO 0 ?_
  refine dL [(0, (.msl 3 lo0p 0 (List.length aA))), (1, (eI a1)), (2, (eI b2)), (3, (eI n3)), (10, (eI (0 : Int)))] ?_
  refine cR (fun T H => ∃ aA : List aC, ∃ i10 : Int, Has T [(0, (.msl 3 lo0p 0 (List.length aA))), (1, (eI a1)), (2, (eI b2)), (3, (eI n3)), (10, (eI i10))] ∧ aN ⟨H0, [lo0p], []⟩ H [(lo0p, 3, List.map aD aA)] ∧ List.length aA = N0 ∧ iW cmp4 aA a1 b2 n3 i10 = some r) ?_ ⟨aA, (0 : Int), .eq (by kernel_rfl), hO, hN, h0⟩
  clear hO hN h0
  rintro T H ⟨aA, i10, hT, hO, hN, h0⟩
  refine aY hT ?_
  clear hT
  unfold iW at h0
  obtain ⟨rr0, hl0, h0⟩ := aW h0
  refine bZ (by kernel_rfl) (fun (s : List aC × Int) T H => Has T [(0, (.msl 3 lo0p 0 (List.length s.1))), (1, (eI a1)), (2, (eI b2)), (3, (eI n3)), (10, (eI s.2))] ∧ aN ⟨H0, [lo0p], []⟩ H [(lo0p, 3, List.map aD s.1)] ∧ List.length s.1 = N0) hl0 ⟨.eq (by kernel_rfl), hO, hN⟩ ?_
  clear hO hN
  rintro k0 s out1 T H ⟨hT, hO, hN⟩ h1 ho0
  obtain ⟨aA, i10⟩ := s
  replace h1 : iT cmp4 a1 b2 n3 aA i10 = some out1 := h1
  dsimp only at hT
  refine aY hT ?_
  clear hT
  unfold iT at h1
  refine aP ?_
  refine aS aG 3 [] [(13, (aM (decide (i10 < n3))))] ?_
  refine bH h1 (fun h1 => ?_) (fun h1 => ?_)
  · refine bJ ?_
    refine bF [(0, (.msl 3 lo0p 0 (List.length aA))), (1, (eI a1)), (2, (eI b2)), (3, (eI n3)), (10, (eI i10))] ?_
    refine aP ?_
    refine bO 1 ?_
    refine jP (jQ []) aG 24 ?_
    obtain ⟨c2, h1⟩ := bE h1
    refine cX 13 [0 ≤ (wR (b2 + i10)) ∧ (wR (b2 + i10)) < (lN aA)] ⟨c2, trivial⟩ ?_
    refine jW 0 lo0p 3 (0 + Int.toNat (wR (b2 + i10))) (aD (gD aA (wR (b2 + i10)))) (aD (gD aA (wR (b2 + i10)))) (List.map aD aA) hO (cD c2) ?_
    obtain ⟨c3, h1⟩ := bE h1
    refine cX 19 [0 ≤ (wR (a1 + i10)) ∧ (wR (a1 + i10)) < (lN aA)] ⟨c3, trivial⟩ ?_
    refine jW 0 lo0p 3 (0 + Int.toNat (wR (a1 + i10))) (aD (gD aA (wR (a1 + i10)))) (aD (gD aA (wR (a1 + i10)))) (List.map aD aA) hO (cD c3) ?_
    obtain ⟨c4, h1⟩ := bE h1
    refine cX 21 [0 ≤ (wR (a1 + i10)) ∧ (wR (a1 + i10)) < (lN aA)] ⟨c4, trivial⟩ ?_
    refine pW 0 lo0p 3 (0 + Int.toNat (wR (a1 + i10))) (aD (gD aA (wR (a1 + i10)))) (aD (gD aA (wR (b2 + i10)))) (List.map aD aA) [(lo0p, 3, List.map aD (List.set aA (Int.toNat (wR (a1 + i10))) (gD aA (wR (b2 + i10)))))] hO (cD c4) (by simp only [List.set, mC]) ?_
    intro H hO
    replace hN : List.length (List.set aA (Int.toNat (wR (a1 + i10))) (gD aA (wR (b2 + i10)))) = N0 := by simpa using hN
    obtain ⟨c5, h1⟩ := bE h1
    refine cX 23 [0 ≤ (wR (b2 + i10)) ∧ (wR (b2 + i10)) < (lN aA)] ⟨c5, trivial⟩ ?_
    refine pW 0 lo0p 3 (0 + Int.toNat (wR (b2 + i10))) (aD (gD (List.set aA (Int.toNat (wR (a1 + i10))) (gD aA (wR (b2 + i10)))) (wR (b2 + i10)))) (aD (gD aA (wR (a1 + i10)))) (List.map aD (List.set aA (Int.toNat (wR (a1 + i10))) (gD aA (wR (b2 + i10))))) [(lo0p, 3, List.map aD (List.set (List.set aA (Int.toNat (wR (a1 + i10))) (gD aA (wR (b2 + i10)))) (Int.toNat (wR (b2 + i10))) (gD aA (wR (a1 + i10)))))] hO (sJ c5 (by simp [])) (by simp only [List.set, mC]) ?_
    intro H hO
    replace hN : List.length (List.set (List.set aA (Int.toNat (wR (a1 + i10))) (gD aA (wR (b2 + i10)))) (Int.toNat (wR (b2 + i10))) (gD aA (wR (a1 + i10)))) = N0 := by simpa using hN
    refine vJ (by kernel_rfl) ?_
    refine cG (l := [(0, (.msl 3 lo0p 0 (List.length (List.set (List.set aA (Int.toNat (wR (a1 + i10))) (gD aA (wR (b2 + i10)))) (Int.toNat (wR (b2 + i10))) (gD aA (wR (a1 + i10))))))), (1, (eI a1)), (2, (eI b2)), (3, (eI n3)), (10, (eI i10))]) ⟨[(0, (.msl 3 lo0p 0 (List.length aA))), (1, (eI a1)), (2, (eI b2)), (3, (eI n3)), (10, (eI i10))], by kernel_rfl, rfl, ⟨aR.eq (by simp []), aR.refl _, aR.refl _, aR.refl _, aR.refl _, trivial⟩⟩ ?_
    refine aI (aT (aH (?_)))
    refine aV aG 3 ?_
    refine bC ?_
    exact aI (aH (⟨rfl, _, (oI h1).symm, .eq (by kernel_rfl), hO, hN⟩))
  refine eP 0 ?_
  obtain rfl := oI h1
  obtain rfl : _ = rr0 := ho0
  replace h0 : some aA = some r := h0
  obtain rfl := oI h0
  exact aI (aU (aU (bL (oD (x := (.tup [])) (by kernel_rfl) (aR.refl _) ⟨rfl, hO.ext, hO.at 0 (by kernel_rfl), by simp only [List.length_map]; exact hN.trans hN0⟩))))

theorem sP (lo0p : Nat) (aA : (List aC)) (a1 : Int) (m2 : Int) (b3 : Int) (cmp4_f : Nat) (cmp4_a cmp4_c : List V) (cmp4 : aC → aC → Option Int) (cmp4_h : ∀ a0 a1 r, cmp4 a0 a1 = some r → bV Try.prog cmp4_f (cmp4_a ++ [(aD a0), (aD a1)] ++ cmp4_c) (eI r)) (r : List aC) (h0 : kF aA a1 m2 b3 cmp4 = some r) : jL Try.prog 118 lo0p 3 (List.map aD aA) (List.map aD r) [(.msl 3 lo0p 0 (List.length aA)), (eI a1), (eI m2), (eI b3), (.fn (.func cmp4_f) cmp4_a cmp4_c)] (.tup []) := by
  intro H0 hl0
  refine cE Try.func118 ?_
  have hO := aN.nF hl0
  clear hl0
  obtain ⟨N0, hN0⟩ : ∃ n, n = List.length aA := ⟨_, rfl⟩
  have hN : List.length aA = N0 := hN0.symm
  unfold kF at h0
  refine aS aG 4 [1] [(10, (eI (wR (m2 - a1))))] ?_
  refine aS aG 4 [3] [(11, (eI (wR (b3 - m2))))] ?_
  refine cY (fun T H => ∃ aA : List aC, ∃ i10 : Int, Has T [(0, (.msl 3 lo0p 0 (List.length aA))), (2, (eI m2)), (4, (.fn (.func cmp4_f) cmp4_a cmp4_c)), (10, (eI i10))] ∧ aN ⟨H0, [lo0p], []⟩ H [(lo0p, 3, List.map aD aA)] ∧ List.length aA = N0 ∧ fR cmp4 aA m2 i10 = some r) ?_ ?_
  · clear hO hN h0
    rintro T H ⟨aA, i10, hT, hO, hN, h0⟩
    refine aY hT ?_
    clear hT
    unfold fR at h0
    refine aV aG 8 ?_
    refine bN 7 ?_
    obtain ⟨x1, hx2, h0⟩ := aW h0
    refine mE [(lo0p, 3, List.map aD x1)] 0 (jI lo0p aA (wR (m2 - i10)) m2 i10 cmp4_f cmp4_a cmp4_c cmp4 cmp4_h _ hx2) hO ?_
    intro H hO hl3
    simp only [List.length_map] at hl3
    replace hN := hl3.trans hN
    refine cP ?_
    refine cG (l := [(0, (.msl 3 lo0p 0 (List.length x1)))]) ⟨[(0, (.msl 3 lo0p 0 (List.length aA)))], by kernel_rfl, rfl, ⟨aR.eq (by simp [hl3]), trivial⟩⟩ ?_
    obtain rfl := oI h0
    exact aI (oD (x := (.tup [])) (by kernel_rfl) (aR.refl _) ⟨rfl, hO.ext, hO.at 0 (by kernel_rfl), by simp only [List.length_map]; exact hN.trans hN0⟩)
  refine bO 0 ?_
  refine dL [(0, (.msl 3 lo0p 0 (List.length aA))), (2, (eI m2)), (4, (.fn (.func cmp4_f) cmp4_a cmp4_c)), (10, (eI (wR (m2 - a1)))), (11, (eI (wR (b3 - m2))))] ?_
  refine cR (fun T H => ∃ aA : List aC, ∃ i10 : Int, ∃ j11 : Int, Has T [(0, (.msl 3 lo0p 0 (List.length aA))), (2, (eI m2)), (4, (.fn (.func cmp4_f) cmp4_a cmp4_c)), (10, (eI i10)), (11, (eI j11))] ∧ aN ⟨H0, [lo0p], []⟩ H [(lo0p, 3, List.map aD aA)] ∧ List.length aA = N0 ∧ jX cmp4 aA m2 i10 j11 = some r) ?_ ⟨aA, wR (m2 - a1), wR (b3 - m2), .eq (by kernel_rfl), hO, hN, h0⟩
  clear hO hN h0
  rintro T H ⟨aA, i10, j11, hT, hO, hN, h0⟩
  refine aY hT ?_
  clear hT
  unfold jX at h0
  obtain ⟨rr0, hl0, h0⟩ := aW h0
  refine bZ (by kernel_rfl) (fun (s : List aC × Int × Int) T H => Has T [(0, (.msl 3 lo0p 0 (List.length s.1))), (2, (eI m2)), (4, (.fn (.func cmp4_f) cmp4_a cmp4_c)), (10, (eI s.2.1)), (11, (eI s.2.2))] ∧ aN ⟨H0, [lo0p], []⟩ H [(lo0p, 3, List.map aD s.1)] ∧ List.length s.1 = N0) hl0 ⟨.eq (by kernel_rfl), hO, hN⟩ ?_
  clear hO hN
  rintro k0 s out1 T H ⟨hT, hO, hN⟩ h1 ho0
  obtain ⟨aA, i10, j11⟩ := s
  replace h1 : jV cmp4 m2 aA i10 j11 = some out1 := h1
  dsimp only at hT
  refine aY hT ?_
  clear hT
  unfold jV at h1
  refine aP ?_
  refine aS aG 3 [] [(20, (aM (!decide (i10 = j11))))] ?_
  refine bH h1 (fun h1 => ?_) (fun h1 => ?_)
  · refine bJ ?_
    refine bF [(0, (.msl 3 lo0p 0 (List.length aA))), (2, (eI m2)), (4, (.fn (.func cmp4_f) cmp4_a cmp4_c)), (10, (eI i10)), (11, (eI j11))] ?_
    refine bO 1 ?_
    refine aS aG 3 [] [(23, (aM (decide (j11 < i10))))] ?_
    refine bH h1 (fun h1 => ?_) (fun h1 => ?_)
    · refine aP ?_
      refine aV aG 8 ?_
      refine bN 7 ?_
      obtain ⟨x6, hx7, h1⟩ := aW h1
      refine mE [(lo0p, 3, List.map aD x6)] 0 (jI lo0p aA (wR (m2 - i10)) m2 j11 cmp4_f cmp4_a cmp4_c cmp4 cmp4_h _ hx7) hO ?_
      intro H hO hl8
      simp only [List.length_map] at hl8
      replace hN := hl8.trans hN
      refine cP ?_
      refine cG (l := [(0, (.msl 3 lo0p 0 (List.length x6))), (2, (eI m2)), (4, (.fn (.func cmp4_f) cmp4_a cmp4_c)), (10, (eI i10)), (11, (eI j11))]) ⟨[(0, (.msl 3 lo0p 0 (List.length aA))), (2, (eI m2)), (4, (.fn (.func cmp4_f) cmp4_a cmp4_c)), (10, (eI i10)), (11, (eI j11))], by kernel_rfl, rfl, ⟨aR.eq (by simp [hl8]), aR.refl _, aR.refl _, aR.refl _, aR.refl _, trivial⟩⟩ ?_
      refine aI (aH (?_))
      refine aV aG 4 ?_
      refine bC ?_
      exact aI (aT (aH (⟨rfl, _, (oI h1).symm, .eq (by kernel_rfl), hO, hN⟩)))
    refine aP ?_
    refine aV aG 12 ?_
    refine bN 11 ?_
    obtain ⟨x9, hx10, h1⟩ := aW h1
    refine mE [(lo0p, 3, List.map aD x9)] 0 (jI lo0p aA (wR (m2 - i10)) (wR ((wR (m2 + j11)) - i10)) i10 cmp4_f cmp4_a cmp4_c cmp4 cmp4_h _ hx10) hO ?_
    intro H hO hl11
    simp only [List.length_map] at hl11
    replace hN := hl11.trans hN
    refine cP ?_
    refine cG (l := [(0, (.msl 3 lo0p 0 (List.length x9))), (2, (eI m2)), (4, (.fn (.func cmp4_f) cmp4_a cmp4_c)), (10, (eI i10)), (11, (eI j11))]) ⟨[(0, (.msl 3 lo0p 0 (List.length aA))), (2, (eI m2)), (4, (.fn (.func cmp4_f) cmp4_a cmp4_c)), (10, (eI i10)), (11, (eI j11))], by kernel_rfl, rfl, ⟨aR.eq (by simp [hl11]), aR.refl _, aR.refl _, aR.refl _, aR.refl _, trivial⟩⟩ ?_
    refine aI (aH (?_))
    refine aV aG 4 ?_
    refine bC ?_
    exact aI (aT (aH (⟨rfl, _, (oI h1).symm, .eq (by kernel_rfl), hO, hN⟩)))
  refine eP 0 ?_
  obtain rfl := oI h1
  obtain rfl : _ = rr0 := ho0
  replace h0 : fR cmp4 aA m2 i10 = some r := h0
  exact aI (aU (aU (bL (aH (⟨rfl, _, _, .eq (by kernel_rfl), hO, hN, h0⟩)))))

theorem pJ (cmp4_f : Nat) (cmp4_a cmp4_c : List V) (cmp4 : aC → aC → Option Int) (cmp4_h : ∀ a0 a1 r, cmp4 a0 a1 = some r → bV Try.prog cmp4_f (cmp4_a ++ [(aD a0), (aD a1)] ++ cmp4_c) (eI r)) (rec : (List aC) → Int → Int → Int → Option (List aC)) (ih : ∀ (lo0p : Nat) (aA : (List aC)) (a1 : Int) (m2 : Int) (b3 : Int) (r : List aC), rec aA a1 m2 b3 = some r → jL Try.prog 113 lo0p 3 (List.map aD aA) (List.map aD r) [(.msl 3 lo0p 0 (List.length aA)), (eI a1), (eI m2), (eI b3), (.fn (.func cmp4_f) cmp4_a cmp4_c)] (.tup [])) (lo0p : Nat) (aA : (List aC)) (a1 : Int) (m2 : Int) (b3 : Int) (r : List aC) (h0 : dB cmp4 rec aA a1 m2 b3 = some r) : jL Try.prog 113 lo0p 3 (List.map aD aA) (List.map aD r) [(.msl 3 lo0p 0 (List.length aA)), (eI a1), (eI m2), (eI b3), (.fn (.func cmp4_f) cmp4_a cmp4_c)] (.tup []) := by
  intro H0 hl0
  refine cE Try.func113 ?_
  have hO := aN.nF hl0
  clear hl0
  obtain ⟨N0, hN0⟩ : ∃ n, n = List.length aA := ⟨_, rfl⟩
  have hN : List.length aA = N0 := hN0.symm
  unfold dB at h0
  refine cY (fun T H => ∃ aA : List aC, Has T [(0, (.msl 3 lo0p 0 (List.length aA))), (1, (eI a1)), (2, (eI m2)), (3, (eI b3)), (4, (.fn (.func cmp4_f) cmp4_a cmp4_c))] ∧ aN ⟨H0, [lo0p], []⟩ H [(lo0p, 3, List.map aD aA)] ∧ List.length aA = N0 ∧ jB cmp4 rec aA a1 m2 b3 = some r) ?_ ?_
  · clear hO hN h0
    rintro T H ⟨aA, hT, hO, hN, h0⟩
    refine aY hT ?_
    clear hT
    unfold jB at h0
    refine cY (fun T H => ∃ aA : List aC, Has T [(0, (.msl 3 lo0p 0 (List.length aA))), (1, (eI a1)), (2, (eI m2)), (3, (eI b3)), (4, (.fn (.func cmp4_f) cmp4_a cmp4_c))] ∧ aN ⟨H0, [lo0p], []⟩ H [(lo0p, 3, List.map aD aA)] ∧ List.length aA = N0 ∧ jF cmp4 rec aA a1 m2 b3 = some r) ?_ ?_
    · clear hO hN h0
      rintro T H ⟨aA, hT, hO, hN, h0⟩
      refine aY hT ?_
      clear hT
      unfold jF at h0
      refine aP ?_
      refine aV aG 7 ?_
      obtain ⟨c1, h0⟩ := bE h0
      refine pV [0 ≤ (1 : Int)] ⟨c1, trivial⟩ ?_
      refine bR [] [(18, (eI (wR (Int.fdiv (IntKind.u64.wrap (wR (a1 + b3))) (2 ^ (min (Int.toNat (1 : Int)) 64))))))] ?_
      refine aS aG 4 [] [(19, (eI (wR ((wR (Int.fdiv (IntKind.u64.wrap (wR (a1 + b3))) (2 ^ (min (Int.toNat (1 : Int)) 64)))) + m2))))] ?_
      refine aS aG 2 [] [] ?_
      refine cY (fun T H => ∃ aA : List aC, ∃ bG : Int, ∃ n19 : Int, ∃ aO : Int, ∃ r21 : Int, Has T [(0, (.msl 3 lo0p 0 (List.length aA))), (1, (eI a1)), (2, (eI m2)), (3, (eI b3)), (4, (.fn (.func cmp4_f) cmp4_a cmp4_c)), (18, (eI bG)), (19, (eI n19)), (20, (eI aO)), (21, (eI r21))] ∧ aN ⟨H0, [lo0p], []⟩ H [(lo0p, 3, List.map aD aA)] ∧ List.length aA = N0 ∧ fD cmp4 rec aA a1 m2 b3 bG n19 aO r21 = some r) ?_ ?_
      · clear hO hN h0
        rintro T H ⟨aA, bG, n19, aO, r21, hT, hO, hN, h0⟩
        refine aY hT ?_
        clear hT
        unfold fD at h0
        refine aS aG 3 [] [(22, (eI (wR (n19 - (1 : Int)))))] ?_
        refine cY (fun T H => ∃ aA : List aC, ∃ aO : Int, Has T [(0, (.msl 3 lo0p 0 (List.length aA))), (1, (eI a1)), (2, (eI m2)), (3, (eI b3)), (4, (.fn (.func cmp4_f) cmp4_a cmp4_c)), (18, (eI bG)), (19, (eI n19)), (20, (eI aO))] ∧ aN ⟨H0, [lo0p], []⟩ H [(lo0p, 3, List.map aD aA)] ∧ List.length aA = N0 ∧ fC cmp4 rec aA a1 m2 b3 bG n19 aO = some r) ?_ ?_
        · clear hO hN h0
          rintro T H ⟨aA, aO, hT, hO, hN, h0⟩
          refine aY hT ?_
          clear hT
          unfold fC at h0
          refine aS aG 4 [19] [(24, (eI (wR (n19 - aO))))] ?_
          refine cY (fun T H => ∃ aA : List aC, ∃ dD : Int, Has T [(0, (.msl 3 lo0p 0 (List.length aA))), (1, (eI a1)), (3, (eI b3)), (4, (.fn (.func cmp4_f) cmp4_a cmp4_c)), (18, (eI bG)), (20, (eI aO)), (24, (eI dD))] ∧ aN ⟨H0, [lo0p], []⟩ H [(lo0p, 3, List.map aD aA)] ∧ List.length aA = N0 ∧ eY cmp4 rec aA a1 b3 bG aO dD = some r) ?_ ?_
          · clear hO hN h0
            rintro T H ⟨aA, dD, hT, hO, hN, h0⟩
            refine aY hT ?_
            clear hT
            unfold eY at h0
            refine cY (fun T H => ∃ aA : List aC, Has T [(0, (.msl 3 lo0p 0 (List.length aA))), (3, (eI b3)), (4, (.fn (.func cmp4_f) cmp4_a cmp4_c)), (18, (eI bG)), (24, (eI dD))] ∧ aN ⟨H0, [lo0p], []⟩ H [(lo0p, 3, List.map aD aA)] ∧ List.length aA = N0 ∧ fJ cmp4 rec aA b3 bG dD = some r) ?_ ?_
            · clear hO hN h0
              rintro T H ⟨aA, hT, hO, hN, h0⟩
              refine aY hT ?_
              clear hT
              unfold fJ at h0
              refine aS aG 8 [] [(213, (aM ((decide (bG < dD)) && (decide (dD < b3)))))] ?_
              refine bH h0 (fun h0 => ?_) (fun h0 => ?_)
              · refine aV aG 6 ?_
                refine bN 5 ?_
                obtain ⟨x3, hx4, h0⟩ := aW h0
                refine mE [(lo0p, 3, List.map aD x3)] 0 (ih lo0p aA bG dD b3 _ hx4) hO ?_
                intro H hO hl5
                simp only [List.length_map] at hl5
                replace hN := hl5.trans hN
                refine cP ?_
                refine cG (l := [(0, (.msl 3 lo0p 0 (List.length x3)))]) ⟨[(0, (.msl 3 lo0p 0 (List.length aA)))], by kernel_rfl, rfl, ⟨aR.eq (by simp [hl5]), trivial⟩⟩ ?_
                obtain rfl := oI h0
                exact aI (oD (x := (.tup [])) (by kernel_rfl) (aR.refl _) ⟨rfl, hO.ext, hO.at 0 (by kernel_rfl), by simp only [List.length_map]; exact hN.trans hN0⟩)
              refine bJ ?_
              obtain rfl := oI h0
              exact aI (oD (x := (.tup [])) (by kernel_rfl) (aR.refl _) ⟨rfl, hO.ext, hO.at 0 (by kernel_rfl), by simp only [List.length_map]; exact hN.trans hN0⟩)
            refine aS aG 8 [] [(199, (aM ((decide (a1 < aO)) && (decide (aO < bG)))))] ?_
            refine bH h0 (fun h0 => ?_) (fun h0 => ?_)
            · refine aV aG 6 ?_
              refine bN 5 ?_
              obtain ⟨x7, hx8, h0⟩ := aW h0
              refine mE [(lo0p, 3, List.map aD x7)] 0 (ih lo0p aA a1 aO bG _ hx8) hO ?_
              intro H hO hl9
              simp only [List.length_map] at hl9
              replace hN := hl9.trans hN
              refine cP ?_
              refine cG (l := [(0, (.msl 3 lo0p 0 (List.length x7))), (3, (eI b3)), (4, (.fn (.func cmp4_f) cmp4_a cmp4_c)), (18, (eI bG)), (24, (eI dD))]) ⟨[(0, (.msl 3 lo0p 0 (List.length aA))), (3, (eI b3)), (4, (.fn (.func cmp4_f) cmp4_a cmp4_c)), (18, (eI bG)), (24, (eI dD))], by kernel_rfl, rfl, ⟨aR.eq (by simp [hl9]), aR.refl _, aR.refl _, aR.refl _, aR.refl _, trivial⟩⟩ ?_
              exact aI (aH (⟨rfl, _, .eq (by kernel_rfl), hO, hN, h0⟩))
            refine bJ ?_
            exact aI (aH (⟨rfl, _, .eq (by kernel_rfl), hO, hN, h0⟩))
          refine aS aG 8 [] [(185, (aM ((decide (aO < m2)) && (decide (m2 < (wR (n19 - aO)))))))] ?_
          refine bH h0 (fun h0 => ?_) (fun h0 => ?_)
          · refine aV aG 6 ?_
            refine bN 5 ?_
            obtain ⟨x11, hx12, h0⟩ := aW h0
            refine mE [(lo0p, 3, List.map aD x11)] 0 (sP lo0p aA aO m2 (wR (n19 - aO)) cmp4_f cmp4_a cmp4_c cmp4 cmp4_h _ hx12) hO ?_
            intro H hO hl13
            simp only [List.length_map] at hl13
            replace hN := hl13.trans hN
            refine cP ?_
            refine cG (l := [(0, (.msl 3 lo0p 0 (List.length x11))), (1, (eI a1)), (3, (eI b3)), (4, (.fn (.func cmp4_f) cmp4_a cmp4_c)), (18, (eI bG)), (20, (eI aO)), (24, (eI (wR (n19 - aO))))]) ⟨[(0, (.msl 3 lo0p 0 (List.length aA))), (1, (eI a1)), (3, (eI b3)), (4, (.fn (.func cmp4_f) cmp4_a cmp4_c)), (18, (eI bG)), (20, (eI aO)), (24, (eI (wR (n19 - aO))))], by kernel_rfl, rfl, ⟨aR.eq (by simp [hl13]), aR.refl _, aR.refl _, aR.refl _, aR.refl _, aR.refl _, aR.refl _, trivial⟩⟩ ?_
            exact aI (aH (⟨rfl, _, _, .eq (by kernel_rfl), hO, hN, h0⟩))
          refine bJ ?_
          exact aI (aH (⟨rfl, _, _, .eq (by kernel_rfl), hO, hN, h0⟩))
        refine bO 8 ?_
        refine dL [(0, (.msl 3 lo0p 0 (List.length aA))), (1, (eI a1)), (2, (eI m2)), (3, (eI b3)), (4, (.fn (.func cmp4_f) cmp4_a cmp4_c)), (18, (eI bG)), (19, (eI n19)), (20, (eI aO)), (21, (eI r21)), (22, (eI (wR (n19 - (1 : Int)))))] ?_
        refine cR (fun T H => ∃ aA : List aC, ∃ aO : Int, ∃ r21 : Int, ∃ p22 : Int, Has T [(0, (.msl 3 lo0p 0 (List.length aA))), (1, (eI a1)), (2, (eI m2)), (3, (eI b3)), (4, (.fn (.func cmp4_f) cmp4_a cmp4_c)), (18, (eI bG)), (19, (eI n19)), (20, (eI aO)), (21, (eI r21)), (22, (eI p22))] ∧ aN ⟨H0, [lo0p], []⟩ H [(lo0p, 3, List.map aD aA)] ∧ List.length aA = N0 ∧ jH cmp4 rec aA a1 m2 b3 bG n19 aO r21 p22 = some r) ?_ ⟨aA, aO, r21, wR (n19 - (1 : Int)), .eq (by kernel_rfl), hO, hN, h0⟩
        clear hO hN h0
        rintro T H ⟨aA, aO, r21, p22, hT, hO, hN, h0⟩
        refine aY hT ?_
        clear hT
        unfold jH at h0
        obtain ⟨rr0, hl0, h0⟩ := aW h0
        refine bZ (by kernel_rfl) (fun (s : List aC × Int × Int) T H => Has T [(0, (.msl 3 lo0p 0 (List.length s.1))), (1, (eI a1)), (2, (eI m2)), (3, (eI b3)), (4, (.fn (.func cmp4_f) cmp4_a cmp4_c)), (18, (eI bG)), (19, (eI n19)), (20, (eI s.2.1)), (21, (eI s.2.2)), (22, (eI p22))] ∧ aN ⟨H0, [lo0p], []⟩ H [(lo0p, 3, List.map aD s.1)] ∧ List.length s.1 = N0) hl0 ⟨.eq (by kernel_rfl), hO, hN⟩ ?_
        clear hO hN
        rintro k0 s out1 T H ⟨hT, hO, hN⟩ h1 ho0
        obtain ⟨aA, aO, r21⟩ := s
        replace h1 : jC cmp4 rec a1 m2 b3 bG n19 p22 aA aO r21 = some out1 := h1
        dsimp only at hT
        refine aY hT ?_
        clear hT
        unfold jC at h1
        refine aP ?_
        refine aS aG 3 [] [(151, (aM (decide (aO < r21))))] ?_
        refine bH h1 (fun h1 => ?_) (fun h1 => ?_)
        · refine bJ ?_
          refine bF [(0, (.msl 3 lo0p 0 (List.length aA))), (1, (eI a1)), (2, (eI m2)), (3, (eI b3)), (4, (.fn (.func cmp4_f) cmp4_a cmp4_c)), (18, (eI bG)), (19, (eI n19)), (20, (eI aO)), (21, (eI r21)), (22, (eI p22))] ?_
          refine bO 9 ?_
          refine aP ?_
          refine aV aG 7 ?_
          obtain ⟨c15, h1⟩ := bE h1
          refine pV [0 ≤ (1 : Int)] ⟨c15, trivial⟩ ?_
          refine bR [] [(23, (eI (wR (Int.fdiv (IntKind.u64.wrap (wR (aO + r21))) (2 ^ (min (Int.toNat (1 : Int)) 64))))))] ?_
          refine aP ?_
          refine jP (jQ []) aG 14 ?_
          obtain ⟨c16, h1⟩ := bE h1
          refine cX 6 [0 ≤ (wR (p22 - (wR (Int.fdiv (IntKind.u64.wrap (wR (aO + r21))) (2 ^ (min (Int.toNat (1 : Int)) 64)))))) ∧ (wR (p22 - (wR (Int.fdiv (IntKind.u64.wrap (wR (aO + r21))) (2 ^ (min (Int.toNat (1 : Int)) 64)))))) < (lN aA)] ⟨c16, trivial⟩ ?_
          refine jW 0 lo0p 3 (0 + Int.toNat (wR (p22 - (wR (Int.fdiv (IntKind.u64.wrap (wR (aO + r21))) (2 ^ (min (Int.toNat (1 : Int)) 64))))))) (aD (gD aA (wR (p22 - (wR (Int.fdiv (IntKind.u64.wrap (wR (aO + r21))) (2 ^ (min (Int.toNat (1 : Int)) 64)))))))) (aD (gD aA (wR (p22 - (wR (Int.fdiv (IntKind.u64.wrap (wR (aO + r21))) (2 ^ (min (Int.toNat (1 : Int)) 64)))))))) (List.map aD aA) hO (cD c16) ?_
          obtain ⟨c17, h1⟩ := bE h1
          refine cX 10 [0 ≤ (wR (Int.fdiv (IntKind.u64.wrap (wR (aO + r21))) (2 ^ (min (Int.toNat (1 : Int)) 64)))) ∧ (wR (Int.fdiv (IntKind.u64.wrap (wR (aO + r21))) (2 ^ (min (Int.toNat (1 : Int)) 64)))) < (lN aA)] ⟨c17, trivial⟩ ?_
          refine jW 0 lo0p 3 (0 + Int.toNat (wR (Int.fdiv (IntKind.u64.wrap (wR (aO + r21))) (2 ^ (min (Int.toNat (1 : Int)) 64))))) (aD (gD aA (wR (Int.fdiv (IntKind.u64.wrap (wR (aO + r21))) (2 ^ (min (Int.toNat (1 : Int)) 64)))))) (aD (gD aA (wR (Int.fdiv (IntKind.u64.wrap (wR (aO + r21))) (2 ^ (min (Int.toNat (1 : Int)) 64)))))) (List.map aD aA) hO (cD c17) ?_
          obtain ⟨x18, hx19, h1⟩ := aW h1
          refine vD (cmp4_h (gD aA (wR (p22 - (wR (Int.fdiv (IntKind.u64.wrap (wR (aO + r21))) (2 ^ (min (Int.toNat (1 : Int)) 64))))))) (gD aA (wR (Int.fdiv (IntKind.u64.wrap (wR (aO + r21))) (2 ^ (min (Int.toNat (1 : Int)) 64))))) _ hx19) hO ?_
          intro H hO
          refine nS ?_
          refine bR [] [(171, (aM (!(decide (x18 < (0 : Int))))))] ?_
          refine bH h1 (fun h1 => ?_) (fun h1 => ?_)
          · refine aV aG 3 ?_
            refine bC ?_
            exact aI (aT (aH (⟨rfl, _, (oI h1).symm, .eq (by kernel_rfl), hO, hN⟩)))
          refine aV aG 2 ?_
          refine bC ?_
          exact aI (aT (aH (⟨rfl, _, (oI h1).symm, .eq (by kernel_rfl), hO, hN⟩)))
        refine eP 8 ?_
        obtain rfl := oI h1
        obtain rfl : _ = rr0 := ho0
        replace h0 : fC cmp4 rec aA a1 m2 b3 bG n19 aO = some r := h0
        exact aI (aU (aU (bL (aH (⟨rfl, _, _, .eq (by kernel_rfl), hO, hN, h0⟩)))))
      refine aS aG 3 [] [(140, (aM (decide ((wR (Int.fdiv (IntKind.u64.wrap (wR (a1 + b3))) (2 ^ (min (Int.toNat (1 : Int)) 64)))) < m2))))] ?_
      refine bH h0 (fun h0 => ?_) (fun h0 => ?_)
      · refine bQ aG 4 [(0, (.msl 3 lo0p 0 (List.length aA))), (1, (eI a1)), (2, (eI m2)), (3, (eI b3)), (4, (.fn (.func cmp4_f) cmp4_a cmp4_c)), (18, (eI (wR (Int.fdiv (IntKind.u64.wrap (wR (a1 + b3))) (2 ^ (min (Int.toNat (1 : Int)) 64)))))), (19, (eI (wR ((wR (Int.fdiv (IntKind.u64.wrap (wR (a1 + b3))) (2 ^ (min (Int.toNat (1 : Int)) 64)))) + m2)))), (20, (eI (wR ((wR ((wR (Int.fdiv (IntKind.u64.wrap (wR (a1 + b3))) (2 ^ (min (Int.toNat (1 : Int)) 64)))) + m2)) - b3))))] ?_
        refine aV aG 2 ?_
        refine bC ?_
        exact aI (aH (⟨rfl, _, _, _, _, _, .eq (by kernel_rfl), hO, hN, h0⟩))
      refine bQ aG 2 [(0, (.msl 3 lo0p 0 (List.length aA))), (1, (eI a1)), (2, (eI m2)), (3, (eI b3)), (4, (.fn (.func cmp4_f) cmp4_a cmp4_c)), (18, (eI (wR (Int.fdiv (IntKind.u64.wrap (wR (a1 + b3))) (2 ^ (min (Int.toNat (1 : Int)) 64)))))), (19, (eI (wR ((wR (Int.fdiv (IntKind.u64.wrap (wR (a1 + b3))) (2 ^ (min (Int.toNat (1 : Int)) 64)))) + m2)))), (20, (eI a1))] ?_
      refine aV aG 2 ?_
      refine bC ?_
      exact aI (aH (⟨rfl, _, _, _, _, _, .eq (by kernel_rfl), hO, hN, h0⟩))
    refine aS aG 4 [] [(80, (aM (decide ((wR (b3 - m2)) = (1 : Int)))))] ?_
    refine bH h0 (fun h0 => ?_) (fun h0 => ?_)
    · refine aS aG 2 [1, 3, 80] [(14, (eI a1))] ?_
      refine aS aG 2 [] [(15, (eI m2))] ?_
      refine cY (fun T H => ∃ aA : List aC, ∃ i14 : Int, Has T [(0, (.msl 3 lo0p 0 (List.length aA))), (2, (eI m2)), (14, (eI i14))] ∧ aN ⟨H0, [lo0p], []⟩ H [(lo0p, 3, List.map aD aA)] ∧ List.length aA = N0 ∧ eX cmp4 rec aA m2 i14 = some r) ?_ ?_
      · clear hO hN h0
        rintro T H ⟨aA, i14, hT, hO, hN, h0⟩
        refine aY hT ?_
        clear hT
        unfold eX at h0
        refine cY (fun T H => ∃ aA : List aC, Has T [(0, (.msl 3 lo0p 0 (List.length aA)))] ∧ aN ⟨H0, [lo0p], []⟩ H [(lo0p, 3, List.map aD aA)] ∧ List.length aA = N0 ∧ fB cmp4 rec aA = some r) ?_ ?_
        · clear hO hN h0
          rintro T H ⟨aA, hT, hO, hN, h0⟩
          refine aY hT ?_
          clear hT
          unfold fB at h0
          refine bI ?_
          obtain rfl := oI h0
          exact aI (aX (nP (x := (.tup [])) (by kernel_rfl) (aR.refl _) ⟨rfl, hO.ext, hO.at 0 (by kernel_rfl), by simp only [List.length_map]; exact hN.trans hN0⟩))
        refine aS aG 2 [2] [(17, (eI m2))] ?_
        refine bO 6 ?_
        refine dL [(0, (.msl 3 lo0p 0 (List.length aA))), (14, (eI i14)), (17, (eI m2))] ?_
        refine cR (fun T H => ∃ aA : List aC, ∃ k17 : Int, Has T [(0, (.msl 3 lo0p 0 (List.length aA))), (14, (eI i14)), (17, (eI k17))] ∧ aN ⟨H0, [lo0p], []⟩ H [(lo0p, 3, List.map aD aA)] ∧ List.length aA = N0 ∧ iV cmp4 rec aA i14 k17 = some r) ?_ ⟨aA, m2, .eq (by kernel_rfl), hO, hN, h0⟩
        clear hO hN h0
        rintro T H ⟨aA, k17, hT, hO, hN, h0⟩
        refine aY hT ?_
        clear hT
        unfold iV at h0
        obtain ⟨rr0, hl0, h0⟩ := aW h0
        refine bZ (by kernel_rfl) (fun (s : List aC × Int) T H => Has T [(0, (.msl 3 lo0p 0 (List.length s.1))), (14, (eI i14)), (17, (eI s.2))] ∧ aN ⟨H0, [lo0p], []⟩ H [(lo0p, 3, List.map aD s.1)] ∧ List.length s.1 = N0) hl0 ⟨.eq (by kernel_rfl), hO, hN⟩ ?_
        clear hO hN
        rintro k0 s out1 T H ⟨hT, hO, hN⟩ h1 ho0
        obtain ⟨aA, k17⟩ := s
        replace h1 : iK cmp4 rec i14 aA k17 = some out1 := h1
        dsimp only at hT
        refine aY hT ?_
        clear hT
        unfold iK at h1
        refine aP ?_
        refine aS aG 3 [] [(110, (aM (decide (i14 < k17))))] ?_
        refine bH h1 (fun h1 => ?_) (fun h1 => ?_)
        · refine bJ ?_
          refine bF [(0, (.msl 3 lo0p 0 (List.length aA))), (14, (eI i14)), (17, (eI k17))] ?_
          refine aP ?_
          refine bO 7 ?_
          refine jP (jQ []) aG 18 ?_
          obtain ⟨c25, h1⟩ := bE h1
          refine cX 9 [0 ≤ (wR (k17 - (1 : Int))) ∧ (wR (k17 - (1 : Int))) < (lN aA)] ⟨c25, trivial⟩ ?_
          refine jW 0 lo0p 3 (0 + Int.toNat (wR (k17 - (1 : Int)))) (aD (gD aA (wR (k17 - (1 : Int))))) (aD (gD aA (wR (k17 - (1 : Int))))) (List.map aD aA) hO (cD c25) ?_
          obtain ⟨c26, h1⟩ := bE h1
          refine cX 13 [0 ≤ k17 ∧ k17 < (lN aA)] ⟨c26, trivial⟩ ?_
          refine jW 0 lo0p 3 (0 + Int.toNat k17) (aD (gD aA k17)) (aD (gD aA k17)) (List.map aD aA) hO (cD c26) ?_
          obtain ⟨c27, h1⟩ := bE h1
          refine cX 15 [0 ≤ k17 ∧ k17 < (lN aA)] ⟨c27, trivial⟩ ?_
          refine pW 0 lo0p 3 (0 + Int.toNat k17) (aD (gD aA k17)) (aD (gD aA (wR (k17 - (1 : Int))))) (List.map aD aA) [(lo0p, 3, List.map aD (List.set aA (Int.toNat k17) (gD aA (wR (k17 - (1 : Int))))))] hO (cD c27) (by simp only [List.set, mC]) ?_
          intro H hO
          replace hN : List.length (List.set aA (Int.toNat k17) (gD aA (wR (k17 - (1 : Int))))) = N0 := by simpa using hN
          obtain ⟨c28, h1⟩ := bE h1
          refine cX 17 [0 ≤ (wR (k17 - (1 : Int))) ∧ (wR (k17 - (1 : Int))) < (lN aA)] ⟨c28, trivial⟩ ?_
          refine pW 0 lo0p 3 (0 + Int.toNat (wR (k17 - (1 : Int)))) (aD (gD (List.set aA (Int.toNat k17) (gD aA (wR (k17 - (1 : Int))))) (wR (k17 - (1 : Int))))) (aD (gD aA k17)) (List.map aD (List.set aA (Int.toNat k17) (gD aA (wR (k17 - (1 : Int)))))) [(lo0p, 3, List.map aD (List.set (List.set aA (Int.toNat k17) (gD aA (wR (k17 - (1 : Int))))) (Int.toNat (wR (k17 - (1 : Int)))) (gD aA k17)))] hO (sJ c28 (by simp [])) (by simp only [List.set, mC]) ?_
          intro H hO
          replace hN : List.length (List.set (List.set aA (Int.toNat k17) (gD aA (wR (k17 - (1 : Int))))) (Int.toNat (wR (k17 - (1 : Int)))) (gD aA k17)) = N0 := by simpa using hN
          refine vJ (by kernel_rfl) ?_
          refine cG (l := [(0, (.msl 3 lo0p 0 (List.length (List.set (List.set aA (Int.toNat k17) (gD aA (wR (k17 - (1 : Int))))) (Int.toNat (wR (k17 - (1 : Int)))) (gD aA k17))))), (14, (eI i14)), (17, (eI k17))]) ⟨[(0, (.msl 3 lo0p 0 (List.length aA))), (14, (eI i14)), (17, (eI k17))], by kernel_rfl, rfl, ⟨aR.eq (by simp []), aR.refl _, aR.refl _, trivial⟩⟩ ?_
          refine aI (aT (aH (?_)))
          refine aV aG 3 ?_
          refine bC ?_
          exact aI (aH (⟨rfl, _, (oI h1).symm, .eq (by kernel_rfl), hO, hN⟩))
        refine eP 6 ?_
        obtain rfl := oI h1
        obtain rfl : _ = rr0 := ho0
        replace h0 : fB cmp4 rec aA = some r := h0
        exact aI (aU (aU (bL (aH (⟨rfl, _, .eq (by kernel_rfl), hO, hN, h0⟩)))))
      refine bO 4 ?_
      refine dL [(0, (.msl 3 lo0p 0 (List.length aA))), (2, (eI m2)), (4, (.fn (.func cmp4_f) cmp4_a cmp4_c)), (14, (eI a1)), (15, (eI m2))] ?_
      refine cR (fun T H => ∃ aA : List aC, ∃ i14 : Int, ∃ j15 : Int, Has T [(0, (.msl 3 lo0p 0 (List.length aA))), (2, (eI m2)), (4, (.fn (.func cmp4_f) cmp4_a cmp4_c)), (14, (eI i14)), (15, (eI j15))] ∧ aN ⟨H0, [lo0p], []⟩ H [(lo0p, 3, List.map aD aA)] ∧ List.length aA = N0 ∧ iM cmp4 rec aA m2 i14 j15 = some r) ?_ ⟨aA, a1, m2, .eq (by kernel_rfl), hO, hN, h0⟩
      clear hO hN h0
      rintro T H ⟨aA, i14, j15, hT, hO, hN, h0⟩
      refine aY hT ?_
      clear hT
      unfold iM at h0
      obtain ⟨rr0, hl0, h0⟩ := aW h0
      refine bZ (by kernel_rfl) (fun (s : List aC × Int × Int) T H => Has T [(0, (.msl 3 lo0p 0 (List.length s.1))), (2, (eI m2)), (4, (.fn (.func cmp4_f) cmp4_a cmp4_c)), (14, (eI s.2.1)), (15, (eI s.2.2))] ∧ aN ⟨H0, [lo0p], []⟩ H [(lo0p, 3, List.map aD s.1)] ∧ List.length s.1 = N0) hl0 ⟨.eq (by kernel_rfl), hO, hN⟩ ?_
      clear hO hN
      rintro k0 s out1 T H ⟨hT, hO, hN⟩ h1 ho0
      obtain ⟨aA, i14, j15⟩ := s
      replace h1 : iQ cmp4 rec m2 aA i14 j15 = some out1 := h1
      dsimp only at hT
      refine aY hT ?_
      clear hT
      unfold iQ at h1
      refine aP ?_
      refine aS aG 3 [] [(85, (aM (decide (i14 < j15))))] ?_
      refine bH h1 (fun h1 => ?_) (fun h1 => ?_)
      · refine bJ ?_
        refine bF [(0, (.msl 3 lo0p 0 (List.length aA))), (2, (eI m2)), (4, (.fn (.func cmp4_f) cmp4_a cmp4_c)), (14, (eI i14)), (15, (eI j15))] ?_
        refine bO 5 ?_
        refine aP ?_
        refine aV aG 7 ?_
        obtain ⟨c30, h1⟩ := bE h1
        refine pV [0 ≤ (1 : Int)] ⟨c30, trivial⟩ ?_
        refine bR [] [(16, (eI (wR (Int.fdiv (IntKind.u64.wrap (wR (i14 + j15))) (2 ^ (min (Int.toNat (1 : Int)) 64))))))] ?_
        refine aP ?_
        refine jP (jQ []) aG 12 ?_
        obtain ⟨c31, h1⟩ := bE h1
        refine cX 4 [0 ≤ m2 ∧ m2 < (lN aA)] ⟨c31, trivial⟩ ?_
        refine jW 0 lo0p 3 (0 + Int.toNat m2) (aD (gD aA m2)) (aD (gD aA m2)) (List.map aD aA) hO (cD c31) ?_
        obtain ⟨c32, h1⟩ := bE h1
        refine cX 8 [0 ≤ (wR (Int.fdiv (IntKind.u64.wrap (wR (i14 + j15))) (2 ^ (min (Int.toNat (1 : Int)) 64)))) ∧ (wR (Int.fdiv (IntKind.u64.wrap (wR (i14 + j15))) (2 ^ (min (Int.toNat (1 : Int)) 64)))) < (lN aA)] ⟨c32, trivial⟩ ?_
        refine jW 0 lo0p 3 (0 + Int.toNat (wR (Int.fdiv (IntKind.u64.wrap (wR (i14 + j15))) (2 ^ (min (Int.toNat (1 : Int)) 64))))) (aD (gD aA (wR (Int.fdiv (IntKind.u64.wrap (wR (i14 + j15))) (2 ^ (min (Int.toNat (1 : Int)) 64)))))) (aD (gD aA (wR (Int.fdiv (IntKind.u64.wrap (wR (i14 + j15))) (2 ^ (min (Int.toNat (1 : Int)) 64)))))) (List.map aD aA) hO (cD c32) ?_
        obtain ⟨x33, hx34, h1⟩ := aW h1
        refine vD (cmp4_h (gD aA m2) (gD aA (wR (Int.fdiv (IntKind.u64.wrap (wR (i14 + j15))) (2 ^ (min (Int.toNat (1 : Int)) 64))))) _ hx34) hO ?_
        intro H hO
        refine nS ?_
        refine bR [] [(103, (aM (!(decide (x33 < (0 : Int))))))] ?_
        refine bH h1 (fun h1 => ?_) (fun h1 => ?_)
        · refine aV aG 3 ?_
          refine bC ?_
          exact aI (aT (aH (⟨rfl, _, (oI h1).symm, .eq (by kernel_rfl), hO, hN⟩)))
        refine aV aG 2 ?_
        refine bC ?_
        exact aI (aT (aH (⟨rfl, _, (oI h1).symm, .eq (by kernel_rfl), hO, hN⟩)))
      refine eP 4 ?_
      obtain rfl := oI h1
      obtain rfl : _ = rr0 := ho0
      replace h0 : eX cmp4 rec aA m2 i14 = some r := h0
      exact aI (aU (aU (bL (aH (⟨rfl, _, _, .eq (by kernel_rfl), hO, hN, h0⟩)))))
    refine bJ ?_
    exact aI (aH (⟨rfl, _, .eq (by kernel_rfl), hO, hN, h0⟩))
  refine aS aG 4 [] [(28, (aM (decide ((wR (m2 - a1)) = (1 : Int)))))] ?_
  refine bH h0 (fun h0 => ?_) (fun h0 => ?_)
  · refine aS aG 2 [2, 28] [(10, (eI m2))] ?_
    refine aS aG 2 [3] [(11, (eI b3))] ?_
    refine cY (fun T H => ∃ aA : List aC, ∃ i10 : Int, Has T [(0, (.msl 3 lo0p 0 (List.length aA))), (1, (eI a1)), (10, (eI i10))] ∧ aN ⟨H0, [lo0p], []⟩ H [(lo0p, 3, List.map aD aA)] ∧ List.length aA = N0 ∧ eS cmp4 rec aA a1 i10 = some r) ?_ ?_
    · clear hO hN h0
      rintro T H ⟨aA, i10, hT, hO, hN, h0⟩
      refine aY hT ?_
      clear hT
      unfold eS at h0
      refine cY (fun T H => ∃ aA : List aC, Has T [(0, (.msl 3 lo0p 0 (List.length aA)))] ∧ aN ⟨H0, [lo0p], []⟩ H [(lo0p, 3, List.map aD aA)] ∧ List.length aA = N0 ∧ eT cmp4 rec aA = some r) ?_ ?_
      · clear hO hN h0
        rintro T H ⟨aA, hT, hO, hN, h0⟩
        refine aY hT ?_
        clear hT
        unfold eT at h0
        refine bI ?_
        obtain rfl := oI h0
        exact aI (aX (nP (x := (.tup [])) (by kernel_rfl) (aR.refl _) ⟨rfl, hO.ext, hO.at 0 (by kernel_rfl), by simp only [List.length_map]; exact hN.trans hN0⟩))
      refine aS aG 2 [1] [(13, (eI a1))] ?_
      refine bO 2 ?_
      refine dL [(0, (.msl 3 lo0p 0 (List.length aA))), (10, (eI i10)), (13, (eI a1))] ?_
      refine cR (fun T H => ∃ aA : List aC, ∃ k13 : Int, Has T [(0, (.msl 3 lo0p 0 (List.length aA))), (10, (eI i10)), (13, (eI k13))] ∧ aN ⟨H0, [lo0p], []⟩ H [(lo0p, 3, List.map aD aA)] ∧ List.length aA = N0 ∧ iP cmp4 rec aA i10 k13 = some r) ?_ ⟨aA, a1, .eq (by kernel_rfl), hO, hN, h0⟩
      clear hO hN h0
      rintro T H ⟨aA, k13, hT, hO, hN, h0⟩
      refine aY hT ?_
      clear hT
      unfold iP at h0
      obtain ⟨rr0, hl0, h0⟩ := aW h0
      refine bZ (by kernel_rfl) (fun (s : List aC × Int) T H => Has T [(0, (.msl 3 lo0p 0 (List.length s.1))), (10, (eI i10)), (13, (eI s.2))] ∧ aN ⟨H0, [lo0p], []⟩ H [(lo0p, 3, List.map aD s.1)] ∧ List.length s.1 = N0) hl0 ⟨.eq (by kernel_rfl), hO, hN⟩ ?_
      clear hO hN
      rintro k0 s out1 T H ⟨hT, hO, hN⟩ h1 ho0
      obtain ⟨aA, k13⟩ := s
      replace h1 : iL cmp4 rec i10 aA k13 = some out1 := h1
      dsimp only at hT
      refine aY hT ?_
      clear hT
      unfold iL at h1
      refine aP ?_
      refine aS aG 4 [] [(58, (aM (decide (k13 < (wR (i10 - (1 : Int)))))))] ?_
      refine bH h1 (fun h1 => ?_) (fun h1 => ?_)
      · refine bJ ?_
        refine bF [(0, (.msl 3 lo0p 0 (List.length aA))), (10, (eI i10)), (13, (eI k13))] ?_
        refine aP ?_
        refine bO 3 ?_
        refine jP (jQ []) aG 18 ?_
        obtain ⟨c39, h1⟩ := bE h1
        refine cX 9 [0 ≤ (wR (k13 + (1 : Int))) ∧ (wR (k13 + (1 : Int))) < (lN aA)] ⟨c39, trivial⟩ ?_
        refine jW 0 lo0p 3 (0 + Int.toNat (wR (k13 + (1 : Int)))) (aD (gD aA (wR (k13 + (1 : Int))))) (aD (gD aA (wR (k13 + (1 : Int))))) (List.map aD aA) hO (cD c39) ?_
        obtain ⟨c40, h1⟩ := bE h1
        refine cX 13 [0 ≤ k13 ∧ k13 < (lN aA)] ⟨c40, trivial⟩ ?_
        refine jW 0 lo0p 3 (0 + Int.toNat k13) (aD (gD aA k13)) (aD (gD aA k13)) (List.map aD aA) hO (cD c40) ?_
        obtain ⟨c41, h1⟩ := bE h1
        refine cX 15 [0 ≤ k13 ∧ k13 < (lN aA)] ⟨c41, trivial⟩ ?_
        refine pW 0 lo0p 3 (0 + Int.toNat k13) (aD (gD aA k13)) (aD (gD aA (wR (k13 + (1 : Int))))) (List.map aD aA) [(lo0p, 3, List.map aD (List.set aA (Int.toNat k13) (gD aA (wR (k13 + (1 : Int))))))] hO (cD c41) (by simp only [List.set, mC]) ?_
        intro H hO
        replace hN : List.length (List.set aA (Int.toNat k13) (gD aA (wR (k13 + (1 : Int))))) = N0 := by simpa using hN
        obtain ⟨c42, h1⟩ := bE h1
        refine cX 17 [0 ≤ (wR (k13 + (1 : Int))) ∧ (wR (k13 + (1 : Int))) < (lN aA)] ⟨c42, trivial⟩ ?_
        refine pW 0 lo0p 3 (0 + Int.toNat (wR (k13 + (1 : Int)))) (aD (gD (List.set aA (Int.toNat k13) (gD aA (wR (k13 + (1 : Int))))) (wR (k13 + (1 : Int))))) (aD (gD aA k13)) (List.map aD (List.set aA (Int.toNat k13) (gD aA (wR (k13 + (1 : Int)))))) [(lo0p, 3, List.map aD (List.set (List.set aA (Int.toNat k13) (gD aA (wR (k13 + (1 : Int))))) (Int.toNat (wR (k13 + (1 : Int)))) (gD aA k13)))] hO (sJ c42 (by simp [])) (by simp only [List.set, mC]) ?_
        intro H hO
        replace hN : List.length (List.set (List.set aA (Int.toNat k13) (gD aA (wR (k13 + (1 : Int))))) (Int.toNat (wR (k13 + (1 : Int)))) (gD aA k13)) = N0 := by simpa using hN
        refine vJ (by kernel_rfl) ?_
        refine cG (l := [(0, (.msl 3 lo0p 0 (List.length (List.set (List.set aA (Int.toNat k13) (gD aA (wR (k13 + (1 : Int))))) (Int.toNat (wR (k13 + (1 : Int)))) (gD aA k13))))), (10, (eI i10)), (13, (eI k13))]) ⟨[(0, (.msl 3 lo0p 0 (List.length aA))), (10, (eI i10)), (13, (eI k13))], by kernel_rfl, rfl, ⟨aR.eq (by simp []), aR.refl _, aR.refl _, trivial⟩⟩ ?_
        refine aI (aT (aH (?_)))
        refine aV aG 3 ?_
        refine bC ?_
        exact aI (aH (⟨rfl, _, (oI h1).symm, .eq (by kernel_rfl), hO, hN⟩))
      refine eP 2 ?_
      obtain rfl := oI h1
      obtain rfl : _ = rr0 := ho0
      replace h0 : eT cmp4 rec aA = some r := h0
      exact aI (aU (aU (bL (aH (⟨rfl, _, .eq (by kernel_rfl), hO, hN, h0⟩)))))
    refine bO 0 ?_
    refine dL [(0, (.msl 3 lo0p 0 (List.length aA))), (1, (eI a1)), (4, (.fn (.func cmp4_f) cmp4_a cmp4_c)), (10, (eI m2)), (11, (eI b3))] ?_
    refine cR (fun T H => ∃ aA : List aC, ∃ i10 : Int, ∃ j11 : Int, Has T [(0, (.msl 3 lo0p 0 (List.length aA))), (1, (eI a1)), (4, (.fn (.func cmp4_f) cmp4_a cmp4_c)), (10, (eI i10)), (11, (eI j11))] ∧ aN ⟨H0, [lo0p], []⟩ H [(lo0p, 3, List.map aD aA)] ∧ List.length aA = N0 ∧ iU cmp4 rec aA a1 i10 j11 = some r) ?_ ⟨aA, m2, b3, .eq (by kernel_rfl), hO, hN, h0⟩
    clear hO hN h0
    rintro T H ⟨aA, i10, j11, hT, hO, hN, h0⟩
    refine aY hT ?_
    clear hT
    unfold iU at h0
    obtain ⟨rr0, hl0, h0⟩ := aW h0
    refine bZ (by kernel_rfl) (fun (s : List aC × Int × Int) T H => Has T [(0, (.msl 3 lo0p 0 (List.length s.1))), (1, (eI a1)), (4, (.fn (.func cmp4_f) cmp4_a cmp4_c)), (10, (eI s.2.1)), (11, (eI s.2.2))] ∧ aN ⟨H0, [lo0p], []⟩ H [(lo0p, 3, List.map aD s.1)] ∧ List.length s.1 = N0) hl0 ⟨.eq (by kernel_rfl), hO, hN⟩ ?_
    clear hO hN
    rintro k0 s out1 T H ⟨hT, hO, hN⟩ h1 ho0
    obtain ⟨aA, i10, j11⟩ := s
    replace h1 : iS cmp4 rec a1 aA i10 j11 = some out1 := h1
    dsimp only at hT
    refine aY hT ?_
    clear hT
    unfold iS at h1
    refine aP ?_
    refine aS aG 3 [] [(33, (aM (decide (i10 < j11))))] ?_
    refine bH h1 (fun h1 => ?_) (fun h1 => ?_)
    · refine bJ ?_
      refine bF [(0, (.msl 3 lo0p 0 (List.length aA))), (1, (eI a1)), (4, (.fn (.func cmp4_f) cmp4_a cmp4_c)), (10, (eI i10)), (11, (eI j11))] ?_
      refine bO 1 ?_
      refine aP ?_
      refine aV aG 7 ?_
      obtain ⟨c44, h1⟩ := bE h1
      refine pV [0 ≤ (1 : Int)] ⟨c44, trivial⟩ ?_
      refine bR [] [(12, (eI (wR (Int.fdiv (IntKind.u64.wrap (wR (i10 + j11))) (2 ^ (min (Int.toNat (1 : Int)) 64))))))] ?_
      refine aP ?_
      refine jP (jQ []) aG 11 ?_
      obtain ⟨c45, h1⟩ := bE h1
      refine cX 4 [0 ≤ (wR (Int.fdiv (IntKind.u64.wrap (wR (i10 + j11))) (2 ^ (min (Int.toNat (1 : Int)) 64)))) ∧ (wR (Int.fdiv (IntKind.u64.wrap (wR (i10 + j11))) (2 ^ (min (Int.toNat (1 : Int)) 64)))) < (lN aA)] ⟨c45, trivial⟩ ?_
      refine jW 0 lo0p 3 (0 + Int.toNat (wR (Int.fdiv (IntKind.u64.wrap (wR (i10 + j11))) (2 ^ (min (Int.toNat (1 : Int)) 64))))) (aD (gD aA (wR (Int.fdiv (IntKind.u64.wrap (wR (i10 + j11))) (2 ^ (min (Int.toNat (1 : Int)) 64)))))) (aD (gD aA (wR (Int.fdiv (IntKind.u64.wrap (wR (i10 + j11))) (2 ^ (min (Int.toNat (1 : Int)) 64)))))) (List.map aD aA) hO (cD c45) ?_
      obtain ⟨c46, h1⟩ := bE h1
      refine cX 8 [0 ≤ a1 ∧ a1 < (lN aA)] ⟨c46, trivial⟩ ?_
      refine jW 0 lo0p 3 (0 + Int.toNat a1) (aD (gD aA a1)) (aD (gD aA a1)) (List.map aD aA) hO (cD c46) ?_
      obtain ⟨x47, hx48, h1⟩ := aW h1
      refine vD (cmp4_h (gD aA (wR (Int.fdiv (IntKind.u64.wrap (wR (i10 + j11))) (2 ^ (min (Int.toNat (1 : Int)) 64))))) (gD aA a1) _ hx48) hO ?_
      intro H hO
      refine nS ?_
      refine bR [] [(50, (aM (decide (x47 < (0 : Int)))))] ?_
      refine bH h1 (fun h1 => ?_) (fun h1 => ?_)
      · refine aV aG 3 ?_
        refine bC ?_
        exact aI (aT (aH (⟨rfl, _, (oI h1).symm, .eq (by kernel_rfl), hO, hN⟩)))
      refine aV aG 2 ?_
      refine bC ?_
      exact aI (aT (aH (⟨rfl, _, (oI h1).symm, .eq (by kernel_rfl), hO, hN⟩)))
    refine eP 0 ?_
    obtain rfl := oI h1
    obtain rfl : _ = rr0 := ho0
    replace h0 : eS cmp4 rec aA a1 i10 = some r := h0
    exact aI (aU (aU (bL (aH (⟨rfl, _, _, .eq (by kernel_rfl), hO, hN, h0⟩)))))
  refine bJ ?_
  exact aI (aH (⟨rfl, _, .eq (by kernel_rfl), hO, hN, h0⟩))

theorem lS (cmp4_f : Nat) (cmp4_a cmp4_c : List V) (cmp4 : aC → aC → Option Int) (cmp4_h : ∀ a0 a1 r, cmp4 a0 a1 = some r → bV Try.prog cmp4_f (cmp4_a ++ [(aD a0), (aD a1)] ++ cmp4_c) (eI r)) : ∀ (k : Nat) (lo0p : Nat) (aA : (List aC)) (a1 : Int) (m2 : Int) (b3 : Int) (r : List aC), eW cmp4 k aA a1 m2 b3 = some r → jL Try.prog 113 lo0p 3 (List.map aD aA) (List.map aD r) [(.msl 3 lo0p 0 (List.length aA)), (eI a1), (eI m2), (eI b3), (.fn (.func cmp4_f) cmp4_a cmp4_c)] (.tup [])
  | 0, _, _, _, _, _, _, h => by cases h
  | k + 1, lo0p, aA, a1, m2, b3, r, h => pJ cmp4_f cmp4_a cmp4_c cmp4 cmp4_h _ (lS cmp4_f cmp4_a cmp4_c cmp4 cmp4_h k) lo0p aA a1 m2 b3 r h

theorem mK (lo0p : Nat) (aA : (List aC)) (a1 : Int) (m2 : Int) (b3 : Int) (cmp4_f : Nat) (cmp4_a cmp4_c : List V) (cmp4 : aC → aC → Option Int) (cmp4_h : ∀ a0 a1 r, cmp4 a0 a1 = some r → bV Try.prog cmp4_f (cmp4_a ++ [(aD a0), (aD a1)] ++ cmp4_c) (eI r)) (r : List aC) (h0 : dN aA a1 m2 b3 cmp4 = some r) : jL Try.prog 113 lo0p 3 (List.map aD aA) (List.map aD r) [(.msl 3 lo0p 0 (List.length aA)), (eI a1), (eI m2), (eI b3), (.fn (.func cmp4_f) cmp4_a cmp4_c)] (.tup []) := by
  obtain ⟨k, hk⟩ := AS h0
  exact lS cmp4_f cmp4_a cmp4_c cmp4 cmp4_h k lo0p aA a1 m2 b3 r hk

theorem sQ (lo0p : Nat) (aA : (List aC)) (n1 : Int) (cmp2_f : Nat) (cmp2_a cmp2_c : List V) (cmp2 : aC → aC → Option Int) (cmp2_h : ∀ a0 a1 r, cmp2 a0 a1 = some r → bV Try.prog cmp2_f (cmp2_a ++ [(aD a0), (aD a1)] ++ cmp2_c) (eI r)) (r : List aC) (h0 : eC aA n1 cmp2 = some r) : jL Try.prog 90 lo0p 3 (List.map aD aA) (List.map aD r) [(.msl 3 lo0p 0 (List.length aA)), (eI n1), (.fn (.func cmp2_f) cmp2_a cmp2_c)] (.tup []) := by
  intro H0 hl0
  refine cE Try.func90 ?_
  have hO := aN.nF hl0
  clear hl0
  obtain ⟨N0, hN0⟩ : ∃ n, n = List.length aA := ⟨_, rfl⟩
  have hN : List.length aA = N0 := hN0.symm
  unfold eC at h0
  refine aS aG 1 [] [(6, (eI (20 : Int)))] ?_
  refine aS aG 3 [] [(7, (eI (0 : Int))), (8, (eI (20 : Int)))] ?_
  refine cY (fun T H => ∃ aA : List aC, ∃ aJ : Int, ∃ a7 : Int, Has T [(0, (.msl 3 lo0p 0 (List.length aA))), (1, (eI n1)), (2, (.fn (.func cmp2_f) cmp2_a cmp2_c)), (6, (eI aJ)), (7, (eI a7))] ∧ aN ⟨H0, [lo0p], []⟩ H [(lo0p, 3, List.map aD aA)] ∧ List.length aA = N0 ∧ dW cmp2 aA n1 aJ a7 = some r) ?_ ?_
  · clear hO hN h0
    rintro T H ⟨aA, aJ, a7, hT, hO, hN, h0⟩
    refine aY hT ?_
    clear hT
    unfold dW at h0
    refine aP ?_
    refine aV aG 5 ?_
    refine bN 4 ?_
    obtain ⟨x1, hx2, h0⟩ := aW h0
    refine mE [(lo0p, 3, List.map aD x1)] 0 (lB lo0p aA a7 n1 cmp2_f cmp2_a cmp2_c cmp2 cmp2_h _ hx2) hO ?_
    intro H hO hl3
    simp only [List.length_map] at hl3
    replace hN := hl3.trans hN
    refine cP ?_
    refine cG (l := [(0, (.msl 3 lo0p 0 (List.length x1))), (1, (eI n1)), (2, (.fn (.func cmp2_f) cmp2_a cmp2_c)), (6, (eI aJ))]) ⟨[(0, (.msl 3 lo0p 0 (List.length aA))), (1, (eI n1)), (2, (.fn (.func cmp2_f) cmp2_a cmp2_c)), (6, (eI aJ))], by kernel_rfl, rfl, ⟨aR.eq (by simp [hl3]), aR.refl _, aR.refl _, aR.refl _, trivial⟩⟩ ?_
    refine aI (aH (?_))
    refine bO 2 ?_
    refine dL [(0, (.msl 3 lo0p 0 (List.length x1))), (1, (eI n1)), (2, (.fn (.func cmp2_f) cmp2_a cmp2_c)), (6, (eI aJ))] ?_
    refine cR (fun T H => ∃ aA : List aC, ∃ aJ : Int, Has T [(0, (.msl 3 lo0p 0 (List.length aA))), (1, (eI n1)), (2, (.fn (.func cmp2_f) cmp2_a cmp2_c)), (6, (eI aJ))] ∧ aN ⟨H0, [lo0p], []⟩ H [(lo0p, 3, List.map aD aA)] ∧ List.length aA = N0 ∧ gI cmp2 aA n1 aJ = some r) ?_ ⟨x1, aJ, .eq (by kernel_rfl), hO, hN, h0⟩
    clear hO hN h0
    rintro T H ⟨aA, aJ, hT, hO, hN, h0⟩
    refine aY hT ?_
    clear hT
    unfold gI at h0
    obtain ⟨rr0, hl0, h0⟩ := aW h0
    refine bZ (by kernel_rfl) (fun (s : List aC × Int) T H => Has T [(0, (.msl 3 lo0p 0 (List.length s.1))), (1, (eI n1)), (2, (.fn (.func cmp2_f) cmp2_a cmp2_c)), (6, (eI s.2))] ∧ aN ⟨H0, [lo0p], []⟩ H [(lo0p, 3, List.map aD s.1)] ∧ List.length s.1 = N0) hl0 ⟨.eq (by kernel_rfl), hO, hN⟩ ?_
    clear hO hN
    rintro k0 s out1 T H ⟨hT, hO, hN⟩ h1 ho0
    obtain ⟨aA, aJ⟩ := s
    replace h1 : gL cmp2 n1 aA aJ = some out1 := h1
    dsimp only at hT
    refine aY hT ?_
    clear hT
    unfold gL at h1
    refine aP ?_
    refine aS aG 3 [] [(30, (aM (decide (aJ < n1))))] ?_
    refine bH h1 (fun h1 => ?_) (fun h1 => ?_)
    · refine bJ ?_
      refine bF [(0, (.msl 3 lo0p 0 (List.length aA))), (1, (eI n1)), (2, (.fn (.func cmp2_f) cmp2_a cmp2_c)), (6, (eI aJ))] ?_
      refine bO 3 ?_
      refine aS aG 4 [] [(7, (eI (0 : Int))), (8, (eI (wR ((2 : Int) * aJ))))] ?_
      refine cY (fun T H => ∃ aA : List aC, ∃ a7 : Int, Has T [(0, (.msl 3 lo0p 0 (List.length aA))), (1, (eI n1)), (2, (.fn (.func cmp2_f) cmp2_a cmp2_c)), (6, (eI aJ)), (7, (eI a7))] ∧ aN ⟨H0, [lo0p], []⟩ H [(lo0p, 3, List.map aD aA)] ∧ List.length aA = N0 ∧ dU cmp2 aA n1 aJ a7 = some out1) ?_ ?_
      · clear hO hN h1
        rintro T H ⟨aA, a7, hT, hO, hN, h1⟩
        refine aY hT ?_
        clear hT
        unfold dU at h1
        refine cY (fun T H => ∃ aA : List aC, Has T [(0, (.msl 3 lo0p 0 (List.length aA))), (1, (eI n1)), (2, (.fn (.func cmp2_f) cmp2_a cmp2_c)), (6, (eI aJ))] ∧ aN ⟨H0, [lo0p], []⟩ H [(lo0p, 3, List.map aD aA)] ∧ List.length aA = N0 ∧ fP cmp2 aA n1 aJ = some out1) ?_ ?_
        · clear hO hN h1
          rintro T H ⟨aA, hT, hO, hN, h1⟩
          refine aY hT ?_
          clear hT
          unfold fP at h1
          refine aV aG 3 ?_
          refine bC ?_
          exact aI (aT (aH (⟨rfl, _, (oI h1).symm, .eq (by kernel_rfl), hO, hN⟩)))
        refine aS aG 4 [] [(9, (eI (wR (a7 + aJ))))] ?_
        refine aS aG 3 [] [(54, (aM (decide ((wR (a7 + aJ)) < n1))))] ?_
        refine bH h1 (fun h1 => ?_) (fun h1 => ?_)
        · refine aV aG 6 ?_
          refine bN 5 ?_
          obtain ⟨x6, hx7, h1⟩ := aW h1
          refine mE [(lo0p, 3, List.map aD x6)] 0 (mK lo0p aA a7 (wR (a7 + aJ)) n1 cmp2_f cmp2_a cmp2_c cmp2 cmp2_h _ hx7) hO ?_
          intro H hO hl8
          simp only [List.length_map] at hl8
          replace hN := hl8.trans hN
          refine cP ?_
          refine cG (l := [(0, (.msl 3 lo0p 0 (List.length x6))), (1, (eI n1)), (2, (.fn (.func cmp2_f) cmp2_a cmp2_c)), (6, (eI aJ))]) ⟨[(0, (.msl 3 lo0p 0 (List.length aA))), (1, (eI n1)), (2, (.fn (.func cmp2_f) cmp2_a cmp2_c)), (6, (eI aJ))], by kernel_rfl, rfl, ⟨aR.eq (by simp [hl8]), aR.refl _, aR.refl _, aR.refl _, trivial⟩⟩ ?_
          exact aI (aH (⟨rfl, _, .eq (by kernel_rfl), hO, hN, h1⟩))
        refine bJ ?_
        exact aI (aH (⟨rfl, _, .eq (by kernel_rfl), hO, hN, h1⟩))
      refine bO 4 ?_
      refine dL [(0, (.msl 3 lo0p 0 (List.length aA))), (1, (eI n1)), (2, (.fn (.func cmp2_f) cmp2_a cmp2_c)), (6, (eI aJ)), (7, (eI (0 : Int))), (8, (eI (wR ((2 : Int) * aJ))))] ?_
      refine cR (fun T H => ∃ aA : List aC, ∃ a7 : Int, ∃ b8 : Int, Has T [(0, (.msl 3 lo0p 0 (List.length aA))), (1, (eI n1)), (2, (.fn (.func cmp2_f) cmp2_a cmp2_c)), (6, (eI aJ)), (7, (eI a7)), (8, (eI b8))] ∧ aN ⟨H0, [lo0p], []⟩ H [(lo0p, 3, List.map aD aA)] ∧ List.length aA = N0 ∧ fY cmp2 aA n1 aJ a7 b8 = some out1) ?_ ⟨aA, (0 : Int), wR ((2 : Int) * aJ), .eq (by kernel_rfl), hO, hN, h1⟩
      clear hO hN h1
      rintro T H ⟨aA, a7, b8, hT, hO, hN, h1⟩
      refine aY hT ?_
      clear hT
      unfold fY at h1
      obtain ⟨rr1, hl1, h1⟩ := aW h1
      refine bZ (by kernel_rfl) (fun (s : List aC × Int × Int) T H => Has T [(0, (.msl 3 lo0p 0 (List.length s.1))), (1, (eI n1)), (2, (.fn (.func cmp2_f) cmp2_a cmp2_c)), (6, (eI aJ)), (7, (eI s.2.1)), (8, (eI s.2.2))] ∧ aN ⟨H0, [lo0p], []⟩ H [(lo0p, 3, List.map aD s.1)] ∧ List.length s.1 = N0) hl1 ⟨.eq (by kernel_rfl), hO, hN⟩ ?_
      clear hO hN
      rintro k1 s out2 T H ⟨hT, hO, hN⟩ h2 ho1
      obtain ⟨aA, a7, b8⟩ := s
      replace h2 : gC cmp2 n1 aJ aA a7 b8 = some out2 := h2
      dsimp only at hT
      refine aY hT ?_
      clear hT
      unfold gC at h2
      refine aP ?_
      refine aS aG 3 [] [(35, (aM (decide (b8 ≤ n1))))] ?_
      refine bH h2 (fun h2 => ?_) (fun h2 => ?_)
      · refine bJ ?_
        refine bF [(0, (.msl 3 lo0p 0 (List.length aA))), (1, (eI n1)), (2, (.fn (.func cmp2_f) cmp2_a cmp2_c)), (6, (eI aJ)), (7, (eI a7)), (8, (eI b8))] ?_
        refine bO 5 ?_
        refine aP ?_
        refine aV aG 8 ?_
        refine bN 7 ?_
        obtain ⟨x10, hx11, h2⟩ := aW h2
        refine mE [(lo0p, 3, List.map aD x10)] 0 (mK lo0p aA a7 (wR (a7 + aJ)) b8 cmp2_f cmp2_a cmp2_c cmp2 cmp2_h _ hx11) hO ?_
        intro H hO hl12
        simp only [List.length_map] at hl12
        replace hN := hl12.trans hN
        refine cP ?_
        refine cG (l := [(0, (.msl 3 lo0p 0 (List.length x10))), (1, (eI n1)), (2, (.fn (.func cmp2_f) cmp2_a cmp2_c)), (6, (eI aJ)), (8, (eI b8))]) ⟨[(0, (.msl 3 lo0p 0 (List.length aA))), (1, (eI n1)), (2, (.fn (.func cmp2_f) cmp2_a cmp2_c)), (6, (eI aJ)), (8, (eI b8))], by kernel_rfl, rfl, ⟨aR.eq (by simp [hl12]), aR.refl _, aR.refl _, aR.refl _, aR.refl _, trivial⟩⟩ ?_
        refine aI (aH (?_))
        refine aS aG 2 [] [(7, (eI b8))] ?_
        refine aV aG 5 ?_
        refine bC ?_
        exact aI (aT (aH (⟨rfl, _, (oI h2).symm, .eq (by kernel_rfl), hO, hN⟩)))
      refine eP 4 ?_
      obtain rfl := oI h2
      obtain rfl : _ = rr1 := ho1
      replace h1 : dU cmp2 aA n1 aJ a7 = some out1 := h1
      exact aI (aU (aU (bL (aH (⟨rfl, _, _, .eq (by kernel_rfl), hO, hN, h1⟩)))))
    refine eP 2 ?_
    obtain rfl := oI h1
    obtain rfl : _ = rr0 := ho0
    replace h0 : some aA = some r := h0
    obtain rfl := oI h0
    exact aI (aU (aU (bL (oD (x := (.tup [])) (by kernel_rfl) (aR.refl _) ⟨rfl, hO.ext, hO.at 0 (by kernel_rfl), by simp only [List.length_map]; exact hN.trans hN0⟩))))
  refine bO 0 ?_
  refine dL [(0, (.msl 3 lo0p 0 (List.length aA))), (1, (eI n1)), (2, (.fn (.func cmp2_f) cmp2_a cmp2_c)), (6, (eI (20 : Int))), (7, (eI (0 : Int))), (8, (eI (20 : Int)))] ?_
  refine cR (fun T H => ∃ aA : List aC, ∃ aJ : Int, ∃ a7 : Int, ∃ b8 : Int, Has T [(0, (.msl 3 lo0p 0 (List.length aA))), (1, (eI n1)), (2, (.fn (.func cmp2_f) cmp2_a cmp2_c)), (6, (eI aJ)), (7, (eI a7)), (8, (eI b8))] ∧ aN ⟨H0, [lo0p], []⟩ H [(lo0p, 3, List.map aD aA)] ∧ List.length aA = N0 ∧ fV cmp2 aA n1 aJ a7 b8 = some r) ?_ ⟨aA, (20 : Int), (0 : Int), (20 : Int), .eq (by kernel_rfl), hO, hN, h0⟩
  clear hO hN h0
  rintro T H ⟨aA, aJ, a7, b8, hT, hO, hN, h0⟩
  refine aY hT ?_
  clear hT
  unfold fV at h0
  obtain ⟨rr0, hl0, h0⟩ := aW h0
  refine bZ (by kernel_rfl) (fun (s : List aC × Int × Int) T H => Has T [(0, (.msl 3 lo0p 0 (List.length s.1))), (1, (eI n1)), (2, (.fn (.func cmp2_f) cmp2_a cmp2_c)), (6, (eI aJ)), (7, (eI s.2.1)), (8, (eI s.2.2))] ∧ aN ⟨H0, [lo0p], []⟩ H [(lo0p, 3, List.map aD s.1)] ∧ List.length s.1 = N0) hl0 ⟨.eq (by kernel_rfl), hO, hN⟩ ?_
  clear hO hN
  rintro k0 s out1 T H ⟨hT, hO, hN⟩ h1 ho0
  obtain ⟨aA, a7, b8⟩ := s
  replace h1 : gF cmp2 n1 aJ aA a7 b8 = some out1 := h1
  dsimp only at hT
  refine aY hT ?_
  clear hT
  unfold gF at h1
  refine aP ?_
  refine aS aG 3 [] [(13, (aM (decide (b8 ≤ n1))))] ?_
  refine bH h1 (fun h1 => ?_) (fun h1 => ?_)
  · refine bJ ?_
    refine bF [(0, (.msl 3 lo0p 0 (List.length aA))), (1, (eI n1)), (2, (.fn (.func cmp2_f) cmp2_a cmp2_c)), (6, (eI aJ)), (7, (eI a7)), (8, (eI b8))] ?_
    refine bO 1 ?_
    refine aP ?_
    refine aV aG 5 ?_
    refine bN 4 ?_
    obtain ⟨x14, hx15, h1⟩ := aW h1
    refine mE [(lo0p, 3, List.map aD x14)] 0 (lB lo0p aA a7 b8 cmp2_f cmp2_a cmp2_c cmp2 cmp2_h _ hx15) hO ?_
    intro H hO hl16
    simp only [List.length_map] at hl16
    replace hN := hl16.trans hN
    refine cP ?_
    refine cG (l := [(0, (.msl 3 lo0p 0 (List.length x14))), (1, (eI n1)), (2, (.fn (.func cmp2_f) cmp2_a cmp2_c)), (6, (eI aJ)), (8, (eI b8))]) ⟨[(0, (.msl 3 lo0p 0 (List.length aA))), (1, (eI n1)), (2, (.fn (.func cmp2_f) cmp2_a cmp2_c)), (6, (eI aJ)), (8, (eI b8))], by kernel_rfl, rfl, ⟨aR.eq (by simp [hl16]), aR.refl _, aR.refl _, aR.refl _, aR.refl _, trivial⟩⟩ ?_
    refine aI (aH (?_))
    refine aS aG 2 [] [(7, (eI b8))] ?_
    refine aV aG 4 ?_
    refine bC ?_
    exact aI (aT (aH (⟨rfl, _, (oI h1).symm, .eq (by kernel_rfl), hO, hN⟩)))
  refine eP 0 ?_
  obtain rfl := oI h1
  obtain rfl : _ = rr0 := ho0
  replace h0 : dW cmp2 aA n1 aJ a7 = some r := h0
  exact aI (aU (aU (bL (aH (⟨rfl, _, _, _, .eq (by kernel_rfl), hO, hN, h0⟩)))))

theorem nY (lo0p : Nat) (x0 : (List aC)) (cmp1_f : Nat) (cmp1_a cmp1_c : List V) (cmp1 : aC → aC → Option Int) (cmp1_h : ∀ a0 a1 r, cmp1 a0 a1 = some r → bV Try.prog cmp1_f (cmp1_a ++ [(aD a0), (aD a1)] ++ cmp1_c) (eI r)) (r : List aC) (h0 : cI x0 cmp1 = some r) : jL Try.prog 58 lo0p 3 (List.map aD x0) (List.map aD r) [(.msl 3 lo0p 0 (List.length x0)), (.fn (.func cmp1_f) cmp1_a cmp1_c)] (.tup []) := by
  intro H0 hl0
  refine cE Try.func58 ?_
  have hO := aN.nF hl0
  clear hl0
  obtain ⟨N0, hN0⟩ : ∃ n, n = List.length x0 := ⟨_, rfl⟩
  have hN : List.length x0 = N0 := hN0.symm
  unfold cI at h0
  refine aV aG 5 ?_
  refine bN 4 ?_
  obtain ⟨x1, hx2, h0⟩ := aW h0
  refine mE [(lo0p, 3, List.map aD x1)] 0 (sQ lo0p x0 (lN x0) cmp1_f cmp1_a cmp1_c cmp1 cmp1_h _ hx2) hO ?_
  intro H hO hl3
  simp only [List.length_map] at hl3
  replace hN := hl3.trans hN
  refine cP ?_
  refine cG (l := [(0, (.msl 3 lo0p 0 (List.length x1)))]) ⟨[(0, (.msl 3 lo0p 0 (List.length x0)))], by kernel_rfl, rfl, ⟨aR.eq (by simp [hl3]), trivial⟩⟩ ?_
  obtain rfl := oI h0
  exact aI (oD (x := (.tup [])) (by kernel_rfl) (aR.refl _) ⟨rfl, hO.ext, hO.at 0 (by kernel_rfl), by simp only [List.length_map]; exact hN.trans hN0⟩)

theorem JF (tE : (List Int)) (r : Int) (h0 : qC tE = some r) : bV Try.prog 60 [(eL (eI) tE)] (eI r) := by
  intro H0
  refine cE Try.func60 ?_
  have hO := aN.start H0
  unfold qC at h0
  refine aS aG 1 [] [] ?_
  refine aS aG 1 [] [(3, (eI (0 : Int)))] ?_
  refine cY (fun T H => ∃ lP : Int, Has T [(3, (eI lP))] ∧ aN ⟨H0, [], []⟩ H [] ∧ oU lP = some r) ?_ ?_
  · clear hO h0
    rintro T H ⟨lP, hT, hO, h0⟩
    refine aY hT ?_
    clear hT
    unfold oU at h0
    refine bQ aG 2 [(2, (eI lP))] ?_
    refine bI ?_
    obtain rfl := oI h0
    exact aI (Q_r hO)
  refine aS aG 3 [0] [(6, (eL (eI) tE)), (7, (eI (lN tE))), (8, (eI (0 : Int)))] ?_
  refine bO 0 ?_
  refine dL [(3, (eI (0 : Int))), (6, (eL (eI) tE)), (7, (eI (lN tE))), (8, (eI (0 : Int)))] ?_
  refine cR (fun T H => ∃ lP : Int, ∃ t6 : (List Int), ∃ t7 : Int, ∃ t8 : Int, Has T [(3, (eI lP)), (6, (eL (eI) t6)), (7, (eI t7)), (8, (eI t8))] ∧ aN ⟨H0, [], []⟩ H [] ∧ rU lP t6 t7 t8 = some r) ?_ ⟨(0 : Int), tE, (lN tE), (0 : Int), .eq (by kernel_rfl), hO, h0⟩
  clear hO h0
  rintro T H ⟨lP, t6, t7, t8, hT, hO, h0⟩
  refine aY hT ?_
  clear hT
  unfold rU at h0
  obtain ⟨rr0, hl0, h0⟩ := aW h0
  refine bZ (by kernel_rfl) (fun (s : Int) T H => Has T [(3, (eI lP)), (6, (eL (eI) t6)), (7, (eI t7)), (8, (eI s))] ∧ aN ⟨H0, [], []⟩ H []) hl0 ⟨.eq (by kernel_rfl), hO⟩ ?_
  clear hO
  rintro k0 s out1 T H ⟨hT, hO⟩ h1 ho0
  obtain ⟨t8, rfl⟩ : ∃ x, x = s := ⟨_, rfl⟩
  replace h1 : fM lP t6 t7 t8 = some out1 := h1
  refine aY hT ?_
  clear hT
  unfold fM at h1
  refine aS aG 1 [] [(9, (aM (decide (t8 < t7))))] ?_
  refine aP ?_
  refine bH h1 (fun h1 => ?_) (fun h1 => ?_)
  · refine bJ ?_
    refine bF [(3, (eI lP)), (6, (eL (eI) t6)), (7, (eI t7)), (8, (eI t8))] ?_
    refine aP ?_
    refine bO 1 ?_
    refine aP ?_
    refine aV aG 3 ?_
    obtain ⟨c2, h1⟩ := bE h1
    refine pV [0 ≤ t8 ∧ t8 < (lN t6)] ⟨c2, trivial⟩ ?_
    refine bR [] [(5, (eI (gD t6 t8)))] ?_
    refine aS aG 3 [] [(14, (aM (!decide ((gD t6 t8) = lP))))] ?_
    refine bH h1 (fun h1 => ?_) (fun h1 => ?_)
    · refine bQ aG 2 [(2, (eI (gD t6 t8)))] ?_
      refine bI ?_
      obtain rfl := oI h1
      obtain rfl : _ = rr0 := ho0
      replace h0 : some (gD t6 t8) = some r := h0
      obtain rfl := oI h0
      exact aI (bU (aX (aX (bU (aX (Q_r hO))))))
    refine bJ ?_
    refine iZ [(3, (eI lP)), (6, (eL (eI) t6)), (7, (eI t7)), (8, (eI t8))] ?_
    refine aI (aT (aH (?_)))
    refine aV aG 2 ?_
    refine bC ?_
    exact aI (aH (⟨rfl, _, (oI h1).symm, .eq (by kernel_rfl), hO⟩))
  refine eP 0 ?_
  obtain rfl := oI h1
  obtain rfl : _ = rr0 := ho0
  replace h0 : oU lP = some r := h0
  exact aI (aU (aU (bL (aH (⟨rfl, _, .eq (by kernel_rfl), hO, h0⟩)))))

theorem HI (x0 : aC) (y1 : aC) (r : Int) (h0 : kV x0 y1 = some r) : bV Try.prog 59 [(aD x0), (aD y1)] (eI r) := by
  intro H0
  refine cE Try.func59 ?_
  have hO := aN.start H0
  unfold kV at h0
  refine aP ?_
  refine aV aG 3 ?_
  refine kK 3 (aD x0) (by kernel_rfl) (by kernel_rfl) ?_
  refine kK 3 (aD y1) (by kernel_rfl) (by kernel_rfl) ?_
  refine bC ?_
  refine bF [(2, (.rp (aD x0))), (3, (.rp (aD y1)))] ?_
  refine aP ?_
  refine jP (jQ [6, 8, 11, 13]) aG 13 ?_
  refine tI 4 ?_
  obtain ⟨x1, hx2, h0⟩ := aW h0
  refine vD (zN x0.Row y1.Row _ hx2) hO ?_
  intro H hO
  refine tI 9 ?_
  obtain ⟨x4, hx5, h0⟩ := aW h0
  refine vD (qZ x0.At y1.At _ hx5) hO ?_
  intro H hO
  refine DQ (xs := [(eI x1), (eI x4)]) (k := 1) (by kernel_rfl) (by kernel_rfl) ?_
  obtain ⟨x7, hx8, h0⟩ := aW h0
  refine MT 60 [(lO [(eI x1), (eI x4)])] (eI x7) (by kernel_rfl) (by kernel_rfl) (bV.sub (JF ([x1, x4]) _ hx8) ⟨JQ (l := [x1, x4]), trivial⟩) hO ?_
  intro H hO
  refine nS ?_
  refine bF [(4, (eI x7))] ?_
  refine bI ?_
  obtain rfl := oI h0
  exact aI (Q_r hO)

theorem OH (lo0p : Nat) (l0 : (List aC)) (r1 : (List aF)) (f2 : (List aB)) (r : (List aC)) (h0 : tC l0 r1 f2 = some r) : zJ Try.prog 78 lo0p 3 (List.map aD l0) [(.msl 3 lo0p 0 (List.length l0)), (eL aL r1), (eL aE f2)] (fun lo => .msl 3 lo 0 (List.length r)) (List.map aD r) := by
  intro H0 hl0
  refine cE Try.func78 ?_
  have hO := aN.nF hl0
  clear hl0
  unfold tC at h0
  refine aS aG 1 [] [] ?_
  refine cY (fun T H => ∃ l0 : List aC, ∃ lo1 : Nat, Has T [(0, (.msl 3 lo1 0 (List.length l0)))] ∧ aN ⟨H0, [lo0p], []⟩ H [(lo1, 3, List.map aD l0)] ∧ uF l0 = some r) ?_ ?_
  · clear hO h0
    rintro T H ⟨l0, lo1, hT, hO, h0⟩
    refine aY hT ?_
    clear hT
    unfold uF at h0
    refine bQ aG 2 [(6, (.msl 3 lo1 0 (List.length l0)))] ?_
    refine bI ?_
    obtain rfl := oI h0
    exact aI (nP (x := (.msl 3 lo1 0 (List.length l0))) (by kernel_rfl) (aR.refl _) ⟨lo1, rfl, hO⟩)
  refine aS aG 3 [2] [(9, (eL aE f2)), (10, (eI (lN f2))), (11, (eI (0 : Int)))] ?_
  refine bO 0 ?_
  refine dL [(0, (.msl 3 lo0p 0 (List.length l0))), (1, (eL aL r1)), (9, (eL aE f2)), (10, (eI (lN f2))), (11, (eI (0 : Int)))] ?_
  refine cR (fun T H => ∃ l0 : List aC, ∃ t9 : (List aB), ∃ t10 : Int, ∃ t11 : Int, ∃ lo3 : Nat, Has T [(0, (.msl 3 lo3 0 (List.length l0))), (1, (eL aL r1)), (9, (eL aE t9)), (10, (eI t10)), (11, (eI t11))] ∧ aN ⟨H0, [lo0p], []⟩ H [(lo3, 3, List.map aD l0)] ∧ uN l0 r1 t9 t10 t11 = some r) ?_ ⟨l0, f2, (lN f2), (0 : Int), lo0p, .eq (by kernel_rfl), hO, h0⟩
  clear hO h0
  rintro T H ⟨l0, t9, t10, t11, lo3, hT, hO, h0⟩
  refine aY hT ?_
  clear hT
  unfold uN at h0
  obtain ⟨rr0, hl0, h0⟩ := aW h0
  refine bZ (by kernel_rfl) (fun (s : List aC × Int) T H => ∃ lo3 : Nat, Has T [(0, (.msl 3 lo3 0 (List.length s.1))), (1, (eL aL r1)), (9, (eL aE t9)), (10, (eI t10)), (11, (eI s.2))] ∧ aN ⟨H0, [lo0p], []⟩ H [(lo3, 3, List.map aD s.1)]) hl0 ⟨lo3, .eq (by kernel_rfl), hO⟩ ?_
  clear hO
  rintro k0 s out1 T H ⟨lo3, hT, hO⟩ h1 ho0
  obtain ⟨l0, t11⟩ := s
  replace h1 : mI r1 t9 t10 l0 t11 = some out1 := h1
  dsimp only at hT
  refine aY hT ?_
  clear hT
  unfold mI at h1
  refine aS aG 1 [] [(12, (aM (decide (t11 < t10))))] ?_
  refine aP ?_
  refine bH h1 (fun h1 => ?_) (fun h1 => ?_)
  · refine bJ ?_
    refine bF [(0, (.msl 3 lo3 0 (List.length l0))), (1, (eL aL r1)), (9, (eL aE t9)), (10, (eI t10)), (11, (eI t11))] ?_
    refine aP ?_
    refine bO 1 ?_
    refine aP ?_
    refine aV aG 4 ?_
    obtain ⟨c5, h1⟩ := bE h1
    refine uB 2 [0 ≤ t11 ∧ t11 < (lN t9)] ⟨c5, trivial⟩ ?_
    refine pP 2 (aE (aB.mk 0 0)) (by kernel_rfl) (by kernel_rfl) hO ?_
    intro lo6 H hO
    refine nM 1 lo6 2 0 (aE (aB.mk 0 0)) (aE (gD t9 t11)) [(aE (aB.mk 0 0))] [(lo3, 3, List.map aD l0), (lo6, 2, [(aE (gD t9 t11))])] hO rfl (by kernel_rfl) ?_
    intro H hO
    refine cP ?_
    refine bR [] [(8, (.lp lo6 0 0))] ?_
    refine dL [(0, (.msl 3 lo3 0 (List.length l0))), (1, (eL aL r1)), (8, (.lp lo6 0 0)), (9, (eL aE t9)), (10, (eI t10)), (11, (eI t11))] ?_
    refine GX 2 1 8 2 lo6 (aE (gD t9 t11)) [(lo3, 3, List.map aD l0)] hO (by kernel_rfl) (by kernel_rfl) (by kernel_rfl) ?_
    intro H hO
    refine jP (jQ [19, 21]) aG 11 ?_
    refine tI 2 ?_
    obtain ⟨x7, hx8, h1⟩ := aW h1
    refine vD (EX r1 _ hx8) hO ?_
    intro H hO
    refine tI 8 ?_
    refine DQ (xs := [(aD (aC.mk x7 ((gD t9 t11).At) ((gD t9 t11).Net)))]) (k := 3) (by kernel_rfl) (by kernel_rfl) ?_
    obtain ⟨c11, h1⟩ := bE h1
    refine BN (e := aD) l0 ([aC.mk x7 ((gD t9 t11).At) ((gD t9 t11).Net)]) 0 lo3 3 40 (lO [(aD (aC.mk x7 ((gD t9 t11).At) ((gD t9 t11).Net)))]) (fun lo10 => [(lo10, 3, List.map aD (l0 ++ ([aC.mk x7 ((gD t9 t11).At) ((gD t9 t11).Net)])))]) (by kernel_rfl) (by kernel_rfl) hO (by kernel_rfl) (by kernel_rfl) c11 (fun _ => by kernel_rfl) ?_
    intro lo10 H hO
    refine nS ?_
    refine iZ [(0, (.msl 3 lo10 0 (List.length (l0 ++ ([aC.mk x7 ((gD t9 t11).At) ((gD t9 t11).Net)]))))), (1, (eL aL r1)), (9, (eL aE t9)), (10, (eI t10)), (11, (eI t11))] ?_
    refine aI (aT (aH (?_)))
    refine aV aG 2 ?_
    refine bC ?_
    exact aI (aH (⟨rfl, _, (oI h1).symm, _, .eq (by kernel_rfl), hO⟩))
  refine eP 0 ?_
  obtain rfl := oI h1
  obtain rfl : _ = rr0 := ho0
  replace h0 : uF l0 = some r := h0
  exact aI (aU (aU (bL (aH (⟨rfl, _, _, .eq (by kernel_rfl), hO, h0⟩)))))

theorem HQ (l0 : (List aC)) (by1_f : Nat) (by1_a by1_c : List V) (by1 : (List aB) → Option ((List aB) × Int)) (by1_h : ∀ a0 r, by1 a0 = some r → bV Try.prog by1_f (by1_a ++ [(eL aE a0)] ++ by1_c) (.tup [(eL aE r.1), (eI r.2)])) (r : ((List aC) × Int)) (h0 : oQ l0 by1 = some r) : bV Try.prog 63 [(eL aD l0), (.fn (.func by1_f) by1_a by1_c)] (.tup [(eL aD r.1), (eI r.2)]) := by
  intro H0
  refine MN aG Try.func63 (by kernel_rfl) (by kernel_rfl) (by kernel_rfl) ?_
  have hO := aN.start H0
  unfold oQ at h0
  refine aP ?_
  refine aV aG 3 ?_
  refine kK 1 (.fn (.func by1_f) by1_a by1_c) (by kernel_rfl) (by kernel_rfl) ?_
  refine yQ 1 (.sl true 0 (fun _ => .bad)) (eL aD ([])) (by kernel_rfl) (by kernel_rfl) (by kernel_rfl) (lJ) (by kernel_rfl) (by kernel_rfl) hO ?_
  intro lo1 H hO
  refine pP 1 (eI 0) (by kernel_rfl) (by kernel_rfl) hO ?_
  intro lo2 H hO
  refine cP ?_
  refine bR [1] [(3, (.rp (.fn (.func by1_f) by1_a by1_c))), (4, (.lp lo1 0 0)), (5, (.lp lo2 0 0))] ?_
  refine aP ?_
  refine aV aG 3 ?_
  refine vM (xs := []) (k := 3) (by kernel_rfl) (by kernel_rfl) ?_
  refine yQ 1 (.sl true 0 (fun _ => .bad)) (eL aD ([])) (by kernel_rfl) (by kernel_rfl) (by kernel_rfl) (lJ) (by kernel_rfl) (by kernel_rfl) hO ?_
  intro lo3 H hO
  refine VJ 11 3 (fun _ => .bad) (by kernel_rfl) hO (by kernel_rfl) ?_
  intro lo4 H hO
  refine nM 2 lo3 1 0 (eL aD ([])) (.msl 3 lo4 0 (List.length ([] : List aC))) [(eL aD ([]))] [(lo1, 1, [(eL aD ([]))]), (lo2, 1, [(eI 0)]), (lo3, 1, [(.msl 3 lo4 0 (List.length ([] : List aC)))]), (lo4, 3, List.map aD ([] : List aC))] hO rfl (by kernel_rfl) ?_
  intro H hO
  refine cP ?_
  refine bR [] [(6, (.lp lo3 0 0))] ?_
  refine aP ?_
  refine aP ?_
  refine aV aG 2 ?_
  refine bN 1 ?_
  obtain ⟨x5, hx6, h0⟩ := aW h0
  refine dA (CE l0 _ hx6) hO ?_
  intro H hO
  refine cP ?_
  refine bR [0] [(13, (.fn (.func 104) [] [(.rp (eL aD x5))]))] ?_
  refine bO 0 ?_
  refine dL [(3, (.rp (.fn (.func by1_f) by1_a by1_c))), (4, (.lp lo1 0 0)), (5, (.lp lo2 0 0)), (6, (.lp lo3 0 0)), (13, (.fn (.func 104) [] [(.rp (eL aD x5))]))] ?_
  refine cR (fun T H => ∃ t4 : (List aC), ∃ t5 : Int, ∃ out6 : List aC, ∃ iE : (List aC), ∃ lo7 : Nat, ∃ lo8 : Nat, ∃ lo9 : Nat, ∃ lo10 : Nat, Has T [(3, (.rp (.fn (.func by1_f) by1_a by1_c))), (4, (.lp lo7 0 0)), (5, (.lp lo8 0 0)), (6, (.lp lo9 0 0)), (13, (.fn (.func 104) [] [(.rp (eL aD iE))]))] ∧ aN ⟨H0, [], []⟩ H [(lo7, 1, [(eL aD t4)]), (lo8, 1, [(eI t5)]), (lo9, 1, [(.msl 3 lo10 0 (List.length out6))]), (lo10, 3, List.map aD out6)] ∧ qR by1 t4 t5 out6 iE = some r) ?_ ⟨[], 0, ([] : List aC), x5, lo1, lo2, lo3, lo4, .eq (by kernel_rfl), hO, h0⟩
  clear hO h0
  rintro T H ⟨t4, t5, out6, iE, lo7, lo8, lo9, lo10, hT, hO, h0⟩
  refine aY (l := [(3, (.rp (.fn (.func by1_f) by1_a by1_c))), (4, (.lp lo7 0 0)), (5, (.lp lo8 0 0)), (6, (.lp lo9 0 0)), (13, (.fn (.func 104) [] [(.rp (eL aD iE))]))]) hT ?_
  clear hT
  unfold qR at h0
  obtain ⟨o0, hl0, h0⟩ := aW h0
  refine KL (fid := 104) (ys := []) (cs := [(.rp (eL aD iE))]) #[14, 15] (fun (A : yM) (b lL : Nat) (st : ((List aC) × Int × List aC) ⊕ ((List aC) × Int × List aC)) (G' : Gs) => Sum.elim (fun (s : (List aC) × Int × List aC) => ∃ lo10 : Nat, G' = (lL, .raw (kM b A .ready none)) :: (up [(lo7, 1, [(eL aD s.1)]), (lo8, 1, [(eI s.2.1)]), (lo9, 1, [(.msl 3 lo10 0 (List.length s.2.2))]), (lo10, 3, List.map aD s.2.2)] ++ [])) (fun (s : (List aC) × Int × List aC) => ∃ lo10 : Nat, G' = (lL, .raw (kM b A .done (some .ret))) :: (up [(lo7, 1, [(eL aD s.1)]), (lo8, 1, [(eI s.2.1)]), (lo9, 1, [(.msl 3 lo10 0 (List.length s.2.2))]), (lo10, 3, List.map aD s.2.2)] ++ [])) st) (.inl (t4, t5, out6)) o0 (.tup []) (by kernel_rfl) (by kernel_rfl) (by kernel_rfl) hO (fun _ _ => ⟨lo10, rfl⟩) ?_ ?_
  · intro b lL
    clear hO h0
    refine xE _ b (fun st t14 t15 => rnd (fun (s : (List aC) × Int × List aC) => lM by1 iE s.1 s.2.1 s.2.2 t14 t15) st) ?_ iE _ _ hl0
    intro st t14 t15 st2 rr hr
    obtain ⟨s, rfl, h1, rfl⟩ := WG hr
    clear hr
    intro Hr Gr hi hg
    obtain ⟨t4, t5, out6⟩ := s
    dsimp only [Sum.elim_inl] at hi
    obtain ⟨lo10, rfl⟩ := hi
    replace h1 : lM by1 iE t4 t5 out6 t14 t15 = some st2 := h1
    unfold lM at h1
    obtain ⟨E1, hE, hO⟩ := BY hg
    refine CF (IL (hO.gm 0 _ rfl).2 (by kernel_rfl) (by kernel_rfl) ?_)
    refine dL [(3, (.rp (.fn (.func by1_f) by1_a by1_c))), (4, (.lp lo7 0 0)), (5, (.lp lo8 0 0)), (6, (.lp lo9 0 0)), (13, (.fn (.func 104) [] [(.rp (eL aD iE))])), (14, (eL aL t14)), (15, (eL aE t15))] ?_
    refine aS aG 1 [13, 14] [(7, (eL aL t14))] ?_
    refine aV aG 1 ?_
    refine bC ?_
    refine iZ [(3, (.rp (.fn (.func by1_f) by1_a by1_c))), (4, (.lp lo7 0 0)), (5, (.lp lo8 0 0)), (6, (.lp lo9 0 0)), (7, (eL aL t14)), (8, (eL aE t15))] ?_
    refine aI (⟨rfl, rfl, (hO.gm 0 _ rfl).2, ?_⟩)
    intro o1 ho1
    replace hO := hO.BC o1
    refine bO 1 ?_
    refine aP ?_
    refine aV aG 8 ?_
    refine bN 2 ?_
    obtain ⟨x11, hx12, h1⟩ := aW h1
    refine dA (by1_h t15 _ hx12) hO ?_
    intro H hO
    refine bC ?_
    refine bR [3, 8] [(9, (eL aE x11.1)), (10, (eI x11.2))] ?_
    refine aP ?_
    refine aS aG 2 [] [(23, (aM (!decide (x11.2 = (0 : Int)))))] ?_
    refine bH h1 (fun h1 => ?_) (fun h1 => ?_)
    · refine aP ?_
      refine aV aG 3 ?_
      refine bN 1 ?_
      refine nM 0 lo7 1 0 (eL aD t4) (.sl true 0 (fun _ => .bad)) [(eL aD t4)] [(lo7, 1, [(.sl true 0 (fun _ => .bad))]), (lo8, 1, [(eI t5)]), (lo9, 1, [(.msl 3 lo10 0 (List.length out6))]), (lo10, 3, List.map aD out6)] hO rfl (by kernel_rfl) ?_
      intro H hO
      refine nM 1 lo8 1 0 (eI t5) (eI x11.2) [(eI t5)] [(lo7, 1, [(.sl true 0 (fun _ => .bad))]), (lo8, 1, [(eI x11.2)]), (lo9, 1, [(.msl 3 lo10 0 (List.length out6))]), (lo10, 3, List.map aD out6)] hO rfl (by kernel_rfl) ?_
      intro H hO
      refine cP ?_
      refine JK 0 lo7 1 (.sl true 0 (fun _ => .bad)) (eL aD ([])) [(lo7, 1, [(eL aD ([]))]), (lo8, 1, [(eI x11.2)]), (lo9, 1, [(.msl 3 lo10 0 (List.length out6))]), (lo10, 3, List.map aD out6)] hO (by kernel_rfl) (by kernel_rfl) lJ (by kernel_rfl) ?_
      intro H hO
      refine bF [(4, (.lp lo7 0 0)), (5, (.lp lo8 0 0)), (6, (.lp lo9 0 0))] ?_
      refine bI ?_
      refine iZ [(4, (.lp lo7 0 0)), (5, (.lp lo8 0 0)), (6, (.lp lo9 0 0))] ?_
      obtain rfl := oI h1
      exact aI (aX (bU (⟨(mN hO hE ho1 .dead).1, rfl, _, ⟨lo10, rfl⟩, (mN hO hE ho1 _).2⟩)))
    refine bJ ?_
    refine bF [(4, (.lp lo7 0 0)), (5, (.lp lo8 0 0)), (6, (.lp lo9 0 0)), (7, (eL aL t14)), (9, (eL aE x11.1))] ?_
    refine aP ?_
    refine aV aG 5 ?_
    refine wH 2 lo9 1 0 (.msl 3 lo10 0 (List.length out6)) (.msl 3 lo10 0 (List.length out6)) [(.msl 3 lo10 0 (List.length out6))] hO rfl ?_
    refine bN 3 ?_
    obtain ⟨x15, hx16, h1⟩ := aW h1
    refine UO (L' := fun lo17 => [(lo7, 1, [(eL aD t4)]), (lo8, 1, [(eI t5)]), (lo9, 1, [(.msl 3 lo10 0 (List.length out6))]), (lo17, 3, List.map aD x15)]) 3 lo10 3 (List.map aD out6) (List.map aD x15) 78 [(.msl 3 lo10 0 (List.length out6)), (eL aL t14), (eL aE x11.1)] (fun lo17 => (.msl 3 lo17 0 (List.length x15))) (by kernel_rfl) (by kernel_rfl) (OH lo10 out6 t14 x11.1 _ hx16) hO (by kernel_rfl) (fun _ => by kernel_rfl) ?_
    intro lo17 H hO
    refine nM 2 lo9 1 0 (.msl 3 lo10 0 (List.length out6)) (.msl 3 lo17 0 (List.length x15)) [(.msl 3 lo10 0 (List.length out6))] [(lo7, 1, [(eL aD t4)]), (lo8, 1, [(eI t5)]), (lo9, 1, [(.msl 3 lo17 0 (List.length x15))]), (lo17, 3, List.map aD x15)] hO rfl (by kernel_rfl) ?_
    intro H hO
    refine cP ?_
    refine bR [7, 9] [] ?_
    refine aP ?_
    refine aV aG 3 ?_
    refine wH 2 lo9 1 0 (.msl 3 lo17 0 (List.length x15)) (.msl 3 lo17 0 (List.length x15)) [(.msl 3 lo17 0 (List.length x15))] hO rfl ?_
    refine bC ?_
    refine bR [] [(31, (aM (decide ((4096 : Int) < (lN x15)))))] ?_
    refine bH h1 (fun h1 => ?_) (fun h1 => ?_)
    · refine aP ?_
      refine aV aG 2 ?_
      refine nM 0 lo7 1 0 (eL aD t4) (.sl true 0 (fun _ => .bad)) [(eL aD t4)] [(lo7, 1, [(.sl true 0 (fun _ => .bad))]), (lo8, 1, [(eI t5)]), (lo9, 1, [(.msl 3 lo17 0 (List.length x15))]), (lo17, 3, List.map aD x15)] hO rfl (by kernel_rfl) ?_
      intro H hO
      refine nM 1 lo8 1 0 (eI t5) (eI (7 : Int)) [(eI t5)] [(lo7, 1, [(.sl true 0 (fun _ => .bad))]), (lo8, 1, [(eI (7 : Int))]), (lo9, 1, [(.msl 3 lo17 0 (List.length x15))]), (lo17, 3, List.map aD x15)] hO rfl (by kernel_rfl) ?_
      intro H hO
      refine cP ?_
      refine JK 0 lo7 1 (.sl true 0 (fun _ => .bad)) (eL aD ([])) [(lo7, 1, [(eL aD ([]))]), (lo8, 1, [(eI (7 : Int))]), (lo9, 1, [(.msl 3 lo17 0 (List.length x15))]), (lo17, 3, List.map aD x15)] hO (by kernel_rfl) (by kernel_rfl) lJ (by kernel_rfl) ?_
      intro H hO
      refine bF [(4, (.lp lo7 0 0)), (5, (.lp lo8 0 0)), (6, (.lp lo9 0 0))] ?_
      refine bI ?_
      refine iZ [(4, (.lp lo7 0 0)), (5, (.lp lo8 0 0)), (6, (.lp lo9 0 0))] ?_
      obtain rfl := oI h1
      exact aI (bU (⟨(mN hO hE ho1 .dead).1, rfl, _, ⟨lo17, rfl⟩, (mN hO hE ho1 _).2⟩))
    refine bJ ?_
    refine iZ [(4, (.lp lo7 0 0)), (5, (.lp lo8 0 0)), (6, (.lp lo9 0 0))] ?_
    obtain rfl := oI h1
    exact aI (aT (⟨(mN hO hE ho1 .dead).1, rfl, _, ⟨lo17, rfl⟩, (mN hO hE ho1 _).2⟩))
  · intro b lD lL H' G' hi hO
    rcases o0 with s | s
    · dsimp only [Sum.elim_inl] at hi
      obtain ⟨lo10, rfl⟩ := hi
      replace h0 : (some (s.2.2, (0 : Int))) = some r := h0
      obtain ⟨hlL, hO⟩ := vR hO
      refine ⟨_, _, hlL, (by intro e; cases e), ?_⟩
      refine iZ [(4, (.lp lo7 0 0)), (5, (.lp lo8 0 0)), (6, (.lp lo9 0 0))] ?_
      refine aI (aT (aH (?_)))
      refine aP ?_
      refine OF (e := aD) s.2.2 2 3 1 3 lo9 lo10 (List.length s.2.2) [(lo7, 1, [(eL aD s.1)]), (lo8, 1, [(eI s.2.1)]), (lo9, 1, [(eL aD s.2.2)])] hO (by kernel_rfl) (by kernel_rfl) (by kernel_rfl) (.inr (by decide)) (by kernel_rfl) ?_
      intro H hO
      refine aV aG 3 ?_
      refine wH 2 lo9 1 0 (eL aD s.2.2) (eL aD s.2.2) [(eL aD s.2.2)] hO rfl ?_
      refine nM 0 lo7 1 0 (eL aD s.1) (eL aD s.2.2) [(eL aD s.1)] [(lo7, 1, [(eL aD s.2.2)]), (lo8, 1, [(eI s.2.1)]), (lo9, 1, [(eL aD s.2.2)])] hO rfl (by kernel_rfl) ?_
      intro H hO
      refine nM 1 lo8 1 0 (eI s.2.1) (eI (0 : Int)) [(eI s.2.1)] [(lo7, 1, [(eL aD s.2.2)]), (lo8, 1, [(eI (0 : Int))]), (lo9, 1, [(eL aD s.2.2)])] hO rfl (by kernel_rfl) ?_
      intro H hO
      refine cP ?_
      replace hO := hO.pick (L' := [(lo7, 1, [(eL aD s.2.2)]), (lo8, 1, [(eI (0 : Int))])]) [0, 1] (by decide) (by kernel_rfl)
      refine bR [6] [] ?_
      refine bI ?_
      obtain rfl := oI h0
      have hD := (hO.gm 0 _ rfl).2
      replace hO := (hO.BC .dead).yR
      exact aI (QM1 (.inr rfl) hD (rs := [.cell 4 22, .cell 5 25]) (xs := [(eL aD s.2.2), (eI (0 : Int))]) (x := (.tup [(eL aD s.2.2), (eI (0 : Int))])) (by kernel_rfl) (tV (lo := lo7) (k := 1) (y := (eL aD s.2.2)) (x := (eL aD s.2.2)) 0 hO (by kernel_rfl) (by kernel_rfl) (by kernel_rfl) (by kernel_rfl) (tV (lo := lo8) (k := 1) (y := (eI (0 : Int))) (x := (eI (0 : Int))) 1 hO (by kernel_rfl) (by kernel_rfl) (by kernel_rfl) (by kernel_rfl) AQ)) (by kernel_rfl) ⟨rfl, hO.out⟩)
    · dsimp only [Sum.elim_inr] at hi
      obtain ⟨lo10, rfl⟩ := hi
      replace h0 : (some (s.1, s.2.1)) = some r := h0
      obtain ⟨hlL, hO⟩ := vR hO
      refine ⟨_, _, hlL, (by intro e; cases e), ?_⟩
      refine bI ?_
      replace hO := hO.pick (L' := [(lo7, 1, [(eL aD s.1)]), (lo8, 1, [(eI s.2.1)])]) [0, 1] (by decide) (by kernel_rfl)
      obtain rfl := oI h0
      have hD := (hO.gm 0 _ rfl).2
      replace hO := (hO.BC .dead).yR
      exact aI (bU (aX (QM1 (.inr rfl) hD (rs := [.cell 4 22, .cell 5 25]) (xs := [(eL aD s.1), (eI s.2.1)]) (x := (.tup [(eL aD s.1), (eI s.2.1)])) (by kernel_rfl) (tV (lo := lo7) (k := 1) (y := (eL aD s.1)) (x := (eL aD s.1)) 0 hO (by kernel_rfl) (by kernel_rfl) (by kernel_rfl) (by kernel_rfl) (tV (lo := lo8) (k := 1) (y := (eI s.2.1)) (x := (eI s.2.1)) 1 hO (by kernel_rfl) (by kernel_rfl) (by kernel_rfl) (by kernel_rfl) AQ)) (by kernel_rfl) ⟨rfl, hO.out⟩)))

theorem qF (s0 : (List aB)) (f1_f : Nat) (f1_a f1_c : List V) (f1 : aB → Option Bool) (f1_h : ∀ a0 r, f1 a0 = some r → bV Try.prog f1_f (f1_a ++ [(aE a0)] ++ f1_c) (aM r)) (r : Int) (h0 : eN s0 f1 = some r) : bV Try.prog 116 [(eL aE s0), (.fn (.func f1_f) f1_a f1_c)] (eI r) := by
  intro H0
  refine cE Try.func116 ?_
  have hO := aN.start H0
  unfold eN at h0
  refine aS aG 1 [] [] ?_
  refine cY (fun T H => Has T [] ∧ aN ⟨H0, [], []⟩ H [] ∧ cV f1  = some r) ?_ ?_
  · clear hO h0
    rintro T H ⟨hT, hO, h0⟩
    refine aY hT ?_
    clear hT
    unfold cV at h0
    refine bQ aG 1 [(4, (eI (-1 : Int)))] ?_
    refine bI ?_
    obtain rfl := oI h0
    exact aI (Q_r hO)
  refine aS aG 3 [] [(7, (eI (lN s0))), (8, (eI (0 : Int)))] ?_
  refine bO 0 ?_
  refine dL [(0, (eL aE s0)), (1, (.fn (.func f1_f) f1_a f1_c)), (7, (eI (lN s0))), (8, (eI (0 : Int)))] ?_
  refine cR (fun T H => ∃ t7 : Int, ∃ t8 : Int, Has T [(0, (eL aE s0)), (1, (.fn (.func f1_f) f1_a f1_c)), (7, (eI t7)), (8, (eI t8))] ∧ aN ⟨H0, [], []⟩ H [] ∧ eH f1 s0 t7 t8 = some r) ?_ ⟨(lN s0), (0 : Int), .eq (by kernel_rfl), hO, h0⟩
  clear hO h0
  rintro T H ⟨t7, t8, hT, hO, h0⟩
  refine aY hT ?_
  clear hT
  unfold eH at h0
  obtain ⟨rr0, hl0, h0⟩ := aW h0
  refine bZ (by kernel_rfl) (fun (s : Int) T H => Has T [(0, (eL aE s0)), (1, (.fn (.func f1_f) f1_a f1_c)), (7, (eI t7)), (8, (eI s))] ∧ aN ⟨H0, [], []⟩ H []) hl0 ⟨.eq (by kernel_rfl), hO⟩ ?_
  clear hO
  rintro k0 s out1 T H ⟨hT, hO⟩ h1 ho0
  obtain ⟨t8, rfl⟩ : ∃ x, x = s := ⟨_, rfl⟩
  replace h1 : eG f1 s0 t7 t8 = some out1 := h1
  refine aY hT ?_
  clear hT
  unfold eG at h1
  refine aS aG 1 [] [(9, (aM (decide (t8 < t7))))] ?_
  refine aP ?_
  refine bH h1 (fun h1 => ?_) (fun h1 => ?_)
  · refine bJ ?_
    refine bF [(0, (eL aE s0)), (1, (.fn (.func f1_f) f1_a f1_c)), (7, (eI t7)), (8, (eI t8))] ?_
    refine aP ?_
    refine bO 1 ?_
    refine aS aG 2 [] [(5, (eI t8))] ?_
    refine aP ?_
    refine aV aG 6 ?_
    obtain ⟨c2, h1⟩ := bE h1
    refine uB 5 [0 ≤ t8 ∧ t8 < (lN s0)] ⟨c2, trivial⟩ ?_
    obtain ⟨x3, hx4, h1⟩ := aW h1
    refine dA (f1_h (gD s0 t8) _ hx4) hO ?_
    intro H hO
    refine cP ?_
    refine bR [] [(16, (aM x3))] ?_
    refine bH h1 (fun h1 => ?_) (fun h1 => ?_)
    · refine bQ aG 2 [(4, (eI t8))] ?_
      refine bI ?_
      obtain rfl := oI h1
      obtain rfl : _ = rr0 := ho0
      replace h0 : some t8 = some r := h0
      obtain rfl := oI h0
      exact aI (bU (aX (aX (bU (aX (Q_r hO))))))
    refine bJ ?_
    refine iZ [(0, (eL aE s0)), (1, (.fn (.func f1_f) f1_a f1_c)), (7, (eI t7)), (8, (eI t8))] ?_
    refine aI (aT (aH (?_)))
    refine aV aG 2 ?_
    refine bC ?_
    exact aI (aH (⟨rfl, _, (oI h1).symm, .eq (by kernel_rfl), hO⟩))
  refine eP 0 ?_
  obtain rfl := oI h1
  obtain rfl : _ = rr0 := ho0
  replace h0 : cV f1  = some r := h0
  exact aI (aU (aU (bL (aH (⟨rfl, .eq (by kernel_rfl), hO, h0⟩)))))

theorem kU (s0 : (List aB)) (f1_f : Nat) (f1_a f1_c : List V) (f1 : aB → Option Bool) (f1_h : ∀ a0 r, f1 a0 = some r → bV Try.prog f1_f (f1_a ++ [(aE a0)] ++ f1_c) (aM r)) (r : Bool) (h0 : cC s0 f1 = some r) : bV Try.prog 96 [(eL aE s0), (.fn (.func f1_f) f1_a f1_c)] (aM r) := by
  intro H0
  refine cE Try.func96 ?_
  have hO := aN.start H0
  unfold cC at h0
  refine aS aG 1 [] [] ?_
  refine aP ?_
  refine aV aG 5 ?_
  refine bN 2 ?_
  obtain ⟨x1, hx2, h0⟩ := aW h0
  refine dA (qF s0 f1_f f1_a f1_c f1 f1_h _ hx2) hO ?_
  intro H hO
  refine bC ?_
  refine bF [(4, (aM (decide ((0 : Int) ≤ x1))))] ?_
  refine bI ?_
  obtain rfl := oI h0
  exact aI (Q_r hO)

theorem HP (j0 : aB) (r : Bool) (h0 : oV j0 = some r) : bV Try.prog 97 [(aE j0)] (aM r) := by
  intro H0
  refine cE Try.func97 ?_
  have hO := aN.start H0
  unfold oV at h0
  refine aP ?_
  refine aV aG 2 ?_
  refine kK 2 (aE j0) (by kernel_rfl) (by kernel_rfl) ?_
  refine bC ?_
  refine bF [(1, (.rp (aE j0)))] ?_
  refine aP ?_
  refine aV aG 5 ?_
  refine bN 2 ?_
  obtain ⟨x1, hx2, h0⟩ := aW h0
  refine dA (CH j0.Net _ hx2) hO ?_
  intro H hO
  refine bC ?_
  refine bF [(2, (aM (!x1)))] ?_
  refine bI ?_
  obtain rfl := oI h0
  exact aI (Q_r hO)

theorem HM (j0 : aB) (r : Bool) (h0 : oS j0 = some r) : bV Try.prog 98 [(aE j0)] (aM r) := by
  intro H0
  refine cE Try.func98 ?_
  have hO := aN.start H0
  unfold oS at h0
  refine aP ?_
  refine aV aG 2 ?_
  refine kK 2 (aE j0) (by kernel_rfl) (by kernel_rfl) ?_
  refine bC ?_
  refine bF [(1, (.rp (aE j0)))] ?_
  refine bQ aG 9 [(2, (aM ((decide (j0.At < (-1 : Int))) || (decide ((1125899906842624 : Int) < j0.At)))))] ?_
  refine bI ?_
  obtain rfl := oI h0
  exact aI (Q_r hO)

theorem rZ (s0 : (List aB)) (r : (List aB)) (h0 : dX s0 = some r) : vP Try.prog 99 [(eL aE s0)] (fun lo => (.msl 2 lo 0 (List.length r))) 2 (List.map aE r) := by
  intro H0
  refine cE Try.func99 ?_
  have hO := aN.start H0
  unfold dX at h0
  refine aS aG 1 [] [] ?_
  refine aP ?_
  refine aP ?_
  refine aV aG 2 ?_
  refine bN 1 ?_
  refine TK false (List.length s0) (fun i => aE (List.getD s0 i default)) (by kernel_rfl) (by kernel_rfl) ?_
  intro b1 hn2
  refine cP ?_
  refine bR [] [(4, (aM b1))] ?_
  refine mA (b1) (fun hc3 => ?_) (fun hc3 => ?_)
  · replace h0 : some ([] : List aB) = some r := by
      have hl := List.eq_nil_of_length_eq_zero (hn2 hc3)
      rw [hl] at h0
      exact (bE h0).2
    refine bQ aG 1 [(2, (.sl true 0 (fun _ => .bad)))] ?_
    refine bI ?_
    refine iZ [(2, (.sl true 0 (fun _ => .bad)))] ?_
    refine PV (el := (fun _ => .bad)) 0 2 2 hO (by kernel_rfl) ?_
    intro lo4 H5 hO
    obtain rfl := oI h0
    exact aI (aX (nP (x := (.msl 2 lo4 0 (List.length ([] : List aB)))) (by kernel_rfl) (aR.refl _) ⟨lo4, rfl, hO⟩))
  · refine bJ ?_
    refine bF [(0, (eL aE s0))] ?_
    refine aP ?_
    refine aV aG 4 ?_
    refine vM (xs := []) (k := 2) (by kernel_rfl) (by kernel_rfl) ?_
    refine bN 2 ?_
    obtain ⟨c7, h0⟩ := bE h0
    refine MF (e := aE) s0 (fun _ => .bad) 2 16 (eL aE s0) (fun lo6 => [(lo6, 2, List.map aE s0)]) (by kernel_rfl) (by kernel_rfl) hO (FK (fun _ => by kernel_rfl)) c7 (fun _ => by kernel_rfl) ?_
    intro lo6 H hO
    refine bC ?_
    refine bF [(2, (.msl 2 lo6 0 (List.length s0)))] ?_
    refine bI ?_
    obtain rfl := oI h0
    exact aI (nP (x := (.msl 2 lo6 0 (List.length s0))) (by kernel_rfl) (aR.refl _) ⟨lo6, rfl, hO⟩)

theorem lC (lo0p : Nat) (aA : (List aB)) (a1 : Int) (b2 : Int) (cmp3_f : Nat) (cmp3_a cmp3_c : List V) (cmp3 : aB → aB → Option Int) (cmp3_h : ∀ a0 a1 r, cmp3 a0 a1 = some r → bV Try.prog cmp3_f (cmp3_a ++ [(aE a0), (aE a1)] ++ cmp3_c) (eI r)) (r : List aB) (h0 : cS aA a1 b2 cmp3 = some r) : jL Try.prog 121 lo0p 2 (List.map aE aA) (List.map aE r) [(.msl 2 lo0p 0 (List.length aA)), (eI a1), (eI b2), (.fn (.func cmp3_f) cmp3_a cmp3_c)] (.tup []) := by
  intro H0 hl0
  refine cE Try.func121 ?_
  have hO := aN.nF hl0
  clear hl0
  obtain ⟨N0, hN0⟩ : ∃ n, n = List.length aA := ⟨_, rfl⟩
  have hN : List.length aA = N0 := hN0.symm
  unfold cS at h0
  refine aS aG 3 [] [(8, (eI (wR (a1 + (1 : Int)))))] ?_
  refine bO 0 ?_
  refine dL [(0, (.msl 2 lo0p 0 (List.length aA))), (1, (eI a1)), (2, (eI b2)), (3, (.fn (.func cmp3_f) cmp3_a cmp3_c)), (8, (eI (wR (a1 + (1 : Int)))))] ?_
  refine cR (fun T H => ∃ aA : List aB, ∃ i8 : Int, Has T [(0, (.msl 2 lo0p 0 (List.length aA))), (1, (eI a1)), (2, (eI b2)), (3, (.fn (.func cmp3_f) cmp3_a cmp3_c)), (8, (eI i8))] ∧ aN ⟨H0, [lo0p], []⟩ H [(lo0p, 2, List.map aE aA)] ∧ List.length aA = N0 ∧ gS cmp3 aA a1 b2 i8 = some r) ?_ ⟨aA, wR (a1 + (1 : Int)), .eq (by kernel_rfl), hO, hN, h0⟩
  clear hO hN h0
  rintro T H ⟨aA, i8, hT, hO, hN, h0⟩
  refine aY hT ?_
  clear hT
  unfold gS at h0
  obtain ⟨rr0, hl0, h0⟩ := aW h0
  refine bZ (by kernel_rfl) (fun (s : List aB × Int) T H => Has T [(0, (.msl 2 lo0p 0 (List.length s.1))), (1, (eI a1)), (2, (eI b2)), (3, (.fn (.func cmp3_f) cmp3_a cmp3_c)), (8, (eI s.2))] ∧ aN ⟨H0, [lo0p], []⟩ H [(lo0p, 2, List.map aE s.1)] ∧ List.length s.1 = N0) hl0 ⟨.eq (by kernel_rfl), hO, hN⟩ ?_
  clear hO hN
  rintro k0 s out1 T H ⟨hT, hO, hN⟩ h1 ho0
  obtain ⟨aA, i8⟩ := s
  replace h1 : gN cmp3 a1 b2 aA i8 = some out1 := h1
  dsimp only at hT
  refine aY hT ?_
  clear hT
  unfold gN at h1
  refine aP ?_
  refine aS aG 3 [] [(14, (aM (decide (i8 < b2))))] ?_
  refine bH h1 (fun h1 => ?_) (fun h1 => ?_)
  · refine bJ ?_
    refine bF [(0, (.msl 2 lo0p 0 (List.length aA))), (1, (eI a1)), (2, (eI b2)), (3, (.fn (.func cmp3_f) cmp3_a cmp3_c)), (8, (eI i8))] ?_
    refine cY (fun T H => ∃ aA : List aB, Has T [(0, (.msl 2 lo0p 0 (List.length aA))), (1, (eI a1)), (2, (eI b2)), (3, (.fn (.func cmp3_f) cmp3_a cmp3_c)), (8, (eI i8))] ∧ aN ⟨H0, [lo0p], []⟩ H [(lo0p, 2, List.map aE aA)] ∧ List.length aA = N0 ∧ dR cmp3 aA a1 b2 i8 = some out1) ?_ ?_
    · clear hO hN h1
      rintro T H ⟨aA, hT, hO, hN, h1⟩
      refine aY hT ?_
      clear hT
      unfold dR at h1
      refine aV aG 3 ?_
      refine bC ?_
      exact aI (aH (⟨rfl, _, (oI h1).symm, .eq (by kernel_rfl), hO, hN⟩))
    refine bO 1 ?_
    refine aS aG 2 [] [(9, (eI i8))] ?_
    refine bO 2 ?_
    refine dL [(0, (.msl 2 lo0p 0 (List.length aA))), (1, (eI a1)), (2, (eI b2)), (3, (.fn (.func cmp3_f) cmp3_a cmp3_c)), (8, (eI i8)), (9, (eI i8))] ?_
    refine cR (fun T H => ∃ aA : List aB, ∃ j9 : Int, Has T [(0, (.msl 2 lo0p 0 (List.length aA))), (1, (eI a1)), (2, (eI b2)), (3, (.fn (.func cmp3_f) cmp3_a cmp3_c)), (8, (eI i8)), (9, (eI j9))] ∧ aN ⟨H0, [lo0p], []⟩ H [(lo0p, 2, List.map aE aA)] ∧ List.length aA = N0 ∧ gR cmp3 aA a1 b2 i8 j9 = some out1) ?_ ⟨aA, i8, .eq (by kernel_rfl), hO, hN, h1⟩
    clear hO hN h1
    rintro T H ⟨aA, j9, hT, hO, hN, h1⟩
    refine aY hT ?_
    clear hT
    unfold gR at h1
    obtain ⟨rr1, hl1, h1⟩ := aW h1
    refine bZ (by kernel_rfl) (fun (s : List aB × Int) T H => Has T [(0, (.msl 2 lo0p 0 (List.length s.1))), (1, (eI a1)), (2, (eI b2)), (3, (.fn (.func cmp3_f) cmp3_a cmp3_c)), (8, (eI i8)), (9, (eI s.2))] ∧ aN ⟨H0, [lo0p], []⟩ H [(lo0p, 2, List.map aE s.1)] ∧ List.length s.1 = N0) hl1 ⟨.eq (by kernel_rfl), hO, hN⟩ ?_
    clear hO hN
    rintro k1 s out2 T H ⟨hT, hO, hN⟩ h2 ho1
    obtain ⟨aA, j9⟩ := s
    replace h2 : gT cmp3 a1 b2 i8 aA j9 = some out2 := h2
    dsimp only at hT
    refine aY hT ?_
    clear hT
    unfold gT at h2
    refine aP ?_
    refine aP ?_
    obtain ⟨c2, h2⟩ := bE h2
    obtain ⟨c3, h2⟩ := bE h2
    obtain ⟨x4, hx5, h2⟩ := aW h2
    refine jP (jQ []) aG 17 ?_
    refine ET (K := fun T H => Has (lift T) [(0, (.msl 2 lo0p 0 (List.length aA))), (1, (eI a1)), (2, (eI b2)), (3, (.fn (.func cmp3_f) cmp3_a cmp3_c)), (8, (eI i8)), (9, (eI j9)), (34, (aM ((decide (a1 < j9)) && (decide (x4 < (0 : Int))))))] ∧ aN ⟨H0, [lo0p], []⟩ H [(lo0p, 2, List.map aE aA)]) ?_ ?_
    · refine tI 4 ?_
      refine FE (t := 21) (e := decide (a1 < j9)) (by kernel_rfl) (fun hg6 => ?_) (fun hg6 => ?_)
      · refine cX 8 [0 ≤ j9 ∧ j9 < (lN aA)] ⟨(c2 hg6), trivial⟩ ?_
        refine vT 0 lo0p 2 (0 + Int.toNat j9) (aE (gD aA j9)) (aE (gD aA j9)) (List.map aE aA) (by kernel_rfl) (by kernel_rfl) (by kernel_rfl) hO (by kernel_rfl) (cD (c2 hg6)) ?_
        refine cX 13 [0 ≤ (wR (j9 - (1 : Int))) ∧ (wR (j9 - (1 : Int))) < (lN aA)] ⟨(c3 hg6), trivial⟩ ?_
        refine vT 0 lo0p 2 (0 + Int.toNat (wR (j9 - (1 : Int)))) (aE (gD aA (wR (j9 - (1 : Int))))) (aE (gD aA (wR (j9 - (1 : Int))))) (List.map aE aA) (by kernel_rfl) (by kernel_rfl) (by kernel_rfl) hO (by kernel_rfl) (cD (c3 hg6)) ?_
        refine MW cmp3_f (cmp3_a ++ [(aE (gD aA j9)), (aE (gD aA (wR (j9 - (1 : Int)))))] ++ cmp3_c) (eI x4) (by kernel_rfl) (by kernel_rfl) (cmp3_h (gD aA j9) (gD aA (wR (j9 - (1 : Int)))) _ (uP hx5 hg6)) hO ?_
        intro H hO
        refine nS ?_
        exact ⟨⟨[(0, (.msl 2 lo0p 0 (List.length aA))), (1, (eI a1)), (2, (eI b2)), (3, (.fn (.func cmp3_f) cmp3_a cmp3_c)), (8, (eI i8)), (9, (eI j9)), (34, (aM (decide (x4 < (0 : Int)))))], by kernel_rfl, rfl, ⟨aR.refl _, aR.refl _, aR.refl _, aR.refl _, aR.refl _, aR.refl _, aR.eq (congrArg aM (BL hg6 rfl).symm), trivial⟩⟩, hO⟩
      refine nS ?_
      exact ⟨⟨[(0, (.msl 2 lo0p 0 (List.length aA))), (1, (eI a1)), (2, (eI b2)), (3, (.fn (.func cmp3_f) cmp3_a cmp3_c)), (8, (eI i8)), (9, (eI j9)), (34, (aM false))], by kernel_rfl, rfl, ⟨aR.refl _, aR.refl _, aR.refl _, aR.refl _, aR.refl _, aR.refl _, aR.eq (congrArg aM (BL hg6 rfl).symm), trivial⟩⟩, hO⟩
    · rintro T H ⟨hT, hO⟩
      refine cG hT ?_
      clear hT
      refine aI (aH ?_)
      refine bH h2 (fun h2 => ?_) (fun h2 => ?_)
      · refine bJ ?_
        refine bF [(0, (.msl 2 lo0p 0 (List.length aA))), (1, (eI a1)), (2, (eI b2)), (3, (.fn (.func cmp3_f) cmp3_a cmp3_c)), (8, (eI i8)), (9, (eI j9))] ?_
        refine aP ?_
        refine bO 3 ?_
        refine jP (jQ []) aG 18 ?_
        obtain ⟨c8, h2⟩ := bE h2
        refine cX 9 [0 ≤ (wR (j9 - (1 : Int))) ∧ (wR (j9 - (1 : Int))) < (lN aA)] ⟨c8, trivial⟩ ?_
        refine jW 0 lo0p 2 (0 + Int.toNat (wR (j9 - (1 : Int)))) (aE (gD aA (wR (j9 - (1 : Int))))) (aE (gD aA (wR (j9 - (1 : Int))))) (List.map aE aA) hO (cD c8) ?_
        obtain ⟨c9, h2⟩ := bE h2
        refine cX 13 [0 ≤ j9 ∧ j9 < (lN aA)] ⟨c9, trivial⟩ ?_
        refine jW 0 lo0p 2 (0 + Int.toNat j9) (aE (gD aA j9)) (aE (gD aA j9)) (List.map aE aA) hO (cD c9) ?_
        obtain ⟨c10, h2⟩ := bE h2
        refine cX 15 [0 ≤ j9 ∧ j9 < (lN aA)] ⟨c10, trivial⟩ ?_
        refine pW 0 lo0p 2 (0 + Int.toNat j9) (aE (gD aA j9)) (aE (gD aA (wR (j9 - (1 : Int))))) (List.map aE aA) [(lo0p, 2, List.map aE (List.set aA (Int.toNat j9) (gD aA (wR (j9 - (1 : Int))))))] hO (cD c10) (by simp only [List.set, mC]) ?_
        intro H hO
        replace hN : List.length (List.set aA (Int.toNat j9) (gD aA (wR (j9 - (1 : Int))))) = N0 := by simpa using hN
        obtain ⟨c11, h2⟩ := bE h2
        refine cX 17 [0 ≤ (wR (j9 - (1 : Int))) ∧ (wR (j9 - (1 : Int))) < (lN aA)] ⟨c11, trivial⟩ ?_
        refine pW 0 lo0p 2 (0 + Int.toNat (wR (j9 - (1 : Int)))) (aE (gD (List.set aA (Int.toNat j9) (gD aA (wR (j9 - (1 : Int))))) (wR (j9 - (1 : Int))))) (aE (gD aA j9)) (List.map aE (List.set aA (Int.toNat j9) (gD aA (wR (j9 - (1 : Int)))))) [(lo0p, 2, List.map aE (List.set (List.set aA (Int.toNat j9) (gD aA (wR (j9 - (1 : Int))))) (Int.toNat (wR (j9 - (1 : Int)))) (gD aA j9)))] hO (sJ c11 (by simp [])) (by simp only [List.set, mC]) ?_
        intro H hO
        replace hN : List.length (List.set (List.set aA (Int.toNat j9) (gD aA (wR (j9 - (1 : Int))))) (Int.toNat (wR (j9 - (1 : Int)))) (gD aA j9)) = N0 := by simpa using hN
        refine vJ (by kernel_rfl) ?_
        refine cG (l := [(0, (.msl 2 lo0p 0 (List.length (List.set (List.set aA (Int.toNat j9) (gD aA (wR (j9 - (1 : Int))))) (Int.toNat (wR (j9 - (1 : Int)))) (gD aA j9))))), (1, (eI a1)), (2, (eI b2)), (3, (.fn (.func cmp3_f) cmp3_a cmp3_c)), (8, (eI i8)), (9, (eI j9))]) ⟨[(0, (.msl 2 lo0p 0 (List.length aA))), (1, (eI a1)), (2, (eI b2)), (3, (.fn (.func cmp3_f) cmp3_a cmp3_c)), (8, (eI i8)), (9, (eI j9))], by kernel_rfl, rfl, ⟨aR.eq (by simp []), aR.refl _, aR.refl _, aR.refl _, aR.refl _, aR.refl _, trivial⟩⟩ ?_
        refine aI (aT (aH (?_)))
        refine aV aG 3 ?_
        refine bC ?_
        exact aI (aH (⟨rfl, _, (oI h2).symm, .eq (by kernel_rfl), hO, hN⟩))
      refine eP 2 ?_
      obtain rfl := oI h2
      obtain rfl : _ = rr1 := ho1
      replace h1 : dR cmp3 aA a1 b2 i8 = some out1 := h1
      exact aI (aU (aU (bL (aT (aH (⟨rfl, _, .eq (by kernel_rfl), hO, hN, h1⟩))))))
  refine eP 0 ?_
  obtain rfl := oI h1
  obtain rfl : _ = rr0 := ho0
  replace h0 : some aA = some r := h0
  obtain rfl := oI h0
  exact aI (aU (aU (bL (oD (x := (.tup [])) (by kernel_rfl) (aR.refl _) ⟨rfl, hO.ext, hO.at 0 (by kernel_rfl), by simp only [List.length_map]; exact hN.trans hN0⟩))))

theorem jD (lo0p : Nat) (aA : (List aB)) (a1 : Int) (b2 : Int) (n3 : Int) (cmp4_f : Nat) (cmp4_a cmp4_c : List V) (cmp4 : aB → aB → Option Int) (cmp4_h : ∀ a0 a1 r, cmp4 a0 a1 = some r → bV Try.prog cmp4_f (cmp4_a ++ [(aE a0), (aE a1)] ++ cmp4_c) (eI r)) (r : List aB) (h0 : dK aA a1 b2 n3 cmp4 = some r) : jL Try.prog 126 lo0p 2 (List.map aE aA) (List.map aE r) [(.msl 2 lo0p 0 (List.length aA)), (eI a1), (eI b2), (eI n3), (.fn (.func cmp4_f) cmp4_a cmp4_c)] (.tup []) := by
  intro H0 hl0
  refine cE Try.func126 ?_
  have hO := aN.nF hl0
  clear hl0
  obtain ⟨N0, hN0⟩ : ∃ n, n = List.length aA := ⟨_, rfl⟩
  have hN : List.length aA = N0 := hN0.symm
  unfold dK at h0
  refine aS aG 1 [4] [(10, (eI (0 : Int)))] ?_
  refine bO 0 ?_
  refine dL [(0, (.msl 2 lo0p 0 (List.length aA))), (1, (eI a1)), (2, (eI b2)), (3, (eI n3)), (10, (eI (0 : Int)))] ?_
  refine cR (fun T H => ∃ aA : List aB, ∃ i10 : Int, Has T [(0, (.msl 2 lo0p 0 (List.length aA))), (1, (eI a1)), (2, (eI b2)), (3, (eI n3)), (10, (eI i10))] ∧ aN ⟨H0, [lo0p], []⟩ H [(lo0p, 2, List.map aE aA)] ∧ List.length aA = N0 ∧ iG cmp4 aA a1 b2 n3 i10 = some r) ?_ ⟨aA, (0 : Int), .eq (by kernel_rfl), hO, hN, h0⟩
  clear hO hN h0
  rintro T H ⟨aA, i10, hT, hO, hN, h0⟩
  refine aY hT ?_
  clear hT
  unfold iG at h0
  obtain ⟨rr0, hl0, h0⟩ := aW h0
  refine bZ (by kernel_rfl) (fun (s : List aB × Int) T H => Has T [(0, (.msl 2 lo0p 0 (List.length s.1))), (1, (eI a1)), (2, (eI b2)), (3, (eI n3)), (10, (eI s.2))] ∧ aN ⟨H0, [lo0p], []⟩ H [(lo0p, 2, List.map aE s.1)] ∧ List.length s.1 = N0) hl0 ⟨.eq (by kernel_rfl), hO, hN⟩ ?_
  clear hO hN
  rintro k0 s out1 T H ⟨hT, hO, hN⟩ h1 ho0
  obtain ⟨aA, i10⟩ := s
  replace h1 : iY cmp4 a1 b2 n3 aA i10 = some out1 := h1
  dsimp only at hT
  refine aY hT ?_
  clear hT
  unfold iY at h1
  refine aP ?_
  refine aS aG 3 [] [(13, (aM (decide (i10 < n3))))] ?_
  refine bH h1 (fun h1 => ?_) (fun h1 => ?_)
  · refine bJ ?_
    refine bF [(0, (.msl 2 lo0p 0 (List.length aA))), (1, (eI a1)), (2, (eI b2)), (3, (eI n3)), (10, (eI i10))] ?_
    refine aP ?_
    refine bO 1 ?_
    refine jP (jQ []) aG 24 ?_
    obtain ⟨c2, h1⟩ := bE h1
    refine cX 13 [0 ≤ (wR (b2 + i10)) ∧ (wR (b2 + i10)) < (lN aA)] ⟨c2, trivial⟩ ?_
    refine jW 0 lo0p 2 (0 + Int.toNat (wR (b2 + i10))) (aE (gD aA (wR (b2 + i10)))) (aE (gD aA (wR (b2 + i10)))) (List.map aE aA) hO (cD c2) ?_
    obtain ⟨c3, h1⟩ := bE h1
    refine cX 19 [0 ≤ (wR (a1 + i10)) ∧ (wR (a1 + i10)) < (lN aA)] ⟨c3, trivial⟩ ?_
    refine jW 0 lo0p 2 (0 + Int.toNat (wR (a1 + i10))) (aE (gD aA (wR (a1 + i10)))) (aE (gD aA (wR (a1 + i10)))) (List.map aE aA) hO (cD c3) ?_
    obtain ⟨c4, h1⟩ := bE h1
    refine cX 21 [0 ≤ (wR (a1 + i10)) ∧ (wR (a1 + i10)) < (lN aA)] ⟨c4, trivial⟩ ?_
    refine pW 0 lo0p 2 (0 + Int.toNat (wR (a1 + i10))) (aE (gD aA (wR (a1 + i10)))) (aE (gD aA (wR (b2 + i10)))) (List.map aE aA) [(lo0p, 2, List.map aE (List.set aA (Int.toNat (wR (a1 + i10))) (gD aA (wR (b2 + i10)))))] hO (cD c4) (by simp only [List.set, mC]) ?_
    intro H hO
    replace hN : List.length (List.set aA (Int.toNat (wR (a1 + i10))) (gD aA (wR (b2 + i10)))) = N0 := by simpa using hN
    obtain ⟨c5, h1⟩ := bE h1
    refine cX 23 [0 ≤ (wR (b2 + i10)) ∧ (wR (b2 + i10)) < (lN aA)] ⟨c5, trivial⟩ ?_
    refine pW 0 lo0p 2 (0 + Int.toNat (wR (b2 + i10))) (aE (gD (List.set aA (Int.toNat (wR (a1 + i10))) (gD aA (wR (b2 + i10)))) (wR (b2 + i10)))) (aE (gD aA (wR (a1 + i10)))) (List.map aE (List.set aA (Int.toNat (wR (a1 + i10))) (gD aA (wR (b2 + i10))))) [(lo0p, 2, List.map aE (List.set (List.set aA (Int.toNat (wR (a1 + i10))) (gD aA (wR (b2 + i10)))) (Int.toNat (wR (b2 + i10))) (gD aA (wR (a1 + i10)))))] hO (sJ c5 (by simp [])) (by simp only [List.set, mC]) ?_
    intro H hO
    replace hN : List.length (List.set (List.set aA (Int.toNat (wR (a1 + i10))) (gD aA (wR (b2 + i10)))) (Int.toNat (wR (b2 + i10))) (gD aA (wR (a1 + i10)))) = N0 := by simpa using hN
    refine vJ (by kernel_rfl) ?_
    refine cG (l := [(0, (.msl 2 lo0p 0 (List.length (List.set (List.set aA (Int.toNat (wR (a1 + i10))) (gD aA (wR (b2 + i10)))) (Int.toNat (wR (b2 + i10))) (gD aA (wR (a1 + i10))))))), (1, (eI a1)), (2, (eI b2)), (3, (eI n3)), (10, (eI i10))]) ⟨[(0, (.msl 2 lo0p 0 (List.length aA))), (1, (eI a1)), (2, (eI b2)), (3, (eI n3)), (10, (eI i10))], by kernel_rfl, rfl, ⟨aR.eq (by simp []), aR.refl _, aR.refl _, aR.refl _, aR.refl _, trivial⟩⟩ ?_
    refine aI (aT (aH (?_)))
    refine aV aG 3 ?_
    refine bC ?_
    exact aI (aH (⟨rfl, _, (oI h1).symm, .eq (by kernel_rfl), hO, hN⟩))
  refine eP 0 ?_
  obtain rfl := oI h1
  obtain rfl : _ = rr0 := ho0
  replace h0 : some aA = some r := h0
  obtain rfl := oI h0
  exact aI (aU (aU (bL (oD (x := (.tup [])) (by kernel_rfl) (aR.refl _) ⟨rfl, hO.ext, hO.at 0 (by kernel_rfl), by simp only [List.length_map]; exact hN.trans hN0⟩))))

theorem sS (lo0p : Nat) (aA : (List aB)) (a1 : Int) (m2 : Int) (b3 : Int) (cmp4_f : Nat) (cmp4_a cmp4_c : List V) (cmp4 : aB → aB → Option Int) (cmp4_h : ∀ a0 a1 r, cmp4 a0 a1 = some r → bV Try.prog cmp4_f (cmp4_a ++ [(aE a0), (aE a1)] ++ cmp4_c) (eI r)) (r : List aB) (h0 : kE aA a1 m2 b3 cmp4 = some r) : jL Try.prog 125 lo0p 2 (List.map aE aA) (List.map aE r) [(.msl 2 lo0p 0 (List.length aA)), (eI a1), (eI m2), (eI b3), (.fn (.func cmp4_f) cmp4_a cmp4_c)] (.tup []) := by
  intro H0 hl0
  refine cE Try.func125 ?_
  have hO := aN.nF hl0
  clear hl0
  obtain ⟨N0, hN0⟩ : ∃ n, n = List.length aA := ⟨_, rfl⟩
  have hN : List.length aA = N0 := hN0.symm
  unfold kE at h0
  refine aS aG 4 [1] [(10, (eI (wR (m2 - a1))))] ?_
  refine aS aG 4 [3] [(11, (eI (wR (b3 - m2))))] ?_
  refine cY (fun T H => ∃ aA : List aB, ∃ i10 : Int, Has T [(0, (.msl 2 lo0p 0 (List.length aA))), (2, (eI m2)), (4, (.fn (.func cmp4_f) cmp4_a cmp4_c)), (10, (eI i10))] ∧ aN ⟨H0, [lo0p], []⟩ H [(lo0p, 2, List.map aE aA)] ∧ List.length aA = N0 ∧ fW cmp4 aA m2 i10 = some r) ?_ ?_
  · clear hO hN h0
    rintro T H ⟨aA, i10, hT, hO, hN, h0⟩
    refine aY hT ?_
    clear hT
    unfold fW at h0
    refine aV aG 8 ?_
    refine bN 7 ?_
    obtain ⟨x1, hx2, h0⟩ := aW h0
    refine mE [(lo0p, 2, List.map aE x1)] 0 (jD lo0p aA (wR (m2 - i10)) m2 i10 cmp4_f cmp4_a cmp4_c cmp4 cmp4_h _ hx2) hO ?_
    intro H hO hl3
    simp only [List.length_map] at hl3
    replace hN := hl3.trans hN
    refine cP ?_
    refine cG (l := [(0, (.msl 2 lo0p 0 (List.length x1)))]) ⟨[(0, (.msl 2 lo0p 0 (List.length aA)))], by kernel_rfl, rfl, ⟨aR.eq (by simp [hl3]), trivial⟩⟩ ?_
    obtain rfl := oI h0
    exact aI (oD (x := (.tup [])) (by kernel_rfl) (aR.refl _) ⟨rfl, hO.ext, hO.at 0 (by kernel_rfl), by simp only [List.length_map]; exact hN.trans hN0⟩)
  refine bO 0 ?_
  refine dL [(0, (.msl 2 lo0p 0 (List.length aA))), (2, (eI m2)), (4, (.fn (.func cmp4_f) cmp4_a cmp4_c)), (10, (eI (wR (m2 - a1)))), (11, (eI (wR (b3 - m2))))] ?_
  refine cR (fun T H => ∃ aA : List aB, ∃ i10 : Int, ∃ j11 : Int, Has T [(0, (.msl 2 lo0p 0 (List.length aA))), (2, (eI m2)), (4, (.fn (.func cmp4_f) cmp4_a cmp4_c)), (10, (eI i10)), (11, (eI j11))] ∧ aN ⟨H0, [lo0p], []⟩ H [(lo0p, 2, List.map aE aA)] ∧ List.length aA = N0 ∧ jU cmp4 aA m2 i10 j11 = some r) ?_ ⟨aA, wR (m2 - a1), wR (b3 - m2), .eq (by kernel_rfl), hO, hN, h0⟩
  clear hO hN h0
  rintro T H ⟨aA, i10, j11, hT, hO, hN, h0⟩
  refine aY hT ?_
  clear hT
  unfold jU at h0
  obtain ⟨rr0, hl0, h0⟩ := aW h0
  refine bZ (by kernel_rfl) (fun (s : List aB × Int × Int) T H => Has T [(0, (.msl 2 lo0p 0 (List.length s.1))), (2, (eI m2)), (4, (.fn (.func cmp4_f) cmp4_a cmp4_c)), (10, (eI s.2.1)), (11, (eI s.2.2))] ∧ aN ⟨H0, [lo0p], []⟩ H [(lo0p, 2, List.map aE s.1)] ∧ List.length s.1 = N0) hl0 ⟨.eq (by kernel_rfl), hO, hN⟩ ?_
  clear hO hN
  rintro k0 s out1 T H ⟨hT, hO, hN⟩ h1 ho0
  obtain ⟨aA, i10, j11⟩ := s
  replace h1 : jY cmp4 m2 aA i10 j11 = some out1 := h1
  dsimp only at hT
  refine aY hT ?_
  clear hT
  unfold jY at h1
  refine aP ?_
  refine aS aG 3 [] [(20, (aM (!decide (i10 = j11))))] ?_
  refine bH h1 (fun h1 => ?_) (fun h1 => ?_)
  · refine bJ ?_
    refine bF [(0, (.msl 2 lo0p 0 (List.length aA))), (2, (eI m2)), (4, (.fn (.func cmp4_f) cmp4_a cmp4_c)), (10, (eI i10)), (11, (eI j11))] ?_
    refine bO 1 ?_
    refine aS aG 3 [] [(23, (aM (decide (j11 < i10))))] ?_
    refine bH h1 (fun h1 => ?_) (fun h1 => ?_)
    · refine aP ?_
      refine aV aG 8 ?_
      refine bN 7 ?_
      obtain ⟨x6, hx7, h1⟩ := aW h1
      refine mE [(lo0p, 2, List.map aE x6)] 0 (jD lo0p aA (wR (m2 - i10)) m2 j11 cmp4_f cmp4_a cmp4_c cmp4 cmp4_h _ hx7) hO ?_
      intro H hO hl8
      simp only [List.length_map] at hl8
      replace hN := hl8.trans hN
      refine cP ?_
      refine cG (l := [(0, (.msl 2 lo0p 0 (List.length x6))), (2, (eI m2)), (4, (.fn (.func cmp4_f) cmp4_a cmp4_c)), (10, (eI i10)), (11, (eI j11))]) ⟨[(0, (.msl 2 lo0p 0 (List.length aA))), (2, (eI m2)), (4, (.fn (.func cmp4_f) cmp4_a cmp4_c)), (10, (eI i10)), (11, (eI j11))], by kernel_rfl, rfl, ⟨aR.eq (by simp [hl8]), aR.refl _, aR.refl _, aR.refl _, aR.refl _, trivial⟩⟩ ?_
      refine aI (aH (?_))
      refine aV aG 4 ?_
      refine bC ?_
      exact aI (aT (aH (⟨rfl, _, (oI h1).symm, .eq (by kernel_rfl), hO, hN⟩)))
    refine aP ?_
    refine aV aG 12 ?_
    refine bN 11 ?_
    obtain ⟨x9, hx10, h1⟩ := aW h1
    refine mE [(lo0p, 2, List.map aE x9)] 0 (jD lo0p aA (wR (m2 - i10)) (wR ((wR (m2 + j11)) - i10)) i10 cmp4_f cmp4_a cmp4_c cmp4 cmp4_h _ hx10) hO ?_
    intro H hO hl11
    simp only [List.length_map] at hl11
    replace hN := hl11.trans hN
    refine cP ?_
    refine cG (l := [(0, (.msl 2 lo0p 0 (List.length x9))), (2, (eI m2)), (4, (.fn (.func cmp4_f) cmp4_a cmp4_c)), (10, (eI i10)), (11, (eI j11))]) ⟨[(0, (.msl 2 lo0p 0 (List.length aA))), (2, (eI m2)), (4, (.fn (.func cmp4_f) cmp4_a cmp4_c)), (10, (eI i10)), (11, (eI j11))], by kernel_rfl, rfl, ⟨aR.eq (by simp [hl11]), aR.refl _, aR.refl _, aR.refl _, aR.refl _, trivial⟩⟩ ?_
    refine aI (aH (?_))
    refine aV aG 4 ?_
    refine bC ?_
    exact aI (aT (aH (⟨rfl, _, (oI h1).symm, .eq (by kernel_rfl), hO, hN⟩)))
  refine eP 0 ?_
  obtain rfl := oI h1
  obtain rfl : _ = rr0 := ho0
  replace h0 : fW cmp4 aA m2 i10 = some r := h0
  exact aI (aU (aU (bL (aH (⟨rfl, _, _, .eq (by kernel_rfl), hO, hN, h0⟩)))))

end Go.Abs
namespace Go.Abs
open Go Go.RowKit Go.Proofs
theorem pL (cmp4_f : Nat) (cmp4_a cmp4_c : List V) (cmp4 : aB → aB → Option Int) (cmp4_h : ∀ a0 a1 r, cmp4 a0 a1 = some r → bV Try.prog cmp4_f (cmp4_a ++ [(aE a0), (aE a1)] ++ cmp4_c) (eI r)) (rec : (List aB) → Int → Int → Int → Option (List aB)) (ih : ∀ (lo0p : Nat) (aA : (List aB)) (a1 : Int) (m2 : Int) (b3 : Int) (r : List aB), rec aA a1 m2 b3 = some r → jL Try.prog 122 lo0p 2 (List.map aE aA) (List.map aE r) [(.msl 2 lo0p 0 (List.length aA)), (eI a1), (eI m2), (eI b3), (.fn (.func cmp4_f) cmp4_a cmp4_c)] (.tup [])) (lo0p : Nat) (aA : (List aB)) (a1 : Int) (m2 : Int) (b3 : Int) (r : List aB) (h0 : cZ cmp4 rec aA a1 m2 b3 = some r) : jL Try.prog 122 lo0p 2 (List.map aE aA) (List.map aE r) [(.msl 2 lo0p 0 (List.length aA)), (eI a1), (eI m2), (eI b3), (.fn (.func cmp4_f) cmp4_a cmp4_c)] (.tup []) := by
  intro H0 hl0
  refine cE Try.func122 ?_
  have hO := aN.nF hl0
  clear hl0
  obtain ⟨N0, hN0⟩ : ∃ n, n = List.length aA := ⟨_, rfl⟩
  have hN : List.length aA = N0 := hN0.symm
  unfold cZ at h0
  refine cY (fun T H => ∃ aA : List aB, Has T [(0, (.msl 2 lo0p 0 (List.length aA))), (1, (eI a1)), (2, (eI m2)), (3, (eI b3)), (4, (.fn (.func cmp4_f) cmp4_a cmp4_c))] ∧ aN ⟨H0, [lo0p], []⟩ H [(lo0p, 2, List.map aE aA)] ∧ List.length aA = N0 ∧ jG cmp4 rec aA a1 m2 b3 = some r) ?_ ?_
  · clear hO hN h0
    rintro T H ⟨aA, hT, hO, hN, h0⟩
    refine aY hT ?_
    clear hT
    unfold jG at h0
    refine cY (fun T H => ∃ aA : List aB, Has T [(0, (.msl 2 lo0p 0 (List.length aA))), (1, (eI a1)), (2, (eI m2)), (3, (eI b3)), (4, (.fn (.func cmp4_f) cmp4_a cmp4_c))] ∧ aN ⟨H0, [lo0p], []⟩ H [(lo0p, 2, List.map aE aA)] ∧ List.length aA = N0 ∧ jK cmp4 rec aA a1 m2 b3 = some r) ?_ ?_
    · clear hO hN h0
      rintro T H ⟨aA, hT, hO, hN, h0⟩
      refine aY hT ?_
      clear hT
      unfold jK at h0
      refine aP ?_
      refine aV aG 7 ?_
      obtain ⟨c1, h0⟩ := bE h0
      refine pV [0 ≤ (1 : Int)] ⟨c1, trivial⟩ ?_
      refine bR [] [(18, (eI (wR (Int.fdiv (IntKind.u64.wrap (wR (a1 + b3))) (2 ^ (min (Int.toNat (1 : Int)) 64))))))] ?_
      refine aS aG 4 [] [(19, (eI (wR ((wR (Int.fdiv (IntKind.u64.wrap (wR (a1 + b3))) (2 ^ (min (Int.toNat (1 : Int)) 64)))) + m2))))] ?_
      refine aS aG 2 [] [] ?_
      refine cY (fun T H => ∃ aA : List aB, ∃ bG : Int, ∃ n19 : Int, ∃ aO : Int, ∃ r21 : Int, Has T [(0, (.msl 2 lo0p 0 (List.length aA))), (1, (eI a1)), (2, (eI m2)), (3, (eI b3)), (4, (.fn (.func cmp4_f) cmp4_a cmp4_c)), (18, (eI bG)), (19, (eI n19)), (20, (eI aO)), (21, (eI r21))] ∧ aN ⟨H0, [lo0p], []⟩ H [(lo0p, 2, List.map aE aA)] ∧ List.length aA = N0 ∧ fI cmp4 rec aA a1 m2 b3 bG n19 aO r21 = some r) ?_ ?_
      · clear hO hN h0
        rintro T H ⟨aA, bG, n19, aO, r21, hT, hO, hN, h0⟩
        refine aY hT ?_
        clear hT
        unfold fI at h0
        refine aS aG 3 [] [(22, (eI (wR (n19 - (1 : Int)))))] ?_
        refine cY (fun T H => ∃ aA : List aB, ∃ aO : Int, Has T [(0, (.msl 2 lo0p 0 (List.length aA))), (1, (eI a1)), (2, (eI m2)), (3, (eI b3)), (4, (.fn (.func cmp4_f) cmp4_a cmp4_c)), (18, (eI bG)), (19, (eI n19)), (20, (eI aO))] ∧ aN ⟨H0, [lo0p], []⟩ H [(lo0p, 2, List.map aE aA)] ∧ List.length aA = N0 ∧ fL cmp4 rec aA a1 m2 b3 bG n19 aO = some r) ?_ ?_
        · clear hO hN h0
          rintro T H ⟨aA, aO, hT, hO, hN, h0⟩
          refine aY hT ?_
          clear hT
          unfold fL at h0
          refine aS aG 4 [19] [(24, (eI (wR (n19 - aO))))] ?_
          refine cY (fun T H => ∃ aA : List aB, ∃ dD : Int, Has T [(0, (.msl 2 lo0p 0 (List.length aA))), (1, (eI a1)), (3, (eI b3)), (4, (.fn (.func cmp4_f) cmp4_a cmp4_c)), (18, (eI bG)), (20, (eI aO)), (24, (eI dD))] ∧ aN ⟨H0, [lo0p], []⟩ H [(lo0p, 2, List.map aE aA)] ∧ List.length aA = N0 ∧ fF cmp4 rec aA a1 b3 bG aO dD = some r) ?_ ?_
          · clear hO hN h0
            rintro T H ⟨aA, dD, hT, hO, hN, h0⟩
            refine aY hT ?_
            clear hT
            unfold fF at h0
            refine cY (fun T H => ∃ aA : List aB, Has T [(0, (.msl 2 lo0p 0 (List.length aA))), (3, (eI b3)), (4, (.fn (.func cmp4_f) cmp4_a cmp4_c)), (18, (eI bG)), (24, (eI dD))] ∧ aN ⟨H0, [lo0p], []⟩ H [(lo0p, 2, List.map aE aA)] ∧ List.length aA = N0 ∧ fE cmp4 rec aA b3 bG dD = some r) ?_ ?_
            · clear hO hN h0
              rintro T H ⟨aA, hT, hO, hN, h0⟩
              refine aY hT ?_
              clear hT
              unfold fE at h0
              refine aS aG 8 [] [(213, (aM ((decide (bG < dD)) && (decide (dD < b3)))))] ?_
              refine bH h0 (fun h0 => ?_) (fun h0 => ?_)
              · refine aV aG 6 ?_
                refine bN 5 ?_
                obtain ⟨x3, hx4, h0⟩ := aW h0
                refine mE [(lo0p, 2, List.map aE x3)] 0 (ih lo0p aA bG dD b3 _ hx4) hO ?_
                intro H hO hl5
                simp only [List.length_map] at hl5
                replace hN := hl5.trans hN
                refine cP ?_
                refine cG (l := [(0, (.msl 2 lo0p 0 (List.length x3)))]) ⟨[(0, (.msl 2 lo0p 0 (List.length aA)))], by kernel_rfl, rfl, ⟨aR.eq (by simp [hl5]), trivial⟩⟩ ?_
                obtain rfl := oI h0
                exact aI (oD (x := (.tup [])) (by kernel_rfl) (aR.refl _) ⟨rfl, hO.ext, hO.at 0 (by kernel_rfl), by simp only [List.length_map]; exact hN.trans hN0⟩)
              refine bJ ?_
              obtain rfl := oI h0
              exact aI (oD (x := (.tup [])) (by kernel_rfl) (aR.refl _) ⟨rfl, hO.ext, hO.at 0 (by kernel_rfl), by simp only [List.length_map]; exact hN.trans hN0⟩)
            refine aS aG 8 [] [(199, (aM ((decide (a1 < aO)) && (decide (aO < bG)))))] ?_
            refine bH h0 (fun h0 => ?_) (fun h0 => ?_)
            · refine aV aG 6 ?_
              refine bN 5 ?_
              obtain ⟨x7, hx8, h0⟩ := aW h0
              refine mE [(lo0p, 2, List.map aE x7)] 0 (ih lo0p aA a1 aO bG _ hx8) hO ?_
              intro H hO hl9
              simp only [List.length_map] at hl9
              replace hN := hl9.trans hN
              refine cP ?_
              refine cG (l := [(0, (.msl 2 lo0p 0 (List.length x7))), (3, (eI b3)), (4, (.fn (.func cmp4_f) cmp4_a cmp4_c)), (18, (eI bG)), (24, (eI dD))]) ⟨[(0, (.msl 2 lo0p 0 (List.length aA))), (3, (eI b3)), (4, (.fn (.func cmp4_f) cmp4_a cmp4_c)), (18, (eI bG)), (24, (eI dD))], by kernel_rfl, rfl, ⟨aR.eq (by simp [hl9]), aR.refl _, aR.refl _, aR.refl _, aR.refl _, trivial⟩⟩ ?_
              exact aI (aH (⟨rfl, _, .eq (by kernel_rfl), hO, hN, h0⟩))
            refine bJ ?_
            exact aI (aH (⟨rfl, _, .eq (by kernel_rfl), hO, hN, h0⟩))
          refine aS aG 8 [] [(185, (aM ((decide (aO < m2)) && (decide (m2 < (wR (n19 - aO)))))))] ?_
          refine bH h0 (fun h0 => ?_) (fun h0 => ?_)
          · refine aV aG 6 ?_
            refine bN 5 ?_
            obtain ⟨x11, hx12, h0⟩ := aW h0
            refine mE [(lo0p, 2, List.map aE x11)] 0 (sS lo0p aA aO m2 (wR (n19 - aO)) cmp4_f cmp4_a cmp4_c cmp4 cmp4_h _ hx12) hO ?_
            intro H hO hl13
            simp only [List.length_map] at hl13
            replace hN := hl13.trans hN
            refine cP ?_
            refine cG (l := [(0, (.msl 2 lo0p 0 (List.length x11))), (1, (eI a1)), (3, (eI b3)), (4, (.fn (.func cmp4_f) cmp4_a cmp4_c)), (18, (eI bG)), (20, (eI aO)), (24, (eI (wR (n19 - aO))))]) ⟨[(0, (.msl 2 lo0p 0 (List.length aA))), (1, (eI a1)), (3, (eI b3)), (4, (.fn (.func cmp4_f) cmp4_a cmp4_c)), (18, (eI bG)), (20, (eI aO)), (24, (eI (wR (n19 - aO))))], by kernel_rfl, rfl, ⟨aR.eq (by simp [hl13]), aR.refl _, aR.refl _, aR.refl _, aR.refl _, aR.refl _, aR.refl _, trivial⟩⟩ ?_
            exact aI (aH (⟨rfl, _, _, .eq (by kernel_rfl), hO, hN, h0⟩))
          refine bJ ?_
          exact aI (aH (⟨rfl, _, _, .eq (by kernel_rfl), hO, hN, h0⟩))
        refine bO 8 ?_
        refine dL [(0, (.msl 2 lo0p 0 (List.length aA))), (1, (eI a1)), (2, (eI m2)), (3, (eI b3)), (4, (.fn (.func cmp4_f) cmp4_a cmp4_c)), (18, (eI bG)), (19, (eI n19)), (20, (eI aO)), (21, (eI r21)), (22, (eI (wR (n19 - (1 : Int)))))] ?_
        refine cR (fun T H => ∃ aA : List aB, ∃ aO : Int, ∃ r21 : Int, ∃ p22 : Int, Has T [(0, (.msl 2 lo0p 0 (List.length aA))), (1, (eI a1)), (2, (eI m2)), (3, (eI b3)), (4, (.fn (.func cmp4_f) cmp4_a cmp4_c)), (18, (eI bG)), (19, (eI n19)), (20, (eI aO)), (21, (eI r21)), (22, (eI p22))] ∧ aN ⟨H0, [lo0p], []⟩ H [(lo0p, 2, List.map aE aA)] ∧ List.length aA = N0 ∧ jJ cmp4 rec aA a1 m2 b3 bG n19 aO r21 p22 = some r) ?_ ⟨aA, aO, r21, wR (n19 - (1 : Int)), .eq (by kernel_rfl), hO, hN, h0⟩
        clear hO hN h0
        rintro T H ⟨aA, aO, r21, p22, hT, hO, hN, h0⟩
        refine aY hT ?_
        clear hT
        unfold jJ at h0
        obtain ⟨rr0, hl0, h0⟩ := aW h0
        refine bZ (by kernel_rfl) (fun (s : List aB × Int × Int) T H => Has T [(0, (.msl 2 lo0p 0 (List.length s.1))), (1, (eI a1)), (2, (eI m2)), (3, (eI b3)), (4, (.fn (.func cmp4_f) cmp4_a cmp4_c)), (18, (eI bG)), (19, (eI n19)), (20, (eI s.2.1)), (21, (eI s.2.2)), (22, (eI p22))] ∧ aN ⟨H0, [lo0p], []⟩ H [(lo0p, 2, List.map aE s.1)] ∧ List.length s.1 = N0) hl0 ⟨.eq (by kernel_rfl), hO, hN⟩ ?_
        clear hO hN
        rintro k0 s out1 T H ⟨hT, hO, hN⟩ h1 ho0
        obtain ⟨aA, aO, r21⟩ := s
        replace h1 : jA cmp4 rec a1 m2 b3 bG n19 p22 aA aO r21 = some out1 := h1
        dsimp only at hT
        refine aY hT ?_
        clear hT
        unfold jA at h1
        refine aP ?_
        refine aS aG 3 [] [(151, (aM (decide (aO < r21))))] ?_
        refine bH h1 (fun h1 => ?_) (fun h1 => ?_)
        · refine bJ ?_
          refine bF [(0, (.msl 2 lo0p 0 (List.length aA))), (1, (eI a1)), (2, (eI m2)), (3, (eI b3)), (4, (.fn (.func cmp4_f) cmp4_a cmp4_c)), (18, (eI bG)), (19, (eI n19)), (20, (eI aO)), (21, (eI r21)), (22, (eI p22))] ?_
          refine bO 9 ?_
          refine aP ?_
          refine aV aG 7 ?_
          obtain ⟨c15, h1⟩ := bE h1
          refine pV [0 ≤ (1 : Int)] ⟨c15, trivial⟩ ?_
          refine bR [] [(23, (eI (wR (Int.fdiv (IntKind.u64.wrap (wR (aO + r21))) (2 ^ (min (Int.toNat (1 : Int)) 64))))))] ?_
          refine aP ?_
          refine jP (jQ []) aG 14 ?_
          obtain ⟨c16, h1⟩ := bE h1
          refine cX 6 [0 ≤ (wR (p22 - (wR (Int.fdiv (IntKind.u64.wrap (wR (aO + r21))) (2 ^ (min (Int.toNat (1 : Int)) 64)))))) ∧ (wR (p22 - (wR (Int.fdiv (IntKind.u64.wrap (wR (aO + r21))) (2 ^ (min (Int.toNat (1 : Int)) 64)))))) < (lN aA)] ⟨c16, trivial⟩ ?_
          refine jW 0 lo0p 2 (0 + Int.toNat (wR (p22 - (wR (Int.fdiv (IntKind.u64.wrap (wR (aO + r21))) (2 ^ (min (Int.toNat (1 : Int)) 64))))))) (aE (gD aA (wR (p22 - (wR (Int.fdiv (IntKind.u64.wrap (wR (aO + r21))) (2 ^ (min (Int.toNat (1 : Int)) 64)))))))) (aE (gD aA (wR (p22 - (wR (Int.fdiv (IntKind.u64.wrap (wR (aO + r21))) (2 ^ (min (Int.toNat (1 : Int)) 64)))))))) (List.map aE aA) hO (cD c16) ?_
          obtain ⟨c17, h1⟩ := bE h1
          refine cX 10 [0 ≤ (wR (Int.fdiv (IntKind.u64.wrap (wR (aO + r21))) (2 ^ (min (Int.toNat (1 : Int)) 64)))) ∧ (wR (Int.fdiv (IntKind.u64.wrap (wR (aO + r21))) (2 ^ (min (Int.toNat (1 : Int)) 64)))) < (lN aA)] ⟨c17, trivial⟩ ?_
          refine jW 0 lo0p 2 (0 + Int.toNat (wR (Int.fdiv (IntKind.u64.wrap (wR (aO + r21))) (2 ^ (min (Int.toNat (1 : Int)) 64))))) (aE (gD aA (wR (Int.fdiv (IntKind.u64.wrap (wR (aO + r21))) (2 ^ (min (Int.toNat (1 : Int)) 64)))))) (aE (gD aA (wR (Int.fdiv (IntKind.u64.wrap (wR (aO + r21))) (2 ^ (min (Int.toNat (1 : Int)) 64)))))) (List.map aE aA) hO (cD c17) ?_
          obtain ⟨x18, hx19, h1⟩ := aW h1
          refine vD (cmp4_h (gD aA (wR (p22 - (wR (Int.fdiv (IntKind.u64.wrap (wR (aO + r21))) (2 ^ (min (Int.toNat (1 : Int)) 64))))))) (gD aA (wR (Int.fdiv (IntKind.u64.wrap (wR (aO + r21))) (2 ^ (min (Int.toNat (1 : Int)) 64))))) _ hx19) hO ?_
          intro H hO
          refine nS ?_
          refine bR [] [(171, (aM (!(decide (x18 < (0 : Int))))))] ?_
          refine bH h1 (fun h1 => ?_) (fun h1 => ?_)
          · refine aV aG 3 ?_
            refine bC ?_
            exact aI (aT (aH (⟨rfl, _, (oI h1).symm, .eq (by kernel_rfl), hO, hN⟩)))
          refine aV aG 2 ?_
          refine bC ?_
          exact aI (aT (aH (⟨rfl, _, (oI h1).symm, .eq (by kernel_rfl), hO, hN⟩)))
        refine eP 8 ?_
        obtain rfl := oI h1
        obtain rfl : _ = rr0 := ho0
        replace h0 : fL cmp4 rec aA a1 m2 b3 bG n19 aO = some r := h0
        exact aI (aU (aU (bL (aH (⟨rfl, _, _, .eq (by kernel_rfl), hO, hN, h0⟩)))))
      refine aS aG 3 [] [(140, (aM (decide ((wR (Int.fdiv (IntKind.u64.wrap (wR (a1 + b3))) (2 ^ (min (Int.toNat (1 : Int)) 64)))) < m2))))] ?_
      refine bH h0 (fun h0 => ?_) (fun h0 => ?_)
      · refine bQ aG 4 [(0, (.msl 2 lo0p 0 (List.length aA))), (1, (eI a1)), (2, (eI m2)), (3, (eI b3)), (4, (.fn (.func cmp4_f) cmp4_a cmp4_c)), (18, (eI (wR (Int.fdiv (IntKind.u64.wrap (wR (a1 + b3))) (2 ^ (min (Int.toNat (1 : Int)) 64)))))), (19, (eI (wR ((wR (Int.fdiv (IntKind.u64.wrap (wR (a1 + b3))) (2 ^ (min (Int.toNat (1 : Int)) 64)))) + m2)))), (20, (eI (wR ((wR ((wR (Int.fdiv (IntKind.u64.wrap (wR (a1 + b3))) (2 ^ (min (Int.toNat (1 : Int)) 64)))) + m2)) - b3))))] ?_
        refine aV aG 2 ?_
        refine bC ?_
        exact aI (aH (⟨rfl, _, _, _, _, _, .eq (by kernel_rfl), hO, hN, h0⟩))
      refine bQ aG 2 [(0, (.msl 2 lo0p 0 (List.length aA))), (1, (eI a1)), (2, (eI m2)), (3, (eI b3)), (4, (.fn (.func cmp4_f) cmp4_a cmp4_c)), (18, (eI (wR (Int.fdiv (IntKind.u64.wrap (wR (a1 + b3))) (2 ^ (min (Int.toNat (1 : Int)) 64)))))), (19, (eI (wR ((wR (Int.fdiv (IntKind.u64.wrap (wR (a1 + b3))) (2 ^ (min (Int.toNat (1 : Int)) 64)))) + m2)))), (20, (eI a1))] ?_
      refine aV aG 2 ?_
      refine bC ?_
      exact aI (aH (⟨rfl, _, _, _, _, _, .eq (by kernel_rfl), hO, hN, h0⟩))
    refine aS aG 4 [] [(80, (aM (decide ((wR (b3 - m2)) = (1 : Int)))))] ?_
    refine bH h0 (fun h0 => ?_) (fun h0 => ?_)
    · refine aS aG 2 [1, 3, 80] [(14, (eI a1))] ?_
      refine aS aG 2 [] [(15, (eI m2))] ?_
      refine cY (fun T H => ∃ aA : List aB, ∃ i14 : Int, Has T [(0, (.msl 2 lo0p 0 (List.length aA))), (2, (eI m2)), (14, (eI i14))] ∧ aN ⟨H0, [lo0p], []⟩ H [(lo0p, 2, List.map aE aA)] ∧ List.length aA = N0 ∧ fH cmp4 rec aA m2 i14 = some r) ?_ ?_
      · clear hO hN h0
        rintro T H ⟨aA, i14, hT, hO, hN, h0⟩
        refine aY hT ?_
        clear hT
        unfold fH at h0
        refine cY (fun T H => ∃ aA : List aB, Has T [(0, (.msl 2 lo0p 0 (List.length aA)))] ∧ aN ⟨H0, [lo0p], []⟩ H [(lo0p, 2, List.map aE aA)] ∧ List.length aA = N0 ∧ eZ cmp4 rec aA = some r) ?_ ?_
        · clear hO hN h0
          rintro T H ⟨aA, hT, hO, hN, h0⟩
          refine aY hT ?_
          clear hT
          unfold eZ at h0
          refine bI ?_
          obtain rfl := oI h0
          exact aI (aX (nP (x := (.tup [])) (by kernel_rfl) (aR.refl _) ⟨rfl, hO.ext, hO.at 0 (by kernel_rfl), by simp only [List.length_map]; exact hN.trans hN0⟩))
        refine aS aG 2 [2] [(17, (eI m2))] ?_
        refine bO 6 ?_
        refine dL [(0, (.msl 2 lo0p 0 (List.length aA))), (14, (eI i14)), (17, (eI m2))] ?_
        refine cR (fun T H => ∃ aA : List aB, ∃ k17 : Int, Has T [(0, (.msl 2 lo0p 0 (List.length aA))), (14, (eI i14)), (17, (eI k17))] ∧ aN ⟨H0, [lo0p], []⟩ H [(lo0p, 2, List.map aE aA)] ∧ List.length aA = N0 ∧ iR cmp4 rec aA i14 k17 = some r) ?_ ⟨aA, m2, .eq (by kernel_rfl), hO, hN, h0⟩
        clear hO hN h0
        rintro T H ⟨aA, k17, hT, hO, hN, h0⟩
        refine aY hT ?_
        clear hT
        unfold iR at h0
        obtain ⟨rr0, hl0, h0⟩ := aW h0
        refine bZ (by kernel_rfl) (fun (s : List aB × Int) T H => Has T [(0, (.msl 2 lo0p 0 (List.length s.1))), (14, (eI i14)), (17, (eI s.2))] ∧ aN ⟨H0, [lo0p], []⟩ H [(lo0p, 2, List.map aE s.1)] ∧ List.length s.1 = N0) hl0 ⟨.eq (by kernel_rfl), hO, hN⟩ ?_
        clear hO hN
        rintro k0 s out1 T H ⟨hT, hO, hN⟩ h1 ho0
        obtain ⟨aA, k17⟩ := s
        replace h1 : iO cmp4 rec i14 aA k17 = some out1 := h1
        dsimp only at hT
        refine aY hT ?_
        clear hT
        unfold iO at h1
        refine aP ?_
        refine aS aG 3 [] [(110, (aM (decide (i14 < k17))))] ?_
        refine bH h1 (fun h1 => ?_) (fun h1 => ?_)
        · refine bJ ?_
          refine bF [(0, (.msl 2 lo0p 0 (List.length aA))), (14, (eI i14)), (17, (eI k17))] ?_
          refine aP ?_
          refine bO 7 ?_
          refine jP (jQ []) aG 18 ?_
          obtain ⟨c25, h1⟩ := bE h1
          refine cX 9 [0 ≤ (wR (k17 - (1 : Int))) ∧ (wR (k17 - (1 : Int))) < (lN aA)] ⟨c25, trivial⟩ ?_
          refine jW 0 lo0p 2 (0 + Int.toNat (wR (k17 - (1 : Int)))) (aE (gD aA (wR (k17 - (1 : Int))))) (aE (gD aA (wR (k17 - (1 : Int))))) (List.map aE aA) hO (cD c25) ?_
          obtain ⟨c26, h1⟩ := bE h1
          refine cX 13 [0 ≤ k17 ∧ k17 < (lN aA)] ⟨c26, trivial⟩ ?_
          refine jW 0 lo0p 2 (0 + Int.toNat k17) (aE (gD aA k17)) (aE (gD aA k17)) (List.map aE aA) hO (cD c26) ?_
          obtain ⟨c27, h1⟩ := bE h1
          refine cX 15 [0 ≤ k17 ∧ k17 < (lN aA)] ⟨c27, trivial⟩ ?_
          refine pW 0 lo0p 2 (0 + Int.toNat k17) (aE (gD aA k17)) (aE (gD aA (wR (k17 - (1 : Int))))) (List.map aE aA) [(lo0p, 2, List.map aE (List.set aA (Int.toNat k17) (gD aA (wR (k17 - (1 : Int))))))] hO (cD c27) (by simp only [List.set, mC]) ?_
          intro H hO
          replace hN : List.length (List.set aA (Int.toNat k17) (gD aA (wR (k17 - (1 : Int))))) = N0 := by simpa using hN
          obtain ⟨c28, h1⟩ := bE h1
          refine cX 17 [0 ≤ (wR (k17 - (1 : Int))) ∧ (wR (k17 - (1 : Int))) < (lN aA)] ⟨c28, trivial⟩ ?_
          refine pW 0 lo0p 2 (0 + Int.toNat (wR (k17 - (1 : Int)))) (aE (gD (List.set aA (Int.toNat k17) (gD aA (wR (k17 - (1 : Int))))) (wR (k17 - (1 : Int))))) (aE (gD aA k17)) (List.map aE (List.set aA (Int.toNat k17) (gD aA (wR (k17 - (1 : Int)))))) [(lo0p, 2, List.map aE (List.set (List.set aA (Int.toNat k17) (gD aA (wR (k17 - (1 : Int))))) (Int.toNat (wR (k17 - (1 : Int)))) (gD aA k17)))] hO (sJ c28 (by simp [])) (by simp only [List.set, mC]) ?_
          intro H hO
          replace hN : List.length (List.set (List.set aA (Int.toNat k17) (gD aA (wR (k17 - (1 : Int))))) (Int.toNat (wR (k17 - (1 : Int)))) (gD aA k17)) = N0 := by simpa using hN
          refine vJ (by kernel_rfl) ?_
          refine cG (l := [(0, (.msl 2 lo0p 0 (List.length (List.set (List.set aA (Int.toNat k17) (gD aA (wR (k17 - (1 : Int))))) (Int.toNat (wR (k17 - (1 : Int)))) (gD aA k17))))), (14, (eI i14)), (17, (eI k17))]) ⟨[(0, (.msl 2 lo0p 0 (List.length aA))), (14, (eI i14)), (17, (eI k17))], by kernel_rfl, rfl, ⟨aR.eq (by simp []), aR.refl _, aR.refl _, trivial⟩⟩ ?_
          refine aI (aT (aH (?_)))
          refine aV aG 3 ?_
          refine bC ?_
          exact aI (aH (⟨rfl, _, (oI h1).symm, .eq (by kernel_rfl), hO, hN⟩))
        refine eP 6 ?_
        obtain rfl := oI h1
        obtain rfl : _ = rr0 := ho0
        replace h0 : eZ cmp4 rec aA = some r := h0
        exact aI (aU (aU (bL (aH (⟨rfl, _, .eq (by kernel_rfl), hO, hN, h0⟩)))))
      refine bO 4 ?_
      refine dL [(0, (.msl 2 lo0p 0 (List.length aA))), (2, (eI m2)), (4, (.fn (.func cmp4_f) cmp4_a cmp4_c)), (14, (eI a1)), (15, (eI m2))] ?_
      refine cR (fun T H => ∃ aA : List aB, ∃ i14 : Int, ∃ j15 : Int, Has T [(0, (.msl 2 lo0p 0 (List.length aA))), (2, (eI m2)), (4, (.fn (.func cmp4_f) cmp4_a cmp4_c)), (14, (eI i14)), (15, (eI j15))] ∧ aN ⟨H0, [lo0p], []⟩ H [(lo0p, 2, List.map aE aA)] ∧ List.length aA = N0 ∧ iI cmp4 rec aA m2 i14 j15 = some r) ?_ ⟨aA, a1, m2, .eq (by kernel_rfl), hO, hN, h0⟩
      clear hO hN h0
      rintro T H ⟨aA, i14, j15, hT, hO, hN, h0⟩
      refine aY hT ?_
      clear hT
      unfold iI at h0
      obtain ⟨rr0, hl0, h0⟩ := aW h0
      refine bZ (by kernel_rfl) (fun (s : List aB × Int × Int) T H => Has T [(0, (.msl 2 lo0p 0 (List.length s.1))), (2, (eI m2)), (4, (.fn (.func cmp4_f) cmp4_a cmp4_c)), (14, (eI s.2.1)), (15, (eI s.2.2))] ∧ aN ⟨H0, [lo0p], []⟩ H [(lo0p, 2, List.map aE s.1)] ∧ List.length s.1 = N0) hl0 ⟨.eq (by kernel_rfl), hO, hN⟩ ?_
      clear hO hN
      rintro k0 s out1 T H ⟨hT, hO, hN⟩ h1 ho0
      obtain ⟨aA, i14, j15⟩ := s
      replace h1 : iH cmp4 rec m2 aA i14 j15 = some out1 := h1
      dsimp only at hT
      refine aY hT ?_
      clear hT
      unfold iH at h1
      refine aP ?_
      refine aS aG 3 [] [(85, (aM (decide (i14 < j15))))] ?_
      refine bH h1 (fun h1 => ?_) (fun h1 => ?_)
      · refine bJ ?_
        refine bF [(0, (.msl 2 lo0p 0 (List.length aA))), (2, (eI m2)), (4, (.fn (.func cmp4_f) cmp4_a cmp4_c)), (14, (eI i14)), (15, (eI j15))] ?_
        refine bO 5 ?_
        refine aP ?_
        refine aV aG 7 ?_
        obtain ⟨c30, h1⟩ := bE h1
        refine pV [0 ≤ (1 : Int)] ⟨c30, trivial⟩ ?_
        refine bR [] [(16, (eI (wR (Int.fdiv (IntKind.u64.wrap (wR (i14 + j15))) (2 ^ (min (Int.toNat (1 : Int)) 64))))))] ?_
        refine aP ?_
        refine jP (jQ []) aG 12 ?_
        obtain ⟨c31, h1⟩ := bE h1
        refine cX 4 [0 ≤ m2 ∧ m2 < (lN aA)] ⟨c31, trivial⟩ ?_
        refine jW 0 lo0p 2 (0 + Int.toNat m2) (aE (gD aA m2)) (aE (gD aA m2)) (List.map aE aA) hO (cD c31) ?_
        obtain ⟨c32, h1⟩ := bE h1
        refine cX 8 [0 ≤ (wR (Int.fdiv (IntKind.u64.wrap (wR (i14 + j15))) (2 ^ (min (Int.toNat (1 : Int)) 64)))) ∧ (wR (Int.fdiv (IntKind.u64.wrap (wR (i14 + j15))) (2 ^ (min (Int.toNat (1 : Int)) 64)))) < (lN aA)] ⟨c32, trivial⟩ ?_
        refine jW 0 lo0p 2 (0 + Int.toNat (wR (Int.fdiv (IntKind.u64.wrap (wR (i14 + j15))) (2 ^ (min (Int.toNat (1 : Int)) 64))))) (aE (gD aA (wR (Int.fdiv (IntKind.u64.wrap (wR (i14 + j15))) (2 ^ (min (Int.toNat (1 : Int)) 64)))))) (aE (gD aA (wR (Int.fdiv (IntKind.u64.wrap (wR (i14 + j15))) (2 ^ (min (Int.toNat (1 : Int)) 64)))))) (List.map aE aA) hO (cD c32) ?_
        obtain ⟨x33, hx34, h1⟩ := aW h1
        refine vD (cmp4_h (gD aA m2) (gD aA (wR (Int.fdiv (IntKind.u64.wrap (wR (i14 + j15))) (2 ^ (min (Int.toNat (1 : Int)) 64))))) _ hx34) hO ?_
        intro H hO
        refine nS ?_
        refine bR [] [(103, (aM (!(decide (x33 < (0 : Int))))))] ?_
        refine bH h1 (fun h1 => ?_) (fun h1 => ?_)
        · refine aV aG 3 ?_
          refine bC ?_
          exact aI (aT (aH (⟨rfl, _, (oI h1).symm, .eq (by kernel_rfl), hO, hN⟩)))
        refine aV aG 2 ?_
        refine bC ?_
        exact aI (aT (aH (⟨rfl, _, (oI h1).symm, .eq (by kernel_rfl), hO, hN⟩)))
      refine eP 4 ?_
      obtain rfl := oI h1
      obtain rfl : _ = rr0 := ho0
      replace h0 : fH cmp4 rec aA m2 i14 = some r := h0
      exact aI (aU (aU (bL (aH (⟨rfl, _, _, .eq (by kernel_rfl), hO, hN, h0⟩)))))
    refine bJ ?_
    exact aI (aH (⟨rfl, _, .eq (by kernel_rfl), hO, hN, h0⟩))
  refine aS aG 4 [] [(28, (aM (decide ((wR (m2 - a1)) = (1 : Int)))))] ?_
  refine bH h0 (fun h0 => ?_) (fun h0 => ?_)
  · refine aS aG 2 [2, 28] [(10, (eI m2))] ?_
    refine aS aG 2 [3] [(11, (eI b3))] ?_
    refine cY (fun T H => ∃ aA : List aB, ∃ i10 : Int, Has T [(0, (.msl 2 lo0p 0 (List.length aA))), (1, (eI a1)), (10, (eI i10))] ∧ aN ⟨H0, [lo0p], []⟩ H [(lo0p, 2, List.map aE aA)] ∧ List.length aA = N0 ∧ eU cmp4 rec aA a1 i10 = some r) ?_ ?_
    · clear hO hN h0
      rintro T H ⟨aA, i10, hT, hO, hN, h0⟩
      refine aY hT ?_
      clear hT
      unfold eU at h0
      refine cY (fun T H => ∃ aA : List aB, Has T [(0, (.msl 2 lo0p 0 (List.length aA)))] ∧ aN ⟨H0, [lo0p], []⟩ H [(lo0p, 2, List.map aE aA)] ∧ List.length aA = N0 ∧ eV cmp4 rec aA = some r) ?_ ?_
      · clear hO hN h0
        rintro T H ⟨aA, hT, hO, hN, h0⟩
        refine aY hT ?_
        clear hT
        unfold eV at h0
        refine bI ?_
        obtain rfl := oI h0
        exact aI (aX (nP (x := (.tup [])) (by kernel_rfl) (aR.refl _) ⟨rfl, hO.ext, hO.at 0 (by kernel_rfl), by simp only [List.length_map]; exact hN.trans hN0⟩))
      refine aS aG 2 [1] [(13, (eI a1))] ?_
      refine bO 2 ?_
      refine dL [(0, (.msl 2 lo0p 0 (List.length aA))), (10, (eI i10)), (13, (eI a1))] ?_
      refine cR (fun T H => ∃ aA : List aB, ∃ k13 : Int, Has T [(0, (.msl 2 lo0p 0 (List.length aA))), (10, (eI i10)), (13, (eI k13))] ∧ aN ⟨H0, [lo0p], []⟩ H [(lo0p, 2, List.map aE aA)] ∧ List.length aA = N0 ∧ iX cmp4 rec aA i10 k13 = some r) ?_ ⟨aA, a1, .eq (by kernel_rfl), hO, hN, h0⟩
      clear hO hN h0
      rintro T H ⟨aA, k13, hT, hO, hN, h0⟩
      refine aY hT ?_
      clear hT
      unfold iX at h0
      obtain ⟨rr0, hl0, h0⟩ := aW h0
      refine bZ (by kernel_rfl) (fun (s : List aB × Int) T H => Has T [(0, (.msl 2 lo0p 0 (List.length s.1))), (10, (eI i10)), (13, (eI s.2))] ∧ aN ⟨H0, [lo0p], []⟩ H [(lo0p, 2, List.map aE s.1)] ∧ List.length s.1 = N0) hl0 ⟨.eq (by kernel_rfl), hO, hN⟩ ?_
      clear hO hN
      rintro k0 s out1 T H ⟨hT, hO, hN⟩ h1 ho0
      obtain ⟨aA, k13⟩ := s
      replace h1 : iJ cmp4 rec i10 aA k13 = some out1 := h1
      dsimp only at hT
      refine aY hT ?_
      clear hT
      unfold iJ at h1
      refine aP ?_
      refine aS aG 4 [] [(58, (aM (decide (k13 < (wR (i10 - (1 : Int)))))))] ?_
      refine bH h1 (fun h1 => ?_) (fun h1 => ?_)
      · refine bJ ?_
        refine bF [(0, (.msl 2 lo0p 0 (List.length aA))), (10, (eI i10)), (13, (eI k13))] ?_
        refine aP ?_
        refine bO 3 ?_
        refine jP (jQ []) aG 18 ?_
        obtain ⟨c39, h1⟩ := bE h1
        refine cX 9 [0 ≤ (wR (k13 + (1 : Int))) ∧ (wR (k13 + (1 : Int))) < (lN aA)] ⟨c39, trivial⟩ ?_
        refine jW 0 lo0p 2 (0 + Int.toNat (wR (k13 + (1 : Int)))) (aE (gD aA (wR (k13 + (1 : Int))))) (aE (gD aA (wR (k13 + (1 : Int))))) (List.map aE aA) hO (cD c39) ?_
        obtain ⟨c40, h1⟩ := bE h1
        refine cX 13 [0 ≤ k13 ∧ k13 < (lN aA)] ⟨c40, trivial⟩ ?_
        refine jW 0 lo0p 2 (0 + Int.toNat k13) (aE (gD aA k13)) (aE (gD aA k13)) (List.map aE aA) hO (cD c40) ?_
        obtain ⟨c41, h1⟩ := bE h1
        refine cX 15 [0 ≤ k13 ∧ k13 < (lN aA)] ⟨c41, trivial⟩ ?_
        refine pW 0 lo0p 2 (0 + Int.toNat k13) (aE (gD aA k13)) (aE (gD aA (wR (k13 + (1 : Int))))) (List.map aE aA) [(lo0p, 2, List.map aE (List.set aA (Int.toNat k13) (gD aA (wR (k13 + (1 : Int))))))] hO (cD c41) (by simp only [List.set, mC]) ?_
        intro H hO
        replace hN : List.length (List.set aA (Int.toNat k13) (gD aA (wR (k13 + (1 : Int))))) = N0 := by simpa using hN
        obtain ⟨c42, h1⟩ := bE h1
        refine cX 17 [0 ≤ (wR (k13 + (1 : Int))) ∧ (wR (k13 + (1 : Int))) < (lN aA)] ⟨c42, trivial⟩ ?_
        refine pW 0 lo0p 2 (0 + Int.toNat (wR (k13 + (1 : Int)))) (aE (gD (List.set aA (Int.toNat k13) (gD aA (wR (k13 + (1 : Int))))) (wR (k13 + (1 : Int))))) (aE (gD aA k13)) (List.map aE (List.set aA (Int.toNat k13) (gD aA (wR (k13 + (1 : Int)))))) [(lo0p, 2, List.map aE (List.set (List.set aA (Int.toNat k13) (gD aA (wR (k13 + (1 : Int))))) (Int.toNat (wR (k13 + (1 : Int)))) (gD aA k13)))] hO (sJ c42 (by simp [])) (by simp only [List.set, mC]) ?_
        intro H hO
        replace hN : List.length (List.set (List.set aA (Int.toNat k13) (gD aA (wR (k13 + (1 : Int))))) (Int.toNat (wR (k13 + (1 : Int)))) (gD aA k13)) = N0 := by simpa using hN
        refine vJ (by kernel_rfl) ?_
        refine cG (l := [(0, (.msl 2 lo0p 0 (List.length (List.set (List.set aA (Int.toNat k13) (gD aA (wR (k13 + (1 : Int))))) (Int.toNat (wR (k13 + (1 : Int)))) (gD aA k13))))), (10, (eI i10)), (13, (eI k13))]) ⟨[(0, (.msl 2 lo0p 0 (List.length aA))), (10, (eI i10)), (13, (eI k13))], by kernel_rfl, rfl, ⟨aR.eq (by simp []), aR.refl _, aR.refl _, trivial⟩⟩ ?_
        refine aI (aT (aH (?_)))
        refine aV aG 3 ?_
        refine bC ?_
        exact aI (aH (⟨rfl, _, (oI h1).symm, .eq (by kernel_rfl), hO, hN⟩))
      refine eP 2 ?_
      obtain rfl := oI h1
      obtain rfl : _ = rr0 := ho0
      replace h0 : eV cmp4 rec aA = some r := h0
      exact aI (aU (aU (bL (aH (⟨rfl, _, .eq (by kernel_rfl), hO, hN, h0⟩)))))
    refine bO 0 ?_
    refine dL [(0, (.msl 2 lo0p 0 (List.length aA))), (1, (eI a1)), (4, (.fn (.func cmp4_f) cmp4_a cmp4_c)), (10, (eI m2)), (11, (eI b3))] ?_
    refine cR (fun T H => ∃ aA : List aB, ∃ i10 : Int, ∃ j11 : Int, Has T [(0, (.msl 2 lo0p 0 (List.length aA))), (1, (eI a1)), (4, (.fn (.func cmp4_f) cmp4_a cmp4_c)), (10, (eI i10)), (11, (eI j11))] ∧ aN ⟨H0, [lo0p], []⟩ H [(lo0p, 2, List.map aE aA)] ∧ List.length aA = N0 ∧ iN cmp4 rec aA a1 i10 j11 = some r) ?_ ⟨aA, m2, b3, .eq (by kernel_rfl), hO, hN, h0⟩
    clear hO hN h0
    rintro T H ⟨aA, i10, j11, hT, hO, hN, h0⟩
    refine aY hT ?_
    clear hT
    unfold iN at h0
    obtain ⟨rr0, hl0, h0⟩ := aW h0
    refine bZ (by kernel_rfl) (fun (s : List aB × Int × Int) T H => Has T [(0, (.msl 2 lo0p 0 (List.length s.1))), (1, (eI a1)), (4, (.fn (.func cmp4_f) cmp4_a cmp4_c)), (10, (eI s.2.1)), (11, (eI s.2.2))] ∧ aN ⟨H0, [lo0p], []⟩ H [(lo0p, 2, List.map aE s.1)] ∧ List.length s.1 = N0) hl0 ⟨.eq (by kernel_rfl), hO, hN⟩ ?_
    clear hO hN
    rintro k0 s out1 T H ⟨hT, hO, hN⟩ h1 ho0
    obtain ⟨aA, i10, j11⟩ := s
    replace h1 : iD cmp4 rec a1 aA i10 j11 = some out1 := h1
    dsimp only at hT
    refine aY hT ?_
    clear hT
    unfold iD at h1
    refine aP ?_
    refine aS aG 3 [] [(33, (aM (decide (i10 < j11))))] ?_
    refine bH h1 (fun h1 => ?_) (fun h1 => ?_)
    · refine bJ ?_
      refine bF [(0, (.msl 2 lo0p 0 (List.length aA))), (1, (eI a1)), (4, (.fn (.func cmp4_f) cmp4_a cmp4_c)), (10, (eI i10)), (11, (eI j11))] ?_
      refine bO 1 ?_
      refine aP ?_
      refine aV aG 7 ?_
      obtain ⟨c44, h1⟩ := bE h1
      refine pV [0 ≤ (1 : Int)] ⟨c44, trivial⟩ ?_
      refine bR [] [(12, (eI (wR (Int.fdiv (IntKind.u64.wrap (wR (i10 + j11))) (2 ^ (min (Int.toNat (1 : Int)) 64))))))] ?_
      refine aP ?_
      refine jP (jQ []) aG 11 ?_
      obtain ⟨c45, h1⟩ := bE h1
      refine cX 4 [0 ≤ (wR (Int.fdiv (IntKind.u64.wrap (wR (i10 + j11))) (2 ^ (min (Int.toNat (1 : Int)) 64)))) ∧ (wR (Int.fdiv (IntKind.u64.wrap (wR (i10 + j11))) (2 ^ (min (Int.toNat (1 : Int)) 64)))) < (lN aA)] ⟨c45, trivial⟩ ?_
      refine jW 0 lo0p 2 (0 + Int.toNat (wR (Int.fdiv (IntKind.u64.wrap (wR (i10 + j11))) (2 ^ (min (Int.toNat (1 : Int)) 64))))) (aE (gD aA (wR (Int.fdiv (IntKind.u64.wrap (wR (i10 + j11))) (2 ^ (min (Int.toNat (1 : Int)) 64)))))) (aE (gD aA (wR (Int.fdiv (IntKind.u64.wrap (wR (i10 + j11))) (2 ^ (min (Int.toNat (1 : Int)) 64)))))) (List.map aE aA) hO (cD c45) ?_
      obtain ⟨c46, h1⟩ := bE h1
      refine cX 8 [0 ≤ a1 ∧ a1 < (lN aA)] ⟨c46, trivial⟩ ?_
      refine jW 0 lo0p 2 (0 + Int.toNat a1) (aE (gD aA a1)) (aE (gD aA a1)) (List.map aE aA) hO (cD c46) ?_
      obtain ⟨x47, hx48, h1⟩ := aW h1
      refine vD (cmp4_h (gD aA (wR (Int.fdiv (IntKind.u64.wrap (wR (i10 + j11))) (2 ^ (min (Int.toNat (1 : Int)) 64))))) (gD aA a1) _ hx48) hO ?_
      intro H hO
      refine nS ?_
      refine bR [] [(50, (aM (decide (x47 < (0 : Int)))))] ?_
      refine bH h1 (fun h1 => ?_) (fun h1 => ?_)
      · refine aV aG 3 ?_
        refine bC ?_
        exact aI (aT (aH (⟨rfl, _, (oI h1).symm, .eq (by kernel_rfl), hO, hN⟩)))
      refine aV aG 2 ?_
      refine bC ?_
      exact aI (aT (aH (⟨rfl, _, (oI h1).symm, .eq (by kernel_rfl), hO, hN⟩)))
    refine eP 0 ?_
    obtain rfl := oI h1
    obtain rfl : _ = rr0 := ho0
    replace h0 : eU cmp4 rec aA a1 i10 = some r := h0
    exact aI (aU (aU (bL (aH (⟨rfl, _, _, .eq (by kernel_rfl), hO, hN, h0⟩)))))
  refine bJ ?_
  exact aI (aH (⟨rfl, _, .eq (by kernel_rfl), hO, hN, h0⟩))

theorem lR (cmp4_f : Nat) (cmp4_a cmp4_c : List V) (cmp4 : aB → aB → Option Int) (cmp4_h : ∀ a0 a1 r, cmp4 a0 a1 = some r → bV Try.prog cmp4_f (cmp4_a ++ [(aE a0), (aE a1)] ++ cmp4_c) (eI r)) : ∀ (k : Nat) (lo0p : Nat) (aA : (List aB)) (a1 : Int) (m2 : Int) (b3 : Int) (r : List aB), fG cmp4 k aA a1 m2 b3 = some r → jL Try.prog 122 lo0p 2 (List.map aE aA) (List.map aE r) [(.msl 2 lo0p 0 (List.length aA)), (eI a1), (eI m2), (eI b3), (.fn (.func cmp4_f) cmp4_a cmp4_c)] (.tup [])
  | 0, _, _, _, _, _, _, h => by cases h
  | k + 1, lo0p, aA, a1, m2, b3, r, h => pL cmp4_f cmp4_a cmp4_c cmp4 cmp4_h _ (lR cmp4_f cmp4_a cmp4_c cmp4 cmp4_h k) lo0p aA a1 m2 b3 r h

theorem mM (lo0p : Nat) (aA : (List aB)) (a1 : Int) (m2 : Int) (b3 : Int) (cmp4_f : Nat) (cmp4_a cmp4_c : List V) (cmp4 : aB → aB → Option Int) (cmp4_h : ∀ a0 a1 r, cmp4 a0 a1 = some r → bV Try.prog cmp4_f (cmp4_a ++ [(aE a0), (aE a1)] ++ cmp4_c) (eI r)) (r : List aB) (h0 : dO aA a1 m2 b3 cmp4 = some r) : jL Try.prog 122 lo0p 2 (List.map aE aA) (List.map aE r) [(.msl 2 lo0p 0 (List.length aA)), (eI a1), (eI m2), (eI b3), (.fn (.func cmp4_f) cmp4_a cmp4_c)] (.tup []) := by
  obtain ⟨k, hk⟩ := AS h0
  exact lR cmp4_f cmp4_a cmp4_c cmp4 cmp4_h k lo0p aA a1 m2 b3 r hk

theorem sR (lo0p : Nat) (aA : (List aB)) (n1 : Int) (cmp2_f : Nat) (cmp2_a cmp2_c : List V) (cmp2 : aB → aB → Option Int) (cmp2_h : ∀ a0 a1 r, cmp2 a0 a1 = some r → bV Try.prog cmp2_f (cmp2_a ++ [(aE a0), (aE a1)] ++ cmp2_c) (eI r)) (r : List aB) (h0 : eB aA n1 cmp2 = some r) : jL Try.prog 117 lo0p 2 (List.map aE aA) (List.map aE r) [(.msl 2 lo0p 0 (List.length aA)), (eI n1), (.fn (.func cmp2_f) cmp2_a cmp2_c)] (.tup []) := by
  intro H0 hl0
  refine cE Try.func117 ?_
  have hO := aN.nF hl0
  clear hl0
  obtain ⟨N0, hN0⟩ : ∃ n, n = List.length aA := ⟨_, rfl⟩
  have hN : List.length aA = N0 := hN0.symm
  unfold eB at h0
  refine aS aG 1 [] [(6, (eI (20 : Int)))] ?_
  refine aS aG 3 [] [(7, (eI (0 : Int))), (8, (eI (20 : Int)))] ?_
  refine cY (fun T H => ∃ aA : List aB, ∃ aJ : Int, ∃ a7 : Int, Has T [(0, (.msl 2 lo0p 0 (List.length aA))), (1, (eI n1)), (2, (.fn (.func cmp2_f) cmp2_a cmp2_c)), (6, (eI aJ)), (7, (eI a7))] ∧ aN ⟨H0, [lo0p], []⟩ H [(lo0p, 2, List.map aE aA)] ∧ List.length aA = N0 ∧ dZ cmp2 aA n1 aJ a7 = some r) ?_ ?_
  · clear hO hN h0
    rintro T H ⟨aA, aJ, a7, hT, hO, hN, h0⟩
    refine aY hT ?_
    clear hT
    unfold dZ at h0
    refine aP ?_
    refine aV aG 5 ?_
    refine bN 4 ?_
    obtain ⟨x1, hx2, h0⟩ := aW h0
    refine mE [(lo0p, 2, List.map aE x1)] 0 (lC lo0p aA a7 n1 cmp2_f cmp2_a cmp2_c cmp2 cmp2_h _ hx2) hO ?_
    intro H hO hl3
    simp only [List.length_map] at hl3
    replace hN := hl3.trans hN
    refine cP ?_
    refine cG (l := [(0, (.msl 2 lo0p 0 (List.length x1))), (1, (eI n1)), (2, (.fn (.func cmp2_f) cmp2_a cmp2_c)), (6, (eI aJ))]) ⟨[(0, (.msl 2 lo0p 0 (List.length aA))), (1, (eI n1)), (2, (.fn (.func cmp2_f) cmp2_a cmp2_c)), (6, (eI aJ))], by kernel_rfl, rfl, ⟨aR.eq (by simp [hl3]), aR.refl _, aR.refl _, aR.refl _, trivial⟩⟩ ?_
    refine aI (aH (?_))
    refine bO 2 ?_
    refine dL [(0, (.msl 2 lo0p 0 (List.length x1))), (1, (eI n1)), (2, (.fn (.func cmp2_f) cmp2_a cmp2_c)), (6, (eI aJ))] ?_
    refine cR (fun T H => ∃ aA : List aB, ∃ aJ : Int, Has T [(0, (.msl 2 lo0p 0 (List.length aA))), (1, (eI n1)), (2, (.fn (.func cmp2_f) cmp2_a cmp2_c)), (6, (eI aJ))] ∧ aN ⟨H0, [lo0p], []⟩ H [(lo0p, 2, List.map aE aA)] ∧ List.length aA = N0 ∧ fU cmp2 aA n1 aJ = some r) ?_ ⟨x1, aJ, .eq (by kernel_rfl), hO, hN, h0⟩
    clear hO hN h0
    rintro T H ⟨aA, aJ, hT, hO, hN, h0⟩
    refine aY hT ?_
    clear hT
    unfold fU at h0
    obtain ⟨rr0, hl0, h0⟩ := aW h0
    refine bZ (by kernel_rfl) (fun (s : List aB × Int) T H => Has T [(0, (.msl 2 lo0p 0 (List.length s.1))), (1, (eI n1)), (2, (.fn (.func cmp2_f) cmp2_a cmp2_c)), (6, (eI s.2))] ∧ aN ⟨H0, [lo0p], []⟩ H [(lo0p, 2, List.map aE s.1)] ∧ List.length s.1 = N0) hl0 ⟨.eq (by kernel_rfl), hO, hN⟩ ?_
    clear hO hN
    rintro k0 s out1 T H ⟨hT, hO, hN⟩ h1 ho0
    obtain ⟨aA, aJ⟩ := s
    replace h1 : fZ cmp2 n1 aA aJ = some out1 := h1
    dsimp only at hT
    refine aY hT ?_
    clear hT
    unfold fZ at h1
    refine aP ?_
    refine aS aG 3 [] [(30, (aM (decide (aJ < n1))))] ?_
    refine bH h1 (fun h1 => ?_) (fun h1 => ?_)
    · refine bJ ?_
      refine bF [(0, (.msl 2 lo0p 0 (List.length aA))), (1, (eI n1)), (2, (.fn (.func cmp2_f) cmp2_a cmp2_c)), (6, (eI aJ))] ?_
      refine bO 3 ?_
      refine aS aG 4 [] [(7, (eI (0 : Int))), (8, (eI (wR ((2 : Int) * aJ))))] ?_
      refine cY (fun T H => ∃ aA : List aB, ∃ a7 : Int, Has T [(0, (.msl 2 lo0p 0 (List.length aA))), (1, (eI n1)), (2, (.fn (.func cmp2_f) cmp2_a cmp2_c)), (6, (eI aJ)), (7, (eI a7))] ∧ aN ⟨H0, [lo0p], []⟩ H [(lo0p, 2, List.map aE aA)] ∧ List.length aA = N0 ∧ dY cmp2 aA n1 aJ a7 = some out1) ?_ ?_
      · clear hO hN h1
        rintro T H ⟨aA, a7, hT, hO, hN, h1⟩
        refine aY hT ?_
        clear hT
        unfold dY at h1
        refine cY (fun T H => ∃ aA : List aB, Has T [(0, (.msl 2 lo0p 0 (List.length aA))), (1, (eI n1)), (2, (.fn (.func cmp2_f) cmp2_a cmp2_c)), (6, (eI aJ))] ∧ aN ⟨H0, [lo0p], []⟩ H [(lo0p, 2, List.map aE aA)] ∧ List.length aA = N0 ∧ fQ cmp2 aA n1 aJ = some out1) ?_ ?_
        · clear hO hN h1
          rintro T H ⟨aA, hT, hO, hN, h1⟩
          refine aY hT ?_
          clear hT
          unfold fQ at h1
          refine aV aG 3 ?_
          refine bC ?_
          exact aI (aT (aH (⟨rfl, _, (oI h1).symm, .eq (by kernel_rfl), hO, hN⟩)))
        refine aS aG 4 [] [(9, (eI (wR (a7 + aJ))))] ?_
        refine aS aG 3 [] [(54, (aM (decide ((wR (a7 + aJ)) < n1))))] ?_
        refine bH h1 (fun h1 => ?_) (fun h1 => ?_)
        · refine aV aG 6 ?_
          refine bN 5 ?_
          obtain ⟨x6, hx7, h1⟩ := aW h1
          refine mE [(lo0p, 2, List.map aE x6)] 0 (mM lo0p aA a7 (wR (a7 + aJ)) n1 cmp2_f cmp2_a cmp2_c cmp2 cmp2_h _ hx7) hO ?_
          intro H hO hl8
          simp only [List.length_map] at hl8
          replace hN := hl8.trans hN
          refine cP ?_
          refine cG (l := [(0, (.msl 2 lo0p 0 (List.length x6))), (1, (eI n1)), (2, (.fn (.func cmp2_f) cmp2_a cmp2_c)), (6, (eI aJ))]) ⟨[(0, (.msl 2 lo0p 0 (List.length aA))), (1, (eI n1)), (2, (.fn (.func cmp2_f) cmp2_a cmp2_c)), (6, (eI aJ))], by kernel_rfl, rfl, ⟨aR.eq (by simp [hl8]), aR.refl _, aR.refl _, aR.refl _, trivial⟩⟩ ?_
          exact aI (aH (⟨rfl, _, .eq (by kernel_rfl), hO, hN, h1⟩))
        refine bJ ?_
        exact aI (aH (⟨rfl, _, .eq (by kernel_rfl), hO, hN, h1⟩))
      refine bO 4 ?_
      refine dL [(0, (.msl 2 lo0p 0 (List.length aA))), (1, (eI n1)), (2, (.fn (.func cmp2_f) cmp2_a cmp2_c)), (6, (eI aJ)), (7, (eI (0 : Int))), (8, (eI (wR ((2 : Int) * aJ))))] ?_
      refine cR (fun T H => ∃ aA : List aB, ∃ a7 : Int, ∃ b8 : Int, Has T [(0, (.msl 2 lo0p 0 (List.length aA))), (1, (eI n1)), (2, (.fn (.func cmp2_f) cmp2_a cmp2_c)), (6, (eI aJ)), (7, (eI a7)), (8, (eI b8))] ∧ aN ⟨H0, [lo0p], []⟩ H [(lo0p, 2, List.map aE aA)] ∧ List.length aA = N0 ∧ fT cmp2 aA n1 aJ a7 b8 = some out1) ?_ ⟨aA, (0 : Int), wR ((2 : Int) * aJ), .eq (by kernel_rfl), hO, hN, h1⟩
      clear hO hN h1
      rintro T H ⟨aA, a7, b8, hT, hO, hN, h1⟩
      refine aY hT ?_
      clear hT
      unfold fT at h1
      obtain ⟨rr1, hl1, h1⟩ := aW h1
      refine bZ (by kernel_rfl) (fun (s : List aB × Int × Int) T H => Has T [(0, (.msl 2 lo0p 0 (List.length s.1))), (1, (eI n1)), (2, (.fn (.func cmp2_f) cmp2_a cmp2_c)), (6, (eI aJ)), (7, (eI s.2.1)), (8, (eI s.2.2))] ∧ aN ⟨H0, [lo0p], []⟩ H [(lo0p, 2, List.map aE s.1)] ∧ List.length s.1 = N0) hl1 ⟨.eq (by kernel_rfl), hO, hN⟩ ?_
      clear hO hN
      rintro k1 s out2 T H ⟨hT, hO, hN⟩ h2 ho1
      obtain ⟨aA, a7, b8⟩ := s
      replace h2 : gE cmp2 n1 aJ aA a7 b8 = some out2 := h2
      dsimp only at hT
      refine aY hT ?_
      clear hT
      unfold gE at h2
      refine aP ?_
      refine aS aG 3 [] [(35, (aM (decide (b8 ≤ n1))))] ?_
      refine bH h2 (fun h2 => ?_) (fun h2 => ?_)
      · refine bJ ?_
        refine bF [(0, (.msl 2 lo0p 0 (List.length aA))), (1, (eI n1)), (2, (.fn (.func cmp2_f) cmp2_a cmp2_c)), (6, (eI aJ)), (7, (eI a7)), (8, (eI b8))] ?_
        refine bO 5 ?_
        refine aP ?_
        refine aV aG 8 ?_
        refine bN 7 ?_
        obtain ⟨x10, hx11, h2⟩ := aW h2
        refine mE [(lo0p, 2, List.map aE x10)] 0 (mM lo0p aA a7 (wR (a7 + aJ)) b8 cmp2_f cmp2_a cmp2_c cmp2 cmp2_h _ hx11) hO ?_
        intro H hO hl12
        simp only [List.length_map] at hl12
        replace hN := hl12.trans hN
        refine cP ?_
        refine cG (l := [(0, (.msl 2 lo0p 0 (List.length x10))), (1, (eI n1)), (2, (.fn (.func cmp2_f) cmp2_a cmp2_c)), (6, (eI aJ)), (8, (eI b8))]) ⟨[(0, (.msl 2 lo0p 0 (List.length aA))), (1, (eI n1)), (2, (.fn (.func cmp2_f) cmp2_a cmp2_c)), (6, (eI aJ)), (8, (eI b8))], by kernel_rfl, rfl, ⟨aR.eq (by simp [hl12]), aR.refl _, aR.refl _, aR.refl _, aR.refl _, trivial⟩⟩ ?_
        refine aI (aH (?_))
        refine aS aG 2 [] [(7, (eI b8))] ?_
        refine aV aG 5 ?_
        refine bC ?_
        exact aI (aT (aH (⟨rfl, _, (oI h2).symm, .eq (by kernel_rfl), hO, hN⟩)))
      refine eP 4 ?_
      obtain rfl := oI h2
      obtain rfl : _ = rr1 := ho1
      replace h1 : dY cmp2 aA n1 aJ a7 = some out1 := h1
      exact aI (aU (aU (bL (aH (⟨rfl, _, _, .eq (by kernel_rfl), hO, hN, h1⟩)))))
    refine eP 2 ?_
    obtain rfl := oI h1
    obtain rfl : _ = rr0 := ho0
    replace h0 : some aA = some r := h0
    obtain rfl := oI h0
    exact aI (aU (aU (bL (oD (x := (.tup [])) (by kernel_rfl) (aR.refl _) ⟨rfl, hO.ext, hO.at 0 (by kernel_rfl), by simp only [List.length_map]; exact hN.trans hN0⟩))))
  refine bO 0 ?_
  refine dL [(0, (.msl 2 lo0p 0 (List.length aA))), (1, (eI n1)), (2, (.fn (.func cmp2_f) cmp2_a cmp2_c)), (6, (eI (20 : Int))), (7, (eI (0 : Int))), (8, (eI (20 : Int)))] ?_
  refine cR (fun T H => ∃ aA : List aB, ∃ aJ : Int, ∃ a7 : Int, ∃ b8 : Int, Has T [(0, (.msl 2 lo0p 0 (List.length aA))), (1, (eI n1)), (2, (.fn (.func cmp2_f) cmp2_a cmp2_c)), (6, (eI aJ)), (7, (eI a7)), (8, (eI b8))] ∧ aN ⟨H0, [lo0p], []⟩ H [(lo0p, 2, List.map aE aA)] ∧ List.length aA = N0 ∧ fS cmp2 aA n1 aJ a7 b8 = some r) ?_ ⟨aA, (20 : Int), (0 : Int), (20 : Int), .eq (by kernel_rfl), hO, hN, h0⟩
  clear hO hN h0
  rintro T H ⟨aA, aJ, a7, b8, hT, hO, hN, h0⟩
  refine aY hT ?_
  clear hT
  unfold fS at h0
  obtain ⟨rr0, hl0, h0⟩ := aW h0
  refine bZ (by kernel_rfl) (fun (s : List aB × Int × Int) T H => Has T [(0, (.msl 2 lo0p 0 (List.length s.1))), (1, (eI n1)), (2, (.fn (.func cmp2_f) cmp2_a cmp2_c)), (6, (eI aJ)), (7, (eI s.2.1)), (8, (eI s.2.2))] ∧ aN ⟨H0, [lo0p], []⟩ H [(lo0p, 2, List.map aE s.1)] ∧ List.length s.1 = N0) hl0 ⟨.eq (by kernel_rfl), hO, hN⟩ ?_
  clear hO hN
  rintro k0 s out1 T H ⟨hT, hO, hN⟩ h1 ho0
  obtain ⟨aA, a7, b8⟩ := s
  replace h1 : gH cmp2 n1 aJ aA a7 b8 = some out1 := h1
  dsimp only at hT
  refine aY hT ?_
  clear hT
  unfold gH at h1
  refine aP ?_
  refine aS aG 3 [] [(13, (aM (decide (b8 ≤ n1))))] ?_
  refine bH h1 (fun h1 => ?_) (fun h1 => ?_)
  · refine bJ ?_
    refine bF [(0, (.msl 2 lo0p 0 (List.length aA))), (1, (eI n1)), (2, (.fn (.func cmp2_f) cmp2_a cmp2_c)), (6, (eI aJ)), (7, (eI a7)), (8, (eI b8))] ?_
    refine bO 1 ?_
    refine aP ?_
    refine aV aG 5 ?_
    refine bN 4 ?_
    obtain ⟨x14, hx15, h1⟩ := aW h1
    refine mE [(lo0p, 2, List.map aE x14)] 0 (lC lo0p aA a7 b8 cmp2_f cmp2_a cmp2_c cmp2 cmp2_h _ hx15) hO ?_
    intro H hO hl16
    simp only [List.length_map] at hl16
    replace hN := hl16.trans hN
    refine cP ?_
    refine cG (l := [(0, (.msl 2 lo0p 0 (List.length x14))), (1, (eI n1)), (2, (.fn (.func cmp2_f) cmp2_a cmp2_c)), (6, (eI aJ)), (8, (eI b8))]) ⟨[(0, (.msl 2 lo0p 0 (List.length aA))), (1, (eI n1)), (2, (.fn (.func cmp2_f) cmp2_a cmp2_c)), (6, (eI aJ)), (8, (eI b8))], by kernel_rfl, rfl, ⟨aR.eq (by simp [hl16]), aR.refl _, aR.refl _, aR.refl _, aR.refl _, trivial⟩⟩ ?_
    refine aI (aH (?_))
    refine aS aG 2 [] [(7, (eI b8))] ?_
    refine aV aG 4 ?_
    refine bC ?_
    exact aI (aT (aH (⟨rfl, _, (oI h1).symm, .eq (by kernel_rfl), hO, hN⟩)))
  refine eP 0 ?_
  obtain rfl := oI h1
  obtain rfl : _ = rr0 := ho0
  replace h0 : dZ cmp2 aA n1 aJ a7 = some r := h0
  exact aI (aU (aU (bL (aH (⟨rfl, _, _, _, .eq (by kernel_rfl), hO, hN, h0⟩)))))

theorem nZ (lo0p : Nat) (x0 : (List aB)) (cmp1_f : Nat) (cmp1_a cmp1_c : List V) (cmp1 : aB → aB → Option Int) (cmp1_h : ∀ a0 a1 r, cmp1 a0 a1 = some r → bV Try.prog cmp1_f (cmp1_a ++ [(aE a0), (aE a1)] ++ cmp1_c) (eI r)) (r : List aB) (h0 : cJ x0 cmp1 = some r) : jL Try.prog 100 lo0p 2 (List.map aE x0) (List.map aE r) [(.msl 2 lo0p 0 (List.length x0)), (.fn (.func cmp1_f) cmp1_a cmp1_c)] (.tup []) := by
  intro H0 hl0
  refine cE Try.func100 ?_
  have hO := aN.nF hl0
  clear hl0
  obtain ⟨N0, hN0⟩ : ∃ n, n = List.length x0 := ⟨_, rfl⟩
  have hN : List.length x0 = N0 := hN0.symm
  unfold cJ at h0
  refine aV aG 5 ?_
  refine bN 4 ?_
  obtain ⟨x1, hx2, h0⟩ := aW h0
  refine mE [(lo0p, 2, List.map aE x1)] 0 (sR lo0p x0 (lN x0) cmp1_f cmp1_a cmp1_c cmp1 cmp1_h _ hx2) hO ?_
  intro H hO hl3
  simp only [List.length_map] at hl3
  replace hN := hl3.trans hN
  refine cP ?_
  refine cG (l := [(0, (.msl 2 lo0p 0 (List.length x1)))]) ⟨[(0, (.msl 2 lo0p 0 (List.length x0)))], by kernel_rfl, rfl, ⟨aR.eq (by simp [hl3]), trivial⟩⟩ ?_
  obtain rfl := oI h0
  exact aI (oD (x := (.tup [])) (by kernel_rfl) (aR.refl _) ⟨rfl, hO.ext, hO.at 0 (by kernel_rfl), by simp only [List.length_map]; exact hN.trans hN0⟩)

theorem HH (a0 : aB) (b1 : aB) (r : Int) (h0 : kW a0 b1 = some r) : bV Try.prog 101 [(aE a0), (aE b1)] (eI r) := by
  intro H0
  refine cE Try.func101 ?_
  have hO := aN.start H0
  unfold kW at h0
  refine aP ?_
  refine aV aG 3 ?_
  refine kK 2 (aE a0) (by kernel_rfl) (by kernel_rfl) ?_
  refine kK 2 (aE b1) (by kernel_rfl) (by kernel_rfl) ?_
  refine bC ?_
  refine bF [(2, (.rp (aE a0))), (3, (.rp (aE b1)))] ?_
  refine aP ?_
  refine aV aG 6 ?_
  refine bN 4 ?_
  obtain ⟨x1, hx2, h0⟩ := aW h0
  refine dA (qZ a0.At b1.At _ hx2) hO ?_
  intro H hO
  refine bC ?_
  refine bF [(4, (eI x1))] ?_
  refine bI ?_
  obtain rfl := oI h0
  exact aI (Q_r hO)

theorem MA (f0 : (List aB)) (r : ((List aB) × Int)) (h0 : oZ f0 = some r) : bV Try.prog 102 [(eL aE f0)] (.tup [(eL aE r.1), (eI r.2)]) := by
  intro H0
  refine cE Try.func102 ?_
  have hO := aN.start H0
  unfold oZ at h0
  refine aS aG 2 [] [] ?_
  refine aP ?_
  refine aP ?_
  refine aV aG 3 ?_
  refine bN 1 ?_
  obtain ⟨x1, hx2, h0⟩ := aW h0
  refine dA (vG f0 _ hx2) hO ?_
  intro H hO
  refine bC ?_
  refine bR [] [(6, (aM (!x1)))] ?_
  refine bH h0 (fun h0 => ?_) (fun h0 => ?_)
  · refine bQ aG 2 [(2, (.sl true 0 (fun _ => .bad))), (3, (eI (7 : Int)))] ?_
    refine bI ?_
    refine cG (l := [(2, (eL aE ([]))), (3, (eI (7 : Int)))]) ⟨[(2, (.sl true 0 (fun _ => .bad))), (3, (eI (7 : Int)))], by kernel_rfl, rfl, ⟨lJ, aR.refl _, trivial⟩⟩ ?_
    obtain rfl := oI h0
    exact aI (aX (Q_r hO))
  refine bJ ?_
  refine bF [(0, (eL aE f0))] ?_
  refine bQ aG 3 [(2, (eL aE f0)), (3, (eI (0 : Int)))] ?_
  refine bI ?_
  obtain rfl := oI h0
  exact aI (Q_r hO)

end Go.Abs
