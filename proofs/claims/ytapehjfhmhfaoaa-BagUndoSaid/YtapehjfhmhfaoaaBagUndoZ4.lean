/- What the law BagUndo stands on: the framework, the given functions as plain functions, their walks, and the plain laws; part 4. -/
import Derived.Test.YtapehjfhmhfaoaaBagUndoZ3
set_option linter.unusedSimpArgs false
set_option linter.unusedVariables false
namespace Go.Abs
open Go Go.RowKit Go.Proofs
theorem aBh (f0 : (List aD)) (g1 : (List aD)) (by2_f : Nat) (by2_a by2_c : List V) (by2 : Int → Int → Option Int) (by2_h : ∀ a0 a1 r, by2 a0 a1 = some r → dK Try.prog by2_f (by2_a ++ [(eI a0), (eI a1)] ++ by2_c) (eI r)) (r : ((List aD) × Int)) (h0 : AN f0 g1 by2 = some r) : dK Try.prog 33 [(eL aL f0), (eL aL g1), (.fn (.func by2_f) by2_a by2_c)] (.tup [(eL aL r.1), (eI r.2)]) := by
  intro H0
  refine dP Try.func33 ?_
  have hO := aN.start H0
  unfold AN at h0
  refine aY aF 2 [] [] ?_
  refine aP ?_
  refine aP ?_
  refine aU aF 8 ?_
  refine bQ 1 ?_
  obtain ⟨x1, hx2, h0⟩ := aZ h0
  refine iY (uX f0 _ hx2) hO ?_
  intro H hO
  refine bQ 5 ?_
  obtain ⟨x4, hx5, h0⟩ := aZ h0
  refine tC [(17, false)] 28 [(eL aL g1)] (aG x4) (!(!x1)) (by kernel_rfl) (by kernel_rfl) (by kernel_rfl) (fun hb6 => (uX g1 _ (pE hx5 hb6))) hO ?_
  intro H hO
  refine bG ?_
  refine cQ [] [(21, (aG ((!x1) || (!x4))))] ?_
  refine bW h0 (fun h0 => ?_) (fun h0 => ?_)
  · refine cJ aF 2 [(6, (.sl true 0 (fun _ => .bad))), (7, (eI (2 : Int)))] ?_
    refine bR ?_
    refine dX (l := [(6, (eL aL ([]))), (7, (eI (2 : Int)))]) ⟨[(6, (.sl true 0 (fun _ => .bad))), (7, (eI (2 : Int)))], by kernel_rfl, rfl, ⟨lU, aQ.refl _, trivial⟩⟩ ?_
    obtain rfl := oI h0
    exact aK (aV (Q_r hO))
  refine bT ?_
  refine bC [(0, (eL aL f0)), (1, (eL aL g1)), (2, (.fn (.func by2_f) by2_a by2_c))] ?_
  refine aP ?_
  refine aU aF 2 ?_
  refine wN [] 2 ?_
  refine bG ?_
  refine cQ [] [(8, (.sl true 0 (fun _ => .bad)))] ?_
  refine aY aF 3 [] [(9, (eI (0 : Int))), (10, (eI (0 : Int))), (11, (eI (0 : Int)))] ?_
  refine lT (fun T H => ∃ out8 : List aD, ∃ lo8 : Nat, Has T [(8, (.msl 2 lo8 0 (List.length out8)))] ∧ aN ⟨H0, [], []⟩ H [(lo8, 2, List.map aL out8)] ∧ xI by2 out8 = some r) ?_ ?_
  · clear hO h0
    rintro T H ⟨out8, lo8, hT, hO, h0⟩
    refine bO hT ?_
    clear hT
    unfold xI at h0
    refine aP ?_
    refine aU aF 6 ?_
    refine JP (e := aL) out8 0 8 2 lo8 (List.length out8) [] (by kernel_rfl) hO (by kernel_rfl) (by kernel_rfl) (by kernel_rfl) (by kernel_rfl) ?_
    intro H hO
    refine bQ 1 ?_
    obtain ⟨x9, hx10, h0⟩ := aZ h0
    refine iY (QT out8 _ hx10) hO ?_
    intro H hO
    refine bG ?_
    refine bC [(6, (eL aL x9.1)), (7, (eI x9.2))] ?_
    refine bR ?_
    obtain rfl := oI h0
    exact aK (Q_r hO)
  refine cH 0 ?_
  refine mD [(0, (eL aL f0)), (1, (eL aL g1)), (2, (.fn (.func by2_f) by2_a by2_c)), (8, (.sl true 0 (fun _ => .bad))), (9, (eI (0 : Int))), (10, (eI (0 : Int))), (11, (eI (0 : Int)))] ?_
  refine SP (el := (fun _ => .bad)) 3 8 2 hO (by kernel_rfl) ?_
  intro lo37 H38 hO
  refine kZ (fun T H => ∃ f0 : (List aD), ∃ g1 : (List aD), ∃ out8 : List aD, ∃ a9 : Int, ∃ b10 : Int, ∃ iK : Int, ∃ lo13 : Nat, Has T [(0, (eL aL f0)), (1, (eL aL g1)), (2, (.fn (.func by2_f) by2_a by2_c)), (8, (.msl 2 lo13 0 (List.length out8))), (9, (eI a9)), (10, (eI b10)), (11, (eI iK))] ∧ aN ⟨H0, [], []⟩ H [(lo13, 2, List.map aL out8)] ∧ CQ by2 f0 g1 out8 a9 b10 iK = some r) ?_ ⟨f0, g1, ([] : List aD), (0 : Int), (0 : Int), (0 : Int), lo37, bF, hO, h0⟩
  clear hO h0
  rintro T H ⟨f0, g1, out8, a9, b10, iK, lo13, hT, hO, h0⟩
  refine bO hT ?_
  clear hT
  unfold CQ at h0
  obtain ⟨rr0, hl0, h0⟩ := aZ h0
  refine mQ (fun (s : (List aD) × (List aD) × List aD × Int × Int × Int) T H => ∃ lo13 : Nat, Has T [(0, (eL aL s.1)), (1, (eL aL s.2.1)), (2, (.fn (.func by2_f) by2_a by2_c)), (8, (.msl 2 lo13 0 (List.length s.2.2.1))), (9, (eI s.2.2.2.1)), (10, (eI s.2.2.2.2.1)), (11, (eI s.2.2.2.2.2))] ∧ aN ⟨H0, [], []⟩ H [(lo13, 2, List.map aL s.2.2.1)]) hl0 ⟨lo13, bF, hO⟩ ?_
  clear hO
  rintro k0 s out1 T H ⟨lo13, hT, hO⟩ h1 ho0
  obtain ⟨f0, g1, out8, a9, b10, iK⟩ := s
  replace h1 : lF by2 f0 g1 out8 a9 b10 iK = some out1 := h1
  try dsimp only at hT
  refine bO hT ?_
  clear hT
  unfold lF at h1
  refine aP ?_
  refine aY aF 8 [] [(30, (aG ((decide ((0 : Int) < (lN f0))) || (decide ((0 : Int) < (lN g1))))))] ?_
  refine bW h1 (fun h1 => ?_) (fun h1 => ?_)
  · refine bT ?_
    refine bC [(0, (eL aL f0)), (1, (eL aL g1)), (2, (.fn (.func by2_f) by2_a by2_c)), (8, (.msl 2 lo13 0 (List.length out8))), (9, (eI a9)), (10, (eI b10)), (11, (eI iK))] ?_
    refine cH 1 ?_
    refine aY aF 1 [] [(12, (eI (1125899906842624 : Int)))] ?_
    refine lT (fun T H => ∃ out8 : List aD, ∃ at12 : Int, ∃ lo15 : Nat, Has T [(0, (eL aL f0)), (1, (eL aL g1)), (2, (.fn (.func by2_f) by2_a by2_c)), (8, (.msl 2 lo15 0 (List.length out8))), (9, (eI a9)), (10, (eI b10)), (11, (eI iK)), (12, (eI at12))] ∧ aN ⟨H0, [], []⟩ H [(lo15, 2, List.map aL out8)] ∧ pN by2 f0 g1 out8 a9 b10 iK at12 = some out1) ?_ ?_
    · clear hO h1
      rintro T H ⟨out8, at12, lo15, hT, hO, h1⟩
      refine bO hT ?_
      clear hT
      unfold pN at h1
      refine lT (fun T H => ∃ out8 : List aD, ∃ at12 : Int, ∃ lo16 : Nat, Has T [(0, (eL aL f0)), (1, (eL aL g1)), (2, (.fn (.func by2_f) by2_a by2_c)), (8, (.msl 2 lo16 0 (List.length out8))), (9, (eI a9)), (10, (eI b10)), (11, (eI iK)), (12, (eI at12))] ∧ aN ⟨H0, [], []⟩ H [(lo16, 2, List.map aL out8)] ∧ nB by2 f0 g1 out8 a9 b10 iK at12 = some out1) ?_ ?_
      · clear hO h1
        rintro T H ⟨out8, at12, lo16, hT, hO, h1⟩
        refine bO hT ?_
        clear hT
        unfold nB at h1
        refine lT (fun T H => ∃ f0 : (List aD), ∃ out8 : List aD, ∃ a9 : Int, ∃ lo17 : Nat, Has T [(0, (eL aL f0)), (1, (eL aL g1)), (2, (.fn (.func by2_f) by2_a by2_c)), (8, (.msl 2 lo17 0 (List.length out8))), (9, (eI a9)), (10, (eI b10)), (11, (eI iK)), (12, (eI at12))] ∧ aN ⟨H0, [], []⟩ H [(lo17, 2, List.map aL out8)] ∧ mR by2 f0 g1 out8 a9 b10 iK at12 = some out1) ?_ ?_
        · clear hO h1
          rintro T H ⟨f0, out8, a9, lo17, hT, hO, h1⟩
          refine bO hT ?_
          clear hT
          unfold mR at h1
          refine lT (fun T H => ∃ g1 : (List aD), ∃ out8 : List aD, ∃ b10 : Int, ∃ lo18 : Nat, Has T [(0, (eL aL f0)), (1, (eL aL g1)), (2, (.fn (.func by2_f) by2_a by2_c)), (8, (.msl 2 lo18 0 (List.length out8))), (9, (eI a9)), (10, (eI b10)), (11, (eI iK)), (12, (eI at12))] ∧ aN ⟨H0, [], []⟩ H [(lo18, 2, List.map aL out8)] ∧ pL by2 f0 g1 out8 a9 b10 iK at12 = some out1) ?_ ?_
          · clear hO h1
            rintro T H ⟨g1, out8, b10, lo18, hT, hO, h1⟩
            refine bO hT ?_
            clear hT
            unfold pL at h1
            refine aP ?_
            refine aU aF 5 ?_
            refine bQ 3 ?_
            obtain ⟨x19, hx20, h1⟩ := aZ h1
            refine iY (by2_h a9 b10 _ hx20) hO ?_
            intro H hO
            refine bG ?_
            refine cQ [] [(13, (eI x19))] ?_
            refine aY aF 3 [] [(91, (aG (!decide (x19 = iK))))] ?_
            refine bW h1 (fun h1 => ?_) (fun h1 => ?_)
            · refine aP ?_
              refine aU aF 9 ?_
              refine bQ 6 ?_
              refine wN [(aL (aD.mk at12 (wR (x19 - iK))))] 2 ?_
              obtain ⟨c24, h1⟩ := bB h1
              refine FH aL out8 ([aD.mk at12 (wR (x19 - iK))]) 0 lo18 2 16 (dR [(aL (aD.mk at12 (wR (x19 - iK))))]) (fun lo23 => [(lo23, 2, List.map aL (out8 ++ ([aD.mk at12 (wR (x19 - iK))])))]) hO (by kernel_rfl) c24 ?_
              intro lo23 H hO
              refine bG ?_
              refine cQ [8, 11, 12, 91] [(8, (.msl 2 lo23 0 (List.length (out8 ++ ([aD.mk at12 (wR (x19 - iK))])))))] ?_
              refine aU aF 2 ?_
              refine bG ?_
              exact aK (bD (aJ (⟨rfl, _, (oI h1).symm, _, bF, hO⟩)))
            refine bT ?_
            exact aK (bD (aJ (⟨rfl, _, (oI h1).symm, _, bF, hO⟩)))
          refine aP ?_
          refine aU aF 11 ?_
          obtain ⟨c25, h1⟩ := bB h1
          refine sW [(((decide ((0 : Int) < (lN g1)))) = true → 0 ≤ (0 : Int) ∧ (0 : Int) < (lN g1))] ⟨c25, trivial⟩ ?_
          refine cQ [] [(76, (aG ((decide ((0 : Int) < (lN g1))) && (decide (((gD g1 (0 : Int)).At) = at12)))))] ?_
          refine bW h1 (fun h1 => ?_) (fun h1 => ?_)
          · refine jS (iZ [81]) aF 10 ?_
            obtain ⟨c27, h1⟩ := bB h1
            obtain ⟨c28, h1⟩ := bB h1
            refine MH (Ds := [0 ≤ (0 : Int) ∧ (0 : Int) < (lN g1), 0 ≤ (1 : Int) ∧ (1 : Int) ≤ (lN g1)]) (by kernel_rfl) ⟨c27, c28, trivial⟩ ?_
            refine dX (l := [(0, (eL aL f0)), (1, (eL aL (List.drop (Int.toNat (1 : Int)) g1))), (2, (.fn (.func by2_f) by2_a by2_c)), (8, (.msl 2 lo17 0 (List.length out8))), (9, (eI a9)), (10, (eI (wR (b10 + ((gD g1 (0 : Int)).Net))))), (11, (eI iK)), (12, (eI at12))]) ⟨[(0, (eL aL f0)), (1, (.sl false (List.length g1 - Int.toNat (1 : Int)) (fun i => aL (List.getD g1 (Int.toNat (1 : Int) + i) default)))), (2, (.fn (.func by2_f) by2_a by2_c)), (8, (.msl 2 lo17 0 (List.length out8))), (9, (eI a9)), (10, (eI (wR (b10 + ((gD g1 (0 : Int)).Net))))), (11, (eI iK)), (12, (eI at12))], by kernel_rfl, rfl, ⟨aQ.refl _, aBW, aQ.refl _, aQ.refl _, aQ.refl _, aQ.refl _, aQ.refl _, aQ.refl _, trivial⟩⟩ ?_
            exact aK (aJ (⟨rfl, _, _, _, _, bF, hO, h1⟩))
          refine bT ?_
          exact aK (aJ (⟨rfl, _, _, _, _, bF, hO, h1⟩))
        refine aP ?_
        refine aU aF 11 ?_
        obtain ⟨c29, h1⟩ := bB h1
        refine sW [(((decide ((0 : Int) < (lN f0)))) = true → 0 ≤ (0 : Int) ∧ (0 : Int) < (lN f0))] ⟨c29, trivial⟩ ?_
        refine cQ [] [(57, (aG ((decide ((0 : Int) < (lN f0))) && (decide (((gD f0 (0 : Int)).At) = at12)))))] ?_
        refine bW h1 (fun h1 => ?_) (fun h1 => ?_)
        · refine jS (iZ [62]) aF 10 ?_
          obtain ⟨c31, h1⟩ := bB h1
          obtain ⟨c32, h1⟩ := bB h1
          refine MH (Ds := [0 ≤ (0 : Int) ∧ (0 : Int) < (lN f0), 0 ≤ (1 : Int) ∧ (1 : Int) ≤ (lN f0)]) (by kernel_rfl) ⟨c31, c32, trivial⟩ ?_
          refine dX (l := [(0, (eL aL (List.drop (Int.toNat (1 : Int)) f0))), (1, (eL aL g1)), (2, (.fn (.func by2_f) by2_a by2_c)), (8, (.msl 2 lo16 0 (List.length out8))), (9, (eI (wR (a9 + ((gD f0 (0 : Int)).Net))))), (10, (eI b10)), (11, (eI iK)), (12, (eI at12))]) ⟨[(0, (.sl false (List.length f0 - Int.toNat (1 : Int)) (fun i => aL (List.getD f0 (Int.toNat (1 : Int) + i) default)))), (1, (eL aL g1)), (2, (.fn (.func by2_f) by2_a by2_c)), (8, (.msl 2 lo16 0 (List.length out8))), (9, (eI (wR (a9 + ((gD f0 (0 : Int)).Net))))), (10, (eI b10)), (11, (eI iK)), (12, (eI at12))], by kernel_rfl, rfl, ⟨aBW, aQ.refl _, aQ.refl _, aQ.refl _, aQ.refl _, aQ.refl _, aQ.refl _, aQ.refl _, trivial⟩⟩ ?_
          exact aK (aJ (⟨rfl, _, _, _, _, bF, hO, h1⟩))
        refine bT ?_
        exact aK (aJ (⟨rfl, _, _, _, _, bF, hO, h1⟩))
      refine aY aF 3 [] [(40, (aG (decide ((0 : Int) < (lN g1)))))] ?_
      refine bW h1 (fun h1 => ?_) (fun h1 => ?_)
      · refine aU aF 7 ?_
        obtain ⟨c34, h1⟩ := bB h1
        refine sW [0 ≤ (0 : Int) ∧ (0 : Int) < (lN g1)] ⟨c34, trivial⟩ ?_
        exact aK (aJ (⟨rfl, _, _, _, bF, hO, h1⟩))
      refine bT ?_
      exact aK (aJ (⟨rfl, _, _, _, bF, hO, h1⟩))
    refine aY aF 3 [] [(33, (aG (decide ((0 : Int) < (lN f0)))))] ?_
    refine bW h1 (fun h1 => ?_) (fun h1 => ?_)
    · refine aU aF 5 ?_
      obtain ⟨c36, h1⟩ := bB h1
      refine sW [0 ≤ (0 : Int) ∧ (0 : Int) < (lN f0)] ⟨c36, trivial⟩ ?_
      exact aK (aJ (⟨rfl, _, _, _, bF, hO, h1⟩))
    refine bT ?_
    exact aK (aJ (⟨rfl, _, _, _, bF, hO, h1⟩))
  refine lM 0 ?_
  obtain rfl := oI h1
  obtain rfl : _ = rr0 := ho0
  replace h0 : xI by2 out8 = some r := h0
  exact aK (aX (aX (cC (aJ (⟨rfl, _, _, bF, hO, h0⟩)))))

theorem YP (a0 : Int) (b1 : Int) (r : Int) (h0 : uO a0 b1 = some r) : dK Try.prog 34 [(eI a0), (eI b1)] (eI r) := by
  intro H0
  refine dP Try.func34 ?_
  have hO := aN.start H0
  unfold uO at h0
  refine aY aF 1 [] [] ?_
  refine cJ aF 4 [(4, (eI (wR (a0 + b1))))] ?_
  refine bR ?_
  obtain rfl := oI h0
  exact aK (Q_r hO)

theorem aCn (f0 : (List aD)) (g1 : (List aD)) (r : ((List aD) × Int)) (h0 : CD f0 g1 = some r) : dK Try.prog 18 [(eL aL f0), (eL aL g1)] (.tup [(eL aL r.1), (eI r.2)]) := by
  intro H0
  refine dP Try.func18 ?_
  have hO := aN.start H0
  unfold CD at h0
  refine aY aF 2 [] [] ?_
  refine aP ?_
  refine aU aF 7 ?_
  refine bQ 2 ?_
  obtain ⟨x1, hx2, h0⟩ := aZ h0
  refine iY (aBh f0 g1 34 [] [] (fun y0 y1 => uO y0 y1) (fun y0 y1 r h => YP y0 y1 r h) _ hx2) hO ?_
  intro H hO
  refine bG ?_
  refine bC [(4, (eL aL x1.1)), (5, (eI x1.2))] ?_
  refine bR ?_
  obtain rfl := oI h0
  exact aK (Q_r hO)

theorem aAg (f0 : (List aD)) (r : Int) (h0 : xF f0 = some r) : dK Try.prog 19 [(eL aL f0)] (eI r) := by
  intro H0
  refine dP Try.func19 ?_
  have hO := aN.start H0
  unfold xF at h0
  refine aY aF 1 [] [] ?_
  refine aP ?_
  refine aP ?_
  refine aU aF 8 ?_
  refine bQ 1 ?_
  obtain ⟨x1, hx2, h0⟩ := aZ h0
  refine iY (uX f0 _ hx2) hO ?_
  intro H hO
  refine bG ?_
  refine cQ [] [(14, (aG ((!x1) || (decide ((lN f0) = (0 : Int))))))] ?_
  refine bW h0 (fun h0 => ?_) (fun h0 => ?_)
  · refine cJ aF 1 [(2, (eI (0 : Int)))] ?_
    refine bR ?_
    obtain rfl := oI h0
    exact aK (aV (Q_r hO))
  refine bT ?_
  refine bC [(0, (eL aL f0))] ?_
  refine aY aF 2 [] [(3, (eI (0 : Int))), (4, (eI (0 : Int)))] ?_
  refine lT (fun T H => ∃ v3 : Int, ∃ lQ : Int, Has T [(0, (eL aL f0)), (3, (eI v3)), (4, (eI lQ))] ∧ aN ⟨H0, [], []⟩ H [] ∧ tH f0 v3 lQ = some r) ?_ ?_
  · clear hO h0
    rintro T H ⟨v3, lQ, hT, hO, h0⟩
    refine bO hT ?_
    clear hT
    unfold tH at h0
    refine lT (fun T H => ∃ lQ : Int, Has T [(4, (eI lQ))] ∧ aN ⟨H0, [], []⟩ H [] ∧ vS lQ = some r) ?_ ?_
    · clear hO h0
      rintro T H ⟨lQ, hT, hO, h0⟩
      refine bO hT ?_
      clear hT
      unfold vS at h0
      refine cJ aF 2 [(2, (eI lQ))] ?_
      refine bR ?_
      obtain rfl := oI h0
      exact aK (Q_r hO)
    refine aY aF 3 [0] [(24, (eL aL f0)), (25, (eI (lN f0))), (26, (eI (0 : Int)))] ?_
    refine cH 0 ?_
    refine mD [(3, (eI v3)), (4, (eI lQ)), (24, (eL aL f0)), (25, (eI (lN f0))), (26, (eI (0 : Int)))] ?_
    refine kZ (fun T H => ∃ v3 : Int, ∃ lQ : Int, ∃ t24 : (List aD), ∃ t25 : Int, ∃ t26 : Int, Has T [(3, (eI v3)), (4, (eI lQ)), (24, (eL aL t24)), (25, (eI t25)), (26, (eI t26))] ∧ aN ⟨H0, [], []⟩ H [] ∧ vU v3 lQ t24 t25 t26 = some r) ?_ ⟨v3, lQ, f0, (lN f0), (0 : Int), bF, hO, h0⟩
    clear hO h0
    rintro T H ⟨v3, lQ, t24, t25, t26, hT, hO, h0⟩
    refine bO hT ?_
    clear hT
    unfold vU at h0
    obtain ⟨rr0, hl0, h0⟩ := aZ h0
    refine mQ (fun (s : Int × Int × Int) T H => Has T [(3, (eI s.1)), (4, (eI s.2.1)), (24, (eL aL t24)), (25, (eI t25)), (26, (eI s.2.2))] ∧ aN ⟨H0, [], []⟩ H []) hl0 ⟨bF, hO⟩ ?_
    clear hO
    rintro k0 s out1 T H ⟨hT, hO⟩ h1 ho0
    obtain ⟨v3, lQ, t26⟩ := s
    replace h1 : qO t24 t25 v3 lQ t26 = some out1 := h1
    try dsimp only at hT
    refine bO hT ?_
    clear hT
    unfold qO at h1
    refine aY aF 1 [] [(27, (aG (decide (t26 < t25))))] ?_
    refine aP ?_
    refine bW h1 (fun h1 => ?_) (fun h1 => ?_)
    · refine bT ?_
      refine bC [(3, (eI v3)), (4, (eI lQ)), (24, (eL aL t24)), (25, (eI t25)), (26, (eI t26))] ?_
      refine aP ?_
      refine cH 1 ?_
      refine aP ?_
      refine aU aF 4 ?_
      obtain ⟨c6, h1⟩ := bB h1
      refine AV 2 [0 ≤ t26 ∧ t26 < (lN t24)] ⟨c6, trivial⟩ ?_
      refine qT 2 (aL (aD.mk 0 0)) (by kernel_rfl) (by kernel_rfl) hO ?_
      intro lo7 H hO
      refine pI 0 lo7 2 0 (aL (aD.mk 0 0)) (aL (gD t24 t26)) [(aL (aD.mk 0 0))] [(lo7, 2, [(aL (gD t24 t26))])] hO rfl (by kernel_rfl) ?_
      intro H hO
      refine eW ?_
      refine cQ [] [(6, (.lp lo7 0 0))] ?_
      refine aP ?_
      refine aU aF 5 ?_
      refine bQ 2 ?_
      refine oH 0 lo7 2 0 (aL (gD t24 t26)) (eI ((gD t24 t26).Net)) [(aL (gD t24 t26))] hO rfl ?_
      refine bG ?_
      replace hO := hO.pick (L' := []) [] (by decide) (by kernel_rfl)
      refine cQ [3, 6] [(3, (eI (wR (v3 + ((gD t24 t26).Net)))))] ?_
      refine aU aF 4 ?_
      refine bG ?_
      refine fG [(3, (eI (wR (v3 + ((gD t24 t26).Net))))), (4, (eI (if (wR (v3 + ((gD t24 t26).Net))) < lQ then (wR (v3 + ((gD t24 t26).Net))) else lQ))), (24, (eL aL t24)), (25, (eI t25)), (26, (eI t26))] ?_
      refine aK (bD (aJ (?_)))
      refine aU aF 2 ?_
      refine bG ?_
      exact aK (aJ (⟨rfl, _, (oI h1).symm, bF, hO⟩))
    refine lM 0 ?_
    obtain rfl := oI h1
    obtain rfl : _ = rr0 := ho0
    replace h0 : vS lQ = some r := h0
    exact aK (aX (aX (cC (aJ (⟨rfl, _, bF, hO, h0⟩)))))
  refine aP ?_
  refine aU aF 5 ?_
  obtain ⟨c8, h0⟩ := bB h0
  refine sW [0 ≤ (0 : Int) ∧ (0 : Int) < (lN f0)] ⟨c8, trivial⟩ ?_
  refine cQ [] [(19, (aG (decide (((gD f0 (0 : Int)).At) = (-1 : Int)))))] ?_
  refine bW h0 (fun h0 => ?_) (fun h0 => ?_)
  · refine aU aF 5 ?_
    obtain ⟨c10, h0⟩ := bB h0
    refine sW [0 ≤ (0 : Int) ∧ (0 : Int) < (lN f0)] ⟨c10, trivial⟩ ?_
    exact aK (aJ (⟨rfl, _, _, bF, hO, h0⟩))
  refine bT ?_
  exact aK (aJ (⟨rfl, _, _, bF, hO, h0⟩))

theorem EG (lo lm : Nat) (b : bU) (l : List aI) (r : Int × bU) (h0 : sG b l = some r) : wV Try.prog 7 [(.lp lo 0 0), (eL aO l)] [fJ lm b] [pM lo lm b] (fun x M L => x = (eI r.1) ∧ M = [fJ lm r.2] ∧ L = [pM lo lm r.2]) := by
  intro F H0 hO
  obtain ⟨Fh, Fe, Fg⟩ := F
  refine UQ aF Try.func7 (by kernel_rfl) (by kernel_rfl) (by kernel_rfl) ?_
  replace hO : aN ⟨Fh, Fe, (lm, lX aB b.cells) :: Fg⟩ _ [(lo, 3, [(.agg [.mp lm, eI b.edges, eI b.mark])])] := hO
  unfold sG at h0
  obtain ⟨m1, hm1, h0⟩ := aZ h0
  refine aP ?_
  refine aU aF 2 ?_
  refine xG 1 (.lp lo 0 0) ?_
  refine qT 1 (eI (0 : Int)) (by kernel_rfl) (by kernel_rfl) hO ?_
  intro lo4 H hO
  refine eW ?_
  refine bC [(1, (eL aO l)), (2, (.rp (.lp lo 0 0))), (4, (.lp lo4 0 0))] ?_
  refine aP ?_
  refine cH 0 ?_
  refine aP ?_
  refine aU aF 3 ?_
  refine bQ 1 ?_
  refine HU false ?_
  refine bG ?_
  refine bC [(1, (eL aO l)), (2, (.rp (.lp lo 0 0))), (4, (.lp lo4 0 0)), (15, (aG false))] ?_
  refine nW (false) (fun hc => by cases hc) (fun hc => ?_)
  refine aP ?_
  refine aU aF 4 ?_
  refine bQ 1 ?_
  refine iY (TJ l _ hm1) hO ?_
  intro H hO
  refine bG ?_
  refine bC [(1, (eL aO l)), (2, (.rp (.lp lo 0 0))), (4, (.lp lo4 0 0)), (18, (aG (!m1)))] ?_
  refine bW h0 (fun h0 => ?_) (fun h0 => ?_)
  · obtain rfl := oI h0
    refine aP ?_
    refine aU aF 1 ?_
    refine pI 1 lo4 1 0 (eI (0 : Int)) (eI (2 : Int)) [(eI (0 : Int))] [(lo, 3, [(.agg [.mp lm, eI b.edges, eI b.mark])]), (lo4, 1, [(eI (2 : Int))])] hO rfl (by kernel_rfl) ?_
    intro H hO
    refine eW ?_
    refine bC [(4, (.lp lo4 0 0))] ?_
    refine bR ?_
    exact aK (bV (aV (QM0 (.inr rfl) (rs := [.cell 4 26]) (xs := [(eI (2 : Int))]) (x := (eI (2 : Int))) (by kernel_rfl) (yD (lo := lo4) (k := 1) (y := (eI (2 : Int))) (x := (eI (2 : Int))) 1 hO (by kernel_rfl) (by kernel_rfl) (by kernel_rfl) (by kernel_rfl) vT) (by kernel_rfl) ⟨[fJ lm b], _, ⟨rfl, rfl, rfl⟩, hO.pick (L' := [(lo, 3, [(.agg [.mp lm, eI b.edges, eI b.mark])])]) [0] (by decide) (by kernel_rfl)⟩)))
  obtain ⟨c1, hc1, h0⟩ := aZ h0
  refine aP ?_
  refine aU aF 4 ?_
  refine bQ 2 ?_
  refine aE8 (fun (st : Unit) G' => G' = up [(lo, 3, [(.agg [.mp lm, eI b.edges, eI b.mark])]), (lo4, 1, [(eI (0 : Int))])] ++ ((lm, lX aB b.cells) :: Fg)) [(lo, 3, [(.agg [.mp lm, eI b.edges, eI b.mark])]), (lo4, 1, [(eI (0 : Int))])] () c1.1 14 [(eL aO l), (.fn (.func 15) [] [(.rp (.lp lo 0 0))])] (aG c1.2) (by kernel_rfl) (by kernel_rfl) (uR _ l _ _ (fun st y0 st2 rr hr => (aAX lo lm b y0 _ (aHp hr)).toV (ys := []) (zs := [aO y0]) (cs := [(.rp (.lp lo 0 0))]) (fun Gx hG => ⟨[], up [(lo4, 1, [(eI (0 : Int))])] ++ ((lm, lX aB b.cells) :: Fg), hG, rfl⟩)) _ _ hc1) hO rfl (fun _ h => h) ?_
  intro H hO
  refine bG ?_
  refine bC [(1, (eL aO l)), (2, (.rp (.lp lo 0 0))), (4, (.lp lo4 0 0)), (22, (aG c1.2))] ?_
  refine bW h0 (fun h0 => ?_) (fun h0 => ?_)
  · obtain rfl := oI h0
    refine aP ?_
    refine aU aF 1 ?_
    refine pI 1 lo4 1 0 (eI (0 : Int)) (eI (16 : Int)) [(eI (0 : Int))] [(lo, 3, [(.agg [.mp lm, eI b.edges, eI b.mark])]), (lo4, 1, [(eI (16 : Int))])] hO rfl (by kernel_rfl) ?_
    intro H hO
    refine eW ?_
    refine bC [(4, (.lp lo4 0 0))] ?_
    refine bR ?_
    exact aK (bV (aV (QM0 (.inr rfl) (rs := [.cell 4 26]) (xs := [(eI (16 : Int))]) (x := (eI (16 : Int))) (by kernel_rfl) (yD (lo := lo4) (k := 1) (y := (eI (16 : Int))) (x := (eI (16 : Int))) 1 hO (by kernel_rfl) (by kernel_rfl) (by kernel_rfl) (by kernel_rfl) vT) (by kernel_rfl) ⟨[fJ lm b], _, ⟨rfl, rfl, rfl⟩, hO.pick (L' := [(lo, 3, [(.agg [.mp lm, eI b.edges, eI b.mark])])]) [0] (by decide) (by kernel_rfl)⟩)))
  refine bT ?_
  refine fG [(1, (eL aO l)), (2, (.rp (.lp lo 0 0))), (4, (.lp lo4 0 0))] ?_
  refine aK (bD (aJ (?_)))
  obtain ⟨x1, hx1, h0⟩ := aZ h0
  refine aP ?_
  refine aHo (iZ [26, 27, 5, 6]) aF 9 (fun f T H => ∃ l5 l6 : Nat, qC T [(1, (eL aO l)), (2, (.rp (.lp lo 0 0))), (4, (.lp lo4 0 0))] ∧ sK f T [(0, 26, (.sl true 0 (fun _ => .bad))), (1, 27, (.lp lo 0 0)), (2, 28, (.lp lo 0 0)), (3, 29, (.lp lo 0 1)), (4, 30, (eI b.edges)), (5, 5, (.lp l5 0 0)), (6, 6, (.lp l6 0 0))] ∧ aN ⟨Fh, Fe, (lm, lX aB b.cells) :: Fg⟩ H ([(lo, 3, [(.agg [.mp lm, eI b.edges, eI b.mark])]), (lo4, 1, [(eI (0 : Int))])] ++ ((cond (f 5) [(l5, 1, [(.sl true 0 (fun _ => .bad))])] []) ++ (cond (f 6) [(l6, 1, [(eI (cond (f 8) b.edges (0 : Int)))])] [])))) ?_ ?_ ?_
  · intro f hf
    refine ⟨0, 0, qC.aHi _ (show [1, 2, 4].Nodup by decide), sK.start hf _, ?_⟩
    rw [hf, hf]; exact hO
  · clear hO
    intro i f T H hi hfi hcl hdp hinv
    obtain ⟨l5, l6, hB, ⟨a0, a1, a2, a3, a4, a5, a6, _⟩, hO⟩ := hinv
    have hF : sK f T [(0, 26, (.sl true 0 (fun _ => .bad))), (1, 27, (.lp lo 0 0)), (2, 28, (.lp lo 0 0)), (3, 29, (.lp lo 0 1)), (4, 30, (eI b.edges)), (5, 5, (.lp l5 0 0)), (6, 6, (.lp l6 0 0))] := ⟨a0, a1, a2, a3, a4, a5, a6, trivial⟩
    have hi' : i = 0 ∨ i = 1 ∨ i = 2 ∨ i = 3 ∨ i = 4 ∨ i = 5 ∨ i = 6 ∨ i = 7 ∨ i = 8 := by omega
    rcases hi' with rfl | rfl | rfl | rfl | rfl | rfl | rfl | rfl | rfl
    · refine XP (xs := []) (k := 2) (by kernel_rfl) (by kernel_rfl) ?_
      refine oX (by kernel_rfl) ?_
      exact ⟨l5, l6, hB.BB 26 _, hF.BB 26 (by repeat (first | exact trivial | refine ⟨.inr ⟨rfl, rfl⟩, ?_⟩ | refine ⟨.inl ⟨rfl, rfl⟩, ?_⟩)), hO⟩
    · exact aCp [(1, (eL aO l)), (2, (.rp (.lp lo 0 0))), (4, (.lp lo4 0 0))] 27 (.lp lo 0 0) hB ⟨l5, l6, hB.BB 27 _ rfl, hF.BB 27 (by repeat (first | exact trivial | refine ⟨.inr ⟨rfl, rfl⟩, ?_⟩ | refine ⟨.inl ⟨rfl, rfl⟩, ?_⟩)) rfl, hO⟩
    · exact aCp [(27, (.lp lo 0 0))] 28 (.lp lo 0 0) ⟨a1 (hdp 1 (yO (by kernel_rfl))), trivial⟩ ⟨l5, l6, hB.BB 28 _ rfl, hF.BB 28 (by repeat (first | exact trivial | refine ⟨.inr ⟨rfl, rfl⟩, ?_⟩ | refine ⟨.inl ⟨rfl, rfl⟩, ?_⟩)) rfl, hO⟩
    · exact aCp [(28, (.lp lo 0 0))] 29 (.lp lo 0 1) ⟨a2 (hdp 2 (yO (by kernel_rfl))), trivial⟩ ⟨l5, l6, hB.BB 29 _ rfl, hF.BB 29 (by repeat (first | exact trivial | refine ⟨.inr ⟨rfl, rfl⟩, ?_⟩ | refine ⟨.inl ⟨rfl, rfl⟩, ?_⟩)) rfl, hO⟩
    · have hx : qC T [(29, (.lp lo 0 1))] := ⟨a3 (hdp 3 (yO (by kernel_rfl))), trivial⟩
      refine aCB [(29, (.lp lo 0 1))] hx ?_
      refine jP 0 lo 3 0 (.agg [.mp lm, eI b.edges, eI b.mark]) (eI b.edges) [(.agg [.mp lm, eI b.edges, eI b.mark])] hO rfl ?_
      refine oX (by kernel_rfl) ?_
      rw [LO hx]
      exact ⟨l5, l6, hB.BB 30 _, hF.BB 30 (by repeat (first | exact trivial | refine ⟨.inr ⟨rfl, rfl⟩, ?_⟩ | refine ⟨.inl ⟨rfl, rfl⟩, ?_⟩)), hO⟩
    · refine aAb 1 (.sl true 0 (fun _ => .bad)) hO ?_
      clear hO
      intro lo5 H hO
      refine oX (by kernel_rfl) ?_
      refine ⟨lo5, l6, hB.BB 5 _, sK.BB (l := [(0, 26, (.sl true 0 (fun _ => .bad))), (1, 27, (.lp lo 0 0)), (2, 28, (.lp lo 0 0)), (3, 29, (.lp lo 0 1)), (4, 30, (eI b.edges)), (5, 5, (.lp lo5 0 0)), (6, 6, (.lp l6 0 0))]) 5 ⟨a0, a1, a2, a3, a4, fun h => absurd (hfi.symm.trans h) (by decide), a6, trivial⟩ (by repeat (first | exact trivial | refine ⟨.inr ⟨rfl, rfl⟩, ?_⟩ | refine ⟨.inl ⟨rfl, rfl⟩, ?_⟩)), ?_⟩
      show aN _ _ (_ ++ (_ ++ cond (f 6) [(l6, 1, [(eI (cond (f 8) b.edges (0 : Int)))])] []))
      rw [hfi] at hO
      cases h6 : f 6 with
      | true => rw [h6] at hO; exact hO.pick [0, 1, 3, 2] (by decide) (by kernel_rfl)
      | false => rw [h6] at hO; exact hO.pick [0, 1, 2] (by decide) (by kernel_rfl)
    · have h8 : f 8 = false := by
        cases h8 : f 8 with
        | false => rfl
        | true => rw [hcl 8 h8 6 (yO (by kernel_rfl))] at hfi; cases hfi
      refine aAb 1 (eI (0 : Int)) hO ?_
      clear hO
      intro lo6 H hO
      refine oX (by kernel_rfl) ?_
      refine ⟨l5, lo6, hB.BB 6 _, sK.BB (l := [(0, 26, (.sl true 0 (fun _ => .bad))), (1, 27, (.lp lo 0 0)), (2, 28, (.lp lo 0 0)), (3, 29, (.lp lo 0 1)), (4, 30, (eI b.edges)), (5, 5, (.lp l5 0 0)), (6, 6, (.lp lo6 0 0))]) 6 ⟨a0, a1, a2, a3, a4, a5, fun h => absurd (hfi.symm.trans h) (by decide), trivial⟩ (by repeat (first | exact trivial | refine ⟨.inr ⟨rfl, rfl⟩, ?_⟩ | refine ⟨.inl ⟨rfl, rfl⟩, ?_⟩)), ?_⟩
      show aN _ _ (_ ++ (cond (f 5) [(l5, 1, [(.sl true 0 (fun _ => .bad))])] [] ++ [(lo6, 1, [(eI (cond (f 8) b.edges (0 : Int)))])]))
      rw [hfi] at hO
      rw [h8]
      cases h5 : f 5 with
      | true => rw [h5] at hO; exact hO.pick [0, 1, 2, 3] (by decide) (by kernel_rfl)
      | false => rw [h5] at hO; exact hO.pick [0, 1, 2] (by decide) (by kernel_rfl)
    · have h5 : f 5 = true := hdp 5 (yO (by kernel_rfl))
      have hx : qC T [(26, (.sl true 0 (fun _ => .bad))), (5, (.lp l5 0 0))] := ⟨a0 (hdp 0 (yO (by kernel_rfl))), a5 h5, trivial⟩
      refine aCB [(26, (.sl true 0 (fun _ => .bad))), (5, (.lp l5 0 0))] hx ?_
      rw [h5] at hO
      refine nL 2 l5 1 0 (.sl true 0 (fun _ => .bad)) (.sl true 0 (fun _ => .bad)) [(.sl true 0 (fun _ => .bad))] ([(lo, 3, [(.agg [.mp lm, eI b.edges, eI b.mark])]), (lo4, 1, [(eI (0 : Int))])] ++ ([(l5, 1, [(.sl true 0 (fun _ => .bad))])] ++ (cond (f 6) [(l6, 1, [(eI (cond (f 8) b.edges (0 : Int)))])] []))) hO rfl (by kernel_rfl) ?_
      clear hO
      intro H hO
      refine oX (by kernel_rfl) ?_
      rw [LO hx]
      refine ⟨l5, l6, hB, hF.stay (by kernel_rfl), ?_⟩
      show aN _ _ (_ ++ (cond (f 5) [(l5, 1, [(.sl true 0 (fun _ => .bad))])] [] ++ _))
      rw [h5]; exact hO
    · have h6 : f 6 = true := hdp 6 (yO (by kernel_rfl))
      have h5 : f 5 = true := hdp 5 (yO (by kernel_rfl))
      have hx : qC T [(30, (eI b.edges)), (6, (.lp l6 0 0))] := ⟨a4 (hdp 4 (yO (by kernel_rfl))), a6 h6, trivial⟩
      refine aCB [(30, (eI b.edges)), (6, (.lp l6 0 0))] hx ?_
      rw [h5, h6, hfi] at hO
      refine nL 3 l6 1 0 (eI (0 : Int)) (eI b.edges) [(eI (0 : Int))] [(lo, 3, [(.agg [.mp lm, eI b.edges, eI b.mark])]), (lo4, 1, [(eI (0 : Int))]), (l5, 1, [(.sl true 0 (fun _ => .bad))]), (l6, 1, [(eI b.edges)])] hO rfl (by kernel_rfl) ?_
      clear hO
      intro H hO
      refine oX (by kernel_rfl) ?_
      rw [LO hx]
      refine ⟨l5, l6, hB, hF.stay (by kernel_rfl), ?_⟩
      show aN _ _ (_ ++ (cond (f 5) [(l5, 1, [(.sl true 0 (fun _ => .bad))])] [] ++ cond (f 6) _ []))
      rw [h5, h6]; exact hO
  clear hO
  intro f T H hall hinv
  obtain ⟨lo5, lo6, hB, hF, hO⟩ := hinv
  rw [hall 5 (by omega), hall 6 (by omega), hall 8 (by omega)] at hO
  replace hO : aN ⟨Fh, Fe, (lm, lX aB b.cells) :: Fg⟩ H [(lo, 3, [(.agg [.mp lm, eI b.edges, eI b.mark])]), (lo4, 1, [(eI (0 : Int))]), (lo5, 1, [(.sl true 0 (fun _ => .bad))]), (lo6, 1, [(eI b.edges)])] := hO
  have hP := hB.append (hF.done hall (by kernel_rfl))
  refine aGQ 2 1 lo5 2 (fun _ => .bad) (fun lo9 => [(lo, 3, [(.agg [.mp lm, eI b.edges, eI b.mark])]), (lo4, 1, [(eI (0 : Int))]), (lo5, 1, [(.msl 2 lo9 0 0)]), (lo6, 1, [(eI b.edges)]), (lo9, 2, [])]) hO (by kernel_rfl) (fun _ => by kernel_rfl) ?_
  intro loT H hO
  refine aGO [(1, (eL aO l)), (2, (.rp (.lp lo 0 0))), (4, (.lp lo4 0 0)), (5, (.lp lo5 0 0)), (6, (.lp lo6 0 0))] _ hP ?_
  refine aP ?_
  refine aU aF 2 ?_
  refine qT 1 (aG false) (by kernel_rfl) (by kernel_rfl) hO ?_
  intro lo7 H hO
  refine pI 5 lo7 1 0 (aG false) (aG false) [(aG false)] [(lo, 3, [(.agg [.mp lm, eI b.edges, eI b.mark])]), (lo4, 1, [(eI (0 : Int))]), (lo5, 1, [(.msl 2 loT 0 0)]), (lo6, 1, [(eI b.edges)]), (loT, 2, []), (lo7, 1, [(aG false)])] hO rfl (by kernel_rfl) ?_
  intro H hO
  refine eW ?_
  replace hO := hO.pick (L' := [(lo, 3, [(.agg [.mp lm, eI b.edges, eI b.mark])]), (lo4, 1, [(eI (0 : Int))]), (lo5, 1, [(.msl 2 loT 0 (List.length ([] : List aC)))]), (loT, 2, List.map aB ([] : List aC)), (lo6, 1, [(eI b.edges)]), (lo7, 1, [(aG false)])]) [0, 1, 2, 4, 3, 5] (by decide) (by kernel_rfl)
  refine bC [(1, (eL aO l)), (2, (.rp (.lp lo 0 0))), (4, (.lp lo4 0 0)), (5, (.lp lo5 0 0)), (6, (.lp lo6 0 0)), (7, (.lp lo7 0 0))] ?_
  refine aP ?_
  refine aP ?_
  refine aU aF 2 ?_
  refine bQ 1 ?_
  refine iY (XG l _ hx1) hO ?_
  intro H hO
  refine eW ?_
  refine bC [(2, (.rp (.lp lo 0 0))), (4, (.lp lo4 0 0)), (5, (.lp lo5 0 0)), (6, (.lp lo6 0 0)), (7, (.lp lo7 0 0)), (32, (.fn (.func 30) [] [(.rp (eL aO x1))]))] ?_
  refine cH 1 ?_
  unfold NQ at h0
  obtain ⟨o0, hl0, h0⟩ := aZ h0
  refine RX (fid := 30) (ys := []) (cs := [(.rp (eL aO x1))]) #[33, 34] (fun (A : JN) (b9 lL : Nat) (st : (Int × List aC × Int × Bool) ⊕ (Int × List aC × Int × Bool)) (G' : Gs) => Sum.elim (fun (s : Int × List aC × Int × Bool) => ∃ loT : Nat, G' = (lL, .raw (pP b9 A .ready none)) :: (up [(lo, 3, [(.agg [.mp lm, eI b.edges, eI b.mark])]), (lo4, 1, [(eI s.1)]), (lo5, 1, [(.msl 2 loT 0 (List.length s.2.1))]), (loT, 2, List.map aB s.2.1), (lo6, 1, [(eI s.2.2.1)]), (lo7, 1, [(aG s.2.2.2)])] ++ ([fJ lm b] ++ Fg))) (fun (s : Int × List aC × Int × Bool) => ∃ loT : Nat, G' = (lL, .raw (pP b9 A .done (some .ret))) :: (up [(lo, 3, [(.agg [.mp lm, eI b.edges, eI b.mark])]), (lo4, 1, [(eI s.1)]), (lo5, 1, [(.msl 2 loT 0 (List.length s.2.1))]), (loT, 2, List.map aB s.2.1), (lo6, 1, [(eI s.2.2.1)]), (lo7, 1, [(aG s.2.2.2)])] ++ ([fJ lm b] ++ Fg))) st) (.inl ((0 : Int), [], b.edges, false)) o0 (.tup []) (by kernel_rfl) (by kernel_rfl) (by kernel_rfl) hO (fun _ _ => ⟨loT, rfl⟩) ?_ ?_
  · intro b9 lL
    clear hO h0
    refine QA _ b9 (fun st r f => rnd (fun (q : Int × List aC × Int × Bool) => xU b q.1 q.2.1 q.2.2.1 q.2.2.2 r f) st) ?_ x1 _ _ hl0
    intro st t33 t34 out1 rr hr
    obtain ⟨s, rfl, h1, rfl⟩ := aEr hr
    clear hr
    intro Hr Gr hi hg
    obtain ⟨e4, turned, n4, w4⟩ := s
    dsimp only [Sum.elim_inl] at hi
    obtain ⟨loT, rfl⟩ := hi
    replace h1 : xU b e4 turned n4 w4 t33 t34 = some out1 := h1
    unfold xU at h1
    obtain ⟨k, hk, h1⟩ := aZ h1
    obtain ⟨x, hx, h1⟩ := aZ h1
    obtain ⟨E1, hE, hO⟩ := KW hg
    refine KP (RL (hO.gm 0 _ rfl).2 (by kernel_rfl) (by kernel_rfl) ?_)
    refine mD [(2, (.rp (.lp lo 0 0))), (4, (.lp lo4 0 0)), (5, (.lp lo5 0 0)), (6, (.lp lo6 0 0)), (7, (.lp lo7 0 0)), (33, (eL aM t33)), (34, (eL aL t34))] ?_
    refine cJ aF 1 [(2, (.rp (.lp lo 0 0))), (4, (.lp lo4 0 0)), (5, (.lp lo5 0 0)), (6, (.lp lo6 0 0)), (7, (.lp lo7 0 0)), (8, (eL aM t33)), (34, (eL aL t34))] ?_
    refine aU aF 1 ?_
    refine bG ?_
    refine fG [(2, (.rp (.lp lo 0 0))), (4, (.lp lo4 0 0)), (5, (.lp lo5 0 0)), (6, (.lp lo6 0 0)), (7, (.lp lo7 0 0)), (8, (eL aM t33)), (9, (eL aL t34))] ?_
    refine aK (⟨rfl, rfl, (hO.gm 0 _ rfl).2, ?_⟩)
    intro o1 ho1
    replace hO := hO.uY o1
    replace hO : aN ⟨Hr, E1, (lm, lX aB b.cells) :: (lL, o1) :: Fg⟩ _ [(lo, 3, [(.agg [.mp lm, eI b.edges, eI b.mark])]), (lo4, 1, [(eI e4)]), (lo5, 1, [(.msl 2 loT 0 (List.length turned))]), (loT, 2, List.map aB turned), (lo6, 1, [(eI n4)]), (lo7, 1, [(aG w4)])] := hO.CF (List.Perm.swap _ _ _)
    refine cH 2 ?_
    refine aP ?_
    refine jS (iZ [35, 40, 41]) aF 9 ?_
    refine tO (K := fun T H => Has (lift T) [(2, (.rp (.lp lo 0 0))), (4, (.lp lo4 0 0)), (5, (.lp lo5 0 0)), (6, (.lp lo6 0 0)), (7, (.lp lo7 0 0)), (8, (eL aM t33)), (9, (eL aL t34)), (10, (eL aL (lH b.cells k)))] ∧ aN ⟨Hr, E1, (lm, lX aB b.cells) :: (lL, o1) :: Fg⟩ H [(lo, 3, [(.agg [.mp lm, eI b.edges, eI b.mark])]), (lo4, 1, [(eI e4)]), (lo5, 1, [(.msl 2 loT 0 (List.length turned))]), (loT, 2, List.map aB turned), (lo6, 1, [(eI n4)]), (lo7, 1, [(aG w4)])]) ?_ ?_
    · refine qD 3 ?_
      refine jP 0 lo 3 0 (.agg [.mp lm, eI b.edges, eI b.mark]) (.mp lm) [(.agg [.mp lm, eI b.edges, eI b.mark])] hO rfl ?_
      refine qD 5 ?_
      refine NK (VY t33 _ hk) hO ?_
      intro H hO
      refine WC (f := aB) (mty := 40) aF k (.agg [(.sl true 0 (fun _ => .bad)), (.sl true 0 (fun _ => .bad))]) hO (fun hg => ?_) (fun v hg => ?_)
      · refine nX ?_
        exact ⟨⟨[(2, (.rp (.lp lo 0 0))), (4, (.lp lo4 0 0)), (5, (.lp lo5 0 0)), (6, (.lp lo6 0 0)), (7, (.lp lo7 0 0)), (8, (eL aM t33)), (9, (eL aL t34)), (10, (.sl true 0 (fun _ => .bad)))], by kernel_rfl, rfl, ⟨aQ.refl _, aQ.refl _, aQ.refl _, aQ.refl _, aQ.refl _, aQ.refl _, aQ.refl _, by rw [show lH b.cells k = [] by unfold lH; rw [hg]; rfl]; exact lU, trivial⟩⟩, hO⟩
      · refine nX ?_
        rw [show lH b.cells k = v.jumps by unfold lH; rw [hg]; rfl]
        exact ⟨bF, hO⟩
    rintro T H ⟨hT, hO⟩
    refine dX hT ?_
    clear hT
    refine aK (aJ ?_)
    refine aP ?_
    refine aU aF 8 ?_
    refine bQ 2 ?_
    refine iY (aCn (lH b.cells k) t34 _ hx) hO ?_
    intro H hO
    refine bG ?_
    refine bC [(2, (.rp (.lp lo 0 0))), (4, (.lp lo4 0 0)), (5, (.lp lo5 0 0)), (6, (.lp lo6 0 0)), (7, (.lp lo7 0 0)), (8, (eL aM t33)), (9, (eL aL t34)), (10, (eL aL (lH b.cells k))), (11, (eL aL x.1)), (12, (eI x.2))] ?_
    refine aP ?_
    refine cJ aF 2 [(2, (.rp (.lp lo 0 0))), (4, (.lp lo4 0 0)), (5, (.lp lo5 0 0)), (6, (.lp lo6 0 0)), (7, (.lp lo7 0 0)), (8, (eL aM t33)), (9, (eL aL t34)), (10, (eL aL (lH b.cells k))), (11, (eL aL x.1)), (12, (eI x.2)), (50, (aG (!(decide (x.2 = (0 : Int))))))] ?_
    refine bW h1 (fun h1 => ?_) (fun h1 => ?_)
    · obtain rfl := oI h1
      refine aP ?_
      refine aU aF 2 ?_
      refine bQ 1 ?_
      refine pI 1 lo4 1 0 (eI e4) (eI x.2) [(eI e4)] [(lo, 3, [(.agg [.mp lm, eI b.edges, eI b.mark])]), (lo4, 1, [(eI x.2)]), (lo5, 1, [(.msl 2 loT 0 (List.length turned))]), (loT, 2, List.map aB turned), (lo6, 1, [(eI n4)]), (lo7, 1, [(aG w4)])] hO rfl (by kernel_rfl) ?_
      intro H hO
      refine eW ?_
      refine bC [(2, (.rp (.lp lo 0 0))), (4, (.lp lo4 0 0)), (5, (.lp lo5 0 0)), (6, (.lp lo6 0 0)), (7, (.lp lo7 0 0))] ?_
      refine bR ?_
      replace hO := hO.CF (List.Perm.swap _ _ _)
      exact aK (aV (bV (⟨(qN hO hE ho1 .dead).1, rfl, _, ⟨loT, rfl⟩, (qN hO hE ho1 _).2⟩)))
    refine bT ?_
    obtain ⟨y, hy, h1⟩ := aZ h1
    obtain ⟨c7, h1⟩ := bB h1
    obtain rfl := oI h1
    refine bC [(2, (.rp (.lp lo 0 0))), (4, (.lp lo4 0 0)), (5, (.lp lo5 0 0)), (6, (.lp lo6 0 0)), (7, (.lp lo7 0 0)), (8, (eL aM t33)), (9, (eL aL t34)), (10, (eL aL (lH b.cells k))), (11, (eL aL x.1)), (12, (eI x.2))] ?_
    refine aP ?_
    refine aU aF 7 ?_
    refine oH 5 lo7 1 0 (aG w4) (aG w4) [(aG w4)] hO rfl ?_
    refine bQ 3 ?_
    refine tC [(53, false)] 19 [(eL aL x.1)] (eI y) (!w4) (by kernel_rfl) (by kernel_rfl) (by kernel_rfl) (fun hb => (aAg x.1 _ (pE hy hb))) hO ?_
    intro H hO
    refine bQ 6 ?_
    refine pI 5 lo7 1 0 (aG w4) (aG (w4 || (decide (y < (0 : Int))))) [(aG w4)] [(lo, 3, [(.agg [.mp lm, eI b.edges, eI b.mark])]), (lo4, 1, [(eI e4)]), (lo5, 1, [(.msl 2 loT 0 (List.length turned))]), (loT, 2, List.map aB turned), (lo6, 1, [(eI n4)]), (lo7, 1, [(aG (w4 || (decide (y < (0 : Int)))))])] hO rfl (by kernel_rfl) ?_
    intro H hO
    refine eW ?_
    refine bC [(2, (.rp (.lp lo 0 0))), (4, (.lp lo4 0 0)), (5, (.lp lo5 0 0)), (6, (.lp lo6 0 0)), (7, (.lp lo7 0 0)), (8, (eL aM t33)), (9, (eL aL t34)), (10, (eL aL (lH b.cells k))), (11, (eL aL x.1)), (12, (eI x.2))] ?_
    refine aP ?_
    refine aU aF 8 ?_
    refine oH 4 lo6 1 0 (eI n4) (eI n4) [(eI n4)] hO rfl ?_
    refine bQ 7 ?_
    refine pI 4 lo6 1 0 (eI n4) (eI (wR (n4 + wR ((lN x.1) - (lN (lH b.cells k)))))) [(eI n4)] [(lo, 3, [(.agg [.mp lm, eI b.edges, eI b.mark])]), (lo4, 1, [(eI e4)]), (lo5, 1, [(.msl 2 loT 0 (List.length turned))]), (loT, 2, List.map aB turned), (lo6, 1, [(eI (wR (n4 + wR ((lN x.1) - (lN (lH b.cells k))))))]), (lo7, 1, [(aG (w4 || (decide (y < (0 : Int)))))])] hO rfl (by kernel_rfl) ?_
    intro H hO
    refine eW ?_
    refine bC [(2, (.rp (.lp lo 0 0))), (4, (.lp lo4 0 0)), (5, (.lp lo5 0 0)), (6, (.lp lo6 0 0)), (7, (.lp lo7 0 0)), (8, (eL aM t33)), (9, (eL aL t34)), (10, (eL aL (lH b.cells k))), (11, (eL aL x.1)), (12, (eI x.2))] ?_
    refine aU aF 7 ?_
    refine oH 2 lo5 1 0 (.msl 2 loT 0 (List.length turned)) (.msl 2 loT 0 (List.length turned)) [(.msl 2 loT 0 (List.length turned))] hO rfl ?_
    refine bQ 4 ?_
    refine wN [(aB (aC.mk t33 x.1))] 2 ?_
    refine FH aB turned ([(aC.mk t33 x.1)]) 3 loT 2 48 (dR [(aB (aC.mk t33 x.1))]) (fun lo9 => [(lo, 3, [(.agg [.mp lm, eI b.edges, eI b.mark])]), (lo4, 1, [(eI e4)]), (lo5, 1, [(.msl 2 loT 0 (List.length turned))]), (lo9, 2, List.map aB (turned ++ ([(aC.mk t33 x.1)]))), (lo6, 1, [(eI (wR (n4 + wR ((lN x.1) - (lN (lH b.cells k))))))]), (lo7, 1, [(aG (w4 || (decide (y < (0 : Int)))))])]) hO (by kernel_rfl) c7 ?_
    intro lo9 H hO
    refine pI 2 lo5 1 0 (.msl 2 loT 0 (List.length turned)) (.msl 2 lo9 0 (List.length (turned ++ ([(aC.mk t33 x.1)])))) [(.msl 2 loT 0 (List.length turned))] [(lo, 3, [(.agg [.mp lm, eI b.edges, eI b.mark])]), (lo4, 1, [(eI e4)]), (lo5, 1, [(.msl 2 lo9 0 (List.length (turned ++ ([(aC.mk t33 x.1)]))))]), (lo9, 2, List.map aB (turned ++ ([(aC.mk t33 x.1)]))), (lo6, 1, [(eI (wR (n4 + wR ((lN x.1) - (lN (lH b.cells k))))))]), (lo7, 1, [(aG (w4 || (decide (y < (0 : Int)))))])] hO rfl (by kernel_rfl) ?_
    intro H hO
    refine eW ?_
    refine fG [(2, (.rp (.lp lo 0 0))), (4, (.lp lo4 0 0)), (5, (.lp lo5 0 0)), (6, (.lp lo6 0 0)), (7, (.lp lo7 0 0))] ?_
    replace hO := hO.CF (List.Perm.swap _ _ _)
    exact aK (bD (⟨(qN hO hE ho1 .dead).1, rfl, _, ⟨lo9, rfl⟩, (qN hO hE ho1 _).2⟩))
  · intro b9 lD lL H' G' hi hO
    rcases o0 with s | s
    · obtain ⟨e4, turned, n4, w4⟩ := s
      dsimp only [Sum.elim_inl] at hi
      obtain ⟨loT, rfl⟩ := hi
      replace h0 : IT b turned n4 w4 = some r := h0
      unfold IT at h0
      obtain ⟨hlL, hO⟩ := yF hO
      refine ⟨_, _, hlL, (by intro e; cases e), ?_⟩
      refine fG [(2, (.rp (.lp lo 0 0))), (4, (.lp lo4 0 0)), (5, (.lp lo5 0 0)), (6, (.lp lo6 0 0)), (7, (.lp lo7 0 0))] ?_
      refine aK (bD (aJ (?_)))
      refine aP ?_
      refine cH 3 ?_
      refine aP ?_
      refine aU aF 3 ?_
      refine oH 4 lo6 1 0 (eI n4) (eI n4) [(eI n4)] hO rfl ?_
      refine bG ?_
      refine bC [(2, (.rp (.lp lo 0 0))), (4, (.lp lo4 0 0)), (5, (.lp lo5 0 0)), (6, (.lp lo6 0 0)), (7, (.lp lo7 0 0)), (71, (aG (decide ((4096 : Int) < n4))))] ?_
      refine bW h0 (fun h0 => ?_) (fun h0 => ?_)
      · obtain rfl := oI h0
        refine aP ?_
        refine aU aF 1 ?_
        refine pI 1 lo4 1 0 (eI e4) (eI (7 : Int)) [(eI e4)] [(lo, 3, [(.agg [.mp lm, eI b.edges, eI b.mark])]), (lo4, 1, [(eI (7 : Int))]), (lo5, 1, [(.msl 2 loT 0 (List.length turned))]), (loT, 2, List.map aB turned), (lo6, 1, [(eI n4)]), (lo7, 1, [(aG w4)])] hO rfl (by kernel_rfl) ?_
        intro H hO
        refine eW ?_
        refine bC [(4, (.lp lo4 0 0))] ?_
        refine bR ?_
        have hD := (hO.gm 0 _ rfl).2
        replace hO := (hO.uY .dead).rX
        exact aK (bV (aV (QM1 (.inr rfl) hD (rs := [.cell 4 26]) (xs := [(eI (7 : Int))]) (x := (eI (7 : Int))) (by kernel_rfl) (yD (lo := lo4) (k := 1) (y := (eI (7 : Int))) (x := (eI (7 : Int))) 1 hO (by kernel_rfl) (by kernel_rfl) (by kernel_rfl) (by kernel_rfl) vT) (by kernel_rfl) ⟨[fJ lm b], _, ⟨rfl, rfl, rfl⟩, hO.pick (L' := [(lo, 3, [(.agg [.mp lm, eI b.edges, eI b.mark])])]) [0] (by decide) (by kernel_rfl)⟩)))
      refine aP ?_
      refine aU aF 2 ?_
      refine oH 5 lo7 1 0 (aG w4) (aG w4) [(aG w4)] hO rfl ?_
      refine bG ?_
      refine bC [(2, (.rp (.lp lo 0 0))), (4, (.lp lo4 0 0)), (5, (.lp lo5 0 0)), (6, (.lp lo6 0 0)), (7, (.lp lo7 0 0)), (74, (aG w4))] ?_
      refine bW h0 (fun h0 => ?_) (fun h0 => ?_)
      · obtain rfl := oI h0
        refine aP ?_
        refine aU aF 1 ?_
        refine pI 1 lo4 1 0 (eI e4) (eI (20 : Int)) [(eI e4)] [(lo, 3, [(.agg [.mp lm, eI b.edges, eI b.mark])]), (lo4, 1, [(eI (20 : Int))]), (lo5, 1, [(.msl 2 loT 0 (List.length turned))]), (loT, 2, List.map aB turned), (lo6, 1, [(eI n4)]), (lo7, 1, [(aG w4)])] hO rfl (by kernel_rfl) ?_
        intro H hO
        refine eW ?_
        refine bC [(4, (.lp lo4 0 0))] ?_
        refine bR ?_
        have hD := (hO.gm 0 _ rfl).2
        replace hO := (hO.uY .dead).rX
        exact aK (bV (aV (QM1 (.inr rfl) hD (rs := [.cell 4 26]) (xs := [(eI (20 : Int))]) (x := (eI (20 : Int))) (by kernel_rfl) (yD (lo := lo4) (k := 1) (y := (eI (20 : Int))) (x := (eI (20 : Int))) 1 hO (by kernel_rfl) (by kernel_rfl) (by kernel_rfl) (by kernel_rfl) vT) (by kernel_rfl) ⟨[fJ lm b], _, ⟨rfl, rfl, rfl⟩, hO.pick (L' := [(lo, 3, [(.agg [.mp lm, eI b.edges, eI b.mark])])]) [0] (by decide) (by kernel_rfl)⟩)))
      refine bT ?_
      refine fG [(2, (.rp (.lp lo 0 0))), (4, (.lp lo4 0 0)), (5, (.lp lo5 0 0)), (6, (.lp lo6 0 0)), (7, (.lp lo7 0 0))] ?_
      refine aK (bD (aJ (?_)))
      replace hO : aN ⟨Fh, Fe, (lm, lX aB b.cells) :: (lD, .raw FG) :: Fg⟩ _ [(lo, 3, [(.agg [.mp lm, eI b.edges, eI b.mark])]), (lo4, 1, [(eI e4)]), (lo5, 1, [(.msl 2 loT 0 (List.length turned))]), (loT, 2, List.map aB turned), (lo6, 1, [(eI n4)]), (lo7, 1, [(aG w4)])] := hO.CF (List.Perm.swap _ _ _)
      obtain ⟨b8, hb8, h0⟩ := aZ h0
      refine aP ?_
      refine aP ?_
      refine aU aF 3 ?_
      refine oH 2 lo5 1 0 (.msl 2 loT 0 (List.length turned)) (.msl 2 loT 0 (List.length turned)) [(.msl 2 loT 0 (List.length turned))] hO rfl ?_
      refine bG ?_
      refine bC [(2, (.rp (.lp lo 0 0))), (4, (.lp lo4 0 0)), (5, (.lp lo5 0 0)), (6, (.lp lo6 0 0)), (7, (.lp lo7 0 0)), (76, (.msl 2 loT 0 (List.length turned))), (77, (eI (lN turned))), (78, (eI (0 : Int)))] ?_
      refine cH 4 ?_
      refine mQ (fun (q : bU × Int) T H => Has T [(2, (.rp (.lp lo 0 0))), (4, (.lp lo4 0 0)), (5, (.lp lo5 0 0)), (6, (.lp lo6 0 0)), (7, (.lp lo7 0 0)), (76, (.msl 2 loT 0 (List.length turned))), (77, (eI (lN turned))), (78, (eI q.2))] ∧ aN ⟨Fh, Fe, (lm, lX aB q.1.cells) :: (lD, .raw FG) :: Fg⟩ H [(lo, 3, [(.agg [.mp lm, eI q.1.edges, eI q.1.mark])]), (lo4, 1, [(eI e4)]), (lo5, 1, [(.msl 2 loT 0 (List.length turned))]), (loT, 2, List.map aB turned), (lo6, 1, [(eI n4)]), (lo7, 1, [(aG w4)])]) hb8 ⟨bF, hO⟩ ?_
      clear hO
      rintro k0 q out2 T H ⟨hT, hO⟩ h2 ho2
      obtain ⟨b1, i3⟩ := q
      replace h2 : nA turned (lN turned) b1 i3 = some out2 := h2
      refine bO (l := [(2, (.rp (.lp lo 0 0))), (4, (.lp lo4 0 0)), (5, (.lp lo5 0 0)), (6, (.lp lo6 0 0)), (7, (.lp lo7 0 0)), (76, (.msl 2 loT 0 (List.length turned))), (77, (eI (lN turned))), (78, (eI i3))]) hT ?_
      clear hT
      unfold nA at h2
      refine cJ aF 1 [(2, (.rp (.lp lo 0 0))), (4, (.lp lo4 0 0)), (5, (.lp lo5 0 0)), (6, (.lp lo6 0 0)), (7, (.lp lo7 0 0)), (76, (.msl 2 loT 0 (List.length turned))), (77, (eI (lN turned))), (78, (eI i3)), (79, (aG (decide (i3 < (lN turned)))))] ?_
      refine aP ?_
      refine bW h2 (fun h2 => ?_) (fun h2 => ?_)
      · refine bT ?_
        refine bC [(2, (.rp (.lp lo 0 0))), (4, (.lp lo4 0 0)), (5, (.lp lo5 0 0)), (6, (.lp lo6 0 0)), (7, (.lp lo7 0 0)), (76, (.msl 2 loT 0 (List.length turned))), (77, (eI (lN turned))), (78, (eI i3))] ?_
        refine aP ?_
        obtain ⟨c5, h2⟩ := bB h2
        obtain ⟨x, hx, h2⟩ := aZ h2
        obtain rfl := oI h2
        refine cH 5 ?_
        refine aP ?_
        refine aU aF 4 ?_
        refine AV 1 [0 ≤ i3 ∧ i3 < (lN turned)] ⟨c5, trivial⟩ ?_
        refine oH 3 loT 2 (0 + Int.toNat i3) (aB (gD turned i3)) (aB (gD turned i3)) (List.map aB turned) hO (cB c5) ?_
        refine xK 2 (.agg [(.sl true 0 (fun _ => .bad)), (.sl true 0 (fun _ => .bad))]) (aB ⟨[], []⟩) (by kernel_rfl) (by kernel_rfl) (by kernel_rfl) (HE (xs := [(.sl true 0 (fun _ => .bad)), (.sl true 0 (fun _ => .bad))]) (ys := [(eL aM []), (eL aL [])]) ⟨lU, lU, trivial⟩) (by kernel_rfl) (by kernel_rfl) hO ?_
        intro lo8 H hO
        refine pI 6 lo8 2 0 (aB ⟨[], []⟩) (aB (gD turned i3)) [(aB ⟨[], []⟩)] [(lo, 3, [(.agg [.mp lm, eI b1.edges, eI b1.mark])]), (lo4, 1, [(eI e4)]), (lo5, 1, [(.msl 2 loT 0 (List.length turned))]), (loT, 2, List.map aB turned), (lo6, 1, [(eI n4)]), (lo7, 1, [(aG w4)]), (lo8, 2, [(aB (gD turned i3))])] hO rfl (by kernel_rfl) ?_
        intro H hO
        refine eW ?_
        refine bC [(2, (.rp (.lp lo 0 0))), (4, (.lp lo4 0 0)), (5, (.lp lo5 0 0)), (6, (.lp lo6 0 0)), (7, (.lp lo7 0 0)), (76, (.msl 2 loT 0 (List.length turned))), (77, (eI (lN turned))), (78, (eI i3)), (14, (.lp lo8 0 0))] ?_
        refine aU aF 3 ?_
        refine bQ 1 ?_
        refine oH 6 lo8 2 0 (aB (gD turned i3)) (aB (gD turned i3)) [(aB (gD turned i3))] hO rfl ?_
        refine aG6 [fJ lm b1] [(lo4, 1, [(eI e4)]), (lo5, 1, [(.msl 2 loT 0 (List.length turned))]), (loT, 2, List.map aB turned), (lo6, 1, [(eI n4)]), (lo7, 1, [(aG w4)]), (lo8, 2, [(aB (gD turned i3))])] [0, 1, 2, 3, 4, 5, 6] (WD lo lm b1 (gD turned i3) _ hx) hO ?_
        rintro _ _ _ H ⟨rfl, rfl, rfl⟩ hO
        refine eW ?_
        replace hO := hO.pick (L' := [(lo, 3, [(.agg [.mp lm, eI x.edges, eI x.mark])]), (lo4, 1, [(eI e4)]), (lo5, 1, [(.msl 2 loT 0 (List.length turned))]), (loT, 2, List.map aB turned), (lo6, 1, [(eI n4)]), (lo7, 1, [(aG w4)])]) [0, 1, 2, 3, 4, 5] (by decide) (by kernel_rfl)
        refine fG [(2, (.rp (.lp lo 0 0))), (4, (.lp lo4 0 0)), (5, (.lp lo5 0 0)), (6, (.lp lo6 0 0)), (7, (.lp lo7 0 0)), (76, (.msl 2 loT 0 (List.length turned))), (77, (eI (lN turned))), (78, (eI i3))] ?_
        refine aK (bD (aJ (?_)))
        refine aU aF 2 ?_
        refine bG ?_
        exact aK (⟨rfl, _, rfl, bF, hO⟩)
      refine lM 4 ?_
      obtain rfl := oI h2
      obtain rfl : _ = b8 := ho2
      obtain rfl := oI h0
      refine fG [(2, (.rp (.lp lo 0 0))), (4, (.lp lo4 0 0)), (5, (.lp lo5 0 0)), (6, (.lp lo6 0 0)), (7, (.lp lo7 0 0))] ?_
      refine aK (aX (aX (cC (aJ (?_)))))
      refine aP ?_
      refine aU aF 1 ?_
      refine pI 1 lo4 1 0 (eI e4) (eI (0 : Int)) [(eI e4)] [(lo, 3, [(.agg [.mp lm, eI b1.edges, eI b1.mark])]), (lo4, 1, [(eI (0 : Int))]), (lo5, 1, [(.msl 2 loT 0 (List.length turned))]), (loT, 2, List.map aB turned), (lo6, 1, [(eI n4)]), (lo7, 1, [(aG w4)])] hO rfl (by kernel_rfl) ?_
      intro H hO
      refine eW ?_
      refine bC [(4, (.lp lo4 0 0))] ?_
      refine bR ?_
      replace hO := hO.CF (List.Perm.swap _ _ _)
      have hD := (hO.gm 0 _ rfl).2
      replace hO := (hO.uY .dead).rX
      exact aK ((QM1 (.inr rfl) hD (rs := [.cell 4 26]) (xs := [(eI (0 : Int))]) (x := (eI (0 : Int))) (by kernel_rfl) (yD (lo := lo4) (k := 1) (y := (eI (0 : Int))) (x := (eI (0 : Int))) 1 hO (by kernel_rfl) (by kernel_rfl) (by kernel_rfl) (by kernel_rfl) vT) (by kernel_rfl) ⟨[fJ lm b1], _, ⟨rfl, rfl, rfl⟩, hO.pick (L' := [(lo, 3, [(.agg [.mp lm, eI b1.edges, eI b1.mark])])]) [0] (by decide) (by kernel_rfl)⟩))
    · obtain ⟨e4, turned, n4, w4⟩ := s
      dsimp only [Sum.elim_inr] at hi
      obtain ⟨loT, rfl⟩ := hi
      obtain rfl := oI h0
      obtain ⟨hlL, hO⟩ := yF hO
      refine ⟨_, _, hlL, (by intro e; cases e), ?_⟩
      refine bR ?_
      refine aK (bV (aV ?_))
      have hD := (hO.gm 0 _ rfl).2
      replace hO := (hO.uY .dead).rX
      exact QM1 (.inr rfl) hD (rs := [.cell 4 26]) (xs := [(eI e4)]) (x := (eI e4)) (by kernel_rfl) (yD (lo := lo4) (k := 1) (y := (eI e4)) (x := (eI e4)) 1 hO (by kernel_rfl) (by kernel_rfl) (by kernel_rfl) (by kernel_rfl) vT) (by kernel_rfl) ⟨[fJ lm b], _, ⟨rfl, rfl, rfl⟩, hO.pick (L' := [(lo, 3, [(.agg [.mp lm, eI b.edges, eI b.mark])])]) [0] (by decide) (by kernel_rfl)⟩

theorem aCk (lo lm : Nat) (b : bU) (r : Int) (h0 : FV b = some r) : wV Try.prog 9 [(.lp lo 0 0)] [fJ lm b] [pM lo lm b] (fun x M L => x = (eI r) ∧ M = [fJ lm b] ∧ L = [pM lo lm b]) := by
  intro F H0 hO
  obtain ⟨Fh, Fe, Fg⟩ := F
  refine dP Try.func9 ?_
  replace hO : aN ⟨Fh, Fe, (lm, lX aB b.cells) :: Fg⟩ _ [(lo, 3, [(.agg [.mp lm, eI b.edges, eI b.mark])])] := hO
  unfold FV at h0
  obtain rfl := oI h0
  refine aY aF 1 [] [] ?_
  refine aP ?_
  refine aP ?_
  refine aU aF 2 ?_
  refine bQ 1 ?_
  refine HU false ?_
  refine eW ?_
  refine bC [(0, (.lp lo 0 0)), (4, (aG false))] ?_
  refine nW (false) (fun hc => by cases hc) (fun hc => ?_)
  refine bT ?_
  refine bC [(0, (.lp lo 0 0))] ?_
  refine aP ?_
  refine aU aF 5 ?_
  refine bQ 3 ?_
  refine oH 0 lo 3 0 (.agg [.mp lm, eI b.edges, eI b.mark]) (eI b.mark) [(.agg [.mp lm, eI b.edges, eI b.mark])] hO rfl ?_
  refine bG ?_
  refine bC [(2, (eI b.mark))] ?_
  refine bR ?_
  exact aK (MN (M := [fJ lm b]) hO ⟨rfl, rfl, rfl⟩)

theorem aBu (lo lm : Nat) (b : bU) (r : Int) (h0 : AI b = some r) : wV Try.prog 12 [(.lp lo 0 0)] [fJ lm b] [pM lo lm b] (fun x M L => x = (eI r) ∧ M = [fJ lm b] ∧ L = [pM lo lm b]) := by
  intro F H0 hO
  obtain ⟨Fh, Fe, Fg⟩ := F
  refine dP Try.func12 ?_
  replace hO : aN ⟨Fh, Fe, (lm, lX aB b.cells) :: Fg⟩ _ [(lo, 3, [(.agg [.mp lm, eI b.edges, eI b.mark])])] := hO
  unfold AI at h0
  refine aY aF 1 [] [] ?_
  refine cJ aF 1 [(0, (.lp lo 0 0)), (3, (eI (0 : Int)))] ?_
  refine aP ?_
  refine aP ?_
  refine aU aF 2 ?_
  refine bQ 1 ?_
  refine HU false ?_
  refine eW ?_
  refine bC [(0, (.lp lo 0 0)), (3, (eI (0 : Int))), (9, (aG false))] ?_
  refine nW (false) (fun hc => by cases hc) (fun hc => ?_)
  refine bT ?_
  refine bC [(0, (.lp lo 0 0)), (3, (eI (0 : Int)))] ?_
  refine aP ?_
  refine aP ?_
  refine aU aF 5 ?_
  refine bQ 3 ?_
  refine oH 0 lo 3 0 (.agg [.mp lm, eI b.edges, eI b.mark]) (.mp lm) [(.agg [.mp lm, eI b.edges, eI b.mark])] hO rfl ?_
  refine HR (f := aB) (mty := 40) hO ?_
  intro li bs ck H hmb hmn hO
  refine eW ?_
  refine bC [(3, (eI (0 : Int))), (15, (.lp li 0 0))] ?_
  refine cH 0 ?_
  refine KA (by kernel_rfl) (fun (s : Int) (seen : List Nat) T H => Has T [(3, (eI s)), (15, (.lp li 0 0))] ∧ aN ⟨Fh, Fe, (li, LV li lm ck seen) :: (lm, xM aB b.cells bs ck) :: Fg⟩ H [(lo, 3, [(.agg [.mp lm, eI b.edges, eI b.mark])])]) hmb h0 ⟨bF, hO⟩ ?_
  clear hO h0
  rintro seen rem s T H ⟨hT, hO⟩ hleft hall
  refine bO (l := [(3, (eI s)), (15, (.lp li 0 0))]) hT ?_
  clear hT
  refine aP ?_
  refine aU aF 2 ?_
  refine KF hmb hmn hleft hall hO (fun h0 => ?_) (fun mk mv bq rest out1 H h1 hlt hleft hall hat hO => ?_)
  · clear hall hleft
    refine bG ?_
    refine bC [(3, (eI s)), (17, (aG false))] ?_
    refine aP ?_
    refine nW (false) (fun hc => by cases hc) (fun hc => ?_)
    refine lM 0 ?_
    replace hO := hO.rX
    refine EC hO fun H hO => ?_
    refine fG [(3, (eI s))] ?_
    obtain rfl := oI h0
    refine aK (aX (aX (cC (aJ (?_)))))
    refine cJ aF 2 [(2, (eI s))] ?_
    refine bR ?_
    exact aK (MN (M := [fJ lm b]) hO ⟨rfl, rfl, rfl⟩)
  replace h1 : lp (fun s => qX mv.jumps (lN mv.jumps) s.1 s.2) (s, (0 : Int)) = some out1 := h1
  refine bG ?_
  refine bC [(3, (eI s)), (15, (.lp li 0 0)), (17, (aG true))] ?_
  refine aP ?_
  refine nW (true) (fun hc => ?_) (fun hc => by cases hc)
  refine bT ?_
  refine bC [(3, (eI s)), (15, (.lp li 0 0))] ?_
  refine cH 1 ?_
  refine aP ?_
  refine aU aF 4 ?_
  refine GQ hat hO ?_
  refine bQ 2 ?_
  refine xK 2 (.agg [(.sl true 0 (fun _ => .bad)), (.sl true 0 (fun _ => .bad))]) (aB ⟨[], []⟩) (by kernel_rfl) (by kernel_rfl) (by kernel_rfl) (HE (xs := [(.sl true 0 (fun _ => .bad)), (.sl true 0 (fun _ => .bad))]) (ys := [(eL aM []), (eL aL [])]) ⟨lU, lU, trivial⟩) (by kernel_rfl) (by kernel_rfl) hO ?_
  intro lo5 H hO
  refine pI 1 lo5 2 0 (aB ⟨[], []⟩) (aB mv) [(aB ⟨[], []⟩)] [(lo, 3, [(.agg [.mp lm, eI b.edges, eI b.mark])]), (lo5, 2, [(aB mv)])] hO rfl (by kernel_rfl) ?_
  intro H hO
  refine eW ?_
  refine bC [(3, (eI s)), (15, (.lp li 0 0)), (5, (.lp lo5 0 0))] ?_
  refine aP ?_
  refine aU aF 4 ?_
  refine bQ 1 ?_
  refine oH 1 lo5 2 0 (aB mv) (eL aL mv.jumps) [(aB mv)] hO rfl ?_
  refine bG ?_
  refine bC [(3, (eI s)), (15, (.lp li 0 0)), (21, (eL aL mv.jumps)), (22, (eI (lN mv.jumps))), (23, (eI (0 : Int)))] ?_
  replace hO := hO.pick (L' := [(lo, 3, [(.agg [.mp lm, eI b.edges, eI b.mark])])]) [0] (by decide) (by kernel_rfl)
  refine cH 2 ?_
  refine mQ (fun (q : Int × Int) T H => Has T [(3, (eI q.1)), (15, (.lp li 0 0)), (21, (eL aL mv.jumps)), (22, (eI (lN mv.jumps))), (23, (eI q.2))] ∧ aN ⟨Fh, Fe, (li, LV li lm ck (seen ++ [bq])) :: (lm, xM aB b.cells bs ck) :: Fg⟩ H [(lo, 3, [(.agg [.mp lm, eI b.edges, eI b.mark])])]) h1 ⟨bF, hO⟩ ?_
  clear hO
  rintro k0 q out2 T H ⟨hT, hO⟩ h2 ho2
  obtain ⟨n3, i3⟩ := q
  replace h2 : qX mv.jumps (lN mv.jumps) n3 i3 = some out2 := h2
  refine bO (l := [(3, (eI n3)), (15, (.lp li 0 0)), (21, (eL aL mv.jumps)), (22, (eI (lN mv.jumps))), (23, (eI i3))]) hT ?_
  clear hT
  unfold qX at h2
  refine cJ aF 1 [(3, (eI n3)), (15, (.lp li 0 0)), (21, (eL aL mv.jumps)), (22, (eI (lN mv.jumps))), (23, (eI i3)), (24, (aG (decide (i3 < (lN mv.jumps)))))] ?_
  refine aP ?_
  refine bW h2 (fun h2 => ?_) (fun h2 => ?_)
  · refine bT ?_
    refine bC [(3, (eI n3)), (15, (.lp li 0 0)), (21, (eL aL mv.jumps)), (22, (eI (lN mv.jumps))), (23, (eI i3))] ?_
    refine aP ?_
    obtain ⟨c5, h2⟩ := bB h2
    obtain rfl := oI h2
    refine cH 3 ?_
    refine aP ?_
    refine aU aF 4 ?_
    refine AV 2 [0 ≤ i3 ∧ i3 < (lN mv.jumps)] ⟨c5, trivial⟩ ?_
    refine qT 2 (aL (aD.mk 0 0)) (by kernel_rfl) (by kernel_rfl) hO ?_
    intro lo7 H hO
    refine pI 1 lo7 2 0 (aL (aD.mk 0 0)) (aL (gD mv.jumps i3)) [(aL (aD.mk 0 0))] [(lo, 3, [(.agg [.mp lm, eI b.edges, eI b.mark])]), (lo7, 2, [(aL (gD mv.jumps i3))])] hO rfl (by kernel_rfl) ?_
    intro H hO
    refine eW ?_
    refine bC [(3, (eI n3)), (15, (.lp li 0 0)), (21, (eL aL mv.jumps)), (22, (eI (lN mv.jumps))), (23, (eI i3)), (7, (.lp lo7 0 0))] ?_
    refine aU aF 6 ?_
    refine bQ 2 ?_
    refine oH 1 lo7 2 0 (aL (gD mv.jumps i3)) (eI (gD mv.jumps i3).Net) [(aL (gD mv.jumps i3))] hO rfl ?_
    refine bG ?_
    replace hO := hO.pick (L' := [(lo, 3, [(.agg [.mp lm, eI b.edges, eI b.mark])])]) [0] (by decide) (by kernel_rfl)
    refine fG [(3, (eI (wR (n3 + (if (0 : Int) > (gD mv.jumps i3).Net then (0 : Int) else (gD mv.jumps i3).Net))))), (15, (.lp li 0 0)), (21, (eL aL mv.jumps)), (22, (eI (lN mv.jumps))), (23, (eI i3))] ?_
    refine aK (bD (aJ (?_)))
    refine aU aF 2 ?_
    refine bG ?_
    exact aK (⟨rfl, _, rfl, bF, hO⟩)
  · refine lM 2 ?_
    obtain rfl := oI h2
    obtain rfl : _ = out1 := ho2
    refine fG [(3, (eI n3)), (15, (.lp li 0 0))] ?_
    exact aK (aX (aX (cC (bD (⟨rfl, _, _, _, hlt, hleft, hall, bF, hO⟩)))))

theorem QD (x0 : Int) (r : Int) (h0 : rM x0 = some r) : dK Try.prog 60 [(bN .u64 x0)] (eI r) := by
  intro H0
  refine dP Try.func60 ?_
  have hO := aN.start H0
  unfold rM at h0
  refine aY aF 1 [] [(2, (eI (0 : Int)))] ?_
  refine lT (fun T H => ∃ x0 : Int, ∃ n2 : Int, Has T [(0, (bN .u64 x0)), (2, (eI n2))] ∧ aN ⟨H0, [], []⟩ H [] ∧ oN x0 n2 = some r) ?_ ?_
  · clear hO h0
    rintro T H ⟨x0, n2, hT, hO, h0⟩
    refine bO hT ?_
    clear hT
    unfold oN at h0
    refine lT (fun T H => ∃ x0 : Int, ∃ n2 : Int, Has T [(0, (bN .u64 x0)), (2, (eI n2))] ∧ aN ⟨H0, [], []⟩ H [] ∧ oL x0 n2 = some r) ?_ ?_
    · clear hO h0
      rintro T H ⟨x0, n2, hT, hO, h0⟩
      refine bO hT ?_
      clear hT
      unfold oL at h0
      refine lT (fun T H => ∃ x0 : Int, ∃ n2 : Int, Has T [(0, (bN .u64 x0)), (2, (eI n2))] ∧ aN ⟨H0, [], []⟩ H [] ∧ pV x0 n2 = some r) ?_ ?_
      · clear hO h0
        rintro T H ⟨x0, n2, hT, hO, h0⟩
        refine bO hT ?_
        clear hT
        unfold pV at h0
        refine aP ?_
        refine aU aF 7 ?_
        obtain ⟨c1, h0⟩ := bB h0
        refine sW [0 ≤ (IntKind.u8.wrap x0) ∧ (IntKind.u8.wrap x0) < ((ByteArray.size (⟨#[0, 1, 2, 2, 3, 3, 3, 3, 4, 4, 4, 4, 4, 4, 4, 4, 5, 5, 5, 5, 5, 5, 5, 5, 5, 5, 5, 5, 5, 5, 5, 5, 6, 6, 6, 6, 6, 6, 6, 6, 6, 6, 6, 6, 6, 6, 6, 6, 6, 6, 6, 6, 6, 6, 6, 6, 6, 6, 6, 6, 6, 6, 6, 6, 7, 7, 7, 7, 7, 7, 7, 7, 7, 7, 7, 7, 7, 7, 7, 7, 7, 7, 7, 7, 7, 7, 7, 7, 7, 7, 7, 7, 7, 7, 7, 7, 7, 7, 7, 7, 7, 7, 7, 7, 7, 7, 7, 7, 7, 7, 7, 7, 7, 7, 7, 7, 7, 7, 7, 7, 7, 7, 7, 7, 7, 7, 7, 7, 8, 8, 8, 8, 8, 8, 8, 8, 8, 8, 8, 8, 8, 8, 8, 8, 8, 8, 8, 8, 8, 8, 8, 8, 8, 8, 8, 8, 8, 8, 8, 8, 8, 8, 8, 8, 8, 8, 8, 8, 8, 8, 8, 8, 8, 8, 8, 8, 8, 8, 8, 8, 8, 8, 8, 8, 8, 8, 8, 8, 8, 8, 8, 8, 8, 8, 8, 8, 8, 8, 8, 8, 8, 8, 8, 8, 8, 8, 8, 8, 8, 8, 8, 8, 8, 8, 8, 8, 8, 8, 8, 8, 8, 8, 8, 8, 8, 8, 8, 8, 8, 8, 8, 8, 8, 8, 8, 8, 8, 8, 8, 8, 8, 8, 8, 8, 8, 8, 8, 8, 8, 8, 8, 8, 8, 8, 8, 8]⟩ : ByteArray) : Nat) : Int)] ⟨c1, trivial⟩ ?_
        refine bC [(2, (eI (wR (n2 + (wR (bt (⟨#[0, 1, 2, 2, 3, 3, 3, 3, 4, 4, 4, 4, 4, 4, 4, 4, 5, 5, 5, 5, 5, 5, 5, 5, 5, 5, 5, 5, 5, 5, 5, 5, 6, 6, 6, 6, 6, 6, 6, 6, 6, 6, 6, 6, 6, 6, 6, 6, 6, 6, 6, 6, 6, 6, 6, 6, 6, 6, 6, 6, 6, 6, 6, 6, 7, 7, 7, 7, 7, 7, 7, 7, 7, 7, 7, 7, 7, 7, 7, 7, 7, 7, 7, 7, 7, 7, 7, 7, 7, 7, 7, 7, 7, 7, 7, 7, 7, 7, 7, 7, 7, 7, 7, 7, 7, 7, 7, 7, 7, 7, 7, 7, 7, 7, 7, 7, 7, 7, 7, 7, 7, 7, 7, 7, 7, 7, 7, 7, 8, 8, 8, 8, 8, 8, 8, 8, 8, 8, 8, 8, 8, 8, 8, 8, 8, 8, 8, 8, 8, 8, 8, 8, 8, 8, 8, 8, 8, 8, 8, 8, 8, 8, 8, 8, 8, 8, 8, 8, 8, 8, 8, 8, 8, 8, 8, 8, 8, 8, 8, 8, 8, 8, 8, 8, 8, 8, 8, 8, 8, 8, 8, 8, 8, 8, 8, 8, 8, 8, 8, 8, 8, 8, 8, 8, 8, 8, 8, 8, 8, 8, 8, 8, 8, 8, 8, 8, 8, 8, 8, 8, 8, 8, 8, 8, 8, 8, 8, 8, 8, 8, 8, 8, 8, 8, 8, 8, 8, 8, 8, 8, 8, 8, 8, 8, 8, 8, 8, 8, 8, 8, 8, 8, 8, 8, 8, 8]⟩ : ByteArray) (IntKind.u8.wrap x0)))))))] ?_
        refine bR ?_
        obtain rfl := oI h0
        exact aK (Q_r hO)
      refine aY aF 2 [] [(14, (aG (decide ((256 : Int) ≤ x0))))] ?_
      refine bW h0 (fun h0 => ?_) (fun h0 => ?_)
      · refine aP ?_
        refine aU aF 3 ?_
        obtain ⟨c3, h0⟩ := bB h0
        refine sW [0 ≤ (8 : Int)] ⟨c3, trivial⟩ ?_
        refine bC [(0, (bN .u64 (Int.fdiv x0 (2 ^ (min (Int.toNat (8 : Int)) 64))))), (2, (eI n2))] ?_
        refine aU aF 3 ?_
        refine bG ?_
        exact aK (aJ (⟨rfl, _, _, bF, hO, h0⟩))
      refine bT ?_
      exact aK (aJ (⟨rfl, _, _, bF, hO, h0⟩))
    refine aY aF 2 [] [(8, (aG (decide ((65536 : Int) ≤ x0))))] ?_
    refine bW h0 (fun h0 => ?_) (fun h0 => ?_)
    · refine aP ?_
      refine aU aF 3 ?_
      obtain ⟨c5, h0⟩ := bB h0
      refine sW [0 ≤ (16 : Int)] ⟨c5, trivial⟩ ?_
      refine bC [(0, (bN .u64 (Int.fdiv x0 (2 ^ (min (Int.toNat (16 : Int)) 64))))), (2, (eI n2))] ?_
      refine aU aF 3 ?_
      refine bG ?_
      exact aK (aJ (⟨rfl, _, _, bF, hO, h0⟩))
    refine bT ?_
    exact aK (aJ (⟨rfl, _, _, bF, hO, h0⟩))
  refine aY aF 2 [] [(4, (aG (decide ((4294967296 : Int) ≤ x0))))] ?_
  refine bW h0 (fun h0 => ?_) (fun h0 => ?_)
  · refine aP ?_
    refine aU aF 3 ?_
    obtain ⟨c7, h0⟩ := bB h0
    refine sW [0 ≤ (32 : Int)] ⟨c7, trivial⟩ ?_
    refine bC [(0, (bN .u64 (Int.fdiv x0 (2 ^ (min (Int.toNat (32 : Int)) 64)))))] ?_
    refine aU aF 1 ?_
    refine bG ?_
    exact aK (aJ (⟨rfl, _, _, bF, hO, h0⟩))
  refine bT ?_
  exact aK (aJ (⟨rfl, _, _, bF, hO, h0⟩))

theorem IX (x0 : Int) (r : Int) (h0 : nO x0 = some r) : dK Try.prog 38 [(bN .u64 x0)] (eI r) := by
  intro H0
  refine dP Try.func38 ?_
  have hO := aN.start H0
  unfold nO at h0
  refine aY aF 1 [] [] ?_
  refine aP ?_
  refine nW (false) (fun hc1 => ?_) (fun hc1 => ?_)
  · cases hc1
  · refine bT ?_
    refine aK (aJ ?_)
    refine aP ?_
    refine aU aF 3 ?_
    refine bQ 1 ?_
    obtain ⟨x2, hx3, h0⟩ := aZ h0
    refine iY (QD x0 _ hx3) hO ?_
    intro H hO
    refine bG ?_
    refine bC [(2, (eI x2))] ?_
    refine bR ?_
    obtain rfl := oI h0
    exact aK (Q_r hO)

theorem wH (lo0p : Nat) (aA : (List aC)) (a1 : Int) (b2 : Int) (cmp3_f : Nat) (cmp3_a cmp3_c : List V) (cmp3 : aC → aC → Option Int) (cmp3_h : ∀ a0 a1 r, cmp3 a0 a1 = some r → dK Try.prog cmp3_f (cmp3_a ++ [(aB a0), (aB a1)] ++ cmp3_c) (eI r)) (r : List aC) (h0 : iI aA a1 b2 cmp3 = some r) : rU Try.prog 51 lo0p 2 (List.map aB aA) (List.map aB r) [(.msl 2 lo0p 0 (List.length aA)), (eI a1), (eI b2), (.fn (.func cmp3_f) cmp3_a cmp3_c)] (.tup []) := by
  intro H0 hl0
  refine dP Try.func51 ?_
  have hO := aN.uP hl0
  clear hl0
  obtain ⟨N0, hN0⟩ : ∃ n, n = List.length aA := ⟨_, rfl⟩
  have hN : List.length aA = N0 := hN0.symm
  unfold iI at h0
  refine aY aF 3 [] [(8, (eI (wR (a1 + (1 : Int)))))] ?_
  refine cH 0 ?_
  refine mD [(0, (.msl 2 lo0p 0 (List.length aA))), (1, (eI a1)), (2, (eI b2)), (3, (.fn (.func cmp3_f) cmp3_a cmp3_c)), (8, (eI (wR (a1 + (1 : Int)))))] ?_
  refine kZ (fun T H => ∃ aA : List aC, ∃ i8 : Int, Has T [(0, (.msl 2 lo0p 0 (List.length aA))), (1, (eI a1)), (2, (eI b2)), (3, (.fn (.func cmp3_f) cmp3_a cmp3_c)), (8, (eI i8))] ∧ aN ⟨H0, [lo0p], []⟩ H [(lo0p, 2, List.map aB aA)] ∧ List.length aA = N0 ∧ gU cmp3 aA a1 b2 i8 = some r) ?_ ⟨aA, wR (a1 + (1 : Int)), bF, hO, hN, h0⟩
  clear hO hN h0
  rintro T H ⟨aA, i8, hT, hO, hN, h0⟩
  refine bO hT ?_
  clear hT
  unfold gU at h0
  obtain ⟨rr0, hl0, h0⟩ := aZ h0
  refine mQ (fun (s : List aC × Int) T H => Has T [(0, (.msl 2 lo0p 0 (List.length s.1))), (1, (eI a1)), (2, (eI b2)), (3, (.fn (.func cmp3_f) cmp3_a cmp3_c)), (8, (eI s.2))] ∧ aN ⟨H0, [lo0p], []⟩ H [(lo0p, 2, List.map aB s.1)] ∧ List.length s.1 = N0) hl0 ⟨bF, hO, hN⟩ ?_
  clear hO hN
  rintro k0 s out1 T H ⟨hT, hO, hN⟩ h1 ho0
  obtain ⟨aA, i8⟩ := s
  replace h1 : gT cmp3 a1 b2 aA i8 = some out1 := h1
  try dsimp only at hT
  refine bO hT ?_
  clear hT
  unfold gT at h1
  refine aP ?_
  refine aY aF 3 [] [(14, (aG (decide (i8 < b2))))] ?_
  refine bW h1 (fun h1 => ?_) (fun h1 => ?_)
  · refine bT ?_
    refine bC [(0, (.msl 2 lo0p 0 (List.length aA))), (1, (eI a1)), (2, (eI b2)), (3, (.fn (.func cmp3_f) cmp3_a cmp3_c)), (8, (eI i8))] ?_
    refine lT (fun T H => ∃ aA : List aC, Has T [(0, (.msl 2 lo0p 0 (List.length aA))), (1, (eI a1)), (2, (eI b2)), (3, (.fn (.func cmp3_f) cmp3_a cmp3_c)), (8, (eI i8))] ∧ aN ⟨H0, [lo0p], []⟩ H [(lo0p, 2, List.map aB aA)] ∧ List.length aA = N0 ∧ eV cmp3 aA a1 b2 i8 = some out1) ?_ ?_
    · clear hO hN h1
      rintro T H ⟨aA, hT, hO, hN, h1⟩
      refine bO hT ?_
      clear hT
      unfold eV at h1
      refine aU aF 3 ?_
      refine bG ?_
      exact aK (aJ (⟨rfl, _, (oI h1).symm, bF, hO, hN⟩))
    refine cH 1 ?_
    refine aY aF 2 [] [(9, (eI i8))] ?_
    refine cH 2 ?_
    refine mD [(0, (.msl 2 lo0p 0 (List.length aA))), (1, (eI a1)), (2, (eI b2)), (3, (.fn (.func cmp3_f) cmp3_a cmp3_c)), (8, (eI i8)), (9, (eI i8))] ?_
    refine kZ (fun T H => ∃ aA : List aC, ∃ j9 : Int, Has T [(0, (.msl 2 lo0p 0 (List.length aA))), (1, (eI a1)), (2, (eI b2)), (3, (.fn (.func cmp3_f) cmp3_a cmp3_c)), (8, (eI i8)), (9, (eI j9))] ∧ aN ⟨H0, [lo0p], []⟩ H [(lo0p, 2, List.map aB aA)] ∧ List.length aA = N0 ∧ gS cmp3 aA a1 b2 i8 j9 = some out1) ?_ ⟨aA, i8, bF, hO, hN, h1⟩
    clear hO hN h1
    rintro T H ⟨aA, j9, hT, hO, hN, h1⟩
    refine bO hT ?_
    clear hT
    unfold gS at h1
    obtain ⟨rr1, hl1, h1⟩ := aZ h1
    refine mQ (fun (s : List aC × Int) T H => Has T [(0, (.msl 2 lo0p 0 (List.length s.1))), (1, (eI a1)), (2, (eI b2)), (3, (.fn (.func cmp3_f) cmp3_a cmp3_c)), (8, (eI i8)), (9, (eI s.2))] ∧ aN ⟨H0, [lo0p], []⟩ H [(lo0p, 2, List.map aB s.1)] ∧ List.length s.1 = N0) hl1 ⟨bF, hO, hN⟩ ?_
    clear hO hN
    rintro k1 s out2 T H ⟨hT, hO, hN⟩ h2 ho1
    obtain ⟨aA, j9⟩ := s
    replace h2 : gQ cmp3 a1 b2 i8 aA j9 = some out2 := h2
    try dsimp only at hT
    refine bO hT ?_
    clear hT
    unfold gQ at h2
    refine aP ?_
    refine aP ?_
    obtain ⟨c2, h2⟩ := bB h2
    obtain ⟨c3, h2⟩ := bB h2
    obtain ⟨x4, hx5, h2⟩ := aZ h2
    refine jS (iZ []) aF 17 ?_
    refine tO (K := fun T H => Has (lift T) [(0, (.msl 2 lo0p 0 (List.length aA))), (1, (eI a1)), (2, (eI b2)), (3, (.fn (.func cmp3_f) cmp3_a cmp3_c)), (8, (eI i8)), (9, (eI j9)), (34, (aG ((decide (a1 < j9)) && (decide (x4 < (0 : Int))))))] ∧ aN ⟨H0, [lo0p], []⟩ H [(lo0p, 2, List.map aB aA)]) ?_ ?_
    · refine qD 4 ?_
      refine sZ (t := 21) (e := decide (a1 < j9)) (by kernel_rfl) (fun hg6 => ?_) (fun hg6 => ?_)
      · refine cP 8 [0 ≤ j9 ∧ j9 < (lN aA)] ⟨(c2 hg6), trivial⟩ ?_
        refine uH 0 lo0p 2 (0 + Int.toNat j9) (aB (gD aA j9)) (aB (gD aA j9)) (List.map aB aA) hO (cB (c2 hg6)) ?_
        refine cP 13 [0 ≤ (wR (j9 - (1 : Int))) ∧ (wR (j9 - (1 : Int))) < (lN aA)] ⟨(c3 hg6), trivial⟩ ?_
        refine uH 0 lo0p 2 (0 + Int.toNat (wR (j9 - (1 : Int)))) (aB (gD aA (wR (j9 - (1 : Int))))) (aB (gD aA (wR (j9 - (1 : Int))))) (List.map aB aA) hO (cB (c3 hg6)) ?_
        refine uQ cmp3_f (cmp3_a ++ [(aB (gD aA j9)), (aB (gD aA (wR (j9 - (1 : Int)))))] ++ cmp3_c) (eI x4) (by kernel_rfl) (by kernel_rfl) (cmp3_h (gD aA j9) (gD aA (wR (j9 - (1 : Int)))) _ (pE hx5 hg6)) hO ?_
        intro H hO
        refine nX ?_
        exact ⟨⟨[(0, (.msl 2 lo0p 0 (List.length aA))), (1, (eI a1)), (2, (eI b2)), (3, (.fn (.func cmp3_f) cmp3_a cmp3_c)), (8, (eI i8)), (9, (eI j9)), (34, (aG (decide (x4 < (0 : Int)))))], by kernel_rfl, rfl, ⟨aQ.refl _, aQ.refl _, aQ.refl _, aQ.refl _, aQ.refl _, aQ.refl _, aQ.eq (congrArg aG (rE hg6 rfl).symm), trivial⟩⟩, hO⟩
      refine nX ?_
      exact ⟨⟨[(0, (.msl 2 lo0p 0 (List.length aA))), (1, (eI a1)), (2, (eI b2)), (3, (.fn (.func cmp3_f) cmp3_a cmp3_c)), (8, (eI i8)), (9, (eI j9)), (34, (aG false))], by kernel_rfl, rfl, ⟨aQ.refl _, aQ.refl _, aQ.refl _, aQ.refl _, aQ.refl _, aQ.refl _, aQ.eq (congrArg aG (rE hg6 rfl).symm), trivial⟩⟩, hO⟩
    · rintro T H ⟨hT, hO⟩
      refine dX hT ?_
      clear hT
      refine aK (aJ ?_)
      refine bW h2 (fun h2 => ?_) (fun h2 => ?_)
      · refine bT ?_
        refine bC [(0, (.msl 2 lo0p 0 (List.length aA))), (1, (eI a1)), (2, (eI b2)), (3, (.fn (.func cmp3_f) cmp3_a cmp3_c)), (8, (eI i8)), (9, (eI j9))] ?_
        refine aP ?_
        refine cH 3 ?_
        refine jS (iZ []) aF 18 ?_
        obtain ⟨c8, h2⟩ := bB h2
        refine cP 9 [0 ≤ (wR (j9 - (1 : Int))) ∧ (wR (j9 - (1 : Int))) < (lN aA)] ⟨c8, trivial⟩ ?_
        refine jP 0 lo0p 2 (0 + Int.toNat (wR (j9 - (1 : Int)))) (aB (gD aA (wR (j9 - (1 : Int))))) (aB (gD aA (wR (j9 - (1 : Int))))) (List.map aB aA) hO (cB c8) ?_
        obtain ⟨c9, h2⟩ := bB h2
        refine cP 13 [0 ≤ j9 ∧ j9 < (lN aA)] ⟨c9, trivial⟩ ?_
        refine jP 0 lo0p 2 (0 + Int.toNat j9) (aB (gD aA j9)) (aB (gD aA j9)) (List.map aB aA) hO (cB c9) ?_
        obtain ⟨c10, h2⟩ := bB h2
        refine cP 15 [0 ≤ j9 ∧ j9 < (lN aA)] ⟨c10, trivial⟩ ?_
        refine nL 0 lo0p 2 (0 + Int.toNat j9) (aB (gD aA j9)) (aB (gD aA (wR (j9 - (1 : Int))))) (List.map aB aA) [(lo0p, 2, List.map aB (List.set aA (Int.toNat j9) (gD aA (wR (j9 - (1 : Int))))))] hO (cB c10) (by simp only [List.set, lO]) ?_
        intro H hO
        replace hN : List.length (List.set aA (Int.toNat j9) (gD aA (wR (j9 - (1 : Int))))) = N0 := by simpa using hN
        obtain ⟨c11, h2⟩ := bB h2
        refine cP 17 [0 ≤ (wR (j9 - (1 : Int))) ∧ (wR (j9 - (1 : Int))) < (lN aA)] ⟨c11, trivial⟩ ?_
        refine nL 0 lo0p 2 (0 + Int.toNat (wR (j9 - (1 : Int)))) (aB (gD (List.set aA (Int.toNat j9) (gD aA (wR (j9 - (1 : Int))))) (wR (j9 - (1 : Int))))) (aB (gD aA j9)) (List.map aB (List.set aA (Int.toNat j9) (gD aA (wR (j9 - (1 : Int)))))) [(lo0p, 2, List.map aB (List.set (List.set aA (Int.toNat j9) (gD aA (wR (j9 - (1 : Int))))) (Int.toNat (wR (j9 - (1 : Int)))) (gD aA j9)))] hO (qU c11 (by simp [])) (by simp only [List.set, lO]) ?_
        intro H hO
        replace hN : List.length (List.set (List.set aA (Int.toNat j9) (gD aA (wR (j9 - (1 : Int))))) (Int.toNat (wR (j9 - (1 : Int)))) (gD aA j9)) = N0 := by simpa using hN
        refine oX (by kernel_rfl) ?_
        refine dX (l := [(0, (.msl 2 lo0p 0 (List.length (List.set (List.set aA (Int.toNat j9) (gD aA (wR (j9 - (1 : Int))))) (Int.toNat (wR (j9 - (1 : Int)))) (gD aA j9))))), (1, (eI a1)), (2, (eI b2)), (3, (.fn (.func cmp3_f) cmp3_a cmp3_c)), (8, (eI i8)), (9, (eI j9))]) ⟨[(0, (.msl 2 lo0p 0 (List.length aA))), (1, (eI a1)), (2, (eI b2)), (3, (.fn (.func cmp3_f) cmp3_a cmp3_c)), (8, (eI i8)), (9, (eI j9))], by kernel_rfl, rfl, ⟨aQ.eq (by simp []), aQ.refl _, aQ.refl _, aQ.refl _, aQ.refl _, aQ.refl _, trivial⟩⟩ ?_
        refine aK (bD (aJ (?_)))
        refine aU aF 3 ?_
        refine bG ?_
        exact aK (aJ (⟨rfl, _, (oI h2).symm, bF, hO, hN⟩))
      refine lM 2 ?_
      obtain rfl := oI h2
      obtain rfl : _ = rr1 := ho1
      replace h1 : eV cmp3 aA a1 b2 i8 = some out1 := h1
      exact aK (aX (aX (cC (bD (aJ (⟨rfl, _, bF, hO, hN, h1⟩))))))
  refine lM 0 ?_
  obtain rfl := oI h1
  obtain rfl : _ = rr0 := ho0
  replace h0 : some aA = some r := h0
  obtain rfl := oI h0
  exact aK (aX (aX (cC (FQ (x := (.tup [])) (by kernel_rfl) (aQ.refl _) ⟨rfl, hO.ext, hO.at 0 (by kernel_rfl), by first | rfl | (simp only [List.length_map]; exact hN.trans hN0)⟩))))

theorem sH (lo0p : Nat) (aA : (List aC)) (lo1 : Int) (hi2 : Int) (aW : Int) (cmp4_f : Nat) (cmp4_a cmp4_c : List V) (cmp4 : aC → aC → Option Int) (cmp4_h : ∀ a0 a1 r, cmp4 a0 a1 = some r → dK Try.prog cmp4_f (cmp4_a ++ [(aB a0), (aB a1)] ++ cmp4_c) (eI r)) (r : List aC) (h0 : iB aA lo1 hi2 aW cmp4 = some r) : rU Try.prog 69 lo0p 2 (List.map aB aA) (List.map aB r) [(.msl 2 lo0p 0 (List.length aA)), (eI lo1), (eI hi2), (eI aW), (.fn (.func cmp4_f) cmp4_a cmp4_c)] (.tup []) := by
  intro H0 hl0
  refine dP Try.func69 ?_
  have hO := aN.uP hl0
  clear hl0
  obtain ⟨N0, hN0⟩ : ∃ n, n = List.length aA := ⟨_, rfl⟩
  have hN : List.length aA = N0 := hN0.symm
  unfold iB at h0
  refine aY aF 2 [1] [(10, (eI lo1))] ?_
  refine cH 0 ?_
  refine mD [(0, (.msl 2 lo0p 0 (List.length aA))), (2, (eI hi2)), (3, (eI aW)), (4, (.fn (.func cmp4_f) cmp4_a cmp4_c)), (10, (eI lo1))] ?_
  refine kZ (fun T H => ∃ aA : List aC, ∃ bS : Int, Has T [(0, (.msl 2 lo0p 0 (List.length aA))), (2, (eI hi2)), (3, (eI aW)), (4, (.fn (.func cmp4_f) cmp4_a cmp4_c)), (10, (eI bS))] ∧ aN ⟨H0, [lo0p], []⟩ H [(lo0p, 2, List.map aB aA)] ∧ List.length aA = N0 ∧ kA cmp4 aA hi2 aW bS = some r) ?_ ⟨aA, lo1, bF, hO, hN, h0⟩
  clear hO hN h0
  rintro T H ⟨aA, bS, hT, hO, hN, h0⟩
  refine bO hT ?_
  clear hT
  unfold kA at h0
  obtain ⟨rr0, hl0, h0⟩ := aZ h0
  refine mQ (fun (s : List aC × Int) T H => Has T [(0, (.msl 2 lo0p 0 (List.length s.1))), (2, (eI hi2)), (3, (eI aW)), (4, (.fn (.func cmp4_f) cmp4_a cmp4_c)), (10, (eI s.2))] ∧ aN ⟨H0, [lo0p], []⟩ H [(lo0p, 2, List.map aB s.1)] ∧ List.length s.1 = N0) hl0 ⟨bF, hO, hN⟩ ?_
  clear hO hN
  rintro k0 s out1 T H ⟨hT, hO, hN⟩ h1 ho0
  obtain ⟨aA, bS⟩ := s
  replace h1 : kB cmp4 hi2 aW aA bS = some out1 := h1
  try dsimp only at hT
  refine bO hT ?_
  clear hT
  unfold kB at h1
  refine cH 1 ?_
  refine aY aF 4 [] [(11, (eI (wR ((wR ((2 : Int) * bS)) + (1 : Int)))))] ?_
  refine aP ?_
  refine aY aF 3 [] [(18, (aG (decide (hi2 ≤ (wR ((wR ((2 : Int) * bS)) + (1 : Int)))))))] ?_
  refine bW h1 (fun h1 => ?_) (fun h1 => ?_)
  · refine lM 0 ?_
    obtain rfl := oI h1
    obtain rfl : _ = rr0 := ho0
    replace h0 : some aA = some r := h0
    obtain rfl := oI h0
    exact aK (aX (zZ (by kernel_rfl) (aX (cC (FQ (x := (.tup [])) (by kernel_rfl) (aQ.refl _) ⟨rfl, hO.ext, hO.at 0 (by kernel_rfl), by first | rfl | (simp only [List.length_map]; exact hN.trans hN0)⟩)))))
  refine bT ?_
  refine bC [(0, (.msl 2 lo0p 0 (List.length aA))), (2, (eI hi2)), (3, (eI aW)), (4, (.fn (.func cmp4_f) cmp4_a cmp4_c)), (10, (eI bS)), (11, (eI (wR ((wR ((2 : Int) * bS)) + (1 : Int)))))] ?_
  refine lT (fun T H => ∃ aA : List aC, ∃ dB : Int, Has T [(0, (.msl 2 lo0p 0 (List.length aA))), (2, (eI hi2)), (3, (eI aW)), (4, (.fn (.func cmp4_f) cmp4_a cmp4_c)), (10, (eI bS)), (11, (eI dB))] ∧ aN ⟨H0, [lo0p], []⟩ H [(lo0p, 2, List.map aB aA)] ∧ List.length aA = N0 ∧ gK cmp4 aA hi2 aW bS dB = some out1) ?_ ?_
  · clear hO hN h1
    rintro T H ⟨aA, dB, hT, hO, hN, h1⟩
    refine bO hT ?_
    clear hT
    unfold gK at h1
    refine aP ?_
    refine aP ?_
    refine jS (iZ [56]) aF 16 ?_
    obtain ⟨c2, h1⟩ := bB h1
    refine cP 6 [0 ≤ (wR (aW + bS)) ∧ (wR (aW + bS)) < (lN aA)] ⟨c2, trivial⟩ ?_
    refine jP 0 lo0p 2 (0 + Int.toNat (wR (aW + bS))) (aB (gD aA (wR (aW + bS)))) (aB (gD aA (wR (aW + bS)))) (List.map aB aA) hO (cB c2) ?_
    obtain ⟨c3, h1⟩ := bB h1
    refine cP 12 [0 ≤ (wR (aW + dB)) ∧ (wR (aW + dB)) < (lN aA)] ⟨c3, trivial⟩ ?_
    refine jP 0 lo0p 2 (0 + Int.toNat (wR (aW + dB))) (aB (gD aA (wR (aW + dB)))) (aB (gD aA (wR (aW + dB)))) (List.map aB aA) hO (cB c3) ?_
    obtain ⟨x4, hx5, h1⟩ := aZ h1
    refine NK (cmp4_h (gD aA (wR (aW + bS))) (gD aA (wR (aW + dB))) _ hx5) hO ?_
    intro H hO
    refine nX ?_
    refine cQ [] [(58, (aG (!(decide (x4 < (0 : Int))))))] ?_
    refine bW h1 (fun h1 => ?_) (fun h1 => ?_)
    · refine bR ?_
      obtain rfl := oI h1
      obtain rfl : _ = rr0 := ho0
      replace h0 : some aA = some r := h0
      obtain rfl := oI h0
      exact aK (aV (bV (aV (bV (nF (x := (.tup [])) (by kernel_rfl) (aQ.refl _) ⟨rfl, hO.ext, hO.at 0 (by kernel_rfl), by first | rfl | (simp only [List.length_map]; exact hN.trans hN0)⟩)))))
    refine bT ?_
    refine bC [(0, (.msl 2 lo0p 0 (List.length aA))), (2, (eI hi2)), (3, (eI aW)), (4, (.fn (.func cmp4_f) cmp4_a cmp4_c)), (10, (eI bS)), (11, (eI dB))] ?_
    refine aP ?_
    refine jS (iZ []) aF 24 ?_
    obtain ⟨c8, h1⟩ := bB h1
    refine cP 13 [0 ≤ (wR (aW + dB)) ∧ (wR (aW + dB)) < (lN aA)] ⟨c8, trivial⟩ ?_
    refine jP 0 lo0p 2 (0 + Int.toNat (wR (aW + dB))) (aB (gD aA (wR (aW + dB)))) (aB (gD aA (wR (aW + dB)))) (List.map aB aA) hO (cB c8) ?_
    obtain ⟨c9, h1⟩ := bB h1
    refine cP 19 [0 ≤ (wR (aW + bS)) ∧ (wR (aW + bS)) < (lN aA)] ⟨c9, trivial⟩ ?_
    refine jP 0 lo0p 2 (0 + Int.toNat (wR (aW + bS))) (aB (gD aA (wR (aW + bS)))) (aB (gD aA (wR (aW + bS)))) (List.map aB aA) hO (cB c9) ?_
    obtain ⟨c10, h1⟩ := bB h1
    refine cP 21 [0 ≤ (wR (aW + bS)) ∧ (wR (aW + bS)) < (lN aA)] ⟨c10, trivial⟩ ?_
    refine nL 0 lo0p 2 (0 + Int.toNat (wR (aW + bS))) (aB (gD aA (wR (aW + bS)))) (aB (gD aA (wR (aW + dB)))) (List.map aB aA) [(lo0p, 2, List.map aB (List.set aA (Int.toNat (wR (aW + bS))) (gD aA (wR (aW + dB)))))] hO (cB c10) (by simp only [List.set, lO]) ?_
    intro H hO
    replace hN : List.length (List.set aA (Int.toNat (wR (aW + bS))) (gD aA (wR (aW + dB)))) = N0 := by simpa using hN
    obtain ⟨c11, h1⟩ := bB h1
    refine cP 23 [0 ≤ (wR (aW + dB)) ∧ (wR (aW + dB)) < (lN aA)] ⟨c11, trivial⟩ ?_
    refine nL 0 lo0p 2 (0 + Int.toNat (wR (aW + dB))) (aB (gD (List.set aA (Int.toNat (wR (aW + bS))) (gD aA (wR (aW + dB)))) (wR (aW + dB)))) (aB (gD aA (wR (aW + bS)))) (List.map aB (List.set aA (Int.toNat (wR (aW + bS))) (gD aA (wR (aW + dB))))) [(lo0p, 2, List.map aB (List.set (List.set aA (Int.toNat (wR (aW + bS))) (gD aA (wR (aW + dB)))) (Int.toNat (wR (aW + dB))) (gD aA (wR (aW + bS)))))] hO (qU c11 (by simp [])) (by simp only [List.set, lO]) ?_
    intro H hO
    replace hN : List.length (List.set (List.set aA (Int.toNat (wR (aW + bS))) (gD aA (wR (aW + dB)))) (Int.toNat (wR (aW + dB))) (gD aA (wR (aW + bS)))) = N0 := by simpa using hN
    refine oX (by kernel_rfl) ?_
    refine dX (l := [(0, (.msl 2 lo0p 0 (List.length (List.set (List.set aA (Int.toNat (wR (aW + bS))) (gD aA (wR (aW + dB)))) (Int.toNat (wR (aW + dB))) (gD aA (wR (aW + bS))))))), (2, (eI hi2)), (3, (eI aW)), (4, (.fn (.func cmp4_f) cmp4_a cmp4_c)), (11, (eI dB))]) ⟨[(0, (.msl 2 lo0p 0 (List.length aA))), (2, (eI hi2)), (3, (eI aW)), (4, (.fn (.func cmp4_f) cmp4_a cmp4_c)), (11, (eI dB))], by kernel_rfl, rfl, ⟨aQ.eq (by simp []), aQ.refl _, aQ.refl _, aQ.refl _, aQ.refl _, trivial⟩⟩ ?_
    refine aK (aJ (?_))
    refine aU aF 2 ?_
    refine bG ?_
    exact aK (bD (aJ (⟨rfl, _, (oI h1).symm, bF, hO, hN⟩)))
  refine aP ?_
  obtain ⟨c12, h1⟩ := bB h1
  obtain ⟨c13, h1⟩ := bB h1
  obtain ⟨x14, hx15, h1⟩ := aZ h1
  refine jS (iZ []) aF 22 ?_
  refine tO (K := fun T H => Has (lift T) [(0, (.msl 2 lo0p 0 (List.length aA))), (2, (eI hi2)), (3, (eI aW)), (4, (.fn (.func cmp4_f) cmp4_a cmp4_c)), (10, (eI bS)), (11, (eI (wR ((wR ((2 : Int) * bS)) + (1 : Int))))), (40, (aG ((decide ((wR ((wR ((wR ((2 : Int) * bS)) + (1 : Int))) + (1 : Int))) < hi2)) && (decide (x14 < (0 : Int))))))] ∧ aN ⟨H0, [lo0p], []⟩ H [(lo0p, 2, List.map aB aA)]) ?_ ?_
  · refine qD 5 ?_
    refine sZ (t := 23) (e := decide ((wR ((wR ((wR ((2 : Int) * bS)) + (1 : Int))) + (1 : Int))) < hi2)) (by kernel_rfl) (fun hg16 => ?_) (fun hg16 => ?_)
    · refine cP 11 [0 ≤ (wR (aW + (wR ((wR ((2 : Int) * bS)) + (1 : Int))))) ∧ (wR (aW + (wR ((wR ((2 : Int) * bS)) + (1 : Int))))) < (lN aA)] ⟨(c12 hg16), trivial⟩ ?_
      refine uH 0 lo0p 2 (0 + Int.toNat (wR (aW + (wR ((wR ((2 : Int) * bS)) + (1 : Int)))))) (aB (gD aA (wR (aW + (wR ((wR ((2 : Int) * bS)) + (1 : Int))))))) (aB (gD aA (wR (aW + (wR ((wR ((2 : Int) * bS)) + (1 : Int))))))) (List.map aB aA) hO (cB (c12 hg16)) ?_
      refine cP 18 [0 ≤ (wR ((wR (aW + (wR ((wR ((2 : Int) * bS)) + (1 : Int))))) + (1 : Int))) ∧ (wR ((wR (aW + (wR ((wR ((2 : Int) * bS)) + (1 : Int))))) + (1 : Int))) < (lN aA)] ⟨(c13 hg16), trivial⟩ ?_
      refine uH 0 lo0p 2 (0 + Int.toNat (wR ((wR (aW + (wR ((wR ((2 : Int) * bS)) + (1 : Int))))) + (1 : Int)))) (aB (gD aA (wR ((wR (aW + (wR ((wR ((2 : Int) * bS)) + (1 : Int))))) + (1 : Int))))) (aB (gD aA (wR ((wR (aW + (wR ((wR ((2 : Int) * bS)) + (1 : Int))))) + (1 : Int))))) (List.map aB aA) hO (cB (c13 hg16)) ?_
      refine uQ cmp4_f (cmp4_a ++ [(aB (gD aA (wR (aW + (wR ((wR ((2 : Int) * bS)) + (1 : Int))))))), (aB (gD aA (wR ((wR (aW + (wR ((wR ((2 : Int) * bS)) + (1 : Int))))) + (1 : Int)))))] ++ cmp4_c) (eI x14) (by kernel_rfl) (by kernel_rfl) (cmp4_h (gD aA (wR (aW + (wR ((wR ((2 : Int) * bS)) + (1 : Int)))))) (gD aA (wR ((wR (aW + (wR ((wR ((2 : Int) * bS)) + (1 : Int))))) + (1 : Int)))) _ (pE hx15 hg16)) hO ?_
      intro H hO
      refine nX ?_
      exact ⟨⟨[(0, (.msl 2 lo0p 0 (List.length aA))), (2, (eI hi2)), (3, (eI aW)), (4, (.fn (.func cmp4_f) cmp4_a cmp4_c)), (10, (eI bS)), (11, (eI (wR ((wR ((2 : Int) * bS)) + (1 : Int))))), (40, (aG (decide (x14 < (0 : Int)))))], by kernel_rfl, rfl, ⟨aQ.refl _, aQ.refl _, aQ.refl _, aQ.refl _, aQ.refl _, aQ.refl _, aQ.eq (congrArg aG (rE hg16 rfl).symm), trivial⟩⟩, hO⟩
    refine nX ?_
    exact ⟨⟨[(0, (.msl 2 lo0p 0 (List.length aA))), (2, (eI hi2)), (3, (eI aW)), (4, (.fn (.func cmp4_f) cmp4_a cmp4_c)), (10, (eI bS)), (11, (eI (wR ((wR ((2 : Int) * bS)) + (1 : Int))))), (40, (aG false))], by kernel_rfl, rfl, ⟨aQ.refl _, aQ.refl _, aQ.refl _, aQ.refl _, aQ.refl _, aQ.refl _, aQ.eq (congrArg aG (rE hg16 rfl).symm), trivial⟩⟩, hO⟩
  · rintro T H ⟨hT, hO⟩
    refine dX hT ?_
    clear hT
    refine aK (aJ ?_)
    refine bW h1 (fun h1 => ?_) (fun h1 => ?_)
    · refine aU aF 3 ?_
      refine bG ?_
      exact aK (aJ (⟨rfl, _, _, bF, hO, hN, h1⟩))
    refine bT ?_
    exact aK (aJ (⟨rfl, _, _, bF, hO, hN, h1⟩))

end Go.Abs
namespace Go.Abs
open Go Go.RowKit Go.Proofs
theorem AJ (lo0p : Nat) (aA : (List aC)) (a1 : Int) (b2 : Int) (cmp3_f : Nat) (cmp3_a cmp3_c : List V) (cmp3 : aC → aC → Option Int) (cmp3_h : ∀ a0 a1 r, cmp3 a0 a1 = some r → dK Try.prog cmp3_f (cmp3_a ++ [(aB a0), (aB a1)] ++ cmp3_c) (eI r)) (r : List aC) (h0 : kL aA a1 b2 cmp3 = some r) : rU Try.prog 52 lo0p 2 (List.map aB aA) (List.map aB r) [(.msl 2 lo0p 0 (List.length aA)), (eI a1), (eI b2), (.fn (.func cmp3_f) cmp3_a cmp3_c)] (.tup []) := by
  intro H0 hl0
  refine dP Try.func52 ?_
  have hO := aN.uP hl0
  clear hl0
  obtain ⟨N0, hN0⟩ : ∃ n, n = List.length aA := ⟨_, rfl⟩
  have hN : List.length aA = N0 := hN0.symm
  unfold kL at h0
  refine aY aF 2 [] [(8, (eI a1))] ?_
  refine aY aF 1 [] [(9, (eI (0 : Int)))] ?_
  refine aY aF 4 [1, 2] [(10, (eI (wR (b2 - a1))))] ?_
  refine lT (fun T H => ∃ aA : List aC, ∃ bL : Int, ∃ lo9 : Int, ∃ hi10 : Int, Has T [(0, (.msl 2 lo0p 0 (List.length aA))), (3, (.fn (.func cmp3_f) cmp3_a cmp3_c)), (8, (eI bL)), (9, (eI lo9)), (10, (eI hi10))] ∧ aN ⟨H0, [lo0p], []⟩ H [(lo0p, 2, List.map aB aA)] ∧ List.length aA = N0 ∧ gL cmp3 aA bL lo9 hi10 = some r) ?_ ?_
  · clear hO hN h0
    rintro T H ⟨aA, bL, lo9, hi10, hT, hO, hN, h0⟩
    refine bO hT ?_
    clear hT
    unfold gL at h0
    refine aY aF 3 [10] [(12, (eI (wR (hi10 - (1 : Int)))))] ?_
    refine cH 2 ?_
    refine mD [(0, (.msl 2 lo0p 0 (List.length aA))), (3, (.fn (.func cmp3_f) cmp3_a cmp3_c)), (8, (eI bL)), (9, (eI lo9)), (12, (eI (wR (hi10 - (1 : Int)))))] ?_
    refine kZ (fun T H => ∃ aA : List aC, ∃ i12 : Int, Has T [(0, (.msl 2 lo0p 0 (List.length aA))), (3, (.fn (.func cmp3_f) cmp3_a cmp3_c)), (8, (eI bL)), (9, (eI lo9)), (12, (eI i12))] ∧ aN ⟨H0, [lo0p], []⟩ H [(lo0p, 2, List.map aB aA)] ∧ List.length aA = N0 ∧ kD cmp3 aA bL lo9 i12 = some r) ?_ ⟨aA, wR (hi10 - (1 : Int)), bF, hO, hN, h0⟩
    clear hO hN h0
    rintro T H ⟨aA, i12, hT, hO, hN, h0⟩
    refine bO hT ?_
    clear hT
    unfold kD at h0
    obtain ⟨rr0, hl0, h0⟩ := aZ h0
    refine mQ (fun (s : List aC × Int) T H => Has T [(0, (.msl 2 lo0p 0 (List.length s.1))), (3, (.fn (.func cmp3_f) cmp3_a cmp3_c)), (8, (eI bL)), (9, (eI lo9)), (12, (eI s.2))] ∧ aN ⟨H0, [lo0p], []⟩ H [(lo0p, 2, List.map aB s.1)] ∧ List.length s.1 = N0) hl0 ⟨bF, hO, hN⟩ ?_
    clear hO hN
    rintro k0 s out1 T H ⟨hT, hO, hN⟩ h1 ho0
    obtain ⟨aA, i12⟩ := s
    replace h1 : kF cmp3 bL lo9 aA i12 = some out1 := h1
    try dsimp only at hT
    refine bO hT ?_
    clear hT
    unfold kF at h1
    refine aP ?_
    refine aY aF 2 [] [(33, (aG (decide ((0 : Int) ≤ i12))))] ?_
    refine bW h1 (fun h1 => ?_) (fun h1 => ?_)
    · refine bT ?_
      refine bC [(0, (.msl 2 lo0p 0 (List.length aA))), (3, (.fn (.func cmp3_f) cmp3_a cmp3_c)), (8, (eI bL)), (9, (eI lo9)), (12, (eI i12))] ?_
      refine aP ?_
      refine cH 3 ?_
      refine aP ?_
      refine jS (iZ []) aF 20 ?_
      obtain ⟨c2, h1⟩ := bB h1
      refine cP 11 [0 ≤ (wR (bL + i12)) ∧ (wR (bL + i12)) < (lN aA)] ⟨c2, trivial⟩ ?_
      refine jP 0 lo0p 2 (0 + Int.toNat (wR (bL + i12))) (aB (gD aA (wR (bL + i12)))) (aB (gD aA (wR (bL + i12)))) (List.map aB aA) hO (cB c2) ?_
      obtain ⟨c3, h1⟩ := bB h1
      refine cP 15 [0 ≤ bL ∧ bL < (lN aA)] ⟨c3, trivial⟩ ?_
      refine jP 0 lo0p 2 (0 + Int.toNat bL) (aB (gD aA bL)) (aB (gD aA bL)) (List.map aB aA) hO (cB c3) ?_
      obtain ⟨c4, h1⟩ := bB h1
      refine cP 17 [0 ≤ bL ∧ bL < (lN aA)] ⟨c4, trivial⟩ ?_
      refine nL 0 lo0p 2 (0 + Int.toNat bL) (aB (gD aA bL)) (aB (gD aA (wR (bL + i12)))) (List.map aB aA) [(lo0p, 2, List.map aB (List.set aA (Int.toNat bL) (gD aA (wR (bL + i12)))))] hO (cB c4) (by simp only [List.set, lO]) ?_
      intro H hO
      replace hN : List.length (List.set aA (Int.toNat bL) (gD aA (wR (bL + i12)))) = N0 := by simpa using hN
      obtain ⟨c5, h1⟩ := bB h1
      refine cP 19 [0 ≤ (wR (bL + i12)) ∧ (wR (bL + i12)) < (lN aA)] ⟨c5, trivial⟩ ?_
      refine nL 0 lo0p 2 (0 + Int.toNat (wR (bL + i12))) (aB (gD (List.set aA (Int.toNat bL) (gD aA (wR (bL + i12)))) (wR (bL + i12)))) (aB (gD aA bL)) (List.map aB (List.set aA (Int.toNat bL) (gD aA (wR (bL + i12))))) [(lo0p, 2, List.map aB (List.set (List.set aA (Int.toNat bL) (gD aA (wR (bL + i12)))) (Int.toNat (wR (bL + i12))) (gD aA bL)))] hO (qU c5 (by simp [])) (by simp only [List.set, lO]) ?_
      intro H hO
      replace hN : List.length (List.set (List.set aA (Int.toNat bL) (gD aA (wR (bL + i12)))) (Int.toNat (wR (bL + i12))) (gD aA bL)) = N0 := by simpa using hN
      refine oX (by kernel_rfl) ?_
      refine dX (l := [(0, (.msl 2 lo0p 0 (List.length (List.set (List.set aA (Int.toNat bL) (gD aA (wR (bL + i12)))) (Int.toNat (wR (bL + i12))) (gD aA bL))))), (3, (.fn (.func cmp3_f) cmp3_a cmp3_c)), (8, (eI bL)), (9, (eI lo9)), (12, (eI i12))]) ⟨[(0, (.msl 2 lo0p 0 (List.length aA))), (3, (.fn (.func cmp3_f) cmp3_a cmp3_c)), (8, (eI bL)), (9, (eI lo9)), (12, (eI i12))], by kernel_rfl, rfl, ⟨aQ.eq (by simp []), aQ.refl _, aQ.refl _, aQ.refl _, aQ.refl _, trivial⟩⟩ ?_
      refine aK (aJ (?_))
      refine aU aF 6 ?_
      refine bQ 5 ?_
      obtain ⟨x6, hx7, h1⟩ := aZ h1
      refine DP [(lo0p, 2, List.map aB x6)] 0 (sH lo0p (List.set (List.set aA (Int.toNat bL) (gD aA (wR (bL + i12)))) (Int.toNat (wR (bL + i12))) (gD aA bL)) lo9 i12 bL cmp3_f cmp3_a cmp3_c cmp3 cmp3_h _ hx7) hO ?_
      intro H hO hl8
      simp only [List.length_map] at hl8
      replace hN := hl8.trans hN
      refine eW ?_
      refine dX (l := [(0, (.msl 2 lo0p 0 (List.length x6))), (3, (.fn (.func cmp3_f) cmp3_a cmp3_c)), (8, (eI bL)), (9, (eI lo9)), (12, (eI i12))]) ⟨[(0, (.msl 2 lo0p 0 (List.length (List.set (List.set aA (Int.toNat bL) (gD aA (wR (bL + i12)))) (Int.toNat (wR (bL + i12))) (gD aA bL))))), (3, (.fn (.func cmp3_f) cmp3_a cmp3_c)), (8, (eI bL)), (9, (eI lo9)), (12, (eI i12))], by kernel_rfl, rfl, ⟨aQ.eq (by simp [hl8]), aQ.refl _, aQ.refl _, aQ.refl _, aQ.refl _, trivial⟩⟩ ?_
      refine aK (bD (aJ (?_)))
      refine aU aF 3 ?_
      refine bG ?_
      exact aK (aJ (⟨rfl, _, (oI h1).symm, bF, hO, hN⟩))
    refine lM 2 ?_
    obtain rfl := oI h1
    obtain rfl : _ = rr0 := ho0
    replace h0 : some aA = some r := h0
    obtain rfl := oI h0
    exact aK (aX (aX (cC (FQ (x := (.tup [])) (by kernel_rfl) (aQ.refl _) ⟨rfl, hO.ext, hO.at 0 (by kernel_rfl), by first | rfl | (simp only [List.length_map]; exact hN.trans hN0)⟩))))
  refine aP ?_
  refine aU aF 4 ?_
  obtain ⟨c9, h0⟩ := bB h0
  refine sW [(2 : Int) ≠ 0] ⟨c9, trivial⟩ ?_
  refine cQ [] [(11, (eI (wR (Int.tdiv (wR ((wR (b2 - a1)) - (1 : Int))) (2 : Int)))))] ?_
  refine cH 0 ?_
  refine mD [(0, (.msl 2 lo0p 0 (List.length aA))), (3, (.fn (.func cmp3_f) cmp3_a cmp3_c)), (8, (eI a1)), (9, (eI (0 : Int))), (10, (eI (wR (b2 - a1)))), (11, (eI (wR (Int.tdiv (wR ((wR (b2 - a1)) - (1 : Int))) (2 : Int)))))] ?_
  refine kZ (fun T H => ∃ aA : List aC, ∃ bL : Int, ∃ lo9 : Int, ∃ hi10 : Int, ∃ i11 : Int, Has T [(0, (.msl 2 lo0p 0 (List.length aA))), (3, (.fn (.func cmp3_f) cmp3_a cmp3_c)), (8, (eI bL)), (9, (eI lo9)), (10, (eI hi10)), (11, (eI i11))] ∧ aN ⟨H0, [lo0p], []⟩ H [(lo0p, 2, List.map aB aA)] ∧ List.length aA = N0 ∧ kC cmp3 aA bL lo9 hi10 i11 = some r) ?_ ⟨aA, a1, (0 : Int), wR (b2 - a1), wR (Int.tdiv (wR ((wR (b2 - a1)) - (1 : Int))) (2 : Int)), bF, hO, hN, h0⟩
  clear hO hN h0
  rintro T H ⟨aA, bL, lo9, hi10, i11, hT, hO, hN, h0⟩
  refine bO hT ?_
  clear hT
  unfold kC at h0
  obtain ⟨rr0, hl0, h0⟩ := aZ h0
  refine mQ (fun (s : List aC × Int) T H => Has T [(0, (.msl 2 lo0p 0 (List.length s.1))), (3, (.fn (.func cmp3_f) cmp3_a cmp3_c)), (8, (eI bL)), (9, (eI lo9)), (10, (eI hi10)), (11, (eI s.2))] ∧ aN ⟨H0, [lo0p], []⟩ H [(lo0p, 2, List.map aB s.1)] ∧ List.length s.1 = N0) hl0 ⟨bF, hO, hN⟩ ?_
  clear hO hN
  rintro k0 s out1 T H ⟨hT, hO, hN⟩ h1 ho0
  obtain ⟨aA, i11⟩ := s
  replace h1 : kE cmp3 bL lo9 hi10 aA i11 = some out1 := h1
  try dsimp only at hT
  refine bO hT ?_
  clear hT
  unfold kE at h1
  refine aP ?_
  refine aY aF 2 [] [(21, (aG (decide ((0 : Int) ≤ i11))))] ?_
  refine bW h1 (fun h1 => ?_) (fun h1 => ?_)
  · refine bT ?_
    refine bC [(0, (.msl 2 lo0p 0 (List.length aA))), (3, (.fn (.func cmp3_f) cmp3_a cmp3_c)), (8, (eI bL)), (9, (eI lo9)), (10, (eI hi10)), (11, (eI i11))] ?_
    refine aP ?_
    refine cH 1 ?_
    refine aU aF 6 ?_
    refine bQ 5 ?_
    obtain ⟨x11, hx12, h1⟩ := aZ h1
    refine DP [(lo0p, 2, List.map aB x11)] 0 (sH lo0p aA i11 hi10 bL cmp3_f cmp3_a cmp3_c cmp3 cmp3_h _ hx12) hO ?_
    intro H hO hl13
    simp only [List.length_map] at hl13
    replace hN := hl13.trans hN
    refine eW ?_
    refine dX (l := [(0, (.msl 2 lo0p 0 (List.length x11))), (3, (.fn (.func cmp3_f) cmp3_a cmp3_c)), (8, (eI bL)), (9, (eI lo9)), (10, (eI hi10)), (11, (eI i11))]) ⟨[(0, (.msl 2 lo0p 0 (List.length aA))), (3, (.fn (.func cmp3_f) cmp3_a cmp3_c)), (8, (eI bL)), (9, (eI lo9)), (10, (eI hi10)), (11, (eI i11))], by kernel_rfl, rfl, ⟨aQ.eq (by simp [hl13]), aQ.refl _, aQ.refl _, aQ.refl _, aQ.refl _, aQ.refl _, trivial⟩⟩ ?_
    refine aK (bD (aJ (?_)))
    refine aU aF 3 ?_
    refine bG ?_
    exact aK (aJ (⟨rfl, _, (oI h1).symm, bF, hO, hN⟩))
  refine lM 0 ?_
  obtain rfl := oI h1
  obtain rfl : _ = rr0 := ho0
  replace h0 : gL cmp3 aA bL lo9 hi10 = some r := h0
  exact aK (aX (aX (cC (aJ (⟨rfl, _, _, _, _, bF, hO, hN, h0⟩)))))

theorem IK (LA : Int) (r : Int) (h0 : mW LA = some r) : dK Try.prog 70 [(eI LA)] (bN .u64 r) := by
  intro H0
  refine dP Try.func70 ?_
  have hO := aN.start H0
  unfold mW at h0
  refine aY aF 1 [] [] ?_
  refine aP ?_
  refine aU aF 5 ?_
  refine bQ 2 ?_
  obtain ⟨x1, hx2, h0⟩ := aZ h0
  refine iY (IX (IntKind.u64.wrap LA) _ hx2) hO ?_
  intro H hO
  obtain ⟨c4, h0⟩ := bB h0
  refine sW [0 ≤ x1] ⟨c4, trivial⟩ ?_
  refine bC [(2, (bN .u64 (IntKind.u64.wrap ((1 : Int) * 2 ^ (min (Int.toNat x1) 64)))))] ?_
  refine bR ?_
  obtain rfl := oI h0
  exact aK (Q_r hO)

theorem KQ (lo0p : Nat) (r0 : Int) (r : (Int × Int)) (h0 : nH r0 = some r) : PX Try.prog 71 [(.lp lo0p 0 0)] [(lo0p, 1, [(bN .u64 r0)])] (fun x L => x = (bN .u64 r.1) ∧ L = [(lo0p, 1, [(bN .u64 r.2)])]) := by
  intro F H0 hO
  obtain ⟨Fh, Fe, Fg⟩ := F
  refine dP Try.func71 ?_
  unfold nH at h0
  refine aY aF 1 [] [] ?_
  refine aP ?_
  refine jS (iZ []) aF 10 ?_
  refine qD 2 ?_
  refine jP 0 lo0p 1 0 (bN .u64 r0) (bN .u64 r0) [(bN .u64 r0)] hO rfl ?_
  refine qD 5 ?_
  refine jP 0 lo0p 1 0 (bN .u64 r0) (bN .u64 r0) [(bN .u64 r0)] hO rfl ?_
  obtain ⟨c1, h0⟩ := bB h0
  refine cP 9 [0 ≤ (13 : Int)] ⟨c1, trivial⟩ ?_
  refine nL 0 lo0p 1 0 (bN .u64 r0) (bN .u64 (bM .xor .u64 r0 (IntKind.u64.wrap (r0 * 2 ^ (min (Int.toNat (13 : Int)) 64))))) [(bN .u64 r0)] [(lo0p, 1, [(bN .u64 (bM .xor .u64 r0 (IntKind.u64.wrap (r0 * 2 ^ (min (Int.toNat (13 : Int)) 64)))))])] hO rfl (by kernel_rfl) ?_
  intro H hO
  refine oX (by kernel_rfl) ?_
  refine cQ [] [] ?_
  refine aP ?_
  refine jS (iZ []) aF 10 ?_
  refine qD 2 ?_
  refine jP 0 lo0p 1 0 (bN .u64 (bM .xor .u64 r0 (IntKind.u64.wrap (r0 * 2 ^ (min (Int.toNat (13 : Int)) 64))))) (bN .u64 (bM .xor .u64 r0 (IntKind.u64.wrap (r0 * 2 ^ (min (Int.toNat (13 : Int)) 64))))) [(bN .u64 (bM .xor .u64 r0 (IntKind.u64.wrap (r0 * 2 ^ (min (Int.toNat (13 : Int)) 64)))))] hO rfl ?_
  refine qD 5 ?_
  refine jP 0 lo0p 1 0 (bN .u64 (bM .xor .u64 r0 (IntKind.u64.wrap (r0 * 2 ^ (min (Int.toNat (13 : Int)) 64))))) (bN .u64 (bM .xor .u64 r0 (IntKind.u64.wrap (r0 * 2 ^ (min (Int.toNat (13 : Int)) 64))))) [(bN .u64 (bM .xor .u64 r0 (IntKind.u64.wrap (r0 * 2 ^ (min (Int.toNat (13 : Int)) 64)))))] hO rfl ?_
  obtain ⟨c2, h0⟩ := bB h0
  refine cP 9 [0 ≤ (7 : Int)] ⟨c2, trivial⟩ ?_
  refine nL 0 lo0p 1 0 (bN .u64 (bM .xor .u64 r0 (IntKind.u64.wrap (r0 * 2 ^ (min (Int.toNat (13 : Int)) 64))))) (bN .u64 (bM .xor .u64 (bM .xor .u64 r0 (IntKind.u64.wrap (r0 * 2 ^ (min (Int.toNat (13 : Int)) 64)))) (Int.fdiv (bM .xor .u64 r0 (IntKind.u64.wrap (r0 * 2 ^ (min (Int.toNat (13 : Int)) 64)))) (2 ^ (min (Int.toNat (7 : Int)) 64))))) [(bN .u64 (bM .xor .u64 r0 (IntKind.u64.wrap (r0 * 2 ^ (min (Int.toNat (13 : Int)) 64)))))] [(lo0p, 1, [(bN .u64 (bM .xor .u64 (bM .xor .u64 r0 (IntKind.u64.wrap (r0 * 2 ^ (min (Int.toNat (13 : Int)) 64)))) (Int.fdiv (bM .xor .u64 r0 (IntKind.u64.wrap (r0 * 2 ^ (min (Int.toNat (13 : Int)) 64)))) (2 ^ (min (Int.toNat (7 : Int)) 64)))))])] hO rfl (by kernel_rfl) ?_
  intro H hO
  refine oX (by kernel_rfl) ?_
  refine cQ [] [] ?_
  refine aP ?_
  refine jS (iZ []) aF 10 ?_
  refine qD 2 ?_
  refine jP 0 lo0p 1 0 (bN .u64 (bM .xor .u64 (bM .xor .u64 r0 (IntKind.u64.wrap (r0 * 2 ^ (min (Int.toNat (13 : Int)) 64)))) (Int.fdiv (bM .xor .u64 r0 (IntKind.u64.wrap (r0 * 2 ^ (min (Int.toNat (13 : Int)) 64)))) (2 ^ (min (Int.toNat (7 : Int)) 64))))) (bN .u64 (bM .xor .u64 (bM .xor .u64 r0 (IntKind.u64.wrap (r0 * 2 ^ (min (Int.toNat (13 : Int)) 64)))) (Int.fdiv (bM .xor .u64 r0 (IntKind.u64.wrap (r0 * 2 ^ (min (Int.toNat (13 : Int)) 64)))) (2 ^ (min (Int.toNat (7 : Int)) 64))))) [(bN .u64 (bM .xor .u64 (bM .xor .u64 r0 (IntKind.u64.wrap (r0 * 2 ^ (min (Int.toNat (13 : Int)) 64)))) (Int.fdiv (bM .xor .u64 r0 (IntKind.u64.wrap (r0 * 2 ^ (min (Int.toNat (13 : Int)) 64)))) (2 ^ (min (Int.toNat (7 : Int)) 64)))))] hO rfl ?_
  refine qD 5 ?_
  refine jP 0 lo0p 1 0 (bN .u64 (bM .xor .u64 (bM .xor .u64 r0 (IntKind.u64.wrap (r0 * 2 ^ (min (Int.toNat (13 : Int)) 64)))) (Int.fdiv (bM .xor .u64 r0 (IntKind.u64.wrap (r0 * 2 ^ (min (Int.toNat (13 : Int)) 64)))) (2 ^ (min (Int.toNat (7 : Int)) 64))))) (bN .u64 (bM .xor .u64 (bM .xor .u64 r0 (IntKind.u64.wrap (r0 * 2 ^ (min (Int.toNat (13 : Int)) 64)))) (Int.fdiv (bM .xor .u64 r0 (IntKind.u64.wrap (r0 * 2 ^ (min (Int.toNat (13 : Int)) 64)))) (2 ^ (min (Int.toNat (7 : Int)) 64))))) [(bN .u64 (bM .xor .u64 (bM .xor .u64 r0 (IntKind.u64.wrap (r0 * 2 ^ (min (Int.toNat (13 : Int)) 64)))) (Int.fdiv (bM .xor .u64 r0 (IntKind.u64.wrap (r0 * 2 ^ (min (Int.toNat (13 : Int)) 64)))) (2 ^ (min (Int.toNat (7 : Int)) 64)))))] hO rfl ?_
  obtain ⟨c3, h0⟩ := bB h0
  refine cP 9 [0 ≤ (17 : Int)] ⟨c3, trivial⟩ ?_
  refine nL 0 lo0p 1 0 (bN .u64 (bM .xor .u64 (bM .xor .u64 r0 (IntKind.u64.wrap (r0 * 2 ^ (min (Int.toNat (13 : Int)) 64)))) (Int.fdiv (bM .xor .u64 r0 (IntKind.u64.wrap (r0 * 2 ^ (min (Int.toNat (13 : Int)) 64)))) (2 ^ (min (Int.toNat (7 : Int)) 64))))) (bN .u64 (bM .xor .u64 (bM .xor .u64 (bM .xor .u64 r0 (IntKind.u64.wrap (r0 * 2 ^ (min (Int.toNat (13 : Int)) 64)))) (Int.fdiv (bM .xor .u64 r0 (IntKind.u64.wrap (r0 * 2 ^ (min (Int.toNat (13 : Int)) 64)))) (2 ^ (min (Int.toNat (7 : Int)) 64)))) (IntKind.u64.wrap ((bM .xor .u64 (bM .xor .u64 r0 (IntKind.u64.wrap (r0 * 2 ^ (min (Int.toNat (13 : Int)) 64)))) (Int.fdiv (bM .xor .u64 r0 (IntKind.u64.wrap (r0 * 2 ^ (min (Int.toNat (13 : Int)) 64)))) (2 ^ (min (Int.toNat (7 : Int)) 64)))) * 2 ^ (min (Int.toNat (17 : Int)) 64))))) [(bN .u64 (bM .xor .u64 (bM .xor .u64 r0 (IntKind.u64.wrap (r0 * 2 ^ (min (Int.toNat (13 : Int)) 64)))) (Int.fdiv (bM .xor .u64 r0 (IntKind.u64.wrap (r0 * 2 ^ (min (Int.toNat (13 : Int)) 64)))) (2 ^ (min (Int.toNat (7 : Int)) 64)))))] [(lo0p, 1, [(bN .u64 (bM .xor .u64 (bM .xor .u64 (bM .xor .u64 r0 (IntKind.u64.wrap (r0 * 2 ^ (min (Int.toNat (13 : Int)) 64)))) (Int.fdiv (bM .xor .u64 r0 (IntKind.u64.wrap (r0 * 2 ^ (min (Int.toNat (13 : Int)) 64)))) (2 ^ (min (Int.toNat (7 : Int)) 64)))) (IntKind.u64.wrap ((bM .xor .u64 (bM .xor .u64 r0 (IntKind.u64.wrap (r0 * 2 ^ (min (Int.toNat (13 : Int)) 64)))) (Int.fdiv (bM .xor .u64 r0 (IntKind.u64.wrap (r0 * 2 ^ (min (Int.toNat (13 : Int)) 64)))) (2 ^ (min (Int.toNat (7 : Int)) 64)))) * 2 ^ (min (Int.toNat (17 : Int)) 64)))))])] hO rfl (by kernel_rfl) ?_
  intro H hO
  refine oX (by kernel_rfl) ?_
  refine cQ [] [] ?_
  refine aP ?_
  refine aU aF 4 ?_
  refine bQ 2 ?_
  refine oH 0 lo0p 1 0 (bN .u64 (bM .xor .u64 (bM .xor .u64 (bM .xor .u64 r0 (IntKind.u64.wrap (r0 * 2 ^ (min (Int.toNat (13 : Int)) 64)))) (Int.fdiv (bM .xor .u64 r0 (IntKind.u64.wrap (r0 * 2 ^ (min (Int.toNat (13 : Int)) 64)))) (2 ^ (min (Int.toNat (7 : Int)) 64)))) (IntKind.u64.wrap ((bM .xor .u64 (bM .xor .u64 r0 (IntKind.u64.wrap (r0 * 2 ^ (min (Int.toNat (13 : Int)) 64)))) (Int.fdiv (bM .xor .u64 r0 (IntKind.u64.wrap (r0 * 2 ^ (min (Int.toNat (13 : Int)) 64)))) (2 ^ (min (Int.toNat (7 : Int)) 64)))) * 2 ^ (min (Int.toNat (17 : Int)) 64))))) (bN .u64 (bM .xor .u64 (bM .xor .u64 (bM .xor .u64 r0 (IntKind.u64.wrap (r0 * 2 ^ (min (Int.toNat (13 : Int)) 64)))) (Int.fdiv (bM .xor .u64 r0 (IntKind.u64.wrap (r0 * 2 ^ (min (Int.toNat (13 : Int)) 64)))) (2 ^ (min (Int.toNat (7 : Int)) 64)))) (IntKind.u64.wrap ((bM .xor .u64 (bM .xor .u64 r0 (IntKind.u64.wrap (r0 * 2 ^ (min (Int.toNat (13 : Int)) 64)))) (Int.fdiv (bM .xor .u64 r0 (IntKind.u64.wrap (r0 * 2 ^ (min (Int.toNat (13 : Int)) 64)))) (2 ^ (min (Int.toNat (7 : Int)) 64)))) * 2 ^ (min (Int.toNat (17 : Int)) 64))))) [(bN .u64 (bM .xor .u64 (bM .xor .u64 (bM .xor .u64 r0 (IntKind.u64.wrap (r0 * 2 ^ (min (Int.toNat (13 : Int)) 64)))) (Int.fdiv (bM .xor .u64 r0 (IntKind.u64.wrap (r0 * 2 ^ (min (Int.toNat (13 : Int)) 64)))) (2 ^ (min (Int.toNat (7 : Int)) 64)))) (IntKind.u64.wrap ((bM .xor .u64 (bM .xor .u64 r0 (IntKind.u64.wrap (r0 * 2 ^ (min (Int.toNat (13 : Int)) 64)))) (Int.fdiv (bM .xor .u64 r0 (IntKind.u64.wrap (r0 * 2 ^ (min (Int.toNat (13 : Int)) 64)))) (2 ^ (min (Int.toNat (7 : Int)) 64)))) * 2 ^ (min (Int.toNat (17 : Int)) 64)))))] hO rfl ?_
  refine bG ?_
  refine bC [(0, (.lp lo0p 0 0)), (2, (bN .u64 (bM .xor .u64 (bM .xor .u64 (bM .xor .u64 r0 (IntKind.u64.wrap (r0 * 2 ^ (min (Int.toNat (13 : Int)) 64)))) (Int.fdiv (bM .xor .u64 r0 (IntKind.u64.wrap (r0 * 2 ^ (min (Int.toNat (13 : Int)) 64)))) (2 ^ (min (Int.toNat (7 : Int)) 64)))) (IntKind.u64.wrap ((bM .xor .u64 (bM .xor .u64 r0 (IntKind.u64.wrap (r0 * 2 ^ (min (Int.toNat (13 : Int)) 64)))) (Int.fdiv (bM .xor .u64 r0 (IntKind.u64.wrap (r0 * 2 ^ (min (Int.toNat (13 : Int)) 64)))) (2 ^ (min (Int.toNat (7 : Int)) 64)))) * 2 ^ (min (Int.toNat (17 : Int)) 64))))))] ?_
  refine bR ?_
  obtain rfl := oI h0
  exact aK (OS hO ⟨rfl, rfl⟩)

theorem wI (lo0p : Nat) (aA : (List aC)) (a1 : Int) (b2 : Int) (cmp3_f : Nat) (cmp3_a cmp3_c : List V) (cmp3 : aC → aC → Option Int) (cmp3_h : ∀ a0 a1 r, cmp3 a0 a1 = some r → dK Try.prog cmp3_f (cmp3_a ++ [(aB a0), (aB a1)] ++ cmp3_c) (eI r)) (r : List aC) (h0 : iF aA a1 b2 cmp3 = some r) : rU Try.prog 53 lo0p 2 (List.map aB aA) (List.map aB r) [(.msl 2 lo0p 0 (List.length aA)), (eI a1), (eI b2), (.fn (.func cmp3_f) cmp3_a cmp3_c)] (.tup []) := by
  intro H0 hl0
  refine dP Try.func53 ?_
  have hO := aN.uP hl0
  clear hl0
  obtain ⟨N0, hN0⟩ : ∃ n, n = List.length aA := ⟨_, rfl⟩
  have hN : List.length aA = N0 := hN0.symm
  unfold iF at h0
  refine aY aF 4 [2, 3] [(8, (eI (wR (b2 - a1))))] ?_
  refine aY aF 2 [] [(17, (aG (decide ((8 : Int) ≤ (wR (b2 - a1))))))] ?_
  refine bW h0 (fun h0 => ?_) (fun h0 => ?_)
  · refine aP ?_
    refine aU aF 4 ?_
    refine bQ 2 ?_
    refine qT 1 (bN .u64 0) (by kernel_rfl) (by kernel_rfl) hO ?_
    intro lo2 H hO
    refine pI 1 lo2 1 0 (bN .u64 0) (bN .u64 (IntKind.u64.wrap (wR (b2 - a1)))) [(bN .u64 0)] [(lo0p, 2, List.map aB aA), (lo2, 1, [(bN .u64 (IntKind.u64.wrap (wR (b2 - a1))))])] hO rfl (by kernel_rfl) ?_
    intro H hO
    refine eW ?_
    refine cQ [17] [(9, (.lp lo2 0 0))] ?_
    refine aP ?_
    refine aU aF 3 ?_
    refine bQ 1 ?_
    obtain ⟨x3, hx4, h0⟩ := aZ h0
    refine iY (IK (wR (b2 - a1)) _ hx4) hO ?_
    intro H hO
    refine bG ?_
    refine cQ [] [(10, (bN .u64 x3))] ?_
    refine aP ?_
    refine aU aF 7 ?_
    obtain ⟨c6, h0⟩ := bB h0
    refine sW [(4 : Int) ≠ 0] ⟨c6, trivial⟩ ?_
    refine bC [(0, (.msl 2 lo0p 0 (List.length aA))), (1, (eI a1)), (8, (eI (wR (b2 - a1)))), (9, (.lp lo2 0 0)), (10, (bN .u64 x3)), (11, (eI (wR ((wR (a1 + (wR ((wR (Int.tdiv (wR (b2 - a1)) (4 : Int))) * (2 : Int))))) - (1 : Int)))))] ?_
    refine cH 0 ?_
    refine mD [(0, (.msl 2 lo0p 0 (List.length aA))), (1, (eI a1)), (8, (eI (wR (b2 - a1)))), (9, (.lp lo2 0 0)), (10, (bN .u64 x3)), (11, (eI (wR ((wR (a1 + (wR ((wR (Int.tdiv (wR (b2 - a1)) (4 : Int))) * (2 : Int))))) - (1 : Int)))))] ?_
    refine kZ (fun T H => ∃ aA : List aC, ∃ iU : Int, ∃ kU : Int, ∃ eH : Int, ∃ eT : Int, Has T [(0, (.msl 2 lo0p 0 (List.length aA))), (1, (eI a1)), (8, (eI iU)), (9, (.lp lo2 0 0)), (10, (bN .u64 eH)), (11, (eI eT))] ∧ aN ⟨H0, [lo0p], []⟩ H [(lo0p, 2, List.map aB aA), (lo2, 1, [(bN .u64 kU)])] ∧ List.length aA = N0 ∧ gR cmp3 aA a1 iU kU eH eT = some r) ?_ ⟨aA, wR (b2 - a1), IntKind.u64.wrap (wR (b2 - a1)), x3, wR ((wR (a1 + (wR ((wR (Int.tdiv (wR (b2 - a1)) (4 : Int))) * (2 : Int))))) - (1 : Int)), bF, hO, hN, h0⟩
    clear hO hN h0
    rintro T H ⟨aA, iU, kU, eH, eT, hT, hO, hN, h0⟩
    refine bO hT ?_
    clear hT
    unfold gR at h0
    obtain ⟨rr0, hl0, h0⟩ := aZ h0
    refine mQ (fun (s : List aC × Int × Int) T H => Has T [(0, (.msl 2 lo0p 0 (List.length s.1))), (1, (eI a1)), (8, (eI iU)), (9, (.lp lo2 0 0)), (10, (bN .u64 eH)), (11, (eI s.2.2))] ∧ aN ⟨H0, [lo0p], []⟩ H [(lo0p, 2, List.map aB s.1), (lo2, 1, [(bN .u64 s.2.1)])] ∧ List.length s.1 = N0) hl0 ⟨bF, hO, hN⟩ ?_
    clear hO hN
    rintro k0 s out1 T H ⟨hT, hO, hN⟩ h1 ho0
    obtain ⟨aA, kU, eT⟩ := s
    replace h1 : gX cmp3 a1 iU eH aA kU eT = some out1 := h1
    try dsimp only at hT
    refine bO hT ?_
    clear hT
    unfold gX at h1
    refine aP ?_
    refine aP ?_
    refine aU aF 8 ?_
    obtain ⟨c7, h1⟩ := bB h1
    refine sW [(4 : Int) ≠ 0] ⟨c7, trivial⟩ ?_
    refine cQ [] [(35, (aG (decide (eT ≤ (wR ((wR (a1 + (wR ((wR (Int.tdiv iU (4 : Int))) * (2 : Int))))) + (1 : Int)))))))] ?_
    refine bW h1 (fun h1 => ?_) (fun h1 => ?_)
    · refine bT ?_
      refine bC [(0, (.msl 2 lo0p 0 (List.length aA))), (1, (eI a1)), (8, (eI iU)), (9, (.lp lo2 0 0)), (10, (bN .u64 eH)), (11, (eI eT))] ?_
      refine aP ?_
      refine cH 1 ?_
      refine aP ?_
      refine aU aF 6 ?_
      obtain ⟨x9, hx10, h1⟩ := aZ h1
      refine JX [(lo0p, 2, List.map aB aA)] [1, 0] (KQ lo2 kU _ hx10) hO ?_
      intro r11 L12 H hP13 hO
      obtain ⟨rfl, rfl⟩ := hP13
      replace hO : aN ⟨H0, [lo0p], []⟩ H [(lo2, 1, [(bN .u64 x9.2)]), (lo0p, 2, List.map aB aA)] := hO
      refine bG ?_
      replace hO := hO.pick (L' := [(lo0p, 2, List.map aB aA), (lo2, 1, [(bN .u64 x9.2)])]) [1, 0] (by decide) (by kernel_rfl)
      refine cQ [] [(12, (eI (wR (bM .and .u64 x9.1 (IntKind.u64.wrap (eH - (1 : Int)))))))] ?_
      refine lT (fun T H => ∃ aA : List aC, ∃ kU : Int, ∃ gO : Int, Has T [(0, (.msl 2 lo0p 0 (List.length aA))), (1, (eI a1)), (8, (eI iU)), (9, (.lp lo2 0 0)), (10, (bN .u64 eH)), (11, (eI eT)), (12, (eI gO))] ∧ aN ⟨H0, [lo0p], []⟩ H [(lo0p, 2, List.map aB aA), (lo2, 1, [(bN .u64 kU)])] ∧ List.length aA = N0 ∧ eU cmp3 aA a1 iU kU eH eT gO = some out1) ?_ ?_
      · clear hO hN h1
        rintro T H ⟨aA, kU, gO, hT, hO, hN, h1⟩
        refine bO hT ?_
        clear hT
        unfold eU at h1
        refine jS (iZ []) aF 20 ?_
        obtain ⟨c14, h1⟩ := bB h1
        refine cP 11 [0 ≤ (wR (a1 + gO)) ∧ (wR (a1 + gO)) < (lN aA)] ⟨c14, trivial⟩ ?_
        refine jP 0 lo0p 2 (0 + Int.toNat (wR (a1 + gO))) (aB (gD aA (wR (a1 + gO)))) (aB (gD aA (wR (a1 + gO)))) (List.map aB aA) hO (cB c14) ?_
        obtain ⟨c15, h1⟩ := bB h1
        refine cP 15 [0 ≤ eT ∧ eT < (lN aA)] ⟨c15, trivial⟩ ?_
        refine jP 0 lo0p 2 (0 + Int.toNat eT) (aB (gD aA eT)) (aB (gD aA eT)) (List.map aB aA) hO (cB c15) ?_
        obtain ⟨c16, h1⟩ := bB h1
        refine cP 17 [0 ≤ eT ∧ eT < (lN aA)] ⟨c16, trivial⟩ ?_
        refine nL 0 lo0p 2 (0 + Int.toNat eT) (aB (gD aA eT)) (aB (gD aA (wR (a1 + gO)))) (List.map aB aA) [(lo0p, 2, List.map aB (List.set aA (Int.toNat eT) (gD aA (wR (a1 + gO))))), (lo2, 1, [(bN .u64 kU)])] hO (cB c16) (by simp only [List.set, lO]) ?_
        intro H hO
        replace hN : List.length (List.set aA (Int.toNat eT) (gD aA (wR (a1 + gO)))) = N0 := by simpa using hN
        obtain ⟨c17, h1⟩ := bB h1
        refine cP 19 [0 ≤ (wR (a1 + gO)) ∧ (wR (a1 + gO)) < (lN aA)] ⟨c17, trivial⟩ ?_
        refine nL 0 lo0p 2 (0 + Int.toNat (wR (a1 + gO))) (aB (gD (List.set aA (Int.toNat eT) (gD aA (wR (a1 + gO)))) (wR (a1 + gO)))) (aB (gD aA eT)) (List.map aB (List.set aA (Int.toNat eT) (gD aA (wR (a1 + gO))))) [(lo0p, 2, List.map aB (List.set (List.set aA (Int.toNat eT) (gD aA (wR (a1 + gO)))) (Int.toNat (wR (a1 + gO))) (gD aA eT))), (lo2, 1, [(bN .u64 kU)])] hO (qU c17 (by simp [])) (by simp only [List.set, lO]) ?_
        intro H hO
        replace hN : List.length (List.set (List.set aA (Int.toNat eT) (gD aA (wR (a1 + gO)))) (Int.toNat (wR (a1 + gO))) (gD aA eT)) = N0 := by simpa using hN
        refine oX (by kernel_rfl) ?_
        refine dX (l := [(0, (.msl 2 lo0p 0 (List.length (List.set (List.set aA (Int.toNat eT) (gD aA (wR (a1 + gO)))) (Int.toNat (wR (a1 + gO))) (gD aA eT))))), (1, (eI a1)), (8, (eI iU)), (9, (.lp lo2 0 0)), (10, (bN .u64 eH)), (11, (eI eT))]) ⟨[(0, (.msl 2 lo0p 0 (List.length aA))), (1, (eI a1)), (8, (eI iU)), (9, (.lp lo2 0 0)), (10, (bN .u64 eH)), (11, (eI eT))], by kernel_rfl, rfl, ⟨aQ.eq (by simp []), aQ.refl _, aQ.refl _, aQ.refl _, aQ.refl _, aQ.refl _, trivial⟩⟩ ?_
        refine aK (bD (aJ (?_)))
        refine aU aF 3 ?_
        refine bG ?_
        exact aK (aJ (⟨rfl, _, (oI h1).symm, bF, hO, hN⟩))
      refine aY aF 3 [] [(45, (aG (decide (iU ≤ (wR (bM .and .u64 x9.1 (IntKind.u64.wrap (eH - (1 : Int)))))))))] ?_
      refine bW h1 (fun h1 => ?_) (fun h1 => ?_)
      · refine aU aF 4 ?_
        refine bG ?_
        exact aK (aJ (⟨rfl, _, _, _, bF, hO, hN, h1⟩))
      refine bT ?_
      exact aK (aJ (⟨rfl, _, _, _, bF, hO, hN, h1⟩))
    refine lM 0 ?_
    replace hO := hO.pick (L' := [(lo0p, 2, List.map aB aA)]) [0] (by decide) (by kernel_rfl)
    obtain rfl := oI h1
    obtain rfl : _ = rr0 := ho0
    replace h0 : some aA = some r := h0
    obtain rfl := oI h0
    exact aK (aX (aX (cC (FQ (x := (.tup [])) (by kernel_rfl) (aQ.refl _) ⟨rfl, hO.ext, hO.at 0 (by kernel_rfl), by first | rfl | (simp only [List.length_map]; exact hN.trans hN0)⟩))))
  refine bT ?_
  obtain rfl := oI h0
  exact aK (FQ (x := (.tup [])) (by kernel_rfl) (aQ.refl _) ⟨rfl, hO.ext, hO.at 0 (by kernel_rfl), by first | rfl | (simp only [List.length_map]; exact hN.trans hN0)⟩)

theorem qB (lo0p : Nat) (aA : (List aC)) (a1 : Int) (b2 : Int) (lo3p : Nat) (qQ : Int) (cmp4_f : Nat) (cmp4_a cmp4_c : List V) (cmp4 : aC → aC → Option Int) (cmp4_h : ∀ a0 a1 r, cmp4 a0 a1 = some r → dK Try.prog cmp4_f (cmp4_a ++ [(aB a0), (aB a1)] ++ cmp4_c) (eI r)) (r : ((Int × Int) × Int)) (h0 : fK aA a1 b2 qQ cmp4 = some r) : PX Try.prog 76 [(.msl 2 lo0p 0 (List.length aA)), (eI a1), (eI b2), (.lp lo3p 0 0), (.fn (.func cmp4_f) cmp4_a cmp4_c)] [(lo0p, 2, List.map aB aA), (lo3p, 1, [(eI qQ)])] (fun x L => x = .tup [(eI r.1.1), (eI r.1.2)] ∧ L = [(lo0p, 2, List.map aB aA), (lo3p, 1, [(eI r.2)])]) := by
  intro F H0 hO
  obtain ⟨Fh, Fe, Fg⟩ := F
  refine dP Try.func76 ?_
  unfold fK at h0
  refine aY aF 2 [] [] ?_
  refine aP ?_
  refine aP ?_
  refine jS (iZ [21]) aF 11 ?_
  obtain ⟨c1, h0⟩ := bB h0
  refine cP 4 [0 ≤ b2 ∧ b2 < (lN aA)] ⟨c1, trivial⟩ ?_
  refine jP 0 lo0p 2 (0 + Int.toNat b2) (aB (gD aA b2)) (aB (gD aA b2)) (List.map aB aA) hO (cB c1) ?_
  obtain ⟨c2, h0⟩ := bB h0
  refine cP 8 [0 ≤ a1 ∧ a1 < (lN aA)] ⟨c2, trivial⟩ ?_
  refine jP 0 lo0p 2 (0 + Int.toNat a1) (aB (gD aA a1)) (aB (gD aA a1)) (List.map aB aA) hO (cB c2) ?_
  obtain ⟨x3, hx4, h0⟩ := aZ h0
  refine NK (cmp4_h (gD aA b2) (gD aA a1) _ hx4) hO ?_
  intro H hO
  refine nX ?_
  refine cQ [4] [(22, (aG (decide (x3 < (0 : Int)))))] ?_
  refine bW h0 (fun h0 => ?_) (fun h0 => ?_)
  · refine aP ?_
    refine aU aF 6 ?_
    refine bQ 2 ?_
    refine oH 1 lo3p 1 0 (eI qQ) (eI qQ) [(eI qQ)] hO rfl ?_
    refine bQ 5 ?_
    refine pI 1 lo3p 1 0 (eI qQ) (eI (wR (qQ + (1 : Int)))) [(eI qQ)] [(lo0p, 2, List.map aB aA), (lo3p, 1, [(eI (wR (qQ + (1 : Int))))])] hO rfl (by kernel_rfl) ?_
    intro H hO
    refine eW ?_
    refine cQ [22] [] ?_
    refine aY aF 4 [1, 2] [(10, (eI b2)), (11, (eI a1))] ?_
    refine bR ?_
    obtain rfl := oI h0
    exact aK (aV (OS hO ⟨rfl, rfl⟩))
  refine bT ?_
  refine bC [(0, (.msl 2 lo0p 0 (List.length aA))), (1, (eI a1)), (2, (eI b2)), (3, (.lp lo3p 0 0))] ?_
  refine aY aF 4 [1, 2] [(10, (eI a1)), (11, (eI b2))] ?_
  refine bR ?_
  obtain rfl := oI h0
  exact aK (OS hO ⟨rfl, rfl⟩)

theorem sU (lo0p : Nat) (aA : (List aC)) (a1 : Int) (b2 : Int) (c3 : Int) (lo4p : Nat) (AB : Int) (cmp5_f : Nat) (cmp5_a cmp5_c : List V) (cmp5 : aC → aC → Option Int) (cmp5_h : ∀ a0 a1 r, cmp5 a0 a1 = some r → dK Try.prog cmp5_f (cmp5_a ++ [(aB a0), (aB a1)] ++ cmp5_c) (eI r)) (r : (Int × Int)) (h0 : iS aA a1 b2 c3 AB cmp5 = some r) : PX Try.prog 73 [(.msl 2 lo0p 0 (List.length aA)), (eI a1), (eI b2), (eI c3), (.lp lo4p 0 0), (.fn (.func cmp5_f) cmp5_a cmp5_c)] [(lo0p, 2, List.map aB aA), (lo4p, 1, [(eI AB)])] (fun x L => x = (eI r.1) ∧ L = [(lo0p, 2, List.map aB aA), (lo4p, 1, [(eI r.2)])]) := by
  intro F H0 hO
  obtain ⟨Fh, Fe, Fg⟩ := F
  refine dP Try.func73 ?_
  unfold iS at h0
  refine aY aF 1 [] [] ?_
  refine aP ?_
  refine aU aF 11 ?_
  refine bQ 5 ?_
  obtain ⟨x1, hx2, h0⟩ := aZ h0
  refine JX [] [0, 1] (qB lo0p aA a1 b2 lo4p AB cmp5_f cmp5_a cmp5_c cmp5 cmp5_h _ hx2) hO ?_
  intro r3 L4 H hP5 hO
  obtain ⟨rfl, rfl⟩ := hP5
  replace hO : aN ⟨Fh, Fe, Fg⟩ H [(lo0p, 2, List.map aB aA), (lo4p, 1, [(eI x1.2)])] := hO
  refine bG ?_
  refine cQ [1, 2] [(1, (eI x1.1.1)), (2, (eI x1.1.2))] ?_
  refine aP ?_
  refine aU aF 11 ?_
  refine bQ 5 ?_
  obtain ⟨x6, hx7, h0⟩ := aZ h0
  refine JX [] [0, 1] (qB lo0p aA x1.1.2 c3 lo4p x1.2 cmp5_f cmp5_a cmp5_c cmp5 cmp5_h _ hx7) hO ?_
  intro r8 L9 H hP10 hO
  obtain ⟨rfl, rfl⟩ := hP10
  replace hO : aN ⟨Fh, Fe, Fg⟩ H [(lo0p, 2, List.map aB aA), (lo4p, 1, [(eI x6.2)])] := hO
  refine bG ?_
  refine cQ [2, 3] [(2, (eI x6.1.1))] ?_
  refine aP ?_
  refine aU aF 11 ?_
  refine bQ 5 ?_
  obtain ⟨x11, hx12, h0⟩ := aZ h0
  refine JX [] [0, 1] (qB lo0p aA x1.1.1 x6.1.1 lo4p x6.2 cmp5_f cmp5_a cmp5_c cmp5 cmp5_h _ hx12) hO ?_
  intro r13 L14 H hP15 hO
  obtain ⟨rfl, rfl⟩ := hP15
  replace hO : aN ⟨Fh, Fe, Fg⟩ H [(lo0p, 2, List.map aB aA), (lo4p, 1, [(eI x11.2)])] := hO
  refine bG ?_
  refine cQ [1, 2, 5] [(2, (eI x11.1.2))] ?_
  refine cJ aF 2 [(0, (.msl 2 lo0p 0 (List.length aA))), (4, (.lp lo4p 0 0)), (12, (eI x11.1.2))] ?_
  refine bR ?_
  obtain rfl := oI h0
  exact aK (OS hO ⟨rfl, rfl⟩)

theorem nD (lo0p : Nat) (aA : (List aC)) (a1 : Int) (lo2p : Nat) (AL : Int) (cmp3_f : Nat) (cmp3_a cmp3_c : List V) (cmp3 : aC → aC → Option Int) (cmp3_h : ∀ a0 a1 r, cmp3 a0 a1 = some r → dK Try.prog cmp3_f (cmp3_a ++ [(aB a0), (aB a1)] ++ cmp3_c) (eI r)) (r : (Int × Int)) (h0 : dM aA a1 AL cmp3 = some r) : PX Try.prog 72 [(.msl 2 lo0p 0 (List.length aA)), (eI a1), (.lp lo2p 0 0), (.fn (.func cmp3_f) cmp3_a cmp3_c)] [(lo0p, 2, List.map aB aA), (lo2p, 1, [(eI AL)])] (fun x L => x = (eI r.1) ∧ L = [(lo0p, 2, List.map aB aA), (lo2p, 1, [(eI r.2)])]) := by
  intro F H0 hO
  obtain ⟨Fh, Fe, Fg⟩ := F
  refine dP Try.func72 ?_
  unfold dM at h0
  refine aY aF 1 [] [] ?_
  refine aP ?_
  refine aU aF 10 ?_
  refine bQ 8 ?_
  obtain ⟨x1, hx2, h0⟩ := aZ h0
  refine JX [] [0, 1] (sU lo0p aA (wR (a1 - (1 : Int))) a1 (wR (a1 + (1 : Int))) lo2p AL cmp3_f cmp3_a cmp3_c cmp3 cmp3_h _ hx2) hO ?_
  intro r3 L4 H hP5 hO
  obtain ⟨rfl, rfl⟩ := hP5
  replace hO : aN ⟨Fh, Fe, Fg⟩ H [(lo0p, 2, List.map aB aA), (lo2p, 1, [(eI x1.2)])] := hO
  refine bG ?_
  refine cQ [1, 3] [(8, (eI x1.1))] ?_
  refine bR ?_
  obtain rfl := oI h0
  exact aK (OS hO ⟨rfl, rfl⟩)

theorem xB (lo0p : Nat) (aA : (List aC)) (a1 : Int) (b2 : Int) (cmp3_f : Nat) (cmp3_a cmp3_c : List V) (cmp3 : aC → aC → Option Int) (cmp3_h : ∀ a0 a1 r, cmp3 a0 a1 = some r → dK Try.prog cmp3_f (cmp3_a ++ [(aB a0), (aB a1)] ++ cmp3_c) (eI r)) (r : (Int × Int)) (h0 : iW aA a1 b2 cmp3 = some r) : PX Try.prog 54 [(.msl 2 lo0p 0 (List.length aA)), (eI a1), (eI b2), (.fn (.func cmp3_f) cmp3_a cmp3_c)] [(lo0p, 2, List.map aB aA)] (fun x L => x = .tup [(eI r.1), (eI r.2)] ∧ L = [(lo0p, 2, List.map aB aA)]) := by
  intro F H0 hO
  obtain ⟨Fh, Fe, Fg⟩ := F
  refine dP Try.func54 ?_
  unfold iW at h0
  refine aY aF 2 [] [] ?_
  refine aY aF 4 [2] [(10, (eI (wR (b2 - a1))))] ?_
  refine aP ?_
  refine aU aF 1 ?_
  refine qT 1 (eI 0) (by kernel_rfl) (by kernel_rfl) hO ?_
  intro lo1 H hO
  refine eW ?_
  refine cQ [] [(11, (.lp lo1 0 0))] ?_
  refine aP ?_
  refine aU aF 6 ?_
  obtain ⟨c2, h0⟩ := bB h0
  refine sW [(4 : Int) ≠ 0] ⟨c2, trivial⟩ ?_
  refine cQ [] [(12, (eI (wR (a1 + (wR ((wR (Int.tdiv (wR (b2 - a1)) (4 : Int))) * (1 : Int)))))))] ?_
  refine aP ?_
  refine aU aF 6 ?_
  obtain ⟨c3, h0⟩ := bB h0
  refine sW [(4 : Int) ≠ 0] ⟨c3, trivial⟩ ?_
  refine bC [(0, (.msl 2 lo0p 0 (List.length aA))), (1, (eI a1)), (3, (.fn (.func cmp3_f) cmp3_a cmp3_c)), (10, (eI (wR (b2 - a1)))), (11, (.lp lo1 0 0)), (12, (eI (wR (a1 + (wR ((wR (Int.tdiv (wR (b2 - a1)) (4 : Int))) * (1 : Int))))))), (13, (eI (wR (a1 + (wR ((wR (Int.tdiv (wR (b2 - a1)) (4 : Int))) * (2 : Int)))))))] ?_
  refine aP ?_
  refine aU aF 6 ?_
  obtain ⟨c4, h0⟩ := bB h0
  refine sW [(4 : Int) ≠ 0] ⟨c4, trivial⟩ ?_
  refine cQ [1] [(14, (eI (wR (a1 + (wR ((wR (Int.tdiv (wR (b2 - a1)) (4 : Int))) * (3 : Int)))))))] ?_
  refine lT (fun T H => ∃ lV : Int, ∃ j13 : Int, Has T [(0, (.msl 2 lo0p 0 (List.length aA))), (11, (.lp lo1 0 0)), (13, (eI j13))] ∧ aN ⟨Fh, Fe, Fg⟩ H [(lo0p, 2, List.map aB aA), (lo1, 1, [(eI lV)])] ∧ fC cmp3 aA lV j13 = some r) ?_ ?_
  · clear hO h0
    rintro T H ⟨lV, j13, hT, hO, h0⟩
    refine bO hT ?_
    clear hT
    unfold fC at h0
    refine aP ?_
    refine aU aF 1 ?_
    refine oH 1 lo1 1 0 (eI lV) (eI lV) [(eI lV)] hO rfl ?_
    refine eW ?_
    replace hO := hO.pick (L' := [(lo0p, 2, List.map aB aA)]) [0] (by decide) (by kernel_rfl)
    refine cQ [11] [(55, (eI lV))] ?_
    refine cH 0 ?_
    refine aY aF 2 [] [(57, (aG (decide (lV = (0 : Int)))))] ?_
    refine bW h0 (fun h0 => ?_) (fun h0 => ?_)
    · refine aY aF 3 [13, 55, 57] [(8, (eI j13)), (9, (eI (1 : Int)))] ?_
      refine bR ?_
      obtain rfl := oI h0
      exact aK (bV (OS hO ⟨rfl, rfl⟩))
    refine aY aF 2 [55, 57] [(60, (aG (decide (lV = (12 : Int)))))] ?_
    refine bW h0 (fun h0 => ?_) (fun h0 => ?_)
    · refine aY aF 3 [13, 60] [(8, (eI j13)), (9, (eI (2 : Int)))] ?_
      refine bR ?_
      obtain rfl := oI h0
      exact aK (bV (OS hO ⟨rfl, rfl⟩))
    refine aY aF 3 [13, 60] [(8, (eI j13)), (9, (eI (0 : Int)))] ?_
    refine bR ?_
    obtain rfl := oI h0
    exact aK (bV (OS hO ⟨rfl, rfl⟩))
  refine aY aF 2 [] [(34, (aG (decide ((8 : Int) ≤ (wR (b2 - a1))))))] ?_
  refine bW h0 (fun h0 => ?_) (fun h0 => ?_)
  · refine lT (fun T H => ∃ lV : Int, ∃ i12 : Int, ∃ j13 : Int, ∃ k14 : Int, Has T [(0, (.msl 2 lo0p 0 (List.length aA))), (3, (.fn (.func cmp3_f) cmp3_a cmp3_c)), (11, (.lp lo1 0 0)), (12, (eI i12)), (13, (eI j13)), (14, (eI k14))] ∧ aN ⟨Fh, Fe, Fg⟩ H [(lo0p, 2, List.map aB aA), (lo1, 1, [(eI lV)])] ∧ fD cmp3 aA lV i12 j13 k14 = some r) ?_ ?_
    · clear hO h0
      rintro T H ⟨lV, i12, j13, k14, hT, hO, h0⟩
      refine bO hT ?_
      clear hT
      unfold fD at h0
      refine aU aF 7 ?_
      refine bQ 5 ?_
      obtain ⟨x8, hx9, h0⟩ := aZ h0
      refine JX [] [0, 1] (sU lo0p aA i12 j13 k14 lo1 lV cmp3_f cmp3_a cmp3_c cmp3 cmp3_h _ hx9) hO ?_
      intro r10 L11 H hP12 hO
      obtain ⟨rfl, rfl⟩ := hP12
      replace hO : aN ⟨Fh, Fe, Fg⟩ H [(lo0p, 2, List.map aB aA), (lo1, 1, [(eI x8.2)])] := hO
      refine bG ?_
      exact aK (aJ (⟨rfl, _, _, bF, hO, h0⟩))
    refine aY aF 2 [10, 34] [(36, (aG (decide ((50 : Int) ≤ (wR (b2 - a1))))))] ?_
    refine bW h0 (fun h0 => ?_) (fun h0 => ?_)
    · refine aP ?_
      refine aU aF 5 ?_
      refine bQ 3 ?_
      obtain ⟨x14, hx15, h0⟩ := aZ h0
      refine JX [] [0, 1] (nD lo0p aA (wR (a1 + (wR ((wR (Int.tdiv (wR (b2 - a1)) (4 : Int))) * (1 : Int))))) lo1 0 cmp3_f cmp3_a cmp3_c cmp3 cmp3_h _ hx15) hO ?_
      intro r16 L17 H hP18 hO
      obtain ⟨rfl, rfl⟩ := hP18
      replace hO : aN ⟨Fh, Fe, Fg⟩ H [(lo0p, 2, List.map aB aA), (lo1, 1, [(eI x14.2)])] := hO
      refine bG ?_
      refine cQ [12, 36] [(12, (eI x14.1))] ?_
      refine aP ?_
      refine aU aF 5 ?_
      refine bQ 3 ?_
      obtain ⟨x19, hx20, h0⟩ := aZ h0
      refine JX [] [0, 1] (nD lo0p aA (wR (a1 + (wR ((wR (Int.tdiv (wR (b2 - a1)) (4 : Int))) * (2 : Int))))) lo1 x14.2 cmp3_f cmp3_a cmp3_c cmp3 cmp3_h _ hx20) hO ?_
      intro r21 L22 H hP23 hO
      obtain ⟨rfl, rfl⟩ := hP23
      replace hO : aN ⟨Fh, Fe, Fg⟩ H [(lo0p, 2, List.map aB aA), (lo1, 1, [(eI x19.2)])] := hO
      refine bG ?_
      refine bC [(0, (.msl 2 lo0p 0 (List.length aA))), (3, (.fn (.func cmp3_f) cmp3_a cmp3_c)), (11, (.lp lo1 0 0)), (12, (eI x14.1)), (13, (eI x19.1)), (14, (eI (wR (a1 + (wR ((wR (Int.tdiv (wR (b2 - a1)) (4 : Int))) * (3 : Int)))))))] ?_
      refine aU aF 5 ?_
      refine bQ 3 ?_
      obtain ⟨x24, hx25, h0⟩ := aZ h0
      refine JX [] [0, 1] (nD lo0p aA (wR (a1 + (wR ((wR (Int.tdiv (wR (b2 - a1)) (4 : Int))) * (3 : Int))))) lo1 x19.2 cmp3_f cmp3_a cmp3_c cmp3 cmp3_h _ hx25) hO ?_
      intro r26 L27 H hP28 hO
      obtain ⟨rfl, rfl⟩ := hP28
      replace hO : aN ⟨Fh, Fe, Fg⟩ H [(lo0p, 2, List.map aB aA), (lo1, 1, [(eI x24.2)])] := hO
      refine bG ?_
      exact aK (aJ (⟨rfl, _, _, _, _, bF, hO, h0⟩))
    refine bT ?_
    exact aK (aJ (⟨rfl, _, _, _, _, bF, hO, h0⟩))
  refine bT ?_
  exact aK (aJ (⟨rfl, _, _, bF, hO, h0⟩))

theorem wY (lo0p : Nat) (aA : (List aC)) (a1 : Int) (b2 : Int) (cmp3_f : Nat) (cmp3_a cmp3_c : List V) (cmp3 : aC → aC → Option Int) (cmp3_h : ∀ a0 a1 r, cmp3 a0 a1 = some r → dK Try.prog cmp3_f (cmp3_a ++ [(aB a0), (aB a1)] ++ cmp3_c) (eI r)) (r : List aC) (h0 : iO aA a1 b2 cmp3 = some r) : rU Try.prog 55 lo0p 2 (List.map aB aA) (List.map aB r) [(.msl 2 lo0p 0 (List.length aA)), (eI a1), (eI b2), (.fn (.func cmp3_f) cmp3_a cmp3_c)] (.tup []) := by
  intro H0 hl0
  refine dP Try.func55 ?_
  have hO := aN.uP hl0
  clear hl0
  obtain ⟨N0, hN0⟩ : ∃ n, n = List.length aA := ⟨_, rfl⟩
  have hN : List.length aA = N0 := hN0.symm
  unfold iO at h0
  refine aY aF 2 [1, 3] [(8, (eI a1))] ?_
  refine aY aF 3 [2] [(9, (eI (wR (b2 - (1 : Int)))))] ?_
  refine cH 0 ?_
  refine mD [(0, (.msl 2 lo0p 0 (List.length aA))), (8, (eI a1)), (9, (eI (wR (b2 - (1 : Int)))))] ?_
  refine kZ (fun T H => ∃ aA : List aC, ∃ i8 : Int, ∃ j9 : Int, Has T [(0, (.msl 2 lo0p 0 (List.length aA))), (8, (eI i8)), (9, (eI j9))] ∧ aN ⟨H0, [lo0p], []⟩ H [(lo0p, 2, List.map aB aA)] ∧ List.length aA = N0 ∧ iJ cmp3 aA i8 j9 = some r) ?_ ⟨aA, a1, wR (b2 - (1 : Int)), bF, hO, hN, h0⟩
  clear hO hN h0
  rintro T H ⟨aA, i8, j9, hT, hO, hN, h0⟩
  refine bO hT ?_
  clear hT
  unfold iJ at h0
  obtain ⟨rr0, hl0, h0⟩ := aZ h0
  refine mQ (fun (s : List aC × Int × Int) T H => Has T [(0, (.msl 2 lo0p 0 (List.length s.1))), (8, (eI s.2.1)), (9, (eI s.2.2))] ∧ aN ⟨H0, [lo0p], []⟩ H [(lo0p, 2, List.map aB s.1)] ∧ List.length s.1 = N0) hl0 ⟨bF, hO, hN⟩ ?_
  clear hO hN
  rintro k0 s out1 T H ⟨hT, hO, hN⟩ h1 ho0
  obtain ⟨aA, i8, j9⟩ := s
  replace h1 : iH cmp3 aA i8 j9 = some out1 := h1
  try dsimp only at hT
  refine bO hT ?_
  clear hT
  unfold iH at h1
  refine aP ?_
  refine aY aF 3 [] [(15, (aG (decide (i8 < j9))))] ?_
  refine bW h1 (fun h1 => ?_) (fun h1 => ?_)
  · refine bT ?_
    refine bC [(0, (.msl 2 lo0p 0 (List.length aA))), (8, (eI i8)), (9, (eI j9))] ?_
    refine cH 1 ?_
    refine aP ?_
    refine jS (iZ []) aF 16 ?_
    obtain ⟨c2, h1⟩ := bB h1
    refine cP 7 [0 ≤ j9 ∧ j9 < (lN aA)] ⟨c2, trivial⟩ ?_
    refine jP 0 lo0p 2 (0 + Int.toNat j9) (aB (gD aA j9)) (aB (gD aA j9)) (List.map aB aA) hO (cB c2) ?_
    obtain ⟨c3, h1⟩ := bB h1
    refine cP 11 [0 ≤ i8 ∧ i8 < (lN aA)] ⟨c3, trivial⟩ ?_
    refine jP 0 lo0p 2 (0 + Int.toNat i8) (aB (gD aA i8)) (aB (gD aA i8)) (List.map aB aA) hO (cB c3) ?_
    obtain ⟨c4, h1⟩ := bB h1
    refine cP 13 [0 ≤ i8 ∧ i8 < (lN aA)] ⟨c4, trivial⟩ ?_
    refine nL 0 lo0p 2 (0 + Int.toNat i8) (aB (gD aA i8)) (aB (gD aA j9)) (List.map aB aA) [(lo0p, 2, List.map aB (List.set aA (Int.toNat i8) (gD aA j9)))] hO (cB c4) (by simp only [List.set, lO]) ?_
    intro H hO
    replace hN : List.length (List.set aA (Int.toNat i8) (gD aA j9)) = N0 := by simpa using hN
    obtain ⟨c5, h1⟩ := bB h1
    refine cP 15 [0 ≤ j9 ∧ j9 < (lN aA)] ⟨c5, trivial⟩ ?_
    refine nL 0 lo0p 2 (0 + Int.toNat j9) (aB (gD (List.set aA (Int.toNat i8) (gD aA j9)) j9)) (aB (gD aA i8)) (List.map aB (List.set aA (Int.toNat i8) (gD aA j9))) [(lo0p, 2, List.map aB (List.set (List.set aA (Int.toNat i8) (gD aA j9)) (Int.toNat j9) (gD aA i8)))] hO (qU c5 (by simp [])) (by simp only [List.set, lO]) ?_
    intro H hO
    replace hN : List.length (List.set (List.set aA (Int.toNat i8) (gD aA j9)) (Int.toNat j9) (gD aA i8)) = N0 := by simpa using hN
    refine oX (by kernel_rfl) ?_
    refine dX (l := [(0, (.msl 2 lo0p 0 (List.length (List.set (List.set aA (Int.toNat i8) (gD aA j9)) (Int.toNat j9) (gD aA i8))))), (8, (eI i8)), (9, (eI j9))]) ⟨[(0, (.msl 2 lo0p 0 (List.length aA))), (8, (eI i8)), (9, (eI j9))], by kernel_rfl, rfl, ⟨aQ.eq (by simp []), aQ.refl _, aQ.refl _, trivial⟩⟩ ?_
    refine aK (aJ (?_))
    refine aY aF 3 [8] [(8, (eI (wR (i8 + (1 : Int)))))] ?_
    refine aU aF 3 ?_
    refine bG ?_
    exact aK (bD (aJ (⟨rfl, _, (oI h1).symm, bF, hO, hN⟩)))
  refine lM 0 ?_
  obtain rfl := oI h1
  obtain rfl : _ = rr0 := ho0
  replace h0 : some aA = some r := h0
  obtain rfl := oI h0
  exact aK (aX (aX (cC (FQ (x := (.tup [])) (by kernel_rfl) (aQ.refl _) ⟨rfl, hO.ext, hO.at 0 (by kernel_rfl), by first | rfl | (simp only [List.length_map]; exact hN.trans hN0)⟩))))

theorem tN (lo0p : Nat) (aA : (List aC)) (a1 : Int) (b2 : Int) (cmp3_f : Nat) (cmp3_a cmp3_c : List V) (cmp3 : aC → aC → Option Int) (cmp3_h : ∀ a0 a1 r, cmp3 a0 a1 = some r → dK Try.prog cmp3_f (cmp3_a ++ [(aB a0), (aB a1)] ++ cmp3_c) (eI r)) (r : (Bool × List aC)) (h0 : eY aA a1 b2 cmp3 = some r) : rU Try.prog 56 lo0p 2 (List.map aB aA) (List.map aB r.2) [(.msl 2 lo0p 0 (List.length aA)), (eI a1), (eI b2), (.fn (.func cmp3_f) cmp3_a cmp3_c)] (aG r.1) := by
  intro H0 hl0
  refine dP Try.func56 ?_
  have hO := aN.uP hl0
  clear hl0
  obtain ⟨N0, hN0⟩ : ∃ n, n = List.length aA := ⟨_, rfl⟩
  have hN : List.length aA = N0 := hN0.symm
  unfold eY at h0
  refine aY aF 1 [] [] ?_
  refine aY aF 3 [] [(9, (eI (wR (a1 + (1 : Int)))))] ?_
  refine lT (fun T H => ∃ aA : List aC, Has T [(0, (.msl 2 lo0p 0 (List.length aA)))] ∧ aN ⟨H0, [lo0p], []⟩ H [(lo0p, 2, List.map aB aA)] ∧ List.length aA = N0 ∧ dG cmp3 aA = some r) ?_ ?_
  · clear hO hN h0
    rintro T H ⟨aA, hT, hO, hN, h0⟩
    refine bO hT ?_
    clear hT
    unfold dG at h0
    refine aY aF 1 [] [(8, (aG false))] ?_
    refine bR ?_
    obtain rfl := oI h0
    exact aK (nF (x := (aG false)) (by kernel_rfl) (aQ.refl _) ⟨rfl, hO.ext, hO.at 0 (by kernel_rfl), by first | rfl | (simp only [List.length_map]; exact hN.trans hN0)⟩)
  refine aY aF 1 [] [(10, (eI (0 : Int)))] ?_
  refine cH 0 ?_
  refine mD [(0, (.msl 2 lo0p 0 (List.length aA))), (1, (eI a1)), (2, (eI b2)), (3, (.fn (.func cmp3_f) cmp3_a cmp3_c)), (9, (eI (wR (a1 + (1 : Int))))), (10, (eI (0 : Int)))] ?_
  refine kZ (fun T H => ∃ aA : List aC, ∃ i9 : Int, ∃ j10 : Int, Has T [(0, (.msl 2 lo0p 0 (List.length aA))), (1, (eI a1)), (2, (eI b2)), (3, (.fn (.func cmp3_f) cmp3_a cmp3_c)), (9, (eI i9)), (10, (eI j10))] ∧ aN ⟨H0, [lo0p], []⟩ H [(lo0p, 2, List.map aB aA)] ∧ List.length aA = N0 ∧ eP cmp3 aA a1 b2 i9 j10 = some r) ?_ ⟨aA, wR (a1 + (1 : Int)), (0 : Int), bF, hO, hN, h0⟩
  clear hO hN h0
  rintro T H ⟨aA, i9, j10, hT, hO, hN, h0⟩
  refine bO hT ?_
  clear hT
  unfold eP at h0
  obtain ⟨rr0, hl0, h0⟩ := aZ h0
  refine mQ (fun (s : List aC × Int × Int) T H => Has T [(0, (.msl 2 lo0p 0 (List.length s.1))), (1, (eI a1)), (2, (eI b2)), (3, (.fn (.func cmp3_f) cmp3_a cmp3_c)), (9, (eI s.2.1)), (10, (eI s.2.2))] ∧ aN ⟨H0, [lo0p], []⟩ H [(lo0p, 2, List.map aB s.1)] ∧ List.length s.1 = N0) hl0 ⟨bF, hO, hN⟩ ?_
  clear hO hN
  rintro k0 s out1 T H ⟨hT, hO, hN⟩ h1 ho0
  obtain ⟨aA, i9, j10⟩ := s
  replace h1 : eJ cmp3 a1 b2 aA i9 j10 = some out1 := h1
  try dsimp only at hT
  refine bO hT ?_
  clear hT
  unfold eJ at h1
  refine aP ?_
  refine aY aF 2 [] [(16, (aG (decide (j10 < (5 : Int)))))] ?_
  refine bW h1 (fun h1 => ?_) (fun h1 => ?_)
  · refine bT ?_
    refine bC [(0, (.msl 2 lo0p 0 (List.length aA))), (1, (eI a1)), (2, (eI b2)), (3, (.fn (.func cmp3_f) cmp3_a cmp3_c)), (9, (eI i9)), (10, (eI j10))] ?_
    refine lT (fun T H => ∃ aA : List aC, ∃ i9 : Int, Has T [(0, (.msl 2 lo0p 0 (List.length aA))), (1, (eI a1)), (2, (eI b2)), (3, (.fn (.func cmp3_f) cmp3_a cmp3_c)), (9, (eI i9)), (10, (eI j10))] ∧ aN ⟨H0, [lo0p], []⟩ H [(lo0p, 2, List.map aB aA)] ∧ List.length aA = N0 ∧ cL cmp3 aA a1 b2 i9 j10 = some out1) ?_ ?_
    · clear hO hN h1
      rintro T H ⟨aA, i9, hT, hO, hN, h1⟩
      refine bO hT ?_
      clear hT
      unfold cL at h1
      refine aU aF 3 ?_
      refine bG ?_
      exact aK (aJ (⟨rfl, _, (oI h1).symm, bF, hO, hN⟩))
    refine cH 1 ?_
    refine lT (fun T H => ∃ aA : List aC, ∃ i9 : Int, Has T [(0, (.msl 2 lo0p 0 (List.length aA))), (1, (eI a1)), (2, (eI b2)), (3, (.fn (.func cmp3_f) cmp3_a cmp3_c)), (9, (eI i9)), (10, (eI j10))] ∧ aN ⟨H0, [lo0p], []⟩ H [(lo0p, 2, List.map aB aA)] ∧ List.length aA = N0 ∧ dH cmp3 aA a1 b2 i9 j10 = some out1) ?_ ?_
    · clear hO hN h1
      rintro T H ⟨aA, i9, hT, hO, hN, h1⟩
      refine bO hT ?_
      clear hT
      unfold dH at h1
      refine aP ?_
      refine aY aF 3 [] [(41, (aG (decide (i9 = b2))))] ?_
      refine bW h1 (fun h1 => ?_) (fun h1 => ?_)
      · refine aY aF 1 [1, 2, 3, 9, 10, 41] [(8, (aG true))] ?_
        refine bR ?_
        obtain rfl := oI h1
        obtain rfl : _ = rr0 := ho0
        replace h0 : some (true, aA) = some r := h0
        obtain rfl := oI h0
        exact aK (aV (bV (aV (aV (bV (aV (nF (x := (aG true)) (by kernel_rfl) (aQ.refl _) ⟨rfl, hO.ext, hO.at 0 (by kernel_rfl), by first | rfl | (simp only [List.length_map]; exact hN.trans hN0)⟩)))))))
      refine bT ?_
      refine bC [(0, (.msl 2 lo0p 0 (List.length aA))), (1, (eI a1)), (2, (eI b2)), (3, (.fn (.func cmp3_f) cmp3_a cmp3_c)), (9, (eI i9)), (10, (eI j10))] ?_
      refine aP ?_
      refine aY aF 4 [] [(45, (aG (decide ((wR (b2 - a1)) < (50 : Int)))))] ?_
      refine bW h1 (fun h1 => ?_) (fun h1 => ?_)
      · refine aY aF 1 [1, 2, 3, 9, 10, 45] [(8, (aG false))] ?_
        refine bR ?_
        obtain rfl := oI h1
        obtain rfl : _ = rr0 := ho0
        replace h0 : some (false, aA) = some r := h0
        obtain rfl := oI h0
        exact aK (aV (bV (aV (aV (bV (aV (nF (x := (aG false)) (by kernel_rfl) (aQ.refl _) ⟨rfl, hO.ext, hO.at 0 (by kernel_rfl), by first | rfl | (simp only [List.length_map]; exact hN.trans hN0)⟩)))))))
      refine bT ?_
      refine bC [(0, (.msl 2 lo0p 0 (List.length aA))), (1, (eI a1)), (2, (eI b2)), (3, (.fn (.func cmp3_f) cmp3_a cmp3_c)), (9, (eI i9)), (10, (eI j10))] ?_
      refine aP ?_
      refine jS (iZ []) aF 18 ?_
      obtain ⟨c4, h1⟩ := bB h1
      refine cP 9 [0 ≤ (wR (i9 - (1 : Int))) ∧ (wR (i9 - (1 : Int))) < (lN aA)] ⟨c4, trivial⟩ ?_
      refine jP 0 lo0p 2 (0 + Int.toNat (wR (i9 - (1 : Int)))) (aB (gD aA (wR (i9 - (1 : Int))))) (aB (gD aA (wR (i9 - (1 : Int))))) (List.map aB aA) hO (cB c4) ?_
      obtain ⟨c5, h1⟩ := bB h1
      refine cP 13 [0 ≤ i9 ∧ i9 < (lN aA)] ⟨c5, trivial⟩ ?_
      refine jP 0 lo0p 2 (0 + Int.toNat i9) (aB (gD aA i9)) (aB (gD aA i9)) (List.map aB aA) hO (cB c5) ?_
      obtain ⟨c6, h1⟩ := bB h1
      refine cP 15 [0 ≤ i9 ∧ i9 < (lN aA)] ⟨c6, trivial⟩ ?_
      refine nL 0 lo0p 2 (0 + Int.toNat i9) (aB (gD aA i9)) (aB (gD aA (wR (i9 - (1 : Int))))) (List.map aB aA) [(lo0p, 2, List.map aB (List.set aA (Int.toNat i9) (gD aA (wR (i9 - (1 : Int))))))] hO (cB c6) (by simp only [List.set, lO]) ?_
      intro H hO
      replace hN : List.length (List.set aA (Int.toNat i9) (gD aA (wR (i9 - (1 : Int))))) = N0 := by simpa using hN
      obtain ⟨c7, h1⟩ := bB h1
      refine cP 17 [0 ≤ (wR (i9 - (1 : Int))) ∧ (wR (i9 - (1 : Int))) < (lN aA)] ⟨c7, trivial⟩ ?_
      refine nL 0 lo0p 2 (0 + Int.toNat (wR (i9 - (1 : Int)))) (aB (gD (List.set aA (Int.toNat i9) (gD aA (wR (i9 - (1 : Int))))) (wR (i9 - (1 : Int))))) (aB (gD aA i9)) (List.map aB (List.set aA (Int.toNat i9) (gD aA (wR (i9 - (1 : Int)))))) [(lo0p, 2, List.map aB (List.set (List.set aA (Int.toNat i9) (gD aA (wR (i9 - (1 : Int))))) (Int.toNat (wR (i9 - (1 : Int)))) (gD aA i9)))] hO (qU c7 (by simp [])) (by simp only [List.set, lO]) ?_
      intro H hO
      replace hN : List.length (List.set (List.set aA (Int.toNat i9) (gD aA (wR (i9 - (1 : Int))))) (Int.toNat (wR (i9 - (1 : Int)))) (gD aA i9)) = N0 := by simpa using hN
      refine oX (by kernel_rfl) ?_
      refine dX (l := [(0, (.msl 2 lo0p 0 (List.length (List.set (List.set aA (Int.toNat i9) (gD aA (wR (i9 - (1 : Int))))) (Int.toNat (wR (i9 - (1 : Int)))) (gD aA i9))))), (1, (eI a1)), (2, (eI b2)), (3, (.fn (.func cmp3_f) cmp3_a cmp3_c)), (9, (eI i9)), (10, (eI j10))]) ⟨[(0, (.msl 2 lo0p 0 (List.length aA))), (1, (eI a1)), (2, (eI b2)), (3, (.fn (.func cmp3_f) cmp3_a cmp3_c)), (9, (eI i9)), (10, (eI j10))], by kernel_rfl, rfl, ⟨aQ.eq (by simp []), aQ.refl _, aQ.refl _, aQ.refl _, aQ.refl _, aQ.refl _, trivial⟩⟩ ?_
      refine aK (aJ (?_))
      refine lT (fun T H => ∃ aA : List aC, Has T [(0, (.msl 2 lo0p 0 (List.length aA))), (1, (eI a1)), (2, (eI b2)), (3, (.fn (.func cmp3_f) cmp3_a cmp3_c)), (9, (eI i9)), (10, (eI j10))] ∧ aN ⟨H0, [lo0p], []⟩ H [(lo0p, 2, List.map aB aA)] ∧ List.length aA = N0 ∧ cM cmp3 aA a1 b2 i9 j10 = some out1) ?_ ?_
      · clear hO hN h1
        rintro T H ⟨aA, hT, hO, hN, h1⟩
        refine bO hT ?_
        clear hT
        unfold cM at h1
        refine aY aF 4 [] [(104, (aG (decide ((2 : Int) ≤ (wR (b2 - i9))))))] ?_
        refine bW h1 (fun h1 => ?_) (fun h1 => ?_)
        · refine aY aF 3 [104] [(12, (eI (wR (i9 + (1 : Int)))))] ?_
          refine cH 6 ?_
          refine mD [(0, (.msl 2 lo0p 0 (List.length aA))), (1, (eI a1)), (2, (eI b2)), (3, (.fn (.func cmp3_f) cmp3_a cmp3_c)), (9, (eI i9)), (10, (eI j10)), (12, (eI (wR (i9 + (1 : Int)))))] ?_
          refine kZ (fun T H => ∃ aA : List aC, ∃ j12 : Int, Has T [(0, (.msl 2 lo0p 0 (List.length aA))), (1, (eI a1)), (2, (eI b2)), (3, (.fn (.func cmp3_f) cmp3_a cmp3_c)), (9, (eI i9)), (10, (eI j10)), (12, (eI j12))] ∧ aN ⟨H0, [lo0p], []⟩ H [(lo0p, 2, List.map aB aA)] ∧ List.length aA = N0 ∧ eO cmp3 aA a1 b2 i9 j10 j12 = some out1) ?_ ⟨aA, wR (i9 + (1 : Int)), bF, hO, hN, h1⟩
          clear hO hN h1
          rintro T H ⟨aA, j12, hT, hO, hN, h1⟩
          refine bO hT ?_
          clear hT
          unfold eO at h1
          obtain ⟨rr1, hl1, h1⟩ := aZ h1
          refine mQ (fun (s : List aC × Int) T H => Has T [(0, (.msl 2 lo0p 0 (List.length s.1))), (1, (eI a1)), (2, (eI b2)), (3, (.fn (.func cmp3_f) cmp3_a cmp3_c)), (9, (eI i9)), (10, (eI j10)), (12, (eI s.2))] ∧ aN ⟨H0, [lo0p], []⟩ H [(lo0p, 2, List.map aB s.1)] ∧ List.length s.1 = N0) hl1 ⟨bF, hO, hN⟩ ?_
          clear hO hN
          rintro k1 s out2 T H ⟨hT, hO, hN⟩ h2 ho1
          obtain ⟨aA, j12⟩ := s
          replace h2 : eM cmp3 a1 b2 i9 j10 aA j12 = some out2 := h2
          try dsimp only at hT
          refine bO hT ?_
          clear hT
          unfold eM at h2
          refine aP ?_
          refine aY aF 3 [] [(109, (aG (decide (j12 < b2))))] ?_
          refine bW h2 (fun h2 => ?_) (fun h2 => ?_)
          · refine bT ?_
            refine bC [(0, (.msl 2 lo0p 0 (List.length aA))), (1, (eI a1)), (2, (eI b2)), (3, (.fn (.func cmp3_f) cmp3_a cmp3_c)), (9, (eI i9)), (10, (eI j10)), (12, (eI j12))] ?_
            refine aP ?_
            refine cH 7 ?_
            refine aP ?_
            refine aP ?_
            refine jS (iZ [122]) aF 13 ?_
            obtain ⟨c10, h2⟩ := bB h2
            refine cP 4 [0 ≤ j12 ∧ j12 < (lN aA)] ⟨c10, trivial⟩ ?_
            refine jP 0 lo0p 2 (0 + Int.toNat j12) (aB (gD aA j12)) (aB (gD aA j12)) (List.map aB aA) hO (cB c10) ?_
            obtain ⟨c11, h2⟩ := bB h2
            refine cP 9 [0 ≤ (wR (j12 - (1 : Int))) ∧ (wR (j12 - (1 : Int))) < (lN aA)] ⟨c11, trivial⟩ ?_
            refine jP 0 lo0p 2 (0 + Int.toNat (wR (j12 - (1 : Int)))) (aB (gD aA (wR (j12 - (1 : Int))))) (aB (gD aA (wR (j12 - (1 : Int))))) (List.map aB aA) hO (cB c11) ?_
            obtain ⟨x12, hx13, h2⟩ := aZ h2
            refine NK (cmp3_h (gD aA j12) (gD aA (wR (j12 - (1 : Int)))) _ hx13) hO ?_
            intro H hO
            refine nX ?_
            refine cQ [] [(124, (aG (!(decide (x12 < (0 : Int))))))] ?_
            refine bW h2 (fun h2 => ?_) (fun h2 => ?_)
            · refine lM 6 ?_
              obtain rfl := oI h2
              obtain rfl : _ = rr1 := ho1
              replace h1 : cL cmp3 aA a1 b2 i9 j10 = some out1 := h1
              exact aK (aX (zZ (by kernel_rfl) (aX (aX (cC (bD (aJ (⟨rfl, _, _, bF, hO, hN, h1⟩))))))))
            refine bT ?_
            refine bC [(0, (.msl 2 lo0p 0 (List.length aA))), (1, (eI a1)), (2, (eI b2)), (3, (.fn (.func cmp3_f) cmp3_a cmp3_c)), (9, (eI i9)), (10, (eI j10)), (12, (eI j12))] ?_
            refine jS (iZ []) aF 18 ?_
            obtain ⟨c16, h2⟩ := bB h2
            refine cP 9 [0 ≤ (wR (j12 - (1 : Int))) ∧ (wR (j12 - (1 : Int))) < (lN aA)] ⟨c16, trivial⟩ ?_
            refine jP 0 lo0p 2 (0 + Int.toNat (wR (j12 - (1 : Int)))) (aB (gD aA (wR (j12 - (1 : Int))))) (aB (gD aA (wR (j12 - (1 : Int))))) (List.map aB aA) hO (cB c16) ?_
            obtain ⟨c17, h2⟩ := bB h2
            refine cP 13 [0 ≤ j12 ∧ j12 < (lN aA)] ⟨c17, trivial⟩ ?_
            refine jP 0 lo0p 2 (0 + Int.toNat j12) (aB (gD aA j12)) (aB (gD aA j12)) (List.map aB aA) hO (cB c17) ?_
            obtain ⟨c18, h2⟩ := bB h2
            refine cP 15 [0 ≤ j12 ∧ j12 < (lN aA)] ⟨c18, trivial⟩ ?_
            refine nL 0 lo0p 2 (0 + Int.toNat j12) (aB (gD aA j12)) (aB (gD aA (wR (j12 - (1 : Int))))) (List.map aB aA) [(lo0p, 2, List.map aB (List.set aA (Int.toNat j12) (gD aA (wR (j12 - (1 : Int))))))] hO (cB c18) (by simp only [List.set, lO]) ?_
            intro H hO
            replace hN : List.length (List.set aA (Int.toNat j12) (gD aA (wR (j12 - (1 : Int))))) = N0 := by simpa using hN
            obtain ⟨c19, h2⟩ := bB h2
            refine cP 17 [0 ≤ (wR (j12 - (1 : Int))) ∧ (wR (j12 - (1 : Int))) < (lN aA)] ⟨c19, trivial⟩ ?_
            refine nL 0 lo0p 2 (0 + Int.toNat (wR (j12 - (1 : Int)))) (aB (gD (List.set aA (Int.toNat j12) (gD aA (wR (j12 - (1 : Int))))) (wR (j12 - (1 : Int))))) (aB (gD aA j12)) (List.map aB (List.set aA (Int.toNat j12) (gD aA (wR (j12 - (1 : Int)))))) [(lo0p, 2, List.map aB (List.set (List.set aA (Int.toNat j12) (gD aA (wR (j12 - (1 : Int))))) (Int.toNat (wR (j12 - (1 : Int)))) (gD aA j12)))] hO (qU c19 (by simp [])) (by simp only [List.set, lO]) ?_
            intro H hO
            replace hN : List.length (List.set (List.set aA (Int.toNat j12) (gD aA (wR (j12 - (1 : Int))))) (Int.toNat (wR (j12 - (1 : Int)))) (gD aA j12)) = N0 := by simpa using hN
            refine oX (by kernel_rfl) ?_
            refine dX (l := [(0, (.msl 2 lo0p 0 (List.length (List.set (List.set aA (Int.toNat j12) (gD aA (wR (j12 - (1 : Int))))) (Int.toNat (wR (j12 - (1 : Int)))) (gD aA j12))))), (1, (eI a1)), (2, (eI b2)), (3, (.fn (.func cmp3_f) cmp3_a cmp3_c)), (9, (eI i9)), (10, (eI j10)), (12, (eI j12))]) ⟨[(0, (.msl 2 lo0p 0 (List.length aA))), (1, (eI a1)), (2, (eI b2)), (3, (.fn (.func cmp3_f) cmp3_a cmp3_c)), (9, (eI i9)), (10, (eI j10)), (12, (eI j12))], by kernel_rfl, rfl, ⟨aQ.eq (by simp []), aQ.refl _, aQ.refl _, aQ.refl _, aQ.refl _, aQ.refl _, aQ.refl _, trivial⟩⟩ ?_
            refine aK (bD (aJ (?_)))
            refine aU aF 3 ?_
            refine bG ?_
            exact aK (aJ (⟨rfl, _, (oI h2).symm, bF, hO, hN⟩))
          refine lM 6 ?_
          obtain rfl := oI h2
          obtain rfl : _ = rr1 := ho1
          replace h1 : cL cmp3 aA a1 b2 i9 j10 = some out1 := h1
          exact aK (aX (aX (cC (bD (aJ (⟨rfl, _, _, bF, hO, hN, h1⟩))))))
        refine bT ?_
        exact aK (bD (aJ (⟨rfl, _, _, bF, hO, hN, h1⟩)))
      refine aY aF 4 [] [(65, (aG (decide ((2 : Int) ≤ (wR (i9 - a1))))))] ?_
      refine bW h1 (fun h1 => ?_) (fun h1 => ?_)
      · refine aY aF 3 [65] [(11, (eI (wR (i9 - (1 : Int)))))] ?_
        refine cH 4 ?_
        refine mD [(0, (.msl 2 lo0p 0 (List.length (List.set (List.set aA (Int.toNat i9) (gD aA (wR (i9 - (1 : Int))))) (Int.toNat (wR (i9 - (1 : Int)))) (gD aA i9))))), (1, (eI a1)), (2, (eI b2)), (3, (.fn (.func cmp3_f) cmp3_a cmp3_c)), (9, (eI i9)), (10, (eI j10)), (11, (eI (wR (i9 - (1 : Int)))))] ?_
        refine kZ (fun T H => ∃ aA : List aC, ∃ j11 : Int, Has T [(0, (.msl 2 lo0p 0 (List.length aA))), (1, (eI a1)), (2, (eI b2)), (3, (.fn (.func cmp3_f) cmp3_a cmp3_c)), (9, (eI i9)), (10, (eI j10)), (11, (eI j11))] ∧ aN ⟨H0, [lo0p], []⟩ H [(lo0p, 2, List.map aB aA)] ∧ List.length aA = N0 ∧ eK cmp3 aA a1 b2 i9 j10 j11 = some out1) ?_ ⟨List.set (List.set aA (Int.toNat i9) (gD aA (wR (i9 - (1 : Int))))) (Int.toNat (wR (i9 - (1 : Int)))) (gD aA i9), wR (i9 - (1 : Int)), bF, hO, hN, h1⟩
        clear hO hN h1
        rintro T H ⟨aA, j11, hT, hO, hN, h1⟩
        refine bO hT ?_
        clear hT
        unfold eK at h1
        obtain ⟨rr1, hl1, h1⟩ := aZ h1
        refine mQ (fun (s : List aC × Int) T H => Has T [(0, (.msl 2 lo0p 0 (List.length s.1))), (1, (eI a1)), (2, (eI b2)), (3, (.fn (.func cmp3_f) cmp3_a cmp3_c)), (9, (eI i9)), (10, (eI j10)), (11, (eI s.2))] ∧ aN ⟨H0, [lo0p], []⟩ H [(lo0p, 2, List.map aB s.1)] ∧ List.length s.1 = N0) hl1 ⟨bF, hO, hN⟩ ?_
        clear hO hN
        rintro k1 s out2 T H ⟨hT, hO, hN⟩ h2 ho1
        obtain ⟨aA, j11⟩ := s
        replace h2 : eN cmp3 a1 b2 i9 j10 aA j11 = some out2 := h2
        try dsimp only at hT
        refine bO hT ?_
        clear hT
        unfold eN at h2
        refine aP ?_
        refine aY aF 2 [] [(69, (aG (decide ((1 : Int) ≤ j11))))] ?_
        refine bW h2 (fun h2 => ?_) (fun h2 => ?_)
        · refine bT ?_
          refine bC [(0, (.msl 2 lo0p 0 (List.length aA))), (1, (eI a1)), (2, (eI b2)), (3, (.fn (.func cmp3_f) cmp3_a cmp3_c)), (9, (eI i9)), (10, (eI j10)), (11, (eI j11))] ?_
          refine aP ?_
          refine cH 5 ?_
          refine aP ?_
          refine aP ?_
          refine jS (iZ [82]) aF 13 ?_
          obtain ⟨c22, h2⟩ := bB h2
          refine cP 4 [0 ≤ j11 ∧ j11 < (lN aA)] ⟨c22, trivial⟩ ?_
          refine jP 0 lo0p 2 (0 + Int.toNat j11) (aB (gD aA j11)) (aB (gD aA j11)) (List.map aB aA) hO (cB c22) ?_
          obtain ⟨c23, h2⟩ := bB h2
          refine cP 9 [0 ≤ (wR (j11 - (1 : Int))) ∧ (wR (j11 - (1 : Int))) < (lN aA)] ⟨c23, trivial⟩ ?_
          refine jP 0 lo0p 2 (0 + Int.toNat (wR (j11 - (1 : Int)))) (aB (gD aA (wR (j11 - (1 : Int))))) (aB (gD aA (wR (j11 - (1 : Int))))) (List.map aB aA) hO (cB c23) ?_
          obtain ⟨x24, hx25, h2⟩ := aZ h2
          refine NK (cmp3_h (gD aA j11) (gD aA (wR (j11 - (1 : Int)))) _ hx25) hO ?_
          intro H hO
          refine nX ?_
          refine cQ [] [(84, (aG (!(decide (x24 < (0 : Int))))))] ?_
          refine bW h2 (fun h2 => ?_) (fun h2 => ?_)
          · refine lM 4 ?_
            obtain rfl := oI h2
            obtain rfl : _ = rr1 := ho1
            replace h1 : cM cmp3 aA a1 b2 i9 j10 = some out1 := h1
            exact aK (aX (zZ (by kernel_rfl) (aX (aX (cC (aJ (⟨rfl, _, bF, hO, hN, h1⟩)))))))
          refine bT ?_
          refine bC [(0, (.msl 2 lo0p 0 (List.length aA))), (1, (eI a1)), (2, (eI b2)), (3, (.fn (.func cmp3_f) cmp3_a cmp3_c)), (9, (eI i9)), (10, (eI j10)), (11, (eI j11))] ?_
          refine jS (iZ []) aF 18 ?_
          obtain ⟨c28, h2⟩ := bB h2
          refine cP 9 [0 ≤ (wR (j11 - (1 : Int))) ∧ (wR (j11 - (1 : Int))) < (lN aA)] ⟨c28, trivial⟩ ?_
          refine jP 0 lo0p 2 (0 + Int.toNat (wR (j11 - (1 : Int)))) (aB (gD aA (wR (j11 - (1 : Int))))) (aB (gD aA (wR (j11 - (1 : Int))))) (List.map aB aA) hO (cB c28) ?_
          obtain ⟨c29, h2⟩ := bB h2
          refine cP 13 [0 ≤ j11 ∧ j11 < (lN aA)] ⟨c29, trivial⟩ ?_
          refine jP 0 lo0p 2 (0 + Int.toNat j11) (aB (gD aA j11)) (aB (gD aA j11)) (List.map aB aA) hO (cB c29) ?_
          obtain ⟨c30, h2⟩ := bB h2
          refine cP 15 [0 ≤ j11 ∧ j11 < (lN aA)] ⟨c30, trivial⟩ ?_
          refine nL 0 lo0p 2 (0 + Int.toNat j11) (aB (gD aA j11)) (aB (gD aA (wR (j11 - (1 : Int))))) (List.map aB aA) [(lo0p, 2, List.map aB (List.set aA (Int.toNat j11) (gD aA (wR (j11 - (1 : Int))))))] hO (cB c30) (by simp only [List.set, lO]) ?_
          intro H hO
          replace hN : List.length (List.set aA (Int.toNat j11) (gD aA (wR (j11 - (1 : Int))))) = N0 := by simpa using hN
          obtain ⟨c31, h2⟩ := bB h2
          refine cP 17 [0 ≤ (wR (j11 - (1 : Int))) ∧ (wR (j11 - (1 : Int))) < (lN aA)] ⟨c31, trivial⟩ ?_
          refine nL 0 lo0p 2 (0 + Int.toNat (wR (j11 - (1 : Int)))) (aB (gD (List.set aA (Int.toNat j11) (gD aA (wR (j11 - (1 : Int))))) (wR (j11 - (1 : Int))))) (aB (gD aA j11)) (List.map aB (List.set aA (Int.toNat j11) (gD aA (wR (j11 - (1 : Int)))))) [(lo0p, 2, List.map aB (List.set (List.set aA (Int.toNat j11) (gD aA (wR (j11 - (1 : Int))))) (Int.toNat (wR (j11 - (1 : Int)))) (gD aA j11)))] hO (qU c31 (by simp [])) (by simp only [List.set, lO]) ?_
          intro H hO
          replace hN : List.length (List.set (List.set aA (Int.toNat j11) (gD aA (wR (j11 - (1 : Int))))) (Int.toNat (wR (j11 - (1 : Int)))) (gD aA j11)) = N0 := by simpa using hN
          refine oX (by kernel_rfl) ?_
          refine dX (l := [(0, (.msl 2 lo0p 0 (List.length (List.set (List.set aA (Int.toNat j11) (gD aA (wR (j11 - (1 : Int))))) (Int.toNat (wR (j11 - (1 : Int)))) (gD aA j11))))), (1, (eI a1)), (2, (eI b2)), (3, (.fn (.func cmp3_f) cmp3_a cmp3_c)), (9, (eI i9)), (10, (eI j10)), (11, (eI j11))]) ⟨[(0, (.msl 2 lo0p 0 (List.length aA))), (1, (eI a1)), (2, (eI b2)), (3, (.fn (.func cmp3_f) cmp3_a cmp3_c)), (9, (eI i9)), (10, (eI j10)), (11, (eI j11))], by kernel_rfl, rfl, ⟨aQ.eq (by simp []), aQ.refl _, aQ.refl _, aQ.refl _, aQ.refl _, aQ.refl _, aQ.refl _, trivial⟩⟩ ?_
          refine aK (bD (aJ (?_)))
          refine aU aF 3 ?_
          refine bG ?_
          exact aK (aJ (⟨rfl, _, (oI h2).symm, bF, hO, hN⟩))
        refine lM 4 ?_
        obtain rfl := oI h2
        obtain rfl : _ = rr1 := ho1
        replace h1 : cM cmp3 aA a1 b2 i9 j10 = some out1 := h1
        exact aK (aX (aX (cC (aJ (⟨rfl, _, bF, hO, hN, h1⟩)))))
      refine bT ?_
      exact aK (aJ (⟨rfl, _, bF, hO, hN, h1⟩))
    refine cH 2 ?_
    refine mD [(0, (.msl 2 lo0p 0 (List.length aA))), (1, (eI a1)), (2, (eI b2)), (3, (.fn (.func cmp3_f) cmp3_a cmp3_c)), (9, (eI i9)), (10, (eI j10))] ?_
    refine kZ (fun T H => ∃ aA : List aC, ∃ i9 : Int, Has T [(0, (.msl 2 lo0p 0 (List.length aA))), (1, (eI a1)), (2, (eI b2)), (3, (.fn (.func cmp3_f) cmp3_a cmp3_c)), (9, (eI i9)), (10, (eI j10))] ∧ aN ⟨H0, [lo0p], []⟩ H [(lo0p, 2, List.map aB aA)] ∧ List.length aA = N0 ∧ eR cmp3 aA a1 b2 i9 j10 = some out1) ?_ ⟨aA, i9, bF, hO, hN, h1⟩
    clear hO hN h1
    rintro T H ⟨aA, i9, hT, hO, hN, h1⟩
    refine bO hT ?_
    clear hT
    unfold eR at h1
    obtain ⟨rr1, hl1, h1⟩ := aZ h1
    refine mQ (fun (s : List aC × Int) T H => Has T [(0, (.msl 2 lo0p 0 (List.length s.1))), (1, (eI a1)), (2, (eI b2)), (3, (.fn (.func cmp3_f) cmp3_a cmp3_c)), (9, (eI s.2)), (10, (eI j10))] ∧ aN ⟨H0, [lo0p], []⟩ H [(lo0p, 2, List.map aB s.1)] ∧ List.length s.1 = N0) hl1 ⟨bF, hO, hN⟩ ?_
    clear hO hN
    rintro k1 s out2 T H ⟨hT, hO, hN⟩ h2 ho1
    obtain ⟨aA, i9⟩ := s
    replace h2 : eS cmp3 a1 b2 j10 aA i9 = some out2 := h2
    try dsimp only at hT
    refine bO hT ?_
    clear hT
    unfold eS at h2
    refine aP ?_
    refine aP ?_
    obtain ⟨c32, h2⟩ := bB h2
    obtain ⟨c33, h2⟩ := bB h2
    obtain ⟨x34, hx35, h2⟩ := aZ h2
    refine jS (iZ []) aF 18 ?_
    refine tO (K := fun T H => Has (lift T) [(0, (.msl 2 lo0p 0 (List.length aA))), (1, (eI a1)), (2, (eI b2)), (3, (.fn (.func cmp3_f) cmp3_a cmp3_c)), (9, (eI i9)), (10, (eI j10)), (36, (aG ((decide (i9 < b2)) && (!(decide (x34 < (0 : Int)))))))] ∧ aN ⟨H0, [lo0p], []⟩ H [(lo0p, 2, List.map aB aA)]) ?_ ?_
    · refine qD 4 ?_
      refine sZ (t := 22) (e := decide (i9 < b2)) (by kernel_rfl) (fun hg36 => ?_) (fun hg36 => ?_)
      · refine cP 8 [0 ≤ i9 ∧ i9 < (lN aA)] ⟨(c32 hg36), trivial⟩ ?_
        refine uH 0 lo0p 2 (0 + Int.toNat i9) (aB (gD aA i9)) (aB (gD aA i9)) (List.map aB aA) hO (cB (c32 hg36)) ?_
        refine cP 13 [0 ≤ (wR (i9 - (1 : Int))) ∧ (wR (i9 - (1 : Int))) < (lN aA)] ⟨(c33 hg36), trivial⟩ ?_
        refine uH 0 lo0p 2 (0 + Int.toNat (wR (i9 - (1 : Int)))) (aB (gD aA (wR (i9 - (1 : Int))))) (aB (gD aA (wR (i9 - (1 : Int))))) (List.map aB aA) hO (cB (c33 hg36)) ?_
        refine uQ cmp3_f (cmp3_a ++ [(aB (gD aA i9)), (aB (gD aA (wR (i9 - (1 : Int)))))] ++ cmp3_c) (eI x34) (by kernel_rfl) (by kernel_rfl) (cmp3_h (gD aA i9) (gD aA (wR (i9 - (1 : Int)))) _ (pE hx35 hg36)) hO ?_
        intro H hO
        refine nX ?_
        exact ⟨⟨[(0, (.msl 2 lo0p 0 (List.length aA))), (1, (eI a1)), (2, (eI b2)), (3, (.fn (.func cmp3_f) cmp3_a cmp3_c)), (9, (eI i9)), (10, (eI j10)), (36, (aG (!(decide (x34 < (0 : Int))))))], by kernel_rfl, rfl, ⟨aQ.refl _, aQ.refl _, aQ.refl _, aQ.refl _, aQ.refl _, aQ.refl _, aQ.eq (congrArg aG (rE hg36 rfl).symm), trivial⟩⟩, hO⟩
      refine nX ?_
      exact ⟨⟨[(0, (.msl 2 lo0p 0 (List.length aA))), (1, (eI a1)), (2, (eI b2)), (3, (.fn (.func cmp3_f) cmp3_a cmp3_c)), (9, (eI i9)), (10, (eI j10)), (36, (aG false))], by kernel_rfl, rfl, ⟨aQ.refl _, aQ.refl _, aQ.refl _, aQ.refl _, aQ.refl _, aQ.refl _, aQ.eq (congrArg aG (rE hg36 rfl).symm), trivial⟩⟩, hO⟩
    · rintro T H ⟨hT, hO⟩
      refine dX hT ?_
      clear hT
      refine aK (aJ ?_)
      refine bW h2 (fun h2 => ?_) (fun h2 => ?_)
      · refine bT ?_
        refine bC [(0, (.msl 2 lo0p 0 (List.length aA))), (1, (eI a1)), (2, (eI b2)), (3, (.fn (.func cmp3_f) cmp3_a cmp3_c)), (9, (eI i9)), (10, (eI j10))] ?_
        refine cH 3 ?_
        refine aU aF 3 ?_
        refine bG ?_
        exact aK (bD (aJ (⟨rfl, _, (oI h2).symm, bF, hO, hN⟩)))
      refine lM 2 ?_
      obtain rfl := oI h2
      obtain rfl : _ = rr1 := ho1
      replace h1 : dH cmp3 aA a1 b2 i9 j10 = some out1 := h1
      exact aK (aX (aX (cC (aJ (⟨rfl, _, _, bF, hO, hN, h1⟩)))))
  refine lM 0 ?_
  obtain rfl := oI h1
  obtain rfl : _ = rr0 := ho0
  replace h0 : dG cmp3 aA = some r := h0
  exact aK (aX (aX (cC (aJ (⟨rfl, _, bF, hO, hN, h0⟩)))))

theorem vV (lo0p : Nat) (aA : (List aC)) (a1 : Int) (b2 : Int) (bY : Int) (cmp4_f : Nat) (cmp4_a cmp4_c : List V) (cmp4 : aC → aC → Option Int) (cmp4_h : ∀ a0 a1 r, cmp4 a0 a1 = some r → dK Try.prog cmp4_f (cmp4_a ++ [(aB a0), (aB a1)] ++ cmp4_c) (eI r)) (r : (Int × List aC)) (h0 : gY aA a1 b2 bY cmp4 = some r) : rU Try.prog 57 lo0p 2 (List.map aB aA) (List.map aB r.2) [(.msl 2 lo0p 0 (List.length aA)), (eI a1), (eI b2), (eI bY), (.fn (.func cmp4_f) cmp4_a cmp4_c)] (eI r.1) := by
  intro H0 hl0
  refine dP Try.func57 ?_
  have hO := aN.uP hl0
  clear hl0
  obtain ⟨N0, hN0⟩ : ∃ n, n = List.length aA := ⟨_, rfl⟩
  have hN : List.length aA = N0 := hN0.symm
  unfold gY at h0
  refine aY aF 1 [] [] ?_
  refine aP ?_
  refine jS (iZ []) aF 16 ?_
  obtain ⟨c1, h0⟩ := bB h0
  refine cP 7 [0 ≤ bY ∧ bY < (lN aA)] ⟨c1, trivial⟩ ?_
  refine jP 0 lo0p 2 (0 + Int.toNat bY) (aB (gD aA bY)) (aB (gD aA bY)) (List.map aB aA) hO (cB c1) ?_
  obtain ⟨c2, h0⟩ := bB h0
  refine cP 11 [0 ≤ a1 ∧ a1 < (lN aA)] ⟨c2, trivial⟩ ?_
  refine jP 0 lo0p 2 (0 + Int.toNat a1) (aB (gD aA a1)) (aB (gD aA a1)) (List.map aB aA) hO (cB c2) ?_
  obtain ⟨c3, h0⟩ := bB h0
  refine cP 13 [0 ≤ a1 ∧ a1 < (lN aA)] ⟨c3, trivial⟩ ?_
  refine nL 0 lo0p 2 (0 + Int.toNat a1) (aB (gD aA a1)) (aB (gD aA bY)) (List.map aB aA) [(lo0p, 2, List.map aB (List.set aA (Int.toNat a1) (gD aA bY)))] hO (cB c3) (by simp only [List.set, lO]) ?_
  intro H hO
  replace hN : List.length (List.set aA (Int.toNat a1) (gD aA bY)) = N0 := by simpa using hN
  obtain ⟨c4, h0⟩ := bB h0
  refine cP 15 [0 ≤ bY ∧ bY < (lN aA)] ⟨c4, trivial⟩ ?_
  refine nL 0 lo0p 2 (0 + Int.toNat bY) (aB (gD (List.set aA (Int.toNat a1) (gD aA bY)) bY)) (aB (gD aA a1)) (List.map aB (List.set aA (Int.toNat a1) (gD aA bY))) [(lo0p, 2, List.map aB (List.set (List.set aA (Int.toNat a1) (gD aA bY)) (Int.toNat bY) (gD aA a1)))] hO (qU c4 (by simp [])) (by simp only [List.set, lO]) ?_
  intro H hO
  replace hN : List.length (List.set (List.set aA (Int.toNat a1) (gD aA bY)) (Int.toNat bY) (gD aA a1)) = N0 := by simpa using hN
  refine oX (by kernel_rfl) ?_
  refine dX (l := [(0, (.msl 2 lo0p 0 (List.length (List.set (List.set aA (Int.toNat a1) (gD aA bY)) (Int.toNat bY) (gD aA a1))))), (1, (eI a1)), (2, (eI b2)), (4, (.fn (.func cmp4_f) cmp4_a cmp4_c))]) ⟨[(0, (.msl 2 lo0p 0 (List.length aA))), (1, (eI a1)), (2, (eI b2)), (4, (.fn (.func cmp4_f) cmp4_a cmp4_c))], by kernel_rfl, rfl, ⟨aQ.eq (by simp []), aQ.refl _, aQ.refl _, aQ.refl _, trivial⟩⟩ ?_
  refine aK (aJ (?_))
  refine aY aF 6 [2] [(11, (eI (wR (a1 + (1 : Int))))), (12, (eI (wR (b2 - (1 : Int)))))] ?_
  refine lT (fun T H => ∃ aA : List aC, ∃ i11 : Int, Has T [(0, (.msl 2 lo0p 0 (List.length aA))), (11, (eI i11))] ∧ aN ⟨H0, [lo0p], []⟩ H [(lo0p, 2, List.map aB aA)] ∧ List.length aA = N0 ∧ eE cmp4 aA i11 = some r) ?_ ?_
  · clear hO hN h0
    rintro T H ⟨aA, i11, hT, hO, hN, h0⟩
    refine bO hT ?_
    clear hT
    unfold eE at h0
    refine aY aF 2 [11] [(10, (eI i11))] ?_
    refine bR ?_
    obtain rfl := oI h0
    exact aK (nF (x := (eI i11)) (by kernel_rfl) (aQ.refl _) ⟨rfl, hO.ext, hO.at 0 (by kernel_rfl), by first | rfl | (simp only [List.length_map]; exact hN.trans hN0)⟩)
  refine cH 0 ?_
  refine mD [(0, (.msl 2 lo0p 0 (List.length (List.set (List.set aA (Int.toNat a1) (gD aA bY)) (Int.toNat bY) (gD aA a1))))), (1, (eI a1)), (4, (.fn (.func cmp4_f) cmp4_a cmp4_c)), (11, (eI (wR (a1 + (1 : Int))))), (12, (eI (wR (b2 - (1 : Int)))))] ?_
  refine kZ (fun T H => ∃ aA : List aC, ∃ i11 : Int, ∃ j12 : Int, Has T [(0, (.msl 2 lo0p 0 (List.length aA))), (1, (eI a1)), (4, (.fn (.func cmp4_f) cmp4_a cmp4_c)), (11, (eI i11)), (12, (eI j12))] ∧ aN ⟨H0, [lo0p], []⟩ H [(lo0p, 2, List.map aB aA)] ∧ List.length aA = N0 ∧ gG cmp4 aA a1 i11 j12 = some r) ?_ ⟨List.set (List.set aA (Int.toNat a1) (gD aA bY)) (Int.toNat bY) (gD aA a1), wR (a1 + (1 : Int)), wR (b2 - (1 : Int)), bF, hO, hN, h0⟩
  clear hO hN h0
  rintro T H ⟨aA, i11, j12, hT, hO, hN, h0⟩
  refine bO hT ?_
  clear hT
  unfold gG at h0
  obtain ⟨rr0, hl0, h0⟩ := aZ h0
  refine mQ (fun (s : List aC × Int × Int) T H => Has T [(0, (.msl 2 lo0p 0 (List.length s.1))), (1, (eI a1)), (4, (.fn (.func cmp4_f) cmp4_a cmp4_c)), (11, (eI s.2.1)), (12, (eI s.2.2))] ∧ aN ⟨H0, [lo0p], []⟩ H [(lo0p, 2, List.map aB s.1)] ∧ List.length s.1 = N0) hl0 ⟨bF, hO, hN⟩ ?_
  clear hO hN
  rintro k0 s out1 T H ⟨hT, hO, hN⟩ h1 ho0
  obtain ⟨aA, i11, j12⟩ := s
  replace h1 : fY cmp4 a1 aA i11 j12 = some out1 := h1
  try dsimp only at hT
  refine bO hT ?_
  clear hT
  unfold fY at h1
  refine cH 1 ?_
  refine lT (fun T H => ∃ aA : List aC, ∃ i11 : Int, Has T [(0, (.msl 2 lo0p 0 (List.length aA))), (1, (eI a1)), (4, (.fn (.func cmp4_f) cmp4_a cmp4_c)), (11, (eI i11)), (12, (eI j12))] ∧ aN ⟨H0, [lo0p], []⟩ H [(lo0p, 2, List.map aB aA)] ∧ List.length aA = N0 ∧ eD cmp4 aA a1 i11 j12 = some out1) ?_ ?_
  · clear hO hN h1
    rintro T H ⟨aA, i11, hT, hO, hN, h1⟩
    refine bO hT ?_
    clear hT
    unfold eD at h1
    refine lT (fun T H => ∃ aA : List aC, ∃ j12 : Int, Has T [(0, (.msl 2 lo0p 0 (List.length aA))), (1, (eI a1)), (4, (.fn (.func cmp4_f) cmp4_a cmp4_c)), (11, (eI i11)), (12, (eI j12))] ∧ aN ⟨H0, [lo0p], []⟩ H [(lo0p, 2, List.map aB aA)] ∧ List.length aA = N0 ∧ eF cmp4 aA a1 i11 j12 = some out1) ?_ ?_
    · clear hO hN h1
      rintro T H ⟨aA, j12, hT, hO, hN, h1⟩
      refine bO hT ?_
      clear hT
      unfold eF at h1
      refine aP ?_
      refine aY aF 3 [] [(70, (aG (decide (j12 < i11))))] ?_
      refine bW h1 (fun h1 => ?_) (fun h1 => ?_)
      · refine lM 0 ?_
        obtain rfl := oI h1
        obtain rfl : _ = rr0 := ho0
        replace h0 : eE cmp4 aA i11 = some r := h0
        exact aK (aX (zZ (by kernel_rfl) (aX (cC (aJ (⟨rfl, _, _, bF, hO, hN, h0⟩))))))
      refine bT ?_
      refine bC [(0, (.msl 2 lo0p 0 (List.length aA))), (1, (eI a1)), (4, (.fn (.func cmp4_f) cmp4_a cmp4_c)), (11, (eI i11)), (12, (eI j12))] ?_
      refine aP ?_
      refine jS (iZ []) aF 16 ?_
      obtain ⟨c6, h1⟩ := bB h1
      refine cP 7 [0 ≤ j12 ∧ j12 < (lN aA)] ⟨c6, trivial⟩ ?_
      refine jP 0 lo0p 2 (0 + Int.toNat j12) (aB (gD aA j12)) (aB (gD aA j12)) (List.map aB aA) hO (cB c6) ?_
      obtain ⟨c7, h1⟩ := bB h1
      refine cP 11 [0 ≤ i11 ∧ i11 < (lN aA)] ⟨c7, trivial⟩ ?_
      refine jP 0 lo0p 2 (0 + Int.toNat i11) (aB (gD aA i11)) (aB (gD aA i11)) (List.map aB aA) hO (cB c7) ?_
      obtain ⟨c8, h1⟩ := bB h1
      refine cP 13 [0 ≤ i11 ∧ i11 < (lN aA)] ⟨c8, trivial⟩ ?_
      refine nL 0 lo0p 2 (0 + Int.toNat i11) (aB (gD aA i11)) (aB (gD aA j12)) (List.map aB aA) [(lo0p, 2, List.map aB (List.set aA (Int.toNat i11) (gD aA j12)))] hO (cB c8) (by simp only [List.set, lO]) ?_
      intro H hO
      replace hN : List.length (List.set aA (Int.toNat i11) (gD aA j12)) = N0 := by simpa using hN
      obtain ⟨c9, h1⟩ := bB h1
      refine cP 15 [0 ≤ j12 ∧ j12 < (lN aA)] ⟨c9, trivial⟩ ?_
      refine nL 0 lo0p 2 (0 + Int.toNat j12) (aB (gD (List.set aA (Int.toNat i11) (gD aA j12)) j12)) (aB (gD aA i11)) (List.map aB (List.set aA (Int.toNat i11) (gD aA j12))) [(lo0p, 2, List.map aB (List.set (List.set aA (Int.toNat i11) (gD aA j12)) (Int.toNat j12) (gD aA i11)))] hO (qU c9 (by simp [])) (by simp only [List.set, lO]) ?_
      intro H hO
      replace hN : List.length (List.set (List.set aA (Int.toNat i11) (gD aA j12)) (Int.toNat j12) (gD aA i11)) = N0 := by simpa using hN
      refine oX (by kernel_rfl) ?_
      refine dX (l := [(0, (.msl 2 lo0p 0 (List.length (List.set (List.set aA (Int.toNat i11) (gD aA j12)) (Int.toNat j12) (gD aA i11))))), (1, (eI a1)), (4, (.fn (.func cmp4_f) cmp4_a cmp4_c)), (11, (eI i11)), (12, (eI j12))]) ⟨[(0, (.msl 2 lo0p 0 (List.length aA))), (1, (eI a1)), (4, (.fn (.func cmp4_f) cmp4_a cmp4_c)), (11, (eI i11)), (12, (eI j12))], by kernel_rfl, rfl, ⟨aQ.eq (by simp []), aQ.refl _, aQ.refl _, aQ.refl _, aQ.refl _, trivial⟩⟩ ?_
      refine aK (aJ (?_))
      refine aY aF 3 [11] [(11, (eI (wR (i11 + (1 : Int)))))] ?_
      refine aU aF 3 ?_
      refine bG ?_
      exact aK (bD (aJ (⟨rfl, _, (oI h1).symm, bF, hO, hN⟩)))
    refine cH 4 ?_
    refine mD [(0, (.msl 2 lo0p 0 (List.length aA))), (1, (eI a1)), (4, (.fn (.func cmp4_f) cmp4_a cmp4_c)), (11, (eI i11)), (12, (eI j12))] ?_
    refine kZ (fun T H => ∃ aA : List aC, ∃ j12 : Int, Has T [(0, (.msl 2 lo0p 0 (List.length aA))), (1, (eI a1)), (4, (.fn (.func cmp4_f) cmp4_a cmp4_c)), (11, (eI i11)), (12, (eI j12))] ∧ aN ⟨H0, [lo0p], []⟩ H [(lo0p, 2, List.map aB aA)] ∧ List.length aA = N0 ∧ gE cmp4 aA a1 i11 j12 = some out1) ?_ ⟨aA, j12, bF, hO, hN, h1⟩
    clear hO hN h1
    rintro T H ⟨aA, j12, hT, hO, hN, h1⟩
    refine bO hT ?_
    clear hT
    unfold gE at h1
    obtain ⟨rr1, hl1, h1⟩ := aZ h1
    refine mQ (fun (s : List aC × Int) T H => Has T [(0, (.msl 2 lo0p 0 (List.length s.1))), (1, (eI a1)), (4, (.fn (.func cmp4_f) cmp4_a cmp4_c)), (11, (eI i11)), (12, (eI s.2))] ∧ aN ⟨H0, [lo0p], []⟩ H [(lo0p, 2, List.map aB s.1)] ∧ List.length s.1 = N0) hl1 ⟨bF, hO, hN⟩ ?_
    clear hO hN
    rintro k1 s out2 T H ⟨hT, hO, hN⟩ h2 ho1
    obtain ⟨aA, j12⟩ := s
    replace h2 : gF cmp4 a1 i11 aA j12 = some out2 := h2
    try dsimp only at hT
    refine bO hT ?_
    clear hT
    unfold gF at h2
    refine aP ?_
    refine aP ?_
    obtain ⟨c10, h2⟩ := bB h2
    obtain ⟨c11, h2⟩ := bB h2
    obtain ⟨x12, hx13, h2⟩ := aZ h2
    refine jS (iZ []) aF 16 ?_
    refine tO (K := fun T H => Has (lift T) [(0, (.msl 2 lo0p 0 (List.length aA))), (1, (eI a1)), (4, (.fn (.func cmp4_f) cmp4_a cmp4_c)), (11, (eI i11)), (12, (eI j12)), (65, (aG ((decide (i11 ≤ j12)) && (decide (x12 < (0 : Int))))))] ∧ aN ⟨H0, [lo0p], []⟩ H [(lo0p, 2, List.map aB aA)]) ?_ ?_
    · refine qD 4 ?_
      refine sZ (t := 53) (e := decide (i11 ≤ j12)) (by kernel_rfl) (fun hg14 => ?_) (fun hg14 => ?_)
      · refine cP 8 [0 ≤ a1 ∧ a1 < (lN aA)] ⟨(c10 hg14), trivial⟩ ?_
        refine uH 0 lo0p 2 (0 + Int.toNat a1) (aB (gD aA a1)) (aB (gD aA a1)) (List.map aB aA) hO (cB (c10 hg14)) ?_
        refine cP 12 [0 ≤ j12 ∧ j12 < (lN aA)] ⟨(c11 hg14), trivial⟩ ?_
        refine uH 0 lo0p 2 (0 + Int.toNat j12) (aB (gD aA j12)) (aB (gD aA j12)) (List.map aB aA) hO (cB (c11 hg14)) ?_
        refine uQ cmp4_f (cmp4_a ++ [(aB (gD aA a1)), (aB (gD aA j12))] ++ cmp4_c) (eI x12) (by kernel_rfl) (by kernel_rfl) (cmp4_h (gD aA a1) (gD aA j12) _ (pE hx13 hg14)) hO ?_
        intro H hO
        refine nX ?_
        exact ⟨⟨[(0, (.msl 2 lo0p 0 (List.length aA))), (1, (eI a1)), (4, (.fn (.func cmp4_f) cmp4_a cmp4_c)), (11, (eI i11)), (12, (eI j12)), (65, (aG (decide (x12 < (0 : Int)))))], by kernel_rfl, rfl, ⟨aQ.refl _, aQ.refl _, aQ.refl _, aQ.refl _, aQ.refl _, aQ.eq (congrArg aG (rE hg14 rfl).symm), trivial⟩⟩, hO⟩
      refine nX ?_
      exact ⟨⟨[(0, (.msl 2 lo0p 0 (List.length aA))), (1, (eI a1)), (4, (.fn (.func cmp4_f) cmp4_a cmp4_c)), (11, (eI i11)), (12, (eI j12)), (65, (aG false))], by kernel_rfl, rfl, ⟨aQ.refl _, aQ.refl _, aQ.refl _, aQ.refl _, aQ.refl _, aQ.eq (congrArg aG (rE hg14 rfl).symm), trivial⟩⟩, hO⟩
    · rintro T H ⟨hT, hO⟩
      refine dX hT ?_
      clear hT
      refine aK (aJ ?_)
      refine bW h2 (fun h2 => ?_) (fun h2 => ?_)
      · refine bT ?_
        refine bC [(0, (.msl 2 lo0p 0 (List.length aA))), (1, (eI a1)), (4, (.fn (.func cmp4_f) cmp4_a cmp4_c)), (11, (eI i11)), (12, (eI j12))] ?_
        refine cH 5 ?_
        refine aU aF 3 ?_
        refine bG ?_
        exact aK (bD (aJ (⟨rfl, _, (oI h2).symm, bF, hO, hN⟩)))
      refine lM 4 ?_
      obtain rfl := oI h2
      obtain rfl : _ = rr1 := ho1
      replace h1 : eF cmp4 aA a1 i11 j12 = some out1 := h1
      exact aK (aX (aX (cC (aJ (⟨rfl, _, _, bF, hO, hN, h1⟩)))))
  refine cH 2 ?_
  refine mD [(0, (.msl 2 lo0p 0 (List.length aA))), (1, (eI a1)), (4, (.fn (.func cmp4_f) cmp4_a cmp4_c)), (11, (eI i11)), (12, (eI j12))] ?_
  refine kZ (fun T H => ∃ aA : List aC, ∃ i11 : Int, Has T [(0, (.msl 2 lo0p 0 (List.length aA))), (1, (eI a1)), (4, (.fn (.func cmp4_f) cmp4_a cmp4_c)), (11, (eI i11)), (12, (eI j12))] ∧ aN ⟨H0, [lo0p], []⟩ H [(lo0p, 2, List.map aB aA)] ∧ List.length aA = N0 ∧ gH cmp4 aA a1 i11 j12 = some out1) ?_ ⟨aA, i11, bF, hO, hN, h1⟩
  clear hO hN h1
  rintro T H ⟨aA, i11, hT, hO, hN, h1⟩
  refine bO hT ?_
  clear hT
  unfold gH at h1
  obtain ⟨rr1, hl1, h1⟩ := aZ h1
  refine mQ (fun (s : List aC × Int) T H => Has T [(0, (.msl 2 lo0p 0 (List.length s.1))), (1, (eI a1)), (4, (.fn (.func cmp4_f) cmp4_a cmp4_c)), (11, (eI s.2)), (12, (eI j12))] ∧ aN ⟨H0, [lo0p], []⟩ H [(lo0p, 2, List.map aB s.1)] ∧ List.length s.1 = N0) hl1 ⟨bF, hO, hN⟩ ?_
  clear hO hN
  rintro k1 s out2 T H ⟨hT, hO, hN⟩ h2 ho1
  obtain ⟨aA, i11⟩ := s
  replace h2 : fZ cmp4 a1 j12 aA i11 = some out2 := h2
  try dsimp only at hT
  refine bO hT ?_
  clear hT
  unfold fZ at h2
  refine aP ?_
  refine aP ?_
  obtain ⟨c16, h2⟩ := bB h2
  obtain ⟨c17, h2⟩ := bB h2
  obtain ⟨x18, hx19, h2⟩ := aZ h2
  refine jS (iZ []) aF 17 ?_
  refine tO (K := fun T H => Has (lift T) [(0, (.msl 2 lo0p 0 (List.length aA))), (1, (eI a1)), (4, (.fn (.func cmp4_f) cmp4_a cmp4_c)), (11, (eI i11)), (12, (eI j12)), (47, (aG ((decide (i11 ≤ j12)) && (!(decide (x18 < (0 : Int)))))))] ∧ aN ⟨H0, [lo0p], []⟩ H [(lo0p, 2, List.map aB aA)]) ?_ ?_
  · refine qD 4 ?_
    refine sZ (t := 34) (e := decide (i11 ≤ j12)) (by kernel_rfl) (fun hg20 => ?_) (fun hg20 => ?_)
    · refine cP 8 [0 ≤ a1 ∧ a1 < (lN aA)] ⟨(c16 hg20), trivial⟩ ?_
      refine uH 0 lo0p 2 (0 + Int.toNat a1) (aB (gD aA a1)) (aB (gD aA a1)) (List.map aB aA) hO (cB (c16 hg20)) ?_
      refine cP 12 [0 ≤ i11 ∧ i11 < (lN aA)] ⟨(c17 hg20), trivial⟩ ?_
      refine uH 0 lo0p 2 (0 + Int.toNat i11) (aB (gD aA i11)) (aB (gD aA i11)) (List.map aB aA) hO (cB (c17 hg20)) ?_
      refine uQ cmp4_f (cmp4_a ++ [(aB (gD aA a1)), (aB (gD aA i11))] ++ cmp4_c) (eI x18) (by kernel_rfl) (by kernel_rfl) (cmp4_h (gD aA a1) (gD aA i11) _ (pE hx19 hg20)) hO ?_
      intro H hO
      refine nX ?_
      exact ⟨⟨[(0, (.msl 2 lo0p 0 (List.length aA))), (1, (eI a1)), (4, (.fn (.func cmp4_f) cmp4_a cmp4_c)), (11, (eI i11)), (12, (eI j12)), (47, (aG (!(decide (x18 < (0 : Int))))))], by kernel_rfl, rfl, ⟨aQ.refl _, aQ.refl _, aQ.refl _, aQ.refl _, aQ.refl _, aQ.eq (congrArg aG (rE hg20 rfl).symm), trivial⟩⟩, hO⟩
    refine nX ?_
    exact ⟨⟨[(0, (.msl 2 lo0p 0 (List.length aA))), (1, (eI a1)), (4, (.fn (.func cmp4_f) cmp4_a cmp4_c)), (11, (eI i11)), (12, (eI j12)), (47, (aG false))], by kernel_rfl, rfl, ⟨aQ.refl _, aQ.refl _, aQ.refl _, aQ.refl _, aQ.refl _, aQ.eq (congrArg aG (rE hg20 rfl).symm), trivial⟩⟩, hO⟩
  · rintro T H ⟨hT, hO⟩
    refine dX hT ?_
    clear hT
    refine aK (aJ ?_)
    refine bW h2 (fun h2 => ?_) (fun h2 => ?_)
    · refine bT ?_
      refine bC [(0, (.msl 2 lo0p 0 (List.length aA))), (1, (eI a1)), (4, (.fn (.func cmp4_f) cmp4_a cmp4_c)), (11, (eI i11)), (12, (eI j12))] ?_
      refine cH 3 ?_
      refine aU aF 3 ?_
      refine bG ?_
      exact aK (bD (aJ (⟨rfl, _, (oI h2).symm, bF, hO, hN⟩)))
    refine lM 2 ?_
    obtain rfl := oI h2
    obtain rfl : _ = rr1 := ho1
    replace h1 : eD cmp4 aA a1 i11 j12 = some out1 := h1
    exact aK (aX (aX (cC (aJ (⟨rfl, _, _, bF, hO, hN, h1⟩)))))

theorem zB (lo0p : Nat) (aA : (List aC)) (a1 : Int) (b2 : Int) (bY : Int) (cmp4_f : Nat) (cmp4_a cmp4_c : List V) (cmp4 : aC → aC → Option Int) (cmp4_h : ∀ a0 a1 r, cmp4 a0 a1 = some r → dK Try.prog cmp4_f (cmp4_a ++ [(aB a0), (aB a1)] ++ cmp4_c) (eI r)) (r : ((Int × Bool) × List aC)) (h0 : jZ aA a1 b2 bY cmp4 = some r) : rU Try.prog 58 lo0p 2 (List.map aB aA) (List.map aB r.2) [(.msl 2 lo0p 0 (List.length aA)), (eI a1), (eI b2), (eI bY), (.fn (.func cmp4_f) cmp4_a cmp4_c)] (.tup [(eI r.1.1), (aG r.1.2)]) := by
  intro H0 hl0
  refine dP Try.func58 ?_
  have hO := aN.uP hl0
  clear hl0
  obtain ⟨N0, hN0⟩ : ∃ n, n = List.length aA := ⟨_, rfl⟩
  have hN : List.length aA = N0 := hN0.symm
  unfold jZ at h0
  refine aY aF 2 [] [] ?_
  refine aP ?_
  refine jS (iZ []) aF 16 ?_
  obtain ⟨c1, h0⟩ := bB h0
  refine cP 7 [0 ≤ bY ∧ bY < (lN aA)] ⟨c1, trivial⟩ ?_
  refine jP 0 lo0p 2 (0 + Int.toNat bY) (aB (gD aA bY)) (aB (gD aA bY)) (List.map aB aA) hO (cB c1) ?_
  obtain ⟨c2, h0⟩ := bB h0
  refine cP 11 [0 ≤ a1 ∧ a1 < (lN aA)] ⟨c2, trivial⟩ ?_
  refine jP 0 lo0p 2 (0 + Int.toNat a1) (aB (gD aA a1)) (aB (gD aA a1)) (List.map aB aA) hO (cB c2) ?_
  obtain ⟨c3, h0⟩ := bB h0
  refine cP 13 [0 ≤ a1 ∧ a1 < (lN aA)] ⟨c3, trivial⟩ ?_
  refine nL 0 lo0p 2 (0 + Int.toNat a1) (aB (gD aA a1)) (aB (gD aA bY)) (List.map aB aA) [(lo0p, 2, List.map aB (List.set aA (Int.toNat a1) (gD aA bY)))] hO (cB c3) (by simp only [List.set, lO]) ?_
  intro H hO
  replace hN : List.length (List.set aA (Int.toNat a1) (gD aA bY)) = N0 := by simpa using hN
  obtain ⟨c4, h0⟩ := bB h0
  refine cP 15 [0 ≤ bY ∧ bY < (lN aA)] ⟨c4, trivial⟩ ?_
  refine nL 0 lo0p 2 (0 + Int.toNat bY) (aB (gD (List.set aA (Int.toNat a1) (gD aA bY)) bY)) (aB (gD aA a1)) (List.map aB (List.set aA (Int.toNat a1) (gD aA bY))) [(lo0p, 2, List.map aB (List.set (List.set aA (Int.toNat a1) (gD aA bY)) (Int.toNat bY) (gD aA a1)))] hO (qU c4 (by simp [])) (by simp only [List.set, lO]) ?_
  intro H hO
  replace hN : List.length (List.set (List.set aA (Int.toNat a1) (gD aA bY)) (Int.toNat bY) (gD aA a1)) = N0 := by simpa using hN
  refine oX (by kernel_rfl) ?_
  refine dX (l := [(0, (.msl 2 lo0p 0 (List.length (List.set (List.set aA (Int.toNat a1) (gD aA bY)) (Int.toNat bY) (gD aA a1))))), (1, (eI a1)), (2, (eI b2)), (4, (.fn (.func cmp4_f) cmp4_a cmp4_c))]) ⟨[(0, (.msl 2 lo0p 0 (List.length aA))), (1, (eI a1)), (2, (eI b2)), (4, (.fn (.func cmp4_f) cmp4_a cmp4_c))], by kernel_rfl, rfl, ⟨aQ.eq (by simp []), aQ.refl _, aQ.refl _, aQ.refl _, trivial⟩⟩ ?_
  refine aK (aJ (?_))
  refine aY aF 6 [2] [(12, (eI (wR (a1 + (1 : Int))))), (13, (eI (wR (b2 - (1 : Int)))))] ?_
  refine lT (fun T H => ∃ aA : List aC, ∃ i12 : Int, ∃ j13 : Int, Has T [(0, (.msl 2 lo0p 0 (List.length aA))), (1, (eI a1)), (4, (.fn (.func cmp4_f) cmp4_a cmp4_c)), (12, (eI i12)), (13, (eI j13))] ∧ aN ⟨H0, [lo0p], []⟩ H [(lo0p, 2, List.map aB aA)] ∧ List.length aA = N0 ∧ fS cmp4 aA a1 i12 j13 = some r) ?_ ?_
  · clear hO hN h0
    rintro T H ⟨aA, i12, j13, hT, hO, hN, h0⟩
    refine bO hT ?_
    clear hT
    unfold fS at h0
    refine lT (fun T H => ∃ aA : List aC, ∃ j13 : Int, Has T [(0, (.msl 2 lo0p 0 (List.length aA))), (1, (eI a1)), (4, (.fn (.func cmp4_f) cmp4_a cmp4_c)), (12, (eI i12)), (13, (eI j13))] ∧ aN ⟨H0, [lo0p], []⟩ H [(lo0p, 2, List.map aB aA)] ∧ List.length aA = N0 ∧ fR cmp4 aA a1 i12 j13 = some r) ?_ ?_
    · clear hO hN h0
      rintro T H ⟨aA, j13, hT, hO, hN, h0⟩
      refine bO hT ?_
      clear hT
      unfold fR at h0
      refine aP ?_
      refine aY aF 3 [] [(71, (aG (decide (j13 < i12))))] ?_
      refine bW h0 (fun h0 => ?_) (fun h0 => ?_)
      · refine aP ?_
        refine jS (iZ []) aF 16 ?_
        obtain ⟨c6, h0⟩ := bB h0
        refine cP 7 [0 ≤ a1 ∧ a1 < (lN aA)] ⟨c6, trivial⟩ ?_
        refine jP 0 lo0p 2 (0 + Int.toNat a1) (aB (gD aA a1)) (aB (gD aA a1)) (List.map aB aA) hO (cB c6) ?_
        obtain ⟨c7, h0⟩ := bB h0
        refine cP 11 [0 ≤ j13 ∧ j13 < (lN aA)] ⟨c7, trivial⟩ ?_
        refine jP 0 lo0p 2 (0 + Int.toNat j13) (aB (gD aA j13)) (aB (gD aA j13)) (List.map aB aA) hO (cB c7) ?_
        obtain ⟨c8, h0⟩ := bB h0
        refine cP 13 [0 ≤ j13 ∧ j13 < (lN aA)] ⟨c8, trivial⟩ ?_
        refine nL 0 lo0p 2 (0 + Int.toNat j13) (aB (gD aA j13)) (aB (gD aA a1)) (List.map aB aA) [(lo0p, 2, List.map aB (List.set aA (Int.toNat j13) (gD aA a1)))] hO (cB c8) (by simp only [List.set, lO]) ?_
        intro H hO
        replace hN : List.length (List.set aA (Int.toNat j13) (gD aA a1)) = N0 := by simpa using hN
        obtain ⟨c9, h0⟩ := bB h0
        refine cP 15 [0 ≤ a1 ∧ a1 < (lN aA)] ⟨c9, trivial⟩ ?_
        refine nL 0 lo0p 2 (0 + Int.toNat a1) (aB (gD (List.set aA (Int.toNat j13) (gD aA a1)) a1)) (aB (gD aA j13)) (List.map aB (List.set aA (Int.toNat j13) (gD aA a1))) [(lo0p, 2, List.map aB (List.set (List.set aA (Int.toNat j13) (gD aA a1)) (Int.toNat a1) (gD aA j13)))] hO (qU c9 (by simp [])) (by simp only [List.set, lO]) ?_
        intro H hO
        replace hN : List.length (List.set (List.set aA (Int.toNat j13) (gD aA a1)) (Int.toNat a1) (gD aA j13)) = N0 := by simpa using hN
        refine oX (by kernel_rfl) ?_
        refine dX (l := [(0, (.msl 2 lo0p 0 (List.length (List.set (List.set aA (Int.toNat j13) (gD aA a1)) (Int.toNat a1) (gD aA j13))))), (13, (eI j13))]) ⟨[(0, (.msl 2 lo0p 0 (List.length aA))), (13, (eI j13))], by kernel_rfl, rfl, ⟨aQ.eq (by simp []), aQ.refl _, trivial⟩⟩ ?_
        refine aK (aJ (?_))
        refine aY aF 3 [13] [(10, (eI j13)), (11, (aG true))] ?_
        refine bR ?_
        obtain rfl := oI h0
        exact aK (aV (nF (x := (.tup [(eI j13), (aG true)])) (by kernel_rfl) (aQ.refl _) ⟨rfl, hO.ext, hO.at 0 (by kernel_rfl), by simp only [List.length_map]; exact hN.trans hN0⟩))
      refine bT ?_
      refine bC [(0, (.msl 2 lo0p 0 (List.length aA))), (1, (eI a1)), (4, (.fn (.func cmp4_f) cmp4_a cmp4_c)), (12, (eI i12)), (13, (eI j13))] ?_
      refine aP ?_
      refine jS (iZ []) aF 16 ?_
      obtain ⟨c10, h0⟩ := bB h0
      refine cP 7 [0 ≤ j13 ∧ j13 < (lN aA)] ⟨c10, trivial⟩ ?_
      refine jP 0 lo0p 2 (0 + Int.toNat j13) (aB (gD aA j13)) (aB (gD aA j13)) (List.map aB aA) hO (cB c10) ?_
      obtain ⟨c11, h0⟩ := bB h0
      refine cP 11 [0 ≤ i12 ∧ i12 < (lN aA)] ⟨c11, trivial⟩ ?_
      refine jP 0 lo0p 2 (0 + Int.toNat i12) (aB (gD aA i12)) (aB (gD aA i12)) (List.map aB aA) hO (cB c11) ?_
      obtain ⟨c12, h0⟩ := bB h0
      refine cP 13 [0 ≤ i12 ∧ i12 < (lN aA)] ⟨c12, trivial⟩ ?_
      refine nL 0 lo0p 2 (0 + Int.toNat i12) (aB (gD aA i12)) (aB (gD aA j13)) (List.map aB aA) [(lo0p, 2, List.map aB (List.set aA (Int.toNat i12) (gD aA j13)))] hO (cB c12) (by simp only [List.set, lO]) ?_
      intro H hO
      replace hN : List.length (List.set aA (Int.toNat i12) (gD aA j13)) = N0 := by simpa using hN
      obtain ⟨c13, h0⟩ := bB h0
      refine cP 15 [0 ≤ j13 ∧ j13 < (lN aA)] ⟨c13, trivial⟩ ?_
      refine nL 0 lo0p 2 (0 + Int.toNat j13) (aB (gD (List.set aA (Int.toNat i12) (gD aA j13)) j13)) (aB (gD aA i12)) (List.map aB (List.set aA (Int.toNat i12) (gD aA j13))) [(lo0p, 2, List.map aB (List.set (List.set aA (Int.toNat i12) (gD aA j13)) (Int.toNat j13) (gD aA i12)))] hO (qU c13 (by simp [])) (by simp only [List.set, lO]) ?_
      intro H hO
      replace hN : List.length (List.set (List.set aA (Int.toNat i12) (gD aA j13)) (Int.toNat j13) (gD aA i12)) = N0 := by simpa using hN
      refine oX (by kernel_rfl) ?_
      refine dX (l := [(0, (.msl 2 lo0p 0 (List.length (List.set (List.set aA (Int.toNat i12) (gD aA j13)) (Int.toNat j13) (gD aA i12))))), (1, (eI a1)), (4, (.fn (.func cmp4_f) cmp4_a cmp4_c)), (12, (eI i12)), (13, (eI j13))]) ⟨[(0, (.msl 2 lo0p 0 (List.length aA))), (1, (eI a1)), (4, (.fn (.func cmp4_f) cmp4_a cmp4_c)), (12, (eI i12)), (13, (eI j13))], by kernel_rfl, rfl, ⟨aQ.eq (by simp []), aQ.refl _, aQ.refl _, aQ.refl _, aQ.refl _, trivial⟩⟩ ?_
      refine aK (aJ (?_))
      refine aY aF 3 [12] [(12, (eI (wR (i12 + (1 : Int)))))] ?_
      refine aY aF 3 [13] [(13, (eI (wR (j13 - (1 : Int)))))] ?_
      refine lT (fun T H => ∃ aA : List aC, ∃ j13 : Int, Has T [(0, (.msl 2 lo0p 0 (List.length aA))), (1, (eI a1)), (13, (eI j13))] ∧ aN ⟨H0, [lo0p], []⟩ H [(lo0p, 2, List.map aB aA)] ∧ List.length aA = N0 ∧ fQ cmp4 aA a1 j13 = some r) ?_ ?_
      · clear hO hN h0
        rintro T H ⟨aA, j13, hT, hO, hN, h0⟩
        refine bO hT ?_
        clear hT
        unfold fQ at h0
        refine aP ?_
        refine jS (iZ []) aF 16 ?_
        obtain ⟨c14, h0⟩ := bB h0
        refine cP 7 [0 ≤ a1 ∧ a1 < (lN aA)] ⟨c14, trivial⟩ ?_
        refine jP 0 lo0p 2 (0 + Int.toNat a1) (aB (gD aA a1)) (aB (gD aA a1)) (List.map aB aA) hO (cB c14) ?_
        obtain ⟨c15, h0⟩ := bB h0
        refine cP 11 [0 ≤ j13 ∧ j13 < (lN aA)] ⟨c15, trivial⟩ ?_
        refine jP 0 lo0p 2 (0 + Int.toNat j13) (aB (gD aA j13)) (aB (gD aA j13)) (List.map aB aA) hO (cB c15) ?_
        obtain ⟨c16, h0⟩ := bB h0
        refine cP 13 [0 ≤ j13 ∧ j13 < (lN aA)] ⟨c16, trivial⟩ ?_
        refine nL 0 lo0p 2 (0 + Int.toNat j13) (aB (gD aA j13)) (aB (gD aA a1)) (List.map aB aA) [(lo0p, 2, List.map aB (List.set aA (Int.toNat j13) (gD aA a1)))] hO (cB c16) (by simp only [List.set, lO]) ?_
        intro H hO
        replace hN : List.length (List.set aA (Int.toNat j13) (gD aA a1)) = N0 := by simpa using hN
        obtain ⟨c17, h0⟩ := bB h0
        refine cP 15 [0 ≤ a1 ∧ a1 < (lN aA)] ⟨c17, trivial⟩ ?_
        refine nL 0 lo0p 2 (0 + Int.toNat a1) (aB (gD (List.set aA (Int.toNat j13) (gD aA a1)) a1)) (aB (gD aA j13)) (List.map aB (List.set aA (Int.toNat j13) (gD aA a1))) [(lo0p, 2, List.map aB (List.set (List.set aA (Int.toNat j13) (gD aA a1)) (Int.toNat a1) (gD aA j13)))] hO (qU c17 (by simp [])) (by simp only [List.set, lO]) ?_
        intro H hO
        replace hN : List.length (List.set (List.set aA (Int.toNat j13) (gD aA a1)) (Int.toNat a1) (gD aA j13)) = N0 := by simpa using hN
        refine oX (by kernel_rfl) ?_
        refine dX (l := [(0, (.msl 2 lo0p 0 (List.length (List.set (List.set aA (Int.toNat j13) (gD aA a1)) (Int.toNat a1) (gD aA j13))))), (13, (eI j13))]) ⟨[(0, (.msl 2 lo0p 0 (List.length aA))), (13, (eI j13))], by kernel_rfl, rfl, ⟨aQ.eq (by simp []), aQ.refl _, trivial⟩⟩ ?_
        refine aK (aJ (?_))
        refine aY aF 3 [13] [(10, (eI j13)), (11, (aG false))] ?_
        refine bR ?_
        obtain rfl := oI h0
        exact aK (nF (x := (.tup [(eI j13), (aG false)])) (by kernel_rfl) (aQ.refl _) ⟨rfl, hO.ext, hO.at 0 (by kernel_rfl), by simp only [List.length_map]; exact hN.trans hN0⟩)
      refine cH 4 ?_
      refine mD [(0, (.msl 2 lo0p 0 (List.length (List.set (List.set aA (Int.toNat i12) (gD aA j13)) (Int.toNat j13) (gD aA i12))))), (1, (eI a1)), (4, (.fn (.func cmp4_f) cmp4_a cmp4_c)), (12, (eI (wR (i12 + (1 : Int))))), (13, (eI (wR (j13 - (1 : Int)))))] ?_
      refine kZ (fun T H => ∃ aA : List aC, ∃ i12 : Int, ∃ j13 : Int, Has T [(0, (.msl 2 lo0p 0 (List.length aA))), (1, (eI a1)), (4, (.fn (.func cmp4_f) cmp4_a cmp4_c)), (12, (eI i12)), (13, (eI j13))] ∧ aN ⟨H0, [lo0p], []⟩ H [(lo0p, 2, List.map aB aA)] ∧ List.length aA = N0 ∧ jO cmp4 aA a1 i12 j13 = some r) ?_ ⟨List.set (List.set aA (Int.toNat i12) (gD aA j13)) (Int.toNat j13) (gD aA i12), wR (i12 + (1 : Int)), wR (j13 - (1 : Int)), bF, hO, hN, h0⟩
      clear hO hN h0
      rintro T H ⟨aA, i12, j13, hT, hO, hN, h0⟩
      refine bO hT ?_
      clear hT
      unfold jO at h0
      obtain ⟨rr0, hl0, h0⟩ := aZ h0
      refine mQ (fun (s : List aC × Int × Int) T H => Has T [(0, (.msl 2 lo0p 0 (List.length s.1))), (1, (eI a1)), (4, (.fn (.func cmp4_f) cmp4_a cmp4_c)), (12, (eI s.2.1)), (13, (eI s.2.2))] ∧ aN ⟨H0, [lo0p], []⟩ H [(lo0p, 2, List.map aB s.1)] ∧ List.length s.1 = N0) hl0 ⟨bF, hO, hN⟩ ?_
      clear hO hN
      rintro k0 s out1 T H ⟨hT, hO, hN⟩ h1 ho0
      obtain ⟨aA, i12, j13⟩ := s
      replace h1 : jK cmp4 a1 aA i12 j13 = some out1 := h1
      try dsimp only at hT
      refine bO hT ?_
      clear hT
      unfold jK at h1
      refine cH 5 ?_
      refine lT (fun T H => ∃ aA : List aC, ∃ i12 : Int, Has T [(0, (.msl 2 lo0p 0 (List.length aA))), (1, (eI a1)), (4, (.fn (.func cmp4_f) cmp4_a cmp4_c)), (12, (eI i12)), (13, (eI j13))] ∧ aN ⟨H0, [lo0p], []⟩ H [(lo0p, 2, List.map aB aA)] ∧ List.length aA = N0 ∧ fP cmp4 aA a1 i12 j13 = some out1) ?_ ?_
      · clear hO hN h1
        rintro T H ⟨aA, i12, hT, hO, hN, h1⟩
        refine bO hT ?_
        clear hT
        unfold fP at h1
        refine lT (fun T H => ∃ aA : List aC, ∃ j13 : Int, Has T [(0, (.msl 2 lo0p 0 (List.length aA))), (1, (eI a1)), (4, (.fn (.func cmp4_f) cmp4_a cmp4_c)), (12, (eI i12)), (13, (eI j13))] ∧ aN ⟨H0, [lo0p], []⟩ H [(lo0p, 2, List.map aB aA)] ∧ List.length aA = N0 ∧ fU cmp4 aA a1 i12 j13 = some out1) ?_ ?_
        · clear hO hN h1
          rintro T H ⟨aA, j13, hT, hO, hN, h1⟩
          refine bO hT ?_
          clear hT
          unfold fU at h1
          refine aP ?_
          refine aY aF 3 [] [(144, (aG (decide (j13 < i12))))] ?_
          refine bW h1 (fun h1 => ?_) (fun h1 => ?_)
          · refine lM 4 ?_
            obtain rfl := oI h1
            obtain rfl : _ = rr0 := ho0
            replace h0 : fQ cmp4 aA a1 j13 = some r := h0
            exact aK (aX (zZ (by kernel_rfl) (aX (cC (aJ (⟨rfl, _, _, bF, hO, hN, h0⟩))))))
          refine bT ?_
          refine bC [(0, (.msl 2 lo0p 0 (List.length aA))), (1, (eI a1)), (4, (.fn (.func cmp4_f) cmp4_a cmp4_c)), (12, (eI i12)), (13, (eI j13))] ?_
          refine aP ?_
          refine jS (iZ []) aF 16 ?_
          obtain ⟨c19, h1⟩ := bB h1
          refine cP 7 [0 ≤ j13 ∧ j13 < (lN aA)] ⟨c19, trivial⟩ ?_
          refine jP 0 lo0p 2 (0 + Int.toNat j13) (aB (gD aA j13)) (aB (gD aA j13)) (List.map aB aA) hO (cB c19) ?_
          obtain ⟨c20, h1⟩ := bB h1
          refine cP 11 [0 ≤ i12 ∧ i12 < (lN aA)] ⟨c20, trivial⟩ ?_
          refine jP 0 lo0p 2 (0 + Int.toNat i12) (aB (gD aA i12)) (aB (gD aA i12)) (List.map aB aA) hO (cB c20) ?_
          obtain ⟨c21, h1⟩ := bB h1
          refine cP 13 [0 ≤ i12 ∧ i12 < (lN aA)] ⟨c21, trivial⟩ ?_
          refine nL 0 lo0p 2 (0 + Int.toNat i12) (aB (gD aA i12)) (aB (gD aA j13)) (List.map aB aA) [(lo0p, 2, List.map aB (List.set aA (Int.toNat i12) (gD aA j13)))] hO (cB c21) (by simp only [List.set, lO]) ?_
          intro H hO
          replace hN : List.length (List.set aA (Int.toNat i12) (gD aA j13)) = N0 := by simpa using hN
          obtain ⟨c22, h1⟩ := bB h1
          refine cP 15 [0 ≤ j13 ∧ j13 < (lN aA)] ⟨c22, trivial⟩ ?_
          refine nL 0 lo0p 2 (0 + Int.toNat j13) (aB (gD (List.set aA (Int.toNat i12) (gD aA j13)) j13)) (aB (gD aA i12)) (List.map aB (List.set aA (Int.toNat i12) (gD aA j13))) [(lo0p, 2, List.map aB (List.set (List.set aA (Int.toNat i12) (gD aA j13)) (Int.toNat j13) (gD aA i12)))] hO (qU c22 (by simp [])) (by simp only [List.set, lO]) ?_
          intro H hO
          replace hN : List.length (List.set (List.set aA (Int.toNat i12) (gD aA j13)) (Int.toNat j13) (gD aA i12)) = N0 := by simpa using hN
          refine oX (by kernel_rfl) ?_
          refine dX (l := [(0, (.msl 2 lo0p 0 (List.length (List.set (List.set aA (Int.toNat i12) (gD aA j13)) (Int.toNat j13) (gD aA i12))))), (1, (eI a1)), (4, (.fn (.func cmp4_f) cmp4_a cmp4_c)), (12, (eI i12)), (13, (eI j13))]) ⟨[(0, (.msl 2 lo0p 0 (List.length aA))), (1, (eI a1)), (4, (.fn (.func cmp4_f) cmp4_a cmp4_c)), (12, (eI i12)), (13, (eI j13))], by kernel_rfl, rfl, ⟨aQ.eq (by simp []), aQ.refl _, aQ.refl _, aQ.refl _, aQ.refl _, trivial⟩⟩ ?_
          refine aK (aJ (?_))
          refine aY aF 3 [12] [(12, (eI (wR (i12 + (1 : Int)))))] ?_
          refine aU aF 3 ?_
          refine bG ?_
          exact aK (bD (aJ (⟨rfl, _, (oI h1).symm, bF, hO, hN⟩)))
        refine cH 8 ?_
        refine mD [(0, (.msl 2 lo0p 0 (List.length aA))), (1, (eI a1)), (4, (.fn (.func cmp4_f) cmp4_a cmp4_c)), (12, (eI i12)), (13, (eI j13))] ?_
        refine kZ (fun T H => ∃ aA : List aC, ∃ j13 : Int, Has T [(0, (.msl 2 lo0p 0 (List.length aA))), (1, (eI a1)), (4, (.fn (.func cmp4_f) cmp4_a cmp4_c)), (12, (eI i12)), (13, (eI j13))] ∧ aN ⟨H0, [lo0p], []⟩ H [(lo0p, 2, List.map aB aA)] ∧ List.length aA = N0 ∧ jD cmp4 aA a1 i12 j13 = some out1) ?_ ⟨aA, j13, bF, hO, hN, h1⟩
        clear hO hN h1
        rintro T H ⟨aA, j13, hT, hO, hN, h1⟩
        refine bO hT ?_
        clear hT
        unfold jD at h1
        obtain ⟨rr1, hl1, h1⟩ := aZ h1
        refine mQ (fun (s : List aC × Int) T H => Has T [(0, (.msl 2 lo0p 0 (List.length s.1))), (1, (eI a1)), (4, (.fn (.func cmp4_f) cmp4_a cmp4_c)), (12, (eI i12)), (13, (eI s.2))] ∧ aN ⟨H0, [lo0p], []⟩ H [(lo0p, 2, List.map aB s.1)] ∧ List.length s.1 = N0) hl1 ⟨bF, hO, hN⟩ ?_
        clear hO hN
        rintro k1 s out2 T H ⟨hT, hO, hN⟩ h2 ho1
        obtain ⟨aA, j13⟩ := s
        replace h2 : jJ cmp4 a1 i12 aA j13 = some out2 := h2
        try dsimp only at hT
        refine bO hT ?_
        clear hT
        unfold jJ at h2
        refine aP ?_
        refine aP ?_
        obtain ⟨c23, h2⟩ := bB h2
        obtain ⟨c24, h2⟩ := bB h2
        obtain ⟨x25, hx26, h2⟩ := aZ h2
        refine jS (iZ []) aF 17 ?_
        refine tO (K := fun T H => Has (lift T) [(0, (.msl 2 lo0p 0 (List.length aA))), (1, (eI a1)), (4, (.fn (.func cmp4_f) cmp4_a cmp4_c)), (12, (eI i12)), (13, (eI j13)), (139, (aG ((decide (i12 ≤ j13)) && (!(decide (x25 < (0 : Int)))))))] ∧ aN ⟨H0, [lo0p], []⟩ H [(lo0p, 2, List.map aB aA)]) ?_ ?_
        · refine qD 4 ?_
          refine sZ (t := 126) (e := decide (i12 ≤ j13)) (by kernel_rfl) (fun hg27 => ?_) (fun hg27 => ?_)
          · refine cP 8 [0 ≤ j13 ∧ j13 < (lN aA)] ⟨(c23 hg27), trivial⟩ ?_
            refine uH 0 lo0p 2 (0 + Int.toNat j13) (aB (gD aA j13)) (aB (gD aA j13)) (List.map aB aA) hO (cB (c23 hg27)) ?_
            refine cP 12 [0 ≤ a1 ∧ a1 < (lN aA)] ⟨(c24 hg27), trivial⟩ ?_
            refine uH 0 lo0p 2 (0 + Int.toNat a1) (aB (gD aA a1)) (aB (gD aA a1)) (List.map aB aA) hO (cB (c24 hg27)) ?_
            refine uQ cmp4_f (cmp4_a ++ [(aB (gD aA j13)), (aB (gD aA a1))] ++ cmp4_c) (eI x25) (by kernel_rfl) (by kernel_rfl) (cmp4_h (gD aA j13) (gD aA a1) _ (pE hx26 hg27)) hO ?_
            intro H hO
            refine nX ?_
            exact ⟨⟨[(0, (.msl 2 lo0p 0 (List.length aA))), (1, (eI a1)), (4, (.fn (.func cmp4_f) cmp4_a cmp4_c)), (12, (eI i12)), (13, (eI j13)), (139, (aG (!(decide (x25 < (0 : Int))))))], by kernel_rfl, rfl, ⟨aQ.refl _, aQ.refl _, aQ.refl _, aQ.refl _, aQ.refl _, aQ.eq (congrArg aG (rE hg27 rfl).symm), trivial⟩⟩, hO⟩
          refine nX ?_
          exact ⟨⟨[(0, (.msl 2 lo0p 0 (List.length aA))), (1, (eI a1)), (4, (.fn (.func cmp4_f) cmp4_a cmp4_c)), (12, (eI i12)), (13, (eI j13)), (139, (aG false))], by kernel_rfl, rfl, ⟨aQ.refl _, aQ.refl _, aQ.refl _, aQ.refl _, aQ.refl _, aQ.eq (congrArg aG (rE hg27 rfl).symm), trivial⟩⟩, hO⟩
        · rintro T H ⟨hT, hO⟩
          refine dX hT ?_
          clear hT
          refine aK (aJ ?_)
          refine bW h2 (fun h2 => ?_) (fun h2 => ?_)
          · refine bT ?_
            refine bC [(0, (.msl 2 lo0p 0 (List.length aA))), (1, (eI a1)), (4, (.fn (.func cmp4_f) cmp4_a cmp4_c)), (12, (eI i12)), (13, (eI j13))] ?_
            refine cH 9 ?_
            refine aU aF 3 ?_
            refine bG ?_
            exact aK (bD (aJ (⟨rfl, _, (oI h2).symm, bF, hO, hN⟩)))
          refine lM 8 ?_
          obtain rfl := oI h2
          obtain rfl : _ = rr1 := ho1
          replace h1 : fU cmp4 aA a1 i12 j13 = some out1 := h1
          exact aK (aX (aX (cC (aJ (⟨rfl, _, _, bF, hO, hN, h1⟩)))))
      refine cH 6 ?_
      refine mD [(0, (.msl 2 lo0p 0 (List.length aA))), (1, (eI a1)), (4, (.fn (.func cmp4_f) cmp4_a cmp4_c)), (12, (eI i12)), (13, (eI j13))] ?_
      refine kZ (fun T H => ∃ aA : List aC, ∃ i12 : Int, Has T [(0, (.msl 2 lo0p 0 (List.length aA))), (1, (eI a1)), (4, (.fn (.func cmp4_f) cmp4_a cmp4_c)), (12, (eI i12)), (13, (eI j13))] ∧ aN ⟨H0, [lo0p], []⟩ H [(lo0p, 2, List.map aB aA)] ∧ List.length aA = N0 ∧ jH cmp4 aA a1 i12 j13 = some out1) ?_ ⟨aA, i12, bF, hO, hN, h1⟩
      clear hO hN h1
      rintro T H ⟨aA, i12, hT, hO, hN, h1⟩
      refine bO hT ?_
      clear hT
      unfold jH at h1
      obtain ⟨rr1, hl1, h1⟩ := aZ h1
      refine mQ (fun (s : List aC × Int) T H => Has T [(0, (.msl 2 lo0p 0 (List.length s.1))), (1, (eI a1)), (4, (.fn (.func cmp4_f) cmp4_a cmp4_c)), (12, (eI s.2)), (13, (eI j13))] ∧ aN ⟨H0, [lo0p], []⟩ H [(lo0p, 2, List.map aB s.1)] ∧ List.length s.1 = N0) hl1 ⟨bF, hO, hN⟩ ?_
      clear hO hN
      rintro k1 s out2 T H ⟨hT, hO, hN⟩ h2 ho1
      obtain ⟨aA, i12⟩ := s
      replace h2 : jG cmp4 a1 j13 aA i12 = some out2 := h2
      try dsimp only at hT
      refine bO hT ?_
      clear hT
      unfold jG at h2
      refine aP ?_
      refine aP ?_
      obtain ⟨c29, h2⟩ := bB h2
      obtain ⟨c30, h2⟩ := bB h2
      obtain ⟨x31, hx32, h2⟩ := aZ h2
      refine jS (iZ []) aF 16 ?_
      refine tO (K := fun T H => Has (lift T) [(0, (.msl 2 lo0p 0 (List.length aA))), (1, (eI a1)), (4, (.fn (.func cmp4_f) cmp4_a cmp4_c)), (12, (eI i12)), (13, (eI j13)), (120, (aG ((decide (i12 ≤ j13)) && (decide (x31 < (0 : Int))))))] ∧ aN ⟨H0, [lo0p], []⟩ H [(lo0p, 2, List.map aB aA)]) ?_ ?_
      · refine qD 4 ?_
        refine sZ (t := 108) (e := decide (i12 ≤ j13)) (by kernel_rfl) (fun hg33 => ?_) (fun hg33 => ?_)
        · refine cP 8 [0 ≤ i12 ∧ i12 < (lN aA)] ⟨(c29 hg33), trivial⟩ ?_
          refine uH 0 lo0p 2 (0 + Int.toNat i12) (aB (gD aA i12)) (aB (gD aA i12)) (List.map aB aA) hO (cB (c29 hg33)) ?_
          refine cP 12 [0 ≤ a1 ∧ a1 < (lN aA)] ⟨(c30 hg33), trivial⟩ ?_
          refine uH 0 lo0p 2 (0 + Int.toNat a1) (aB (gD aA a1)) (aB (gD aA a1)) (List.map aB aA) hO (cB (c30 hg33)) ?_
          refine uQ cmp4_f (cmp4_a ++ [(aB (gD aA i12)), (aB (gD aA a1))] ++ cmp4_c) (eI x31) (by kernel_rfl) (by kernel_rfl) (cmp4_h (gD aA i12) (gD aA a1) _ (pE hx32 hg33)) hO ?_
          intro H hO
          refine nX ?_
          exact ⟨⟨[(0, (.msl 2 lo0p 0 (List.length aA))), (1, (eI a1)), (4, (.fn (.func cmp4_f) cmp4_a cmp4_c)), (12, (eI i12)), (13, (eI j13)), (120, (aG (decide (x31 < (0 : Int)))))], by kernel_rfl, rfl, ⟨aQ.refl _, aQ.refl _, aQ.refl _, aQ.refl _, aQ.refl _, aQ.eq (congrArg aG (rE hg33 rfl).symm), trivial⟩⟩, hO⟩
        refine nX ?_
        exact ⟨⟨[(0, (.msl 2 lo0p 0 (List.length aA))), (1, (eI a1)), (4, (.fn (.func cmp4_f) cmp4_a cmp4_c)), (12, (eI i12)), (13, (eI j13)), (120, (aG false))], by kernel_rfl, rfl, ⟨aQ.refl _, aQ.refl _, aQ.refl _, aQ.refl _, aQ.refl _, aQ.eq (congrArg aG (rE hg33 rfl).symm), trivial⟩⟩, hO⟩
      · rintro T H ⟨hT, hO⟩
        refine dX hT ?_
        clear hT
        refine aK (aJ ?_)
        refine bW h2 (fun h2 => ?_) (fun h2 => ?_)
        · refine bT ?_
          refine bC [(0, (.msl 2 lo0p 0 (List.length aA))), (1, (eI a1)), (4, (.fn (.func cmp4_f) cmp4_a cmp4_c)), (12, (eI i12)), (13, (eI j13))] ?_
          refine cH 7 ?_
          refine aU aF 3 ?_
          refine bG ?_
          exact aK (bD (aJ (⟨rfl, _, (oI h2).symm, bF, hO, hN⟩)))
        refine lM 6 ?_
        obtain rfl := oI h2
        obtain rfl : _ = rr1 := ho1
        replace h1 : fP cmp4 aA a1 i12 j13 = some out1 := h1
        exact aK (aX (aX (cC (aJ (⟨rfl, _, _, bF, hO, hN, h1⟩)))))
    refine cH 2 ?_
    refine mD [(0, (.msl 2 lo0p 0 (List.length aA))), (1, (eI a1)), (4, (.fn (.func cmp4_f) cmp4_a cmp4_c)), (12, (eI i12)), (13, (eI j13))] ?_
    refine kZ (fun T H => ∃ aA : List aC, ∃ j13 : Int, Has T [(0, (.msl 2 lo0p 0 (List.length aA))), (1, (eI a1)), (4, (.fn (.func cmp4_f) cmp4_a cmp4_c)), (12, (eI i12)), (13, (eI j13))] ∧ aN ⟨H0, [lo0p], []⟩ H [(lo0p, 2, List.map aB aA)] ∧ List.length aA = N0 ∧ jC cmp4 aA a1 i12 j13 = some r) ?_ ⟨aA, j13, bF, hO, hN, h0⟩
    clear hO hN h0
    rintro T H ⟨aA, j13, hT, hO, hN, h0⟩
    refine bO hT ?_
    clear hT
    unfold jC at h0
    obtain ⟨rr0, hl0, h0⟩ := aZ h0
    refine mQ (fun (s : List aC × Int) T H => Has T [(0, (.msl 2 lo0p 0 (List.length s.1))), (1, (eI a1)), (4, (.fn (.func cmp4_f) cmp4_a cmp4_c)), (12, (eI i12)), (13, (eI s.2))] ∧ aN ⟨H0, [lo0p], []⟩ H [(lo0p, 2, List.map aB s.1)] ∧ List.length s.1 = N0) hl0 ⟨bF, hO, hN⟩ ?_
    clear hO hN
    rintro k0 s out1 T H ⟨hT, hO, hN⟩ h1 ho0
    obtain ⟨aA, j13⟩ := s
    replace h1 : jI cmp4 a1 i12 aA j13 = some out1 := h1
    try dsimp only at hT
    refine bO hT ?_
    clear hT
    unfold jI at h1
    refine aP ?_
    refine aP ?_
    obtain ⟨c35, h1⟩ := bB h1
    obtain ⟨c36, h1⟩ := bB h1
    obtain ⟨x37, hx38, h1⟩ := aZ h1
    refine jS (iZ []) aF 17 ?_
    refine tO (K := fun T H => Has (lift T) [(0, (.msl 2 lo0p 0 (List.length aA))), (1, (eI a1)), (4, (.fn (.func cmp4_f) cmp4_a cmp4_c)), (12, (eI i12)), (13, (eI j13)), (66, (aG ((decide (i12 ≤ j13)) && (!(decide (x37 < (0 : Int)))))))] ∧ aN ⟨H0, [lo0p], []⟩ H [(lo0p, 2, List.map aB aA)]) ?_ ?_
    · refine qD 4 ?_
      refine sZ (t := 53) (e := decide (i12 ≤ j13)) (by kernel_rfl) (fun hg39 => ?_) (fun hg39 => ?_)
      · refine cP 8 [0 ≤ j13 ∧ j13 < (lN aA)] ⟨(c35 hg39), trivial⟩ ?_
        refine uH 0 lo0p 2 (0 + Int.toNat j13) (aB (gD aA j13)) (aB (gD aA j13)) (List.map aB aA) hO (cB (c35 hg39)) ?_
        refine cP 12 [0 ≤ a1 ∧ a1 < (lN aA)] ⟨(c36 hg39), trivial⟩ ?_
        refine uH 0 lo0p 2 (0 + Int.toNat a1) (aB (gD aA a1)) (aB (gD aA a1)) (List.map aB aA) hO (cB (c36 hg39)) ?_
        refine uQ cmp4_f (cmp4_a ++ [(aB (gD aA j13)), (aB (gD aA a1))] ++ cmp4_c) (eI x37) (by kernel_rfl) (by kernel_rfl) (cmp4_h (gD aA j13) (gD aA a1) _ (pE hx38 hg39)) hO ?_
        intro H hO
        refine nX ?_
        exact ⟨⟨[(0, (.msl 2 lo0p 0 (List.length aA))), (1, (eI a1)), (4, (.fn (.func cmp4_f) cmp4_a cmp4_c)), (12, (eI i12)), (13, (eI j13)), (66, (aG (!(decide (x37 < (0 : Int))))))], by kernel_rfl, rfl, ⟨aQ.refl _, aQ.refl _, aQ.refl _, aQ.refl _, aQ.refl _, aQ.eq (congrArg aG (rE hg39 rfl).symm), trivial⟩⟩, hO⟩
      refine nX ?_
      exact ⟨⟨[(0, (.msl 2 lo0p 0 (List.length aA))), (1, (eI a1)), (4, (.fn (.func cmp4_f) cmp4_a cmp4_c)), (12, (eI i12)), (13, (eI j13)), (66, (aG false))], by kernel_rfl, rfl, ⟨aQ.refl _, aQ.refl _, aQ.refl _, aQ.refl _, aQ.refl _, aQ.eq (congrArg aG (rE hg39 rfl).symm), trivial⟩⟩, hO⟩
    · rintro T H ⟨hT, hO⟩
      refine dX hT ?_
      clear hT
      refine aK (aJ ?_)
      refine bW h1 (fun h1 => ?_) (fun h1 => ?_)
      · refine bT ?_
        refine bC [(0, (.msl 2 lo0p 0 (List.length aA))), (1, (eI a1)), (4, (.fn (.func cmp4_f) cmp4_a cmp4_c)), (12, (eI i12)), (13, (eI j13))] ?_
        refine cH 3 ?_
        refine aU aF 3 ?_
        refine bG ?_
        exact aK (bD (aJ (⟨rfl, _, (oI h1).symm, bF, hO, hN⟩)))
      refine lM 2 ?_
      obtain rfl := oI h1
      obtain rfl : _ = rr0 := ho0
      replace h0 : fR cmp4 aA a1 i12 j13 = some r := h0
      exact aK (aX (aX (cC (aJ (⟨rfl, _, _, bF, hO, hN, h0⟩)))))
  refine cH 0 ?_
  refine mD [(0, (.msl 2 lo0p 0 (List.length (List.set (List.set aA (Int.toNat a1) (gD aA bY)) (Int.toNat bY) (gD aA a1))))), (1, (eI a1)), (4, (.fn (.func cmp4_f) cmp4_a cmp4_c)), (12, (eI (wR (a1 + (1 : Int))))), (13, (eI (wR (b2 - (1 : Int)))))] ?_
  refine kZ (fun T H => ∃ aA : List aC, ∃ i12 : Int, ∃ j13 : Int, Has T [(0, (.msl 2 lo0p 0 (List.length aA))), (1, (eI a1)), (4, (.fn (.func cmp4_f) cmp4_a cmp4_c)), (12, (eI i12)), (13, (eI j13))] ∧ aN ⟨H0, [lo0p], []⟩ H [(lo0p, 2, List.map aB aA)] ∧ List.length aA = N0 ∧ iX cmp4 aA a1 i12 j13 = some r) ?_ ⟨List.set (List.set aA (Int.toNat a1) (gD aA bY)) (Int.toNat bY) (gD aA a1), wR (a1 + (1 : Int)), wR (b2 - (1 : Int)), bF, hO, hN, h0⟩
  clear hO hN h0
  rintro T H ⟨aA, i12, j13, hT, hO, hN, h0⟩
  refine bO hT ?_
  clear hT
  unfold iX at h0
  obtain ⟨rr0, hl0, h0⟩ := aZ h0
  refine mQ (fun (s : List aC × Int) T H => Has T [(0, (.msl 2 lo0p 0 (List.length s.1))), (1, (eI a1)), (4, (.fn (.func cmp4_f) cmp4_a cmp4_c)), (12, (eI s.2)), (13, (eI j13))] ∧ aN ⟨H0, [lo0p], []⟩ H [(lo0p, 2, List.map aB s.1)] ∧ List.length s.1 = N0) hl0 ⟨bF, hO, hN⟩ ?_
  clear hO hN
  rintro k0 s out1 T H ⟨hT, hO, hN⟩ h1 ho0
  obtain ⟨aA, i12⟩ := s
  replace h1 : iV cmp4 a1 j13 aA i12 = some out1 := h1
  try dsimp only at hT
  refine bO hT ?_
  clear hT
  unfold iV at h1
  refine aP ?_
  refine aP ?_
  obtain ⟨c41, h1⟩ := bB h1
  obtain ⟨c42, h1⟩ := bB h1
  obtain ⟨x43, hx44, h1⟩ := aZ h1
  refine jS (iZ []) aF 16 ?_
  refine tO (K := fun T H => Has (lift T) [(0, (.msl 2 lo0p 0 (List.length aA))), (1, (eI a1)), (4, (.fn (.func cmp4_f) cmp4_a cmp4_c)), (12, (eI i12)), (13, (eI j13)), (47, (aG ((decide (i12 ≤ j13)) && (decide (x43 < (0 : Int))))))] ∧ aN ⟨H0, [lo0p], []⟩ H [(lo0p, 2, List.map aB aA)]) ?_ ?_
  · refine qD 4 ?_
    refine sZ (t := 35) (e := decide (i12 ≤ j13)) (by kernel_rfl) (fun hg45 => ?_) (fun hg45 => ?_)
    · refine cP 8 [0 ≤ i12 ∧ i12 < (lN aA)] ⟨(c41 hg45), trivial⟩ ?_
      refine uH 0 lo0p 2 (0 + Int.toNat i12) (aB (gD aA i12)) (aB (gD aA i12)) (List.map aB aA) hO (cB (c41 hg45)) ?_
      refine cP 12 [0 ≤ a1 ∧ a1 < (lN aA)] ⟨(c42 hg45), trivial⟩ ?_
      refine uH 0 lo0p 2 (0 + Int.toNat a1) (aB (gD aA a1)) (aB (gD aA a1)) (List.map aB aA) hO (cB (c42 hg45)) ?_
      refine uQ cmp4_f (cmp4_a ++ [(aB (gD aA i12)), (aB (gD aA a1))] ++ cmp4_c) (eI x43) (by kernel_rfl) (by kernel_rfl) (cmp4_h (gD aA i12) (gD aA a1) _ (pE hx44 hg45)) hO ?_
      intro H hO
      refine nX ?_
      exact ⟨⟨[(0, (.msl 2 lo0p 0 (List.length aA))), (1, (eI a1)), (4, (.fn (.func cmp4_f) cmp4_a cmp4_c)), (12, (eI i12)), (13, (eI j13)), (47, (aG (decide (x43 < (0 : Int)))))], by kernel_rfl, rfl, ⟨aQ.refl _, aQ.refl _, aQ.refl _, aQ.refl _, aQ.refl _, aQ.eq (congrArg aG (rE hg45 rfl).symm), trivial⟩⟩, hO⟩
    refine nX ?_
    exact ⟨⟨[(0, (.msl 2 lo0p 0 (List.length aA))), (1, (eI a1)), (4, (.fn (.func cmp4_f) cmp4_a cmp4_c)), (12, (eI i12)), (13, (eI j13)), (47, (aG false))], by kernel_rfl, rfl, ⟨aQ.refl _, aQ.refl _, aQ.refl _, aQ.refl _, aQ.refl _, aQ.eq (congrArg aG (rE hg45 rfl).symm), trivial⟩⟩, hO⟩
  · rintro T H ⟨hT, hO⟩
    refine dX hT ?_
    clear hT
    refine aK (aJ ?_)
    refine bW h1 (fun h1 => ?_) (fun h1 => ?_)
    · refine bT ?_
      refine bC [(0, (.msl 2 lo0p 0 (List.length aA))), (1, (eI a1)), (4, (.fn (.func cmp4_f) cmp4_a cmp4_c)), (12, (eI i12)), (13, (eI j13))] ?_
      refine cH 1 ?_
      refine aU aF 3 ?_
      refine bG ?_
      exact aK (bD (aJ (⟨rfl, _, (oI h1).symm, bF, hO, hN⟩)))
    refine lM 0 ?_
    obtain rfl := oI h1
    obtain rfl : _ = rr0 := ho0
    replace h0 : fS cmp4 aA a1 i12 j13 = some r := h0
    exact aK (aX (aX (cC (aJ (⟨rfl, _, _, _, bF, hO, hN, h0⟩)))))

theorem wZ (cmp4_f : Nat) (cmp4_a cmp4_c : List V) (cmp4 : aC → aC → Option Int) (cmp4_h : ∀ a0 a1 r, cmp4 a0 a1 = some r → dK Try.prog cmp4_f (cmp4_a ++ [(aB a0), (aB a1)] ++ cmp4_c) (eI r)) (rec : (List aC) → Int → Int → Int → Option (List aC)) (ih : ∀ (lo0p : Nat) (aA : (List aC)) (a1 : Int) (b2 : Int) (bJ : Int) (r : List aC), rec aA a1 b2 bJ = some r → rU Try.prog 37 lo0p 2 (List.map aB aA) (List.map aB r) [(.msl 2 lo0p 0 (List.length aA)), (eI a1), (eI b2), (eI bJ), (.fn (.func cmp4_f) cmp4_a cmp4_c)] (.tup [])) (lo0p : Nat) (aA : (List aC)) (a1 : Int) (b2 : Int) (bJ : Int) (r : List aC) (h0 : jA cmp4 rec aA a1 b2 bJ = some r) : rU Try.prog 37 lo0p 2 (List.map aB aA) (List.map aB r) [(.msl 2 lo0p 0 (List.length aA)), (eI a1), (eI b2), (eI bJ), (.fn (.func cmp4_f) cmp4_a cmp4_c)] (.tup []) := by
  intro H0 hl0
  refine dP Try.func37 ?_
  have hO := aN.uP hl0
  clear hl0
  obtain ⟨N0, hN0⟩ : ∃ n, n = List.length aA := ⟨_, rfl⟩
  have hN : List.length aA = N0 := hN0.symm
  unfold jA at h0
  refine aY aF 1 [] [(10, (aG true))] ?_
  refine aY aF 1 [] [(11, (aG true))] ?_
  refine cH 0 ?_
  refine mD [(0, (.msl 2 lo0p 0 (List.length aA))), (1, (eI a1)), (2, (eI b2)), (3, (eI bJ)), (4, (.fn (.func cmp4_f) cmp4_a cmp4_c)), (10, (aG true)), (11, (aG true))] ?_
  refine kZ (fun T H => ∃ aA : List aC, ∃ a1 : Int, ∃ b2 : Int, ∃ bJ : Int, ∃ bH : Bool, ∃ bA : Bool, Has T [(0, (.msl 2 lo0p 0 (List.length aA))), (1, (eI a1)), (2, (eI b2)), (3, (eI bJ)), (4, (.fn (.func cmp4_f) cmp4_a cmp4_c)), (10, (aG bH)), (11, (aG bA))] ∧ aN ⟨H0, [lo0p], []⟩ H [(lo0p, 2, List.map aB aA)] ∧ List.length aA = N0 ∧ kR cmp4 rec aA a1 b2 bJ bH bA = some r) ?_ ⟨aA, a1, b2, bJ, true, true, bF, hO, hN, h0⟩
  clear hO hN h0
  rintro T H ⟨aA, a1, b2, bJ, bH, bA, hT, hO, hN, h0⟩
  refine bO hT ?_
  clear hT
  unfold kR at h0
  obtain ⟨rr0, hl0, h0⟩ := aZ h0
  refine mQ (fun (s : List aC × Int × Int × Int × Bool × Bool) T H => Has T [(0, (.msl 2 lo0p 0 (List.length s.1))), (1, (eI s.2.1)), (2, (eI s.2.2.1)), (3, (eI s.2.2.2.1)), (4, (.fn (.func cmp4_f) cmp4_a cmp4_c)), (10, (aG s.2.2.2.2.1)), (11, (aG s.2.2.2.2.2))] ∧ aN ⟨H0, [lo0p], []⟩ H [(lo0p, 2, List.map aB s.1)] ∧ List.length s.1 = N0) hl0 ⟨bF, hO, hN⟩ ?_
  clear hO hN
  rintro k0 s out1 T H ⟨hT, hO, hN⟩ h1 ho0
  obtain ⟨aA, a1, b2, bJ, bH, bA⟩ := s
  replace h1 : kO cmp4 rec aA a1 b2 bJ bH bA = some out1 := h1
  try dsimp only at hT
  refine bO hT ?_
  clear hT
  unfold kO at h1
  refine cH 1 ?_
  refine aY aF 4 [] [(12, (eI (wR (b2 - a1))))] ?_
  refine aP ?_
  refine aY aF 2 [] [(25, (aG (decide ((wR (b2 - a1)) ≤ (12 : Int)))))] ?_
  refine bW h1 (fun h1 => ?_) (fun h1 => ?_)
  · refine aP ?_
    refine aU aF 5 ?_
    refine bQ 4 ?_
    obtain ⟨x2, hx3, h1⟩ := aZ h1
    refine DP [(lo0p, 2, List.map aB x2)] 0 (wH lo0p aA a1 b2 cmp4_f cmp4_a cmp4_c cmp4 cmp4_h _ hx3) hO ?_
    intro H hO hl4
    simp only [List.length_map] at hl4
    replace hN := hl4.trans hN
    refine eW ?_
    refine dX (l := [(0, (.msl 2 lo0p 0 (List.length x2)))]) ⟨[(0, (.msl 2 lo0p 0 (List.length aA)))], by kernel_rfl, rfl, ⟨aQ.eq (by simp [hl4]), trivial⟩⟩ ?_
    refine aK (aJ (?_))
    refine bR ?_
    obtain rfl := oI h1
    obtain rfl : _ = rr0 := ho0
    replace h0 : some x2 = some r := h0
    obtain rfl := oI h0
    exact aK (aV (bV (aV (bV (nF (x := (.tup [])) (by kernel_rfl) (aQ.refl _) ⟨rfl, hO.ext, hO.at 0 (by kernel_rfl), by simp only [List.length_map]; exact hN.trans hN0⟩)))))
  refine bT ?_
  refine bC [(0, (.msl 2 lo0p 0 (List.length aA))), (1, (eI a1)), (2, (eI b2)), (3, (eI bJ)), (4, (.fn (.func cmp4_f) cmp4_a cmp4_c)), (10, (aG bH)), (11, (aG bA)), (12, (eI (wR (b2 - a1))))] ?_
  refine aP ?_
  refine aY aF 2 [] [(32, (aG (decide (bJ = (0 : Int)))))] ?_
  refine bW h1 (fun h1 => ?_) (fun h1 => ?_)
  · refine aP ?_
    refine aU aF 5 ?_
    refine bQ 4 ?_
    obtain ⟨x6, hx7, h1⟩ := aZ h1
    refine DP [(lo0p, 2, List.map aB x6)] 0 (AJ lo0p aA a1 b2 cmp4_f cmp4_a cmp4_c cmp4 cmp4_h _ hx7) hO ?_
    intro H hO hl8
    simp only [List.length_map] at hl8
    replace hN := hl8.trans hN
    refine eW ?_
    refine dX (l := [(0, (.msl 2 lo0p 0 (List.length x6)))]) ⟨[(0, (.msl 2 lo0p 0 (List.length aA)))], by kernel_rfl, rfl, ⟨aQ.eq (by simp [hl8]), trivial⟩⟩ ?_
    refine aK (aJ (?_))
    refine bR ?_
    obtain rfl := oI h1
    obtain rfl : _ = rr0 := ho0
    replace h0 : some x6 = some r := h0
    obtain rfl := oI h0
    exact aK (aV (bV (aV (bV (nF (x := (.tup [])) (by kernel_rfl) (aQ.refl _) ⟨rfl, hO.ext, hO.at 0 (by kernel_rfl), by simp only [List.length_map]; exact hN.trans hN0⟩)))))
  refine bT ?_
  refine bC [(0, (.msl 2 lo0p 0 (List.length aA))), (1, (eI a1)), (2, (eI b2)), (3, (eI bJ)), (4, (.fn (.func cmp4_f) cmp4_a cmp4_c)), (10, (aG bH)), (11, (aG bA)), (12, (eI (wR (b2 - a1))))] ?_
  refine lT (fun T H => ∃ aA : List aC, ∃ bJ : Int, ∃ cY : Int, Has T [(0, (.msl 2 lo0p 0 (List.length aA))), (1, (eI a1)), (2, (eI b2)), (3, (eI bJ)), (4, (.fn (.func cmp4_f) cmp4_a cmp4_c)), (10, (aG bH)), (11, (aG bA)), (12, (eI cY))] ∧ aN ⟨H0, [lo0p], []⟩ H [(lo0p, 2, List.map aB aA)] ∧ List.length aA = N0 ∧ hY cmp4 rec aA a1 b2 bJ bH bA cY = some out1) ?_ ?_
  · clear hO hN h1
    rintro T H ⟨aA, bJ, cY, hT, hO, hN, h1⟩
    refine bO hT ?_
    clear hT
    unfold hY at h1
    refine aP ?_
    refine aU aF 10 ?_
    refine bQ 4 ?_
    obtain ⟨x9, hx10, h1⟩ := aZ h1
    refine JX [] [0] (xB lo0p aA a1 b2 cmp4_f cmp4_a cmp4_c cmp4 cmp4_h _ hx10) hO ?_
    intro r11 L12 H hP13 hO
    obtain ⟨rfl, rfl⟩ := hP13
    replace hO : aN ⟨H0, [lo0p], []⟩ H [(lo0p, 2, List.map aB aA)] := hO
    refine bG ?_
    refine cQ [] [(13, (eI x9.1)), (14, (eI x9.2))] ?_
    refine lT (fun T H => ∃ aA : List aC, ∃ fF : Int, ∃ CK : Int, Has T [(0, (.msl 2 lo0p 0 (List.length aA))), (1, (eI a1)), (2, (eI b2)), (3, (eI bJ)), (4, (.fn (.func cmp4_f) cmp4_a cmp4_c)), (10, (aG bH)), (11, (aG bA)), (12, (eI cY)), (13, (eI fF)), (14, (eI CK))] ∧ aN ⟨H0, [lo0p], []⟩ H [(lo0p, 2, List.map aB aA)] ∧ List.length aA = N0 ∧ iE cmp4 rec aA a1 b2 bJ bH bA cY fF CK = some out1) ?_ ?_
    · clear hO hN h1
      rintro T H ⟨aA, fF, CK, hT, hO, hN, h1⟩
      refine bO hT ?_
      clear hT
      unfold iE at h1
      refine lT (fun T H => ∃ aA : List aC, Has T [(0, (.msl 2 lo0p 0 (List.length aA))), (1, (eI a1)), (2, (eI b2)), (3, (eI bJ)), (4, (.fn (.func cmp4_f) cmp4_a cmp4_c)), (10, (aG bH)), (11, (aG bA)), (12, (eI cY)), (13, (eI fF))] ∧ aN ⟨H0, [lo0p], []⟩ H [(lo0p, 2, List.map aB aA)] ∧ List.length aA = N0 ∧ iA cmp4 rec aA a1 b2 bJ bH bA cY fF = some out1) ?_ ?_
      · clear hO hN h1
        rintro T H ⟨aA, hT, hO, hN, h1⟩
        refine bO hT ?_
        clear hT
        unfold iA at h1
        refine aP ?_
        refine aP ?_
        obtain ⟨c14, h1⟩ := bB h1
        obtain ⟨c15, h1⟩ := bB h1
        obtain ⟨x16, hx17, h1⟩ := aZ h1
        refine jS (iZ []) aF 17 ?_
        refine tO (K := fun T H => Has (lift T) [(0, (.msl 2 lo0p 0 (List.length aA))), (1, (eI a1)), (2, (eI b2)), (3, (eI bJ)), (4, (.fn (.func cmp4_f) cmp4_a cmp4_c)), (10, (aG bH)), (11, (aG bA)), (12, (eI cY)), (13, (eI fF)), (97, (aG ((decide ((0 : Int) < a1)) && (!(decide (x16 < (0 : Int)))))))] ∧ aN ⟨H0, [lo0p], []⟩ H [(lo0p, 2, List.map aB aA)]) ?_ ?_
        · refine qD 3 ?_
          refine sZ (t := 83) (e := decide ((0 : Int) < a1)) (by kernel_rfl) (fun hg18 => ?_) (fun hg18 => ?_)
          · refine cP 8 [0 ≤ (wR (a1 - (1 : Int))) ∧ (wR (a1 - (1 : Int))) < (lN aA)] ⟨(c14 hg18), trivial⟩ ?_
            refine uH 0 lo0p 2 (0 + Int.toNat (wR (a1 - (1 : Int)))) (aB (gD aA (wR (a1 - (1 : Int))))) (aB (gD aA (wR (a1 - (1 : Int))))) (List.map aB aA) hO (cB (c14 hg18)) ?_
            refine cP 12 [0 ≤ fF ∧ fF < (lN aA)] ⟨(c15 hg18), trivial⟩ ?_
            refine uH 0 lo0p 2 (0 + Int.toNat fF) (aB (gD aA fF)) (aB (gD aA fF)) (List.map aB aA) hO (cB (c15 hg18)) ?_
            refine uQ cmp4_f (cmp4_a ++ [(aB (gD aA (wR (a1 - (1 : Int))))), (aB (gD aA fF))] ++ cmp4_c) (eI x16) (by kernel_rfl) (by kernel_rfl) (cmp4_h (gD aA (wR (a1 - (1 : Int)))) (gD aA fF) _ (pE hx17 hg18)) hO ?_
            intro H hO
            refine nX ?_
            exact ⟨⟨[(0, (.msl 2 lo0p 0 (List.length aA))), (1, (eI a1)), (2, (eI b2)), (3, (eI bJ)), (4, (.fn (.func cmp4_f) cmp4_a cmp4_c)), (10, (aG bH)), (11, (aG bA)), (12, (eI cY)), (13, (eI fF)), (97, (aG (!(decide (x16 < (0 : Int))))))], by kernel_rfl, rfl, ⟨aQ.refl _, aQ.refl _, aQ.refl _, aQ.refl _, aQ.refl _, aQ.refl _, aQ.refl _, aQ.refl _, aQ.refl _, aQ.eq (congrArg aG (rE hg18 rfl).symm), trivial⟩⟩, hO⟩
          refine nX ?_
          exact ⟨⟨[(0, (.msl 2 lo0p 0 (List.length aA))), (1, (eI a1)), (2, (eI b2)), (3, (eI bJ)), (4, (.fn (.func cmp4_f) cmp4_a cmp4_c)), (10, (aG bH)), (11, (aG bA)), (12, (eI cY)), (13, (eI fF)), (97, (aG false))], by kernel_rfl, rfl, ⟨aQ.refl _, aQ.refl _, aQ.refl _, aQ.refl _, aQ.refl _, aQ.refl _, aQ.refl _, aQ.refl _, aQ.refl _, aQ.eq (congrArg aG (rE hg18 rfl).symm), trivial⟩⟩, hO⟩
        · rintro T H ⟨hT, hO⟩
          refine dX hT ?_
          clear hT
          refine aK (aJ ?_)
          refine bW h1 (fun h1 => ?_) (fun h1 => ?_)
          · refine aP ?_
            refine aU aF 7 ?_
            refine bQ 5 ?_
            obtain ⟨x20, hx21, h1⟩ := aZ h1
            refine DP [(lo0p, 2, List.map aB x20.2)] 0 (vV lo0p aA a1 b2 fF cmp4_f cmp4_a cmp4_c cmp4 cmp4_h _ hx21) hO ?_
            intro H hO hl22
            simp only [List.length_map] at hl22
            replace hN := hl22.trans hN
            refine bG ?_
            refine dX (l := [(0, (.msl 2 lo0p 0 (List.length x20.2))), (2, (eI b2)), (3, (eI bJ)), (4, (.fn (.func cmp4_f) cmp4_a cmp4_c)), (10, (aG bH)), (11, (aG bA)), (15, (eI x20.1))]) ⟨[(0, (.msl 2 lo0p 0 (List.length aA))), (2, (eI b2)), (3, (eI bJ)), (4, (.fn (.func cmp4_f) cmp4_a cmp4_c)), (10, (aG bH)), (11, (aG bA)), (15, (eI x20.1))], by kernel_rfl, rfl, ⟨aQ.eq (by simp [hl22]), aQ.refl _, aQ.refl _, aQ.refl _, aQ.refl _, aQ.refl _, aQ.refl _, trivial⟩⟩ ?_
            refine aK (aJ (?_))
            refine aY aF 2 [15] [(1, (eI x20.1))] ?_
            refine lM 1 ?_
            exact aK (aX (cC (aJ (⟨rfl, _, (oI h1).symm, bF, hO, hN⟩))))
          refine bT ?_
          refine bC [(0, (.msl 2 lo0p 0 (List.length aA))), (1, (eI a1)), (2, (eI b2)), (3, (eI bJ)), (4, (.fn (.func cmp4_f) cmp4_a cmp4_c)), (12, (eI cY)), (13, (eI fF))] ?_
          refine aP ?_
          refine aU aF 11 ?_
          refine bQ 5 ?_
          obtain ⟨x23, hx24, h1⟩ := aZ h1
          refine DP [(lo0p, 2, List.map aB x23.2)] 0 (zB lo0p aA a1 b2 fF cmp4_f cmp4_a cmp4_c cmp4 cmp4_h _ hx24) hO ?_
          intro H hO hl25
          simp only [List.length_map] at hl25
          replace hN := hl25.trans hN
          refine bG ?_
          refine dX (l := [(0, (.msl 2 lo0p 0 (List.length x23.2))), (1, (eI a1)), (2, (eI b2)), (3, (eI bJ)), (4, (.fn (.func cmp4_f) cmp4_a cmp4_c)), (12, (eI cY)), (16, (eI x23.1.1)), (17, (aG x23.1.2))]) ⟨[(0, (.msl 2 lo0p 0 (List.length aA))), (1, (eI a1)), (2, (eI b2)), (3, (eI bJ)), (4, (.fn (.func cmp4_f) cmp4_a cmp4_c)), (12, (eI cY)), (16, (eI x23.1.1)), (17, (aG x23.1.2))], by kernel_rfl, rfl, ⟨aQ.eq (by simp [hl25]), aQ.refl _, aQ.refl _, aQ.refl _, aQ.refl _, aQ.refl _, aQ.refl _, aQ.refl _, trivial⟩⟩ ?_
          refine aK (aJ (?_))
          refine aY aF 2 [17] [(11, (aG x23.1.2))] ?_
          refine aY aF 8 [] [(18, (eI (wR (x23.1.1 - a1)))), (19, (eI (wR (b2 - x23.1.1))))] ?_
          refine aP ?_
          refine aU aF 3 ?_
          obtain ⟨c26, h1⟩ := bB h1
          refine sW [(8 : Int) ≠ 0] ⟨c26, trivial⟩ ?_
          refine cQ [12] [(20, (eI (wR (Int.tdiv cY (8 : Int)))))] ?_
          refine aY aF 3 [] [(125, (aG (decide ((wR (x23.1.1 - a1)) < (wR (b2 - x23.1.1))))))] ?_
          refine bW h1 (fun h1 => ?_) (fun h1 => ?_)
          · refine cJ aF 4 [(0, (.msl 2 lo0p 0 (List.length x23.2))), (1, (eI a1)), (2, (eI b2)), (3, (eI bJ)), (4, (.fn (.func cmp4_f) cmp4_a cmp4_c)), (10, (aG (decide ((wR (Int.tdiv cY (8 : Int))) ≤ (wR (x23.1.1 - a1)))))), (11, (aG x23.1.2)), (16, (eI x23.1.1))] ?_
            refine aP ?_
            refine aU aF 6 ?_
            refine bQ 5 ?_
            obtain ⟨x28, hx29, h1⟩ := aZ h1
            refine DP [(lo0p, 2, List.map aB x28)] 0 (ih lo0p x23.2 a1 x23.1.1 bJ _ hx29) hO ?_
            intro H hO hl30
            simp only [List.length_map] at hl30
            replace hN := hl30.trans hN
            refine eW ?_
            refine dX (l := [(0, (.msl 2 lo0p 0 (List.length x28))), (2, (eI b2)), (3, (eI bJ)), (4, (.fn (.func cmp4_f) cmp4_a cmp4_c)), (10, (aG (decide ((wR (Int.tdiv cY (8 : Int))) ≤ (wR (x23.1.1 - a1)))))), (11, (aG x23.1.2)), (16, (eI x23.1.1))]) ⟨[(0, (.msl 2 lo0p 0 (List.length x23.2))), (2, (eI b2)), (3, (eI bJ)), (4, (.fn (.func cmp4_f) cmp4_a cmp4_c)), (10, (aG (decide ((wR (Int.tdiv cY (8 : Int))) ≤ (wR (x23.1.1 - a1)))))), (11, (aG x23.1.2)), (16, (eI x23.1.1))], by kernel_rfl, rfl, ⟨aQ.eq (by simp [hl30]), aQ.refl _, aQ.refl _, aQ.refl _, aQ.refl _, aQ.refl _, aQ.refl _, trivial⟩⟩ ?_
            refine aK (aJ (?_))
            refine aU aF 3 ?_
            refine bG ?_
            exact aK (bD (aJ (⟨rfl, _, (oI h1).symm, bF, hO, hN⟩)))
          refine cJ aF 4 [(0, (.msl 2 lo0p 0 (List.length x23.2))), (1, (eI a1)), (2, (eI b2)), (3, (eI bJ)), (4, (.fn (.func cmp4_f) cmp4_a cmp4_c)), (10, (aG (decide ((wR (Int.tdiv cY (8 : Int))) ≤ (wR (b2 - x23.1.1)))))), (11, (aG x23.1.2)), (16, (eI x23.1.1))] ?_
          refine aP ?_
          refine aU aF 7 ?_
          refine bQ 6 ?_
          obtain ⟨x31, hx32, h1⟩ := aZ h1
          refine DP [(lo0p, 2, List.map aB x31)] 0 (ih lo0p x23.2 (wR (x23.1.1 + (1 : Int))) b2 bJ _ hx32) hO ?_
          intro H hO hl33
          simp only [List.length_map] at hl33
          replace hN := hl33.trans hN
          refine eW ?_
          refine dX (l := [(0, (.msl 2 lo0p 0 (List.length x31))), (1, (eI a1)), (3, (eI bJ)), (4, (.fn (.func cmp4_f) cmp4_a cmp4_c)), (10, (aG (decide ((wR (Int.tdiv cY (8 : Int))) ≤ (wR (b2 - x23.1.1)))))), (11, (aG x23.1.2)), (16, (eI x23.1.1))]) ⟨[(0, (.msl 2 lo0p 0 (List.length x23.2))), (1, (eI a1)), (3, (eI bJ)), (4, (.fn (.func cmp4_f) cmp4_a cmp4_c)), (10, (aG (decide ((wR (Int.tdiv cY (8 : Int))) ≤ (wR (b2 - x23.1.1)))))), (11, (aG x23.1.2)), (16, (eI x23.1.1))], by kernel_rfl, rfl, ⟨aQ.eq (by simp [hl33]), aQ.refl _, aQ.refl _, aQ.refl _, aQ.refl _, aQ.refl _, aQ.refl _, trivial⟩⟩ ?_
          refine aK (aJ (?_))
          refine aU aF 2 ?_
          refine bG ?_
          exact aK (bD (aJ (⟨rfl, _, (oI h1).symm, bF, hO, hN⟩)))
      refine aY aF 8 [14] [(75, (aG ((bH && bA) && (decide (CK = (1 : Int))))))] ?_
      refine bW h1 (fun h1 => ?_) (fun h1 => ?_)
      · refine aP ?_
        refine aU aF 5 ?_
        refine bQ 4 ?_
        obtain ⟨x35, hx36, h1⟩ := aZ h1
        refine DP [(lo0p, 2, List.map aB x35.2)] 0 (tN lo0p aA a1 b2 cmp4_f cmp4_a cmp4_c cmp4 cmp4_h _ hx36) hO ?_
        intro H hO hl37
        simp only [List.length_map] at hl37
        replace hN := hl37.trans hN
        refine eW ?_
        refine dX (l := [(0, (.msl 2 lo0p 0 (List.length x35.2))), (1, (eI a1)), (2, (eI b2)), (3, (eI bJ)), (4, (.fn (.func cmp4_f) cmp4_a cmp4_c)), (10, (aG bH)), (11, (aG bA)), (12, (eI cY)), (13, (eI fF)), (80, (aG x35.1))]) ⟨[(0, (.msl 2 lo0p 0 (List.length aA))), (1, (eI a1)), (2, (eI b2)), (3, (eI bJ)), (4, (.fn (.func cmp4_f) cmp4_a cmp4_c)), (10, (aG bH)), (11, (aG bA)), (12, (eI cY)), (13, (eI fF)), (80, (aG x35.1))], by kernel_rfl, rfl, ⟨aQ.eq (by simp [hl37]), aQ.refl _, aQ.refl _, aQ.refl _, aQ.refl _, aQ.refl _, aQ.refl _, aQ.refl _, aQ.refl _, aQ.refl _, trivial⟩⟩ ?_
        refine aK (aJ (?_))
        refine bW h1 (fun h1 => ?_) (fun h1 => ?_)
        · refine bR ?_
          obtain rfl := oI h1
          obtain rfl : _ = rr0 := ho0
          replace h0 : some x35.2 = some r := h0
          obtain rfl := oI h0
          exact aK (aV (bV (aV (bV (nF (x := (.tup [])) (by kernel_rfl) (aQ.refl _) ⟨rfl, hO.ext, hO.at 0 (by kernel_rfl), by simp only [List.length_map]; exact hN.trans hN0⟩)))))
        refine bT ?_
        exact aK (aJ (⟨rfl, _, bF, hO, hN, h1⟩))
      refine bT ?_
      exact aK (aJ (⟨rfl, _, bF, hO, hN, h1⟩))
    refine aY aF 2 [] [(56, (aG (decide (x9.2 = (2 : Int)))))] ?_
    refine bW h1 (fun h1 => ?_) (fun h1 => ?_)
    · refine aP ?_
      refine aU aF 5 ?_
      refine bQ 4 ?_
      obtain ⟨x40, hx41, h1⟩ := aZ h1
      refine DP [(lo0p, 2, List.map aB x40)] 0 (wY lo0p aA a1 b2 cmp4_f cmp4_a cmp4_c cmp4 cmp4_h _ hx41) hO ?_
      intro H hO hl42
      simp only [List.length_map] at hl42
      replace hN := hl42.trans hN
      refine eW ?_
      refine dX (l := [(0, (.msl 2 lo0p 0 (List.length x40))), (1, (eI a1)), (2, (eI b2)), (3, (eI bJ)), (4, (.fn (.func cmp4_f) cmp4_a cmp4_c)), (10, (aG bH)), (11, (aG bA)), (12, (eI cY)), (13, (eI x9.1))]) ⟨[(0, (.msl 2 lo0p 0 (List.length aA))), (1, (eI a1)), (2, (eI b2)), (3, (eI bJ)), (4, (.fn (.func cmp4_f) cmp4_a cmp4_c)), (10, (aG bH)), (11, (aG bA)), (12, (eI cY)), (13, (eI x9.1))], by kernel_rfl, rfl, ⟨aQ.eq (by simp [hl42]), aQ.refl _, aQ.refl _, aQ.refl _, aQ.refl _, aQ.refl _, aQ.refl _, aQ.refl _, aQ.refl _, trivial⟩⟩ ?_
      refine aK (aJ (?_))
      refine aY aF 7 [13] [(13, (eI (wR ((wR (b2 - (1 : Int))) - (wR (x9.1 - a1))))))] ?_
      refine aU aF 1 ?_
      refine bG ?_
      exact aK (aJ (⟨rfl, _, _, _, bF, hO, hN, h1⟩))
    refine bT ?_
    exact aK (aJ (⟨rfl, _, _, _, bF, hO, hN, h1⟩))
  refine aY aF 2 [] [(39, (aG (!bH)))] ?_
  refine bW h1 (fun h1 => ?_) (fun h1 => ?_)
  · refine aP ?_
    refine aU aF 5 ?_
    refine bQ 4 ?_
    obtain ⟨x44, hx45, h1⟩ := aZ h1
    refine DP [(lo0p, 2, List.map aB x44)] 0 (wI lo0p aA a1 b2 cmp4_f cmp4_a cmp4_c cmp4 cmp4_h _ hx45) hO ?_
    intro H hO hl46
    simp only [List.length_map] at hl46
    replace hN := hl46.trans hN
    refine eW ?_
    refine dX (l := [(0, (.msl 2 lo0p 0 (List.length x44))), (1, (eI a1)), (2, (eI b2)), (3, (eI bJ)), (4, (.fn (.func cmp4_f) cmp4_a cmp4_c)), (10, (aG bH)), (11, (aG bA)), (12, (eI (wR (b2 - a1))))]) ⟨[(0, (.msl 2 lo0p 0 (List.length aA))), (1, (eI a1)), (2, (eI b2)), (3, (eI bJ)), (4, (.fn (.func cmp4_f) cmp4_a cmp4_c)), (10, (aG bH)), (11, (aG bA)), (12, (eI (wR (b2 - a1))))], by kernel_rfl, rfl, ⟨aQ.eq (by simp [hl46]), aQ.refl _, aQ.refl _, aQ.refl _, aQ.refl _, aQ.refl _, aQ.refl _, aQ.refl _, trivial⟩⟩ ?_
    refine aK (aJ (?_))
    refine aU aF 3 ?_
    refine bG ?_
    exact aK (aJ (⟨rfl, _, _, _, bF, hO, hN, h1⟩))
  refine bT ?_
  exact aK (aJ (⟨rfl, _, _, _, bF, hO, hN, h1⟩))

theorem rF (cmp4_f : Nat) (cmp4_a cmp4_c : List V) (cmp4 : aC → aC → Option Int) (cmp4_h : ∀ a0 a1 r, cmp4 a0 a1 = some r → dK Try.prog cmp4_f (cmp4_a ++ [(aB a0), (aB a1)] ++ cmp4_c) (eI r)) : ∀ (k : Nat) (lo0p : Nat) (aA : (List aC)) (a1 : Int) (b2 : Int) (bJ : Int) (r : List aC), iC cmp4 k aA a1 b2 bJ = some r → rU Try.prog 37 lo0p 2 (List.map aB aA) (List.map aB r) [(.msl 2 lo0p 0 (List.length aA)), (eI a1), (eI b2), (eI bJ), (.fn (.func cmp4_f) cmp4_a cmp4_c)] (.tup [])
  | 0, _, _, _, _, _, _, h => by cases h
  | k + 1, lo0p, aA, a1, b2, bJ, r, h => wZ cmp4_f cmp4_a cmp4_c cmp4 cmp4_h _ (rF cmp4_f cmp4_a cmp4_c cmp4 cmp4_h k) lo0p aA a1 b2 bJ r h

theorem BC (lo0p : Nat) (aA : (List aC)) (a1 : Int) (b2 : Int) (bJ : Int) (cmp4_f : Nat) (cmp4_a cmp4_c : List V) (cmp4 : aC → aC → Option Int) (cmp4_h : ∀ a0 a1 r, cmp4 a0 a1 = some r → dK Try.prog cmp4_f (cmp4_a ++ [(aB a0), (aB a1)] ++ cmp4_c) (eI r)) (r : List aC) (h0 : pT aA a1 b2 bJ cmp4 = some r) : rU Try.prog 37 lo0p 2 (List.map aB aA) (List.map aB r) [(.msl 2 lo0p 0 (List.length aA)), (eI a1), (eI b2), (eI bJ), (.fn (.func cmp4_f) cmp4_a cmp4_c)] (.tup []) := by
  obtain ⟨k, hk⟩ := aC6 h0
  exact rF cmp4_f cmp4_a cmp4_c cmp4 cmp4_h k lo0p aA a1 b2 bJ r hk

theorem yE (lo0p : Nat) (x0 : (List aC)) (cmp1_f : Nat) (cmp1_a cmp1_c : List V) (cmp1 : aC → aC → Option Int) (cmp1_h : ∀ a0 a1 r, cmp1 a0 a1 = some r → dK Try.prog cmp1_f (cmp1_a ++ [(aB a0), (aB a1)] ++ cmp1_c) (eI r)) (r : List aC) (h0 : fT x0 cmp1 = some r) : rU Try.prog 23 lo0p 2 (List.map aB x0) (List.map aB r) [(.msl 2 lo0p 0 (List.length x0)), (.fn (.func cmp1_f) cmp1_a cmp1_c)] (.tup []) := by
  intro H0 hl0
  refine dP Try.func23 ?_
  have hO := aN.uP hl0
  clear hl0
  obtain ⟨N0, hN0⟩ : ∃ n, n = List.length x0 := ⟨_, rfl⟩
  have hN : List.length x0 = N0 := hN0.symm
  unfold fT at h0
  refine aY aF 3 [] [(4, (eI (lN x0)))] ?_
  refine aU aF 7 ?_
  refine bQ 4 ?_
  obtain ⟨x1, hx2, h0⟩ := aZ h0
  refine iY (IX (IntKind.u64.wrap (lN x0)) _ hx2) hO ?_
  intro H hO
  refine bQ 6 ?_
  obtain ⟨x4, hx5, h0⟩ := aZ h0
  refine DP [(lo0p, 2, List.map aB x4)] 0 (BC lo0p x0 (0 : Int) (lN x0) x1 cmp1_f cmp1_a cmp1_c cmp1 cmp1_h _ hx5) hO ?_
  intro H hO hl6
  simp only [List.length_map] at hl6
  replace hN := hl6.trans hN
  refine eW ?_
  refine dX (l := [(0, (.msl 2 lo0p 0 (List.length x4)))]) ⟨[(0, (.msl 2 lo0p 0 (List.length x0)))], by kernel_rfl, rfl, ⟨aQ.eq (by simp [hl6]), trivial⟩⟩ ?_
  obtain rfl := oI h0
  exact aK (FQ (x := (.tup [])) (by kernel_rfl) (aQ.refl _) ⟨rfl, hO.ext, hO.at 0 (by kernel_rfl), by simp only [List.length_map]; exact hN.trans hN0⟩)

theorem QC (x0 : aC) (y1 : aC) (r : Int) (h0 : pH x0 y1 = some r) : dK Try.prog 24 [(aB x0), (aB y1)] (eI r) := by
  intro H0
  refine dP Try.func24 ?_
  have hO := aN.start H0
  unfold pH at h0
  refine aP ?_
  refine aU aF 3 ?_
  refine xG 2 (aB x0) ?_
  refine xG 2 (aB y1) ?_
  refine bG ?_
  refine bC [(2, (.rp (aB x0))), (3, (.rp (aB y1)))] ?_
  refine aP ?_
  refine aU aF 6 ?_
  refine bQ 4 ?_
  obtain ⟨x1, hx2, h0⟩ := aZ h0
  refine iY (MY x0.row y1.row _ hx2) hO ?_
  intro H hO
  refine bG ?_
  refine bC [(4, (eI x1))] ?_
  refine bR ?_
  obtain rfl := oI h0
  exact aK (Q_r hO)

theorem aCH (lo0p : Nat) (l0 : (List aI)) (r1 : (List aE)) (f2 : (List aD)) (r : (List aI)) (h0 : CC l0 r1 f2 = some r) : XU Try.prog 45 lo0p 3 (List.map aO l0) [(.msl 3 lo0p 0 (List.length l0)), (eL aM r1), (eL aL f2)] (fun lo => .msl 3 lo 0 (List.length r)) (List.map aO r) := by
  intro H0 hl0
  refine dP Try.func45 ?_
  have hO := aN.uP hl0
  clear hl0
  unfold CC at h0
  refine aY aF 1 [] [] ?_
  refine lT (fun T H => ∃ l0 : List aI, ∃ lo1 : Nat, Has T [(0, (.msl 3 lo1 0 (List.length l0)))] ∧ aN ⟨H0, [lo0p], []⟩ H [(lo1, 3, List.map aO l0)] ∧ DZ l0 = some r) ?_ ?_
  · clear hO h0
    rintro T H ⟨l0, lo1, hT, hO, h0⟩
    refine bO hT ?_
    clear hT
    unfold DZ at h0
    refine cJ aF 2 [(6, (.msl 3 lo1 0 (List.length l0)))] ?_
    refine bR ?_
    obtain rfl := oI h0
    exact aK (nF (x := (.msl 3 lo1 0 (List.length l0))) (by kernel_rfl) (aQ.refl _) ⟨lo1, rfl, hO⟩)
  refine aY aF 3 [2] [(9, (eL aL f2)), (10, (eI (lN f2))), (11, (eI (0 : Int)))] ?_
  refine cH 0 ?_
  refine mD [(0, (.msl 3 lo0p 0 (List.length l0))), (1, (eL aM r1)), (9, (eL aL f2)), (10, (eI (lN f2))), (11, (eI (0 : Int)))] ?_
  refine kZ (fun T H => ∃ l0 : List aI, ∃ t9 : (List aD), ∃ t10 : Int, ∃ t11 : Int, ∃ lo3 : Nat, Has T [(0, (.msl 3 lo3 0 (List.length l0))), (1, (eL aM r1)), (9, (eL aL t9)), (10, (eI t10)), (11, (eI t11))] ∧ aN ⟨H0, [lo0p], []⟩ H [(lo3, 3, List.map aO l0)] ∧ DY l0 r1 t9 t10 t11 = some r) ?_ ⟨l0, f2, (lN f2), (0 : Int), lo0p, bF, hO, h0⟩
  clear hO h0
  rintro T H ⟨l0, t9, t10, t11, lo3, hT, hO, h0⟩
  refine bO hT ?_
  clear hT
  unfold DY at h0
  obtain ⟨rr0, hl0, h0⟩ := aZ h0
  refine mQ (fun (s : List aI × Int) T H => ∃ lo3 : Nat, Has T [(0, (.msl 3 lo3 0 (List.length s.1))), (1, (eL aM r1)), (9, (eL aL t9)), (10, (eI t10)), (11, (eI s.2))] ∧ aN ⟨H0, [lo0p], []⟩ H [(lo3, 3, List.map aO s.1)]) hl0 ⟨lo3, bF, hO⟩ ?_
  clear hO
  rintro k0 s out1 T H ⟨lo3, hT, hO⟩ h1 ho0
  obtain ⟨l0, t11⟩ := s
  replace h1 : sE r1 t9 t10 l0 t11 = some out1 := h1
  try dsimp only at hT
  refine bO hT ?_
  clear hT
  unfold sE at h1
  refine aY aF 1 [] [(12, (aG (decide (t11 < t10))))] ?_
  refine aP ?_
  refine bW h1 (fun h1 => ?_) (fun h1 => ?_)
  · refine bT ?_
    refine bC [(0, (.msl 3 lo3 0 (List.length l0))), (1, (eL aM r1)), (9, (eL aL t9)), (10, (eI t10)), (11, (eI t11))] ?_
    refine aP ?_
    refine cH 1 ?_
    refine aP ?_
    refine aU aF 4 ?_
    obtain ⟨c5, h1⟩ := bB h1
    refine AV 2 [0 ≤ t11 ∧ t11 < (lN t9)] ⟨c5, trivial⟩ ?_
    refine qT 2 (aL (aD.mk 0 0)) (by kernel_rfl) (by kernel_rfl) hO ?_
    intro lo6 H hO
    refine pI 1 lo6 2 0 (aL (aD.mk 0 0)) (aL (gD t9 t11)) [(aL (aD.mk 0 0))] [(lo3, 3, List.map aO l0), (lo6, 2, [(aL (gD t9 t11))])] hO rfl (by kernel_rfl) ?_
    intro H hO
    refine eW ?_
    refine cQ [] [(8, (.lp lo6 0 0))] ?_
    refine mD [(0, (.msl 3 lo3 0 (List.length l0))), (1, (eL aM r1)), (8, (.lp lo6 0 0)), (9, (eL aL t9)), (10, (eI t10)), (11, (eI t11))] ?_
    refine aC1 2 1 8 2 lo6 (aL (gD t9 t11)) [(lo3, 3, List.map aO l0)] hO (by kernel_rfl) (by kernel_rfl) (by kernel_rfl) ?_
    intro H hO
    refine jS (iZ [19, 21, 23]) aF 11 ?_
    refine qD 2 ?_
    obtain ⟨x7, hx8, h1⟩ := aZ h1
    refine NK (TS r1 _ hx8) hO ?_
    intro H hO
    refine qD 8 ?_
    refine XP (xs := [(aO (aI.mk x7 ((gD t9 t11).At) ((gD t9 t11).Net)))]) (k := 3) (by kernel_rfl) (by kernel_rfl) ?_
    obtain ⟨c11, h1⟩ := bB h1
    refine UO (e := aO) l0 ([aI.mk x7 ((gD t9 t11).At) ((gD t9 t11).Net)]) 0 lo3 3 40 (dR [(aO (aI.mk x7 ((gD t9 t11).At) ((gD t9 t11).Net)))]) (fun lo10 => [(lo10, 3, List.map aO (l0 ++ ([aI.mk x7 ((gD t9 t11).At) ((gD t9 t11).Net)])))]) (by kernel_rfl) (by kernel_rfl) hO (by kernel_rfl) (by kernel_rfl) c11 (fun _ => by kernel_rfl) ?_
    intro lo10 H hO
    refine nX ?_
    refine fG [(0, (.msl 3 lo10 0 (List.length (l0 ++ ([aI.mk x7 ((gD t9 t11).At) ((gD t9 t11).Net)]))))), (1, (eL aM r1)), (9, (eL aL t9)), (10, (eI t10)), (11, (eI t11))] ?_
    refine aK (bD (aJ (?_)))
    refine aU aF 2 ?_
    refine bG ?_
    exact aK (aJ (⟨rfl, _, (oI h1).symm, _, bF, hO⟩))
  refine lM 0 ?_
  obtain rfl := oI h1
  obtain rfl : _ = rr0 := ho0
  replace h0 : DZ l0 = some r := h0
  exact aK (aX (aX (cC (aJ (⟨rfl, _, _, bF, hO, h0⟩)))))

theorem aAD (r0 : (List aE)) (f1 : (List aD)) (r : (List aI)) (h0 : xH r0 f1 = some r) : dK Try.prog 26 [(eL aM r0), (eL aL f1)] (eL aO r) := by
  intro H0
  refine dP Try.func26 ?_
  have hO := aN.start H0
  unfold xH at h0
  refine aY aF 1 [] [] ?_
  refine aP ?_
  refine aP ?_
  refine aU aF 8 ?_
  refine bQ 1 ?_
  obtain ⟨x1, hx2, h0⟩ := aZ h0
  refine iY (ES r0 _ hx2) hO ?_
  intro H hO
  refine bQ 5 ?_
  obtain ⟨x4, hx5, h0⟩ := aZ h0
  refine tC [(8, false)] 28 [(eL aL f1)] (aG x4) (!(!x1)) (by kernel_rfl) (by kernel_rfl) (by kernel_rfl) (fun hb6 => (uX f1 _ (pE hx5 hb6))) hO ?_
  intro H hO
  refine bG ?_
  refine cQ [] [(12, (aG ((!x1) || (!x4))))] ?_
  refine bW h0 (fun h0 => ?_) (fun h0 => ?_)
  · refine cJ aF 1 [(4, (.sl true 0 (fun _ => .bad)))] ?_
    refine bR ?_
    refine dX (l := [(4, (eL aO ([])))]) ⟨[(4, (.sl true 0 (fun _ => .bad)))], by kernel_rfl, rfl, ⟨lU, trivial⟩⟩ ?_
    obtain rfl := oI h0
    exact aK (aV (Q_r hO))
  refine bT ?_
  refine bC [(0, (eL aM r0)), (1, (eL aL f1))] ?_
  refine aP ?_
  refine aU aF 4 ?_
  refine bQ 2 ?_
  obtain ⟨x8, hx9, h0⟩ := aZ h0
  refine LK (L' := fun lo10 => [(lo10, 3, List.map aO x8)]) 3 (List.map aO x8) 45 [(.sl true 0 (fun _ => .bad)), (eL aM r0), (eL aL f1)] (fun lo10 => (.msl 3 lo10 0 (List.length x8))) (by kernel_rfl) (by kernel_rfl) (XU.nil (pre := []) (post := [(eL aM r0), (eL aL f1)]) (fun lo => (aCH lo [] r0 f1 _ hx9))) hO (fun _ => by kernel_rfl) ?_
  intro lo10 H hO
  refine bG ?_
  refine bC [(4, (.msl 3 lo10 0 (List.length x8)))] ?_
  refine bR ?_
  refine fG [(4, (.msl 3 lo10 0 (List.length x8)))] ?_
  refine tK (en := aO) x8 0 0 4 3 lo10 (List.length x8) hO (by kernel_rfl) (by kernel_rfl) (by kernel_rfl) (L' := []) (by kernel_rfl) ?_
  intro H11 hO
  obtain rfl := oI h0
  exact aK (Q_r hO)

theorem DV (lo lm : Nat) (b : bU) (r : List aI) (h0 : sD b = some r) : wV Try.prog 11 [(.lp lo 0 0)] [fJ lm b] [pM lo lm b] (fun x M L => x = (eL aO r) ∧ M = [fJ lm b] ∧ L = [pM lo lm b]) := by
  intro F H0 hO
  obtain ⟨Fh, Fe, Fg⟩ := F
  refine dP Try.func11 ?_
  replace hO : aN ⟨Fh, Fe, (lm, lX aB b.cells) :: Fg⟩ _ [(lo, 3, [(.agg [.mp lm, eI b.edges, eI b.mark])])] := hO
  unfold sD at h0
  refine aY aF 1 [] [] ?_
  refine aP ?_
  refine aU aF 2 ?_
  refine wN [] 3 ?_
  refine bG ?_
  refine bC [(0, (.lp lo 0 0)), (3, (dR []))] ?_
  refine aP ?_
  refine aP ?_
  refine aU aF 2 ?_
  refine bQ 1 ?_
  refine HU false ?_
  refine eW ?_
  refine bC [(0, (.lp lo 0 0)), (3, (dR [])), (11, (aG false))] ?_
  refine nW (false) (fun hc => by cases hc) (fun hc => ?_)
  refine bT ?_
  refine bC [(0, (.lp lo 0 0)), (3, (dR []))] ?_
  refine aP ?_
  refine aU aF 7 ?_
  refine bQ 3 ?_
  refine oH 0 lo 3 0 (.agg [.mp lm, eI b.edges, eI b.mark]) (.mp lm) [(.agg [.mp lm, eI b.edges, eI b.mark])] hO rfl ?_
  refine aCq (f := aB) (mty := 40) hO ?_
  obtain ⟨c1, h0⟩ := bB h0
  refine aBE 2 48 (lN b.cells) (by kernel_rfl) (by kernel_rfl) c1 hO ?_
  intro lo4 H hO
  refine bG ?_
  refine bC [(0, (.lp lo 0 0)), (3, (dR [])), (4, (.msl 2 lo4 0 (List.length ([] : List aC))))] ?_
  refine aP ?_
  refine aP ?_
  refine aU aF 5 ?_
  refine bQ 3 ?_
  refine oH 0 lo 3 0 (.agg [.mp lm, eI b.edges, eI b.mark]) (.mp lm) [(.agg [.mp lm, eI b.edges, eI b.mark])] hO rfl ?_
  refine HR (f := aB) (mty := 40) hO ?_
  intro li bs ck H hmb hmn hO
  refine eW ?_
  refine bC [(3, (dR [])), (4, (.msl 2 lo4 0 (List.length ([] : List aC)))), (23, (.lp li 0 0))] ?_
  refine cH 0 ?_
  refine KA (by kernel_rfl) (fun (s : List aC) (seen : List Nat) T H => ∃ lo4 : Nat, Has T [(3, (dR [])), (4, (.msl 2 lo4 0 (List.length s))), (23, (.lp li 0 0))] ∧ aN ⟨Fh, Fe, (li, LV li lm ck seen) :: (lm, xM aB b.cells bs ck) :: Fg⟩ H [(lo, 3, [(.agg [.mp lm, eI b.edges, eI b.mark])]), (lo4, 2, List.map aB s)]) hmb h0 ⟨lo4, bF, hO⟩ ?_
  clear hO h0 c1
  rintro seen rem s T H ⟨lo4, hT, hO⟩ hleft hall
  refine bO (l := [(3, (dR [])), (4, (.msl 2 lo4 0 (List.length s))), (23, (.lp li 0 0))]) hT ?_
  clear hT
  refine aP ?_
  refine aU aF 2 ?_
  refine KF hmb hmn hleft hall hO (fun h0 => ?_) (fun mk mv bq rest out1 H h1 hlt hleft hall hat hO => ?_)
  · clear hall hleft
    unfold KU at h0
    refine bG ?_
    refine bC [(3, (dR [])), (4, (.msl 2 lo4 0 (List.length s))), (25, (aG false))] ?_
    refine aP ?_
    refine nW (false) (fun hc => by cases hc) (fun hc => ?_)
    refine lM 0 ?_
    replace hO := hO.rX
    refine EC hO fun H hO => ?_
    refine fG [(3, (dR [])), (4, (.msl 2 lo4 0 (List.length s)))] ?_
    refine aK (aX (aX (cC (aJ (?_)))))
    refine aP ?_
    refine aU aF 2 ?_
    refine bQ 1 ?_
    obtain ⟨rows, hr, h0⟩ := aZ h0
    refine DP [(lo, 3, [(.agg [.mp lm, eI b.edges, eI b.mark])]), (lo4, 2, List.map aB rows)] 1 (yE lo4 s 24 [] [] (fun x y => pH x y) (fun x y _ hh => QC x y _ hh) _ hr) hO ?_
    intro H hO hlen
    simp only [List.length_map] at hlen
    refine eW ?_
    rw [← hlen]
    refine bC [(3, (dR [])), (4, (.msl 2 lo4 0 (List.length rows)))] ?_
    refine aP ?_
    refine aP ?_
    refine aU aF 3 ?_
    refine bG ?_
    refine fG [(3, (dR [])), (34, (.msl 2 lo4 0 (List.length rows))), (35, (eI (lN rows))), (36, (eI (0 : Int)))] ?_
    refine PB (el := (fun _ => .bad)) 0 3 3 hO (by kernel_rfl) ?_
    intro lo3 H hO
    refine bC [(3, (.msl 3 lo3 0 (List.length ([] : List aI)))), (34, (.msl 2 lo4 0 (List.length rows))), (35, (eI (lN rows))), (36, (eI (0 : Int)))] ?_
    refine cH 2 ?_
    refine mQ (fun (q : List aI × Int) T H => ∃ lo3 : Nat, Has T [(3, (.msl 3 lo3 0 (List.length q.1))), (34, (.msl 2 lo4 0 (List.length rows))), (35, (eI (lN rows))), (36, (eI q.2))] ∧ aN ⟨Fh, Fe, (lm, lX aB b.cells) :: Fg⟩ H [(lo, 3, [(.agg [.mp lm, eI b.edges, eI b.mark])]), (lo4, 2, List.map aB rows), (lo3, 3, List.map aO q.1)]) h0 ⟨lo3, bF, hO⟩ ?_
    clear hO
    rintro k0 q out2 T H ⟨lo3, hT, hO⟩ h2 ho2
    obtain ⟨o3, i3⟩ := q
    replace h2 : AH rows (lN rows) o3 i3 = some out2 := h2
    refine bO (l := [(3, (.msl 3 lo3 0 (List.length o3))), (34, (.msl 2 lo4 0 (List.length rows))), (35, (eI (lN rows))), (36, (eI i3))]) hT ?_
    clear hT
    unfold AH at h2
    refine cJ aF 1 [(3, (.msl 3 lo3 0 (List.length o3))), (34, (.msl 2 lo4 0 (List.length rows))), (35, (eI (lN rows))), (36, (eI i3)), (37, (aG (decide (i3 < (lN rows)))))] ?_
    refine aP ?_
    refine bW h2 (fun h2 => ?_) (fun h2 => ?_)
    · refine bT ?_
      refine bC [(3, (.msl 3 lo3 0 (List.length o3))), (34, (.msl 2 lo4 0 (List.length rows))), (35, (eI (lN rows))), (36, (eI i3))] ?_
      refine aP ?_
      obtain ⟨c5, h2⟩ := bB h2
      obtain ⟨x, hx, h2⟩ := aZ h2
      obtain ⟨c6, h2⟩ := bB h2
      obtain rfl := oI h2
      refine cH 3 ?_
      refine aP ?_
      refine aU aF 4 ?_
      refine AV 1 [0 ≤ i3 ∧ i3 < (lN rows)] ⟨c5, trivial⟩ ?_
      refine oH 1 lo4 2 (0 + Int.toNat i3) (aB (gD rows i3)) (aB (gD rows i3)) (List.map aB rows) hO (cB c5) ?_
      refine xK 2 (.agg [(.sl true 0 (fun _ => .bad)), (.sl true 0 (fun _ => .bad))]) (aB ⟨[], []⟩) (by kernel_rfl) (by kernel_rfl) (by kernel_rfl) (HE (xs := [(.sl true 0 (fun _ => .bad)), (.sl true 0 (fun _ => .bad))]) (ys := [(eL aM []), (eL aL [])]) ⟨lU, lU, trivial⟩) (by kernel_rfl) (by kernel_rfl) hO ?_
      intro lo8 H hO
      refine pI 3 lo8 2 0 (aB ⟨[], []⟩) (aB (gD rows i3)) [(aB ⟨[], []⟩)] [(lo, 3, [(.agg [.mp lm, eI b.edges, eI b.mark])]), (lo4, 2, List.map aB rows), (lo3, 3, List.map aO o3), (lo8, 2, [(aB (gD rows i3))])] hO rfl (by kernel_rfl) ?_
      intro H hO
      refine eW ?_
      refine bC [(3, (.msl 3 lo3 0 (List.length o3))), (34, (.msl 2 lo4 0 (List.length rows))), (35, (eI (lN rows))), (36, (eI i3)), (8, (.lp lo8 0 0))] ?_
      refine aU aF 8 ?_
      refine bQ 2 ?_
      refine oH 3 lo8 2 0 (aB (gD rows i3)) (eL aM (gD rows i3).row) [(aB (gD rows i3))] hO rfl ?_
      refine bQ 4 ?_
      refine oH 3 lo8 2 0 (aB (gD rows i3)) (eL aL (gD rows i3).jumps) [(aB (gD rows i3))] hO rfl ?_
      refine iY (aAD (gD rows i3).row (gD rows i3).jumps _ hx) hO ?_
      intro H hO
      refine FH aO o3 x 2 lo3 3 40 (eL aO x) (fun lo9 => [(lo, 3, [(.agg [.mp lm, eI b.edges, eI b.mark])]), (lo4, 2, List.map aB rows), (lo9, 3, List.map aO (o3 ++ x)), (lo8, 2, [(aB (gD rows i3))])]) hO (DM (fun _ => by kernel_rfl)) c6 ?_
      intro lo9 H hO
      refine bG ?_
      replace hO := hO.pick (L' := [(lo, 3, [(.agg [.mp lm, eI b.edges, eI b.mark])]), (lo4, 2, List.map aB rows), (lo9, 3, List.map aO (o3 ++ x))]) [0, 1, 2] (by decide) (by kernel_rfl)
      refine fG [(3, (.msl 3 lo9 0 (List.length (o3 ++ x)))), (34, (.msl 2 lo4 0 (List.length rows))), (35, (eI (lN rows))), (36, (eI i3))] ?_
      refine aK (bD (aJ (?_)))
      refine aU aF 2 ?_
      refine bG ?_
      exact aK (⟨rfl, _, rfl, lo9, bF, hO⟩)
    · refine lM 2 ?_
      obtain rfl := oI h2
      obtain rfl : _ = r := ho2
      refine fG [(3, (.msl 3 lo3 0 (List.length o3)))] ?_
      refine tK (en := aO) o3 0 2 3 3 lo3 (List.length o3) hO (by kernel_rfl) (by kernel_rfl) (by kernel_rfl) (L' := [(lo, 3, [(.agg [.mp lm, eI b.edges, eI b.mark])]), (lo4, 2, List.map aB rows)]) (by kernel_rfl) ?_
      intro H hO
      refine aK (aX (aX (cC (aJ (?_)))))
      refine mD [(3, (eL aO o3))] ?_
      refine cJ aF 2 [(2, (eL aO o3))] ?_
      refine bR ?_
      replace hO := hO.pick (L' := [(lo, 3, [(.agg [.mp lm, eI b.edges, eI b.mark])])]) [0] (by decide) (by kernel_rfl)
      exact aK (MN (M := [fJ lm b]) hO ⟨rfl, rfl, rfl⟩)
  replace h1 : sB s (mk, mv) = some out1 := h1
  unfold sB at h1
  refine bG ?_
  refine bC [(3, (dR [])), (4, (.msl 2 lo4 0 (List.length s))), (23, (.lp li 0 0)), (25, (aG true))] ?_
  refine aP ?_
  refine nW (true) (fun hc => ?_) (fun hc => by cases hc)
  refine bT ?_
  refine bC [(3, (dR [])), (4, (.msl 2 lo4 0 (List.length s))), (23, (.lp li 0 0))] ?_
  refine cH 1 ?_
  refine aP ?_
  refine aU aF 4 ?_
  refine GQ hat hO ?_
  refine bQ 2 ?_
  refine xK 2 (.agg [(.sl true 0 (fun _ => .bad)), (.sl true 0 (fun _ => .bad))]) (aB ⟨[], []⟩) (by kernel_rfl) (by kernel_rfl) (by kernel_rfl) (HE (xs := [(.sl true 0 (fun _ => .bad)), (.sl true 0 (fun _ => .bad))]) (ys := [(eL aM []), (eL aL [])]) ⟨lU, lU, trivial⟩) (by kernel_rfl) (by kernel_rfl) hO ?_
  intro lo6 H hO
  refine pI 2 lo6 2 0 (aB ⟨[], []⟩) (aB mv) [(aB ⟨[], []⟩)] [(lo, 3, [(.agg [.mp lm, eI b.edges, eI b.mark])]), (lo4, 2, List.map aB s), (lo6, 2, [(aB mv)])] hO rfl (by kernel_rfl) ?_
  intro H hO
  refine eW ?_
  refine bC [(3, (dR [])), (4, (.msl 2 lo4 0 (List.length s))), (23, (.lp li 0 0)), (6, (.lp lo6 0 0))] ?_
  refine aU aF 5 ?_
  refine bQ 1 ?_
  refine oH 2 lo6 2 0 (aB mv) (aB mv) [(aB mv)] hO rfl ?_
  refine wN [(aB mv)] 2 ?_
  obtain ⟨c7, h1⟩ := bB h1
  refine FH aB s ([mv]) 1 lo4 2 48 (dR [(aB mv)]) (fun lo9 => [(lo, 3, [(.agg [.mp lm, eI b.edges, eI b.mark])]), (lo9, 2, List.map aB (s ++ ([mv]))), (lo6, 2, [(aB mv)])]) hO (by kernel_rfl) c7 ?_
  intro lo9 H hO
  refine bG ?_
  obtain rfl := oI h1
  replace hO := hO.pick (L' := [(lo, 3, [(.agg [.mp lm, eI b.edges, eI b.mark])]), (lo9, 2, List.map aB (s ++ ([mv])))]) [0, 1] (by decide) (by kernel_rfl)
  exact aK (bD (⟨rfl, _, _, _, hlt, hleft, hall, lo9, bF, hO⟩))

theorem YE (a0 : (List aE)) (b1 : (List aE)) (r : Bool) (h0 : xX a0 b1 = some r) : dK Try.prog 22 [(eL aM a0), (eL aM b1)] (aG r) := by
  intro H0
  refine dP Try.func22 ?_
  have hO := aN.start H0
  unfold xX at h0
  refine aY aF 1 [] [] ?_
  refine aP ?_
  refine aY aF 5 [] [(10, (aG (!decide ((lN a0) = (lN b1)))))] ?_
  refine bW h0 (fun h0 => ?_) (fun h0 => ?_)
  · refine cJ aF 1 [(4, (aG false))] ?_
    refine bR ?_
    obtain rfl := oI h0
    exact aK (aV (Q_r hO))
  refine bT ?_
  refine bC [(0, (eL aM a0)), (1, (eL aM b1))] ?_
  refine lT (fun T H => Has T [] ∧ aN ⟨H0, [], []⟩ H [] ∧ vP  = some r) ?_ ?_
  · clear hO h0
    rintro T H ⟨hT, hO, h0⟩
    refine bO hT ?_
    clear hT
    unfold vP at h0
    refine cJ aF 1 [(4, (aG true))] ?_
    refine bR ?_
    obtain rfl := oI h0
    exact aK (Q_r hO)
  refine aY aF 1 [] [(5, (eI (0 : Int)))] ?_
  refine cH 0 ?_
  refine mD [(0, (eL aM a0)), (1, (eL aM b1)), (5, (eI (0 : Int)))] ?_
  refine kZ (fun T H => ∃ i5 : Int, Has T [(0, (eL aM a0)), (1, (eL aM b1)), (5, (eI i5))] ∧ aN ⟨H0, [], []⟩ H [] ∧ AQ a0 b1 i5 = some r) ?_ ⟨(0 : Int), bF, hO, h0⟩
  clear hO h0
  rintro T H ⟨i5, hT, hO, h0⟩
  refine bO hT ?_
  clear hT
  unfold AQ at h0
  obtain ⟨rr0, hl0, h0⟩ := aZ h0
  refine mQ (fun (s : Int) T H => Has T [(0, (eL aM a0)), (1, (eL aM b1)), (5, (eI s))] ∧ aN ⟨H0, [], []⟩ H []) hl0 ⟨bF, hO⟩ ?_
  clear hO
  rintro k0 s out1 T H ⟨hT, hO⟩ h1 ho0
  obtain ⟨i5, rfl⟩ : ∃ x, x = s := ⟨_, rfl⟩
  replace h1 : tB a0 b1 i5 = some out1 := h1
  refine bO hT ?_
  clear hT
  unfold tB at h1
  refine aP ?_
  refine aY aF 4 [] [(14, (aG (decide (i5 < (lN a0)))))] ?_
  refine bW h1 (fun h1 => ?_) (fun h1 => ?_)
  · refine bT ?_
    refine bC [(0, (eL aM a0)), (1, (eL aM b1)), (5, (eI i5))] ?_
    refine aP ?_
    refine cH 1 ?_
    refine aP ?_
    refine jS (iZ [20, 24]) aF 9 ?_
    obtain ⟨c3, h1⟩ := bB h1
    obtain ⟨c4, h1⟩ := bB h1
    refine MH (Ds := [0 ≤ i5 ∧ i5 < (lN a0), 0 ≤ i5 ∧ i5 < (lN b1)]) (by kernel_rfl) ⟨c3, c4, trivial⟩ ?_
    refine cQ [] [(25, (aG (!((decide (((gD a0 i5).Kind) = ((gD b1 i5).Kind))) && ((decide (((gD a0 i5).Num) = ((gD b1 i5).Num))) && ((sA ((gD a0 i5).Text) ((gD b1 i5).Text)) && true))))))] ?_
    refine bW h1 (fun h1 => ?_) (fun h1 => ?_)
    · refine cJ aF 1 [(4, (aG false))] ?_
      refine bR ?_
      obtain rfl := oI h1
      obtain rfl : _ = rr0 := ho0
      replace h0 : some false = some r := h0
      obtain rfl := oI h0
      exact aK (bV (aV (aV (bV (aV (Q_r hO))))))
    refine bT ?_
    refine fG [(0, (eL aM a0)), (1, (eL aM b1)), (5, (eI i5))] ?_
    refine aK (bD (aJ (?_)))
    refine aU aF 3 ?_
    refine bG ?_
    exact aK (aJ (⟨rfl, _, (oI h1).symm, bF, hO⟩))
  refine lM 0 ?_
  obtain rfl := oI h1
  obtain rfl : _ = rr0 := ho0
  replace h0 : vP  = some r := h0
  exact aK (aX (aX (cC (aJ (⟨rfl, bF, hO, h0⟩)))))

theorem GS (a0 : (List aI)) (b1 : (List aI)) (r : Bool) (h0 : sL a0 b1 = some r) : dK Try.prog 10 [(eL aO a0), (eL aO b1)] (aG r) := by
  intro H0
  refine dP Try.func10 ?_
  have hO := aN.start H0
  unfold sL at h0
  refine aY aF 1 [] [] ?_
  refine aP ?_
  refine aY aF 5 [] [(10, (aG (!decide ((lN a0) = (lN b1)))))] ?_
  refine bW h0 (fun h0 => ?_) (fun h0 => ?_)
  · refine cJ aF 1 [(4, (aG false))] ?_
    refine bR ?_
    obtain rfl := oI h0
    exact aK (aV (Q_r hO))
  refine bT ?_
  refine bC [(0, (eL aO a0)), (1, (eL aO b1))] ?_
  refine lT (fun T H => Has T [] ∧ aN ⟨H0, [], []⟩ H [] ∧ vN  = some r) ?_ ?_
  · clear hO h0
    rintro T H ⟨hT, hO, h0⟩
    refine bO hT ?_
    clear hT
    unfold vN at h0
    refine cJ aF 1 [(4, (aG true))] ?_
    refine bR ?_
    obtain rfl := oI h0
    exact aK (Q_r hO)
  refine aY aF 1 [] [(5, (eI (0 : Int)))] ?_
  refine cH 0 ?_
  refine mD [(0, (eL aO a0)), (1, (eL aO b1)), (5, (eI (0 : Int)))] ?_
  refine kZ (fun T H => ∃ i5 : Int, Has T [(0, (eL aO a0)), (1, (eL aO b1)), (5, (eI i5))] ∧ aN ⟨H0, [], []⟩ H [] ∧ AU a0 b1 i5 = some r) ?_ ⟨(0 : Int), bF, hO, h0⟩
  clear hO h0
  rintro T H ⟨i5, hT, hO, h0⟩
  refine bO hT ?_
  clear hT
  unfold AU at h0
  obtain ⟨rr0, hl0, h0⟩ := aZ h0
  refine mQ (fun (s : Int) T H => Has T [(0, (eL aO a0)), (1, (eL aO b1)), (5, (eI s))] ∧ aN ⟨H0, [], []⟩ H []) hl0 ⟨bF, hO⟩ ?_
  clear hO
  rintro k0 s out1 T H ⟨hT, hO⟩ h1 ho0
  obtain ⟨i5, rfl⟩ : ∃ x, x = s := ⟨_, rfl⟩
  replace h1 : tF a0 b1 i5 = some out1 := h1
  refine bO hT ?_
  clear hT
  unfold tF at h1
  refine aP ?_
  refine aY aF 4 [] [(14, (aG (decide (i5 < (lN a0)))))] ?_
  refine bW h1 (fun h1 => ?_) (fun h1 => ?_)
  · refine bT ?_
    refine bC [(0, (eL aO a0)), (1, (eL aO b1)), (5, (eI i5))] ?_
    refine aP ?_
    refine cH 1 ?_
    refine aP ?_
    obtain ⟨c3, h1⟩ := bB h1
    obtain ⟨c4, h1⟩ := bB h1
    obtain ⟨c5, h1⟩ := bB h1
    obtain ⟨c6, h1⟩ := bB h1
    obtain ⟨c7, h1⟩ := bB h1
    obtain ⟨c8, h1⟩ := bB h1
    obtain ⟨x9, hx10, h1⟩ := aZ h1
    refine jS (iZ [21, 26, 33, 38, 46, 51]) aF 38 ?_
    refine tO (K := fun T H => Has (lift T) [(0, (eL aO a0)), (1, (eL aO b1)), (5, (eI i5)), (54, (aG (((!decide (((gD a0 i5).At) = ((gD b1 i5).At))) || (!decide (((gD a0 i5).Net) = ((gD b1 i5).Net)))) || (!x9))))] ∧ aN ⟨H0, [], []⟩ H []) ?_ ?_
    · refine cP 12 [0 ≤ i5 ∧ i5 < (lN a0), 0 ≤ i5 ∧ i5 < (lN b1)] ⟨c3, c4, trivial⟩ ?_
      refine sZ (t := 28) (e := !decide (((gD a0 i5).At) = ((gD b1 i5).At))) (by kernel_rfl) (fun hg11 => ?_) (fun hg11 => ?_)
      · refine nX ?_
        exact ⟨⟨[(0, (eL aO a0)), (1, (eL aO b1)), (5, (eI i5)), (54, (aG true))], by kernel_rfl, rfl, ⟨aQ.refl _, aQ.refl _, aQ.refl _, aQ.eq (congrArg aG (MU (MU hg11 rfl) rfl).symm), trivial⟩⟩, hO⟩
      refine cP 25 [0 ≤ i5 ∧ i5 < (lN a0), 0 ≤ i5 ∧ i5 < (lN b1)] ⟨(c5 (SK hg11)), (c6 (SK hg11)), trivial⟩ ?_
      refine sZ (t := 41) (e := !decide (((gD a0 i5).Net) = ((gD b1 i5).Net))) (by kernel_rfl) (fun hg12 => ?_) (fun hg12 => ?_)
      · refine nX ?_
        exact ⟨⟨[(0, (eL aO a0)), (1, (eL aO b1)), (5, (eI i5)), (54, (aG true))], by kernel_rfl, rfl, ⟨aQ.refl _, aQ.refl _, aQ.refl _, aQ.eq (congrArg aG (MU (MU hg11 hg12) rfl).symm), trivial⟩⟩, hO⟩
      refine cP 35 [0 ≤ i5 ∧ i5 < (lN a0), 0 ≤ i5 ∧ i5 < (lN b1)] ⟨(c7 (SK (MU hg11 hg12))), (c8 (SK (MU hg11 hg12))), trivial⟩ ?_
      refine uQ 22 [(eL aM ((gD a0 i5).Row)), (eL aM ((gD b1 i5).Row))] (aG x9) (by kernel_rfl) (by kernel_rfl) (YE ((gD a0 i5).Row) ((gD b1 i5).Row) _ (pE hx10 (SK (MU hg11 hg12)))) hO ?_
      intro H hO
      refine nX ?_
      exact ⟨⟨[(0, (eL aO a0)), (1, (eL aO b1)), (5, (eI i5)), (54, (aG (!x9)))], by kernel_rfl, rfl, ⟨aQ.refl _, aQ.refl _, aQ.refl _, aQ.eq (congrArg aG (MU (MU hg11 hg12) rfl).symm), trivial⟩⟩, hO⟩
    · rintro T H ⟨hT, hO⟩
      refine dX hT ?_
      clear hT
      refine aK (aJ ?_)
      refine bW h1 (fun h1 => ?_) (fun h1 => ?_)
      · refine cJ aF 1 [(4, (aG false))] ?_
        refine bR ?_
        obtain rfl := oI h1
        obtain rfl : _ = rr0 := ho0
        replace h0 : some false = some r := h0
        obtain rfl := oI h0
        exact aK (bV (aV (aV (bV (aV (Q_r hO))))))
      refine bT ?_
      refine fG [(0, (eL aO a0)), (1, (eL aO b1)), (5, (eI i5))] ?_
      refine aK (bD (aJ (?_)))
      refine aU aF 3 ?_
      refine bG ?_
      exact aK (aJ (⟨rfl, _, (oI h1).symm, bF, hO⟩))
  refine lM 0 ?_
  obtain rfl := oI h1
  obtain rfl : _ = rr0 := ho0
  replace h0 : vN  = some r := h0
  exact aK (aX (aX (cC (aJ (⟨rfl, bF, hO, h0⟩)))))

end Go.Abs
