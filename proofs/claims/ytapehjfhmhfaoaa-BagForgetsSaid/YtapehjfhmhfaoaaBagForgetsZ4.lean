/- What the law BagForgets stands on: the framework, the given functions as plain functions, their walks, and the plain laws; part 4. -/
import Derived.Test.YtapehjfhmhfaoaaBagForgetsZ3
set_option linter.unusedSimpArgs false
set_option linter.unusedVariables false
namespace Go.Abs
open Go Go.RowKit Go.Proofs
theorem aAU (f0 : (List aD)) (g1 : (List aD)) (by2_f : Nat) (by2_a by2_c : List V) (by2 : Int → Int → Option Int) (by2_h : ∀ a0 a1 r, by2 a0 a1 = some r → dK Try.prog by2_f (by2_a ++ [(eI a0), (eI a1)] ++ by2_c) (eI r)) (r : ((List aD) × Int)) (h0 : AB f0 g1 by2 = some r) : dK Try.prog 33 [(eL aK f0), (eL aK g1), (.fn (.func by2_f) by2_a by2_c)] (.tup [(eL aK r.1), (eI r.2)]) := by
  intro H0
  refine dP Try.func33 ?_
  have hO := aN.start H0
  unfold AB at h0
  refine aX aF 2 [] [] ?_
  refine aO ?_
  refine aO ?_
  refine aU aF 8 ?_
  refine bO 1 ?_
  obtain ⟨x1, hx2, h0⟩ := aY h0
  refine iI (vE f0 _ hx2) hO ?_
  intro H hO
  refine bO 5 ?_
  obtain ⟨x4, hx5, h0⟩ := aY h0
  refine uQ [(17, false)] 28 [(eL aK g1)] (aG x4) (!(!x1)) (by kernel_rfl) (by kernel_rfl) (by kernel_rfl) (fun hb6 => (vE g1 _ (pS hx5 hb6))) hO ?_
  intro H hO
  refine bE ?_
  refine cO [] [(21, (aG ((!x1) || (!x4))))] ?_
  refine bV h0 (fun h0 => ?_) (fun h0 => ?_)
  · refine cJ aF 2 [(6, (.sl true 0 (fun _ => .bad))), (7, (eI (2 : Int)))] ?_
    refine bQ ?_
    refine dX (l := [(6, (eL aK ([]))), (7, (eI (2 : Int)))]) ⟨[(6, (.sl true 0 (fun _ => .bad))), (7, (eI (2 : Int)))], by kernel_rfl, rfl, ⟨lU, aP.refl _, trivial⟩⟩ ?_
    obtain rfl := oI h0
    exact aI (aV (Q_r hO))
  refine bT ?_
  refine bB [(0, (eL aK f0)), (1, (eL aK g1)), (2, (.fn (.func by2_f) by2_a by2_c))] ?_
  refine aO ?_
  refine aU aF 2 ?_
  refine xL [] 2 ?_
  refine bE ?_
  refine cO [] [(8, (.sl true 0 (fun _ => .bad)))] ?_
  refine aX aF 3 [] [(9, (eI (0 : Int))), (10, (eI (0 : Int))), (11, (eI (0 : Int)))] ?_
  refine lY (fun T H => ∃ out8 : List aD, ∃ lo8 : Nat, Has T [(8, (.msl 2 lo8 0 (List.length out8)))] ∧ aN ⟨H0, [], []⟩ H [(lo8, 2, List.map aK out8)] ∧ xI by2 out8 = some r) ?_ ?_
  · clear hO h0
    rintro T H ⟨out8, lo8, hT, hO, h0⟩
    refine bR hT ?_
    clear hT
    unfold xI at h0
    refine aO ?_
    refine aU aF 6 ?_
    refine NL (e := aK) out8 0 8 2 lo8 (List.length out8) [] (by kernel_rfl) hO (by kernel_rfl) (by kernel_rfl) (by kernel_rfl) (by kernel_rfl) ?_
    intro H hO
    refine bO 1 ?_
    obtain ⟨x9, hx10, h0⟩ := aY h0
    refine iI (PX out8 _ hx10) hO ?_
    intro H hO
    refine bE ?_
    refine bB [(6, (eL aK x9.1)), (7, (eI x9.2))] ?_
    refine bQ ?_
    obtain rfl := oI h0
    exact aI (Q_r hO)
  refine cI 0 ?_
  refine mI [(0, (eL aK f0)), (1, (eL aK g1)), (2, (.fn (.func by2_f) by2_a by2_c)), (8, (.sl true 0 (fun _ => .bad))), (9, (eI (0 : Int))), (10, (eI (0 : Int))), (11, (eI (0 : Int)))] ?_
  refine aAb (el := (fun _ => .bad)) 3 8 2 hO (by kernel_rfl) ?_
  intro lo37 H38 hO
  refine lK (fun T H => ∃ f0 : (List aD), ∃ g1 : (List aD), ∃ out8 : List aD, ∃ a9 : Int, ∃ b10 : Int, ∃ iO : Int, ∃ lo13 : Nat, Has T [(0, (eL aK f0)), (1, (eL aK g1)), (2, (.fn (.func by2_f) by2_a by2_c)), (8, (.msl 2 lo13 0 (List.length out8))), (9, (eI a9)), (10, (eI b10)), (11, (eI iO))] ∧ aN ⟨H0, [], []⟩ H [(lo13, 2, List.map aK out8)] ∧ CP by2 f0 g1 out8 a9 b10 iO = some r) ?_ ⟨f0, g1, ([] : List aD), (0 : Int), (0 : Int), (0 : Int), lo37, bG, hO, h0⟩
  clear hO h0
  rintro T H ⟨f0, g1, out8, a9, b10, iO, lo13, hT, hO, h0⟩
  refine bR hT ?_
  clear hT
  unfold CP at h0
  obtain ⟨rr0, hl0, h0⟩ := aY h0
  refine mV (fun (s : (List aD) × (List aD) × List aD × Int × Int × Int) T H => ∃ lo13 : Nat, Has T [(0, (eL aK s.1)), (1, (eL aK s.2.1)), (2, (.fn (.func by2_f) by2_a by2_c)), (8, (.msl 2 lo13 0 (List.length s.2.2.1))), (9, (eI s.2.2.2.1)), (10, (eI s.2.2.2.2.1)), (11, (eI s.2.2.2.2.2))] ∧ aN ⟨H0, [], []⟩ H [(lo13, 2, List.map aK s.2.2.1)]) hl0 ⟨lo13, bG, hO⟩ ?_
  clear hO
  rintro k0 s out1 T H ⟨lo13, hT, hO⟩ h1 ho0
  obtain ⟨f0, g1, out8, a9, b10, iO⟩ := s
  replace h1 : lG by2 f0 g1 out8 a9 b10 iO = some out1 := h1
  try dsimp only at hT
  refine bR hT ?_
  clear hT
  unfold lG at h1
  refine aO ?_
  refine aX aF 8 [] [(30, (aG ((decide ((0 : Int) < (lN f0))) || (decide ((0 : Int) < (lN g1))))))] ?_
  refine bV h1 (fun h1 => ?_) (fun h1 => ?_)
  · refine bT ?_
    refine bB [(0, (eL aK f0)), (1, (eL aK g1)), (2, (.fn (.func by2_f) by2_a by2_c)), (8, (.msl 2 lo13 0 (List.length out8))), (9, (eI a9)), (10, (eI b10)), (11, (eI iO))] ?_
    refine cI 1 ?_
    refine aX aF 1 [] [(12, (eI (1125899906842624 : Int)))] ?_
    refine lY (fun T H => ∃ out8 : List aD, ∃ at12 : Int, ∃ lo15 : Nat, Has T [(0, (eL aK f0)), (1, (eL aK g1)), (2, (.fn (.func by2_f) by2_a by2_c)), (8, (.msl 2 lo15 0 (List.length out8))), (9, (eI a9)), (10, (eI b10)), (11, (eI iO)), (12, (eI at12))] ∧ aN ⟨H0, [], []⟩ H [(lo15, 2, List.map aK out8)] ∧ pU by2 f0 g1 out8 a9 b10 iO at12 = some out1) ?_ ?_
    · clear hO h1
      rintro T H ⟨out8, at12, lo15, hT, hO, h1⟩
      refine bR hT ?_
      clear hT
      unfold pU at h1
      refine lY (fun T H => ∃ out8 : List aD, ∃ at12 : Int, ∃ lo16 : Nat, Has T [(0, (eL aK f0)), (1, (eL aK g1)), (2, (.fn (.func by2_f) by2_a by2_c)), (8, (.msl 2 lo16 0 (List.length out8))), (9, (eI a9)), (10, (eI b10)), (11, (eI iO)), (12, (eI at12))] ∧ aN ⟨H0, [], []⟩ H [(lo16, 2, List.map aK out8)] ∧ nH by2 f0 g1 out8 a9 b10 iO at12 = some out1) ?_ ?_
      · clear hO h1
        rintro T H ⟨out8, at12, lo16, hT, hO, h1⟩
        refine bR hT ?_
        clear hT
        unfold nH at h1
        refine lY (fun T H => ∃ f0 : (List aD), ∃ out8 : List aD, ∃ a9 : Int, ∃ lo17 : Nat, Has T [(0, (eL aK f0)), (1, (eL aK g1)), (2, (.fn (.func by2_f) by2_a by2_c)), (8, (.msl 2 lo17 0 (List.length out8))), (9, (eI a9)), (10, (eI b10)), (11, (eI iO)), (12, (eI at12))] ∧ aN ⟨H0, [], []⟩ H [(lo17, 2, List.map aK out8)] ∧ mQ by2 f0 g1 out8 a9 b10 iO at12 = some out1) ?_ ?_
        · clear hO h1
          rintro T H ⟨f0, out8, a9, lo17, hT, hO, h1⟩
          refine bR hT ?_
          clear hT
          unfold mQ at h1
          refine lY (fun T H => ∃ g1 : (List aD), ∃ out8 : List aD, ∃ b10 : Int, ∃ lo18 : Nat, Has T [(0, (eL aK f0)), (1, (eL aK g1)), (2, (.fn (.func by2_f) by2_a by2_c)), (8, (.msl 2 lo18 0 (List.length out8))), (9, (eI a9)), (10, (eI b10)), (11, (eI iO)), (12, (eI at12))] ∧ aN ⟨H0, [], []⟩ H [(lo18, 2, List.map aK out8)] ∧ pT by2 f0 g1 out8 a9 b10 iO at12 = some out1) ?_ ?_
          · clear hO h1
            rintro T H ⟨g1, out8, b10, lo18, hT, hO, h1⟩
            refine bR hT ?_
            clear hT
            unfold pT at h1
            refine aO ?_
            refine aU aF 5 ?_
            refine bO 3 ?_
            obtain ⟨x19, hx20, h1⟩ := aY h1
            refine iI (by2_h a9 b10 _ hx20) hO ?_
            intro H hO
            refine bE ?_
            refine cO [] [(13, (eI x19))] ?_
            refine aX aF 3 [] [(91, (aG (!decide (x19 = iO))))] ?_
            refine bV h1 (fun h1 => ?_) (fun h1 => ?_)
            · refine aO ?_
              refine aU aF 9 ?_
              refine bO 6 ?_
              refine xL [(aK (aD.mk at12 (wR (x19 - iO))))] 2 ?_
              obtain ⟨c24, h1⟩ := bC h1
              refine FD aK out8 ([aD.mk at12 (wR (x19 - iO))]) 0 lo18 2 16 (dW [(aK (aD.mk at12 (wR (x19 - iO))))]) (fun lo23 => [(lo23, 2, List.map aK (out8 ++ ([aD.mk at12 (wR (x19 - iO))])))]) hO (by kernel_rfl) c24 ?_
              intro lo23 H hO
              refine bE ?_
              refine cO [8, 11, 12, 91] [(8, (.msl 2 lo23 0 (List.length (out8 ++ ([aD.mk at12 (wR (x19 - iO))])))))] ?_
              refine aU aF 2 ?_
              refine bE ?_
              exact aI (bD (aJ (⟨rfl, _, (oI h1).symm, _, bG, hO⟩)))
            refine bT ?_
            exact aI (bD (aJ (⟨rfl, _, (oI h1).symm, _, bG, hO⟩)))
          refine aO ?_
          refine aU aF 11 ?_
          obtain ⟨c25, h1⟩ := bC h1
          refine sV [(((decide ((0 : Int) < (lN g1)))) = true → 0 ≤ (0 : Int) ∧ (0 : Int) < (lN g1))] ⟨c25, trivial⟩ ?_
          refine cO [] [(76, (aG ((decide ((0 : Int) < (lN g1))) && (decide (((gD g1 (0 : Int)).At) = at12)))))] ?_
          refine bV h1 (fun h1 => ?_) (fun h1 => ?_)
          · refine kB (jS [81]) aF 10 ?_
            obtain ⟨c27, h1⟩ := bC h1
            obtain ⟨c28, h1⟩ := bC h1
            refine LX (Ds := [0 ≤ (0 : Int) ∧ (0 : Int) < (lN g1), 0 ≤ (1 : Int) ∧ (1 : Int) ≤ (lN g1)]) (by kernel_rfl) ⟨c27, c28, trivial⟩ ?_
            refine dX (l := [(0, (eL aK f0)), (1, (eL aK (List.drop (Int.toNat (1 : Int)) g1))), (2, (.fn (.func by2_f) by2_a by2_c)), (8, (.msl 2 lo17 0 (List.length out8))), (9, (eI a9)), (10, (eI (wR (b10 + ((gD g1 (0 : Int)).Net))))), (11, (eI iO)), (12, (eI at12))]) ⟨[(0, (eL aK f0)), (1, (.sl false (List.length g1 - Int.toNat (1 : Int)) (fun i => aK (List.getD g1 (Int.toNat (1 : Int) + i) default)))), (2, (.fn (.func by2_f) by2_a by2_c)), (8, (.msl 2 lo17 0 (List.length out8))), (9, (eI a9)), (10, (eI (wR (b10 + ((gD g1 (0 : Int)).Net))))), (11, (eI iO)), (12, (eI at12))], by kernel_rfl, rfl, ⟨aP.refl _, aBC, aP.refl _, aP.refl _, aP.refl _, aP.refl _, aP.refl _, aP.refl _, trivial⟩⟩ ?_
            exact aI (aJ (⟨rfl, _, _, _, _, bG, hO, h1⟩))
          refine bT ?_
          exact aI (aJ (⟨rfl, _, _, _, _, bG, hO, h1⟩))
        refine aO ?_
        refine aU aF 11 ?_
        obtain ⟨c29, h1⟩ := bC h1
        refine sV [(((decide ((0 : Int) < (lN f0)))) = true → 0 ≤ (0 : Int) ∧ (0 : Int) < (lN f0))] ⟨c29, trivial⟩ ?_
        refine cO [] [(57, (aG ((decide ((0 : Int) < (lN f0))) && (decide (((gD f0 (0 : Int)).At) = at12)))))] ?_
        refine bV h1 (fun h1 => ?_) (fun h1 => ?_)
        · refine kB (jS [62]) aF 10 ?_
          obtain ⟨c31, h1⟩ := bC h1
          obtain ⟨c32, h1⟩ := bC h1
          refine LX (Ds := [0 ≤ (0 : Int) ∧ (0 : Int) < (lN f0), 0 ≤ (1 : Int) ∧ (1 : Int) ≤ (lN f0)]) (by kernel_rfl) ⟨c31, c32, trivial⟩ ?_
          refine dX (l := [(0, (eL aK (List.drop (Int.toNat (1 : Int)) f0))), (1, (eL aK g1)), (2, (.fn (.func by2_f) by2_a by2_c)), (8, (.msl 2 lo16 0 (List.length out8))), (9, (eI (wR (a9 + ((gD f0 (0 : Int)).Net))))), (10, (eI b10)), (11, (eI iO)), (12, (eI at12))]) ⟨[(0, (.sl false (List.length f0 - Int.toNat (1 : Int)) (fun i => aK (List.getD f0 (Int.toNat (1 : Int) + i) default)))), (1, (eL aK g1)), (2, (.fn (.func by2_f) by2_a by2_c)), (8, (.msl 2 lo16 0 (List.length out8))), (9, (eI (wR (a9 + ((gD f0 (0 : Int)).Net))))), (10, (eI b10)), (11, (eI iO)), (12, (eI at12))], by kernel_rfl, rfl, ⟨aBC, aP.refl _, aP.refl _, aP.refl _, aP.refl _, aP.refl _, aP.refl _, aP.refl _, trivial⟩⟩ ?_
          exact aI (aJ (⟨rfl, _, _, _, _, bG, hO, h1⟩))
        refine bT ?_
        exact aI (aJ (⟨rfl, _, _, _, _, bG, hO, h1⟩))
      refine aX aF 3 [] [(40, (aG (decide ((0 : Int) < (lN g1)))))] ?_
      refine bV h1 (fun h1 => ?_) (fun h1 => ?_)
      · refine aU aF 7 ?_
        obtain ⟨c34, h1⟩ := bC h1
        refine sV [0 ≤ (0 : Int) ∧ (0 : Int) < (lN g1)] ⟨c34, trivial⟩ ?_
        exact aI (aJ (⟨rfl, _, _, _, bG, hO, h1⟩))
      refine bT ?_
      exact aI (aJ (⟨rfl, _, _, _, bG, hO, h1⟩))
    refine aX aF 3 [] [(33, (aG (decide ((0 : Int) < (lN f0)))))] ?_
    refine bV h1 (fun h1 => ?_) (fun h1 => ?_)
    · refine aU aF 5 ?_
      obtain ⟨c36, h1⟩ := bC h1
      refine sV [0 ≤ (0 : Int) ∧ (0 : Int) < (lN f0)] ⟨c36, trivial⟩ ?_
      exact aI (aJ (⟨rfl, _, _, _, bG, hO, h1⟩))
    refine bT ?_
    exact aI (aJ (⟨rfl, _, _, _, bG, hO, h1⟩))
  refine lS 0 ?_
  obtain rfl := oI h1
  obtain rfl : _ = rr0 := ho0
  replace h0 : xI by2 out8 = some r := h0
  exact aI (aZ (aZ (cC (aJ (⟨rfl, _, _, bG, hO, h0⟩)))))

theorem YM (a0 : Int) (b1 : Int) (r : Int) (h0 : uJ a0 b1 = some r) : dK Try.prog 34 [(eI a0), (eI b1)] (eI r) := by
  intro H0
  refine dP Try.func34 ?_
  have hO := aN.start H0
  unfold uJ at h0
  refine aX aF 1 [] [] ?_
  refine cJ aF 4 [(4, (eI (wR (a0 + b1))))] ?_
  refine bQ ?_
  obtain rfl := oI h0
  exact aI (Q_r hO)

theorem aCC (f0 : (List aD)) (g1 : (List aD)) (r : ((List aD) × Int)) (h0 : CJ f0 g1 = some r) : dK Try.prog 18 [(eL aK f0), (eL aK g1)] (.tup [(eL aK r.1), (eI r.2)]) := by
  intro H0
  refine dP Try.func18 ?_
  have hO := aN.start H0
  unfold CJ at h0
  refine aX aF 2 [] [] ?_
  refine aO ?_
  refine aU aF 7 ?_
  refine bO 2 ?_
  obtain ⟨x1, hx2, h0⟩ := aY h0
  refine iI (aAU f0 g1 34 [] [] (fun y0 y1 => uJ y0 y1) (fun y0 y1 r h => YM y0 y1 r h) _ hx2) hO ?_
  intro H hO
  refine bE ?_
  refine bB [(4, (eL aK x1.1)), (5, (eI x1.2))] ?_
  refine bQ ?_
  obtain rfl := oI h0
  exact aI (Q_r hO)

theorem aAr (f0 : (List aD)) (r : Int) (h0 : xT f0 = some r) : dK Try.prog 19 [(eL aK f0)] (eI r) := by
  intro H0
  refine dP Try.func19 ?_
  have hO := aN.start H0
  unfold xT at h0
  refine aX aF 1 [] [] ?_
  refine aO ?_
  refine aO ?_
  refine aU aF 8 ?_
  refine bO 1 ?_
  obtain ⟨x1, hx2, h0⟩ := aY h0
  refine iI (vE f0 _ hx2) hO ?_
  intro H hO
  refine bE ?_
  refine cO [] [(14, (aG ((!x1) || (decide ((lN f0) = (0 : Int))))))] ?_
  refine bV h0 (fun h0 => ?_) (fun h0 => ?_)
  · refine cJ aF 1 [(2, (eI (0 : Int)))] ?_
    refine bQ ?_
    obtain rfl := oI h0
    exact aI (aV (Q_r hO))
  refine bT ?_
  refine bB [(0, (eL aK f0))] ?_
  refine aX aF 2 [] [(3, (eI (0 : Int))), (4, (eI (0 : Int)))] ?_
  refine lY (fun T H => ∃ v3 : Int, ∃ lP : Int, Has T [(0, (eL aK f0)), (3, (eI v3)), (4, (eI lP))] ∧ aN ⟨H0, [], []⟩ H [] ∧ tH f0 v3 lP = some r) ?_ ?_
  · clear hO h0
    rintro T H ⟨v3, lP, hT, hO, h0⟩
    refine bR hT ?_
    clear hT
    unfold tH at h0
    refine lY (fun T H => ∃ lP : Int, Has T [(4, (eI lP))] ∧ aN ⟨H0, [], []⟩ H [] ∧ vN lP = some r) ?_ ?_
    · clear hO h0
      rintro T H ⟨lP, hT, hO, h0⟩
      refine bR hT ?_
      clear hT
      unfold vN at h0
      refine cJ aF 2 [(2, (eI lP))] ?_
      refine bQ ?_
      obtain rfl := oI h0
      exact aI (Q_r hO)
    refine aX aF 3 [0] [(24, (eL aK f0)), (25, (eI (lN f0))), (26, (eI (0 : Int)))] ?_
    refine cI 0 ?_
    refine mI [(3, (eI v3)), (4, (eI lP)), (24, (eL aK f0)), (25, (eI (lN f0))), (26, (eI (0 : Int)))] ?_
    refine lK (fun T H => ∃ v3 : Int, ∃ lP : Int, ∃ t24 : (List aD), ∃ t25 : Int, ∃ t26 : Int, Has T [(3, (eI v3)), (4, (eI lP)), (24, (eL aK t24)), (25, (eI t25)), (26, (eI t26))] ∧ aN ⟨H0, [], []⟩ H [] ∧ vK v3 lP t24 t25 t26 = some r) ?_ ⟨v3, lP, f0, (lN f0), (0 : Int), bG, hO, h0⟩
    clear hO h0
    rintro T H ⟨v3, lP, t24, t25, t26, hT, hO, h0⟩
    refine bR hT ?_
    clear hT
    unfold vK at h0
    obtain ⟨rr0, hl0, h0⟩ := aY h0
    refine mV (fun (s : Int × Int × Int) T H => Has T [(3, (eI s.1)), (4, (eI s.2.1)), (24, (eL aK t24)), (25, (eI t25)), (26, (eI s.2.2))] ∧ aN ⟨H0, [], []⟩ H []) hl0 ⟨bG, hO⟩ ?_
    clear hO
    rintro k0 s out1 T H ⟨hT, hO⟩ h1 ho0
    obtain ⟨v3, lP, t26⟩ := s
    replace h1 : qS t24 t25 v3 lP t26 = some out1 := h1
    try dsimp only at hT
    refine bR hT ?_
    clear hT
    unfold qS at h1
    refine aX aF 1 [] [(27, (aG (decide (t26 < t25))))] ?_
    refine aO ?_
    refine bV h1 (fun h1 => ?_) (fun h1 => ?_)
    · refine bT ?_
      refine bB [(3, (eI v3)), (4, (eI lP)), (24, (eL aK t24)), (25, (eI t25)), (26, (eI t26))] ?_
      refine aO ?_
      refine cI 1 ?_
      refine aO ?_
      refine aU aF 4 ?_
      obtain ⟨c6, h1⟩ := bC h1
      refine BD 2 [0 ≤ t26 ∧ t26 < (lN t24)] ⟨c6, trivial⟩ ?_
      refine qY 2 (aK (aD.mk 0 0)) (by kernel_rfl) (by kernel_rfl) hO ?_
      intro lo7 H hO
      refine pN 0 lo7 2 0 (aK (aD.mk 0 0)) (aK (gD t24 t26)) [(aK (aD.mk 0 0))] [(lo7, 2, [(aK (gD t24 t26))])] hO rfl (by kernel_rfl) ?_
      intro H hO
      refine fC ?_
      refine cO [] [(6, (.lp lo7 0 0))] ?_
      refine aO ?_
      refine aU aF 5 ?_
      refine bO 2 ?_
      refine oO 0 lo7 2 0 (aK (gD t24 t26)) (eI ((gD t24 t26).Net)) [(aK (gD t24 t26))] hO rfl ?_
      refine bE ?_
      replace hO := hO.pick (L' := []) [] (by decide) (by kernel_rfl)
      refine cO [3, 6] [(3, (eI (wR (v3 + ((gD t24 t26).Net)))))] ?_
      refine aU aF 4 ?_
      refine bE ?_
      refine fG [(3, (eI (wR (v3 + ((gD t24 t26).Net))))), (4, (eI (if (wR (v3 + ((gD t24 t26).Net))) < lP then (wR (v3 + ((gD t24 t26).Net))) else lP))), (24, (eL aK t24)), (25, (eI t25)), (26, (eI t26))] ?_
      refine aI (bD (aJ (?_)))
      refine aU aF 2 ?_
      refine bE ?_
      exact aI (aJ (⟨rfl, _, (oI h1).symm, bG, hO⟩))
    refine lS 0 ?_
    obtain rfl := oI h1
    obtain rfl : _ = rr0 := ho0
    replace h0 : vN lP = some r := h0
    exact aI (aZ (aZ (cC (aJ (⟨rfl, _, bG, hO, h0⟩)))))
  refine aO ?_
  refine aU aF 5 ?_
  obtain ⟨c8, h0⟩ := bC h0
  refine sV [0 ≤ (0 : Int) ∧ (0 : Int) < (lN f0)] ⟨c8, trivial⟩ ?_
  refine cO [] [(19, (aG (decide (((gD f0 (0 : Int)).At) = (-1 : Int)))))] ?_
  refine bV h0 (fun h0 => ?_) (fun h0 => ?_)
  · refine aU aF 5 ?_
    obtain ⟨c10, h0⟩ := bC h0
    refine sV [0 ≤ (0 : Int) ∧ (0 : Int) < (lN f0)] ⟨c10, trivial⟩ ?_
    exact aI (aJ (⟨rfl, _, _, bG, hO, h0⟩))
  refine bT ?_
  exact aI (aJ (⟨rfl, _, _, bG, hO, h0⟩))

theorem BN (lo lm : Nat) (b : bY) (l : List aM) (r : Int × bY) (h0 : rG b l = some r) : wQ Try.prog 7 [(.lp lo 0 0), (eL aR l)] [dQ lm b] [iB lo lm b] (fun x M L => x = (eI r.1) ∧ M = [dQ lm r.2] ∧ L = [iB lo lm r.2]) := by
  intro F H0 hO
  obtain ⟨Fh, Fe, Fg⟩ := F
  refine UK aF Try.func7 (by kernel_rfl) (by kernel_rfl) (by kernel_rfl) ?_
  replace hO : aN ⟨Fh, Fe, (lm, lZ aB b.cells) :: Fg⟩ _ [(lo, 3, [(.agg [.mp lm, eI b.edges, eI b.mark])])] := hO
  unfold rG at h0
  obtain ⟨m1, hm1, h0⟩ := aY h0
  refine aO ?_
  refine aU aF 2 ?_
  refine xP 1 (.lp lo 0 0) ?_
  refine qY 1 (eI (0 : Int)) (by kernel_rfl) (by kernel_rfl) hO ?_
  intro lo4 H hO
  refine fC ?_
  refine bB [(1, (eL aR l)), (2, (.rp (.lp lo 0 0))), (4, (.lp lo4 0 0))] ?_
  refine aO ?_
  refine cI 0 ?_
  refine aO ?_
  refine aU aF 3 ?_
  refine bO 1 ?_
  refine HS false ?_
  refine bE ?_
  refine bB [(1, (eL aR l)), (2, (.rp (.lp lo 0 0))), (4, (.lp lo4 0 0)), (15, (aG false))] ?_
  refine oB (false) (fun hc => by cases hc) (fun hc => ?_)
  refine aO ?_
  refine aU aF 4 ?_
  refine bO 1 ?_
  refine iI (TG l _ hm1) hO ?_
  intro H hO
  refine bE ?_
  refine bB [(1, (eL aR l)), (2, (.rp (.lp lo 0 0))), (4, (.lp lo4 0 0)), (18, (aG (!m1)))] ?_
  refine bV h0 (fun h0 => ?_) (fun h0 => ?_)
  · obtain rfl := oI h0
    refine aO ?_
    refine aU aF 1 ?_
    refine pN 1 lo4 1 0 (eI (0 : Int)) (eI (2 : Int)) [(eI (0 : Int))] [(lo, 3, [(.agg [.mp lm, eI b.edges, eI b.mark])]), (lo4, 1, [(eI (2 : Int))])] hO rfl (by kernel_rfl) ?_
    intro H hO
    refine fC ?_
    refine bB [(4, (.lp lo4 0 0))] ?_
    refine bQ ?_
    exact aI (bW (aV (QM0 (.inr rfl) (rs := [.cell 4 26]) (xs := [(eI (2 : Int))]) (x := (eI (2 : Int))) (by kernel_rfl) (xY (lo := lo4) (k := 1) (y := (eI (2 : Int))) (x := (eI (2 : Int))) 1 hO (by kernel_rfl) (by kernel_rfl) (by kernel_rfl) (by kernel_rfl) vP) (by kernel_rfl) ⟨[dQ lm b], _, ⟨rfl, rfl, rfl⟩, hO.pick (L' := [(lo, 3, [(.agg [.mp lm, eI b.edges, eI b.mark])])]) [0] (by decide) (by kernel_rfl)⟩)))
  obtain ⟨c1, hc1, h0⟩ := aY h0
  refine aO ?_
  refine aU aF 4 ?_
  refine bO 2 ?_
  refine aFf (fun (st : Unit) G' => G' = up [(lo, 3, [(.agg [.mp lm, eI b.edges, eI b.mark])]), (lo4, 1, [(eI (0 : Int))])] ++ ((lm, lZ aB b.cells) :: Fg)) [(lo, 3, [(.agg [.mp lm, eI b.edges, eI b.mark])]), (lo4, 1, [(eI (0 : Int))])] () c1.1 14 [(eL aR l), (.fn (.func 15) [] [(.rp (.lp lo 0 0))])] (aG c1.2) (by kernel_rfl) (by kernel_rfl) (uS _ l _ _ (fun st y0 st2 rr hr => (aBg lo lm b y0 _ (aHj hr)).toV (ys := []) (zs := [aR y0]) (cs := [(.rp (.lp lo 0 0))]) (fun Gx hG => ⟨[], up [(lo4, 1, [(eI (0 : Int))])] ++ ((lm, lZ aB b.cells) :: Fg), hG, rfl⟩)) _ _ hc1) hO rfl (fun _ h => h) ?_
  intro H hO
  refine bE ?_
  refine bB [(1, (eL aR l)), (2, (.rp (.lp lo 0 0))), (4, (.lp lo4 0 0)), (22, (aG c1.2))] ?_
  refine bV h0 (fun h0 => ?_) (fun h0 => ?_)
  · obtain rfl := oI h0
    refine aO ?_
    refine aU aF 1 ?_
    refine pN 1 lo4 1 0 (eI (0 : Int)) (eI (16 : Int)) [(eI (0 : Int))] [(lo, 3, [(.agg [.mp lm, eI b.edges, eI b.mark])]), (lo4, 1, [(eI (16 : Int))])] hO rfl (by kernel_rfl) ?_
    intro H hO
    refine fC ?_
    refine bB [(4, (.lp lo4 0 0))] ?_
    refine bQ ?_
    exact aI (bW (aV (QM0 (.inr rfl) (rs := [.cell 4 26]) (xs := [(eI (16 : Int))]) (x := (eI (16 : Int))) (by kernel_rfl) (xY (lo := lo4) (k := 1) (y := (eI (16 : Int))) (x := (eI (16 : Int))) 1 hO (by kernel_rfl) (by kernel_rfl) (by kernel_rfl) (by kernel_rfl) vP) (by kernel_rfl) ⟨[dQ lm b], _, ⟨rfl, rfl, rfl⟩, hO.pick (L' := [(lo, 3, [(.agg [.mp lm, eI b.edges, eI b.mark])])]) [0] (by decide) (by kernel_rfl)⟩)))
  refine bT ?_
  refine fG [(1, (eL aR l)), (2, (.rp (.lp lo 0 0))), (4, (.lp lo4 0 0))] ?_
  refine aI (bD (aJ (?_)))
  obtain ⟨x1, hx1, h0⟩ := aY h0
  refine aO ?_
  refine aHk (jS [26, 27, 5, 6]) aF 9 (fun f T H => ∃ l5 l6 : Nat, qH T [(1, (eL aR l)), (2, (.rp (.lp lo 0 0))), (4, (.lp lo4 0 0))] ∧ sM f T [(0, 26, (.sl true 0 (fun _ => .bad))), (1, 27, (.lp lo 0 0)), (2, 28, (.lp lo 0 0)), (3, 29, (.lp lo 0 1)), (4, 30, (eI b.edges)), (5, 5, (.lp l5 0 0)), (6, 6, (.lp l6 0 0))] ∧ aN ⟨Fh, Fe, (lm, lZ aB b.cells) :: Fg⟩ H ([(lo, 3, [(.agg [.mp lm, eI b.edges, eI b.mark])]), (lo4, 1, [(eI (0 : Int))])] ++ ((cond (f 5) [(l5, 1, [(.sl true 0 (fun _ => .bad))])] []) ++ (cond (f 6) [(l6, 1, [(eI (cond (f 8) b.edges (0 : Int)))])] [])))) ?_ ?_ ?_
  · intro f hf
    refine ⟨0, 0, qH.aGJ _ (show [1, 2, 4].Nodup by decide), sM.start hf _, ?_⟩
    rw [hf, hf]; exact hO
  · clear hO
    intro i f T H hi hfi hcl hdp hinv
    obtain ⟨l5, l6, hB, ⟨a0, a1, a2, a3, a4, a5, a6, _⟩, hO⟩ := hinv
    have hF : sM f T [(0, 26, (.sl true 0 (fun _ => .bad))), (1, 27, (.lp lo 0 0)), (2, 28, (.lp lo 0 0)), (3, 29, (.lp lo 0 1)), (4, 30, (eI b.edges)), (5, 5, (.lp l5 0 0)), (6, 6, (.lp l6 0 0))] := ⟨a0, a1, a2, a3, a4, a5, a6, trivial⟩
    have hi' : i = 0 ∨ i = 1 ∨ i = 2 ∨ i = 3 ∨ i = 4 ∨ i = 5 ∨ i = 6 ∨ i = 7 ∨ i = 8 := by omega
    rcases hi' with rfl | rfl | rfl | rfl | rfl | rfl | rfl | rfl | rfl
    · refine aB4 (xs := []) (k := 2) (by kernel_rfl) (by kernel_rfl) ?_
      refine oT (by kernel_rfl) ?_
      exact ⟨l5, l6, hB.BE 26 _, hF.BE 26 (by repeat (first | exact trivial | refine ⟨.inr ⟨rfl, rfl⟩, ?_⟩ | refine ⟨.inl ⟨rfl, rfl⟩, ?_⟩)), hO⟩
    · exact aCo [(1, (eL aR l)), (2, (.rp (.lp lo 0 0))), (4, (.lp lo4 0 0))] 27 (.lp lo 0 0) hB ⟨l5, l6, hB.BE 27 _ rfl, hF.BE 27 (by repeat (first | exact trivial | refine ⟨.inr ⟨rfl, rfl⟩, ?_⟩ | refine ⟨.inl ⟨rfl, rfl⟩, ?_⟩)) rfl, hO⟩
    · exact aCo [(27, (.lp lo 0 0))] 28 (.lp lo 0 0) ⟨a1 (hdp 1 (yP (by kernel_rfl))), trivial⟩ ⟨l5, l6, hB.BE 28 _ rfl, hF.BE 28 (by repeat (first | exact trivial | refine ⟨.inr ⟨rfl, rfl⟩, ?_⟩ | refine ⟨.inl ⟨rfl, rfl⟩, ?_⟩)) rfl, hO⟩
    · exact aCo [(28, (.lp lo 0 0))] 29 (.lp lo 0 1) ⟨a2 (hdp 2 (yP (by kernel_rfl))), trivial⟩ ⟨l5, l6, hB.BE 29 _ rfl, hF.BE 29 (by repeat (first | exact trivial | refine ⟨.inr ⟨rfl, rfl⟩, ?_⟩ | refine ⟨.inl ⟨rfl, rfl⟩, ?_⟩)) rfl, hO⟩
    · have hx : qH T [(29, (.lp lo 0 1))] := ⟨a3 (hdp 3 (yP (by kernel_rfl))), trivial⟩
      refine aCb [(29, (.lp lo 0 1))] hx ?_
      refine jT 0 lo 3 0 (.agg [.mp lm, eI b.edges, eI b.mark]) (eI b.edges) [(.agg [.mp lm, eI b.edges, eI b.mark])] hO rfl ?_
      refine oT (by kernel_rfl) ?_
      rw [KY hx]
      exact ⟨l5, l6, hB.BE 30 _, hF.BE 30 (by repeat (first | exact trivial | refine ⟨.inr ⟨rfl, rfl⟩, ?_⟩ | refine ⟨.inl ⟨rfl, rfl⟩, ?_⟩)), hO⟩
    · refine aAg 1 (.sl true 0 (fun _ => .bad)) hO ?_
      clear hO
      intro lo5 H hO
      refine oT (by kernel_rfl) ?_
      refine ⟨lo5, l6, hB.BE 5 _, sM.BE (l := [(0, 26, (.sl true 0 (fun _ => .bad))), (1, 27, (.lp lo 0 0)), (2, 28, (.lp lo 0 0)), (3, 29, (.lp lo 0 1)), (4, 30, (eI b.edges)), (5, 5, (.lp lo5 0 0)), (6, 6, (.lp l6 0 0))]) 5 ⟨a0, a1, a2, a3, a4, fun h => absurd (hfi.symm.trans h) (by decide), a6, trivial⟩ (by repeat (first | exact trivial | refine ⟨.inr ⟨rfl, rfl⟩, ?_⟩ | refine ⟨.inl ⟨rfl, rfl⟩, ?_⟩)), ?_⟩
      show aN _ _ (_ ++ (_ ++ cond (f 6) [(l6, 1, [(eI (cond (f 8) b.edges (0 : Int)))])] []))
      rw [hfi] at hO
      cases h6 : f 6 with
      | true => rw [h6] at hO; exact hO.pick [0, 1, 3, 2] (by decide) (by kernel_rfl)
      | false => rw [h6] at hO; exact hO.pick [0, 1, 2] (by decide) (by kernel_rfl)
    · have h8 : f 8 = false := by
        cases h8 : f 8 with
        | false => rfl
        | true => rw [hcl 8 h8 6 (yP (by kernel_rfl))] at hfi; cases hfi
      refine aAg 1 (eI (0 : Int)) hO ?_
      clear hO
      intro lo6 H hO
      refine oT (by kernel_rfl) ?_
      refine ⟨l5, lo6, hB.BE 6 _, sM.BE (l := [(0, 26, (.sl true 0 (fun _ => .bad))), (1, 27, (.lp lo 0 0)), (2, 28, (.lp lo 0 0)), (3, 29, (.lp lo 0 1)), (4, 30, (eI b.edges)), (5, 5, (.lp l5 0 0)), (6, 6, (.lp lo6 0 0))]) 6 ⟨a0, a1, a2, a3, a4, a5, fun h => absurd (hfi.symm.trans h) (by decide), trivial⟩ (by repeat (first | exact trivial | refine ⟨.inr ⟨rfl, rfl⟩, ?_⟩ | refine ⟨.inl ⟨rfl, rfl⟩, ?_⟩)), ?_⟩
      show aN _ _ (_ ++ (cond (f 5) [(l5, 1, [(.sl true 0 (fun _ => .bad))])] [] ++ [(lo6, 1, [(eI (cond (f 8) b.edges (0 : Int)))])]))
      rw [hfi] at hO
      rw [h8]
      cases h5 : f 5 with
      | true => rw [h5] at hO; exact hO.pick [0, 1, 2, 3] (by decide) (by kernel_rfl)
      | false => rw [h5] at hO; exact hO.pick [0, 1, 2] (by decide) (by kernel_rfl)
    · have h5 : f 5 = true := hdp 5 (yP (by kernel_rfl))
      have hx : qH T [(26, (.sl true 0 (fun _ => .bad))), (5, (.lp l5 0 0))] := ⟨a0 (hdp 0 (yP (by kernel_rfl))), a5 h5, trivial⟩
      refine aCb [(26, (.sl true 0 (fun _ => .bad))), (5, (.lp l5 0 0))] hx ?_
      rw [h5] at hO
      refine nQ 2 l5 1 0 (.sl true 0 (fun _ => .bad)) (.sl true 0 (fun _ => .bad)) [(.sl true 0 (fun _ => .bad))] ([(lo, 3, [(.agg [.mp lm, eI b.edges, eI b.mark])]), (lo4, 1, [(eI (0 : Int))])] ++ ([(l5, 1, [(.sl true 0 (fun _ => .bad))])] ++ (cond (f 6) [(l6, 1, [(eI (cond (f 8) b.edges (0 : Int)))])] []))) hO rfl (by kernel_rfl) ?_
      clear hO
      intro H hO
      refine oT (by kernel_rfl) ?_
      rw [KY hx]
      refine ⟨l5, l6, hB, hF.stay (by kernel_rfl), ?_⟩
      show aN _ _ (_ ++ (cond (f 5) [(l5, 1, [(.sl true 0 (fun _ => .bad))])] [] ++ _))
      rw [h5]; exact hO
    · have h6 : f 6 = true := hdp 6 (yP (by kernel_rfl))
      have h5 : f 5 = true := hdp 5 (yP (by kernel_rfl))
      have hx : qH T [(30, (eI b.edges)), (6, (.lp l6 0 0))] := ⟨a4 (hdp 4 (yP (by kernel_rfl))), a6 h6, trivial⟩
      refine aCb [(30, (eI b.edges)), (6, (.lp l6 0 0))] hx ?_
      rw [h5, h6, hfi] at hO
      refine nQ 3 l6 1 0 (eI (0 : Int)) (eI b.edges) [(eI (0 : Int))] [(lo, 3, [(.agg [.mp lm, eI b.edges, eI b.mark])]), (lo4, 1, [(eI (0 : Int))]), (l5, 1, [(.sl true 0 (fun _ => .bad))]), (l6, 1, [(eI b.edges)])] hO rfl (by kernel_rfl) ?_
      clear hO
      intro H hO
      refine oT (by kernel_rfl) ?_
      rw [KY hx]
      refine ⟨l5, l6, hB, hF.stay (by kernel_rfl), ?_⟩
      show aN _ _ (_ ++ (cond (f 5) [(l5, 1, [(.sl true 0 (fun _ => .bad))])] [] ++ cond (f 6) _ []))
      rw [h5, h6]; exact hO
  clear hO
  intro f T H hall hinv
  obtain ⟨lo5, lo6, hB, hF, hO⟩ := hinv
  rw [hall 5 (by omega), hall 6 (by omega), hall 8 (by omega)] at hO
  replace hO : aN ⟨Fh, Fe, (lm, lZ aB b.cells) :: Fg⟩ H [(lo, 3, [(.agg [.mp lm, eI b.edges, eI b.mark])]), (lo4, 1, [(eI (0 : Int))]), (lo5, 1, [(.sl true 0 (fun _ => .bad))]), (lo6, 1, [(eI b.edges)])] := hO
  have hP := hB.append (hF.done hall (by kernel_rfl))
  refine aGH 2 1 lo5 2 (fun _ => .bad) (fun lo9 => [(lo, 3, [(.agg [.mp lm, eI b.edges, eI b.mark])]), (lo4, 1, [(eI (0 : Int))]), (lo5, 1, [(.msl 2 lo9 0 0)]), (lo6, 1, [(eI b.edges)]), (lo9, 2, [])]) hO (by kernel_rfl) (fun _ => by kernel_rfl) ?_
  intro loT H hO
  refine aHi [(1, (eL aR l)), (2, (.rp (.lp lo 0 0))), (4, (.lp lo4 0 0)), (5, (.lp lo5 0 0)), (6, (.lp lo6 0 0))] _ hP ?_
  refine aO ?_
  refine aU aF 2 ?_
  refine qY 1 (aG false) (by kernel_rfl) (by kernel_rfl) hO ?_
  intro lo7 H hO
  refine pN 5 lo7 1 0 (aG false) (aG false) [(aG false)] [(lo, 3, [(.agg [.mp lm, eI b.edges, eI b.mark])]), (lo4, 1, [(eI (0 : Int))]), (lo5, 1, [(.msl 2 loT 0 0)]), (lo6, 1, [(eI b.edges)]), (loT, 2, []), (lo7, 1, [(aG false)])] hO rfl (by kernel_rfl) ?_
  intro H hO
  refine fC ?_
  replace hO := hO.pick (L' := [(lo, 3, [(.agg [.mp lm, eI b.edges, eI b.mark])]), (lo4, 1, [(eI (0 : Int))]), (lo5, 1, [(.msl 2 loT 0 (List.length ([] : List aC)))]), (loT, 2, List.map aB ([] : List aC)), (lo6, 1, [(eI b.edges)]), (lo7, 1, [(aG false)])]) [0, 1, 2, 4, 3, 5] (by decide) (by kernel_rfl)
  refine bB [(1, (eL aR l)), (2, (.rp (.lp lo 0 0))), (4, (.lp lo4 0 0)), (5, (.lp lo5 0 0)), (6, (.lp lo6 0 0)), (7, (.lp lo7 0 0))] ?_
  refine aO ?_
  refine aO ?_
  refine aU aF 2 ?_
  refine bO 1 ?_
  refine iI (XC l _ hx1) hO ?_
  intro H hO
  refine fC ?_
  refine bB [(2, (.rp (.lp lo 0 0))), (4, (.lp lo4 0 0)), (5, (.lp lo5 0 0)), (6, (.lp lo6 0 0)), (7, (.lp lo7 0 0)), (32, (.fn (.func 30) [] [(.rp (eL aR x1))]))] ?_
  refine cI 1 ?_
  unfold NK at h0
  obtain ⟨o0, hl0, h0⟩ := aY h0
  refine QY (fid := 30) (ys := []) (cs := [(.rp (eL aR x1))]) #[33, 34] (fun (A : IU) (b9 lL : Nat) (st : (Int × List aC × Int × Bool) ⊕ (Int × List aC × Int × Bool)) (G' : Gs) => Sum.elim (fun (s : Int × List aC × Int × Bool) => ∃ loT : Nat, G' = (lL, .raw (pX b9 A .ready none)) :: (up [(lo, 3, [(.agg [.mp lm, eI b.edges, eI b.mark])]), (lo4, 1, [(eI s.1)]), (lo5, 1, [(.msl 2 loT 0 (List.length s.2.1))]), (loT, 2, List.map aB s.2.1), (lo6, 1, [(eI s.2.2.1)]), (lo7, 1, [(aG s.2.2.2)])] ++ ([dQ lm b] ++ Fg))) (fun (s : Int × List aC × Int × Bool) => ∃ loT : Nat, G' = (lL, .raw (pX b9 A .done (some .ret))) :: (up [(lo, 3, [(.agg [.mp lm, eI b.edges, eI b.mark])]), (lo4, 1, [(eI s.1)]), (lo5, 1, [(.msl 2 loT 0 (List.length s.2.1))]), (loT, 2, List.map aB s.2.1), (lo6, 1, [(eI s.2.2.1)]), (lo7, 1, [(aG s.2.2.2)])] ++ ([dQ lm b] ++ Fg))) st) (.inl ((0 : Int), [], b.edges, false)) o0 (.tup []) (by kernel_rfl) (by kernel_rfl) (by kernel_rfl) hO (fun _ _ => ⟨loT, rfl⟩) ?_ ?_
  · intro b9 lL
    clear hO h0
    refine PU _ b9 (fun st r f => rnd (fun (q : Int × List aC × Int × Bool) => xR b q.1 q.2.1 q.2.2.1 q.2.2.2 r f) st) ?_ x1 _ _ hl0
    intro st t33 t34 out1 rr hr
    obtain ⟨s, rfl, h1, rfl⟩ := aEL hr
    clear hr
    intro Hr Gr hi hg
    obtain ⟨e4, turned, n4, w4⟩ := s
    dsimp only [Sum.elim_inl] at hi
    obtain ⟨loT, rfl⟩ := hi
    replace h1 : xR b e4 turned n4 w4 t33 t34 = some out1 := h1
    unfold xR at h1
    obtain ⟨k, hk, h1⟩ := aY h1
    obtain ⟨x, hx, h1⟩ := aY h1
    obtain ⟨E1, hE, hO⟩ := JX hg
    refine KI (RJ (hO.gm 0 _ rfl).2 (by kernel_rfl) (by kernel_rfl) ?_)
    refine mI [(2, (.rp (.lp lo 0 0))), (4, (.lp lo4 0 0)), (5, (.lp lo5 0 0)), (6, (.lp lo6 0 0)), (7, (.lp lo7 0 0)), (33, (eL aL t33)), (34, (eL aK t34))] ?_
    refine cJ aF 1 [(2, (.rp (.lp lo 0 0))), (4, (.lp lo4 0 0)), (5, (.lp lo5 0 0)), (6, (.lp lo6 0 0)), (7, (.lp lo7 0 0)), (8, (eL aL t33)), (34, (eL aK t34))] ?_
    refine aU aF 1 ?_
    refine bE ?_
    refine fG [(2, (.rp (.lp lo 0 0))), (4, (.lp lo4 0 0)), (5, (.lp lo5 0 0)), (6, (.lp lo6 0 0)), (7, (.lp lo7 0 0)), (8, (eL aL t33)), (9, (eL aK t34))] ?_
    refine aI (⟨rfl, rfl, (hO.gm 0 _ rfl).2, ?_⟩)
    intro o1 ho1
    replace hO := hO.vH o1
    replace hO : aN ⟨Hr, E1, (lm, lZ aB b.cells) :: (lL, o1) :: Fg⟩ _ [(lo, 3, [(.agg [.mp lm, eI b.edges, eI b.mark])]), (lo4, 1, [(eI e4)]), (lo5, 1, [(.msl 2 loT 0 (List.length turned))]), (loT, 2, List.map aB turned), (lo6, 1, [(eI n4)]), (lo7, 1, [(aG w4)])] := hO.CI (List.Perm.swap _ _ _)
    refine cI 2 ?_
    refine aO ?_
    refine kB (jS [35, 40, 41]) aF 9 ?_
    refine tK (K := fun T H => Has (lift T) [(2, (.rp (.lp lo 0 0))), (4, (.lp lo4 0 0)), (5, (.lp lo5 0 0)), (6, (.lp lo6 0 0)), (7, (.lp lo7 0 0)), (8, (eL aL t33)), (9, (eL aK t34)), (10, (eL aK (lC b.cells k)))] ∧ aN ⟨Hr, E1, (lm, lZ aB b.cells) :: (lL, o1) :: Fg⟩ H [(lo, 3, [(.agg [.mp lm, eI b.edges, eI b.mark])]), (lo4, 1, [(eI e4)]), (lo5, 1, [(.msl 2 loT 0 (List.length turned))]), (loT, 2, List.map aB turned), (lo6, 1, [(eI n4)]), (lo7, 1, [(aG w4)])]) ?_ ?_
    · refine qE 3 ?_
      refine jT 0 lo 3 0 (.agg [.mp lm, eI b.edges, eI b.mark]) (.mp lm) [(.agg [.mp lm, eI b.edges, eI b.mark])] hO rfl ?_
      refine qE 5 ?_
      refine MX (VW t33 _ hk) hO ?_
      intro H hO
      refine WW (f := aB) (mty := 40) aF k (.agg [(.sl true 0 (fun _ => .bad)), (.sl true 0 (fun _ => .bad))]) hO (fun hg => ?_) (fun v hg => ?_)
      · refine oK ?_
        exact ⟨⟨[(2, (.rp (.lp lo 0 0))), (4, (.lp lo4 0 0)), (5, (.lp lo5 0 0)), (6, (.lp lo6 0 0)), (7, (.lp lo7 0 0)), (8, (eL aL t33)), (9, (eL aK t34)), (10, (.sl true 0 (fun _ => .bad)))], by kernel_rfl, rfl, ⟨aP.refl _, aP.refl _, aP.refl _, aP.refl _, aP.refl _, aP.refl _, aP.refl _, by rw [show lC b.cells k = [] by unfold lC; rw [hg]; rfl]; exact lU, trivial⟩⟩, hO⟩
      · refine oK ?_
        rw [show lC b.cells k = v.jumps by unfold lC; rw [hg]; rfl]
        exact ⟨bG, hO⟩
    rintro T H ⟨hT, hO⟩
    refine dX hT ?_
    clear hT
    refine aI (aJ ?_)
    refine aO ?_
    refine aU aF 8 ?_
    refine bO 2 ?_
    refine iI (aCC (lC b.cells k) t34 _ hx) hO ?_
    intro H hO
    refine bE ?_
    refine bB [(2, (.rp (.lp lo 0 0))), (4, (.lp lo4 0 0)), (5, (.lp lo5 0 0)), (6, (.lp lo6 0 0)), (7, (.lp lo7 0 0)), (8, (eL aL t33)), (9, (eL aK t34)), (10, (eL aK (lC b.cells k))), (11, (eL aK x.1)), (12, (eI x.2))] ?_
    refine aO ?_
    refine cJ aF 2 [(2, (.rp (.lp lo 0 0))), (4, (.lp lo4 0 0)), (5, (.lp lo5 0 0)), (6, (.lp lo6 0 0)), (7, (.lp lo7 0 0)), (8, (eL aL t33)), (9, (eL aK t34)), (10, (eL aK (lC b.cells k))), (11, (eL aK x.1)), (12, (eI x.2)), (50, (aG (!(decide (x.2 = (0 : Int))))))] ?_
    refine bV h1 (fun h1 => ?_) (fun h1 => ?_)
    · obtain rfl := oI h1
      refine aO ?_
      refine aU aF 2 ?_
      refine bO 1 ?_
      refine pN 1 lo4 1 0 (eI e4) (eI x.2) [(eI e4)] [(lo, 3, [(.agg [.mp lm, eI b.edges, eI b.mark])]), (lo4, 1, [(eI x.2)]), (lo5, 1, [(.msl 2 loT 0 (List.length turned))]), (loT, 2, List.map aB turned), (lo6, 1, [(eI n4)]), (lo7, 1, [(aG w4)])] hO rfl (by kernel_rfl) ?_
      intro H hO
      refine fC ?_
      refine bB [(2, (.rp (.lp lo 0 0))), (4, (.lp lo4 0 0)), (5, (.lp lo5 0 0)), (6, (.lp lo6 0 0)), (7, (.lp lo7 0 0))] ?_
      refine bQ ?_
      replace hO := hO.CI (List.Perm.swap _ _ _)
      exact aI (aV (bW (⟨(qR hO hE ho1 .dead).1, rfl, _, ⟨loT, rfl⟩, (qR hO hE ho1 _).2⟩)))
    refine bT ?_
    obtain ⟨y, hy, h1⟩ := aY h1
    obtain ⟨c7, h1⟩ := bC h1
    obtain rfl := oI h1
    refine bB [(2, (.rp (.lp lo 0 0))), (4, (.lp lo4 0 0)), (5, (.lp lo5 0 0)), (6, (.lp lo6 0 0)), (7, (.lp lo7 0 0)), (8, (eL aL t33)), (9, (eL aK t34)), (10, (eL aK (lC b.cells k))), (11, (eL aK x.1)), (12, (eI x.2))] ?_
    refine aO ?_
    refine aU aF 7 ?_
    refine oO 5 lo7 1 0 (aG w4) (aG w4) [(aG w4)] hO rfl ?_
    refine bO 3 ?_
    refine uQ [(53, false)] 19 [(eL aK x.1)] (eI y) (!w4) (by kernel_rfl) (by kernel_rfl) (by kernel_rfl) (fun hb => (aAr x.1 _ (pS hy hb))) hO ?_
    intro H hO
    refine bO 6 ?_
    refine pN 5 lo7 1 0 (aG w4) (aG (w4 || (decide (y < (0 : Int))))) [(aG w4)] [(lo, 3, [(.agg [.mp lm, eI b.edges, eI b.mark])]), (lo4, 1, [(eI e4)]), (lo5, 1, [(.msl 2 loT 0 (List.length turned))]), (loT, 2, List.map aB turned), (lo6, 1, [(eI n4)]), (lo7, 1, [(aG (w4 || (decide (y < (0 : Int)))))])] hO rfl (by kernel_rfl) ?_
    intro H hO
    refine fC ?_
    refine bB [(2, (.rp (.lp lo 0 0))), (4, (.lp lo4 0 0)), (5, (.lp lo5 0 0)), (6, (.lp lo6 0 0)), (7, (.lp lo7 0 0)), (8, (eL aL t33)), (9, (eL aK t34)), (10, (eL aK (lC b.cells k))), (11, (eL aK x.1)), (12, (eI x.2))] ?_
    refine aO ?_
    refine aU aF 8 ?_
    refine oO 4 lo6 1 0 (eI n4) (eI n4) [(eI n4)] hO rfl ?_
    refine bO 7 ?_
    refine pN 4 lo6 1 0 (eI n4) (eI (wR (n4 + wR ((lN x.1) - (lN (lC b.cells k)))))) [(eI n4)] [(lo, 3, [(.agg [.mp lm, eI b.edges, eI b.mark])]), (lo4, 1, [(eI e4)]), (lo5, 1, [(.msl 2 loT 0 (List.length turned))]), (loT, 2, List.map aB turned), (lo6, 1, [(eI (wR (n4 + wR ((lN x.1) - (lN (lC b.cells k))))))]), (lo7, 1, [(aG (w4 || (decide (y < (0 : Int)))))])] hO rfl (by kernel_rfl) ?_
    intro H hO
    refine fC ?_
    refine bB [(2, (.rp (.lp lo 0 0))), (4, (.lp lo4 0 0)), (5, (.lp lo5 0 0)), (6, (.lp lo6 0 0)), (7, (.lp lo7 0 0)), (8, (eL aL t33)), (9, (eL aK t34)), (10, (eL aK (lC b.cells k))), (11, (eL aK x.1)), (12, (eI x.2))] ?_
    refine aU aF 7 ?_
    refine oO 2 lo5 1 0 (.msl 2 loT 0 (List.length turned)) (.msl 2 loT 0 (List.length turned)) [(.msl 2 loT 0 (List.length turned))] hO rfl ?_
    refine bO 4 ?_
    refine xL [(aB (aC.mk t33 x.1))] 2 ?_
    refine FD aB turned ([(aC.mk t33 x.1)]) 3 loT 2 48 (dW [(aB (aC.mk t33 x.1))]) (fun lo9 => [(lo, 3, [(.agg [.mp lm, eI b.edges, eI b.mark])]), (lo4, 1, [(eI e4)]), (lo5, 1, [(.msl 2 loT 0 (List.length turned))]), (lo9, 2, List.map aB (turned ++ ([(aC.mk t33 x.1)]))), (lo6, 1, [(eI (wR (n4 + wR ((lN x.1) - (lN (lC b.cells k))))))]), (lo7, 1, [(aG (w4 || (decide (y < (0 : Int)))))])]) hO (by kernel_rfl) c7 ?_
    intro lo9 H hO
    refine pN 2 lo5 1 0 (.msl 2 loT 0 (List.length turned)) (.msl 2 lo9 0 (List.length (turned ++ ([(aC.mk t33 x.1)])))) [(.msl 2 loT 0 (List.length turned))] [(lo, 3, [(.agg [.mp lm, eI b.edges, eI b.mark])]), (lo4, 1, [(eI e4)]), (lo5, 1, [(.msl 2 lo9 0 (List.length (turned ++ ([(aC.mk t33 x.1)]))))]), (lo9, 2, List.map aB (turned ++ ([(aC.mk t33 x.1)]))), (lo6, 1, [(eI (wR (n4 + wR ((lN x.1) - (lN (lC b.cells k))))))]), (lo7, 1, [(aG (w4 || (decide (y < (0 : Int)))))])] hO rfl (by kernel_rfl) ?_
    intro H hO
    refine fC ?_
    refine fG [(2, (.rp (.lp lo 0 0))), (4, (.lp lo4 0 0)), (5, (.lp lo5 0 0)), (6, (.lp lo6 0 0)), (7, (.lp lo7 0 0))] ?_
    replace hO := hO.CI (List.Perm.swap _ _ _)
    exact aI (bD (⟨(qR hO hE ho1 .dead).1, rfl, _, ⟨lo9, rfl⟩, (qR hO hE ho1 _).2⟩))
  · intro b9 lD lL H' G' hi hO
    rcases o0 with s | s
    · obtain ⟨e4, turned, n4, w4⟩ := s
      dsimp only [Sum.elim_inl] at hi
      obtain ⟨loT, rfl⟩ := hi
      replace h0 : IV b turned n4 w4 = some r := h0
      unfold IV at h0
      obtain ⟨hlL, hO⟩ := yD hO
      refine ⟨_, _, hlL, (by intro e; cases e), ?_⟩
      refine fG [(2, (.rp (.lp lo 0 0))), (4, (.lp lo4 0 0)), (5, (.lp lo5 0 0)), (6, (.lp lo6 0 0)), (7, (.lp lo7 0 0))] ?_
      refine aI (bD (aJ (?_)))
      refine aO ?_
      refine cI 3 ?_
      refine aO ?_
      refine aU aF 3 ?_
      refine oO 4 lo6 1 0 (eI n4) (eI n4) [(eI n4)] hO rfl ?_
      refine bE ?_
      refine bB [(2, (.rp (.lp lo 0 0))), (4, (.lp lo4 0 0)), (5, (.lp lo5 0 0)), (6, (.lp lo6 0 0)), (7, (.lp lo7 0 0)), (71, (aG (decide ((4096 : Int) < n4))))] ?_
      refine bV h0 (fun h0 => ?_) (fun h0 => ?_)
      · obtain rfl := oI h0
        refine aO ?_
        refine aU aF 1 ?_
        refine pN 1 lo4 1 0 (eI e4) (eI (7 : Int)) [(eI e4)] [(lo, 3, [(.agg [.mp lm, eI b.edges, eI b.mark])]), (lo4, 1, [(eI (7 : Int))]), (lo5, 1, [(.msl 2 loT 0 (List.length turned))]), (loT, 2, List.map aB turned), (lo6, 1, [(eI n4)]), (lo7, 1, [(aG w4)])] hO rfl (by kernel_rfl) ?_
        intro H hO
        refine fC ?_
        refine bB [(4, (.lp lo4 0 0))] ?_
        refine bQ ?_
        have hD := (hO.gm 0 _ rfl).2
        replace hO := (hO.vH .dead).pG
        exact aI (bW (aV (QM1 (.inr rfl) hD (rs := [.cell 4 26]) (xs := [(eI (7 : Int))]) (x := (eI (7 : Int))) (by kernel_rfl) (xY (lo := lo4) (k := 1) (y := (eI (7 : Int))) (x := (eI (7 : Int))) 1 hO (by kernel_rfl) (by kernel_rfl) (by kernel_rfl) (by kernel_rfl) vP) (by kernel_rfl) ⟨[dQ lm b], _, ⟨rfl, rfl, rfl⟩, hO.pick (L' := [(lo, 3, [(.agg [.mp lm, eI b.edges, eI b.mark])])]) [0] (by decide) (by kernel_rfl)⟩)))
      refine aO ?_
      refine aU aF 2 ?_
      refine oO 5 lo7 1 0 (aG w4) (aG w4) [(aG w4)] hO rfl ?_
      refine bE ?_
      refine bB [(2, (.rp (.lp lo 0 0))), (4, (.lp lo4 0 0)), (5, (.lp lo5 0 0)), (6, (.lp lo6 0 0)), (7, (.lp lo7 0 0)), (74, (aG w4))] ?_
      refine bV h0 (fun h0 => ?_) (fun h0 => ?_)
      · obtain rfl := oI h0
        refine aO ?_
        refine aU aF 1 ?_
        refine pN 1 lo4 1 0 (eI e4) (eI (20 : Int)) [(eI e4)] [(lo, 3, [(.agg [.mp lm, eI b.edges, eI b.mark])]), (lo4, 1, [(eI (20 : Int))]), (lo5, 1, [(.msl 2 loT 0 (List.length turned))]), (loT, 2, List.map aB turned), (lo6, 1, [(eI n4)]), (lo7, 1, [(aG w4)])] hO rfl (by kernel_rfl) ?_
        intro H hO
        refine fC ?_
        refine bB [(4, (.lp lo4 0 0))] ?_
        refine bQ ?_
        have hD := (hO.gm 0 _ rfl).2
        replace hO := (hO.vH .dead).pG
        exact aI (bW (aV (QM1 (.inr rfl) hD (rs := [.cell 4 26]) (xs := [(eI (20 : Int))]) (x := (eI (20 : Int))) (by kernel_rfl) (xY (lo := lo4) (k := 1) (y := (eI (20 : Int))) (x := (eI (20 : Int))) 1 hO (by kernel_rfl) (by kernel_rfl) (by kernel_rfl) (by kernel_rfl) vP) (by kernel_rfl) ⟨[dQ lm b], _, ⟨rfl, rfl, rfl⟩, hO.pick (L' := [(lo, 3, [(.agg [.mp lm, eI b.edges, eI b.mark])])]) [0] (by decide) (by kernel_rfl)⟩)))
      refine bT ?_
      refine fG [(2, (.rp (.lp lo 0 0))), (4, (.lp lo4 0 0)), (5, (.lp lo5 0 0)), (6, (.lp lo6 0 0)), (7, (.lp lo7 0 0))] ?_
      refine aI (bD (aJ (?_)))
      replace hO : aN ⟨Fh, Fe, (lm, lZ aB b.cells) :: (lD, .raw FI) :: Fg⟩ _ [(lo, 3, [(.agg [.mp lm, eI b.edges, eI b.mark])]), (lo4, 1, [(eI e4)]), (lo5, 1, [(.msl 2 loT 0 (List.length turned))]), (loT, 2, List.map aB turned), (lo6, 1, [(eI n4)]), (lo7, 1, [(aG w4)])] := hO.CI (List.Perm.swap _ _ _)
      obtain ⟨b8, hb8, h0⟩ := aY h0
      refine aO ?_
      refine aO ?_
      refine aU aF 3 ?_
      refine oO 2 lo5 1 0 (.msl 2 loT 0 (List.length turned)) (.msl 2 loT 0 (List.length turned)) [(.msl 2 loT 0 (List.length turned))] hO rfl ?_
      refine bE ?_
      refine bB [(2, (.rp (.lp lo 0 0))), (4, (.lp lo4 0 0)), (5, (.lp lo5 0 0)), (6, (.lp lo6 0 0)), (7, (.lp lo7 0 0)), (76, (.msl 2 loT 0 (List.length turned))), (77, (eI (lN turned))), (78, (eI (0 : Int)))] ?_
      refine cI 4 ?_
      refine mV (fun (q : bY × Int) T H => Has T [(2, (.rp (.lp lo 0 0))), (4, (.lp lo4 0 0)), (5, (.lp lo5 0 0)), (6, (.lp lo6 0 0)), (7, (.lp lo7 0 0)), (76, (.msl 2 loT 0 (List.length turned))), (77, (eI (lN turned))), (78, (eI q.2))] ∧ aN ⟨Fh, Fe, (lm, lZ aB q.1.cells) :: (lD, .raw FI) :: Fg⟩ H [(lo, 3, [(.agg [.mp lm, eI q.1.edges, eI q.1.mark])]), (lo4, 1, [(eI e4)]), (lo5, 1, [(.msl 2 loT 0 (List.length turned))]), (loT, 2, List.map aB turned), (lo6, 1, [(eI n4)]), (lo7, 1, [(aG w4)])]) hb8 ⟨bG, hO⟩ ?_
      clear hO
      rintro k0 q out2 T H ⟨hT, hO⟩ h2 ho2
      obtain ⟨b1, i3⟩ := q
      replace h2 : nG turned (lN turned) b1 i3 = some out2 := h2
      refine bR (l := [(2, (.rp (.lp lo 0 0))), (4, (.lp lo4 0 0)), (5, (.lp lo5 0 0)), (6, (.lp lo6 0 0)), (7, (.lp lo7 0 0)), (76, (.msl 2 loT 0 (List.length turned))), (77, (eI (lN turned))), (78, (eI i3))]) hT ?_
      clear hT
      unfold nG at h2
      refine cJ aF 1 [(2, (.rp (.lp lo 0 0))), (4, (.lp lo4 0 0)), (5, (.lp lo5 0 0)), (6, (.lp lo6 0 0)), (7, (.lp lo7 0 0)), (76, (.msl 2 loT 0 (List.length turned))), (77, (eI (lN turned))), (78, (eI i3)), (79, (aG (decide (i3 < (lN turned)))))] ?_
      refine aO ?_
      refine bV h2 (fun h2 => ?_) (fun h2 => ?_)
      · refine bT ?_
        refine bB [(2, (.rp (.lp lo 0 0))), (4, (.lp lo4 0 0)), (5, (.lp lo5 0 0)), (6, (.lp lo6 0 0)), (7, (.lp lo7 0 0)), (76, (.msl 2 loT 0 (List.length turned))), (77, (eI (lN turned))), (78, (eI i3))] ?_
        refine aO ?_
        obtain ⟨c5, h2⟩ := bC h2
        obtain ⟨x, hx, h2⟩ := aY h2
        obtain rfl := oI h2
        refine cI 5 ?_
        refine aO ?_
        refine aU aF 4 ?_
        refine BD 1 [0 ≤ i3 ∧ i3 < (lN turned)] ⟨c5, trivial⟩ ?_
        refine oO 3 loT 2 (0 + Int.toNat i3) (aB (gD turned i3)) (aB (gD turned i3)) (List.map aB turned) hO (cB c5) ?_
        refine xE 2 (.agg [(.sl true 0 (fun _ => .bad)), (.sl true 0 (fun _ => .bad))]) (aB ⟨[], []⟩) (by kernel_rfl) (by kernel_rfl) (by kernel_rfl) (HG (xs := [(.sl true 0 (fun _ => .bad)), (.sl true 0 (fun _ => .bad))]) (ys := [(eL aL []), (eL aK [])]) ⟨lU, lU, trivial⟩) (by kernel_rfl) (by kernel_rfl) hO ?_
        intro lo8 H hO
        refine pN 6 lo8 2 0 (aB ⟨[], []⟩) (aB (gD turned i3)) [(aB ⟨[], []⟩)] [(lo, 3, [(.agg [.mp lm, eI b1.edges, eI b1.mark])]), (lo4, 1, [(eI e4)]), (lo5, 1, [(.msl 2 loT 0 (List.length turned))]), (loT, 2, List.map aB turned), (lo6, 1, [(eI n4)]), (lo7, 1, [(aG w4)]), (lo8, 2, [(aB (gD turned i3))])] hO rfl (by kernel_rfl) ?_
        intro H hO
        refine fC ?_
        refine bB [(2, (.rp (.lp lo 0 0))), (4, (.lp lo4 0 0)), (5, (.lp lo5 0 0)), (6, (.lp lo6 0 0)), (7, (.lp lo7 0 0)), (76, (.msl 2 loT 0 (List.length turned))), (77, (eI (lN turned))), (78, (eI i3)), (14, (.lp lo8 0 0))] ?_
        refine aU aF 3 ?_
        refine bO 1 ?_
        refine oO 6 lo8 2 0 (aB (gD turned i3)) (aB (gD turned i3)) [(aB (gD turned i3))] hO rfl ?_
        refine aGL [dQ lm b1] [(lo4, 1, [(eI e4)]), (lo5, 1, [(.msl 2 loT 0 (List.length turned))]), (loT, 2, List.map aB turned), (lo6, 1, [(eI n4)]), (lo7, 1, [(aG w4)]), (lo8, 2, [(aB (gD turned i3))])] [0, 1, 2, 3, 4, 5, 6] (VR lo lm b1 (gD turned i3) _ hx) hO ?_
        rintro _ _ _ H ⟨rfl, rfl, rfl⟩ hO
        refine fC ?_
        replace hO := hO.pick (L' := [(lo, 3, [(.agg [.mp lm, eI x.edges, eI x.mark])]), (lo4, 1, [(eI e4)]), (lo5, 1, [(.msl 2 loT 0 (List.length turned))]), (loT, 2, List.map aB turned), (lo6, 1, [(eI n4)]), (lo7, 1, [(aG w4)])]) [0, 1, 2, 3, 4, 5] (by decide) (by kernel_rfl)
        refine fG [(2, (.rp (.lp lo 0 0))), (4, (.lp lo4 0 0)), (5, (.lp lo5 0 0)), (6, (.lp lo6 0 0)), (7, (.lp lo7 0 0)), (76, (.msl 2 loT 0 (List.length turned))), (77, (eI (lN turned))), (78, (eI i3))] ?_
        refine aI (bD (aJ (?_)))
        refine aU aF 2 ?_
        refine bE ?_
        exact aI (⟨rfl, _, rfl, bG, hO⟩)
      refine lS 4 ?_
      obtain rfl := oI h2
      obtain rfl : _ = b8 := ho2
      obtain rfl := oI h0
      refine fG [(2, (.rp (.lp lo 0 0))), (4, (.lp lo4 0 0)), (5, (.lp lo5 0 0)), (6, (.lp lo6 0 0)), (7, (.lp lo7 0 0))] ?_
      refine aI (aZ (aZ (cC (aJ (?_)))))
      refine aO ?_
      refine aU aF 1 ?_
      refine pN 1 lo4 1 0 (eI e4) (eI (0 : Int)) [(eI e4)] [(lo, 3, [(.agg [.mp lm, eI b1.edges, eI b1.mark])]), (lo4, 1, [(eI (0 : Int))]), (lo5, 1, [(.msl 2 loT 0 (List.length turned))]), (loT, 2, List.map aB turned), (lo6, 1, [(eI n4)]), (lo7, 1, [(aG w4)])] hO rfl (by kernel_rfl) ?_
      intro H hO
      refine fC ?_
      refine bB [(4, (.lp lo4 0 0))] ?_
      refine bQ ?_
      replace hO := hO.CI (List.Perm.swap _ _ _)
      have hD := (hO.gm 0 _ rfl).2
      replace hO := (hO.vH .dead).pG
      exact aI ((QM1 (.inr rfl) hD (rs := [.cell 4 26]) (xs := [(eI (0 : Int))]) (x := (eI (0 : Int))) (by kernel_rfl) (xY (lo := lo4) (k := 1) (y := (eI (0 : Int))) (x := (eI (0 : Int))) 1 hO (by kernel_rfl) (by kernel_rfl) (by kernel_rfl) (by kernel_rfl) vP) (by kernel_rfl) ⟨[dQ lm b1], _, ⟨rfl, rfl, rfl⟩, hO.pick (L' := [(lo, 3, [(.agg [.mp lm, eI b1.edges, eI b1.mark])])]) [0] (by decide) (by kernel_rfl)⟩))
    · obtain ⟨e4, turned, n4, w4⟩ := s
      dsimp only [Sum.elim_inr] at hi
      obtain ⟨loT, rfl⟩ := hi
      obtain rfl := oI h0
      obtain ⟨hlL, hO⟩ := yD hO
      refine ⟨_, _, hlL, (by intro e; cases e), ?_⟩
      refine bQ ?_
      refine aI (bW (aV ?_))
      have hD := (hO.gm 0 _ rfl).2
      replace hO := (hO.vH .dead).pG
      exact QM1 (.inr rfl) hD (rs := [.cell 4 26]) (xs := [(eI e4)]) (x := (eI e4)) (by kernel_rfl) (xY (lo := lo4) (k := 1) (y := (eI e4)) (x := (eI e4)) 1 hO (by kernel_rfl) (by kernel_rfl) (by kernel_rfl) (by kernel_rfl) vP) (by kernel_rfl) ⟨[dQ lm b], _, ⟨rfl, rfl, rfl⟩, hO.pick (L' := [(lo, 3, [(.agg [.mp lm, eI b.edges, eI b.mark])])]) [0] (by decide) (by kernel_rfl)⟩

theorem TI (lo lm : Nat) (b : bY) (r : Int) (h0 : yA b = some r) : wQ Try.prog 9 [(.lp lo 0 0)] [dQ lm b] [iB lo lm b] (fun x M L => x = (eI r) ∧ M = [dQ lm b] ∧ L = [iB lo lm b]) := by
  intro F H0 hO
  obtain ⟨Fh, Fe, Fg⟩ := F
  refine dP Try.func9 ?_
  replace hO : aN ⟨Fh, Fe, (lm, lZ aB b.cells) :: Fg⟩ _ [(lo, 3, [(.agg [.mp lm, eI b.edges, eI b.mark])])] := hO
  unfold yA at h0
  obtain rfl := oI h0
  refine aX aF 1 [] [] ?_
  refine aO ?_
  refine aO ?_
  refine aU aF 2 ?_
  refine bO 1 ?_
  refine HS false ?_
  refine fC ?_
  refine bB [(0, (.lp lo 0 0)), (4, (aG false))] ?_
  refine oB (false) (fun hc => by cases hc) (fun hc => ?_)
  refine bT ?_
  refine bB [(0, (.lp lo 0 0))] ?_
  refine aO ?_
  refine aU aF 5 ?_
  refine bO 3 ?_
  refine oO 0 lo 3 0 (.agg [.mp lm, eI b.edges, eI b.mark]) (eI b.mark) [(.agg [.mp lm, eI b.edges, eI b.mark])] hO rfl ?_
  refine bE ?_
  refine bB [(2, (eI b.mark))] ?_
  refine bQ ?_
  exact aI (MK (M := [dQ lm b]) hO ⟨rfl, rfl, rfl⟩)

theorem aAS (lo lm : Nat) (b : bY) (r : Int) (h0 : zY b = some r) : wQ Try.prog 12 [(.lp lo 0 0)] [dQ lm b] [iB lo lm b] (fun x M L => x = (eI r) ∧ M = [dQ lm b] ∧ L = [iB lo lm b]) := by
  intro F H0 hO
  obtain ⟨Fh, Fe, Fg⟩ := F
  refine dP Try.func12 ?_
  replace hO : aN ⟨Fh, Fe, (lm, lZ aB b.cells) :: Fg⟩ _ [(lo, 3, [(.agg [.mp lm, eI b.edges, eI b.mark])])] := hO
  unfold zY at h0
  refine aX aF 1 [] [] ?_
  refine cJ aF 1 [(0, (.lp lo 0 0)), (3, (eI (0 : Int)))] ?_
  refine aO ?_
  refine aO ?_
  refine aU aF 2 ?_
  refine bO 1 ?_
  refine HS false ?_
  refine fC ?_
  refine bB [(0, (.lp lo 0 0)), (3, (eI (0 : Int))), (9, (aG false))] ?_
  refine oB (false) (fun hc => by cases hc) (fun hc => ?_)
  refine bT ?_
  refine bB [(0, (.lp lo 0 0)), (3, (eI (0 : Int)))] ?_
  refine aO ?_
  refine aO ?_
  refine aU aF 5 ?_
  refine bO 3 ?_
  refine oO 0 lo 3 0 (.agg [.mp lm, eI b.edges, eI b.mark]) (.mp lm) [(.agg [.mp lm, eI b.edges, eI b.mark])] hO rfl ?_
  refine HV (f := aB) (mty := 40) hO ?_
  intro li bs ck H hmb hmn hO
  refine fC ?_
  refine bB [(3, (eI (0 : Int))), (15, (.lp li 0 0))] ?_
  refine cI 0 ?_
  refine KN (by kernel_rfl) (fun (s : Int) (seen : List Nat) T H => Has T [(3, (eI s)), (15, (.lp li 0 0))] ∧ aN ⟨Fh, Fe, (li, MD li lm ck seen) :: (lm, xF aB b.cells bs ck) :: Fg⟩ H [(lo, 3, [(.agg [.mp lm, eI b.edges, eI b.mark])])]) hmb h0 ⟨bG, hO⟩ ?_
  clear hO h0
  rintro seen rem s T H ⟨hT, hO⟩ hleft hall
  refine bR (l := [(3, (eI s)), (15, (.lp li 0 0))]) hT ?_
  clear hT
  refine aO ?_
  refine aU aF 2 ?_
  refine KA hmb hmn hleft hall hO (fun h0 => ?_) (fun mk mv bq rest out1 H h1 hlt hleft hall hat hO => ?_)
  · clear hall hleft
    refine bE ?_
    refine bB [(3, (eI s)), (17, (aG false))] ?_
    refine aO ?_
    refine oB (false) (fun hc => by cases hc) (fun hc => ?_)
    refine lS 0 ?_
    replace hO := hO.pG
    refine EA hO fun H hO => ?_
    refine fG [(3, (eI s))] ?_
    obtain rfl := oI h0
    refine aI (aZ (aZ (cC (aJ (?_)))))
    refine cJ aF 2 [(2, (eI s))] ?_
    refine bQ ?_
    exact aI (MK (M := [dQ lm b]) hO ⟨rfl, rfl, rfl⟩)
  replace h1 : lp (fun s => rB mv.jumps (lN mv.jumps) s.1 s.2) (s, (0 : Int)) = some out1 := h1
  refine bE ?_
  refine bB [(3, (eI s)), (15, (.lp li 0 0)), (17, (aG true))] ?_
  refine aO ?_
  refine oB (true) (fun hc => ?_) (fun hc => by cases hc)
  refine bT ?_
  refine bB [(3, (eI s)), (15, (.lp li 0 0))] ?_
  refine cI 1 ?_
  refine aO ?_
  refine aU aF 4 ?_
  refine GJ hat hO ?_
  refine bO 2 ?_
  refine xE 2 (.agg [(.sl true 0 (fun _ => .bad)), (.sl true 0 (fun _ => .bad))]) (aB ⟨[], []⟩) (by kernel_rfl) (by kernel_rfl) (by kernel_rfl) (HG (xs := [(.sl true 0 (fun _ => .bad)), (.sl true 0 (fun _ => .bad))]) (ys := [(eL aL []), (eL aK [])]) ⟨lU, lU, trivial⟩) (by kernel_rfl) (by kernel_rfl) hO ?_
  intro lo5 H hO
  refine pN 1 lo5 2 0 (aB ⟨[], []⟩) (aB mv) [(aB ⟨[], []⟩)] [(lo, 3, [(.agg [.mp lm, eI b.edges, eI b.mark])]), (lo5, 2, [(aB mv)])] hO rfl (by kernel_rfl) ?_
  intro H hO
  refine fC ?_
  refine bB [(3, (eI s)), (15, (.lp li 0 0)), (5, (.lp lo5 0 0))] ?_
  refine aO ?_
  refine aU aF 4 ?_
  refine bO 1 ?_
  refine oO 1 lo5 2 0 (aB mv) (eL aK mv.jumps) [(aB mv)] hO rfl ?_
  refine bE ?_
  refine bB [(3, (eI s)), (15, (.lp li 0 0)), (21, (eL aK mv.jumps)), (22, (eI (lN mv.jumps))), (23, (eI (0 : Int)))] ?_
  replace hO := hO.pick (L' := [(lo, 3, [(.agg [.mp lm, eI b.edges, eI b.mark])])]) [0] (by decide) (by kernel_rfl)
  refine cI 2 ?_
  refine mV (fun (q : Int × Int) T H => Has T [(3, (eI q.1)), (15, (.lp li 0 0)), (21, (eL aK mv.jumps)), (22, (eI (lN mv.jumps))), (23, (eI q.2))] ∧ aN ⟨Fh, Fe, (li, MD li lm ck (seen ++ [bq])) :: (lm, xF aB b.cells bs ck) :: Fg⟩ H [(lo, 3, [(.agg [.mp lm, eI b.edges, eI b.mark])])]) h1 ⟨bG, hO⟩ ?_
  clear hO
  rintro k0 q out2 T H ⟨hT, hO⟩ h2 ho2
  obtain ⟨n3, i3⟩ := q
  replace h2 : rB mv.jumps (lN mv.jumps) n3 i3 = some out2 := h2
  refine bR (l := [(3, (eI n3)), (15, (.lp li 0 0)), (21, (eL aK mv.jumps)), (22, (eI (lN mv.jumps))), (23, (eI i3))]) hT ?_
  clear hT
  unfold rB at h2
  refine cJ aF 1 [(3, (eI n3)), (15, (.lp li 0 0)), (21, (eL aK mv.jumps)), (22, (eI (lN mv.jumps))), (23, (eI i3)), (24, (aG (decide (i3 < (lN mv.jumps)))))] ?_
  refine aO ?_
  refine bV h2 (fun h2 => ?_) (fun h2 => ?_)
  · refine bT ?_
    refine bB [(3, (eI n3)), (15, (.lp li 0 0)), (21, (eL aK mv.jumps)), (22, (eI (lN mv.jumps))), (23, (eI i3))] ?_
    refine aO ?_
    obtain ⟨c5, h2⟩ := bC h2
    obtain rfl := oI h2
    refine cI 3 ?_
    refine aO ?_
    refine aU aF 4 ?_
    refine BD 2 [0 ≤ i3 ∧ i3 < (lN mv.jumps)] ⟨c5, trivial⟩ ?_
    refine qY 2 (aK (aD.mk 0 0)) (by kernel_rfl) (by kernel_rfl) hO ?_
    intro lo7 H hO
    refine pN 1 lo7 2 0 (aK (aD.mk 0 0)) (aK (gD mv.jumps i3)) [(aK (aD.mk 0 0))] [(lo, 3, [(.agg [.mp lm, eI b.edges, eI b.mark])]), (lo7, 2, [(aK (gD mv.jumps i3))])] hO rfl (by kernel_rfl) ?_
    intro H hO
    refine fC ?_
    refine bB [(3, (eI n3)), (15, (.lp li 0 0)), (21, (eL aK mv.jumps)), (22, (eI (lN mv.jumps))), (23, (eI i3)), (7, (.lp lo7 0 0))] ?_
    refine aU aF 6 ?_
    refine bO 2 ?_
    refine oO 1 lo7 2 0 (aK (gD mv.jumps i3)) (eI (gD mv.jumps i3).Net) [(aK (gD mv.jumps i3))] hO rfl ?_
    refine bE ?_
    replace hO := hO.pick (L' := [(lo, 3, [(.agg [.mp lm, eI b.edges, eI b.mark])])]) [0] (by decide) (by kernel_rfl)
    refine fG [(3, (eI (wR (n3 + (if (0 : Int) > (gD mv.jumps i3).Net then (0 : Int) else (gD mv.jumps i3).Net))))), (15, (.lp li 0 0)), (21, (eL aK mv.jumps)), (22, (eI (lN mv.jumps))), (23, (eI i3))] ?_
    refine aI (bD (aJ (?_)))
    refine aU aF 2 ?_
    refine bE ?_
    exact aI (⟨rfl, _, rfl, bG, hO⟩)
  · refine lS 2 ?_
    obtain rfl := oI h2
    obtain rfl : _ = out1 := ho2
    refine fG [(3, (eI n3)), (15, (.lp li 0 0))] ?_
    exact aI (aZ (aZ (cC (bD (⟨rfl, _, _, _, hlt, hleft, hall, bG, hO⟩)))))

theorem PT (x0 : Int) (r : Int) (h0 : rV x0 = some r) : dK Try.prog 60 [(bN .u64 x0)] (eI r) := by
  intro H0
  refine dP Try.func60 ?_
  have hO := aN.start H0
  unfold rV at h0
  refine aX aF 1 [] [(2, (eI (0 : Int)))] ?_
  refine lY (fun T H => ∃ x0 : Int, ∃ n2 : Int, Has T [(0, (bN .u64 x0)), (2, (eI n2))] ∧ aN ⟨H0, [], []⟩ H [] ∧ oL x0 n2 = some r) ?_ ?_
  · clear hO h0
    rintro T H ⟨x0, n2, hT, hO, h0⟩
    refine bR hT ?_
    clear hT
    unfold oL at h0
    refine lY (fun T H => ∃ x0 : Int, ∃ n2 : Int, Has T [(0, (bN .u64 x0)), (2, (eI n2))] ∧ aN ⟨H0, [], []⟩ H [] ∧ oM x0 n2 = some r) ?_ ?_
    · clear hO h0
      rintro T H ⟨x0, n2, hT, hO, h0⟩
      refine bR hT ?_
      clear hT
      unfold oM at h0
      refine lY (fun T H => ∃ x0 : Int, ∃ n2 : Int, Has T [(0, (bN .u64 x0)), (2, (eI n2))] ∧ aN ⟨H0, [], []⟩ H [] ∧ qC x0 n2 = some r) ?_ ?_
      · clear hO h0
        rintro T H ⟨x0, n2, hT, hO, h0⟩
        refine bR hT ?_
        clear hT
        unfold qC at h0
        refine aO ?_
        refine aU aF 7 ?_
        obtain ⟨c1, h0⟩ := bC h0
        refine sV [0 ≤ (IntKind.u8.wrap x0) ∧ (IntKind.u8.wrap x0) < ((ByteArray.size (⟨#[0, 1, 2, 2, 3, 3, 3, 3, 4, 4, 4, 4, 4, 4, 4, 4, 5, 5, 5, 5, 5, 5, 5, 5, 5, 5, 5, 5, 5, 5, 5, 5, 6, 6, 6, 6, 6, 6, 6, 6, 6, 6, 6, 6, 6, 6, 6, 6, 6, 6, 6, 6, 6, 6, 6, 6, 6, 6, 6, 6, 6, 6, 6, 6, 7, 7, 7, 7, 7, 7, 7, 7, 7, 7, 7, 7, 7, 7, 7, 7, 7, 7, 7, 7, 7, 7, 7, 7, 7, 7, 7, 7, 7, 7, 7, 7, 7, 7, 7, 7, 7, 7, 7, 7, 7, 7, 7, 7, 7, 7, 7, 7, 7, 7, 7, 7, 7, 7, 7, 7, 7, 7, 7, 7, 7, 7, 7, 7, 8, 8, 8, 8, 8, 8, 8, 8, 8, 8, 8, 8, 8, 8, 8, 8, 8, 8, 8, 8, 8, 8, 8, 8, 8, 8, 8, 8, 8, 8, 8, 8, 8, 8, 8, 8, 8, 8, 8, 8, 8, 8, 8, 8, 8, 8, 8, 8, 8, 8, 8, 8, 8, 8, 8, 8, 8, 8, 8, 8, 8, 8, 8, 8, 8, 8, 8, 8, 8, 8, 8, 8, 8, 8, 8, 8, 8, 8, 8, 8, 8, 8, 8, 8, 8, 8, 8, 8, 8, 8, 8, 8, 8, 8, 8, 8, 8, 8, 8, 8, 8, 8, 8, 8, 8, 8, 8, 8, 8, 8, 8, 8, 8, 8, 8, 8, 8, 8, 8, 8, 8, 8, 8, 8, 8, 8, 8, 8]⟩ : ByteArray) : Nat) : Int)] ⟨c1, trivial⟩ ?_
        refine bB [(2, (eI (wR (n2 + (wR (bt (⟨#[0, 1, 2, 2, 3, 3, 3, 3, 4, 4, 4, 4, 4, 4, 4, 4, 5, 5, 5, 5, 5, 5, 5, 5, 5, 5, 5, 5, 5, 5, 5, 5, 6, 6, 6, 6, 6, 6, 6, 6, 6, 6, 6, 6, 6, 6, 6, 6, 6, 6, 6, 6, 6, 6, 6, 6, 6, 6, 6, 6, 6, 6, 6, 6, 7, 7, 7, 7, 7, 7, 7, 7, 7, 7, 7, 7, 7, 7, 7, 7, 7, 7, 7, 7, 7, 7, 7, 7, 7, 7, 7, 7, 7, 7, 7, 7, 7, 7, 7, 7, 7, 7, 7, 7, 7, 7, 7, 7, 7, 7, 7, 7, 7, 7, 7, 7, 7, 7, 7, 7, 7, 7, 7, 7, 7, 7, 7, 7, 8, 8, 8, 8, 8, 8, 8, 8, 8, 8, 8, 8, 8, 8, 8, 8, 8, 8, 8, 8, 8, 8, 8, 8, 8, 8, 8, 8, 8, 8, 8, 8, 8, 8, 8, 8, 8, 8, 8, 8, 8, 8, 8, 8, 8, 8, 8, 8, 8, 8, 8, 8, 8, 8, 8, 8, 8, 8, 8, 8, 8, 8, 8, 8, 8, 8, 8, 8, 8, 8, 8, 8, 8, 8, 8, 8, 8, 8, 8, 8, 8, 8, 8, 8, 8, 8, 8, 8, 8, 8, 8, 8, 8, 8, 8, 8, 8, 8, 8, 8, 8, 8, 8, 8, 8, 8, 8, 8, 8, 8, 8, 8, 8, 8, 8, 8, 8, 8, 8, 8, 8, 8, 8, 8, 8, 8, 8, 8]⟩ : ByteArray) (IntKind.u8.wrap x0)))))))] ?_
        refine bQ ?_
        obtain rfl := oI h0
        exact aI (Q_r hO)
      refine aX aF 2 [] [(14, (aG (decide ((256 : Int) ≤ x0))))] ?_
      refine bV h0 (fun h0 => ?_) (fun h0 => ?_)
      · refine aO ?_
        refine aU aF 3 ?_
        obtain ⟨c3, h0⟩ := bC h0
        refine sV [0 ≤ (8 : Int)] ⟨c3, trivial⟩ ?_
        refine bB [(0, (bN .u64 (Int.fdiv x0 (2 ^ (min (Int.toNat (8 : Int)) 64))))), (2, (eI n2))] ?_
        refine aU aF 3 ?_
        refine bE ?_
        exact aI (aJ (⟨rfl, _, _, bG, hO, h0⟩))
      refine bT ?_
      exact aI (aJ (⟨rfl, _, _, bG, hO, h0⟩))
    refine aX aF 2 [] [(8, (aG (decide ((65536 : Int) ≤ x0))))] ?_
    refine bV h0 (fun h0 => ?_) (fun h0 => ?_)
    · refine aO ?_
      refine aU aF 3 ?_
      obtain ⟨c5, h0⟩ := bC h0
      refine sV [0 ≤ (16 : Int)] ⟨c5, trivial⟩ ?_
      refine bB [(0, (bN .u64 (Int.fdiv x0 (2 ^ (min (Int.toNat (16 : Int)) 64))))), (2, (eI n2))] ?_
      refine aU aF 3 ?_
      refine bE ?_
      exact aI (aJ (⟨rfl, _, _, bG, hO, h0⟩))
    refine bT ?_
    exact aI (aJ (⟨rfl, _, _, bG, hO, h0⟩))
  refine aX aF 2 [] [(4, (aG (decide ((4294967296 : Int) ≤ x0))))] ?_
  refine bV h0 (fun h0 => ?_) (fun h0 => ?_)
  · refine aO ?_
    refine aU aF 3 ?_
    obtain ⟨c7, h0⟩ := bC h0
    refine sV [0 ≤ (32 : Int)] ⟨c7, trivial⟩ ?_
    refine bB [(0, (bN .u64 (Int.fdiv x0 (2 ^ (min (Int.toNat (32 : Int)) 64)))))] ?_
    refine aU aF 1 ?_
    refine bE ?_
    exact aI (aJ (⟨rfl, _, _, bG, hO, h0⟩))
  refine bT ?_
  exact aI (aJ (⟨rfl, _, _, bG, hO, h0⟩))

theorem IX (x0 : Int) (r : Int) (h0 : oA x0 = some r) : dK Try.prog 38 [(bN .u64 x0)] (eI r) := by
  intro H0
  refine dP Try.func38 ?_
  have hO := aN.start H0
  unfold oA at h0
  refine aX aF 1 [] [] ?_
  refine aO ?_
  refine oB (false) (fun hc1 => ?_) (fun hc1 => ?_)
  · cases hc1
  · refine bT ?_
    refine aI (aJ ?_)
    refine aO ?_
    refine aU aF 3 ?_
    refine bO 1 ?_
    obtain ⟨x2, hx3, h0⟩ := aY h0
    refine iI (PT x0 _ hx3) hO ?_
    intro H hO
    refine bE ?_
    refine bB [(2, (eI x2))] ?_
    refine bQ ?_
    obtain rfl := oI h0
    exact aI (Q_r hO)

theorem wI (lo0p : Nat) (aA : (List aC)) (a1 : Int) (b2 : Int) (cmp3_f : Nat) (cmp3_a cmp3_c : List V) (cmp3 : aC → aC → Option Int) (cmp3_h : ∀ a0 a1 r, cmp3 a0 a1 = some r → dK Try.prog cmp3_f (cmp3_a ++ [(aB a0), (aB a1)] ++ cmp3_c) (eI r)) (r : List aC) (h0 : iL aA a1 b2 cmp3 = some r) : sA Try.prog 51 lo0p 2 (List.map aB aA) (List.map aB r) [(.msl 2 lo0p 0 (List.length aA)), (eI a1), (eI b2), (.fn (.func cmp3_f) cmp3_a cmp3_c)] (.tup []) := by
  intro H0 hl0
  refine dP Try.func51 ?_
  have hO := aN.uL hl0
  clear hl0
  obtain ⟨N0, hN0⟩ : ∃ n, n = List.length aA := ⟨_, rfl⟩
  have hN : List.length aA = N0 := hN0.symm
  unfold iL at h0
  refine aX aF 3 [] [(8, (eI (wR (a1 + (1 : Int)))))] ?_
  refine cI 0 ?_
  refine mI [(0, (.msl 2 lo0p 0 (List.length aA))), (1, (eI a1)), (2, (eI b2)), (3, (.fn (.func cmp3_f) cmp3_a cmp3_c)), (8, (eI (wR (a1 + (1 : Int)))))] ?_
  refine lK (fun T H => ∃ aA : List aC, ∃ i8 : Int, Has T [(0, (.msl 2 lo0p 0 (List.length aA))), (1, (eI a1)), (2, (eI b2)), (3, (.fn (.func cmp3_f) cmp3_a cmp3_c)), (8, (eI i8))] ∧ aN ⟨H0, [lo0p], []⟩ H [(lo0p, 2, List.map aB aA)] ∧ List.length aA = N0 ∧ gV cmp3 aA a1 b2 i8 = some r) ?_ ⟨aA, wR (a1 + (1 : Int)), bG, hO, hN, h0⟩
  clear hO hN h0
  rintro T H ⟨aA, i8, hT, hO, hN, h0⟩
  refine bR hT ?_
  clear hT
  unfold gV at h0
  obtain ⟨rr0, hl0, h0⟩ := aY h0
  refine mV (fun (s : List aC × Int) T H => Has T [(0, (.msl 2 lo0p 0 (List.length s.1))), (1, (eI a1)), (2, (eI b2)), (3, (.fn (.func cmp3_f) cmp3_a cmp3_c)), (8, (eI s.2))] ∧ aN ⟨H0, [lo0p], []⟩ H [(lo0p, 2, List.map aB s.1)] ∧ List.length s.1 = N0) hl0 ⟨bG, hO, hN⟩ ?_
  clear hO hN
  rintro k0 s out1 T H ⟨hT, hO, hN⟩ h1 ho0
  obtain ⟨aA, i8⟩ := s
  replace h1 : gS cmp3 a1 b2 aA i8 = some out1 := h1
  try dsimp only at hT
  refine bR hT ?_
  clear hT
  unfold gS at h1
  refine aO ?_
  refine aX aF 3 [] [(14, (aG (decide (i8 < b2))))] ?_
  refine bV h1 (fun h1 => ?_) (fun h1 => ?_)
  · refine bT ?_
    refine bB [(0, (.msl 2 lo0p 0 (List.length aA))), (1, (eI a1)), (2, (eI b2)), (3, (.fn (.func cmp3_f) cmp3_a cmp3_c)), (8, (eI i8))] ?_
    refine lY (fun T H => ∃ aA : List aC, Has T [(0, (.msl 2 lo0p 0 (List.length aA))), (1, (eI a1)), (2, (eI b2)), (3, (.fn (.func cmp3_f) cmp3_a cmp3_c)), (8, (eI i8))] ∧ aN ⟨H0, [lo0p], []⟩ H [(lo0p, 2, List.map aB aA)] ∧ List.length aA = N0 ∧ eY cmp3 aA a1 b2 i8 = some out1) ?_ ?_
    · clear hO hN h1
      rintro T H ⟨aA, hT, hO, hN, h1⟩
      refine bR hT ?_
      clear hT
      unfold eY at h1
      refine aU aF 3 ?_
      refine bE ?_
      exact aI (aJ (⟨rfl, _, (oI h1).symm, bG, hO, hN⟩))
    refine cI 1 ?_
    refine aX aF 2 [] [(9, (eI i8))] ?_
    refine cI 2 ?_
    refine mI [(0, (.msl 2 lo0p 0 (List.length aA))), (1, (eI a1)), (2, (eI b2)), (3, (.fn (.func cmp3_f) cmp3_a cmp3_c)), (8, (eI i8)), (9, (eI i8))] ?_
    refine lK (fun T H => ∃ aA : List aC, ∃ j9 : Int, Has T [(0, (.msl 2 lo0p 0 (List.length aA))), (1, (eI a1)), (2, (eI b2)), (3, (.fn (.func cmp3_f) cmp3_a cmp3_c)), (8, (eI i8)), (9, (eI j9))] ∧ aN ⟨H0, [lo0p], []⟩ H [(lo0p, 2, List.map aB aA)] ∧ List.length aA = N0 ∧ gZ cmp3 aA a1 b2 i8 j9 = some out1) ?_ ⟨aA, i8, bG, hO, hN, h1⟩
    clear hO hN h1
    rintro T H ⟨aA, j9, hT, hO, hN, h1⟩
    refine bR hT ?_
    clear hT
    unfold gZ at h1
    obtain ⟨rr1, hl1, h1⟩ := aY h1
    refine mV (fun (s : List aC × Int) T H => Has T [(0, (.msl 2 lo0p 0 (List.length s.1))), (1, (eI a1)), (2, (eI b2)), (3, (.fn (.func cmp3_f) cmp3_a cmp3_c)), (8, (eI i8)), (9, (eI s.2))] ∧ aN ⟨H0, [lo0p], []⟩ H [(lo0p, 2, List.map aB s.1)] ∧ List.length s.1 = N0) hl1 ⟨bG, hO, hN⟩ ?_
    clear hO hN
    rintro k1 s out2 T H ⟨hT, hO, hN⟩ h2 ho1
    obtain ⟨aA, j9⟩ := s
    replace h2 : gX cmp3 a1 b2 i8 aA j9 = some out2 := h2
    try dsimp only at hT
    refine bR hT ?_
    clear hT
    unfold gX at h2
    refine aO ?_
    refine aO ?_
    obtain ⟨c2, h2⟩ := bC h2
    obtain ⟨c3, h2⟩ := bC h2
    obtain ⟨x4, hx5, h2⟩ := aY h2
    refine kB (jS []) aF 17 ?_
    refine tK (K := fun T H => Has (lift T) [(0, (.msl 2 lo0p 0 (List.length aA))), (1, (eI a1)), (2, (eI b2)), (3, (.fn (.func cmp3_f) cmp3_a cmp3_c)), (8, (eI i8)), (9, (eI j9)), (34, (aG ((decide (a1 < j9)) && (decide (x4 < (0 : Int))))))] ∧ aN ⟨H0, [lo0p], []⟩ H [(lo0p, 2, List.map aB aA)]) ?_ ?_
    · refine qE 4 ?_
      refine tC (t := 21) (e := decide (a1 < j9)) (by kernel_rfl) (fun hg6 => ?_) (fun hg6 => ?_)
      · refine cQ 8 [0 ≤ j9 ∧ j9 < (lN aA)] ⟨(c2 hg6), trivial⟩ ?_
        refine uR 0 lo0p 2 (0 + Int.toNat j9) (aB (gD aA j9)) (aB (gD aA j9)) (List.map aB aA) hO (cB (c2 hg6)) ?_
        refine cQ 13 [0 ≤ (wR (j9 - (1 : Int))) ∧ (wR (j9 - (1 : Int))) < (lN aA)] ⟨(c3 hg6), trivial⟩ ?_
        refine uR 0 lo0p 2 (0 + Int.toNat (wR (j9 - (1 : Int)))) (aB (gD aA (wR (j9 - (1 : Int))))) (aB (gD aA (wR (j9 - (1 : Int))))) (List.map aB aA) hO (cB (c3 hg6)) ?_
        refine uN cmp3_f (cmp3_a ++ [(aB (gD aA j9)), (aB (gD aA (wR (j9 - (1 : Int)))))] ++ cmp3_c) (eI x4) (by kernel_rfl) (by kernel_rfl) (cmp3_h (gD aA j9) (gD aA (wR (j9 - (1 : Int)))) _ (pS hx5 hg6)) hO ?_
        intro H hO
        refine oK ?_
        exact ⟨⟨[(0, (.msl 2 lo0p 0 (List.length aA))), (1, (eI a1)), (2, (eI b2)), (3, (.fn (.func cmp3_f) cmp3_a cmp3_c)), (8, (eI i8)), (9, (eI j9)), (34, (aG (decide (x4 < (0 : Int)))))], by kernel_rfl, rfl, ⟨aP.refl _, aP.refl _, aP.refl _, aP.refl _, aP.refl _, aP.refl _, aP.eq (congrArg aG (rH hg6 rfl).symm), trivial⟩⟩, hO⟩
      refine oK ?_
      exact ⟨⟨[(0, (.msl 2 lo0p 0 (List.length aA))), (1, (eI a1)), (2, (eI b2)), (3, (.fn (.func cmp3_f) cmp3_a cmp3_c)), (8, (eI i8)), (9, (eI j9)), (34, (aG false))], by kernel_rfl, rfl, ⟨aP.refl _, aP.refl _, aP.refl _, aP.refl _, aP.refl _, aP.refl _, aP.eq (congrArg aG (rH hg6 rfl).symm), trivial⟩⟩, hO⟩
    · rintro T H ⟨hT, hO⟩
      refine dX hT ?_
      clear hT
      refine aI (aJ ?_)
      refine bV h2 (fun h2 => ?_) (fun h2 => ?_)
      · refine bT ?_
        refine bB [(0, (.msl 2 lo0p 0 (List.length aA))), (1, (eI a1)), (2, (eI b2)), (3, (.fn (.func cmp3_f) cmp3_a cmp3_c)), (8, (eI i8)), (9, (eI j9))] ?_
        refine aO ?_
        refine cI 3 ?_
        refine kB (jS []) aF 18 ?_
        obtain ⟨c8, h2⟩ := bC h2
        refine cQ 9 [0 ≤ (wR (j9 - (1 : Int))) ∧ (wR (j9 - (1 : Int))) < (lN aA)] ⟨c8, trivial⟩ ?_
        refine jT 0 lo0p 2 (0 + Int.toNat (wR (j9 - (1 : Int)))) (aB (gD aA (wR (j9 - (1 : Int))))) (aB (gD aA (wR (j9 - (1 : Int))))) (List.map aB aA) hO (cB c8) ?_
        obtain ⟨c9, h2⟩ := bC h2
        refine cQ 13 [0 ≤ j9 ∧ j9 < (lN aA)] ⟨c9, trivial⟩ ?_
        refine jT 0 lo0p 2 (0 + Int.toNat j9) (aB (gD aA j9)) (aB (gD aA j9)) (List.map aB aA) hO (cB c9) ?_
        obtain ⟨c10, h2⟩ := bC h2
        refine cQ 15 [0 ≤ j9 ∧ j9 < (lN aA)] ⟨c10, trivial⟩ ?_
        refine nQ 0 lo0p 2 (0 + Int.toNat j9) (aB (gD aA j9)) (aB (gD aA (wR (j9 - (1 : Int))))) (List.map aB aA) [(lo0p, 2, List.map aB (List.set aA (Int.toNat j9) (gD aA (wR (j9 - (1 : Int))))))] hO (cB c10) (by simp only [List.set, lO]) ?_
        intro H hO
        replace hN : List.length (List.set aA (Int.toNat j9) (gD aA (wR (j9 - (1 : Int))))) = N0 := by simpa using hN
        obtain ⟨c11, h2⟩ := bC h2
        refine cQ 17 [0 ≤ (wR (j9 - (1 : Int))) ∧ (wR (j9 - (1 : Int))) < (lN aA)] ⟨c11, trivial⟩ ?_
        refine nQ 0 lo0p 2 (0 + Int.toNat (wR (j9 - (1 : Int)))) (aB (gD (List.set aA (Int.toNat j9) (gD aA (wR (j9 - (1 : Int))))) (wR (j9 - (1 : Int))))) (aB (gD aA j9)) (List.map aB (List.set aA (Int.toNat j9) (gD aA (wR (j9 - (1 : Int)))))) [(lo0p, 2, List.map aB (List.set (List.set aA (Int.toNat j9) (gD aA (wR (j9 - (1 : Int))))) (Int.toNat (wR (j9 - (1 : Int)))) (gD aA j9)))] hO (qX c11 (by simp [])) (by simp only [List.set, lO]) ?_
        intro H hO
        replace hN : List.length (List.set (List.set aA (Int.toNat j9) (gD aA (wR (j9 - (1 : Int))))) (Int.toNat (wR (j9 - (1 : Int)))) (gD aA j9)) = N0 := by simpa using hN
        refine oT (by kernel_rfl) ?_
        refine dX (l := [(0, (.msl 2 lo0p 0 (List.length (List.set (List.set aA (Int.toNat j9) (gD aA (wR (j9 - (1 : Int))))) (Int.toNat (wR (j9 - (1 : Int)))) (gD aA j9))))), (1, (eI a1)), (2, (eI b2)), (3, (.fn (.func cmp3_f) cmp3_a cmp3_c)), (8, (eI i8)), (9, (eI j9))]) ⟨[(0, (.msl 2 lo0p 0 (List.length aA))), (1, (eI a1)), (2, (eI b2)), (3, (.fn (.func cmp3_f) cmp3_a cmp3_c)), (8, (eI i8)), (9, (eI j9))], by kernel_rfl, rfl, ⟨aP.eq (by simp []), aP.refl _, aP.refl _, aP.refl _, aP.refl _, aP.refl _, trivial⟩⟩ ?_
        refine aI (bD (aJ (?_)))
        refine aU aF 3 ?_
        refine bE ?_
        exact aI (aJ (⟨rfl, _, (oI h2).symm, bG, hO, hN⟩))
      refine lS 2 ?_
      obtain rfl := oI h2
      obtain rfl : _ = rr1 := ho1
      replace h1 : eY cmp3 aA a1 b2 i8 = some out1 := h1
      exact aI (aZ (aZ (cC (bD (aJ (⟨rfl, _, bG, hO, hN, h1⟩))))))
  refine lS 0 ?_
  obtain rfl := oI h1
  obtain rfl : _ = rr0 := ho0
  replace h0 : some aA = some r := h0
  obtain rfl := oI h0
  exact aI (aZ (aZ (cC (FP (x := (.tup [])) (by kernel_rfl) (aP.refl _) ⟨rfl, hO.ext, hO.at 0 (by kernel_rfl), by first | rfl | (simp only [List.length_map]; exact hN.trans hN0)⟩))))

theorem sH (lo0p : Nat) (aA : (List aC)) (lo1 : Int) (hi2 : Int) (aW : Int) (cmp4_f : Nat) (cmp4_a cmp4_c : List V) (cmp4 : aC → aC → Option Int) (cmp4_h : ∀ a0 a1 r, cmp4 a0 a1 = some r → dK Try.prog cmp4_f (cmp4_a ++ [(aB a0), (aB a1)] ++ cmp4_c) (eI r)) (r : List aC) (h0 : iF aA lo1 hi2 aW cmp4 = some r) : sA Try.prog 69 lo0p 2 (List.map aB aA) (List.map aB r) [(.msl 2 lo0p 0 (List.length aA)), (eI lo1), (eI hi2), (eI aW), (.fn (.func cmp4_f) cmp4_a cmp4_c)] (.tup []) := by
  intro H0 hl0
  refine dP Try.func69 ?_
  have hO := aN.uL hl0
  clear hl0
  obtain ⟨N0, hN0⟩ : ∃ n, n = List.length aA := ⟨_, rfl⟩
  have hN : List.length aA = N0 := hN0.symm
  unfold iF at h0
  refine aX aF 2 [1] [(10, (eI lo1))] ?_
  refine cI 0 ?_
  refine mI [(0, (.msl 2 lo0p 0 (List.length aA))), (2, (eI hi2)), (3, (eI aW)), (4, (.fn (.func cmp4_f) cmp4_a cmp4_c)), (10, (eI lo1))] ?_
  refine lK (fun T H => ∃ aA : List aC, ∃ bS : Int, Has T [(0, (.msl 2 lo0p 0 (List.length aA))), (2, (eI hi2)), (3, (eI aW)), (4, (.fn (.func cmp4_f) cmp4_a cmp4_c)), (10, (eI bS))] ∧ aN ⟨H0, [lo0p], []⟩ H [(lo0p, 2, List.map aB aA)] ∧ List.length aA = N0 ∧ kF cmp4 aA hi2 aW bS = some r) ?_ ⟨aA, lo1, bG, hO, hN, h0⟩
  clear hO hN h0
  rintro T H ⟨aA, bS, hT, hO, hN, h0⟩
  refine bR hT ?_
  clear hT
  unfold kF at h0
  obtain ⟨rr0, hl0, h0⟩ := aY h0
  refine mV (fun (s : List aC × Int) T H => Has T [(0, (.msl 2 lo0p 0 (List.length s.1))), (2, (eI hi2)), (3, (eI aW)), (4, (.fn (.func cmp4_f) cmp4_a cmp4_c)), (10, (eI s.2))] ∧ aN ⟨H0, [lo0p], []⟩ H [(lo0p, 2, List.map aB s.1)] ∧ List.length s.1 = N0) hl0 ⟨bG, hO, hN⟩ ?_
  clear hO hN
  rintro k0 s out1 T H ⟨hT, hO, hN⟩ h1 ho0
  obtain ⟨aA, bS⟩ := s
  replace h1 : kG cmp4 hi2 aW aA bS = some out1 := h1
  try dsimp only at hT
  refine bR hT ?_
  clear hT
  unfold kG at h1
  refine cI 1 ?_
  refine aX aF 4 [] [(11, (eI (wR ((wR ((2 : Int) * bS)) + (1 : Int)))))] ?_
  refine aO ?_
  refine aX aF 3 [] [(18, (aG (decide (hi2 ≤ (wR ((wR ((2 : Int) * bS)) + (1 : Int)))))))] ?_
  refine bV h1 (fun h1 => ?_) (fun h1 => ?_)
  · refine lS 0 ?_
    obtain rfl := oI h1
    obtain rfl : _ = rr0 := ho0
    replace h0 : some aA = some r := h0
    obtain rfl := oI h0
    exact aI (aZ (AE (by kernel_rfl) (aZ (cC (FP (x := (.tup [])) (by kernel_rfl) (aP.refl _) ⟨rfl, hO.ext, hO.at 0 (by kernel_rfl), by first | rfl | (simp only [List.length_map]; exact hN.trans hN0)⟩)))))
  refine bT ?_
  refine bB [(0, (.msl 2 lo0p 0 (List.length aA))), (2, (eI hi2)), (3, (eI aW)), (4, (.fn (.func cmp4_f) cmp4_a cmp4_c)), (10, (eI bS)), (11, (eI (wR ((wR ((2 : Int) * bS)) + (1 : Int)))))] ?_
  refine lY (fun T H => ∃ aA : List aC, ∃ dB : Int, Has T [(0, (.msl 2 lo0p 0 (List.length aA))), (2, (eI hi2)), (3, (eI aW)), (4, (.fn (.func cmp4_f) cmp4_a cmp4_c)), (10, (eI bS)), (11, (eI dB))] ∧ aN ⟨H0, [lo0p], []⟩ H [(lo0p, 2, List.map aB aA)] ∧ List.length aA = N0 ∧ gM cmp4 aA hi2 aW bS dB = some out1) ?_ ?_
  · clear hO hN h1
    rintro T H ⟨aA, dB, hT, hO, hN, h1⟩
    refine bR hT ?_
    clear hT
    unfold gM at h1
    refine aO ?_
    refine aO ?_
    refine kB (jS [56]) aF 16 ?_
    obtain ⟨c2, h1⟩ := bC h1
    refine cQ 6 [0 ≤ (wR (aW + bS)) ∧ (wR (aW + bS)) < (lN aA)] ⟨c2, trivial⟩ ?_
    refine jT 0 lo0p 2 (0 + Int.toNat (wR (aW + bS))) (aB (gD aA (wR (aW + bS)))) (aB (gD aA (wR (aW + bS)))) (List.map aB aA) hO (cB c2) ?_
    obtain ⟨c3, h1⟩ := bC h1
    refine cQ 12 [0 ≤ (wR (aW + dB)) ∧ (wR (aW + dB)) < (lN aA)] ⟨c3, trivial⟩ ?_
    refine jT 0 lo0p 2 (0 + Int.toNat (wR (aW + dB))) (aB (gD aA (wR (aW + dB)))) (aB (gD aA (wR (aW + dB)))) (List.map aB aA) hO (cB c3) ?_
    obtain ⟨x4, hx5, h1⟩ := aY h1
    refine MX (cmp4_h (gD aA (wR (aW + bS))) (gD aA (wR (aW + dB))) _ hx5) hO ?_
    intro H hO
    refine oK ?_
    refine cO [] [(58, (aG (!(decide (x4 < (0 : Int))))))] ?_
    refine bV h1 (fun h1 => ?_) (fun h1 => ?_)
    · refine bQ ?_
      obtain rfl := oI h1
      obtain rfl : _ = rr0 := ho0
      replace h0 : some aA = some r := h0
      obtain rfl := oI h0
      exact aI (aV (bW (aV (bW (nL (x := (.tup [])) (by kernel_rfl) (aP.refl _) ⟨rfl, hO.ext, hO.at 0 (by kernel_rfl), by first | rfl | (simp only [List.length_map]; exact hN.trans hN0)⟩)))))
    refine bT ?_
    refine bB [(0, (.msl 2 lo0p 0 (List.length aA))), (2, (eI hi2)), (3, (eI aW)), (4, (.fn (.func cmp4_f) cmp4_a cmp4_c)), (10, (eI bS)), (11, (eI dB))] ?_
    refine aO ?_
    refine kB (jS []) aF 24 ?_
    obtain ⟨c8, h1⟩ := bC h1
    refine cQ 13 [0 ≤ (wR (aW + dB)) ∧ (wR (aW + dB)) < (lN aA)] ⟨c8, trivial⟩ ?_
    refine jT 0 lo0p 2 (0 + Int.toNat (wR (aW + dB))) (aB (gD aA (wR (aW + dB)))) (aB (gD aA (wR (aW + dB)))) (List.map aB aA) hO (cB c8) ?_
    obtain ⟨c9, h1⟩ := bC h1
    refine cQ 19 [0 ≤ (wR (aW + bS)) ∧ (wR (aW + bS)) < (lN aA)] ⟨c9, trivial⟩ ?_
    refine jT 0 lo0p 2 (0 + Int.toNat (wR (aW + bS))) (aB (gD aA (wR (aW + bS)))) (aB (gD aA (wR (aW + bS)))) (List.map aB aA) hO (cB c9) ?_
    obtain ⟨c10, h1⟩ := bC h1
    refine cQ 21 [0 ≤ (wR (aW + bS)) ∧ (wR (aW + bS)) < (lN aA)] ⟨c10, trivial⟩ ?_
    refine nQ 0 lo0p 2 (0 + Int.toNat (wR (aW + bS))) (aB (gD aA (wR (aW + bS)))) (aB (gD aA (wR (aW + dB)))) (List.map aB aA) [(lo0p, 2, List.map aB (List.set aA (Int.toNat (wR (aW + bS))) (gD aA (wR (aW + dB)))))] hO (cB c10) (by simp only [List.set, lO]) ?_
    intro H hO
    replace hN : List.length (List.set aA (Int.toNat (wR (aW + bS))) (gD aA (wR (aW + dB)))) = N0 := by simpa using hN
    obtain ⟨c11, h1⟩ := bC h1
    refine cQ 23 [0 ≤ (wR (aW + dB)) ∧ (wR (aW + dB)) < (lN aA)] ⟨c11, trivial⟩ ?_
    refine nQ 0 lo0p 2 (0 + Int.toNat (wR (aW + dB))) (aB (gD (List.set aA (Int.toNat (wR (aW + bS))) (gD aA (wR (aW + dB)))) (wR (aW + dB)))) (aB (gD aA (wR (aW + bS)))) (List.map aB (List.set aA (Int.toNat (wR (aW + bS))) (gD aA (wR (aW + dB))))) [(lo0p, 2, List.map aB (List.set (List.set aA (Int.toNat (wR (aW + bS))) (gD aA (wR (aW + dB)))) (Int.toNat (wR (aW + dB))) (gD aA (wR (aW + bS)))))] hO (qX c11 (by simp [])) (by simp only [List.set, lO]) ?_
    intro H hO
    replace hN : List.length (List.set (List.set aA (Int.toNat (wR (aW + bS))) (gD aA (wR (aW + dB)))) (Int.toNat (wR (aW + dB))) (gD aA (wR (aW + bS)))) = N0 := by simpa using hN
    refine oT (by kernel_rfl) ?_
    refine dX (l := [(0, (.msl 2 lo0p 0 (List.length (List.set (List.set aA (Int.toNat (wR (aW + bS))) (gD aA (wR (aW + dB)))) (Int.toNat (wR (aW + dB))) (gD aA (wR (aW + bS))))))), (2, (eI hi2)), (3, (eI aW)), (4, (.fn (.func cmp4_f) cmp4_a cmp4_c)), (11, (eI dB))]) ⟨[(0, (.msl 2 lo0p 0 (List.length aA))), (2, (eI hi2)), (3, (eI aW)), (4, (.fn (.func cmp4_f) cmp4_a cmp4_c)), (11, (eI dB))], by kernel_rfl, rfl, ⟨aP.eq (by simp []), aP.refl _, aP.refl _, aP.refl _, aP.refl _, trivial⟩⟩ ?_
    refine aI (aJ (?_))
    refine aU aF 2 ?_
    refine bE ?_
    exact aI (bD (aJ (⟨rfl, _, (oI h1).symm, bG, hO, hN⟩)))
  refine aO ?_
  obtain ⟨c12, h1⟩ := bC h1
  obtain ⟨c13, h1⟩ := bC h1
  obtain ⟨x14, hx15, h1⟩ := aY h1
  refine kB (jS []) aF 22 ?_
  refine tK (K := fun T H => Has (lift T) [(0, (.msl 2 lo0p 0 (List.length aA))), (2, (eI hi2)), (3, (eI aW)), (4, (.fn (.func cmp4_f) cmp4_a cmp4_c)), (10, (eI bS)), (11, (eI (wR ((wR ((2 : Int) * bS)) + (1 : Int))))), (40, (aG ((decide ((wR ((wR ((wR ((2 : Int) * bS)) + (1 : Int))) + (1 : Int))) < hi2)) && (decide (x14 < (0 : Int))))))] ∧ aN ⟨H0, [lo0p], []⟩ H [(lo0p, 2, List.map aB aA)]) ?_ ?_
  · refine qE 5 ?_
    refine tC (t := 23) (e := decide ((wR ((wR ((wR ((2 : Int) * bS)) + (1 : Int))) + (1 : Int))) < hi2)) (by kernel_rfl) (fun hg16 => ?_) (fun hg16 => ?_)
    · refine cQ 11 [0 ≤ (wR (aW + (wR ((wR ((2 : Int) * bS)) + (1 : Int))))) ∧ (wR (aW + (wR ((wR ((2 : Int) * bS)) + (1 : Int))))) < (lN aA)] ⟨(c12 hg16), trivial⟩ ?_
      refine uR 0 lo0p 2 (0 + Int.toNat (wR (aW + (wR ((wR ((2 : Int) * bS)) + (1 : Int)))))) (aB (gD aA (wR (aW + (wR ((wR ((2 : Int) * bS)) + (1 : Int))))))) (aB (gD aA (wR (aW + (wR ((wR ((2 : Int) * bS)) + (1 : Int))))))) (List.map aB aA) hO (cB (c12 hg16)) ?_
      refine cQ 18 [0 ≤ (wR ((wR (aW + (wR ((wR ((2 : Int) * bS)) + (1 : Int))))) + (1 : Int))) ∧ (wR ((wR (aW + (wR ((wR ((2 : Int) * bS)) + (1 : Int))))) + (1 : Int))) < (lN aA)] ⟨(c13 hg16), trivial⟩ ?_
      refine uR 0 lo0p 2 (0 + Int.toNat (wR ((wR (aW + (wR ((wR ((2 : Int) * bS)) + (1 : Int))))) + (1 : Int)))) (aB (gD aA (wR ((wR (aW + (wR ((wR ((2 : Int) * bS)) + (1 : Int))))) + (1 : Int))))) (aB (gD aA (wR ((wR (aW + (wR ((wR ((2 : Int) * bS)) + (1 : Int))))) + (1 : Int))))) (List.map aB aA) hO (cB (c13 hg16)) ?_
      refine uN cmp4_f (cmp4_a ++ [(aB (gD aA (wR (aW + (wR ((wR ((2 : Int) * bS)) + (1 : Int))))))), (aB (gD aA (wR ((wR (aW + (wR ((wR ((2 : Int) * bS)) + (1 : Int))))) + (1 : Int)))))] ++ cmp4_c) (eI x14) (by kernel_rfl) (by kernel_rfl) (cmp4_h (gD aA (wR (aW + (wR ((wR ((2 : Int) * bS)) + (1 : Int)))))) (gD aA (wR ((wR (aW + (wR ((wR ((2 : Int) * bS)) + (1 : Int))))) + (1 : Int)))) _ (pS hx15 hg16)) hO ?_
      intro H hO
      refine oK ?_
      exact ⟨⟨[(0, (.msl 2 lo0p 0 (List.length aA))), (2, (eI hi2)), (3, (eI aW)), (4, (.fn (.func cmp4_f) cmp4_a cmp4_c)), (10, (eI bS)), (11, (eI (wR ((wR ((2 : Int) * bS)) + (1 : Int))))), (40, (aG (decide (x14 < (0 : Int)))))], by kernel_rfl, rfl, ⟨aP.refl _, aP.refl _, aP.refl _, aP.refl _, aP.refl _, aP.refl _, aP.eq (congrArg aG (rH hg16 rfl).symm), trivial⟩⟩, hO⟩
    refine oK ?_
    exact ⟨⟨[(0, (.msl 2 lo0p 0 (List.length aA))), (2, (eI hi2)), (3, (eI aW)), (4, (.fn (.func cmp4_f) cmp4_a cmp4_c)), (10, (eI bS)), (11, (eI (wR ((wR ((2 : Int) * bS)) + (1 : Int))))), (40, (aG false))], by kernel_rfl, rfl, ⟨aP.refl _, aP.refl _, aP.refl _, aP.refl _, aP.refl _, aP.refl _, aP.eq (congrArg aG (rH hg16 rfl).symm), trivial⟩⟩, hO⟩
  · rintro T H ⟨hT, hO⟩
    refine dX hT ?_
    clear hT
    refine aI (aJ ?_)
    refine bV h1 (fun h1 => ?_) (fun h1 => ?_)
    · refine aU aF 3 ?_
      refine bE ?_
      exact aI (aJ (⟨rfl, _, _, bG, hO, hN, h1⟩))
    refine bT ?_
    exact aI (aJ (⟨rfl, _, _, bG, hO, hN, h1⟩))

end Go.Abs
namespace Go.Abs
open Go Go.RowKit Go.Proofs
theorem zX (lo0p : Nat) (aA : (List aC)) (a1 : Int) (b2 : Int) (cmp3_f : Nat) (cmp3_a cmp3_c : List V) (cmp3 : aC → aC → Option Int) (cmp3_h : ∀ a0 a1 r, cmp3 a0 a1 = some r → dK Try.prog cmp3_f (cmp3_a ++ [(aB a0), (aB a1)] ++ cmp3_c) (eI r)) (r : List aC) (h0 : kN aA a1 b2 cmp3 = some r) : sA Try.prog 52 lo0p 2 (List.map aB aA) (List.map aB r) [(.msl 2 lo0p 0 (List.length aA)), (eI a1), (eI b2), (.fn (.func cmp3_f) cmp3_a cmp3_c)] (.tup []) := by
  intro H0 hl0
  refine dP Try.func52 ?_
  have hO := aN.uL hl0
  clear hl0
  obtain ⟨N0, hN0⟩ : ∃ n, n = List.length aA := ⟨_, rfl⟩
  have hN : List.length aA = N0 := hN0.symm
  unfold kN at h0
  refine aX aF 2 [] [(8, (eI a1))] ?_
  refine aX aF 1 [] [(9, (eI (0 : Int)))] ?_
  refine aX aF 4 [1, 2] [(10, (eI (wR (b2 - a1))))] ?_
  refine lY (fun T H => ∃ aA : List aC, ∃ bK : Int, ∃ lo9 : Int, ∃ hi10 : Int, Has T [(0, (.msl 2 lo0p 0 (List.length aA))), (3, (.fn (.func cmp3_f) cmp3_a cmp3_c)), (8, (eI bK)), (9, (eI lo9)), (10, (eI hi10))] ∧ aN ⟨H0, [lo0p], []⟩ H [(lo0p, 2, List.map aB aA)] ∧ List.length aA = N0 ∧ gP cmp3 aA bK lo9 hi10 = some r) ?_ ?_
  · clear hO hN h0
    rintro T H ⟨aA, bK, lo9, hi10, hT, hO, hN, h0⟩
    refine bR hT ?_
    clear hT
    unfold gP at h0
    refine aX aF 3 [10] [(12, (eI (wR (hi10 - (1 : Int)))))] ?_
    refine cI 2 ?_
    refine mI [(0, (.msl 2 lo0p 0 (List.length aA))), (3, (.fn (.func cmp3_f) cmp3_a cmp3_c)), (8, (eI bK)), (9, (eI lo9)), (12, (eI (wR (hi10 - (1 : Int)))))] ?_
    refine lK (fun T H => ∃ aA : List aC, ∃ i12 : Int, Has T [(0, (.msl 2 lo0p 0 (List.length aA))), (3, (.fn (.func cmp3_f) cmp3_a cmp3_c)), (8, (eI bK)), (9, (eI lo9)), (12, (eI i12))] ∧ aN ⟨H0, [lo0p], []⟩ H [(lo0p, 2, List.map aB aA)] ∧ List.length aA = N0 ∧ kD cmp3 aA bK lo9 i12 = some r) ?_ ⟨aA, wR (hi10 - (1 : Int)), bG, hO, hN, h0⟩
    clear hO hN h0
    rintro T H ⟨aA, i12, hT, hO, hN, h0⟩
    refine bR hT ?_
    clear hT
    unfold kD at h0
    obtain ⟨rr0, hl0, h0⟩ := aY h0
    refine mV (fun (s : List aC × Int) T H => Has T [(0, (.msl 2 lo0p 0 (List.length s.1))), (3, (.fn (.func cmp3_f) cmp3_a cmp3_c)), (8, (eI bK)), (9, (eI lo9)), (12, (eI s.2))] ∧ aN ⟨H0, [lo0p], []⟩ H [(lo0p, 2, List.map aB s.1)] ∧ List.length s.1 = N0) hl0 ⟨bG, hO, hN⟩ ?_
    clear hO hN
    rintro k0 s out1 T H ⟨hT, hO, hN⟩ h1 ho0
    obtain ⟨aA, i12⟩ := s
    replace h1 : kH cmp3 bK lo9 aA i12 = some out1 := h1
    try dsimp only at hT
    refine bR hT ?_
    clear hT
    unfold kH at h1
    refine aO ?_
    refine aX aF 2 [] [(33, (aG (decide ((0 : Int) ≤ i12))))] ?_
    refine bV h1 (fun h1 => ?_) (fun h1 => ?_)
    · refine bT ?_
      refine bB [(0, (.msl 2 lo0p 0 (List.length aA))), (3, (.fn (.func cmp3_f) cmp3_a cmp3_c)), (8, (eI bK)), (9, (eI lo9)), (12, (eI i12))] ?_
      refine aO ?_
      refine cI 3 ?_
      refine aO ?_
      refine kB (jS []) aF 20 ?_
      obtain ⟨c2, h1⟩ := bC h1
      refine cQ 11 [0 ≤ (wR (bK + i12)) ∧ (wR (bK + i12)) < (lN aA)] ⟨c2, trivial⟩ ?_
      refine jT 0 lo0p 2 (0 + Int.toNat (wR (bK + i12))) (aB (gD aA (wR (bK + i12)))) (aB (gD aA (wR (bK + i12)))) (List.map aB aA) hO (cB c2) ?_
      obtain ⟨c3, h1⟩ := bC h1
      refine cQ 15 [0 ≤ bK ∧ bK < (lN aA)] ⟨c3, trivial⟩ ?_
      refine jT 0 lo0p 2 (0 + Int.toNat bK) (aB (gD aA bK)) (aB (gD aA bK)) (List.map aB aA) hO (cB c3) ?_
      obtain ⟨c4, h1⟩ := bC h1
      refine cQ 17 [0 ≤ bK ∧ bK < (lN aA)] ⟨c4, trivial⟩ ?_
      refine nQ 0 lo0p 2 (0 + Int.toNat bK) (aB (gD aA bK)) (aB (gD aA (wR (bK + i12)))) (List.map aB aA) [(lo0p, 2, List.map aB (List.set aA (Int.toNat bK) (gD aA (wR (bK + i12)))))] hO (cB c4) (by simp only [List.set, lO]) ?_
      intro H hO
      replace hN : List.length (List.set aA (Int.toNat bK) (gD aA (wR (bK + i12)))) = N0 := by simpa using hN
      obtain ⟨c5, h1⟩ := bC h1
      refine cQ 19 [0 ≤ (wR (bK + i12)) ∧ (wR (bK + i12)) < (lN aA)] ⟨c5, trivial⟩ ?_
      refine nQ 0 lo0p 2 (0 + Int.toNat (wR (bK + i12))) (aB (gD (List.set aA (Int.toNat bK) (gD aA (wR (bK + i12)))) (wR (bK + i12)))) (aB (gD aA bK)) (List.map aB (List.set aA (Int.toNat bK) (gD aA (wR (bK + i12))))) [(lo0p, 2, List.map aB (List.set (List.set aA (Int.toNat bK) (gD aA (wR (bK + i12)))) (Int.toNat (wR (bK + i12))) (gD aA bK)))] hO (qX c5 (by simp [])) (by simp only [List.set, lO]) ?_
      intro H hO
      replace hN : List.length (List.set (List.set aA (Int.toNat bK) (gD aA (wR (bK + i12)))) (Int.toNat (wR (bK + i12))) (gD aA bK)) = N0 := by simpa using hN
      refine oT (by kernel_rfl) ?_
      refine dX (l := [(0, (.msl 2 lo0p 0 (List.length (List.set (List.set aA (Int.toNat bK) (gD aA (wR (bK + i12)))) (Int.toNat (wR (bK + i12))) (gD aA bK))))), (3, (.fn (.func cmp3_f) cmp3_a cmp3_c)), (8, (eI bK)), (9, (eI lo9)), (12, (eI i12))]) ⟨[(0, (.msl 2 lo0p 0 (List.length aA))), (3, (.fn (.func cmp3_f) cmp3_a cmp3_c)), (8, (eI bK)), (9, (eI lo9)), (12, (eI i12))], by kernel_rfl, rfl, ⟨aP.eq (by simp []), aP.refl _, aP.refl _, aP.refl _, aP.refl _, trivial⟩⟩ ?_
      refine aI (aJ (?_))
      refine aU aF 6 ?_
      refine bO 5 ?_
      obtain ⟨x6, hx7, h1⟩ := aY h1
      refine DH [(lo0p, 2, List.map aB x6)] 0 (sH lo0p (List.set (List.set aA (Int.toNat bK) (gD aA (wR (bK + i12)))) (Int.toNat (wR (bK + i12))) (gD aA bK)) lo9 i12 bK cmp3_f cmp3_a cmp3_c cmp3 cmp3_h _ hx7) hO ?_
      intro H hO hl8
      simp only [List.length_map] at hl8
      replace hN := hl8.trans hN
      refine fC ?_
      refine dX (l := [(0, (.msl 2 lo0p 0 (List.length x6))), (3, (.fn (.func cmp3_f) cmp3_a cmp3_c)), (8, (eI bK)), (9, (eI lo9)), (12, (eI i12))]) ⟨[(0, (.msl 2 lo0p 0 (List.length (List.set (List.set aA (Int.toNat bK) (gD aA (wR (bK + i12)))) (Int.toNat (wR (bK + i12))) (gD aA bK))))), (3, (.fn (.func cmp3_f) cmp3_a cmp3_c)), (8, (eI bK)), (9, (eI lo9)), (12, (eI i12))], by kernel_rfl, rfl, ⟨aP.eq (by simp [hl8]), aP.refl _, aP.refl _, aP.refl _, aP.refl _, trivial⟩⟩ ?_
      refine aI (bD (aJ (?_)))
      refine aU aF 3 ?_
      refine bE ?_
      exact aI (aJ (⟨rfl, _, (oI h1).symm, bG, hO, hN⟩))
    refine lS 2 ?_
    obtain rfl := oI h1
    obtain rfl : _ = rr0 := ho0
    replace h0 : some aA = some r := h0
    obtain rfl := oI h0
    exact aI (aZ (aZ (cC (FP (x := (.tup [])) (by kernel_rfl) (aP.refl _) ⟨rfl, hO.ext, hO.at 0 (by kernel_rfl), by first | rfl | (simp only [List.length_map]; exact hN.trans hN0)⟩))))
  refine aO ?_
  refine aU aF 4 ?_
  obtain ⟨c9, h0⟩ := bC h0
  refine sV [(2 : Int) ≠ 0] ⟨c9, trivial⟩ ?_
  refine cO [] [(11, (eI (wR (Int.tdiv (wR ((wR (b2 - a1)) - (1 : Int))) (2 : Int)))))] ?_
  refine cI 0 ?_
  refine mI [(0, (.msl 2 lo0p 0 (List.length aA))), (3, (.fn (.func cmp3_f) cmp3_a cmp3_c)), (8, (eI a1)), (9, (eI (0 : Int))), (10, (eI (wR (b2 - a1)))), (11, (eI (wR (Int.tdiv (wR ((wR (b2 - a1)) - (1 : Int))) (2 : Int)))))] ?_
  refine lK (fun T H => ∃ aA : List aC, ∃ bK : Int, ∃ lo9 : Int, ∃ hi10 : Int, ∃ i11 : Int, Has T [(0, (.msl 2 lo0p 0 (List.length aA))), (3, (.fn (.func cmp3_f) cmp3_a cmp3_c)), (8, (eI bK)), (9, (eI lo9)), (10, (eI hi10)), (11, (eI i11))] ∧ aN ⟨H0, [lo0p], []⟩ H [(lo0p, 2, List.map aB aA)] ∧ List.length aA = N0 ∧ kC cmp3 aA bK lo9 hi10 i11 = some r) ?_ ⟨aA, a1, (0 : Int), wR (b2 - a1), wR (Int.tdiv (wR ((wR (b2 - a1)) - (1 : Int))) (2 : Int)), bG, hO, hN, h0⟩
  clear hO hN h0
  rintro T H ⟨aA, bK, lo9, hi10, i11, hT, hO, hN, h0⟩
  refine bR hT ?_
  clear hT
  unfold kC at h0
  obtain ⟨rr0, hl0, h0⟩ := aY h0
  refine mV (fun (s : List aC × Int) T H => Has T [(0, (.msl 2 lo0p 0 (List.length s.1))), (3, (.fn (.func cmp3_f) cmp3_a cmp3_c)), (8, (eI bK)), (9, (eI lo9)), (10, (eI hi10)), (11, (eI s.2))] ∧ aN ⟨H0, [lo0p], []⟩ H [(lo0p, 2, List.map aB s.1)] ∧ List.length s.1 = N0) hl0 ⟨bG, hO, hN⟩ ?_
  clear hO hN
  rintro k0 s out1 T H ⟨hT, hO, hN⟩ h1 ho0
  obtain ⟨aA, i11⟩ := s
  replace h1 : kI cmp3 bK lo9 hi10 aA i11 = some out1 := h1
  try dsimp only at hT
  refine bR hT ?_
  clear hT
  unfold kI at h1
  refine aO ?_
  refine aX aF 2 [] [(21, (aG (decide ((0 : Int) ≤ i11))))] ?_
  refine bV h1 (fun h1 => ?_) (fun h1 => ?_)
  · refine bT ?_
    refine bB [(0, (.msl 2 lo0p 0 (List.length aA))), (3, (.fn (.func cmp3_f) cmp3_a cmp3_c)), (8, (eI bK)), (9, (eI lo9)), (10, (eI hi10)), (11, (eI i11))] ?_
    refine aO ?_
    refine cI 1 ?_
    refine aU aF 6 ?_
    refine bO 5 ?_
    obtain ⟨x11, hx12, h1⟩ := aY h1
    refine DH [(lo0p, 2, List.map aB x11)] 0 (sH lo0p aA i11 hi10 bK cmp3_f cmp3_a cmp3_c cmp3 cmp3_h _ hx12) hO ?_
    intro H hO hl13
    simp only [List.length_map] at hl13
    replace hN := hl13.trans hN
    refine fC ?_
    refine dX (l := [(0, (.msl 2 lo0p 0 (List.length x11))), (3, (.fn (.func cmp3_f) cmp3_a cmp3_c)), (8, (eI bK)), (9, (eI lo9)), (10, (eI hi10)), (11, (eI i11))]) ⟨[(0, (.msl 2 lo0p 0 (List.length aA))), (3, (.fn (.func cmp3_f) cmp3_a cmp3_c)), (8, (eI bK)), (9, (eI lo9)), (10, (eI hi10)), (11, (eI i11))], by kernel_rfl, rfl, ⟨aP.eq (by simp [hl13]), aP.refl _, aP.refl _, aP.refl _, aP.refl _, aP.refl _, trivial⟩⟩ ?_
    refine aI (bD (aJ (?_)))
    refine aU aF 3 ?_
    refine bE ?_
    exact aI (aJ (⟨rfl, _, (oI h1).symm, bG, hO, hN⟩))
  refine lS 0 ?_
  obtain rfl := oI h1
  obtain rfl : _ = rr0 := ho0
  replace h0 : gP cmp3 aA bK lo9 hi10 = some r := h0
  exact aI (aZ (aZ (cC (aJ (⟨rfl, _, _, _, _, bG, hO, hN, h0⟩)))))

theorem HY (LI : Int) (r : Int) (h0 : mX LI = some r) : dK Try.prog 70 [(eI LI)] (bN .u64 r) := by
  intro H0
  refine dP Try.func70 ?_
  have hO := aN.start H0
  unfold mX at h0
  refine aX aF 1 [] [] ?_
  refine aO ?_
  refine aU aF 5 ?_
  refine bO 2 ?_
  obtain ⟨x1, hx2, h0⟩ := aY h0
  refine iI (IX (IntKind.u64.wrap LI) _ hx2) hO ?_
  intro H hO
  obtain ⟨c4, h0⟩ := bC h0
  refine sV [0 ≤ x1] ⟨c4, trivial⟩ ?_
  refine bB [(2, (bN .u64 (IntKind.u64.wrap ((1 : Int) * 2 ^ (min (Int.toNat x1) 64)))))] ?_
  refine bQ ?_
  obtain rfl := oI h0
  exact aI (Q_r hO)

theorem JS (lo0p : Nat) (r0 : Int) (r : (Int × Int)) (h0 : nM r0 = some r) : PD Try.prog 71 [(.lp lo0p 0 0)] [(lo0p, 1, [(bN .u64 r0)])] (fun x L => x = (bN .u64 r.1) ∧ L = [(lo0p, 1, [(bN .u64 r.2)])]) := by
  intro F H0 hO
  obtain ⟨Fh, Fe, Fg⟩ := F
  refine dP Try.func71 ?_
  unfold nM at h0
  refine aX aF 1 [] [] ?_
  refine aO ?_
  refine kB (jS []) aF 10 ?_
  refine qE 2 ?_
  refine jT 0 lo0p 1 0 (bN .u64 r0) (bN .u64 r0) [(bN .u64 r0)] hO rfl ?_
  refine qE 5 ?_
  refine jT 0 lo0p 1 0 (bN .u64 r0) (bN .u64 r0) [(bN .u64 r0)] hO rfl ?_
  obtain ⟨c1, h0⟩ := bC h0
  refine cQ 9 [0 ≤ (13 : Int)] ⟨c1, trivial⟩ ?_
  refine nQ 0 lo0p 1 0 (bN .u64 r0) (bN .u64 (bM .xor .u64 r0 (IntKind.u64.wrap (r0 * 2 ^ (min (Int.toNat (13 : Int)) 64))))) [(bN .u64 r0)] [(lo0p, 1, [(bN .u64 (bM .xor .u64 r0 (IntKind.u64.wrap (r0 * 2 ^ (min (Int.toNat (13 : Int)) 64)))))])] hO rfl (by kernel_rfl) ?_
  intro H hO
  refine oT (by kernel_rfl) ?_
  refine cO [] [] ?_
  refine aO ?_
  refine kB (jS []) aF 10 ?_
  refine qE 2 ?_
  refine jT 0 lo0p 1 0 (bN .u64 (bM .xor .u64 r0 (IntKind.u64.wrap (r0 * 2 ^ (min (Int.toNat (13 : Int)) 64))))) (bN .u64 (bM .xor .u64 r0 (IntKind.u64.wrap (r0 * 2 ^ (min (Int.toNat (13 : Int)) 64))))) [(bN .u64 (bM .xor .u64 r0 (IntKind.u64.wrap (r0 * 2 ^ (min (Int.toNat (13 : Int)) 64)))))] hO rfl ?_
  refine qE 5 ?_
  refine jT 0 lo0p 1 0 (bN .u64 (bM .xor .u64 r0 (IntKind.u64.wrap (r0 * 2 ^ (min (Int.toNat (13 : Int)) 64))))) (bN .u64 (bM .xor .u64 r0 (IntKind.u64.wrap (r0 * 2 ^ (min (Int.toNat (13 : Int)) 64))))) [(bN .u64 (bM .xor .u64 r0 (IntKind.u64.wrap (r0 * 2 ^ (min (Int.toNat (13 : Int)) 64)))))] hO rfl ?_
  obtain ⟨c2, h0⟩ := bC h0
  refine cQ 9 [0 ≤ (7 : Int)] ⟨c2, trivial⟩ ?_
  refine nQ 0 lo0p 1 0 (bN .u64 (bM .xor .u64 r0 (IntKind.u64.wrap (r0 * 2 ^ (min (Int.toNat (13 : Int)) 64))))) (bN .u64 (bM .xor .u64 (bM .xor .u64 r0 (IntKind.u64.wrap (r0 * 2 ^ (min (Int.toNat (13 : Int)) 64)))) (Int.fdiv (bM .xor .u64 r0 (IntKind.u64.wrap (r0 * 2 ^ (min (Int.toNat (13 : Int)) 64)))) (2 ^ (min (Int.toNat (7 : Int)) 64))))) [(bN .u64 (bM .xor .u64 r0 (IntKind.u64.wrap (r0 * 2 ^ (min (Int.toNat (13 : Int)) 64)))))] [(lo0p, 1, [(bN .u64 (bM .xor .u64 (bM .xor .u64 r0 (IntKind.u64.wrap (r0 * 2 ^ (min (Int.toNat (13 : Int)) 64)))) (Int.fdiv (bM .xor .u64 r0 (IntKind.u64.wrap (r0 * 2 ^ (min (Int.toNat (13 : Int)) 64)))) (2 ^ (min (Int.toNat (7 : Int)) 64)))))])] hO rfl (by kernel_rfl) ?_
  intro H hO
  refine oT (by kernel_rfl) ?_
  refine cO [] [] ?_
  refine aO ?_
  refine kB (jS []) aF 10 ?_
  refine qE 2 ?_
  refine jT 0 lo0p 1 0 (bN .u64 (bM .xor .u64 (bM .xor .u64 r0 (IntKind.u64.wrap (r0 * 2 ^ (min (Int.toNat (13 : Int)) 64)))) (Int.fdiv (bM .xor .u64 r0 (IntKind.u64.wrap (r0 * 2 ^ (min (Int.toNat (13 : Int)) 64)))) (2 ^ (min (Int.toNat (7 : Int)) 64))))) (bN .u64 (bM .xor .u64 (bM .xor .u64 r0 (IntKind.u64.wrap (r0 * 2 ^ (min (Int.toNat (13 : Int)) 64)))) (Int.fdiv (bM .xor .u64 r0 (IntKind.u64.wrap (r0 * 2 ^ (min (Int.toNat (13 : Int)) 64)))) (2 ^ (min (Int.toNat (7 : Int)) 64))))) [(bN .u64 (bM .xor .u64 (bM .xor .u64 r0 (IntKind.u64.wrap (r0 * 2 ^ (min (Int.toNat (13 : Int)) 64)))) (Int.fdiv (bM .xor .u64 r0 (IntKind.u64.wrap (r0 * 2 ^ (min (Int.toNat (13 : Int)) 64)))) (2 ^ (min (Int.toNat (7 : Int)) 64)))))] hO rfl ?_
  refine qE 5 ?_
  refine jT 0 lo0p 1 0 (bN .u64 (bM .xor .u64 (bM .xor .u64 r0 (IntKind.u64.wrap (r0 * 2 ^ (min (Int.toNat (13 : Int)) 64)))) (Int.fdiv (bM .xor .u64 r0 (IntKind.u64.wrap (r0 * 2 ^ (min (Int.toNat (13 : Int)) 64)))) (2 ^ (min (Int.toNat (7 : Int)) 64))))) (bN .u64 (bM .xor .u64 (bM .xor .u64 r0 (IntKind.u64.wrap (r0 * 2 ^ (min (Int.toNat (13 : Int)) 64)))) (Int.fdiv (bM .xor .u64 r0 (IntKind.u64.wrap (r0 * 2 ^ (min (Int.toNat (13 : Int)) 64)))) (2 ^ (min (Int.toNat (7 : Int)) 64))))) [(bN .u64 (bM .xor .u64 (bM .xor .u64 r0 (IntKind.u64.wrap (r0 * 2 ^ (min (Int.toNat (13 : Int)) 64)))) (Int.fdiv (bM .xor .u64 r0 (IntKind.u64.wrap (r0 * 2 ^ (min (Int.toNat (13 : Int)) 64)))) (2 ^ (min (Int.toNat (7 : Int)) 64)))))] hO rfl ?_
  obtain ⟨c3, h0⟩ := bC h0
  refine cQ 9 [0 ≤ (17 : Int)] ⟨c3, trivial⟩ ?_
  refine nQ 0 lo0p 1 0 (bN .u64 (bM .xor .u64 (bM .xor .u64 r0 (IntKind.u64.wrap (r0 * 2 ^ (min (Int.toNat (13 : Int)) 64)))) (Int.fdiv (bM .xor .u64 r0 (IntKind.u64.wrap (r0 * 2 ^ (min (Int.toNat (13 : Int)) 64)))) (2 ^ (min (Int.toNat (7 : Int)) 64))))) (bN .u64 (bM .xor .u64 (bM .xor .u64 (bM .xor .u64 r0 (IntKind.u64.wrap (r0 * 2 ^ (min (Int.toNat (13 : Int)) 64)))) (Int.fdiv (bM .xor .u64 r0 (IntKind.u64.wrap (r0 * 2 ^ (min (Int.toNat (13 : Int)) 64)))) (2 ^ (min (Int.toNat (7 : Int)) 64)))) (IntKind.u64.wrap ((bM .xor .u64 (bM .xor .u64 r0 (IntKind.u64.wrap (r0 * 2 ^ (min (Int.toNat (13 : Int)) 64)))) (Int.fdiv (bM .xor .u64 r0 (IntKind.u64.wrap (r0 * 2 ^ (min (Int.toNat (13 : Int)) 64)))) (2 ^ (min (Int.toNat (7 : Int)) 64)))) * 2 ^ (min (Int.toNat (17 : Int)) 64))))) [(bN .u64 (bM .xor .u64 (bM .xor .u64 r0 (IntKind.u64.wrap (r0 * 2 ^ (min (Int.toNat (13 : Int)) 64)))) (Int.fdiv (bM .xor .u64 r0 (IntKind.u64.wrap (r0 * 2 ^ (min (Int.toNat (13 : Int)) 64)))) (2 ^ (min (Int.toNat (7 : Int)) 64)))))] [(lo0p, 1, [(bN .u64 (bM .xor .u64 (bM .xor .u64 (bM .xor .u64 r0 (IntKind.u64.wrap (r0 * 2 ^ (min (Int.toNat (13 : Int)) 64)))) (Int.fdiv (bM .xor .u64 r0 (IntKind.u64.wrap (r0 * 2 ^ (min (Int.toNat (13 : Int)) 64)))) (2 ^ (min (Int.toNat (7 : Int)) 64)))) (IntKind.u64.wrap ((bM .xor .u64 (bM .xor .u64 r0 (IntKind.u64.wrap (r0 * 2 ^ (min (Int.toNat (13 : Int)) 64)))) (Int.fdiv (bM .xor .u64 r0 (IntKind.u64.wrap (r0 * 2 ^ (min (Int.toNat (13 : Int)) 64)))) (2 ^ (min (Int.toNat (7 : Int)) 64)))) * 2 ^ (min (Int.toNat (17 : Int)) 64)))))])] hO rfl (by kernel_rfl) ?_
  intro H hO
  refine oT (by kernel_rfl) ?_
  refine cO [] [] ?_
  refine aO ?_
  refine aU aF 4 ?_
  refine bO 2 ?_
  refine oO 0 lo0p 1 0 (bN .u64 (bM .xor .u64 (bM .xor .u64 (bM .xor .u64 r0 (IntKind.u64.wrap (r0 * 2 ^ (min (Int.toNat (13 : Int)) 64)))) (Int.fdiv (bM .xor .u64 r0 (IntKind.u64.wrap (r0 * 2 ^ (min (Int.toNat (13 : Int)) 64)))) (2 ^ (min (Int.toNat (7 : Int)) 64)))) (IntKind.u64.wrap ((bM .xor .u64 (bM .xor .u64 r0 (IntKind.u64.wrap (r0 * 2 ^ (min (Int.toNat (13 : Int)) 64)))) (Int.fdiv (bM .xor .u64 r0 (IntKind.u64.wrap (r0 * 2 ^ (min (Int.toNat (13 : Int)) 64)))) (2 ^ (min (Int.toNat (7 : Int)) 64)))) * 2 ^ (min (Int.toNat (17 : Int)) 64))))) (bN .u64 (bM .xor .u64 (bM .xor .u64 (bM .xor .u64 r0 (IntKind.u64.wrap (r0 * 2 ^ (min (Int.toNat (13 : Int)) 64)))) (Int.fdiv (bM .xor .u64 r0 (IntKind.u64.wrap (r0 * 2 ^ (min (Int.toNat (13 : Int)) 64)))) (2 ^ (min (Int.toNat (7 : Int)) 64)))) (IntKind.u64.wrap ((bM .xor .u64 (bM .xor .u64 r0 (IntKind.u64.wrap (r0 * 2 ^ (min (Int.toNat (13 : Int)) 64)))) (Int.fdiv (bM .xor .u64 r0 (IntKind.u64.wrap (r0 * 2 ^ (min (Int.toNat (13 : Int)) 64)))) (2 ^ (min (Int.toNat (7 : Int)) 64)))) * 2 ^ (min (Int.toNat (17 : Int)) 64))))) [(bN .u64 (bM .xor .u64 (bM .xor .u64 (bM .xor .u64 r0 (IntKind.u64.wrap (r0 * 2 ^ (min (Int.toNat (13 : Int)) 64)))) (Int.fdiv (bM .xor .u64 r0 (IntKind.u64.wrap (r0 * 2 ^ (min (Int.toNat (13 : Int)) 64)))) (2 ^ (min (Int.toNat (7 : Int)) 64)))) (IntKind.u64.wrap ((bM .xor .u64 (bM .xor .u64 r0 (IntKind.u64.wrap (r0 * 2 ^ (min (Int.toNat (13 : Int)) 64)))) (Int.fdiv (bM .xor .u64 r0 (IntKind.u64.wrap (r0 * 2 ^ (min (Int.toNat (13 : Int)) 64)))) (2 ^ (min (Int.toNat (7 : Int)) 64)))) * 2 ^ (min (Int.toNat (17 : Int)) 64)))))] hO rfl ?_
  refine bE ?_
  refine bB [(0, (.lp lo0p 0 0)), (2, (bN .u64 (bM .xor .u64 (bM .xor .u64 (bM .xor .u64 r0 (IntKind.u64.wrap (r0 * 2 ^ (min (Int.toNat (13 : Int)) 64)))) (Int.fdiv (bM .xor .u64 r0 (IntKind.u64.wrap (r0 * 2 ^ (min (Int.toNat (13 : Int)) 64)))) (2 ^ (min (Int.toNat (7 : Int)) 64)))) (IntKind.u64.wrap ((bM .xor .u64 (bM .xor .u64 r0 (IntKind.u64.wrap (r0 * 2 ^ (min (Int.toNat (13 : Int)) 64)))) (Int.fdiv (bM .xor .u64 r0 (IntKind.u64.wrap (r0 * 2 ^ (min (Int.toNat (13 : Int)) 64)))) (2 ^ (min (Int.toNat (7 : Int)) 64)))) * 2 ^ (min (Int.toNat (17 : Int)) 64))))))] ?_
  refine bQ ?_
  obtain rfl := oI h0
  exact aI (NA hO ⟨rfl, rfl⟩)

theorem wK (lo0p : Nat) (aA : (List aC)) (a1 : Int) (b2 : Int) (cmp3_f : Nat) (cmp3_a cmp3_c : List V) (cmp3 : aC → aC → Option Int) (cmp3_h : ∀ a0 a1 r, cmp3 a0 a1 = some r → dK Try.prog cmp3_f (cmp3_a ++ [(aB a0), (aB a1)] ++ cmp3_c) (eI r)) (r : List aC) (h0 : iK aA a1 b2 cmp3 = some r) : sA Try.prog 53 lo0p 2 (List.map aB aA) (List.map aB r) [(.msl 2 lo0p 0 (List.length aA)), (eI a1), (eI b2), (.fn (.func cmp3_f) cmp3_a cmp3_c)] (.tup []) := by
  intro H0 hl0
  refine dP Try.func53 ?_
  have hO := aN.uL hl0
  clear hl0
  obtain ⟨N0, hN0⟩ : ∃ n, n = List.length aA := ⟨_, rfl⟩
  have hN : List.length aA = N0 := hN0.symm
  unfold iK at h0
  refine aX aF 4 [2, 3] [(8, (eI (wR (b2 - a1))))] ?_
  refine aX aF 2 [] [(17, (aG (decide ((8 : Int) ≤ (wR (b2 - a1))))))] ?_
  refine bV h0 (fun h0 => ?_) (fun h0 => ?_)
  · refine aO ?_
    refine aU aF 4 ?_
    refine bO 2 ?_
    refine qY 1 (bN .u64 0) (by kernel_rfl) (by kernel_rfl) hO ?_
    intro lo2 H hO
    refine pN 1 lo2 1 0 (bN .u64 0) (bN .u64 (IntKind.u64.wrap (wR (b2 - a1)))) [(bN .u64 0)] [(lo0p, 2, List.map aB aA), (lo2, 1, [(bN .u64 (IntKind.u64.wrap (wR (b2 - a1))))])] hO rfl (by kernel_rfl) ?_
    intro H hO
    refine fC ?_
    refine cO [17] [(9, (.lp lo2 0 0))] ?_
    refine aO ?_
    refine aU aF 3 ?_
    refine bO 1 ?_
    obtain ⟨x3, hx4, h0⟩ := aY h0
    refine iI (HY (wR (b2 - a1)) _ hx4) hO ?_
    intro H hO
    refine bE ?_
    refine cO [] [(10, (bN .u64 x3))] ?_
    refine aO ?_
    refine aU aF 7 ?_
    obtain ⟨c6, h0⟩ := bC h0
    refine sV [(4 : Int) ≠ 0] ⟨c6, trivial⟩ ?_
    refine bB [(0, (.msl 2 lo0p 0 (List.length aA))), (1, (eI a1)), (8, (eI (wR (b2 - a1)))), (9, (.lp lo2 0 0)), (10, (bN .u64 x3)), (11, (eI (wR ((wR (a1 + (wR ((wR (Int.tdiv (wR (b2 - a1)) (4 : Int))) * (2 : Int))))) - (1 : Int)))))] ?_
    refine cI 0 ?_
    refine mI [(0, (.msl 2 lo0p 0 (List.length aA))), (1, (eI a1)), (8, (eI (wR (b2 - a1)))), (9, (.lp lo2 0 0)), (10, (bN .u64 x3)), (11, (eI (wR ((wR (a1 + (wR ((wR (Int.tdiv (wR (b2 - a1)) (4 : Int))) * (2 : Int))))) - (1 : Int)))))] ?_
    refine lK (fun T H => ∃ aA : List aC, ∃ iX : Int, ∃ kU : Int, ∃ eM : Int, ∃ eW : Int, Has T [(0, (.msl 2 lo0p 0 (List.length aA))), (1, (eI a1)), (8, (eI iX)), (9, (.lp lo2 0 0)), (10, (bN .u64 eM)), (11, (eI eW))] ∧ aN ⟨H0, [lo0p], []⟩ H [(lo0p, 2, List.map aB aA), (lo2, 1, [(bN .u64 kU)])] ∧ List.length aA = N0 ∧ gU cmp3 aA a1 iX kU eM eW = some r) ?_ ⟨aA, wR (b2 - a1), IntKind.u64.wrap (wR (b2 - a1)), x3, wR ((wR (a1 + (wR ((wR (Int.tdiv (wR (b2 - a1)) (4 : Int))) * (2 : Int))))) - (1 : Int)), bG, hO, hN, h0⟩
    clear hO hN h0
    rintro T H ⟨aA, iX, kU, eM, eW, hT, hO, hN, h0⟩
    refine bR hT ?_
    clear hT
    unfold gU at h0
    obtain ⟨rr0, hl0, h0⟩ := aY h0
    refine mV (fun (s : List aC × Int × Int) T H => Has T [(0, (.msl 2 lo0p 0 (List.length s.1))), (1, (eI a1)), (8, (eI iX)), (9, (.lp lo2 0 0)), (10, (bN .u64 eM)), (11, (eI s.2.2))] ∧ aN ⟨H0, [lo0p], []⟩ H [(lo0p, 2, List.map aB s.1), (lo2, 1, [(bN .u64 s.2.1)])] ∧ List.length s.1 = N0) hl0 ⟨bG, hO, hN⟩ ?_
    clear hO hN
    rintro k0 s out1 T H ⟨hT, hO, hN⟩ h1 ho0
    obtain ⟨aA, kU, eW⟩ := s
    replace h1 : hY cmp3 a1 iX eM aA kU eW = some out1 := h1
    try dsimp only at hT
    refine bR hT ?_
    clear hT
    unfold hY at h1
    refine aO ?_
    refine aO ?_
    refine aU aF 8 ?_
    obtain ⟨c7, h1⟩ := bC h1
    refine sV [(4 : Int) ≠ 0] ⟨c7, trivial⟩ ?_
    refine cO [] [(35, (aG (decide (eW ≤ (wR ((wR (a1 + (wR ((wR (Int.tdiv iX (4 : Int))) * (2 : Int))))) + (1 : Int)))))))] ?_
    refine bV h1 (fun h1 => ?_) (fun h1 => ?_)
    · refine bT ?_
      refine bB [(0, (.msl 2 lo0p 0 (List.length aA))), (1, (eI a1)), (8, (eI iX)), (9, (.lp lo2 0 0)), (10, (bN .u64 eM)), (11, (eI eW))] ?_
      refine aO ?_
      refine cI 1 ?_
      refine aO ?_
      refine aU aF 6 ?_
      obtain ⟨x9, hx10, h1⟩ := aY h1
      refine KP [(lo0p, 2, List.map aB aA)] [1, 0] (JS lo2 kU _ hx10) hO ?_
      intro r11 L12 H hP13 hO
      obtain ⟨rfl, rfl⟩ := hP13
      replace hO : aN ⟨H0, [lo0p], []⟩ H [(lo2, 1, [(bN .u64 x9.2)]), (lo0p, 2, List.map aB aA)] := hO
      refine bE ?_
      replace hO := hO.pick (L' := [(lo0p, 2, List.map aB aA), (lo2, 1, [(bN .u64 x9.2)])]) [1, 0] (by decide) (by kernel_rfl)
      refine cO [] [(12, (eI (wR (bM .and .u64 x9.1 (IntKind.u64.wrap (eM - (1 : Int)))))))] ?_
      refine lY (fun T H => ∃ aA : List aC, ∃ kU : Int, ∃ gO : Int, Has T [(0, (.msl 2 lo0p 0 (List.length aA))), (1, (eI a1)), (8, (eI iX)), (9, (.lp lo2 0 0)), (10, (bN .u64 eM)), (11, (eI eW)), (12, (eI gO))] ∧ aN ⟨H0, [lo0p], []⟩ H [(lo0p, 2, List.map aB aA), (lo2, 1, [(bN .u64 kU)])] ∧ List.length aA = N0 ∧ eX cmp3 aA a1 iX kU eM eW gO = some out1) ?_ ?_
      · clear hO hN h1
        rintro T H ⟨aA, kU, gO, hT, hO, hN, h1⟩
        refine bR hT ?_
        clear hT
        unfold eX at h1
        refine kB (jS []) aF 20 ?_
        obtain ⟨c14, h1⟩ := bC h1
        refine cQ 11 [0 ≤ (wR (a1 + gO)) ∧ (wR (a1 + gO)) < (lN aA)] ⟨c14, trivial⟩ ?_
        refine jT 0 lo0p 2 (0 + Int.toNat (wR (a1 + gO))) (aB (gD aA (wR (a1 + gO)))) (aB (gD aA (wR (a1 + gO)))) (List.map aB aA) hO (cB c14) ?_
        obtain ⟨c15, h1⟩ := bC h1
        refine cQ 15 [0 ≤ eW ∧ eW < (lN aA)] ⟨c15, trivial⟩ ?_
        refine jT 0 lo0p 2 (0 + Int.toNat eW) (aB (gD aA eW)) (aB (gD aA eW)) (List.map aB aA) hO (cB c15) ?_
        obtain ⟨c16, h1⟩ := bC h1
        refine cQ 17 [0 ≤ eW ∧ eW < (lN aA)] ⟨c16, trivial⟩ ?_
        refine nQ 0 lo0p 2 (0 + Int.toNat eW) (aB (gD aA eW)) (aB (gD aA (wR (a1 + gO)))) (List.map aB aA) [(lo0p, 2, List.map aB (List.set aA (Int.toNat eW) (gD aA (wR (a1 + gO))))), (lo2, 1, [(bN .u64 kU)])] hO (cB c16) (by simp only [List.set, lO]) ?_
        intro H hO
        replace hN : List.length (List.set aA (Int.toNat eW) (gD aA (wR (a1 + gO)))) = N0 := by simpa using hN
        obtain ⟨c17, h1⟩ := bC h1
        refine cQ 19 [0 ≤ (wR (a1 + gO)) ∧ (wR (a1 + gO)) < (lN aA)] ⟨c17, trivial⟩ ?_
        refine nQ 0 lo0p 2 (0 + Int.toNat (wR (a1 + gO))) (aB (gD (List.set aA (Int.toNat eW) (gD aA (wR (a1 + gO)))) (wR (a1 + gO)))) (aB (gD aA eW)) (List.map aB (List.set aA (Int.toNat eW) (gD aA (wR (a1 + gO))))) [(lo0p, 2, List.map aB (List.set (List.set aA (Int.toNat eW) (gD aA (wR (a1 + gO)))) (Int.toNat (wR (a1 + gO))) (gD aA eW))), (lo2, 1, [(bN .u64 kU)])] hO (qX c17 (by simp [])) (by simp only [List.set, lO]) ?_
        intro H hO
        replace hN : List.length (List.set (List.set aA (Int.toNat eW) (gD aA (wR (a1 + gO)))) (Int.toNat (wR (a1 + gO))) (gD aA eW)) = N0 := by simpa using hN
        refine oT (by kernel_rfl) ?_
        refine dX (l := [(0, (.msl 2 lo0p 0 (List.length (List.set (List.set aA (Int.toNat eW) (gD aA (wR (a1 + gO)))) (Int.toNat (wR (a1 + gO))) (gD aA eW))))), (1, (eI a1)), (8, (eI iX)), (9, (.lp lo2 0 0)), (10, (bN .u64 eM)), (11, (eI eW))]) ⟨[(0, (.msl 2 lo0p 0 (List.length aA))), (1, (eI a1)), (8, (eI iX)), (9, (.lp lo2 0 0)), (10, (bN .u64 eM)), (11, (eI eW))], by kernel_rfl, rfl, ⟨aP.eq (by simp []), aP.refl _, aP.refl _, aP.refl _, aP.refl _, aP.refl _, trivial⟩⟩ ?_
        refine aI (bD (aJ (?_)))
        refine aU aF 3 ?_
        refine bE ?_
        exact aI (aJ (⟨rfl, _, (oI h1).symm, bG, hO, hN⟩))
      refine aX aF 3 [] [(45, (aG (decide (iX ≤ (wR (bM .and .u64 x9.1 (IntKind.u64.wrap (eM - (1 : Int)))))))))] ?_
      refine bV h1 (fun h1 => ?_) (fun h1 => ?_)
      · refine aU aF 4 ?_
        refine bE ?_
        exact aI (aJ (⟨rfl, _, _, _, bG, hO, hN, h1⟩))
      refine bT ?_
      exact aI (aJ (⟨rfl, _, _, _, bG, hO, hN, h1⟩))
    refine lS 0 ?_
    replace hO := hO.pick (L' := [(lo0p, 2, List.map aB aA)]) [0] (by decide) (by kernel_rfl)
    obtain rfl := oI h1
    obtain rfl : _ = rr0 := ho0
    replace h0 : some aA = some r := h0
    obtain rfl := oI h0
    exact aI (aZ (aZ (cC (FP (x := (.tup [])) (by kernel_rfl) (aP.refl _) ⟨rfl, hO.ext, hO.at 0 (by kernel_rfl), by first | rfl | (simp only [List.length_map]; exact hN.trans hN0)⟩))))
  refine bT ?_
  obtain rfl := oI h0
  exact aI (FP (x := (.tup [])) (by kernel_rfl) (aP.refl _) ⟨rfl, hO.ext, hO.at 0 (by kernel_rfl), by first | rfl | (simp only [List.length_map]; exact hN.trans hN0)⟩)

theorem qD (lo0p : Nat) (aA : (List aC)) (a1 : Int) (b2 : Int) (lo3p : Nat) (qW : Int) (cmp4_f : Nat) (cmp4_a cmp4_c : List V) (cmp4 : aC → aC → Option Int) (cmp4_h : ∀ a0 a1 r, cmp4 a0 a1 = some r → dK Try.prog cmp4_f (cmp4_a ++ [(aB a0), (aB a1)] ++ cmp4_c) (eI r)) (r : ((Int × Int) × Int)) (h0 : fN aA a1 b2 qW cmp4 = some r) : PD Try.prog 76 [(.msl 2 lo0p 0 (List.length aA)), (eI a1), (eI b2), (.lp lo3p 0 0), (.fn (.func cmp4_f) cmp4_a cmp4_c)] [(lo0p, 2, List.map aB aA), (lo3p, 1, [(eI qW)])] (fun x L => x = .tup [(eI r.1.1), (eI r.1.2)] ∧ L = [(lo0p, 2, List.map aB aA), (lo3p, 1, [(eI r.2)])]) := by
  intro F H0 hO
  obtain ⟨Fh, Fe, Fg⟩ := F
  refine dP Try.func76 ?_
  unfold fN at h0
  refine aX aF 2 [] [] ?_
  refine aO ?_
  refine aO ?_
  refine kB (jS [21]) aF 11 ?_
  obtain ⟨c1, h0⟩ := bC h0
  refine cQ 4 [0 ≤ b2 ∧ b2 < (lN aA)] ⟨c1, trivial⟩ ?_
  refine jT 0 lo0p 2 (0 + Int.toNat b2) (aB (gD aA b2)) (aB (gD aA b2)) (List.map aB aA) hO (cB c1) ?_
  obtain ⟨c2, h0⟩ := bC h0
  refine cQ 8 [0 ≤ a1 ∧ a1 < (lN aA)] ⟨c2, trivial⟩ ?_
  refine jT 0 lo0p 2 (0 + Int.toNat a1) (aB (gD aA a1)) (aB (gD aA a1)) (List.map aB aA) hO (cB c2) ?_
  obtain ⟨x3, hx4, h0⟩ := aY h0
  refine MX (cmp4_h (gD aA b2) (gD aA a1) _ hx4) hO ?_
  intro H hO
  refine oK ?_
  refine cO [4] [(22, (aG (decide (x3 < (0 : Int)))))] ?_
  refine bV h0 (fun h0 => ?_) (fun h0 => ?_)
  · refine aO ?_
    refine aU aF 6 ?_
    refine bO 2 ?_
    refine oO 1 lo3p 1 0 (eI qW) (eI qW) [(eI qW)] hO rfl ?_
    refine bO 5 ?_
    refine pN 1 lo3p 1 0 (eI qW) (eI (wR (qW + (1 : Int)))) [(eI qW)] [(lo0p, 2, List.map aB aA), (lo3p, 1, [(eI (wR (qW + (1 : Int))))])] hO rfl (by kernel_rfl) ?_
    intro H hO
    refine fC ?_
    refine cO [22] [] ?_
    refine aX aF 4 [1, 2] [(10, (eI b2)), (11, (eI a1))] ?_
    refine bQ ?_
    obtain rfl := oI h0
    exact aI (aV (NA hO ⟨rfl, rfl⟩))
  refine bT ?_
  refine bB [(0, (.msl 2 lo0p 0 (List.length aA))), (1, (eI a1)), (2, (eI b2)), (3, (.lp lo3p 0 0))] ?_
  refine aX aF 4 [1, 2] [(10, (eI a1)), (11, (eI b2))] ?_
  refine bQ ?_
  obtain rfl := oI h0
  exact aI (NA hO ⟨rfl, rfl⟩)

theorem sU (lo0p : Nat) (aA : (List aC)) (a1 : Int) (b2 : Int) (c3 : Int) (lo4p : Nat) (AO : Int) (cmp5_f : Nat) (cmp5_a cmp5_c : List V) (cmp5 : aC → aC → Option Int) (cmp5_h : ∀ a0 a1 r, cmp5 a0 a1 = some r → dK Try.prog cmp5_f (cmp5_a ++ [(aB a0), (aB a1)] ++ cmp5_c) (eI r)) (r : (Int × Int)) (h0 : iZ aA a1 b2 c3 AO cmp5 = some r) : PD Try.prog 73 [(.msl 2 lo0p 0 (List.length aA)), (eI a1), (eI b2), (eI c3), (.lp lo4p 0 0), (.fn (.func cmp5_f) cmp5_a cmp5_c)] [(lo0p, 2, List.map aB aA), (lo4p, 1, [(eI AO)])] (fun x L => x = (eI r.1) ∧ L = [(lo0p, 2, List.map aB aA), (lo4p, 1, [(eI r.2)])]) := by
  intro F H0 hO
  obtain ⟨Fh, Fe, Fg⟩ := F
  refine dP Try.func73 ?_
  unfold iZ at h0
  refine aX aF 1 [] [] ?_
  refine aO ?_
  refine aU aF 11 ?_
  refine bO 5 ?_
  obtain ⟨x1, hx2, h0⟩ := aY h0
  refine KP [] [0, 1] (qD lo0p aA a1 b2 lo4p AO cmp5_f cmp5_a cmp5_c cmp5 cmp5_h _ hx2) hO ?_
  intro r3 L4 H hP5 hO
  obtain ⟨rfl, rfl⟩ := hP5
  replace hO : aN ⟨Fh, Fe, Fg⟩ H [(lo0p, 2, List.map aB aA), (lo4p, 1, [(eI x1.2)])] := hO
  refine bE ?_
  refine cO [1, 2] [(1, (eI x1.1.1)), (2, (eI x1.1.2))] ?_
  refine aO ?_
  refine aU aF 11 ?_
  refine bO 5 ?_
  obtain ⟨x6, hx7, h0⟩ := aY h0
  refine KP [] [0, 1] (qD lo0p aA x1.1.2 c3 lo4p x1.2 cmp5_f cmp5_a cmp5_c cmp5 cmp5_h _ hx7) hO ?_
  intro r8 L9 H hP10 hO
  obtain ⟨rfl, rfl⟩ := hP10
  replace hO : aN ⟨Fh, Fe, Fg⟩ H [(lo0p, 2, List.map aB aA), (lo4p, 1, [(eI x6.2)])] := hO
  refine bE ?_
  refine cO [2, 3] [(2, (eI x6.1.1))] ?_
  refine aO ?_
  refine aU aF 11 ?_
  refine bO 5 ?_
  obtain ⟨x11, hx12, h0⟩ := aY h0
  refine KP [] [0, 1] (qD lo0p aA x1.1.1 x6.1.1 lo4p x6.2 cmp5_f cmp5_a cmp5_c cmp5 cmp5_h _ hx12) hO ?_
  intro r13 L14 H hP15 hO
  obtain ⟨rfl, rfl⟩ := hP15
  replace hO : aN ⟨Fh, Fe, Fg⟩ H [(lo0p, 2, List.map aB aA), (lo4p, 1, [(eI x11.2)])] := hO
  refine bE ?_
  refine cO [1, 2, 5] [(2, (eI x11.1.2))] ?_
  refine cJ aF 2 [(0, (.msl 2 lo0p 0 (List.length aA))), (4, (.lp lo4p 0 0)), (12, (eI x11.1.2))] ?_
  refine bQ ?_
  obtain rfl := oI h0
  exact aI (NA hO ⟨rfl, rfl⟩)

theorem nF (lo0p : Nat) (aA : (List aC)) (a1 : Int) (lo2p : Nat) (AG : Int) (cmp3_f : Nat) (cmp3_a cmp3_c : List V) (cmp3 : aC → aC → Option Int) (cmp3_h : ∀ a0 a1 r, cmp3 a0 a1 = some r → dK Try.prog cmp3_f (cmp3_a ++ [(aB a0), (aB a1)] ++ cmp3_c) (eI r)) (r : (Int × Int)) (h0 : dL aA a1 AG cmp3 = some r) : PD Try.prog 72 [(.msl 2 lo0p 0 (List.length aA)), (eI a1), (.lp lo2p 0 0), (.fn (.func cmp3_f) cmp3_a cmp3_c)] [(lo0p, 2, List.map aB aA), (lo2p, 1, [(eI AG)])] (fun x L => x = (eI r.1) ∧ L = [(lo0p, 2, List.map aB aA), (lo2p, 1, [(eI r.2)])]) := by
  intro F H0 hO
  obtain ⟨Fh, Fe, Fg⟩ := F
  refine dP Try.func72 ?_
  unfold dL at h0
  refine aX aF 1 [] [] ?_
  refine aO ?_
  refine aU aF 10 ?_
  refine bO 8 ?_
  obtain ⟨x1, hx2, h0⟩ := aY h0
  refine KP [] [0, 1] (sU lo0p aA (wR (a1 - (1 : Int))) a1 (wR (a1 + (1 : Int))) lo2p AG cmp3_f cmp3_a cmp3_c cmp3 cmp3_h _ hx2) hO ?_
  intro r3 L4 H hP5 hO
  obtain ⟨rfl, rfl⟩ := hP5
  replace hO : aN ⟨Fh, Fe, Fg⟩ H [(lo0p, 2, List.map aB aA), (lo2p, 1, [(eI x1.2)])] := hO
  refine bE ?_
  refine cO [1, 3] [(8, (eI x1.1))] ?_
  refine bQ ?_
  obtain rfl := oI h0
  exact aI (NA hO ⟨rfl, rfl⟩)

theorem xK (lo0p : Nat) (aA : (List aC)) (a1 : Int) (b2 : Int) (cmp3_f : Nat) (cmp3_a cmp3_c : List V) (cmp3 : aC → aC → Option Int) (cmp3_h : ∀ a0 a1 r, cmp3 a0 a1 = some r → dK Try.prog cmp3_f (cmp3_a ++ [(aB a0), (aB a1)] ++ cmp3_c) (eI r)) (r : (Int × Int)) (h0 : jB aA a1 b2 cmp3 = some r) : PD Try.prog 54 [(.msl 2 lo0p 0 (List.length aA)), (eI a1), (eI b2), (.fn (.func cmp3_f) cmp3_a cmp3_c)] [(lo0p, 2, List.map aB aA)] (fun x L => x = .tup [(eI r.1), (eI r.2)] ∧ L = [(lo0p, 2, List.map aB aA)]) := by
  intro F H0 hO
  obtain ⟨Fh, Fe, Fg⟩ := F
  refine dP Try.func54 ?_
  unfold jB at h0
  refine aX aF 2 [] [] ?_
  refine aX aF 4 [2] [(10, (eI (wR (b2 - a1))))] ?_
  refine aO ?_
  refine aU aF 1 ?_
  refine qY 1 (eI 0) (by kernel_rfl) (by kernel_rfl) hO ?_
  intro lo1 H hO
  refine fC ?_
  refine cO [] [(11, (.lp lo1 0 0))] ?_
  refine aO ?_
  refine aU aF 6 ?_
  obtain ⟨c2, h0⟩ := bC h0
  refine sV [(4 : Int) ≠ 0] ⟨c2, trivial⟩ ?_
  refine cO [] [(12, (eI (wR (a1 + (wR ((wR (Int.tdiv (wR (b2 - a1)) (4 : Int))) * (1 : Int)))))))] ?_
  refine aO ?_
  refine aU aF 6 ?_
  obtain ⟨c3, h0⟩ := bC h0
  refine sV [(4 : Int) ≠ 0] ⟨c3, trivial⟩ ?_
  refine bB [(0, (.msl 2 lo0p 0 (List.length aA))), (1, (eI a1)), (3, (.fn (.func cmp3_f) cmp3_a cmp3_c)), (10, (eI (wR (b2 - a1)))), (11, (.lp lo1 0 0)), (12, (eI (wR (a1 + (wR ((wR (Int.tdiv (wR (b2 - a1)) (4 : Int))) * (1 : Int))))))), (13, (eI (wR (a1 + (wR ((wR (Int.tdiv (wR (b2 - a1)) (4 : Int))) * (2 : Int)))))))] ?_
  refine aO ?_
  refine aU aF 6 ?_
  obtain ⟨c4, h0⟩ := bC h0
  refine sV [(4 : Int) ≠ 0] ⟨c4, trivial⟩ ?_
  refine cO [1] [(14, (eI (wR (a1 + (wR ((wR (Int.tdiv (wR (b2 - a1)) (4 : Int))) * (3 : Int)))))))] ?_
  refine lY (fun T H => ∃ lV : Int, ∃ j13 : Int, Has T [(0, (.msl 2 lo0p 0 (List.length aA))), (11, (.lp lo1 0 0)), (13, (eI j13))] ∧ aN ⟨Fh, Fe, Fg⟩ H [(lo0p, 2, List.map aB aA), (lo1, 1, [(eI lV)])] ∧ fI cmp3 aA lV j13 = some r) ?_ ?_
  · clear hO h0
    rintro T H ⟨lV, j13, hT, hO, h0⟩
    refine bR hT ?_
    clear hT
    unfold fI at h0
    refine aO ?_
    refine aU aF 1 ?_
    refine oO 1 lo1 1 0 (eI lV) (eI lV) [(eI lV)] hO rfl ?_
    refine fC ?_
    replace hO := hO.pick (L' := [(lo0p, 2, List.map aB aA)]) [0] (by decide) (by kernel_rfl)
    refine cO [11] [(55, (eI lV))] ?_
    refine cI 0 ?_
    refine aX aF 2 [] [(57, (aG (decide (lV = (0 : Int)))))] ?_
    refine bV h0 (fun h0 => ?_) (fun h0 => ?_)
    · refine aX aF 3 [13, 55, 57] [(8, (eI j13)), (9, (eI (1 : Int)))] ?_
      refine bQ ?_
      obtain rfl := oI h0
      exact aI (bW (NA hO ⟨rfl, rfl⟩))
    refine aX aF 2 [55, 57] [(60, (aG (decide (lV = (12 : Int)))))] ?_
    refine bV h0 (fun h0 => ?_) (fun h0 => ?_)
    · refine aX aF 3 [13, 60] [(8, (eI j13)), (9, (eI (2 : Int)))] ?_
      refine bQ ?_
      obtain rfl := oI h0
      exact aI (bW (NA hO ⟨rfl, rfl⟩))
    refine aX aF 3 [13, 60] [(8, (eI j13)), (9, (eI (0 : Int)))] ?_
    refine bQ ?_
    obtain rfl := oI h0
    exact aI (bW (NA hO ⟨rfl, rfl⟩))
  refine aX aF 2 [] [(34, (aG (decide ((8 : Int) ≤ (wR (b2 - a1))))))] ?_
  refine bV h0 (fun h0 => ?_) (fun h0 => ?_)
  · refine lY (fun T H => ∃ lV : Int, ∃ i12 : Int, ∃ j13 : Int, ∃ k14 : Int, Has T [(0, (.msl 2 lo0p 0 (List.length aA))), (3, (.fn (.func cmp3_f) cmp3_a cmp3_c)), (11, (.lp lo1 0 0)), (12, (eI i12)), (13, (eI j13)), (14, (eI k14))] ∧ aN ⟨Fh, Fe, Fg⟩ H [(lo0p, 2, List.map aB aA), (lo1, 1, [(eI lV)])] ∧ fH cmp3 aA lV i12 j13 k14 = some r) ?_ ?_
    · clear hO h0
      rintro T H ⟨lV, i12, j13, k14, hT, hO, h0⟩
      refine bR hT ?_
      clear hT
      unfold fH at h0
      refine aU aF 7 ?_
      refine bO 5 ?_
      obtain ⟨x8, hx9, h0⟩ := aY h0
      refine KP [] [0, 1] (sU lo0p aA i12 j13 k14 lo1 lV cmp3_f cmp3_a cmp3_c cmp3 cmp3_h _ hx9) hO ?_
      intro r10 L11 H hP12 hO
      obtain ⟨rfl, rfl⟩ := hP12
      replace hO : aN ⟨Fh, Fe, Fg⟩ H [(lo0p, 2, List.map aB aA), (lo1, 1, [(eI x8.2)])] := hO
      refine bE ?_
      exact aI (aJ (⟨rfl, _, _, bG, hO, h0⟩))
    refine aX aF 2 [10, 34] [(36, (aG (decide ((50 : Int) ≤ (wR (b2 - a1))))))] ?_
    refine bV h0 (fun h0 => ?_) (fun h0 => ?_)
    · refine aO ?_
      refine aU aF 5 ?_
      refine bO 3 ?_
      obtain ⟨x14, hx15, h0⟩ := aY h0
      refine KP [] [0, 1] (nF lo0p aA (wR (a1 + (wR ((wR (Int.tdiv (wR (b2 - a1)) (4 : Int))) * (1 : Int))))) lo1 0 cmp3_f cmp3_a cmp3_c cmp3 cmp3_h _ hx15) hO ?_
      intro r16 L17 H hP18 hO
      obtain ⟨rfl, rfl⟩ := hP18
      replace hO : aN ⟨Fh, Fe, Fg⟩ H [(lo0p, 2, List.map aB aA), (lo1, 1, [(eI x14.2)])] := hO
      refine bE ?_
      refine cO [12, 36] [(12, (eI x14.1))] ?_
      refine aO ?_
      refine aU aF 5 ?_
      refine bO 3 ?_
      obtain ⟨x19, hx20, h0⟩ := aY h0
      refine KP [] [0, 1] (nF lo0p aA (wR (a1 + (wR ((wR (Int.tdiv (wR (b2 - a1)) (4 : Int))) * (2 : Int))))) lo1 x14.2 cmp3_f cmp3_a cmp3_c cmp3 cmp3_h _ hx20) hO ?_
      intro r21 L22 H hP23 hO
      obtain ⟨rfl, rfl⟩ := hP23
      replace hO : aN ⟨Fh, Fe, Fg⟩ H [(lo0p, 2, List.map aB aA), (lo1, 1, [(eI x19.2)])] := hO
      refine bE ?_
      refine bB [(0, (.msl 2 lo0p 0 (List.length aA))), (3, (.fn (.func cmp3_f) cmp3_a cmp3_c)), (11, (.lp lo1 0 0)), (12, (eI x14.1)), (13, (eI x19.1)), (14, (eI (wR (a1 + (wR ((wR (Int.tdiv (wR (b2 - a1)) (4 : Int))) * (3 : Int)))))))] ?_
      refine aU aF 5 ?_
      refine bO 3 ?_
      obtain ⟨x24, hx25, h0⟩ := aY h0
      refine KP [] [0, 1] (nF lo0p aA (wR (a1 + (wR ((wR (Int.tdiv (wR (b2 - a1)) (4 : Int))) * (3 : Int))))) lo1 x19.2 cmp3_f cmp3_a cmp3_c cmp3 cmp3_h _ hx25) hO ?_
      intro r26 L27 H hP28 hO
      obtain ⟨rfl, rfl⟩ := hP28
      replace hO : aN ⟨Fh, Fe, Fg⟩ H [(lo0p, 2, List.map aB aA), (lo1, 1, [(eI x24.2)])] := hO
      refine bE ?_
      exact aI (aJ (⟨rfl, _, _, _, _, bG, hO, h0⟩))
    refine bT ?_
    exact aI (aJ (⟨rfl, _, _, _, _, bG, hO, h0⟩))
  refine bT ?_
  exact aI (aJ (⟨rfl, _, _, bG, hO, h0⟩))

theorem wV (lo0p : Nat) (aA : (List aC)) (a1 : Int) (b2 : Int) (cmp3_f : Nat) (cmp3_a cmp3_c : List V) (cmp3 : aC → aC → Option Int) (cmp3_h : ∀ a0 a1 r, cmp3 a0 a1 = some r → dK Try.prog cmp3_f (cmp3_a ++ [(aB a0), (aB a1)] ++ cmp3_c) (eI r)) (r : List aC) (h0 : iT aA a1 b2 cmp3 = some r) : sA Try.prog 55 lo0p 2 (List.map aB aA) (List.map aB r) [(.msl 2 lo0p 0 (List.length aA)), (eI a1), (eI b2), (.fn (.func cmp3_f) cmp3_a cmp3_c)] (.tup []) := by
  intro H0 hl0
  refine dP Try.func55 ?_
  have hO := aN.uL hl0
  clear hl0
  obtain ⟨N0, hN0⟩ : ∃ n, n = List.length aA := ⟨_, rfl⟩
  have hN : List.length aA = N0 := hN0.symm
  unfold iT at h0
  refine aX aF 2 [1, 3] [(8, (eI a1))] ?_
  refine aX aF 3 [2] [(9, (eI (wR (b2 - (1 : Int)))))] ?_
  refine cI 0 ?_
  refine mI [(0, (.msl 2 lo0p 0 (List.length aA))), (8, (eI a1)), (9, (eI (wR (b2 - (1 : Int)))))] ?_
  refine lK (fun T H => ∃ aA : List aC, ∃ i8 : Int, ∃ j9 : Int, Has T [(0, (.msl 2 lo0p 0 (List.length aA))), (8, (eI i8)), (9, (eI j9))] ∧ aN ⟨H0, [lo0p], []⟩ H [(lo0p, 2, List.map aB aA)] ∧ List.length aA = N0 ∧ iJ cmp3 aA i8 j9 = some r) ?_ ⟨aA, a1, wR (b2 - (1 : Int)), bG, hO, hN, h0⟩
  clear hO hN h0
  rintro T H ⟨aA, i8, j9, hT, hO, hN, h0⟩
  refine bR hT ?_
  clear hT
  unfold iJ at h0
  obtain ⟨rr0, hl0, h0⟩ := aY h0
  refine mV (fun (s : List aC × Int × Int) T H => Has T [(0, (.msl 2 lo0p 0 (List.length s.1))), (8, (eI s.2.1)), (9, (eI s.2.2))] ∧ aN ⟨H0, [lo0p], []⟩ H [(lo0p, 2, List.map aB s.1)] ∧ List.length s.1 = N0) hl0 ⟨bG, hO, hN⟩ ?_
  clear hO hN
  rintro k0 s out1 T H ⟨hT, hO, hN⟩ h1 ho0
  obtain ⟨aA, i8, j9⟩ := s
  replace h1 : iM cmp3 aA i8 j9 = some out1 := h1
  try dsimp only at hT
  refine bR hT ?_
  clear hT
  unfold iM at h1
  refine aO ?_
  refine aX aF 3 [] [(15, (aG (decide (i8 < j9))))] ?_
  refine bV h1 (fun h1 => ?_) (fun h1 => ?_)
  · refine bT ?_
    refine bB [(0, (.msl 2 lo0p 0 (List.length aA))), (8, (eI i8)), (9, (eI j9))] ?_
    refine cI 1 ?_
    refine aO ?_
    refine kB (jS []) aF 16 ?_
    obtain ⟨c2, h1⟩ := bC h1
    refine cQ 7 [0 ≤ j9 ∧ j9 < (lN aA)] ⟨c2, trivial⟩ ?_
    refine jT 0 lo0p 2 (0 + Int.toNat j9) (aB (gD aA j9)) (aB (gD aA j9)) (List.map aB aA) hO (cB c2) ?_
    obtain ⟨c3, h1⟩ := bC h1
    refine cQ 11 [0 ≤ i8 ∧ i8 < (lN aA)] ⟨c3, trivial⟩ ?_
    refine jT 0 lo0p 2 (0 + Int.toNat i8) (aB (gD aA i8)) (aB (gD aA i8)) (List.map aB aA) hO (cB c3) ?_
    obtain ⟨c4, h1⟩ := bC h1
    refine cQ 13 [0 ≤ i8 ∧ i8 < (lN aA)] ⟨c4, trivial⟩ ?_
    refine nQ 0 lo0p 2 (0 + Int.toNat i8) (aB (gD aA i8)) (aB (gD aA j9)) (List.map aB aA) [(lo0p, 2, List.map aB (List.set aA (Int.toNat i8) (gD aA j9)))] hO (cB c4) (by simp only [List.set, lO]) ?_
    intro H hO
    replace hN : List.length (List.set aA (Int.toNat i8) (gD aA j9)) = N0 := by simpa using hN
    obtain ⟨c5, h1⟩ := bC h1
    refine cQ 15 [0 ≤ j9 ∧ j9 < (lN aA)] ⟨c5, trivial⟩ ?_
    refine nQ 0 lo0p 2 (0 + Int.toNat j9) (aB (gD (List.set aA (Int.toNat i8) (gD aA j9)) j9)) (aB (gD aA i8)) (List.map aB (List.set aA (Int.toNat i8) (gD aA j9))) [(lo0p, 2, List.map aB (List.set (List.set aA (Int.toNat i8) (gD aA j9)) (Int.toNat j9) (gD aA i8)))] hO (qX c5 (by simp [])) (by simp only [List.set, lO]) ?_
    intro H hO
    replace hN : List.length (List.set (List.set aA (Int.toNat i8) (gD aA j9)) (Int.toNat j9) (gD aA i8)) = N0 := by simpa using hN
    refine oT (by kernel_rfl) ?_
    refine dX (l := [(0, (.msl 2 lo0p 0 (List.length (List.set (List.set aA (Int.toNat i8) (gD aA j9)) (Int.toNat j9) (gD aA i8))))), (8, (eI i8)), (9, (eI j9))]) ⟨[(0, (.msl 2 lo0p 0 (List.length aA))), (8, (eI i8)), (9, (eI j9))], by kernel_rfl, rfl, ⟨aP.eq (by simp []), aP.refl _, aP.refl _, trivial⟩⟩ ?_
    refine aI (aJ (?_))
    refine aX aF 3 [8] [(8, (eI (wR (i8 + (1 : Int)))))] ?_
    refine aU aF 3 ?_
    refine bE ?_
    exact aI (bD (aJ (⟨rfl, _, (oI h1).symm, bG, hO, hN⟩)))
  refine lS 0 ?_
  obtain rfl := oI h1
  obtain rfl : _ = rr0 := ho0
  replace h0 : some aA = some r := h0
  obtain rfl := oI h0
  exact aI (aZ (aZ (cC (FP (x := (.tup [])) (by kernel_rfl) (aP.refl _) ⟨rfl, hO.ext, hO.at 0 (by kernel_rfl), by first | rfl | (simp only [List.length_map]; exact hN.trans hN0)⟩))))

theorem tU (lo0p : Nat) (aA : (List aC)) (a1 : Int) (b2 : Int) (cmp3_f : Nat) (cmp3_a cmp3_c : List V) (cmp3 : aC → aC → Option Int) (cmp3_h : ∀ a0 a1 r, cmp3 a0 a1 = some r → dK Try.prog cmp3_f (cmp3_a ++ [(aB a0), (aB a1)] ++ cmp3_c) (eI r)) (r : (Bool × List aC)) (h0 : fB aA a1 b2 cmp3 = some r) : sA Try.prog 56 lo0p 2 (List.map aB aA) (List.map aB r.2) [(.msl 2 lo0p 0 (List.length aA)), (eI a1), (eI b2), (.fn (.func cmp3_f) cmp3_a cmp3_c)] (aG r.1) := by
  intro H0 hl0
  refine dP Try.func56 ?_
  have hO := aN.uL hl0
  clear hl0
  obtain ⟨N0, hN0⟩ : ∃ n, n = List.length aA := ⟨_, rfl⟩
  have hN : List.length aA = N0 := hN0.symm
  unfold fB at h0
  refine aX aF 1 [] [] ?_
  refine aX aF 3 [] [(9, (eI (wR (a1 + (1 : Int)))))] ?_
  refine lY (fun T H => ∃ aA : List aC, Has T [(0, (.msl 2 lo0p 0 (List.length aA)))] ∧ aN ⟨H0, [lo0p], []⟩ H [(lo0p, 2, List.map aB aA)] ∧ List.length aA = N0 ∧ dH cmp3 aA = some r) ?_ ?_
  · clear hO hN h0
    rintro T H ⟨aA, hT, hO, hN, h0⟩
    refine bR hT ?_
    clear hT
    unfold dH at h0
    refine aX aF 1 [] [(8, (aG false))] ?_
    refine bQ ?_
    obtain rfl := oI h0
    exact aI (nL (x := (aG false)) (by kernel_rfl) (aP.refl _) ⟨rfl, hO.ext, hO.at 0 (by kernel_rfl), by first | rfl | (simp only [List.length_map]; exact hN.trans hN0)⟩)
  refine aX aF 1 [] [(10, (eI (0 : Int)))] ?_
  refine cI 0 ?_
  refine mI [(0, (.msl 2 lo0p 0 (List.length aA))), (1, (eI a1)), (2, (eI b2)), (3, (.fn (.func cmp3_f) cmp3_a cmp3_c)), (9, (eI (wR (a1 + (1 : Int))))), (10, (eI (0 : Int)))] ?_
  refine lK (fun T H => ∃ aA : List aC, ∃ i9 : Int, ∃ j10 : Int, Has T [(0, (.msl 2 lo0p 0 (List.length aA))), (1, (eI a1)), (2, (eI b2)), (3, (.fn (.func cmp3_f) cmp3_a cmp3_c)), (9, (eI i9)), (10, (eI j10))] ∧ aN ⟨H0, [lo0p], []⟩ H [(lo0p, 2, List.map aB aA)] ∧ List.length aA = N0 ∧ eU cmp3 aA a1 b2 i9 j10 = some r) ?_ ⟨aA, wR (a1 + (1 : Int)), (0 : Int), bG, hO, hN, h0⟩
  clear hO hN h0
  rintro T H ⟨aA, i9, j10, hT, hO, hN, h0⟩
  refine bR hT ?_
  clear hT
  unfold eU at h0
  obtain ⟨rr0, hl0, h0⟩ := aY h0
  refine mV (fun (s : List aC × Int × Int) T H => Has T [(0, (.msl 2 lo0p 0 (List.length s.1))), (1, (eI a1)), (2, (eI b2)), (3, (.fn (.func cmp3_f) cmp3_a cmp3_c)), (9, (eI s.2.1)), (10, (eI s.2.2))] ∧ aN ⟨H0, [lo0p], []⟩ H [(lo0p, 2, List.map aB s.1)] ∧ List.length s.1 = N0) hl0 ⟨bG, hO, hN⟩ ?_
  clear hO hN
  rintro k0 s out1 T H ⟨hT, hO, hN⟩ h1 ho0
  obtain ⟨aA, i9, j10⟩ := s
  replace h1 : eP cmp3 a1 b2 aA i9 j10 = some out1 := h1
  try dsimp only at hT
  refine bR hT ?_
  clear hT
  unfold eP at h1
  refine aO ?_
  refine aX aF 2 [] [(16, (aG (decide (j10 < (5 : Int)))))] ?_
  refine bV h1 (fun h1 => ?_) (fun h1 => ?_)
  · refine bT ?_
    refine bB [(0, (.msl 2 lo0p 0 (List.length aA))), (1, (eI a1)), (2, (eI b2)), (3, (.fn (.func cmp3_f) cmp3_a cmp3_c)), (9, (eI i9)), (10, (eI j10))] ?_
    refine lY (fun T H => ∃ aA : List aC, ∃ i9 : Int, Has T [(0, (.msl 2 lo0p 0 (List.length aA))), (1, (eI a1)), (2, (eI b2)), (3, (.fn (.func cmp3_f) cmp3_a cmp3_c)), (9, (eI i9)), (10, (eI j10))] ∧ aN ⟨H0, [lo0p], []⟩ H [(lo0p, 2, List.map aB aA)] ∧ List.length aA = N0 ∧ cM cmp3 aA a1 b2 i9 j10 = some out1) ?_ ?_
    · clear hO hN h1
      rintro T H ⟨aA, i9, hT, hO, hN, h1⟩
      refine bR hT ?_
      clear hT
      unfold cM at h1
      refine aU aF 3 ?_
      refine bE ?_
      exact aI (aJ (⟨rfl, _, (oI h1).symm, bG, hO, hN⟩))
    refine cI 1 ?_
    refine lY (fun T H => ∃ aA : List aC, ∃ i9 : Int, Has T [(0, (.msl 2 lo0p 0 (List.length aA))), (1, (eI a1)), (2, (eI b2)), (3, (.fn (.func cmp3_f) cmp3_a cmp3_c)), (9, (eI i9)), (10, (eI j10))] ∧ aN ⟨H0, [lo0p], []⟩ H [(lo0p, 2, List.map aB aA)] ∧ List.length aA = N0 ∧ dG cmp3 aA a1 b2 i9 j10 = some out1) ?_ ?_
    · clear hO hN h1
      rintro T H ⟨aA, i9, hT, hO, hN, h1⟩
      refine bR hT ?_
      clear hT
      unfold dG at h1
      refine aO ?_
      refine aX aF 3 [] [(41, (aG (decide (i9 = b2))))] ?_
      refine bV h1 (fun h1 => ?_) (fun h1 => ?_)
      · refine aX aF 1 [1, 2, 3, 9, 10, 41] [(8, (aG true))] ?_
        refine bQ ?_
        obtain rfl := oI h1
        obtain rfl : _ = rr0 := ho0
        replace h0 : some (true, aA) = some r := h0
        obtain rfl := oI h0
        exact aI (aV (bW (aV (aV (bW (aV (nL (x := (aG true)) (by kernel_rfl) (aP.refl _) ⟨rfl, hO.ext, hO.at 0 (by kernel_rfl), by first | rfl | (simp only [List.length_map]; exact hN.trans hN0)⟩)))))))
      refine bT ?_
      refine bB [(0, (.msl 2 lo0p 0 (List.length aA))), (1, (eI a1)), (2, (eI b2)), (3, (.fn (.func cmp3_f) cmp3_a cmp3_c)), (9, (eI i9)), (10, (eI j10))] ?_
      refine aO ?_
      refine aX aF 4 [] [(45, (aG (decide ((wR (b2 - a1)) < (50 : Int)))))] ?_
      refine bV h1 (fun h1 => ?_) (fun h1 => ?_)
      · refine aX aF 1 [1, 2, 3, 9, 10, 45] [(8, (aG false))] ?_
        refine bQ ?_
        obtain rfl := oI h1
        obtain rfl : _ = rr0 := ho0
        replace h0 : some (false, aA) = some r := h0
        obtain rfl := oI h0
        exact aI (aV (bW (aV (aV (bW (aV (nL (x := (aG false)) (by kernel_rfl) (aP.refl _) ⟨rfl, hO.ext, hO.at 0 (by kernel_rfl), by first | rfl | (simp only [List.length_map]; exact hN.trans hN0)⟩)))))))
      refine bT ?_
      refine bB [(0, (.msl 2 lo0p 0 (List.length aA))), (1, (eI a1)), (2, (eI b2)), (3, (.fn (.func cmp3_f) cmp3_a cmp3_c)), (9, (eI i9)), (10, (eI j10))] ?_
      refine aO ?_
      refine kB (jS []) aF 18 ?_
      obtain ⟨c4, h1⟩ := bC h1
      refine cQ 9 [0 ≤ (wR (i9 - (1 : Int))) ∧ (wR (i9 - (1 : Int))) < (lN aA)] ⟨c4, trivial⟩ ?_
      refine jT 0 lo0p 2 (0 + Int.toNat (wR (i9 - (1 : Int)))) (aB (gD aA (wR (i9 - (1 : Int))))) (aB (gD aA (wR (i9 - (1 : Int))))) (List.map aB aA) hO (cB c4) ?_
      obtain ⟨c5, h1⟩ := bC h1
      refine cQ 13 [0 ≤ i9 ∧ i9 < (lN aA)] ⟨c5, trivial⟩ ?_
      refine jT 0 lo0p 2 (0 + Int.toNat i9) (aB (gD aA i9)) (aB (gD aA i9)) (List.map aB aA) hO (cB c5) ?_
      obtain ⟨c6, h1⟩ := bC h1
      refine cQ 15 [0 ≤ i9 ∧ i9 < (lN aA)] ⟨c6, trivial⟩ ?_
      refine nQ 0 lo0p 2 (0 + Int.toNat i9) (aB (gD aA i9)) (aB (gD aA (wR (i9 - (1 : Int))))) (List.map aB aA) [(lo0p, 2, List.map aB (List.set aA (Int.toNat i9) (gD aA (wR (i9 - (1 : Int))))))] hO (cB c6) (by simp only [List.set, lO]) ?_
      intro H hO
      replace hN : List.length (List.set aA (Int.toNat i9) (gD aA (wR (i9 - (1 : Int))))) = N0 := by simpa using hN
      obtain ⟨c7, h1⟩ := bC h1
      refine cQ 17 [0 ≤ (wR (i9 - (1 : Int))) ∧ (wR (i9 - (1 : Int))) < (lN aA)] ⟨c7, trivial⟩ ?_
      refine nQ 0 lo0p 2 (0 + Int.toNat (wR (i9 - (1 : Int)))) (aB (gD (List.set aA (Int.toNat i9) (gD aA (wR (i9 - (1 : Int))))) (wR (i9 - (1 : Int))))) (aB (gD aA i9)) (List.map aB (List.set aA (Int.toNat i9) (gD aA (wR (i9 - (1 : Int)))))) [(lo0p, 2, List.map aB (List.set (List.set aA (Int.toNat i9) (gD aA (wR (i9 - (1 : Int))))) (Int.toNat (wR (i9 - (1 : Int)))) (gD aA i9)))] hO (qX c7 (by simp [])) (by simp only [List.set, lO]) ?_
      intro H hO
      replace hN : List.length (List.set (List.set aA (Int.toNat i9) (gD aA (wR (i9 - (1 : Int))))) (Int.toNat (wR (i9 - (1 : Int)))) (gD aA i9)) = N0 := by simpa using hN
      refine oT (by kernel_rfl) ?_
      refine dX (l := [(0, (.msl 2 lo0p 0 (List.length (List.set (List.set aA (Int.toNat i9) (gD aA (wR (i9 - (1 : Int))))) (Int.toNat (wR (i9 - (1 : Int)))) (gD aA i9))))), (1, (eI a1)), (2, (eI b2)), (3, (.fn (.func cmp3_f) cmp3_a cmp3_c)), (9, (eI i9)), (10, (eI j10))]) ⟨[(0, (.msl 2 lo0p 0 (List.length aA))), (1, (eI a1)), (2, (eI b2)), (3, (.fn (.func cmp3_f) cmp3_a cmp3_c)), (9, (eI i9)), (10, (eI j10))], by kernel_rfl, rfl, ⟨aP.eq (by simp []), aP.refl _, aP.refl _, aP.refl _, aP.refl _, aP.refl _, trivial⟩⟩ ?_
      refine aI (aJ (?_))
      refine lY (fun T H => ∃ aA : List aC, Has T [(0, (.msl 2 lo0p 0 (List.length aA))), (1, (eI a1)), (2, (eI b2)), (3, (.fn (.func cmp3_f) cmp3_a cmp3_c)), (9, (eI i9)), (10, (eI j10))] ∧ aN ⟨H0, [lo0p], []⟩ H [(lo0p, 2, List.map aB aA)] ∧ List.length aA = N0 ∧ cL cmp3 aA a1 b2 i9 j10 = some out1) ?_ ?_
      · clear hO hN h1
        rintro T H ⟨aA, hT, hO, hN, h1⟩
        refine bR hT ?_
        clear hT
        unfold cL at h1
        refine aX aF 4 [] [(104, (aG (decide ((2 : Int) ≤ (wR (b2 - i9))))))] ?_
        refine bV h1 (fun h1 => ?_) (fun h1 => ?_)
        · refine aX aF 3 [104] [(12, (eI (wR (i9 + (1 : Int)))))] ?_
          refine cI 6 ?_
          refine mI [(0, (.msl 2 lo0p 0 (List.length aA))), (1, (eI a1)), (2, (eI b2)), (3, (.fn (.func cmp3_f) cmp3_a cmp3_c)), (9, (eI i9)), (10, (eI j10)), (12, (eI (wR (i9 + (1 : Int)))))] ?_
          refine lK (fun T H => ∃ aA : List aC, ∃ j12 : Int, Has T [(0, (.msl 2 lo0p 0 (List.length aA))), (1, (eI a1)), (2, (eI b2)), (3, (.fn (.func cmp3_f) cmp3_a cmp3_c)), (9, (eI i9)), (10, (eI j10)), (12, (eI j12))] ∧ aN ⟨H0, [lo0p], []⟩ H [(lo0p, 2, List.map aB aA)] ∧ List.length aA = N0 ∧ eN cmp3 aA a1 b2 i9 j10 j12 = some out1) ?_ ⟨aA, wR (i9 + (1 : Int)), bG, hO, hN, h1⟩
          clear hO hN h1
          rintro T H ⟨aA, j12, hT, hO, hN, h1⟩
          refine bR hT ?_
          clear hT
          unfold eN at h1
          obtain ⟨rr1, hl1, h1⟩ := aY h1
          refine mV (fun (s : List aC × Int) T H => Has T [(0, (.msl 2 lo0p 0 (List.length s.1))), (1, (eI a1)), (2, (eI b2)), (3, (.fn (.func cmp3_f) cmp3_a cmp3_c)), (9, (eI i9)), (10, (eI j10)), (12, (eI s.2))] ∧ aN ⟨H0, [lo0p], []⟩ H [(lo0p, 2, List.map aB s.1)] ∧ List.length s.1 = N0) hl1 ⟨bG, hO, hN⟩ ?_
          clear hO hN
          rintro k1 s out2 T H ⟨hT, hO, hN⟩ h2 ho1
          obtain ⟨aA, j12⟩ := s
          replace h2 : eO cmp3 a1 b2 i9 j10 aA j12 = some out2 := h2
          try dsimp only at hT
          refine bR hT ?_
          clear hT
          unfold eO at h2
          refine aO ?_
          refine aX aF 3 [] [(109, (aG (decide (j12 < b2))))] ?_
          refine bV h2 (fun h2 => ?_) (fun h2 => ?_)
          · refine bT ?_
            refine bB [(0, (.msl 2 lo0p 0 (List.length aA))), (1, (eI a1)), (2, (eI b2)), (3, (.fn (.func cmp3_f) cmp3_a cmp3_c)), (9, (eI i9)), (10, (eI j10)), (12, (eI j12))] ?_
            refine aO ?_
            refine cI 7 ?_
            refine aO ?_
            refine aO ?_
            refine kB (jS [122]) aF 13 ?_
            obtain ⟨c10, h2⟩ := bC h2
            refine cQ 4 [0 ≤ j12 ∧ j12 < (lN aA)] ⟨c10, trivial⟩ ?_
            refine jT 0 lo0p 2 (0 + Int.toNat j12) (aB (gD aA j12)) (aB (gD aA j12)) (List.map aB aA) hO (cB c10) ?_
            obtain ⟨c11, h2⟩ := bC h2
            refine cQ 9 [0 ≤ (wR (j12 - (1 : Int))) ∧ (wR (j12 - (1 : Int))) < (lN aA)] ⟨c11, trivial⟩ ?_
            refine jT 0 lo0p 2 (0 + Int.toNat (wR (j12 - (1 : Int)))) (aB (gD aA (wR (j12 - (1 : Int))))) (aB (gD aA (wR (j12 - (1 : Int))))) (List.map aB aA) hO (cB c11) ?_
            obtain ⟨x12, hx13, h2⟩ := aY h2
            refine MX (cmp3_h (gD aA j12) (gD aA (wR (j12 - (1 : Int)))) _ hx13) hO ?_
            intro H hO
            refine oK ?_
            refine cO [] [(124, (aG (!(decide (x12 < (0 : Int))))))] ?_
            refine bV h2 (fun h2 => ?_) (fun h2 => ?_)
            · refine lS 6 ?_
              obtain rfl := oI h2
              obtain rfl : _ = rr1 := ho1
              replace h1 : cM cmp3 aA a1 b2 i9 j10 = some out1 := h1
              exact aI (aZ (AE (by kernel_rfl) (aZ (aZ (cC (bD (aJ (⟨rfl, _, _, bG, hO, hN, h1⟩))))))))
            refine bT ?_
            refine bB [(0, (.msl 2 lo0p 0 (List.length aA))), (1, (eI a1)), (2, (eI b2)), (3, (.fn (.func cmp3_f) cmp3_a cmp3_c)), (9, (eI i9)), (10, (eI j10)), (12, (eI j12))] ?_
            refine kB (jS []) aF 18 ?_
            obtain ⟨c16, h2⟩ := bC h2
            refine cQ 9 [0 ≤ (wR (j12 - (1 : Int))) ∧ (wR (j12 - (1 : Int))) < (lN aA)] ⟨c16, trivial⟩ ?_
            refine jT 0 lo0p 2 (0 + Int.toNat (wR (j12 - (1 : Int)))) (aB (gD aA (wR (j12 - (1 : Int))))) (aB (gD aA (wR (j12 - (1 : Int))))) (List.map aB aA) hO (cB c16) ?_
            obtain ⟨c17, h2⟩ := bC h2
            refine cQ 13 [0 ≤ j12 ∧ j12 < (lN aA)] ⟨c17, trivial⟩ ?_
            refine jT 0 lo0p 2 (0 + Int.toNat j12) (aB (gD aA j12)) (aB (gD aA j12)) (List.map aB aA) hO (cB c17) ?_
            obtain ⟨c18, h2⟩ := bC h2
            refine cQ 15 [0 ≤ j12 ∧ j12 < (lN aA)] ⟨c18, trivial⟩ ?_
            refine nQ 0 lo0p 2 (0 + Int.toNat j12) (aB (gD aA j12)) (aB (gD aA (wR (j12 - (1 : Int))))) (List.map aB aA) [(lo0p, 2, List.map aB (List.set aA (Int.toNat j12) (gD aA (wR (j12 - (1 : Int))))))] hO (cB c18) (by simp only [List.set, lO]) ?_
            intro H hO
            replace hN : List.length (List.set aA (Int.toNat j12) (gD aA (wR (j12 - (1 : Int))))) = N0 := by simpa using hN
            obtain ⟨c19, h2⟩ := bC h2
            refine cQ 17 [0 ≤ (wR (j12 - (1 : Int))) ∧ (wR (j12 - (1 : Int))) < (lN aA)] ⟨c19, trivial⟩ ?_
            refine nQ 0 lo0p 2 (0 + Int.toNat (wR (j12 - (1 : Int)))) (aB (gD (List.set aA (Int.toNat j12) (gD aA (wR (j12 - (1 : Int))))) (wR (j12 - (1 : Int))))) (aB (gD aA j12)) (List.map aB (List.set aA (Int.toNat j12) (gD aA (wR (j12 - (1 : Int)))))) [(lo0p, 2, List.map aB (List.set (List.set aA (Int.toNat j12) (gD aA (wR (j12 - (1 : Int))))) (Int.toNat (wR (j12 - (1 : Int)))) (gD aA j12)))] hO (qX c19 (by simp [])) (by simp only [List.set, lO]) ?_
            intro H hO
            replace hN : List.length (List.set (List.set aA (Int.toNat j12) (gD aA (wR (j12 - (1 : Int))))) (Int.toNat (wR (j12 - (1 : Int)))) (gD aA j12)) = N0 := by simpa using hN
            refine oT (by kernel_rfl) ?_
            refine dX (l := [(0, (.msl 2 lo0p 0 (List.length (List.set (List.set aA (Int.toNat j12) (gD aA (wR (j12 - (1 : Int))))) (Int.toNat (wR (j12 - (1 : Int)))) (gD aA j12))))), (1, (eI a1)), (2, (eI b2)), (3, (.fn (.func cmp3_f) cmp3_a cmp3_c)), (9, (eI i9)), (10, (eI j10)), (12, (eI j12))]) ⟨[(0, (.msl 2 lo0p 0 (List.length aA))), (1, (eI a1)), (2, (eI b2)), (3, (.fn (.func cmp3_f) cmp3_a cmp3_c)), (9, (eI i9)), (10, (eI j10)), (12, (eI j12))], by kernel_rfl, rfl, ⟨aP.eq (by simp []), aP.refl _, aP.refl _, aP.refl _, aP.refl _, aP.refl _, aP.refl _, trivial⟩⟩ ?_
            refine aI (bD (aJ (?_)))
            refine aU aF 3 ?_
            refine bE ?_
            exact aI (aJ (⟨rfl, _, (oI h2).symm, bG, hO, hN⟩))
          refine lS 6 ?_
          obtain rfl := oI h2
          obtain rfl : _ = rr1 := ho1
          replace h1 : cM cmp3 aA a1 b2 i9 j10 = some out1 := h1
          exact aI (aZ (aZ (cC (bD (aJ (⟨rfl, _, _, bG, hO, hN, h1⟩))))))
        refine bT ?_
        exact aI (bD (aJ (⟨rfl, _, _, bG, hO, hN, h1⟩)))
      refine aX aF 4 [] [(65, (aG (decide ((2 : Int) ≤ (wR (i9 - a1))))))] ?_
      refine bV h1 (fun h1 => ?_) (fun h1 => ?_)
      · refine aX aF 3 [65] [(11, (eI (wR (i9 - (1 : Int)))))] ?_
        refine cI 4 ?_
        refine mI [(0, (.msl 2 lo0p 0 (List.length (List.set (List.set aA (Int.toNat i9) (gD aA (wR (i9 - (1 : Int))))) (Int.toNat (wR (i9 - (1 : Int)))) (gD aA i9))))), (1, (eI a1)), (2, (eI b2)), (3, (.fn (.func cmp3_f) cmp3_a cmp3_c)), (9, (eI i9)), (10, (eI j10)), (11, (eI (wR (i9 - (1 : Int)))))] ?_
        refine lK (fun T H => ∃ aA : List aC, ∃ j11 : Int, Has T [(0, (.msl 2 lo0p 0 (List.length aA))), (1, (eI a1)), (2, (eI b2)), (3, (.fn (.func cmp3_f) cmp3_a cmp3_c)), (9, (eI i9)), (10, (eI j10)), (11, (eI j11))] ∧ aN ⟨H0, [lo0p], []⟩ H [(lo0p, 2, List.map aB aA)] ∧ List.length aA = N0 ∧ eR cmp3 aA a1 b2 i9 j10 j11 = some out1) ?_ ⟨List.set (List.set aA (Int.toNat i9) (gD aA (wR (i9 - (1 : Int))))) (Int.toNat (wR (i9 - (1 : Int)))) (gD aA i9), wR (i9 - (1 : Int)), bG, hO, hN, h1⟩
        clear hO hN h1
        rintro T H ⟨aA, j11, hT, hO, hN, h1⟩
        refine bR hT ?_
        clear hT
        unfold eR at h1
        obtain ⟨rr1, hl1, h1⟩ := aY h1
        refine mV (fun (s : List aC × Int) T H => Has T [(0, (.msl 2 lo0p 0 (List.length s.1))), (1, (eI a1)), (2, (eI b2)), (3, (.fn (.func cmp3_f) cmp3_a cmp3_c)), (9, (eI i9)), (10, (eI j10)), (11, (eI s.2))] ∧ aN ⟨H0, [lo0p], []⟩ H [(lo0p, 2, List.map aB s.1)] ∧ List.length s.1 = N0) hl1 ⟨bG, hO, hN⟩ ?_
        clear hO hN
        rintro k1 s out2 T H ⟨hT, hO, hN⟩ h2 ho1
        obtain ⟨aA, j11⟩ := s
        replace h2 : eT cmp3 a1 b2 i9 j10 aA j11 = some out2 := h2
        try dsimp only at hT
        refine bR hT ?_
        clear hT
        unfold eT at h2
        refine aO ?_
        refine aX aF 2 [] [(69, (aG (decide ((1 : Int) ≤ j11))))] ?_
        refine bV h2 (fun h2 => ?_) (fun h2 => ?_)
        · refine bT ?_
          refine bB [(0, (.msl 2 lo0p 0 (List.length aA))), (1, (eI a1)), (2, (eI b2)), (3, (.fn (.func cmp3_f) cmp3_a cmp3_c)), (9, (eI i9)), (10, (eI j10)), (11, (eI j11))] ?_
          refine aO ?_
          refine cI 5 ?_
          refine aO ?_
          refine aO ?_
          refine kB (jS [82]) aF 13 ?_
          obtain ⟨c22, h2⟩ := bC h2
          refine cQ 4 [0 ≤ j11 ∧ j11 < (lN aA)] ⟨c22, trivial⟩ ?_
          refine jT 0 lo0p 2 (0 + Int.toNat j11) (aB (gD aA j11)) (aB (gD aA j11)) (List.map aB aA) hO (cB c22) ?_
          obtain ⟨c23, h2⟩ := bC h2
          refine cQ 9 [0 ≤ (wR (j11 - (1 : Int))) ∧ (wR (j11 - (1 : Int))) < (lN aA)] ⟨c23, trivial⟩ ?_
          refine jT 0 lo0p 2 (0 + Int.toNat (wR (j11 - (1 : Int)))) (aB (gD aA (wR (j11 - (1 : Int))))) (aB (gD aA (wR (j11 - (1 : Int))))) (List.map aB aA) hO (cB c23) ?_
          obtain ⟨x24, hx25, h2⟩ := aY h2
          refine MX (cmp3_h (gD aA j11) (gD aA (wR (j11 - (1 : Int)))) _ hx25) hO ?_
          intro H hO
          refine oK ?_
          refine cO [] [(84, (aG (!(decide (x24 < (0 : Int))))))] ?_
          refine bV h2 (fun h2 => ?_) (fun h2 => ?_)
          · refine lS 4 ?_
            obtain rfl := oI h2
            obtain rfl : _ = rr1 := ho1
            replace h1 : cL cmp3 aA a1 b2 i9 j10 = some out1 := h1
            exact aI (aZ (AE (by kernel_rfl) (aZ (aZ (cC (aJ (⟨rfl, _, bG, hO, hN, h1⟩)))))))
          refine bT ?_
          refine bB [(0, (.msl 2 lo0p 0 (List.length aA))), (1, (eI a1)), (2, (eI b2)), (3, (.fn (.func cmp3_f) cmp3_a cmp3_c)), (9, (eI i9)), (10, (eI j10)), (11, (eI j11))] ?_
          refine kB (jS []) aF 18 ?_
          obtain ⟨c28, h2⟩ := bC h2
          refine cQ 9 [0 ≤ (wR (j11 - (1 : Int))) ∧ (wR (j11 - (1 : Int))) < (lN aA)] ⟨c28, trivial⟩ ?_
          refine jT 0 lo0p 2 (0 + Int.toNat (wR (j11 - (1 : Int)))) (aB (gD aA (wR (j11 - (1 : Int))))) (aB (gD aA (wR (j11 - (1 : Int))))) (List.map aB aA) hO (cB c28) ?_
          obtain ⟨c29, h2⟩ := bC h2
          refine cQ 13 [0 ≤ j11 ∧ j11 < (lN aA)] ⟨c29, trivial⟩ ?_
          refine jT 0 lo0p 2 (0 + Int.toNat j11) (aB (gD aA j11)) (aB (gD aA j11)) (List.map aB aA) hO (cB c29) ?_
          obtain ⟨c30, h2⟩ := bC h2
          refine cQ 15 [0 ≤ j11 ∧ j11 < (lN aA)] ⟨c30, trivial⟩ ?_
          refine nQ 0 lo0p 2 (0 + Int.toNat j11) (aB (gD aA j11)) (aB (gD aA (wR (j11 - (1 : Int))))) (List.map aB aA) [(lo0p, 2, List.map aB (List.set aA (Int.toNat j11) (gD aA (wR (j11 - (1 : Int))))))] hO (cB c30) (by simp only [List.set, lO]) ?_
          intro H hO
          replace hN : List.length (List.set aA (Int.toNat j11) (gD aA (wR (j11 - (1 : Int))))) = N0 := by simpa using hN
          obtain ⟨c31, h2⟩ := bC h2
          refine cQ 17 [0 ≤ (wR (j11 - (1 : Int))) ∧ (wR (j11 - (1 : Int))) < (lN aA)] ⟨c31, trivial⟩ ?_
          refine nQ 0 lo0p 2 (0 + Int.toNat (wR (j11 - (1 : Int)))) (aB (gD (List.set aA (Int.toNat j11) (gD aA (wR (j11 - (1 : Int))))) (wR (j11 - (1 : Int))))) (aB (gD aA j11)) (List.map aB (List.set aA (Int.toNat j11) (gD aA (wR (j11 - (1 : Int)))))) [(lo0p, 2, List.map aB (List.set (List.set aA (Int.toNat j11) (gD aA (wR (j11 - (1 : Int))))) (Int.toNat (wR (j11 - (1 : Int)))) (gD aA j11)))] hO (qX c31 (by simp [])) (by simp only [List.set, lO]) ?_
          intro H hO
          replace hN : List.length (List.set (List.set aA (Int.toNat j11) (gD aA (wR (j11 - (1 : Int))))) (Int.toNat (wR (j11 - (1 : Int)))) (gD aA j11)) = N0 := by simpa using hN
          refine oT (by kernel_rfl) ?_
          refine dX (l := [(0, (.msl 2 lo0p 0 (List.length (List.set (List.set aA (Int.toNat j11) (gD aA (wR (j11 - (1 : Int))))) (Int.toNat (wR (j11 - (1 : Int)))) (gD aA j11))))), (1, (eI a1)), (2, (eI b2)), (3, (.fn (.func cmp3_f) cmp3_a cmp3_c)), (9, (eI i9)), (10, (eI j10)), (11, (eI j11))]) ⟨[(0, (.msl 2 lo0p 0 (List.length aA))), (1, (eI a1)), (2, (eI b2)), (3, (.fn (.func cmp3_f) cmp3_a cmp3_c)), (9, (eI i9)), (10, (eI j10)), (11, (eI j11))], by kernel_rfl, rfl, ⟨aP.eq (by simp []), aP.refl _, aP.refl _, aP.refl _, aP.refl _, aP.refl _, aP.refl _, trivial⟩⟩ ?_
          refine aI (bD (aJ (?_)))
          refine aU aF 3 ?_
          refine bE ?_
          exact aI (aJ (⟨rfl, _, (oI h2).symm, bG, hO, hN⟩))
        refine lS 4 ?_
        obtain rfl := oI h2
        obtain rfl : _ = rr1 := ho1
        replace h1 : cL cmp3 aA a1 b2 i9 j10 = some out1 := h1
        exact aI (aZ (aZ (cC (aJ (⟨rfl, _, bG, hO, hN, h1⟩)))))
      refine bT ?_
      exact aI (aJ (⟨rfl, _, bG, hO, hN, h1⟩))
    refine cI 2 ?_
    refine mI [(0, (.msl 2 lo0p 0 (List.length aA))), (1, (eI a1)), (2, (eI b2)), (3, (.fn (.func cmp3_f) cmp3_a cmp3_c)), (9, (eI i9)), (10, (eI j10))] ?_
    refine lK (fun T H => ∃ aA : List aC, ∃ i9 : Int, Has T [(0, (.msl 2 lo0p 0 (List.length aA))), (1, (eI a1)), (2, (eI b2)), (3, (.fn (.func cmp3_f) cmp3_a cmp3_c)), (9, (eI i9)), (10, (eI j10))] ∧ aN ⟨H0, [lo0p], []⟩ H [(lo0p, 2, List.map aB aA)] ∧ List.length aA = N0 ∧ eV cmp3 aA a1 b2 i9 j10 = some out1) ?_ ⟨aA, i9, bG, hO, hN, h1⟩
    clear hO hN h1
    rintro T H ⟨aA, i9, hT, hO, hN, h1⟩
    refine bR hT ?_
    clear hT
    unfold eV at h1
    obtain ⟨rr1, hl1, h1⟩ := aY h1
    refine mV (fun (s : List aC × Int) T H => Has T [(0, (.msl 2 lo0p 0 (List.length s.1))), (1, (eI a1)), (2, (eI b2)), (3, (.fn (.func cmp3_f) cmp3_a cmp3_c)), (9, (eI s.2)), (10, (eI j10))] ∧ aN ⟨H0, [lo0p], []⟩ H [(lo0p, 2, List.map aB s.1)] ∧ List.length s.1 = N0) hl1 ⟨bG, hO, hN⟩ ?_
    clear hO hN
    rintro k1 s out2 T H ⟨hT, hO, hN⟩ h2 ho1
    obtain ⟨aA, i9⟩ := s
    replace h2 : eS cmp3 a1 b2 j10 aA i9 = some out2 := h2
    try dsimp only at hT
    refine bR hT ?_
    clear hT
    unfold eS at h2
    refine aO ?_
    refine aO ?_
    obtain ⟨c32, h2⟩ := bC h2
    obtain ⟨c33, h2⟩ := bC h2
    obtain ⟨x34, hx35, h2⟩ := aY h2
    refine kB (jS []) aF 18 ?_
    refine tK (K := fun T H => Has (lift T) [(0, (.msl 2 lo0p 0 (List.length aA))), (1, (eI a1)), (2, (eI b2)), (3, (.fn (.func cmp3_f) cmp3_a cmp3_c)), (9, (eI i9)), (10, (eI j10)), (36, (aG ((decide (i9 < b2)) && (!(decide (x34 < (0 : Int)))))))] ∧ aN ⟨H0, [lo0p], []⟩ H [(lo0p, 2, List.map aB aA)]) ?_ ?_
    · refine qE 4 ?_
      refine tC (t := 22) (e := decide (i9 < b2)) (by kernel_rfl) (fun hg36 => ?_) (fun hg36 => ?_)
      · refine cQ 8 [0 ≤ i9 ∧ i9 < (lN aA)] ⟨(c32 hg36), trivial⟩ ?_
        refine uR 0 lo0p 2 (0 + Int.toNat i9) (aB (gD aA i9)) (aB (gD aA i9)) (List.map aB aA) hO (cB (c32 hg36)) ?_
        refine cQ 13 [0 ≤ (wR (i9 - (1 : Int))) ∧ (wR (i9 - (1 : Int))) < (lN aA)] ⟨(c33 hg36), trivial⟩ ?_
        refine uR 0 lo0p 2 (0 + Int.toNat (wR (i9 - (1 : Int)))) (aB (gD aA (wR (i9 - (1 : Int))))) (aB (gD aA (wR (i9 - (1 : Int))))) (List.map aB aA) hO (cB (c33 hg36)) ?_
        refine uN cmp3_f (cmp3_a ++ [(aB (gD aA i9)), (aB (gD aA (wR (i9 - (1 : Int)))))] ++ cmp3_c) (eI x34) (by kernel_rfl) (by kernel_rfl) (cmp3_h (gD aA i9) (gD aA (wR (i9 - (1 : Int)))) _ (pS hx35 hg36)) hO ?_
        intro H hO
        refine oK ?_
        exact ⟨⟨[(0, (.msl 2 lo0p 0 (List.length aA))), (1, (eI a1)), (2, (eI b2)), (3, (.fn (.func cmp3_f) cmp3_a cmp3_c)), (9, (eI i9)), (10, (eI j10)), (36, (aG (!(decide (x34 < (0 : Int))))))], by kernel_rfl, rfl, ⟨aP.refl _, aP.refl _, aP.refl _, aP.refl _, aP.refl _, aP.refl _, aP.eq (congrArg aG (rH hg36 rfl).symm), trivial⟩⟩, hO⟩
      refine oK ?_
      exact ⟨⟨[(0, (.msl 2 lo0p 0 (List.length aA))), (1, (eI a1)), (2, (eI b2)), (3, (.fn (.func cmp3_f) cmp3_a cmp3_c)), (9, (eI i9)), (10, (eI j10)), (36, (aG false))], by kernel_rfl, rfl, ⟨aP.refl _, aP.refl _, aP.refl _, aP.refl _, aP.refl _, aP.refl _, aP.eq (congrArg aG (rH hg36 rfl).symm), trivial⟩⟩, hO⟩
    · rintro T H ⟨hT, hO⟩
      refine dX hT ?_
      clear hT
      refine aI (aJ ?_)
      refine bV h2 (fun h2 => ?_) (fun h2 => ?_)
      · refine bT ?_
        refine bB [(0, (.msl 2 lo0p 0 (List.length aA))), (1, (eI a1)), (2, (eI b2)), (3, (.fn (.func cmp3_f) cmp3_a cmp3_c)), (9, (eI i9)), (10, (eI j10))] ?_
        refine cI 3 ?_
        refine aU aF 3 ?_
        refine bE ?_
        exact aI (bD (aJ (⟨rfl, _, (oI h2).symm, bG, hO, hN⟩)))
      refine lS 2 ?_
      obtain rfl := oI h2
      obtain rfl : _ = rr1 := ho1
      replace h1 : dG cmp3 aA a1 b2 i9 j10 = some out1 := h1
      exact aI (aZ (aZ (cC (aJ (⟨rfl, _, _, bG, hO, hN, h1⟩)))))
  refine lS 0 ?_
  obtain rfl := oI h1
  obtain rfl : _ = rr0 := ho0
  replace h0 : dH cmp3 aA = some r := h0
  exact aI (aZ (aZ (cC (aJ (⟨rfl, _, bG, hO, hN, h0⟩)))))

theorem vU (lo0p : Nat) (aA : (List aC)) (a1 : Int) (b2 : Int) (bX : Int) (cmp4_f : Nat) (cmp4_a cmp4_c : List V) (cmp4 : aC → aC → Option Int) (cmp4_h : ∀ a0 a1 r, cmp4 a0 a1 = some r → dK Try.prog cmp4_f (cmp4_a ++ [(aB a0), (aB a1)] ++ cmp4_c) (eI r)) (r : (Int × List aC)) (h0 : gW aA a1 b2 bX cmp4 = some r) : sA Try.prog 57 lo0p 2 (List.map aB aA) (List.map aB r.2) [(.msl 2 lo0p 0 (List.length aA)), (eI a1), (eI b2), (eI bX), (.fn (.func cmp4_f) cmp4_a cmp4_c)] (eI r.1) := by
  intro H0 hl0
  refine dP Try.func57 ?_
  have hO := aN.uL hl0
  clear hl0
  obtain ⟨N0, hN0⟩ : ∃ n, n = List.length aA := ⟨_, rfl⟩
  have hN : List.length aA = N0 := hN0.symm
  unfold gW at h0
  refine aX aF 1 [] [] ?_
  refine aO ?_
  refine kB (jS []) aF 16 ?_
  obtain ⟨c1, h0⟩ := bC h0
  refine cQ 7 [0 ≤ bX ∧ bX < (lN aA)] ⟨c1, trivial⟩ ?_
  refine jT 0 lo0p 2 (0 + Int.toNat bX) (aB (gD aA bX)) (aB (gD aA bX)) (List.map aB aA) hO (cB c1) ?_
  obtain ⟨c2, h0⟩ := bC h0
  refine cQ 11 [0 ≤ a1 ∧ a1 < (lN aA)] ⟨c2, trivial⟩ ?_
  refine jT 0 lo0p 2 (0 + Int.toNat a1) (aB (gD aA a1)) (aB (gD aA a1)) (List.map aB aA) hO (cB c2) ?_
  obtain ⟨c3, h0⟩ := bC h0
  refine cQ 13 [0 ≤ a1 ∧ a1 < (lN aA)] ⟨c3, trivial⟩ ?_
  refine nQ 0 lo0p 2 (0 + Int.toNat a1) (aB (gD aA a1)) (aB (gD aA bX)) (List.map aB aA) [(lo0p, 2, List.map aB (List.set aA (Int.toNat a1) (gD aA bX)))] hO (cB c3) (by simp only [List.set, lO]) ?_
  intro H hO
  replace hN : List.length (List.set aA (Int.toNat a1) (gD aA bX)) = N0 := by simpa using hN
  obtain ⟨c4, h0⟩ := bC h0
  refine cQ 15 [0 ≤ bX ∧ bX < (lN aA)] ⟨c4, trivial⟩ ?_
  refine nQ 0 lo0p 2 (0 + Int.toNat bX) (aB (gD (List.set aA (Int.toNat a1) (gD aA bX)) bX)) (aB (gD aA a1)) (List.map aB (List.set aA (Int.toNat a1) (gD aA bX))) [(lo0p, 2, List.map aB (List.set (List.set aA (Int.toNat a1) (gD aA bX)) (Int.toNat bX) (gD aA a1)))] hO (qX c4 (by simp [])) (by simp only [List.set, lO]) ?_
  intro H hO
  replace hN : List.length (List.set (List.set aA (Int.toNat a1) (gD aA bX)) (Int.toNat bX) (gD aA a1)) = N0 := by simpa using hN
  refine oT (by kernel_rfl) ?_
  refine dX (l := [(0, (.msl 2 lo0p 0 (List.length (List.set (List.set aA (Int.toNat a1) (gD aA bX)) (Int.toNat bX) (gD aA a1))))), (1, (eI a1)), (2, (eI b2)), (4, (.fn (.func cmp4_f) cmp4_a cmp4_c))]) ⟨[(0, (.msl 2 lo0p 0 (List.length aA))), (1, (eI a1)), (2, (eI b2)), (4, (.fn (.func cmp4_f) cmp4_a cmp4_c))], by kernel_rfl, rfl, ⟨aP.eq (by simp []), aP.refl _, aP.refl _, aP.refl _, trivial⟩⟩ ?_
  refine aI (aJ (?_))
  refine aX aF 6 [2] [(11, (eI (wR (a1 + (1 : Int))))), (12, (eI (wR (b2 - (1 : Int)))))] ?_
  refine lY (fun T H => ∃ aA : List aC, ∃ i11 : Int, Has T [(0, (.msl 2 lo0p 0 (List.length aA))), (11, (eI i11))] ∧ aN ⟨H0, [lo0p], []⟩ H [(lo0p, 2, List.map aB aA)] ∧ List.length aA = N0 ∧ eJ cmp4 aA i11 = some r) ?_ ?_
  · clear hO hN h0
    rintro T H ⟨aA, i11, hT, hO, hN, h0⟩
    refine bR hT ?_
    clear hT
    unfold eJ at h0
    refine aX aF 2 [11] [(10, (eI i11))] ?_
    refine bQ ?_
    obtain rfl := oI h0
    exact aI (nL (x := (eI i11)) (by kernel_rfl) (aP.refl _) ⟨rfl, hO.ext, hO.at 0 (by kernel_rfl), by first | rfl | (simp only [List.length_map]; exact hN.trans hN0)⟩)
  refine cI 0 ?_
  refine mI [(0, (.msl 2 lo0p 0 (List.length (List.set (List.set aA (Int.toNat a1) (gD aA bX)) (Int.toNat bX) (gD aA a1))))), (1, (eI a1)), (4, (.fn (.func cmp4_f) cmp4_a cmp4_c)), (11, (eI (wR (a1 + (1 : Int))))), (12, (eI (wR (b2 - (1 : Int)))))] ?_
  refine lK (fun T H => ∃ aA : List aC, ∃ i11 : Int, ∃ j12 : Int, Has T [(0, (.msl 2 lo0p 0 (List.length aA))), (1, (eI a1)), (4, (.fn (.func cmp4_f) cmp4_a cmp4_c)), (11, (eI i11)), (12, (eI j12))] ∧ aN ⟨H0, [lo0p], []⟩ H [(lo0p, 2, List.map aB aA)] ∧ List.length aA = N0 ∧ fZ cmp4 aA a1 i11 j12 = some r) ?_ ⟨List.set (List.set aA (Int.toNat a1) (gD aA bX)) (Int.toNat bX) (gD aA a1), wR (a1 + (1 : Int)), wR (b2 - (1 : Int)), bG, hO, hN, h0⟩
  clear hO hN h0
  rintro T H ⟨aA, i11, j12, hT, hO, hN, h0⟩
  refine bR hT ?_
  clear hT
  unfold fZ at h0
  obtain ⟨rr0, hl0, h0⟩ := aY h0
  refine mV (fun (s : List aC × Int × Int) T H => Has T [(0, (.msl 2 lo0p 0 (List.length s.1))), (1, (eI a1)), (4, (.fn (.func cmp4_f) cmp4_a cmp4_c)), (11, (eI s.2.1)), (12, (eI s.2.2))] ∧ aN ⟨H0, [lo0p], []⟩ H [(lo0p, 2, List.map aB s.1)] ∧ List.length s.1 = N0) hl0 ⟨bG, hO, hN⟩ ?_
  clear hO hN
  rintro k0 s out1 T H ⟨hT, hO, hN⟩ h1 ho0
  obtain ⟨aA, i11, j12⟩ := s
  replace h1 : gE cmp4 a1 aA i11 j12 = some out1 := h1
  try dsimp only at hT
  refine bR hT ?_
  clear hT
  unfold gE at h1
  refine cI 1 ?_
  refine lY (fun T H => ∃ aA : List aC, ∃ i11 : Int, Has T [(0, (.msl 2 lo0p 0 (List.length aA))), (1, (eI a1)), (4, (.fn (.func cmp4_f) cmp4_a cmp4_c)), (11, (eI i11)), (12, (eI j12))] ∧ aN ⟨H0, [lo0p], []⟩ H [(lo0p, 2, List.map aB aA)] ∧ List.length aA = N0 ∧ eG cmp4 aA a1 i11 j12 = some out1) ?_ ?_
  · clear hO hN h1
    rintro T H ⟨aA, i11, hT, hO, hN, h1⟩
    refine bR hT ?_
    clear hT
    unfold eG at h1
    refine lY (fun T H => ∃ aA : List aC, ∃ j12 : Int, Has T [(0, (.msl 2 lo0p 0 (List.length aA))), (1, (eI a1)), (4, (.fn (.func cmp4_f) cmp4_a cmp4_c)), (11, (eI i11)), (12, (eI j12))] ∧ aN ⟨H0, [lo0p], []⟩ H [(lo0p, 2, List.map aB aA)] ∧ List.length aA = N0 ∧ eK cmp4 aA a1 i11 j12 = some out1) ?_ ?_
    · clear hO hN h1
      rintro T H ⟨aA, j12, hT, hO, hN, h1⟩
      refine bR hT ?_
      clear hT
      unfold eK at h1
      refine aO ?_
      refine aX aF 3 [] [(70, (aG (decide (j12 < i11))))] ?_
      refine bV h1 (fun h1 => ?_) (fun h1 => ?_)
      · refine lS 0 ?_
        obtain rfl := oI h1
        obtain rfl : _ = rr0 := ho0
        replace h0 : eJ cmp4 aA i11 = some r := h0
        exact aI (aZ (AE (by kernel_rfl) (aZ (cC (aJ (⟨rfl, _, _, bG, hO, hN, h0⟩))))))
      refine bT ?_
      refine bB [(0, (.msl 2 lo0p 0 (List.length aA))), (1, (eI a1)), (4, (.fn (.func cmp4_f) cmp4_a cmp4_c)), (11, (eI i11)), (12, (eI j12))] ?_
      refine aO ?_
      refine kB (jS []) aF 16 ?_
      obtain ⟨c6, h1⟩ := bC h1
      refine cQ 7 [0 ≤ j12 ∧ j12 < (lN aA)] ⟨c6, trivial⟩ ?_
      refine jT 0 lo0p 2 (0 + Int.toNat j12) (aB (gD aA j12)) (aB (gD aA j12)) (List.map aB aA) hO (cB c6) ?_
      obtain ⟨c7, h1⟩ := bC h1
      refine cQ 11 [0 ≤ i11 ∧ i11 < (lN aA)] ⟨c7, trivial⟩ ?_
      refine jT 0 lo0p 2 (0 + Int.toNat i11) (aB (gD aA i11)) (aB (gD aA i11)) (List.map aB aA) hO (cB c7) ?_
      obtain ⟨c8, h1⟩ := bC h1
      refine cQ 13 [0 ≤ i11 ∧ i11 < (lN aA)] ⟨c8, trivial⟩ ?_
      refine nQ 0 lo0p 2 (0 + Int.toNat i11) (aB (gD aA i11)) (aB (gD aA j12)) (List.map aB aA) [(lo0p, 2, List.map aB (List.set aA (Int.toNat i11) (gD aA j12)))] hO (cB c8) (by simp only [List.set, lO]) ?_
      intro H hO
      replace hN : List.length (List.set aA (Int.toNat i11) (gD aA j12)) = N0 := by simpa using hN
      obtain ⟨c9, h1⟩ := bC h1
      refine cQ 15 [0 ≤ j12 ∧ j12 < (lN aA)] ⟨c9, trivial⟩ ?_
      refine nQ 0 lo0p 2 (0 + Int.toNat j12) (aB (gD (List.set aA (Int.toNat i11) (gD aA j12)) j12)) (aB (gD aA i11)) (List.map aB (List.set aA (Int.toNat i11) (gD aA j12))) [(lo0p, 2, List.map aB (List.set (List.set aA (Int.toNat i11) (gD aA j12)) (Int.toNat j12) (gD aA i11)))] hO (qX c9 (by simp [])) (by simp only [List.set, lO]) ?_
      intro H hO
      replace hN : List.length (List.set (List.set aA (Int.toNat i11) (gD aA j12)) (Int.toNat j12) (gD aA i11)) = N0 := by simpa using hN
      refine oT (by kernel_rfl) ?_
      refine dX (l := [(0, (.msl 2 lo0p 0 (List.length (List.set (List.set aA (Int.toNat i11) (gD aA j12)) (Int.toNat j12) (gD aA i11))))), (1, (eI a1)), (4, (.fn (.func cmp4_f) cmp4_a cmp4_c)), (11, (eI i11)), (12, (eI j12))]) ⟨[(0, (.msl 2 lo0p 0 (List.length aA))), (1, (eI a1)), (4, (.fn (.func cmp4_f) cmp4_a cmp4_c)), (11, (eI i11)), (12, (eI j12))], by kernel_rfl, rfl, ⟨aP.eq (by simp []), aP.refl _, aP.refl _, aP.refl _, aP.refl _, trivial⟩⟩ ?_
      refine aI (aJ (?_))
      refine aX aF 3 [11] [(11, (eI (wR (i11 + (1 : Int)))))] ?_
      refine aU aF 3 ?_
      refine bE ?_
      exact aI (bD (aJ (⟨rfl, _, (oI h1).symm, bG, hO, hN⟩)))
    refine cI 4 ?_
    refine mI [(0, (.msl 2 lo0p 0 (List.length aA))), (1, (eI a1)), (4, (.fn (.func cmp4_f) cmp4_a cmp4_c)), (11, (eI i11)), (12, (eI j12))] ?_
    refine lK (fun T H => ∃ aA : List aC, ∃ j12 : Int, Has T [(0, (.msl 2 lo0p 0 (List.length aA))), (1, (eI a1)), (4, (.fn (.func cmp4_f) cmp4_a cmp4_c)), (11, (eI i11)), (12, (eI j12))] ∧ aN ⟨H0, [lo0p], []⟩ H [(lo0p, 2, List.map aB aA)] ∧ List.length aA = N0 ∧ gF cmp4 aA a1 i11 j12 = some out1) ?_ ⟨aA, j12, bG, hO, hN, h1⟩
    clear hO hN h1
    rintro T H ⟨aA, j12, hT, hO, hN, h1⟩
    refine bR hT ?_
    clear hT
    unfold gF at h1
    obtain ⟨rr1, hl1, h1⟩ := aY h1
    refine mV (fun (s : List aC × Int) T H => Has T [(0, (.msl 2 lo0p 0 (List.length s.1))), (1, (eI a1)), (4, (.fn (.func cmp4_f) cmp4_a cmp4_c)), (11, (eI i11)), (12, (eI s.2))] ∧ aN ⟨H0, [lo0p], []⟩ H [(lo0p, 2, List.map aB s.1)] ∧ List.length s.1 = N0) hl1 ⟨bG, hO, hN⟩ ?_
    clear hO hN
    rintro k1 s out2 T H ⟨hT, hO, hN⟩ h2 ho1
    obtain ⟨aA, j12⟩ := s
    replace h2 : gH cmp4 a1 i11 aA j12 = some out2 := h2
    try dsimp only at hT
    refine bR hT ?_
    clear hT
    unfold gH at h2
    refine aO ?_
    refine aO ?_
    obtain ⟨c10, h2⟩ := bC h2
    obtain ⟨c11, h2⟩ := bC h2
    obtain ⟨x12, hx13, h2⟩ := aY h2
    refine kB (jS []) aF 16 ?_
    refine tK (K := fun T H => Has (lift T) [(0, (.msl 2 lo0p 0 (List.length aA))), (1, (eI a1)), (4, (.fn (.func cmp4_f) cmp4_a cmp4_c)), (11, (eI i11)), (12, (eI j12)), (65, (aG ((decide (i11 ≤ j12)) && (decide (x12 < (0 : Int))))))] ∧ aN ⟨H0, [lo0p], []⟩ H [(lo0p, 2, List.map aB aA)]) ?_ ?_
    · refine qE 4 ?_
      refine tC (t := 53) (e := decide (i11 ≤ j12)) (by kernel_rfl) (fun hg14 => ?_) (fun hg14 => ?_)
      · refine cQ 8 [0 ≤ a1 ∧ a1 < (lN aA)] ⟨(c10 hg14), trivial⟩ ?_
        refine uR 0 lo0p 2 (0 + Int.toNat a1) (aB (gD aA a1)) (aB (gD aA a1)) (List.map aB aA) hO (cB (c10 hg14)) ?_
        refine cQ 12 [0 ≤ j12 ∧ j12 < (lN aA)] ⟨(c11 hg14), trivial⟩ ?_
        refine uR 0 lo0p 2 (0 + Int.toNat j12) (aB (gD aA j12)) (aB (gD aA j12)) (List.map aB aA) hO (cB (c11 hg14)) ?_
        refine uN cmp4_f (cmp4_a ++ [(aB (gD aA a1)), (aB (gD aA j12))] ++ cmp4_c) (eI x12) (by kernel_rfl) (by kernel_rfl) (cmp4_h (gD aA a1) (gD aA j12) _ (pS hx13 hg14)) hO ?_
        intro H hO
        refine oK ?_
        exact ⟨⟨[(0, (.msl 2 lo0p 0 (List.length aA))), (1, (eI a1)), (4, (.fn (.func cmp4_f) cmp4_a cmp4_c)), (11, (eI i11)), (12, (eI j12)), (65, (aG (decide (x12 < (0 : Int)))))], by kernel_rfl, rfl, ⟨aP.refl _, aP.refl _, aP.refl _, aP.refl _, aP.refl _, aP.eq (congrArg aG (rH hg14 rfl).symm), trivial⟩⟩, hO⟩
      refine oK ?_
      exact ⟨⟨[(0, (.msl 2 lo0p 0 (List.length aA))), (1, (eI a1)), (4, (.fn (.func cmp4_f) cmp4_a cmp4_c)), (11, (eI i11)), (12, (eI j12)), (65, (aG false))], by kernel_rfl, rfl, ⟨aP.refl _, aP.refl _, aP.refl _, aP.refl _, aP.refl _, aP.eq (congrArg aG (rH hg14 rfl).symm), trivial⟩⟩, hO⟩
    · rintro T H ⟨hT, hO⟩
      refine dX hT ?_
      clear hT
      refine aI (aJ ?_)
      refine bV h2 (fun h2 => ?_) (fun h2 => ?_)
      · refine bT ?_
        refine bB [(0, (.msl 2 lo0p 0 (List.length aA))), (1, (eI a1)), (4, (.fn (.func cmp4_f) cmp4_a cmp4_c)), (11, (eI i11)), (12, (eI j12))] ?_
        refine cI 5 ?_
        refine aU aF 3 ?_
        refine bE ?_
        exact aI (bD (aJ (⟨rfl, _, (oI h2).symm, bG, hO, hN⟩)))
      refine lS 4 ?_
      obtain rfl := oI h2
      obtain rfl : _ = rr1 := ho1
      replace h1 : eK cmp4 aA a1 i11 j12 = some out1 := h1
      exact aI (aZ (aZ (cC (aJ (⟨rfl, _, _, bG, hO, hN, h1⟩)))))
  refine cI 2 ?_
  refine mI [(0, (.msl 2 lo0p 0 (List.length aA))), (1, (eI a1)), (4, (.fn (.func cmp4_f) cmp4_a cmp4_c)), (11, (eI i11)), (12, (eI j12))] ?_
  refine lK (fun T H => ∃ aA : List aC, ∃ i11 : Int, Has T [(0, (.msl 2 lo0p 0 (List.length aA))), (1, (eI a1)), (4, (.fn (.func cmp4_f) cmp4_a cmp4_c)), (11, (eI i11)), (12, (eI j12))] ∧ aN ⟨H0, [lo0p], []⟩ H [(lo0p, 2, List.map aB aA)] ∧ List.length aA = N0 ∧ gG cmp4 aA a1 i11 j12 = some out1) ?_ ⟨aA, i11, bG, hO, hN, h1⟩
  clear hO hN h1
  rintro T H ⟨aA, i11, hT, hO, hN, h1⟩
  refine bR hT ?_
  clear hT
  unfold gG at h1
  obtain ⟨rr1, hl1, h1⟩ := aY h1
  refine mV (fun (s : List aC × Int) T H => Has T [(0, (.msl 2 lo0p 0 (List.length s.1))), (1, (eI a1)), (4, (.fn (.func cmp4_f) cmp4_a cmp4_c)), (11, (eI s.2)), (12, (eI j12))] ∧ aN ⟨H0, [lo0p], []⟩ H [(lo0p, 2, List.map aB s.1)] ∧ List.length s.1 = N0) hl1 ⟨bG, hO, hN⟩ ?_
  clear hO hN
  rintro k1 s out2 T H ⟨hT, hO, hN⟩ h2 ho1
  obtain ⟨aA, i11⟩ := s
  replace h2 : gI cmp4 a1 j12 aA i11 = some out2 := h2
  try dsimp only at hT
  refine bR hT ?_
  clear hT
  unfold gI at h2
  refine aO ?_
  refine aO ?_
  obtain ⟨c16, h2⟩ := bC h2
  obtain ⟨c17, h2⟩ := bC h2
  obtain ⟨x18, hx19, h2⟩ := aY h2
  refine kB (jS []) aF 17 ?_
  refine tK (K := fun T H => Has (lift T) [(0, (.msl 2 lo0p 0 (List.length aA))), (1, (eI a1)), (4, (.fn (.func cmp4_f) cmp4_a cmp4_c)), (11, (eI i11)), (12, (eI j12)), (47, (aG ((decide (i11 ≤ j12)) && (!(decide (x18 < (0 : Int)))))))] ∧ aN ⟨H0, [lo0p], []⟩ H [(lo0p, 2, List.map aB aA)]) ?_ ?_
  · refine qE 4 ?_
    refine tC (t := 34) (e := decide (i11 ≤ j12)) (by kernel_rfl) (fun hg20 => ?_) (fun hg20 => ?_)
    · refine cQ 8 [0 ≤ a1 ∧ a1 < (lN aA)] ⟨(c16 hg20), trivial⟩ ?_
      refine uR 0 lo0p 2 (0 + Int.toNat a1) (aB (gD aA a1)) (aB (gD aA a1)) (List.map aB aA) hO (cB (c16 hg20)) ?_
      refine cQ 12 [0 ≤ i11 ∧ i11 < (lN aA)] ⟨(c17 hg20), trivial⟩ ?_
      refine uR 0 lo0p 2 (0 + Int.toNat i11) (aB (gD aA i11)) (aB (gD aA i11)) (List.map aB aA) hO (cB (c17 hg20)) ?_
      refine uN cmp4_f (cmp4_a ++ [(aB (gD aA a1)), (aB (gD aA i11))] ++ cmp4_c) (eI x18) (by kernel_rfl) (by kernel_rfl) (cmp4_h (gD aA a1) (gD aA i11) _ (pS hx19 hg20)) hO ?_
      intro H hO
      refine oK ?_
      exact ⟨⟨[(0, (.msl 2 lo0p 0 (List.length aA))), (1, (eI a1)), (4, (.fn (.func cmp4_f) cmp4_a cmp4_c)), (11, (eI i11)), (12, (eI j12)), (47, (aG (!(decide (x18 < (0 : Int))))))], by kernel_rfl, rfl, ⟨aP.refl _, aP.refl _, aP.refl _, aP.refl _, aP.refl _, aP.eq (congrArg aG (rH hg20 rfl).symm), trivial⟩⟩, hO⟩
    refine oK ?_
    exact ⟨⟨[(0, (.msl 2 lo0p 0 (List.length aA))), (1, (eI a1)), (4, (.fn (.func cmp4_f) cmp4_a cmp4_c)), (11, (eI i11)), (12, (eI j12)), (47, (aG false))], by kernel_rfl, rfl, ⟨aP.refl _, aP.refl _, aP.refl _, aP.refl _, aP.refl _, aP.eq (congrArg aG (rH hg20 rfl).symm), trivial⟩⟩, hO⟩
  · rintro T H ⟨hT, hO⟩
    refine dX hT ?_
    clear hT
    refine aI (aJ ?_)
    refine bV h2 (fun h2 => ?_) (fun h2 => ?_)
    · refine bT ?_
      refine bB [(0, (.msl 2 lo0p 0 (List.length aA))), (1, (eI a1)), (4, (.fn (.func cmp4_f) cmp4_a cmp4_c)), (11, (eI i11)), (12, (eI j12))] ?_
      refine cI 3 ?_
      refine aU aF 3 ?_
      refine bE ?_
      exact aI (bD (aJ (⟨rfl, _, (oI h2).symm, bG, hO, hN⟩)))
    refine lS 2 ?_
    obtain rfl := oI h2
    obtain rfl : _ = rr1 := ho1
    replace h1 : eG cmp4 aA a1 i11 j12 = some out1 := h1
    exact aI (aZ (aZ (cC (aJ (⟨rfl, _, _, bG, hO, hN, h1⟩)))))

theorem zH (lo0p : Nat) (aA : (List aC)) (a1 : Int) (b2 : Int) (bX : Int) (cmp4_f : Nat) (cmp4_a cmp4_c : List V) (cmp4 : aC → aC → Option Int) (cmp4_h : ∀ a0 a1 r, cmp4 a0 a1 = some r → dK Try.prog cmp4_f (cmp4_a ++ [(aB a0), (aB a1)] ++ cmp4_c) (eI r)) (r : ((Int × Bool) × List aC)) (h0 : kE aA a1 b2 bX cmp4 = some r) : sA Try.prog 58 lo0p 2 (List.map aB aA) (List.map aB r.2) [(.msl 2 lo0p 0 (List.length aA)), (eI a1), (eI b2), (eI bX), (.fn (.func cmp4_f) cmp4_a cmp4_c)] (.tup [(eI r.1.1), (aG r.1.2)]) := by
  intro H0 hl0
  refine dP Try.func58 ?_
  have hO := aN.uL hl0
  clear hl0
  obtain ⟨N0, hN0⟩ : ∃ n, n = List.length aA := ⟨_, rfl⟩
  have hN : List.length aA = N0 := hN0.symm
  unfold kE at h0
  refine aX aF 2 [] [] ?_
  refine aO ?_
  refine kB (jS []) aF 16 ?_
  obtain ⟨c1, h0⟩ := bC h0
  refine cQ 7 [0 ≤ bX ∧ bX < (lN aA)] ⟨c1, trivial⟩ ?_
  refine jT 0 lo0p 2 (0 + Int.toNat bX) (aB (gD aA bX)) (aB (gD aA bX)) (List.map aB aA) hO (cB c1) ?_
  obtain ⟨c2, h0⟩ := bC h0
  refine cQ 11 [0 ≤ a1 ∧ a1 < (lN aA)] ⟨c2, trivial⟩ ?_
  refine jT 0 lo0p 2 (0 + Int.toNat a1) (aB (gD aA a1)) (aB (gD aA a1)) (List.map aB aA) hO (cB c2) ?_
  obtain ⟨c3, h0⟩ := bC h0
  refine cQ 13 [0 ≤ a1 ∧ a1 < (lN aA)] ⟨c3, trivial⟩ ?_
  refine nQ 0 lo0p 2 (0 + Int.toNat a1) (aB (gD aA a1)) (aB (gD aA bX)) (List.map aB aA) [(lo0p, 2, List.map aB (List.set aA (Int.toNat a1) (gD aA bX)))] hO (cB c3) (by simp only [List.set, lO]) ?_
  intro H hO
  replace hN : List.length (List.set aA (Int.toNat a1) (gD aA bX)) = N0 := by simpa using hN
  obtain ⟨c4, h0⟩ := bC h0
  refine cQ 15 [0 ≤ bX ∧ bX < (lN aA)] ⟨c4, trivial⟩ ?_
  refine nQ 0 lo0p 2 (0 + Int.toNat bX) (aB (gD (List.set aA (Int.toNat a1) (gD aA bX)) bX)) (aB (gD aA a1)) (List.map aB (List.set aA (Int.toNat a1) (gD aA bX))) [(lo0p, 2, List.map aB (List.set (List.set aA (Int.toNat a1) (gD aA bX)) (Int.toNat bX) (gD aA a1)))] hO (qX c4 (by simp [])) (by simp only [List.set, lO]) ?_
  intro H hO
  replace hN : List.length (List.set (List.set aA (Int.toNat a1) (gD aA bX)) (Int.toNat bX) (gD aA a1)) = N0 := by simpa using hN
  refine oT (by kernel_rfl) ?_
  refine dX (l := [(0, (.msl 2 lo0p 0 (List.length (List.set (List.set aA (Int.toNat a1) (gD aA bX)) (Int.toNat bX) (gD aA a1))))), (1, (eI a1)), (2, (eI b2)), (4, (.fn (.func cmp4_f) cmp4_a cmp4_c))]) ⟨[(0, (.msl 2 lo0p 0 (List.length aA))), (1, (eI a1)), (2, (eI b2)), (4, (.fn (.func cmp4_f) cmp4_a cmp4_c))], by kernel_rfl, rfl, ⟨aP.eq (by simp []), aP.refl _, aP.refl _, aP.refl _, trivial⟩⟩ ?_
  refine aI (aJ (?_))
  refine aX aF 6 [2] [(12, (eI (wR (a1 + (1 : Int))))), (13, (eI (wR (b2 - (1 : Int)))))] ?_
  refine lY (fun T H => ∃ aA : List aC, ∃ i12 : Int, ∃ j13 : Int, Has T [(0, (.msl 2 lo0p 0 (List.length aA))), (1, (eI a1)), (4, (.fn (.func cmp4_f) cmp4_a cmp4_c)), (12, (eI i12)), (13, (eI j13))] ∧ aN ⟨H0, [lo0p], []⟩ H [(lo0p, 2, List.map aB aA)] ∧ List.length aA = N0 ∧ fX cmp4 aA a1 i12 j13 = some r) ?_ ?_
  · clear hO hN h0
    rintro T H ⟨aA, i12, j13, hT, hO, hN, h0⟩
    refine bR hT ?_
    clear hT
    unfold fX at h0
    refine lY (fun T H => ∃ aA : List aC, ∃ j13 : Int, Has T [(0, (.msl 2 lo0p 0 (List.length aA))), (1, (eI a1)), (4, (.fn (.func cmp4_f) cmp4_a cmp4_c)), (12, (eI i12)), (13, (eI j13))] ∧ aN ⟨H0, [lo0p], []⟩ H [(lo0p, 2, List.map aB aA)] ∧ List.length aA = N0 ∧ fS cmp4 aA a1 i12 j13 = some r) ?_ ?_
    · clear hO hN h0
      rintro T H ⟨aA, j13, hT, hO, hN, h0⟩
      refine bR hT ?_
      clear hT
      unfold fS at h0
      refine aO ?_
      refine aX aF 3 [] [(71, (aG (decide (j13 < i12))))] ?_
      refine bV h0 (fun h0 => ?_) (fun h0 => ?_)
      · refine aO ?_
        refine kB (jS []) aF 16 ?_
        obtain ⟨c6, h0⟩ := bC h0
        refine cQ 7 [0 ≤ a1 ∧ a1 < (lN aA)] ⟨c6, trivial⟩ ?_
        refine jT 0 lo0p 2 (0 + Int.toNat a1) (aB (gD aA a1)) (aB (gD aA a1)) (List.map aB aA) hO (cB c6) ?_
        obtain ⟨c7, h0⟩ := bC h0
        refine cQ 11 [0 ≤ j13 ∧ j13 < (lN aA)] ⟨c7, trivial⟩ ?_
        refine jT 0 lo0p 2 (0 + Int.toNat j13) (aB (gD aA j13)) (aB (gD aA j13)) (List.map aB aA) hO (cB c7) ?_
        obtain ⟨c8, h0⟩ := bC h0
        refine cQ 13 [0 ≤ j13 ∧ j13 < (lN aA)] ⟨c8, trivial⟩ ?_
        refine nQ 0 lo0p 2 (0 + Int.toNat j13) (aB (gD aA j13)) (aB (gD aA a1)) (List.map aB aA) [(lo0p, 2, List.map aB (List.set aA (Int.toNat j13) (gD aA a1)))] hO (cB c8) (by simp only [List.set, lO]) ?_
        intro H hO
        replace hN : List.length (List.set aA (Int.toNat j13) (gD aA a1)) = N0 := by simpa using hN
        obtain ⟨c9, h0⟩ := bC h0
        refine cQ 15 [0 ≤ a1 ∧ a1 < (lN aA)] ⟨c9, trivial⟩ ?_
        refine nQ 0 lo0p 2 (0 + Int.toNat a1) (aB (gD (List.set aA (Int.toNat j13) (gD aA a1)) a1)) (aB (gD aA j13)) (List.map aB (List.set aA (Int.toNat j13) (gD aA a1))) [(lo0p, 2, List.map aB (List.set (List.set aA (Int.toNat j13) (gD aA a1)) (Int.toNat a1) (gD aA j13)))] hO (qX c9 (by simp [])) (by simp only [List.set, lO]) ?_
        intro H hO
        replace hN : List.length (List.set (List.set aA (Int.toNat j13) (gD aA a1)) (Int.toNat a1) (gD aA j13)) = N0 := by simpa using hN
        refine oT (by kernel_rfl) ?_
        refine dX (l := [(0, (.msl 2 lo0p 0 (List.length (List.set (List.set aA (Int.toNat j13) (gD aA a1)) (Int.toNat a1) (gD aA j13))))), (13, (eI j13))]) ⟨[(0, (.msl 2 lo0p 0 (List.length aA))), (13, (eI j13))], by kernel_rfl, rfl, ⟨aP.eq (by simp []), aP.refl _, trivial⟩⟩ ?_
        refine aI (aJ (?_))
        refine aX aF 3 [13] [(10, (eI j13)), (11, (aG true))] ?_
        refine bQ ?_
        obtain rfl := oI h0
        exact aI (aV (nL (x := (.tup [(eI j13), (aG true)])) (by kernel_rfl) (aP.refl _) ⟨rfl, hO.ext, hO.at 0 (by kernel_rfl), by simp only [List.length_map]; exact hN.trans hN0⟩))
      refine bT ?_
      refine bB [(0, (.msl 2 lo0p 0 (List.length aA))), (1, (eI a1)), (4, (.fn (.func cmp4_f) cmp4_a cmp4_c)), (12, (eI i12)), (13, (eI j13))] ?_
      refine aO ?_
      refine kB (jS []) aF 16 ?_
      obtain ⟨c10, h0⟩ := bC h0
      refine cQ 7 [0 ≤ j13 ∧ j13 < (lN aA)] ⟨c10, trivial⟩ ?_
      refine jT 0 lo0p 2 (0 + Int.toNat j13) (aB (gD aA j13)) (aB (gD aA j13)) (List.map aB aA) hO (cB c10) ?_
      obtain ⟨c11, h0⟩ := bC h0
      refine cQ 11 [0 ≤ i12 ∧ i12 < (lN aA)] ⟨c11, trivial⟩ ?_
      refine jT 0 lo0p 2 (0 + Int.toNat i12) (aB (gD aA i12)) (aB (gD aA i12)) (List.map aB aA) hO (cB c11) ?_
      obtain ⟨c12, h0⟩ := bC h0
      refine cQ 13 [0 ≤ i12 ∧ i12 < (lN aA)] ⟨c12, trivial⟩ ?_
      refine nQ 0 lo0p 2 (0 + Int.toNat i12) (aB (gD aA i12)) (aB (gD aA j13)) (List.map aB aA) [(lo0p, 2, List.map aB (List.set aA (Int.toNat i12) (gD aA j13)))] hO (cB c12) (by simp only [List.set, lO]) ?_
      intro H hO
      replace hN : List.length (List.set aA (Int.toNat i12) (gD aA j13)) = N0 := by simpa using hN
      obtain ⟨c13, h0⟩ := bC h0
      refine cQ 15 [0 ≤ j13 ∧ j13 < (lN aA)] ⟨c13, trivial⟩ ?_
      refine nQ 0 lo0p 2 (0 + Int.toNat j13) (aB (gD (List.set aA (Int.toNat i12) (gD aA j13)) j13)) (aB (gD aA i12)) (List.map aB (List.set aA (Int.toNat i12) (gD aA j13))) [(lo0p, 2, List.map aB (List.set (List.set aA (Int.toNat i12) (gD aA j13)) (Int.toNat j13) (gD aA i12)))] hO (qX c13 (by simp [])) (by simp only [List.set, lO]) ?_
      intro H hO
      replace hN : List.length (List.set (List.set aA (Int.toNat i12) (gD aA j13)) (Int.toNat j13) (gD aA i12)) = N0 := by simpa using hN
      refine oT (by kernel_rfl) ?_
      refine dX (l := [(0, (.msl 2 lo0p 0 (List.length (List.set (List.set aA (Int.toNat i12) (gD aA j13)) (Int.toNat j13) (gD aA i12))))), (1, (eI a1)), (4, (.fn (.func cmp4_f) cmp4_a cmp4_c)), (12, (eI i12)), (13, (eI j13))]) ⟨[(0, (.msl 2 lo0p 0 (List.length aA))), (1, (eI a1)), (4, (.fn (.func cmp4_f) cmp4_a cmp4_c)), (12, (eI i12)), (13, (eI j13))], by kernel_rfl, rfl, ⟨aP.eq (by simp []), aP.refl _, aP.refl _, aP.refl _, aP.refl _, trivial⟩⟩ ?_
      refine aI (aJ (?_))
      refine aX aF 3 [12] [(12, (eI (wR (i12 + (1 : Int)))))] ?_
      refine aX aF 3 [13] [(13, (eI (wR (j13 - (1 : Int)))))] ?_
      refine lY (fun T H => ∃ aA : List aC, ∃ j13 : Int, Has T [(0, (.msl 2 lo0p 0 (List.length aA))), (1, (eI a1)), (13, (eI j13))] ∧ aN ⟨H0, [lo0p], []⟩ H [(lo0p, 2, List.map aB aA)] ∧ List.length aA = N0 ∧ fR cmp4 aA a1 j13 = some r) ?_ ?_
      · clear hO hN h0
        rintro T H ⟨aA, j13, hT, hO, hN, h0⟩
        refine bR hT ?_
        clear hT
        unfold fR at h0
        refine aO ?_
        refine kB (jS []) aF 16 ?_
        obtain ⟨c14, h0⟩ := bC h0
        refine cQ 7 [0 ≤ a1 ∧ a1 < (lN aA)] ⟨c14, trivial⟩ ?_
        refine jT 0 lo0p 2 (0 + Int.toNat a1) (aB (gD aA a1)) (aB (gD aA a1)) (List.map aB aA) hO (cB c14) ?_
        obtain ⟨c15, h0⟩ := bC h0
        refine cQ 11 [0 ≤ j13 ∧ j13 < (lN aA)] ⟨c15, trivial⟩ ?_
        refine jT 0 lo0p 2 (0 + Int.toNat j13) (aB (gD aA j13)) (aB (gD aA j13)) (List.map aB aA) hO (cB c15) ?_
        obtain ⟨c16, h0⟩ := bC h0
        refine cQ 13 [0 ≤ j13 ∧ j13 < (lN aA)] ⟨c16, trivial⟩ ?_
        refine nQ 0 lo0p 2 (0 + Int.toNat j13) (aB (gD aA j13)) (aB (gD aA a1)) (List.map aB aA) [(lo0p, 2, List.map aB (List.set aA (Int.toNat j13) (gD aA a1)))] hO (cB c16) (by simp only [List.set, lO]) ?_
        intro H hO
        replace hN : List.length (List.set aA (Int.toNat j13) (gD aA a1)) = N0 := by simpa using hN
        obtain ⟨c17, h0⟩ := bC h0
        refine cQ 15 [0 ≤ a1 ∧ a1 < (lN aA)] ⟨c17, trivial⟩ ?_
        refine nQ 0 lo0p 2 (0 + Int.toNat a1) (aB (gD (List.set aA (Int.toNat j13) (gD aA a1)) a1)) (aB (gD aA j13)) (List.map aB (List.set aA (Int.toNat j13) (gD aA a1))) [(lo0p, 2, List.map aB (List.set (List.set aA (Int.toNat j13) (gD aA a1)) (Int.toNat a1) (gD aA j13)))] hO (qX c17 (by simp [])) (by simp only [List.set, lO]) ?_
        intro H hO
        replace hN : List.length (List.set (List.set aA (Int.toNat j13) (gD aA a1)) (Int.toNat a1) (gD aA j13)) = N0 := by simpa using hN
        refine oT (by kernel_rfl) ?_
        refine dX (l := [(0, (.msl 2 lo0p 0 (List.length (List.set (List.set aA (Int.toNat j13) (gD aA a1)) (Int.toNat a1) (gD aA j13))))), (13, (eI j13))]) ⟨[(0, (.msl 2 lo0p 0 (List.length aA))), (13, (eI j13))], by kernel_rfl, rfl, ⟨aP.eq (by simp []), aP.refl _, trivial⟩⟩ ?_
        refine aI (aJ (?_))
        refine aX aF 3 [13] [(10, (eI j13)), (11, (aG false))] ?_
        refine bQ ?_
        obtain rfl := oI h0
        exact aI (nL (x := (.tup [(eI j13), (aG false)])) (by kernel_rfl) (aP.refl _) ⟨rfl, hO.ext, hO.at 0 (by kernel_rfl), by simp only [List.length_map]; exact hN.trans hN0⟩)
      refine cI 4 ?_
      refine mI [(0, (.msl 2 lo0p 0 (List.length (List.set (List.set aA (Int.toNat i12) (gD aA j13)) (Int.toNat j13) (gD aA i12))))), (1, (eI a1)), (4, (.fn (.func cmp4_f) cmp4_a cmp4_c)), (12, (eI (wR (i12 + (1 : Int))))), (13, (eI (wR (j13 - (1 : Int)))))] ?_
      refine lK (fun T H => ∃ aA : List aC, ∃ i12 : Int, ∃ j13 : Int, Has T [(0, (.msl 2 lo0p 0 (List.length aA))), (1, (eI a1)), (4, (.fn (.func cmp4_f) cmp4_a cmp4_c)), (12, (eI i12)), (13, (eI j13))] ∧ aN ⟨H0, [lo0p], []⟩ H [(lo0p, 2, List.map aB aA)] ∧ List.length aA = N0 ∧ jG cmp4 aA a1 i12 j13 = some r) ?_ ⟨List.set (List.set aA (Int.toNat i12) (gD aA j13)) (Int.toNat j13) (gD aA i12), wR (i12 + (1 : Int)), wR (j13 - (1 : Int)), bG, hO, hN, h0⟩
      clear hO hN h0
      rintro T H ⟨aA, i12, j13, hT, hO, hN, h0⟩
      refine bR hT ?_
      clear hT
      unfold jG at h0
      obtain ⟨rr0, hl0, h0⟩ := aY h0
      refine mV (fun (s : List aC × Int × Int) T H => Has T [(0, (.msl 2 lo0p 0 (List.length s.1))), (1, (eI a1)), (4, (.fn (.func cmp4_f) cmp4_a cmp4_c)), (12, (eI s.2.1)), (13, (eI s.2.2))] ∧ aN ⟨H0, [lo0p], []⟩ H [(lo0p, 2, List.map aB s.1)] ∧ List.length s.1 = N0) hl0 ⟨bG, hO, hN⟩ ?_
      clear hO hN
      rintro k0 s out1 T H ⟨hT, hO, hN⟩ h1 ho0
      obtain ⟨aA, i12, j13⟩ := s
      replace h1 : jH cmp4 a1 aA i12 j13 = some out1 := h1
      try dsimp only at hT
      refine bR hT ?_
      clear hT
      unfold jH at h1
      refine cI 5 ?_
      refine lY (fun T H => ∃ aA : List aC, ∃ i12 : Int, Has T [(0, (.msl 2 lo0p 0 (List.length aA))), (1, (eI a1)), (4, (.fn (.func cmp4_f) cmp4_a cmp4_c)), (12, (eI i12)), (13, (eI j13))] ∧ aN ⟨H0, [lo0p], []⟩ H [(lo0p, 2, List.map aB aA)] ∧ List.length aA = N0 ∧ fT cmp4 aA a1 i12 j13 = some out1) ?_ ?_
      · clear hO hN h1
        rintro T H ⟨aA, i12, hT, hO, hN, h1⟩
        refine bR hT ?_
        clear hT
        unfold fT at h1
        refine lY (fun T H => ∃ aA : List aC, ∃ j13 : Int, Has T [(0, (.msl 2 lo0p 0 (List.length aA))), (1, (eI a1)), (4, (.fn (.func cmp4_f) cmp4_a cmp4_c)), (12, (eI i12)), (13, (eI j13))] ∧ aN ⟨H0, [lo0p], []⟩ H [(lo0p, 2, List.map aB aA)] ∧ List.length aA = N0 ∧ fW cmp4 aA a1 i12 j13 = some out1) ?_ ?_
        · clear hO hN h1
          rintro T H ⟨aA, j13, hT, hO, hN, h1⟩
          refine bR hT ?_
          clear hT
          unfold fW at h1
          refine aO ?_
          refine aX aF 3 [] [(144, (aG (decide (j13 < i12))))] ?_
          refine bV h1 (fun h1 => ?_) (fun h1 => ?_)
          · refine lS 4 ?_
            obtain rfl := oI h1
            obtain rfl : _ = rr0 := ho0
            replace h0 : fR cmp4 aA a1 j13 = some r := h0
            exact aI (aZ (AE (by kernel_rfl) (aZ (cC (aJ (⟨rfl, _, _, bG, hO, hN, h0⟩))))))
          refine bT ?_
          refine bB [(0, (.msl 2 lo0p 0 (List.length aA))), (1, (eI a1)), (4, (.fn (.func cmp4_f) cmp4_a cmp4_c)), (12, (eI i12)), (13, (eI j13))] ?_
          refine aO ?_
          refine kB (jS []) aF 16 ?_
          obtain ⟨c19, h1⟩ := bC h1
          refine cQ 7 [0 ≤ j13 ∧ j13 < (lN aA)] ⟨c19, trivial⟩ ?_
          refine jT 0 lo0p 2 (0 + Int.toNat j13) (aB (gD aA j13)) (aB (gD aA j13)) (List.map aB aA) hO (cB c19) ?_
          obtain ⟨c20, h1⟩ := bC h1
          refine cQ 11 [0 ≤ i12 ∧ i12 < (lN aA)] ⟨c20, trivial⟩ ?_
          refine jT 0 lo0p 2 (0 + Int.toNat i12) (aB (gD aA i12)) (aB (gD aA i12)) (List.map aB aA) hO (cB c20) ?_
          obtain ⟨c21, h1⟩ := bC h1
          refine cQ 13 [0 ≤ i12 ∧ i12 < (lN aA)] ⟨c21, trivial⟩ ?_
          refine nQ 0 lo0p 2 (0 + Int.toNat i12) (aB (gD aA i12)) (aB (gD aA j13)) (List.map aB aA) [(lo0p, 2, List.map aB (List.set aA (Int.toNat i12) (gD aA j13)))] hO (cB c21) (by simp only [List.set, lO]) ?_
          intro H hO
          replace hN : List.length (List.set aA (Int.toNat i12) (gD aA j13)) = N0 := by simpa using hN
          obtain ⟨c22, h1⟩ := bC h1
          refine cQ 15 [0 ≤ j13 ∧ j13 < (lN aA)] ⟨c22, trivial⟩ ?_
          refine nQ 0 lo0p 2 (0 + Int.toNat j13) (aB (gD (List.set aA (Int.toNat i12) (gD aA j13)) j13)) (aB (gD aA i12)) (List.map aB (List.set aA (Int.toNat i12) (gD aA j13))) [(lo0p, 2, List.map aB (List.set (List.set aA (Int.toNat i12) (gD aA j13)) (Int.toNat j13) (gD aA i12)))] hO (qX c22 (by simp [])) (by simp only [List.set, lO]) ?_
          intro H hO
          replace hN : List.length (List.set (List.set aA (Int.toNat i12) (gD aA j13)) (Int.toNat j13) (gD aA i12)) = N0 := by simpa using hN
          refine oT (by kernel_rfl) ?_
          refine dX (l := [(0, (.msl 2 lo0p 0 (List.length (List.set (List.set aA (Int.toNat i12) (gD aA j13)) (Int.toNat j13) (gD aA i12))))), (1, (eI a1)), (4, (.fn (.func cmp4_f) cmp4_a cmp4_c)), (12, (eI i12)), (13, (eI j13))]) ⟨[(0, (.msl 2 lo0p 0 (List.length aA))), (1, (eI a1)), (4, (.fn (.func cmp4_f) cmp4_a cmp4_c)), (12, (eI i12)), (13, (eI j13))], by kernel_rfl, rfl, ⟨aP.eq (by simp []), aP.refl _, aP.refl _, aP.refl _, aP.refl _, trivial⟩⟩ ?_
          refine aI (aJ (?_))
          refine aX aF 3 [12] [(12, (eI (wR (i12 + (1 : Int)))))] ?_
          refine aU aF 3 ?_
          refine bE ?_
          exact aI (bD (aJ (⟨rfl, _, (oI h1).symm, bG, hO, hN⟩)))
        refine cI 8 ?_
        refine mI [(0, (.msl 2 lo0p 0 (List.length aA))), (1, (eI a1)), (4, (.fn (.func cmp4_f) cmp4_a cmp4_c)), (12, (eI i12)), (13, (eI j13))] ?_
        refine lK (fun T H => ∃ aA : List aC, ∃ j13 : Int, Has T [(0, (.msl 2 lo0p 0 (List.length aA))), (1, (eI a1)), (4, (.fn (.func cmp4_f) cmp4_a cmp4_c)), (12, (eI i12)), (13, (eI j13))] ∧ aN ⟨H0, [lo0p], []⟩ H [(lo0p, 2, List.map aB aA)] ∧ List.length aA = N0 ∧ jK cmp4 aA a1 i12 j13 = some out1) ?_ ⟨aA, j13, bG, hO, hN, h1⟩
        clear hO hN h1
        rintro T H ⟨aA, j13, hT, hO, hN, h1⟩
        refine bR hT ?_
        clear hT
        unfold jK at h1
        obtain ⟨rr1, hl1, h1⟩ := aY h1
        refine mV (fun (s : List aC × Int) T H => Has T [(0, (.msl 2 lo0p 0 (List.length s.1))), (1, (eI a1)), (4, (.fn (.func cmp4_f) cmp4_a cmp4_c)), (12, (eI i12)), (13, (eI s.2))] ∧ aN ⟨H0, [lo0p], []⟩ H [(lo0p, 2, List.map aB s.1)] ∧ List.length s.1 = N0) hl1 ⟨bG, hO, hN⟩ ?_
        clear hO hN
        rintro k1 s out2 T H ⟨hT, hO, hN⟩ h2 ho1
        obtain ⟨aA, j13⟩ := s
        replace h2 : jJ cmp4 a1 i12 aA j13 = some out2 := h2
        try dsimp only at hT
        refine bR hT ?_
        clear hT
        unfold jJ at h2
        refine aO ?_
        refine aO ?_
        obtain ⟨c23, h2⟩ := bC h2
        obtain ⟨c24, h2⟩ := bC h2
        obtain ⟨x25, hx26, h2⟩ := aY h2
        refine kB (jS []) aF 17 ?_
        refine tK (K := fun T H => Has (lift T) [(0, (.msl 2 lo0p 0 (List.length aA))), (1, (eI a1)), (4, (.fn (.func cmp4_f) cmp4_a cmp4_c)), (12, (eI i12)), (13, (eI j13)), (139, (aG ((decide (i12 ≤ j13)) && (!(decide (x25 < (0 : Int)))))))] ∧ aN ⟨H0, [lo0p], []⟩ H [(lo0p, 2, List.map aB aA)]) ?_ ?_
        · refine qE 4 ?_
          refine tC (t := 126) (e := decide (i12 ≤ j13)) (by kernel_rfl) (fun hg27 => ?_) (fun hg27 => ?_)
          · refine cQ 8 [0 ≤ j13 ∧ j13 < (lN aA)] ⟨(c23 hg27), trivial⟩ ?_
            refine uR 0 lo0p 2 (0 + Int.toNat j13) (aB (gD aA j13)) (aB (gD aA j13)) (List.map aB aA) hO (cB (c23 hg27)) ?_
            refine cQ 12 [0 ≤ a1 ∧ a1 < (lN aA)] ⟨(c24 hg27), trivial⟩ ?_
            refine uR 0 lo0p 2 (0 + Int.toNat a1) (aB (gD aA a1)) (aB (gD aA a1)) (List.map aB aA) hO (cB (c24 hg27)) ?_
            refine uN cmp4_f (cmp4_a ++ [(aB (gD aA j13)), (aB (gD aA a1))] ++ cmp4_c) (eI x25) (by kernel_rfl) (by kernel_rfl) (cmp4_h (gD aA j13) (gD aA a1) _ (pS hx26 hg27)) hO ?_
            intro H hO
            refine oK ?_
            exact ⟨⟨[(0, (.msl 2 lo0p 0 (List.length aA))), (1, (eI a1)), (4, (.fn (.func cmp4_f) cmp4_a cmp4_c)), (12, (eI i12)), (13, (eI j13)), (139, (aG (!(decide (x25 < (0 : Int))))))], by kernel_rfl, rfl, ⟨aP.refl _, aP.refl _, aP.refl _, aP.refl _, aP.refl _, aP.eq (congrArg aG (rH hg27 rfl).symm), trivial⟩⟩, hO⟩
          refine oK ?_
          exact ⟨⟨[(0, (.msl 2 lo0p 0 (List.length aA))), (1, (eI a1)), (4, (.fn (.func cmp4_f) cmp4_a cmp4_c)), (12, (eI i12)), (13, (eI j13)), (139, (aG false))], by kernel_rfl, rfl, ⟨aP.refl _, aP.refl _, aP.refl _, aP.refl _, aP.refl _, aP.eq (congrArg aG (rH hg27 rfl).symm), trivial⟩⟩, hO⟩
        · rintro T H ⟨hT, hO⟩
          refine dX hT ?_
          clear hT
          refine aI (aJ ?_)
          refine bV h2 (fun h2 => ?_) (fun h2 => ?_)
          · refine bT ?_
            refine bB [(0, (.msl 2 lo0p 0 (List.length aA))), (1, (eI a1)), (4, (.fn (.func cmp4_f) cmp4_a cmp4_c)), (12, (eI i12)), (13, (eI j13))] ?_
            refine cI 9 ?_
            refine aU aF 3 ?_
            refine bE ?_
            exact aI (bD (aJ (⟨rfl, _, (oI h2).symm, bG, hO, hN⟩)))
          refine lS 8 ?_
          obtain rfl := oI h2
          obtain rfl : _ = rr1 := ho1
          replace h1 : fW cmp4 aA a1 i12 j13 = some out1 := h1
          exact aI (aZ (aZ (cC (aJ (⟨rfl, _, _, bG, hO, hN, h1⟩)))))
      refine cI 6 ?_
      refine mI [(0, (.msl 2 lo0p 0 (List.length aA))), (1, (eI a1)), (4, (.fn (.func cmp4_f) cmp4_a cmp4_c)), (12, (eI i12)), (13, (eI j13))] ?_
      refine lK (fun T H => ∃ aA : List aC, ∃ i12 : Int, Has T [(0, (.msl 2 lo0p 0 (List.length aA))), (1, (eI a1)), (4, (.fn (.func cmp4_f) cmp4_a cmp4_c)), (12, (eI i12)), (13, (eI j13))] ∧ aN ⟨H0, [lo0p], []⟩ H [(lo0p, 2, List.map aB aA)] ∧ List.length aA = N0 ∧ jD cmp4 aA a1 i12 j13 = some out1) ?_ ⟨aA, i12, bG, hO, hN, h1⟩
      clear hO hN h1
      rintro T H ⟨aA, i12, hT, hO, hN, h1⟩
      refine bR hT ?_
      clear hT
      unfold jD at h1
      obtain ⟨rr1, hl1, h1⟩ := aY h1
      refine mV (fun (s : List aC × Int) T H => Has T [(0, (.msl 2 lo0p 0 (List.length s.1))), (1, (eI a1)), (4, (.fn (.func cmp4_f) cmp4_a cmp4_c)), (12, (eI s.2)), (13, (eI j13))] ∧ aN ⟨H0, [lo0p], []⟩ H [(lo0p, 2, List.map aB s.1)] ∧ List.length s.1 = N0) hl1 ⟨bG, hO, hN⟩ ?_
      clear hO hN
      rintro k1 s out2 T H ⟨hT, hO, hN⟩ h2 ho1
      obtain ⟨aA, i12⟩ := s
      replace h2 : jP cmp4 a1 j13 aA i12 = some out2 := h2
      try dsimp only at hT
      refine bR hT ?_
      clear hT
      unfold jP at h2
      refine aO ?_
      refine aO ?_
      obtain ⟨c29, h2⟩ := bC h2
      obtain ⟨c30, h2⟩ := bC h2
      obtain ⟨x31, hx32, h2⟩ := aY h2
      refine kB (jS []) aF 16 ?_
      refine tK (K := fun T H => Has (lift T) [(0, (.msl 2 lo0p 0 (List.length aA))), (1, (eI a1)), (4, (.fn (.func cmp4_f) cmp4_a cmp4_c)), (12, (eI i12)), (13, (eI j13)), (120, (aG ((decide (i12 ≤ j13)) && (decide (x31 < (0 : Int))))))] ∧ aN ⟨H0, [lo0p], []⟩ H [(lo0p, 2, List.map aB aA)]) ?_ ?_
      · refine qE 4 ?_
        refine tC (t := 108) (e := decide (i12 ≤ j13)) (by kernel_rfl) (fun hg33 => ?_) (fun hg33 => ?_)
        · refine cQ 8 [0 ≤ i12 ∧ i12 < (lN aA)] ⟨(c29 hg33), trivial⟩ ?_
          refine uR 0 lo0p 2 (0 + Int.toNat i12) (aB (gD aA i12)) (aB (gD aA i12)) (List.map aB aA) hO (cB (c29 hg33)) ?_
          refine cQ 12 [0 ≤ a1 ∧ a1 < (lN aA)] ⟨(c30 hg33), trivial⟩ ?_
          refine uR 0 lo0p 2 (0 + Int.toNat a1) (aB (gD aA a1)) (aB (gD aA a1)) (List.map aB aA) hO (cB (c30 hg33)) ?_
          refine uN cmp4_f (cmp4_a ++ [(aB (gD aA i12)), (aB (gD aA a1))] ++ cmp4_c) (eI x31) (by kernel_rfl) (by kernel_rfl) (cmp4_h (gD aA i12) (gD aA a1) _ (pS hx32 hg33)) hO ?_
          intro H hO
          refine oK ?_
          exact ⟨⟨[(0, (.msl 2 lo0p 0 (List.length aA))), (1, (eI a1)), (4, (.fn (.func cmp4_f) cmp4_a cmp4_c)), (12, (eI i12)), (13, (eI j13)), (120, (aG (decide (x31 < (0 : Int)))))], by kernel_rfl, rfl, ⟨aP.refl _, aP.refl _, aP.refl _, aP.refl _, aP.refl _, aP.eq (congrArg aG (rH hg33 rfl).symm), trivial⟩⟩, hO⟩
        refine oK ?_
        exact ⟨⟨[(0, (.msl 2 lo0p 0 (List.length aA))), (1, (eI a1)), (4, (.fn (.func cmp4_f) cmp4_a cmp4_c)), (12, (eI i12)), (13, (eI j13)), (120, (aG false))], by kernel_rfl, rfl, ⟨aP.refl _, aP.refl _, aP.refl _, aP.refl _, aP.refl _, aP.eq (congrArg aG (rH hg33 rfl).symm), trivial⟩⟩, hO⟩
      · rintro T H ⟨hT, hO⟩
        refine dX hT ?_
        clear hT
        refine aI (aJ ?_)
        refine bV h2 (fun h2 => ?_) (fun h2 => ?_)
        · refine bT ?_
          refine bB [(0, (.msl 2 lo0p 0 (List.length aA))), (1, (eI a1)), (4, (.fn (.func cmp4_f) cmp4_a cmp4_c)), (12, (eI i12)), (13, (eI j13))] ?_
          refine cI 7 ?_
          refine aU aF 3 ?_
          refine bE ?_
          exact aI (bD (aJ (⟨rfl, _, (oI h2).symm, bG, hO, hN⟩)))
        refine lS 6 ?_
        obtain rfl := oI h2
        obtain rfl : _ = rr1 := ho1
        replace h1 : fT cmp4 aA a1 i12 j13 = some out1 := h1
        exact aI (aZ (aZ (cC (aJ (⟨rfl, _, _, bG, hO, hN, h1⟩)))))
    refine cI 2 ?_
    refine mI [(0, (.msl 2 lo0p 0 (List.length aA))), (1, (eI a1)), (4, (.fn (.func cmp4_f) cmp4_a cmp4_c)), (12, (eI i12)), (13, (eI j13))] ?_
    refine lK (fun T H => ∃ aA : List aC, ∃ j13 : Int, Has T [(0, (.msl 2 lo0p 0 (List.length aA))), (1, (eI a1)), (4, (.fn (.func cmp4_f) cmp4_a cmp4_c)), (12, (eI i12)), (13, (eI j13))] ∧ aN ⟨H0, [lo0p], []⟩ H [(lo0p, 2, List.map aB aA)] ∧ List.length aA = N0 ∧ jI cmp4 aA a1 i12 j13 = some r) ?_ ⟨aA, j13, bG, hO, hN, h0⟩
    clear hO hN h0
    rintro T H ⟨aA, j13, hT, hO, hN, h0⟩
    refine bR hT ?_
    clear hT
    unfold jI at h0
    obtain ⟨rr0, hl0, h0⟩ := aY h0
    refine mV (fun (s : List aC × Int) T H => Has T [(0, (.msl 2 lo0p 0 (List.length s.1))), (1, (eI a1)), (4, (.fn (.func cmp4_f) cmp4_a cmp4_c)), (12, (eI i12)), (13, (eI s.2))] ∧ aN ⟨H0, [lo0p], []⟩ H [(lo0p, 2, List.map aB s.1)] ∧ List.length s.1 = N0) hl0 ⟨bG, hO, hN⟩ ?_
    clear hO hN
    rintro k0 s out1 T H ⟨hT, hO, hN⟩ h1 ho0
    obtain ⟨aA, j13⟩ := s
    replace h1 : jF cmp4 a1 i12 aA j13 = some out1 := h1
    try dsimp only at hT
    refine bR hT ?_
    clear hT
    unfold jF at h1
    refine aO ?_
    refine aO ?_
    obtain ⟨c35, h1⟩ := bC h1
    obtain ⟨c36, h1⟩ := bC h1
    obtain ⟨x37, hx38, h1⟩ := aY h1
    refine kB (jS []) aF 17 ?_
    refine tK (K := fun T H => Has (lift T) [(0, (.msl 2 lo0p 0 (List.length aA))), (1, (eI a1)), (4, (.fn (.func cmp4_f) cmp4_a cmp4_c)), (12, (eI i12)), (13, (eI j13)), (66, (aG ((decide (i12 ≤ j13)) && (!(decide (x37 < (0 : Int)))))))] ∧ aN ⟨H0, [lo0p], []⟩ H [(lo0p, 2, List.map aB aA)]) ?_ ?_
    · refine qE 4 ?_
      refine tC (t := 53) (e := decide (i12 ≤ j13)) (by kernel_rfl) (fun hg39 => ?_) (fun hg39 => ?_)
      · refine cQ 8 [0 ≤ j13 ∧ j13 < (lN aA)] ⟨(c35 hg39), trivial⟩ ?_
        refine uR 0 lo0p 2 (0 + Int.toNat j13) (aB (gD aA j13)) (aB (gD aA j13)) (List.map aB aA) hO (cB (c35 hg39)) ?_
        refine cQ 12 [0 ≤ a1 ∧ a1 < (lN aA)] ⟨(c36 hg39), trivial⟩ ?_
        refine uR 0 lo0p 2 (0 + Int.toNat a1) (aB (gD aA a1)) (aB (gD aA a1)) (List.map aB aA) hO (cB (c36 hg39)) ?_
        refine uN cmp4_f (cmp4_a ++ [(aB (gD aA j13)), (aB (gD aA a1))] ++ cmp4_c) (eI x37) (by kernel_rfl) (by kernel_rfl) (cmp4_h (gD aA j13) (gD aA a1) _ (pS hx38 hg39)) hO ?_
        intro H hO
        refine oK ?_
        exact ⟨⟨[(0, (.msl 2 lo0p 0 (List.length aA))), (1, (eI a1)), (4, (.fn (.func cmp4_f) cmp4_a cmp4_c)), (12, (eI i12)), (13, (eI j13)), (66, (aG (!(decide (x37 < (0 : Int))))))], by kernel_rfl, rfl, ⟨aP.refl _, aP.refl _, aP.refl _, aP.refl _, aP.refl _, aP.eq (congrArg aG (rH hg39 rfl).symm), trivial⟩⟩, hO⟩
      refine oK ?_
      exact ⟨⟨[(0, (.msl 2 lo0p 0 (List.length aA))), (1, (eI a1)), (4, (.fn (.func cmp4_f) cmp4_a cmp4_c)), (12, (eI i12)), (13, (eI j13)), (66, (aG false))], by kernel_rfl, rfl, ⟨aP.refl _, aP.refl _, aP.refl _, aP.refl _, aP.refl _, aP.eq (congrArg aG (rH hg39 rfl).symm), trivial⟩⟩, hO⟩
    · rintro T H ⟨hT, hO⟩
      refine dX hT ?_
      clear hT
      refine aI (aJ ?_)
      refine bV h1 (fun h1 => ?_) (fun h1 => ?_)
      · refine bT ?_
        refine bB [(0, (.msl 2 lo0p 0 (List.length aA))), (1, (eI a1)), (4, (.fn (.func cmp4_f) cmp4_a cmp4_c)), (12, (eI i12)), (13, (eI j13))] ?_
        refine cI 3 ?_
        refine aU aF 3 ?_
        refine bE ?_
        exact aI (bD (aJ (⟨rfl, _, (oI h1).symm, bG, hO, hN⟩)))
      refine lS 2 ?_
      obtain rfl := oI h1
      obtain rfl : _ = rr0 := ho0
      replace h0 : fS cmp4 aA a1 i12 j13 = some r := h0
      exact aI (aZ (aZ (cC (aJ (⟨rfl, _, _, bG, hO, hN, h0⟩)))))
  refine cI 0 ?_
  refine mI [(0, (.msl 2 lo0p 0 (List.length (List.set (List.set aA (Int.toNat a1) (gD aA bX)) (Int.toNat bX) (gD aA a1))))), (1, (eI a1)), (4, (.fn (.func cmp4_f) cmp4_a cmp4_c)), (12, (eI (wR (a1 + (1 : Int))))), (13, (eI (wR (b2 - (1 : Int)))))] ?_
  refine lK (fun T H => ∃ aA : List aC, ∃ i12 : Int, ∃ j13 : Int, Has T [(0, (.msl 2 lo0p 0 (List.length aA))), (1, (eI a1)), (4, (.fn (.func cmp4_f) cmp4_a cmp4_c)), (12, (eI i12)), (13, (eI j13))] ∧ aN ⟨H0, [lo0p], []⟩ H [(lo0p, 2, List.map aB aA)] ∧ List.length aA = N0 ∧ jA cmp4 aA a1 i12 j13 = some r) ?_ ⟨List.set (List.set aA (Int.toNat a1) (gD aA bX)) (Int.toNat bX) (gD aA a1), wR (a1 + (1 : Int)), wR (b2 - (1 : Int)), bG, hO, hN, h0⟩
  clear hO hN h0
  rintro T H ⟨aA, i12, j13, hT, hO, hN, h0⟩
  refine bR hT ?_
  clear hT
  unfold jA at h0
  obtain ⟨rr0, hl0, h0⟩ := aY h0
  refine mV (fun (s : List aC × Int) T H => Has T [(0, (.msl 2 lo0p 0 (List.length s.1))), (1, (eI a1)), (4, (.fn (.func cmp4_f) cmp4_a cmp4_c)), (12, (eI s.2)), (13, (eI j13))] ∧ aN ⟨H0, [lo0p], []⟩ H [(lo0p, 2, List.map aB s.1)] ∧ List.length s.1 = N0) hl0 ⟨bG, hO, hN⟩ ?_
  clear hO hN
  rintro k0 s out1 T H ⟨hT, hO, hN⟩ h1 ho0
  obtain ⟨aA, i12⟩ := s
  replace h1 : jC cmp4 a1 j13 aA i12 = some out1 := h1
  try dsimp only at hT
  refine bR hT ?_
  clear hT
  unfold jC at h1
  refine aO ?_
  refine aO ?_
  obtain ⟨c41, h1⟩ := bC h1
  obtain ⟨c42, h1⟩ := bC h1
  obtain ⟨x43, hx44, h1⟩ := aY h1
  refine kB (jS []) aF 16 ?_
  refine tK (K := fun T H => Has (lift T) [(0, (.msl 2 lo0p 0 (List.length aA))), (1, (eI a1)), (4, (.fn (.func cmp4_f) cmp4_a cmp4_c)), (12, (eI i12)), (13, (eI j13)), (47, (aG ((decide (i12 ≤ j13)) && (decide (x43 < (0 : Int))))))] ∧ aN ⟨H0, [lo0p], []⟩ H [(lo0p, 2, List.map aB aA)]) ?_ ?_
  · refine qE 4 ?_
    refine tC (t := 35) (e := decide (i12 ≤ j13)) (by kernel_rfl) (fun hg45 => ?_) (fun hg45 => ?_)
    · refine cQ 8 [0 ≤ i12 ∧ i12 < (lN aA)] ⟨(c41 hg45), trivial⟩ ?_
      refine uR 0 lo0p 2 (0 + Int.toNat i12) (aB (gD aA i12)) (aB (gD aA i12)) (List.map aB aA) hO (cB (c41 hg45)) ?_
      refine cQ 12 [0 ≤ a1 ∧ a1 < (lN aA)] ⟨(c42 hg45), trivial⟩ ?_
      refine uR 0 lo0p 2 (0 + Int.toNat a1) (aB (gD aA a1)) (aB (gD aA a1)) (List.map aB aA) hO (cB (c42 hg45)) ?_
      refine uN cmp4_f (cmp4_a ++ [(aB (gD aA i12)), (aB (gD aA a1))] ++ cmp4_c) (eI x43) (by kernel_rfl) (by kernel_rfl) (cmp4_h (gD aA i12) (gD aA a1) _ (pS hx44 hg45)) hO ?_
      intro H hO
      refine oK ?_
      exact ⟨⟨[(0, (.msl 2 lo0p 0 (List.length aA))), (1, (eI a1)), (4, (.fn (.func cmp4_f) cmp4_a cmp4_c)), (12, (eI i12)), (13, (eI j13)), (47, (aG (decide (x43 < (0 : Int)))))], by kernel_rfl, rfl, ⟨aP.refl _, aP.refl _, aP.refl _, aP.refl _, aP.refl _, aP.eq (congrArg aG (rH hg45 rfl).symm), trivial⟩⟩, hO⟩
    refine oK ?_
    exact ⟨⟨[(0, (.msl 2 lo0p 0 (List.length aA))), (1, (eI a1)), (4, (.fn (.func cmp4_f) cmp4_a cmp4_c)), (12, (eI i12)), (13, (eI j13)), (47, (aG false))], by kernel_rfl, rfl, ⟨aP.refl _, aP.refl _, aP.refl _, aP.refl _, aP.refl _, aP.eq (congrArg aG (rH hg45 rfl).symm), trivial⟩⟩, hO⟩
  · rintro T H ⟨hT, hO⟩
    refine dX hT ?_
    clear hT
    refine aI (aJ ?_)
    refine bV h1 (fun h1 => ?_) (fun h1 => ?_)
    · refine bT ?_
      refine bB [(0, (.msl 2 lo0p 0 (List.length aA))), (1, (eI a1)), (4, (.fn (.func cmp4_f) cmp4_a cmp4_c)), (12, (eI i12)), (13, (eI j13))] ?_
      refine cI 1 ?_
      refine aU aF 3 ?_
      refine bE ?_
      exact aI (bD (aJ (⟨rfl, _, (oI h1).symm, bG, hO, hN⟩)))
    refine lS 0 ?_
    obtain rfl := oI h1
    obtain rfl : _ = rr0 := ho0
    replace h0 : fX cmp4 aA a1 i12 j13 = some r := h0
    exact aI (aZ (aZ (cC (aJ (⟨rfl, _, _, _, bG, hO, hN, h0⟩)))))

theorem wU (cmp4_f : Nat) (cmp4_a cmp4_c : List V) (cmp4 : aC → aC → Option Int) (cmp4_h : ∀ a0 a1 r, cmp4 a0 a1 = some r → dK Try.prog cmp4_f (cmp4_a ++ [(aB a0), (aB a1)] ++ cmp4_c) (eI r)) (rec : (List aC) → Int → Int → Int → Option (List aC)) (ih : ∀ (lo0p : Nat) (aA : (List aC)) (a1 : Int) (b2 : Int) (bJ : Int) (r : List aC), rec aA a1 b2 bJ = some r → sA Try.prog 37 lo0p 2 (List.map aB aA) (List.map aB r) [(.msl 2 lo0p 0 (List.length aA)), (eI a1), (eI b2), (eI bJ), (.fn (.func cmp4_f) cmp4_a cmp4_c)] (.tup [])) (lo0p : Nat) (aA : (List aC)) (a1 : Int) (b2 : Int) (bJ : Int) (r : List aC) (h0 : jL cmp4 rec aA a1 b2 bJ = some r) : sA Try.prog 37 lo0p 2 (List.map aB aA) (List.map aB r) [(.msl 2 lo0p 0 (List.length aA)), (eI a1), (eI b2), (eI bJ), (.fn (.func cmp4_f) cmp4_a cmp4_c)] (.tup []) := by
  intro H0 hl0
  refine dP Try.func37 ?_
  have hO := aN.uL hl0
  clear hl0
  obtain ⟨N0, hN0⟩ : ∃ n, n = List.length aA := ⟨_, rfl⟩
  have hN : List.length aA = N0 := hN0.symm
  unfold jL at h0
  refine aX aF 1 [] [(10, (aG true))] ?_
  refine aX aF 1 [] [(11, (aG true))] ?_
  refine cI 0 ?_
  refine mI [(0, (.msl 2 lo0p 0 (List.length aA))), (1, (eI a1)), (2, (eI b2)), (3, (eI bJ)), (4, (.fn (.func cmp4_f) cmp4_a cmp4_c)), (10, (aG true)), (11, (aG true))] ?_
  refine lK (fun T H => ∃ aA : List aC, ∃ a1 : Int, ∃ b2 : Int, ∃ bJ : Int, ∃ bH : Bool, ∃ bA : Bool, Has T [(0, (.msl 2 lo0p 0 (List.length aA))), (1, (eI a1)), (2, (eI b2)), (3, (eI bJ)), (4, (.fn (.func cmp4_f) cmp4_a cmp4_c)), (10, (aG bH)), (11, (aG bA))] ∧ aN ⟨H0, [lo0p], []⟩ H [(lo0p, 2, List.map aB aA)] ∧ List.length aA = N0 ∧ kQ cmp4 rec aA a1 b2 bJ bH bA = some r) ?_ ⟨aA, a1, b2, bJ, true, true, bG, hO, hN, h0⟩
  clear hO hN h0
  rintro T H ⟨aA, a1, b2, bJ, bH, bA, hT, hO, hN, h0⟩
  refine bR hT ?_
  clear hT
  unfold kQ at h0
  obtain ⟨rr0, hl0, h0⟩ := aY h0
  refine mV (fun (s : List aC × Int × Int × Int × Bool × Bool) T H => Has T [(0, (.msl 2 lo0p 0 (List.length s.1))), (1, (eI s.2.1)), (2, (eI s.2.2.1)), (3, (eI s.2.2.2.1)), (4, (.fn (.func cmp4_f) cmp4_a cmp4_c)), (10, (aG s.2.2.2.2.1)), (11, (aG s.2.2.2.2.2))] ∧ aN ⟨H0, [lo0p], []⟩ H [(lo0p, 2, List.map aB s.1)] ∧ List.length s.1 = N0) hl0 ⟨bG, hO, hN⟩ ?_
  clear hO hN
  rintro k0 s out1 T H ⟨hT, hO, hN⟩ h1 ho0
  obtain ⟨aA, a1, b2, bJ, bH, bA⟩ := s
  replace h1 : kS cmp4 rec aA a1 b2 bJ bH bA = some out1 := h1
  try dsimp only at hT
  refine bR hT ?_
  clear hT
  unfold kS at h1
  refine cI 1 ?_
  refine aX aF 4 [] [(12, (eI (wR (b2 - a1))))] ?_
  refine aO ?_
  refine aX aF 2 [] [(25, (aG (decide ((wR (b2 - a1)) ≤ (12 : Int)))))] ?_
  refine bV h1 (fun h1 => ?_) (fun h1 => ?_)
  · refine aO ?_
    refine aU aF 5 ?_
    refine bO 4 ?_
    obtain ⟨x2, hx3, h1⟩ := aY h1
    refine DH [(lo0p, 2, List.map aB x2)] 0 (wI lo0p aA a1 b2 cmp4_f cmp4_a cmp4_c cmp4 cmp4_h _ hx3) hO ?_
    intro H hO hl4
    simp only [List.length_map] at hl4
    replace hN := hl4.trans hN
    refine fC ?_
    refine dX (l := [(0, (.msl 2 lo0p 0 (List.length x2)))]) ⟨[(0, (.msl 2 lo0p 0 (List.length aA)))], by kernel_rfl, rfl, ⟨aP.eq (by simp [hl4]), trivial⟩⟩ ?_
    refine aI (aJ (?_))
    refine bQ ?_
    obtain rfl := oI h1
    obtain rfl : _ = rr0 := ho0
    replace h0 : some x2 = some r := h0
    obtain rfl := oI h0
    exact aI (aV (bW (aV (bW (nL (x := (.tup [])) (by kernel_rfl) (aP.refl _) ⟨rfl, hO.ext, hO.at 0 (by kernel_rfl), by simp only [List.length_map]; exact hN.trans hN0⟩)))))
  refine bT ?_
  refine bB [(0, (.msl 2 lo0p 0 (List.length aA))), (1, (eI a1)), (2, (eI b2)), (3, (eI bJ)), (4, (.fn (.func cmp4_f) cmp4_a cmp4_c)), (10, (aG bH)), (11, (aG bA)), (12, (eI (wR (b2 - a1))))] ?_
  refine aO ?_
  refine aX aF 2 [] [(32, (aG (decide (bJ = (0 : Int)))))] ?_
  refine bV h1 (fun h1 => ?_) (fun h1 => ?_)
  · refine aO ?_
    refine aU aF 5 ?_
    refine bO 4 ?_
    obtain ⟨x6, hx7, h1⟩ := aY h1
    refine DH [(lo0p, 2, List.map aB x6)] 0 (zX lo0p aA a1 b2 cmp4_f cmp4_a cmp4_c cmp4 cmp4_h _ hx7) hO ?_
    intro H hO hl8
    simp only [List.length_map] at hl8
    replace hN := hl8.trans hN
    refine fC ?_
    refine dX (l := [(0, (.msl 2 lo0p 0 (List.length x6)))]) ⟨[(0, (.msl 2 lo0p 0 (List.length aA)))], by kernel_rfl, rfl, ⟨aP.eq (by simp [hl8]), trivial⟩⟩ ?_
    refine aI (aJ (?_))
    refine bQ ?_
    obtain rfl := oI h1
    obtain rfl : _ = rr0 := ho0
    replace h0 : some x6 = some r := h0
    obtain rfl := oI h0
    exact aI (aV (bW (aV (bW (nL (x := (.tup [])) (by kernel_rfl) (aP.refl _) ⟨rfl, hO.ext, hO.at 0 (by kernel_rfl), by simp only [List.length_map]; exact hN.trans hN0⟩)))))
  refine bT ?_
  refine bB [(0, (.msl 2 lo0p 0 (List.length aA))), (1, (eI a1)), (2, (eI b2)), (3, (eI bJ)), (4, (.fn (.func cmp4_f) cmp4_a cmp4_c)), (10, (aG bH)), (11, (aG bA)), (12, (eI (wR (b2 - a1))))] ?_
  refine lY (fun T H => ∃ aA : List aC, ∃ bJ : Int, ∃ cX : Int, Has T [(0, (.msl 2 lo0p 0 (List.length aA))), (1, (eI a1)), (2, (eI b2)), (3, (eI bJ)), (4, (.fn (.func cmp4_f) cmp4_a cmp4_c)), (10, (aG bH)), (11, (aG bA)), (12, (eI cX))] ∧ aN ⟨H0, [lo0p], []⟩ H [(lo0p, 2, List.map aB aA)] ∧ List.length aA = N0 ∧ iD cmp4 rec aA a1 b2 bJ bH bA cX = some out1) ?_ ?_
  · clear hO hN h1
    rintro T H ⟨aA, bJ, cX, hT, hO, hN, h1⟩
    refine bR hT ?_
    clear hT
    unfold iD at h1
    refine aO ?_
    refine aU aF 10 ?_
    refine bO 4 ?_
    obtain ⟨x9, hx10, h1⟩ := aY h1
    refine KP [] [0] (xK lo0p aA a1 b2 cmp4_f cmp4_a cmp4_c cmp4 cmp4_h _ hx10) hO ?_
    intro r11 L12 H hP13 hO
    obtain ⟨rfl, rfl⟩ := hP13
    replace hO : aN ⟨H0, [lo0p], []⟩ H [(lo0p, 2, List.map aB aA)] := hO
    refine bE ?_
    refine cO [] [(13, (eI x9.1)), (14, (eI x9.2))] ?_
    refine lY (fun T H => ∃ aA : List aC, ∃ fL : Int, ∃ CL : Int, Has T [(0, (.msl 2 lo0p 0 (List.length aA))), (1, (eI a1)), (2, (eI b2)), (3, (eI bJ)), (4, (.fn (.func cmp4_f) cmp4_a cmp4_c)), (10, (aG bH)), (11, (aG bA)), (12, (eI cX)), (13, (eI fL)), (14, (eI CL))] ∧ aN ⟨H0, [lo0p], []⟩ H [(lo0p, 2, List.map aB aA)] ∧ List.length aA = N0 ∧ iE cmp4 rec aA a1 b2 bJ bH bA cX fL CL = some out1) ?_ ?_
    · clear hO hN h1
      rintro T H ⟨aA, fL, CL, hT, hO, hN, h1⟩
      refine bR hT ?_
      clear hT
      unfold iE at h1
      refine lY (fun T H => ∃ aA : List aC, Has T [(0, (.msl 2 lo0p 0 (List.length aA))), (1, (eI a1)), (2, (eI b2)), (3, (eI bJ)), (4, (.fn (.func cmp4_f) cmp4_a cmp4_c)), (10, (aG bH)), (11, (aG bA)), (12, (eI cX)), (13, (eI fL))] ∧ aN ⟨H0, [lo0p], []⟩ H [(lo0p, 2, List.map aB aA)] ∧ List.length aA = N0 ∧ iH cmp4 rec aA a1 b2 bJ bH bA cX fL = some out1) ?_ ?_
      · clear hO hN h1
        rintro T H ⟨aA, hT, hO, hN, h1⟩
        refine bR hT ?_
        clear hT
        unfold iH at h1
        refine aO ?_
        refine aO ?_
        obtain ⟨c14, h1⟩ := bC h1
        obtain ⟨c15, h1⟩ := bC h1
        obtain ⟨x16, hx17, h1⟩ := aY h1
        refine kB (jS []) aF 17 ?_
        refine tK (K := fun T H => Has (lift T) [(0, (.msl 2 lo0p 0 (List.length aA))), (1, (eI a1)), (2, (eI b2)), (3, (eI bJ)), (4, (.fn (.func cmp4_f) cmp4_a cmp4_c)), (10, (aG bH)), (11, (aG bA)), (12, (eI cX)), (13, (eI fL)), (97, (aG ((decide ((0 : Int) < a1)) && (!(decide (x16 < (0 : Int)))))))] ∧ aN ⟨H0, [lo0p], []⟩ H [(lo0p, 2, List.map aB aA)]) ?_ ?_
        · refine qE 3 ?_
          refine tC (t := 83) (e := decide ((0 : Int) < a1)) (by kernel_rfl) (fun hg18 => ?_) (fun hg18 => ?_)
          · refine cQ 8 [0 ≤ (wR (a1 - (1 : Int))) ∧ (wR (a1 - (1 : Int))) < (lN aA)] ⟨(c14 hg18), trivial⟩ ?_
            refine uR 0 lo0p 2 (0 + Int.toNat (wR (a1 - (1 : Int)))) (aB (gD aA (wR (a1 - (1 : Int))))) (aB (gD aA (wR (a1 - (1 : Int))))) (List.map aB aA) hO (cB (c14 hg18)) ?_
            refine cQ 12 [0 ≤ fL ∧ fL < (lN aA)] ⟨(c15 hg18), trivial⟩ ?_
            refine uR 0 lo0p 2 (0 + Int.toNat fL) (aB (gD aA fL)) (aB (gD aA fL)) (List.map aB aA) hO (cB (c15 hg18)) ?_
            refine uN cmp4_f (cmp4_a ++ [(aB (gD aA (wR (a1 - (1 : Int))))), (aB (gD aA fL))] ++ cmp4_c) (eI x16) (by kernel_rfl) (by kernel_rfl) (cmp4_h (gD aA (wR (a1 - (1 : Int)))) (gD aA fL) _ (pS hx17 hg18)) hO ?_
            intro H hO
            refine oK ?_
            exact ⟨⟨[(0, (.msl 2 lo0p 0 (List.length aA))), (1, (eI a1)), (2, (eI b2)), (3, (eI bJ)), (4, (.fn (.func cmp4_f) cmp4_a cmp4_c)), (10, (aG bH)), (11, (aG bA)), (12, (eI cX)), (13, (eI fL)), (97, (aG (!(decide (x16 < (0 : Int))))))], by kernel_rfl, rfl, ⟨aP.refl _, aP.refl _, aP.refl _, aP.refl _, aP.refl _, aP.refl _, aP.refl _, aP.refl _, aP.refl _, aP.eq (congrArg aG (rH hg18 rfl).symm), trivial⟩⟩, hO⟩
          refine oK ?_
          exact ⟨⟨[(0, (.msl 2 lo0p 0 (List.length aA))), (1, (eI a1)), (2, (eI b2)), (3, (eI bJ)), (4, (.fn (.func cmp4_f) cmp4_a cmp4_c)), (10, (aG bH)), (11, (aG bA)), (12, (eI cX)), (13, (eI fL)), (97, (aG false))], by kernel_rfl, rfl, ⟨aP.refl _, aP.refl _, aP.refl _, aP.refl _, aP.refl _, aP.refl _, aP.refl _, aP.refl _, aP.refl _, aP.eq (congrArg aG (rH hg18 rfl).symm), trivial⟩⟩, hO⟩
        · rintro T H ⟨hT, hO⟩
          refine dX hT ?_
          clear hT
          refine aI (aJ ?_)
          refine bV h1 (fun h1 => ?_) (fun h1 => ?_)
          · refine aO ?_
            refine aU aF 7 ?_
            refine bO 5 ?_
            obtain ⟨x20, hx21, h1⟩ := aY h1
            refine DH [(lo0p, 2, List.map aB x20.2)] 0 (vU lo0p aA a1 b2 fL cmp4_f cmp4_a cmp4_c cmp4 cmp4_h _ hx21) hO ?_
            intro H hO hl22
            simp only [List.length_map] at hl22
            replace hN := hl22.trans hN
            refine bE ?_
            refine dX (l := [(0, (.msl 2 lo0p 0 (List.length x20.2))), (2, (eI b2)), (3, (eI bJ)), (4, (.fn (.func cmp4_f) cmp4_a cmp4_c)), (10, (aG bH)), (11, (aG bA)), (15, (eI x20.1))]) ⟨[(0, (.msl 2 lo0p 0 (List.length aA))), (2, (eI b2)), (3, (eI bJ)), (4, (.fn (.func cmp4_f) cmp4_a cmp4_c)), (10, (aG bH)), (11, (aG bA)), (15, (eI x20.1))], by kernel_rfl, rfl, ⟨aP.eq (by simp [hl22]), aP.refl _, aP.refl _, aP.refl _, aP.refl _, aP.refl _, aP.refl _, trivial⟩⟩ ?_
            refine aI (aJ (?_))
            refine aX aF 2 [15] [(1, (eI x20.1))] ?_
            refine lS 1 ?_
            exact aI (aZ (cC (aJ (⟨rfl, _, (oI h1).symm, bG, hO, hN⟩))))
          refine bT ?_
          refine bB [(0, (.msl 2 lo0p 0 (List.length aA))), (1, (eI a1)), (2, (eI b2)), (3, (eI bJ)), (4, (.fn (.func cmp4_f) cmp4_a cmp4_c)), (12, (eI cX)), (13, (eI fL))] ?_
          refine aO ?_
          refine aU aF 11 ?_
          refine bO 5 ?_
          obtain ⟨x23, hx24, h1⟩ := aY h1
          refine DH [(lo0p, 2, List.map aB x23.2)] 0 (zH lo0p aA a1 b2 fL cmp4_f cmp4_a cmp4_c cmp4 cmp4_h _ hx24) hO ?_
          intro H hO hl25
          simp only [List.length_map] at hl25
          replace hN := hl25.trans hN
          refine bE ?_
          refine dX (l := [(0, (.msl 2 lo0p 0 (List.length x23.2))), (1, (eI a1)), (2, (eI b2)), (3, (eI bJ)), (4, (.fn (.func cmp4_f) cmp4_a cmp4_c)), (12, (eI cX)), (16, (eI x23.1.1)), (17, (aG x23.1.2))]) ⟨[(0, (.msl 2 lo0p 0 (List.length aA))), (1, (eI a1)), (2, (eI b2)), (3, (eI bJ)), (4, (.fn (.func cmp4_f) cmp4_a cmp4_c)), (12, (eI cX)), (16, (eI x23.1.1)), (17, (aG x23.1.2))], by kernel_rfl, rfl, ⟨aP.eq (by simp [hl25]), aP.refl _, aP.refl _, aP.refl _, aP.refl _, aP.refl _, aP.refl _, aP.refl _, trivial⟩⟩ ?_
          refine aI (aJ (?_))
          refine aX aF 2 [17] [(11, (aG x23.1.2))] ?_
          refine aX aF 8 [] [(18, (eI (wR (x23.1.1 - a1)))), (19, (eI (wR (b2 - x23.1.1))))] ?_
          refine aO ?_
          refine aU aF 3 ?_
          obtain ⟨c26, h1⟩ := bC h1
          refine sV [(8 : Int) ≠ 0] ⟨c26, trivial⟩ ?_
          refine cO [12] [(20, (eI (wR (Int.tdiv cX (8 : Int)))))] ?_
          refine aX aF 3 [] [(125, (aG (decide ((wR (x23.1.1 - a1)) < (wR (b2 - x23.1.1))))))] ?_
          refine bV h1 (fun h1 => ?_) (fun h1 => ?_)
          · refine cJ aF 4 [(0, (.msl 2 lo0p 0 (List.length x23.2))), (1, (eI a1)), (2, (eI b2)), (3, (eI bJ)), (4, (.fn (.func cmp4_f) cmp4_a cmp4_c)), (10, (aG (decide ((wR (Int.tdiv cX (8 : Int))) ≤ (wR (x23.1.1 - a1)))))), (11, (aG x23.1.2)), (16, (eI x23.1.1))] ?_
            refine aO ?_
            refine aU aF 6 ?_
            refine bO 5 ?_
            obtain ⟨x28, hx29, h1⟩ := aY h1
            refine DH [(lo0p, 2, List.map aB x28)] 0 (ih lo0p x23.2 a1 x23.1.1 bJ _ hx29) hO ?_
            intro H hO hl30
            simp only [List.length_map] at hl30
            replace hN := hl30.trans hN
            refine fC ?_
            refine dX (l := [(0, (.msl 2 lo0p 0 (List.length x28))), (2, (eI b2)), (3, (eI bJ)), (4, (.fn (.func cmp4_f) cmp4_a cmp4_c)), (10, (aG (decide ((wR (Int.tdiv cX (8 : Int))) ≤ (wR (x23.1.1 - a1)))))), (11, (aG x23.1.2)), (16, (eI x23.1.1))]) ⟨[(0, (.msl 2 lo0p 0 (List.length x23.2))), (2, (eI b2)), (3, (eI bJ)), (4, (.fn (.func cmp4_f) cmp4_a cmp4_c)), (10, (aG (decide ((wR (Int.tdiv cX (8 : Int))) ≤ (wR (x23.1.1 - a1)))))), (11, (aG x23.1.2)), (16, (eI x23.1.1))], by kernel_rfl, rfl, ⟨aP.eq (by simp [hl30]), aP.refl _, aP.refl _, aP.refl _, aP.refl _, aP.refl _, aP.refl _, trivial⟩⟩ ?_
            refine aI (aJ (?_))
            refine aU aF 3 ?_
            refine bE ?_
            exact aI (bD (aJ (⟨rfl, _, (oI h1).symm, bG, hO, hN⟩)))
          refine cJ aF 4 [(0, (.msl 2 lo0p 0 (List.length x23.2))), (1, (eI a1)), (2, (eI b2)), (3, (eI bJ)), (4, (.fn (.func cmp4_f) cmp4_a cmp4_c)), (10, (aG (decide ((wR (Int.tdiv cX (8 : Int))) ≤ (wR (b2 - x23.1.1)))))), (11, (aG x23.1.2)), (16, (eI x23.1.1))] ?_
          refine aO ?_
          refine aU aF 7 ?_
          refine bO 6 ?_
          obtain ⟨x31, hx32, h1⟩ := aY h1
          refine DH [(lo0p, 2, List.map aB x31)] 0 (ih lo0p x23.2 (wR (x23.1.1 + (1 : Int))) b2 bJ _ hx32) hO ?_
          intro H hO hl33
          simp only [List.length_map] at hl33
          replace hN := hl33.trans hN
          refine fC ?_
          refine dX (l := [(0, (.msl 2 lo0p 0 (List.length x31))), (1, (eI a1)), (3, (eI bJ)), (4, (.fn (.func cmp4_f) cmp4_a cmp4_c)), (10, (aG (decide ((wR (Int.tdiv cX (8 : Int))) ≤ (wR (b2 - x23.1.1)))))), (11, (aG x23.1.2)), (16, (eI x23.1.1))]) ⟨[(0, (.msl 2 lo0p 0 (List.length x23.2))), (1, (eI a1)), (3, (eI bJ)), (4, (.fn (.func cmp4_f) cmp4_a cmp4_c)), (10, (aG (decide ((wR (Int.tdiv cX (8 : Int))) ≤ (wR (b2 - x23.1.1)))))), (11, (aG x23.1.2)), (16, (eI x23.1.1))], by kernel_rfl, rfl, ⟨aP.eq (by simp [hl33]), aP.refl _, aP.refl _, aP.refl _, aP.refl _, aP.refl _, aP.refl _, trivial⟩⟩ ?_
          refine aI (aJ (?_))
          refine aU aF 2 ?_
          refine bE ?_
          exact aI (bD (aJ (⟨rfl, _, (oI h1).symm, bG, hO, hN⟩)))
      refine aX aF 8 [14] [(75, (aG ((bH && bA) && (decide (CL = (1 : Int))))))] ?_
      refine bV h1 (fun h1 => ?_) (fun h1 => ?_)
      · refine aO ?_
        refine aU aF 5 ?_
        refine bO 4 ?_
        obtain ⟨x35, hx36, h1⟩ := aY h1
        refine DH [(lo0p, 2, List.map aB x35.2)] 0 (tU lo0p aA a1 b2 cmp4_f cmp4_a cmp4_c cmp4 cmp4_h _ hx36) hO ?_
        intro H hO hl37
        simp only [List.length_map] at hl37
        replace hN := hl37.trans hN
        refine fC ?_
        refine dX (l := [(0, (.msl 2 lo0p 0 (List.length x35.2))), (1, (eI a1)), (2, (eI b2)), (3, (eI bJ)), (4, (.fn (.func cmp4_f) cmp4_a cmp4_c)), (10, (aG bH)), (11, (aG bA)), (12, (eI cX)), (13, (eI fL)), (80, (aG x35.1))]) ⟨[(0, (.msl 2 lo0p 0 (List.length aA))), (1, (eI a1)), (2, (eI b2)), (3, (eI bJ)), (4, (.fn (.func cmp4_f) cmp4_a cmp4_c)), (10, (aG bH)), (11, (aG bA)), (12, (eI cX)), (13, (eI fL)), (80, (aG x35.1))], by kernel_rfl, rfl, ⟨aP.eq (by simp [hl37]), aP.refl _, aP.refl _, aP.refl _, aP.refl _, aP.refl _, aP.refl _, aP.refl _, aP.refl _, aP.refl _, trivial⟩⟩ ?_
        refine aI (aJ (?_))
        refine bV h1 (fun h1 => ?_) (fun h1 => ?_)
        · refine bQ ?_
          obtain rfl := oI h1
          obtain rfl : _ = rr0 := ho0
          replace h0 : some x35.2 = some r := h0
          obtain rfl := oI h0
          exact aI (aV (bW (aV (bW (nL (x := (.tup [])) (by kernel_rfl) (aP.refl _) ⟨rfl, hO.ext, hO.at 0 (by kernel_rfl), by simp only [List.length_map]; exact hN.trans hN0⟩)))))
        refine bT ?_
        exact aI (aJ (⟨rfl, _, bG, hO, hN, h1⟩))
      refine bT ?_
      exact aI (aJ (⟨rfl, _, bG, hO, hN, h1⟩))
    refine aX aF 2 [] [(56, (aG (decide (x9.2 = (2 : Int)))))] ?_
    refine bV h1 (fun h1 => ?_) (fun h1 => ?_)
    · refine aO ?_
      refine aU aF 5 ?_
      refine bO 4 ?_
      obtain ⟨x40, hx41, h1⟩ := aY h1
      refine DH [(lo0p, 2, List.map aB x40)] 0 (wV lo0p aA a1 b2 cmp4_f cmp4_a cmp4_c cmp4 cmp4_h _ hx41) hO ?_
      intro H hO hl42
      simp only [List.length_map] at hl42
      replace hN := hl42.trans hN
      refine fC ?_
      refine dX (l := [(0, (.msl 2 lo0p 0 (List.length x40))), (1, (eI a1)), (2, (eI b2)), (3, (eI bJ)), (4, (.fn (.func cmp4_f) cmp4_a cmp4_c)), (10, (aG bH)), (11, (aG bA)), (12, (eI cX)), (13, (eI x9.1))]) ⟨[(0, (.msl 2 lo0p 0 (List.length aA))), (1, (eI a1)), (2, (eI b2)), (3, (eI bJ)), (4, (.fn (.func cmp4_f) cmp4_a cmp4_c)), (10, (aG bH)), (11, (aG bA)), (12, (eI cX)), (13, (eI x9.1))], by kernel_rfl, rfl, ⟨aP.eq (by simp [hl42]), aP.refl _, aP.refl _, aP.refl _, aP.refl _, aP.refl _, aP.refl _, aP.refl _, aP.refl _, trivial⟩⟩ ?_
      refine aI (aJ (?_))
      refine aX aF 7 [13] [(13, (eI (wR ((wR (b2 - (1 : Int))) - (wR (x9.1 - a1))))))] ?_
      refine aU aF 1 ?_
      refine bE ?_
      exact aI (aJ (⟨rfl, _, _, _, bG, hO, hN, h1⟩))
    refine bT ?_
    exact aI (aJ (⟨rfl, _, _, _, bG, hO, hN, h1⟩))
  refine aX aF 2 [] [(39, (aG (!bH)))] ?_
  refine bV h1 (fun h1 => ?_) (fun h1 => ?_)
  · refine aO ?_
    refine aU aF 5 ?_
    refine bO 4 ?_
    obtain ⟨x44, hx45, h1⟩ := aY h1
    refine DH [(lo0p, 2, List.map aB x44)] 0 (wK lo0p aA a1 b2 cmp4_f cmp4_a cmp4_c cmp4 cmp4_h _ hx45) hO ?_
    intro H hO hl46
    simp only [List.length_map] at hl46
    replace hN := hl46.trans hN
    refine fC ?_
    refine dX (l := [(0, (.msl 2 lo0p 0 (List.length x44))), (1, (eI a1)), (2, (eI b2)), (3, (eI bJ)), (4, (.fn (.func cmp4_f) cmp4_a cmp4_c)), (10, (aG bH)), (11, (aG bA)), (12, (eI (wR (b2 - a1))))]) ⟨[(0, (.msl 2 lo0p 0 (List.length aA))), (1, (eI a1)), (2, (eI b2)), (3, (eI bJ)), (4, (.fn (.func cmp4_f) cmp4_a cmp4_c)), (10, (aG bH)), (11, (aG bA)), (12, (eI (wR (b2 - a1))))], by kernel_rfl, rfl, ⟨aP.eq (by simp [hl46]), aP.refl _, aP.refl _, aP.refl _, aP.refl _, aP.refl _, aP.refl _, aP.refl _, trivial⟩⟩ ?_
    refine aI (aJ (?_))
    refine aU aF 3 ?_
    refine bE ?_
    exact aI (aJ (⟨rfl, _, _, _, bG, hO, hN, h1⟩))
  refine bT ?_
  exact aI (aJ (⟨rfl, _, _, _, bG, hO, hN, h1⟩))

theorem rI (cmp4_f : Nat) (cmp4_a cmp4_c : List V) (cmp4 : aC → aC → Option Int) (cmp4_h : ∀ a0 a1 r, cmp4 a0 a1 = some r → dK Try.prog cmp4_f (cmp4_a ++ [(aB a0), (aB a1)] ++ cmp4_c) (eI r)) : ∀ (k : Nat) (lo0p : Nat) (aA : (List aC)) (a1 : Int) (b2 : Int) (bJ : Int) (r : List aC), iC cmp4 k aA a1 b2 bJ = some r → sA Try.prog 37 lo0p 2 (List.map aB aA) (List.map aB r) [(.msl 2 lo0p 0 (List.length aA)), (eI a1), (eI b2), (eI bJ), (.fn (.func cmp4_f) cmp4_a cmp4_c)] (.tup [])
  | 0, _, _, _, _, _, _, h => by cases h
  | k + 1, lo0p, aA, a1, b2, bJ, r, h => wU cmp4_f cmp4_a cmp4_c cmp4 cmp4_h _ (rI cmp4_f cmp4_a cmp4_c cmp4 cmp4_h k) lo0p aA a1 b2 bJ r h

theorem AZ (lo0p : Nat) (aA : (List aC)) (a1 : Int) (b2 : Int) (bJ : Int) (cmp4_f : Nat) (cmp4_a cmp4_c : List V) (cmp4 : aC → aC → Option Int) (cmp4_h : ∀ a0 a1 r, cmp4 a0 a1 = some r → dK Try.prog cmp4_f (cmp4_a ++ [(aB a0), (aB a1)] ++ cmp4_c) (eI r)) (r : List aC) (h0 : pZ aA a1 b2 bJ cmp4 = some r) : sA Try.prog 37 lo0p 2 (List.map aB aA) (List.map aB r) [(.msl 2 lo0p 0 (List.length aA)), (eI a1), (eI b2), (eI bJ), (.fn (.func cmp4_f) cmp4_a cmp4_c)] (.tup []) := by
  obtain ⟨k, hk⟩ := aDh h0
  exact rI cmp4_f cmp4_a cmp4_c cmp4 cmp4_h k lo0p aA a1 b2 bJ r hk

theorem xZ (lo0p : Nat) (x0 : (List aC)) (cmp1_f : Nat) (cmp1_a cmp1_c : List V) (cmp1 : aC → aC → Option Int) (cmp1_h : ∀ a0 a1 r, cmp1 a0 a1 = some r → dK Try.prog cmp1_f (cmp1_a ++ [(aB a0), (aB a1)] ++ cmp1_c) (eI r)) (r : List aC) (h0 : fU x0 cmp1 = some r) : sA Try.prog 23 lo0p 2 (List.map aB x0) (List.map aB r) [(.msl 2 lo0p 0 (List.length x0)), (.fn (.func cmp1_f) cmp1_a cmp1_c)] (.tup []) := by
  intro H0 hl0
  refine dP Try.func23 ?_
  have hO := aN.uL hl0
  clear hl0
  obtain ⟨N0, hN0⟩ : ∃ n, n = List.length x0 := ⟨_, rfl⟩
  have hN : List.length x0 = N0 := hN0.symm
  unfold fU at h0
  refine aX aF 3 [] [(4, (eI (lN x0)))] ?_
  refine aU aF 7 ?_
  refine bO 4 ?_
  obtain ⟨x1, hx2, h0⟩ := aY h0
  refine iI (IX (IntKind.u64.wrap (lN x0)) _ hx2) hO ?_
  intro H hO
  refine bO 6 ?_
  obtain ⟨x4, hx5, h0⟩ := aY h0
  refine DH [(lo0p, 2, List.map aB x4)] 0 (AZ lo0p x0 (0 : Int) (lN x0) x1 cmp1_f cmp1_a cmp1_c cmp1 cmp1_h _ hx5) hO ?_
  intro H hO hl6
  simp only [List.length_map] at hl6
  replace hN := hl6.trans hN
  refine fC ?_
  refine dX (l := [(0, (.msl 2 lo0p 0 (List.length x4)))]) ⟨[(0, (.msl 2 lo0p 0 (List.length x0)))], by kernel_rfl, rfl, ⟨aP.eq (by simp [hl6]), trivial⟩⟩ ?_
  obtain rfl := oI h0
  exact aI (FP (x := (.tup [])) (by kernel_rfl) (aP.refl _) ⟨rfl, hO.ext, hO.at 0 (by kernel_rfl), by simp only [List.length_map]; exact hN.trans hN0⟩)

theorem PO (x0 : aC) (y1 : aC) (r : Int) (h0 : pJ x0 y1 = some r) : dK Try.prog 24 [(aB x0), (aB y1)] (eI r) := by
  intro H0
  refine dP Try.func24 ?_
  have hO := aN.start H0
  unfold pJ at h0
  refine aO ?_
  refine aU aF 3 ?_
  refine xP 2 (aB x0) ?_
  refine xP 2 (aB y1) ?_
  refine bE ?_
  refine bB [(2, (.rp (aB x0))), (3, (.rp (aB y1)))] ?_
  refine aO ?_
  refine aU aF 6 ?_
  refine bO 4 ?_
  obtain ⟨x1, hx2, h0⟩ := aY h0
  refine iI (MT x0.row y1.row _ hx2) hO ?_
  intro H hO
  refine bE ?_
  refine bB [(4, (eI x1))] ?_
  refine bQ ?_
  obtain rfl := oI h0
  exact aI (Q_r hO)

theorem aB9 (lo0p : Nat) (l0 : (List aM)) (r1 : (List aE)) (f2 : (List aD)) (r : (List aM)) (h0 : CA l0 r1 f2 = some r) : XH Try.prog 45 lo0p 3 (List.map aR l0) [(.msl 3 lo0p 0 (List.length l0)), (eL aL r1), (eL aK f2)] (fun lo => .msl 3 lo 0 (List.length r)) (List.map aR r) := by
  intro H0 hl0
  refine dP Try.func45 ?_
  have hO := aN.uL hl0
  clear hl0
  unfold CA at h0
  refine aX aF 1 [] [] ?_
  refine lY (fun T H => ∃ l0 : List aM, ∃ lo1 : Nat, Has T [(0, (.msl 3 lo1 0 (List.length l0)))] ∧ aN ⟨H0, [lo0p], []⟩ H [(lo1, 3, List.map aR l0)] ∧ ED l0 = some r) ?_ ?_
  · clear hO h0
    rintro T H ⟨l0, lo1, hT, hO, h0⟩
    refine bR hT ?_
    clear hT
    unfold ED at h0
    refine cJ aF 2 [(6, (.msl 3 lo1 0 (List.length l0)))] ?_
    refine bQ ?_
    obtain rfl := oI h0
    exact aI (nL (x := (.msl 3 lo1 0 (List.length l0))) (by kernel_rfl) (aP.refl _) ⟨lo1, rfl, hO⟩)
  refine aX aF 3 [2] [(9, (eL aK f2)), (10, (eI (lN f2))), (11, (eI (0 : Int)))] ?_
  refine cI 0 ?_
  refine mI [(0, (.msl 3 lo0p 0 (List.length l0))), (1, (eL aL r1)), (9, (eL aK f2)), (10, (eI (lN f2))), (11, (eI (0 : Int)))] ?_
  refine lK (fun T H => ∃ l0 : List aM, ∃ t9 : (List aD), ∃ t10 : Int, ∃ t11 : Int, ∃ lo3 : Nat, Has T [(0, (.msl 3 lo3 0 (List.length l0))), (1, (eL aL r1)), (9, (eL aK t9)), (10, (eI t10)), (11, (eI t11))] ∧ aN ⟨H0, [lo0p], []⟩ H [(lo3, 3, List.map aR l0)] ∧ DY l0 r1 t9 t10 t11 = some r) ?_ ⟨l0, f2, (lN f2), (0 : Int), lo0p, bG, hO, h0⟩
  clear hO h0
  rintro T H ⟨l0, t9, t10, t11, lo3, hT, hO, h0⟩
  refine bR hT ?_
  clear hT
  unfold DY at h0
  obtain ⟨rr0, hl0, h0⟩ := aY h0
  refine mV (fun (s : List aM × Int) T H => ∃ lo3 : Nat, Has T [(0, (.msl 3 lo3 0 (List.length s.1))), (1, (eL aL r1)), (9, (eL aK t9)), (10, (eI t10)), (11, (eI s.2))] ∧ aN ⟨H0, [lo0p], []⟩ H [(lo3, 3, List.map aR s.1)]) hl0 ⟨lo3, bG, hO⟩ ?_
  clear hO
  rintro k0 s out1 T H ⟨lo3, hT, hO⟩ h1 ho0
  obtain ⟨l0, t11⟩ := s
  replace h1 : sI r1 t9 t10 l0 t11 = some out1 := h1
  try dsimp only at hT
  refine bR hT ?_
  clear hT
  unfold sI at h1
  refine aX aF 1 [] [(12, (aG (decide (t11 < t10))))] ?_
  refine aO ?_
  refine bV h1 (fun h1 => ?_) (fun h1 => ?_)
  · refine bT ?_
    refine bB [(0, (.msl 3 lo3 0 (List.length l0))), (1, (eL aL r1)), (9, (eL aK t9)), (10, (eI t10)), (11, (eI t11))] ?_
    refine aO ?_
    refine cI 1 ?_
    refine aO ?_
    refine aU aF 4 ?_
    obtain ⟨c5, h1⟩ := bC h1
    refine BD 2 [0 ≤ t11 ∧ t11 < (lN t9)] ⟨c5, trivial⟩ ?_
    refine qY 2 (aK (aD.mk 0 0)) (by kernel_rfl) (by kernel_rfl) hO ?_
    intro lo6 H hO
    refine pN 1 lo6 2 0 (aK (aD.mk 0 0)) (aK (gD t9 t11)) [(aK (aD.mk 0 0))] [(lo3, 3, List.map aR l0), (lo6, 2, [(aK (gD t9 t11))])] hO rfl (by kernel_rfl) ?_
    intro H hO
    refine fC ?_
    refine cO [] [(8, (.lp lo6 0 0))] ?_
    refine mI [(0, (.msl 3 lo3 0 (List.length l0))), (1, (eL aL r1)), (8, (.lp lo6 0 0)), (9, (eL aK t9)), (10, (eI t10)), (11, (eI t11))] ?_
    refine aCO 2 1 8 2 lo6 (aK (gD t9 t11)) [(lo3, 3, List.map aR l0)] hO (by kernel_rfl) (by kernel_rfl) (by kernel_rfl) ?_
    intro H hO
    refine kB (jS [19, 21, 23]) aF 11 ?_
    refine qE 2 ?_
    obtain ⟨x7, hx8, h1⟩ := aY h1
    refine MX (TO r1 _ hx8) hO ?_
    intro H hO
    refine qE 8 ?_
    refine aB4 (xs := [(aR (aM.mk x7 ((gD t9 t11).At) ((gD t9 t11).Net)))]) (k := 3) (by kernel_rfl) (by kernel_rfl) ?_
    obtain ⟨c11, h1⟩ := bC h1
    refine aBV (e := aR) l0 ([aM.mk x7 ((gD t9 t11).At) ((gD t9 t11).Net)]) 0 lo3 3 40 (dW [(aR (aM.mk x7 ((gD t9 t11).At) ((gD t9 t11).Net)))]) (fun lo10 => [(lo10, 3, List.map aR (l0 ++ ([aM.mk x7 ((gD t9 t11).At) ((gD t9 t11).Net)])))]) (by kernel_rfl) (by kernel_rfl) hO (by kernel_rfl) (by kernel_rfl) c11 (fun _ => by kernel_rfl) ?_
    intro lo10 H hO
    refine oK ?_
    refine fG [(0, (.msl 3 lo10 0 (List.length (l0 ++ ([aM.mk x7 ((gD t9 t11).At) ((gD t9 t11).Net)]))))), (1, (eL aL r1)), (9, (eL aK t9)), (10, (eI t10)), (11, (eI t11))] ?_
    refine aI (bD (aJ (?_)))
    refine aU aF 2 ?_
    refine bE ?_
    exact aI (aJ (⟨rfl, _, (oI h1).symm, _, bG, hO⟩))
  refine lS 0 ?_
  obtain rfl := oI h1
  obtain rfl : _ = rr0 := ho0
  replace h0 : ED l0 = some r := h0
  exact aI (aZ (aZ (cC (aJ (⟨rfl, _, _, bG, hO, h0⟩)))))

theorem ZT (r0 : (List aE)) (f1 : (List aD)) (r : (List aM)) (h0 : xM r0 f1 = some r) : dK Try.prog 26 [(eL aL r0), (eL aK f1)] (eL aR r) := by
  intro H0
  refine dP Try.func26 ?_
  have hO := aN.start H0
  unfold xM at h0
  refine aX aF 1 [] [] ?_
  refine aO ?_
  refine aO ?_
  refine aU aF 8 ?_
  refine bO 1 ?_
  obtain ⟨x1, hx2, h0⟩ := aY h0
  refine iI (EG r0 _ hx2) hO ?_
  intro H hO
  refine bO 5 ?_
  obtain ⟨x4, hx5, h0⟩ := aY h0
  refine uQ [(8, false)] 28 [(eL aK f1)] (aG x4) (!(!x1)) (by kernel_rfl) (by kernel_rfl) (by kernel_rfl) (fun hb6 => (vE f1 _ (pS hx5 hb6))) hO ?_
  intro H hO
  refine bE ?_
  refine cO [] [(12, (aG ((!x1) || (!x4))))] ?_
  refine bV h0 (fun h0 => ?_) (fun h0 => ?_)
  · refine cJ aF 1 [(4, (.sl true 0 (fun _ => .bad)))] ?_
    refine bQ ?_
    refine dX (l := [(4, (eL aR ([])))]) ⟨[(4, (.sl true 0 (fun _ => .bad)))], by kernel_rfl, rfl, ⟨lU, trivial⟩⟩ ?_
    obtain rfl := oI h0
    exact aI (aV (Q_r hO))
  refine bT ?_
  refine bB [(0, (eL aL r0)), (1, (eL aK f1))] ?_
  refine aO ?_
  refine aU aF 4 ?_
  refine bO 2 ?_
  obtain ⟨x8, hx9, h0⟩ := aY h0
  refine KW (L' := fun lo10 => [(lo10, 3, List.map aR x8)]) 3 (List.map aR x8) 45 [(.sl true 0 (fun _ => .bad)), (eL aL r0), (eL aK f1)] (fun lo10 => (.msl 3 lo10 0 (List.length x8))) (by kernel_rfl) (by kernel_rfl) (XH.nil (pre := []) (post := [(eL aL r0), (eL aK f1)]) (fun lo => (aB9 lo [] r0 f1 _ hx9))) hO (fun _ => by kernel_rfl) ?_
  intro lo10 H hO
  refine bE ?_
  refine bB [(4, (.msl 3 lo10 0 (List.length x8)))] ?_
  refine bQ ?_
  refine fG [(4, (.msl 3 lo10 0 (List.length x8)))] ?_
  refine tV (en := aR) x8 0 0 4 3 lo10 (List.length x8) hO (by kernel_rfl) (by kernel_rfl) (by kernel_rfl) (L' := []) (by kernel_rfl) ?_
  intro H11 hO
  obtain rfl := oI h0
  exact aI (Q_r hO)

theorem KT (lo lm : Nat) (b : bY) (r : List aM) (h0 : uB b = some r) : wQ Try.prog 11 [(.lp lo 0 0)] [dQ lm b] [iB lo lm b] (fun x M L => x = (eL aR r) ∧ M = [dQ lm b] ∧ L = [iB lo lm b]) := by
  intro F H0 hO
  obtain ⟨Fh, Fe, Fg⟩ := F
  refine dP Try.func11 ?_
  replace hO : aN ⟨Fh, Fe, (lm, lZ aB b.cells) :: Fg⟩ _ [(lo, 3, [(.agg [.mp lm, eI b.edges, eI b.mark])])] := hO
  unfold uB at h0
  refine aX aF 1 [] [] ?_
  refine aO ?_
  refine aU aF 2 ?_
  refine xL [] 3 ?_
  refine bE ?_
  refine bB [(0, (.lp lo 0 0)), (3, (dW []))] ?_
  refine aO ?_
  refine aO ?_
  refine aU aF 2 ?_
  refine bO 1 ?_
  refine HS false ?_
  refine fC ?_
  refine bB [(0, (.lp lo 0 0)), (3, (dW [])), (11, (aG false))] ?_
  refine oB (false) (fun hc => by cases hc) (fun hc => ?_)
  refine bT ?_
  refine bB [(0, (.lp lo 0 0)), (3, (dW []))] ?_
  refine aO ?_
  refine aU aF 7 ?_
  refine bO 3 ?_
  refine oO 0 lo 3 0 (.agg [.mp lm, eI b.edges, eI b.mark]) (.mp lm) [(.agg [.mp lm, eI b.edges, eI b.mark])] hO rfl ?_
  refine aCn (f := aB) (mty := 40) hO ?_
  obtain ⟨c1, h0⟩ := bC h0
  refine aBI 2 48 (lN b.cells) (by kernel_rfl) (by kernel_rfl) c1 hO ?_
  intro lo4 H hO
  refine bE ?_
  refine bB [(0, (.lp lo 0 0)), (3, (dW [])), (4, (.msl 2 lo4 0 (List.length ([] : List aC))))] ?_
  refine aO ?_
  refine aO ?_
  refine aU aF 5 ?_
  refine bO 3 ?_
  refine oO 0 lo 3 0 (.agg [.mp lm, eI b.edges, eI b.mark]) (.mp lm) [(.agg [.mp lm, eI b.edges, eI b.mark])] hO rfl ?_
  refine HV (f := aB) (mty := 40) hO ?_
  intro li bs ck H hmb hmn hO
  refine fC ?_
  refine bB [(3, (dW [])), (4, (.msl 2 lo4 0 (List.length ([] : List aC)))), (23, (.lp li 0 0))] ?_
  refine cI 0 ?_
  refine KN (by kernel_rfl) (fun (s : List aC) (seen : List Nat) T H => ∃ lo4 : Nat, Has T [(3, (dW [])), (4, (.msl 2 lo4 0 (List.length s))), (23, (.lp li 0 0))] ∧ aN ⟨Fh, Fe, (li, MD li lm ck seen) :: (lm, xF aB b.cells bs ck) :: Fg⟩ H [(lo, 3, [(.agg [.mp lm, eI b.edges, eI b.mark])]), (lo4, 2, List.map aB s)]) hmb h0 ⟨lo4, bG, hO⟩ ?_
  clear hO h0 c1
  rintro seen rem s T H ⟨lo4, hT, hO⟩ hleft hall
  refine bR (l := [(3, (dW [])), (4, (.msl 2 lo4 0 (List.length s))), (23, (.lp li 0 0))]) hT ?_
  clear hT
  refine aO ?_
  refine aU aF 2 ?_
  refine KA hmb hmn hleft hall hO (fun h0 => ?_) (fun mk mv bq rest out1 H h1 hlt hleft hall hat hO => ?_)
  · clear hall hleft
    unfold KH at h0
    refine bE ?_
    refine bB [(3, (dW [])), (4, (.msl 2 lo4 0 (List.length s))), (25, (aG false))] ?_
    refine aO ?_
    refine oB (false) (fun hc => by cases hc) (fun hc => ?_)
    refine lS 0 ?_
    replace hO := hO.pG
    refine EA hO fun H hO => ?_
    refine fG [(3, (dW [])), (4, (.msl 2 lo4 0 (List.length s)))] ?_
    refine aI (aZ (aZ (cC (aJ (?_)))))
    refine aO ?_
    refine aU aF 2 ?_
    refine bO 1 ?_
    obtain ⟨rows, hr, h0⟩ := aY h0
    refine DH [(lo, 3, [(.agg [.mp lm, eI b.edges, eI b.mark])]), (lo4, 2, List.map aB rows)] 1 (xZ lo4 s 24 [] [] (fun x y => pJ x y) (fun x y _ hh => PO x y _ hh) _ hr) hO ?_
    intro H hO hlen
    simp only [List.length_map] at hlen
    refine fC ?_
    rw [← hlen]
    refine bB [(3, (dW [])), (4, (.msl 2 lo4 0 (List.length rows)))] ?_
    refine aO ?_
    refine aO ?_
    refine aU aF 3 ?_
    refine bE ?_
    refine fG [(3, (dW [])), (34, (.msl 2 lo4 0 (List.length rows))), (35, (eI (lN rows))), (36, (eI (0 : Int)))] ?_
    refine ON (el := (fun _ => .bad)) 0 3 3 hO (by kernel_rfl) ?_
    intro lo3 H hO
    refine bB [(3, (.msl 3 lo3 0 (List.length ([] : List aM)))), (34, (.msl 2 lo4 0 (List.length rows))), (35, (eI (lN rows))), (36, (eI (0 : Int)))] ?_
    refine cI 2 ?_
    refine mV (fun (q : List aM × Int) T H => ∃ lo3 : Nat, Has T [(3, (.msl 3 lo3 0 (List.length q.1))), (34, (.msl 2 lo4 0 (List.length rows))), (35, (eI (lN rows))), (36, (eI q.2))] ∧ aN ⟨Fh, Fe, (lm, lZ aB b.cells) :: Fg⟩ H [(lo, 3, [(.agg [.mp lm, eI b.edges, eI b.mark])]), (lo4, 2, List.map aB rows), (lo3, 3, List.map aR q.1)]) h0 ⟨lo3, bG, hO⟩ ?_
    clear hO
    rintro k0 q out2 T H ⟨lo3, hT, hO⟩ h2 ho2
    obtain ⟨o3, i3⟩ := q
    replace h2 : AI rows (lN rows) o3 i3 = some out2 := h2
    refine bR (l := [(3, (.msl 3 lo3 0 (List.length o3))), (34, (.msl 2 lo4 0 (List.length rows))), (35, (eI (lN rows))), (36, (eI i3))]) hT ?_
    clear hT
    unfold AI at h2
    refine cJ aF 1 [(3, (.msl 3 lo3 0 (List.length o3))), (34, (.msl 2 lo4 0 (List.length rows))), (35, (eI (lN rows))), (36, (eI i3)), (37, (aG (decide (i3 < (lN rows)))))] ?_
    refine aO ?_
    refine bV h2 (fun h2 => ?_) (fun h2 => ?_)
    · refine bT ?_
      refine bB [(3, (.msl 3 lo3 0 (List.length o3))), (34, (.msl 2 lo4 0 (List.length rows))), (35, (eI (lN rows))), (36, (eI i3))] ?_
      refine aO ?_
      obtain ⟨c5, h2⟩ := bC h2
      obtain ⟨x, hx, h2⟩ := aY h2
      obtain ⟨c6, h2⟩ := bC h2
      obtain rfl := oI h2
      refine cI 3 ?_
      refine aO ?_
      refine aU aF 4 ?_
      refine BD 1 [0 ≤ i3 ∧ i3 < (lN rows)] ⟨c5, trivial⟩ ?_
      refine oO 1 lo4 2 (0 + Int.toNat i3) (aB (gD rows i3)) (aB (gD rows i3)) (List.map aB rows) hO (cB c5) ?_
      refine xE 2 (.agg [(.sl true 0 (fun _ => .bad)), (.sl true 0 (fun _ => .bad))]) (aB ⟨[], []⟩) (by kernel_rfl) (by kernel_rfl) (by kernel_rfl) (HG (xs := [(.sl true 0 (fun _ => .bad)), (.sl true 0 (fun _ => .bad))]) (ys := [(eL aL []), (eL aK [])]) ⟨lU, lU, trivial⟩) (by kernel_rfl) (by kernel_rfl) hO ?_
      intro lo8 H hO
      refine pN 3 lo8 2 0 (aB ⟨[], []⟩) (aB (gD rows i3)) [(aB ⟨[], []⟩)] [(lo, 3, [(.agg [.mp lm, eI b.edges, eI b.mark])]), (lo4, 2, List.map aB rows), (lo3, 3, List.map aR o3), (lo8, 2, [(aB (gD rows i3))])] hO rfl (by kernel_rfl) ?_
      intro H hO
      refine fC ?_
      refine bB [(3, (.msl 3 lo3 0 (List.length o3))), (34, (.msl 2 lo4 0 (List.length rows))), (35, (eI (lN rows))), (36, (eI i3)), (8, (.lp lo8 0 0))] ?_
      refine aU aF 8 ?_
      refine bO 2 ?_
      refine oO 3 lo8 2 0 (aB (gD rows i3)) (eL aL (gD rows i3).row) [(aB (gD rows i3))] hO rfl ?_
      refine bO 4 ?_
      refine oO 3 lo8 2 0 (aB (gD rows i3)) (eL aK (gD rows i3).jumps) [(aB (gD rows i3))] hO rfl ?_
      refine iI (ZT (gD rows i3).row (gD rows i3).jumps _ hx) hO ?_
      intro H hO
      refine FD aR o3 x 2 lo3 3 40 (eL aR x) (fun lo9 => [(lo, 3, [(.agg [.mp lm, eI b.edges, eI b.mark])]), (lo4, 2, List.map aB rows), (lo9, 3, List.map aR (o3 ++ x)), (lo8, 2, [(aB (gD rows i3))])]) hO (DB (fun _ => by kernel_rfl)) c6 ?_
      intro lo9 H hO
      refine bE ?_
      replace hO := hO.pick (L' := [(lo, 3, [(.agg [.mp lm, eI b.edges, eI b.mark])]), (lo4, 2, List.map aB rows), (lo9, 3, List.map aR (o3 ++ x))]) [0, 1, 2] (by decide) (by kernel_rfl)
      refine fG [(3, (.msl 3 lo9 0 (List.length (o3 ++ x)))), (34, (.msl 2 lo4 0 (List.length rows))), (35, (eI (lN rows))), (36, (eI i3))] ?_
      refine aI (bD (aJ (?_)))
      refine aU aF 2 ?_
      refine bE ?_
      exact aI (⟨rfl, _, rfl, lo9, bG, hO⟩)
    · refine lS 2 ?_
      obtain rfl := oI h2
      obtain rfl : _ = r := ho2
      refine fG [(3, (.msl 3 lo3 0 (List.length o3)))] ?_
      refine tV (en := aR) o3 0 2 3 3 lo3 (List.length o3) hO (by kernel_rfl) (by kernel_rfl) (by kernel_rfl) (L' := [(lo, 3, [(.agg [.mp lm, eI b.edges, eI b.mark])]), (lo4, 2, List.map aB rows)]) (by kernel_rfl) ?_
      intro H hO
      refine aI (aZ (aZ (cC (aJ (?_)))))
      refine mI [(3, (eL aR o3))] ?_
      refine cJ aF 2 [(2, (eL aR o3))] ?_
      refine bQ ?_
      replace hO := hO.pick (L' := [(lo, 3, [(.agg [.mp lm, eI b.edges, eI b.mark])])]) [0] (by decide) (by kernel_rfl)
      exact aI (MK (M := [dQ lm b]) hO ⟨rfl, rfl, rfl⟩)
  replace h1 : sF s (mk, mv) = some out1 := h1
  unfold sF at h1
  refine bE ?_
  refine bB [(3, (dW [])), (4, (.msl 2 lo4 0 (List.length s))), (23, (.lp li 0 0)), (25, (aG true))] ?_
  refine aO ?_
  refine oB (true) (fun hc => ?_) (fun hc => by cases hc)
  refine bT ?_
  refine bB [(3, (dW [])), (4, (.msl 2 lo4 0 (List.length s))), (23, (.lp li 0 0))] ?_
  refine cI 1 ?_
  refine aO ?_
  refine aU aF 4 ?_
  refine GJ hat hO ?_
  refine bO 2 ?_
  refine xE 2 (.agg [(.sl true 0 (fun _ => .bad)), (.sl true 0 (fun _ => .bad))]) (aB ⟨[], []⟩) (by kernel_rfl) (by kernel_rfl) (by kernel_rfl) (HG (xs := [(.sl true 0 (fun _ => .bad)), (.sl true 0 (fun _ => .bad))]) (ys := [(eL aL []), (eL aK [])]) ⟨lU, lU, trivial⟩) (by kernel_rfl) (by kernel_rfl) hO ?_
  intro lo6 H hO
  refine pN 2 lo6 2 0 (aB ⟨[], []⟩) (aB mv) [(aB ⟨[], []⟩)] [(lo, 3, [(.agg [.mp lm, eI b.edges, eI b.mark])]), (lo4, 2, List.map aB s), (lo6, 2, [(aB mv)])] hO rfl (by kernel_rfl) ?_
  intro H hO
  refine fC ?_
  refine bB [(3, (dW [])), (4, (.msl 2 lo4 0 (List.length s))), (23, (.lp li 0 0)), (6, (.lp lo6 0 0))] ?_
  refine aU aF 5 ?_
  refine bO 1 ?_
  refine oO 2 lo6 2 0 (aB mv) (aB mv) [(aB mv)] hO rfl ?_
  refine xL [(aB mv)] 2 ?_
  obtain ⟨c7, h1⟩ := bC h1
  refine FD aB s ([mv]) 1 lo4 2 48 (dW [(aB mv)]) (fun lo9 => [(lo, 3, [(.agg [.mp lm, eI b.edges, eI b.mark])]), (lo9, 2, List.map aB (s ++ ([mv]))), (lo6, 2, [(aB mv)])]) hO (by kernel_rfl) c7 ?_
  intro lo9 H hO
  refine bE ?_
  obtain rfl := oI h1
  replace hO := hO.pick (L' := [(lo, 3, [(.agg [.mp lm, eI b.edges, eI b.mark])]), (lo9, 2, List.map aB (s ++ ([mv])))]) [0, 1] (by decide) (by kernel_rfl)
  exact aI (bD (⟨rfl, _, _, _, hlt, hleft, hall, lo9, bG, hO⟩))

theorem ZF (a0 : (List aE)) (b1 : (List aE)) (r : Bool) (h0 : xS a0 b1 = some r) : dK Try.prog 22 [(eL aL a0), (eL aL b1)] (aG r) := by
  intro H0
  refine dP Try.func22 ?_
  have hO := aN.start H0
  unfold xS at h0
  refine aX aF 1 [] [] ?_
  refine aO ?_
  refine aX aF 5 [] [(10, (aG (!decide ((lN a0) = (lN b1)))))] ?_
  refine bV h0 (fun h0 => ?_) (fun h0 => ?_)
  · refine cJ aF 1 [(4, (aG false))] ?_
    refine bQ ?_
    obtain rfl := oI h0
    exact aI (aV (Q_r hO))
  refine bT ?_
  refine bB [(0, (eL aL a0)), (1, (eL aL b1))] ?_
  refine lY (fun T H => Has T [] ∧ aN ⟨H0, [], []⟩ H [] ∧ vQ  = some r) ?_ ?_
  · clear hO h0
    rintro T H ⟨hT, hO, h0⟩
    refine bR hT ?_
    clear hT
    unfold vQ at h0
    refine cJ aF 1 [(4, (aG true))] ?_
    refine bQ ?_
    obtain rfl := oI h0
    exact aI (Q_r hO)
  refine aX aF 1 [] [(5, (eI (0 : Int)))] ?_
  refine cI 0 ?_
  refine mI [(0, (eL aL a0)), (1, (eL aL b1)), (5, (eI (0 : Int)))] ?_
  refine lK (fun T H => ∃ i5 : Int, Has T [(0, (eL aL a0)), (1, (eL aL b1)), (5, (eI i5))] ∧ aN ⟨H0, [], []⟩ H [] ∧ AS a0 b1 i5 = some r) ?_ ⟨(0 : Int), bG, hO, h0⟩
  clear hO h0
  rintro T H ⟨i5, hT, hO, h0⟩
  refine bR hT ?_
  clear hT
  unfold AS at h0
  obtain ⟨rr0, hl0, h0⟩ := aY h0
  refine mV (fun (s : Int) T H => Has T [(0, (eL aL a0)), (1, (eL aL b1)), (5, (eI s))] ∧ aN ⟨H0, [], []⟩ H []) hl0 ⟨bG, hO⟩ ?_
  clear hO
  rintro k0 s out1 T H ⟨hT, hO⟩ h1 ho0
  obtain ⟨i5, rfl⟩ : ∃ x, x = s := ⟨_, rfl⟩
  replace h1 : tI a0 b1 i5 = some out1 := h1
  refine bR hT ?_
  clear hT
  unfold tI at h1
  refine aO ?_
  refine aX aF 4 [] [(14, (aG (decide (i5 < (lN a0)))))] ?_
  refine bV h1 (fun h1 => ?_) (fun h1 => ?_)
  · refine bT ?_
    refine bB [(0, (eL aL a0)), (1, (eL aL b1)), (5, (eI i5))] ?_
    refine aO ?_
    refine cI 1 ?_
    refine aO ?_
    refine kB (jS [20, 24]) aF 9 ?_
    obtain ⟨c3, h1⟩ := bC h1
    obtain ⟨c4, h1⟩ := bC h1
    refine LX (Ds := [0 ≤ i5 ∧ i5 < (lN a0), 0 ≤ i5 ∧ i5 < (lN b1)]) (by kernel_rfl) ⟨c3, c4, trivial⟩ ?_
    refine cO [] [(25, (aG (!((decide (((gD a0 i5).Kind) = ((gD b1 i5).Kind))) && ((decide (((gD a0 i5).Num) = ((gD b1 i5).Num))) && ((sB ((gD a0 i5).Text) ((gD b1 i5).Text)) && true))))))] ?_
    refine bV h1 (fun h1 => ?_) (fun h1 => ?_)
    · refine cJ aF 1 [(4, (aG false))] ?_
      refine bQ ?_
      obtain rfl := oI h1
      obtain rfl : _ = rr0 := ho0
      replace h0 : some false = some r := h0
      obtain rfl := oI h0
      exact aI (bW (aV (aV (bW (aV (Q_r hO))))))
    refine bT ?_
    refine fG [(0, (eL aL a0)), (1, (eL aL b1)), (5, (eI i5))] ?_
    refine aI (bD (aJ (?_)))
    refine aU aF 3 ?_
    refine bE ?_
    exact aI (aJ (⟨rfl, _, (oI h1).symm, bG, hO⟩))
  refine lS 0 ?_
  obtain rfl := oI h1
  obtain rfl : _ = rr0 := ho0
  replace h0 : vQ  = some r := h0
  exact aI (aZ (aZ (cC (aJ (⟨rfl, bG, hO, h0⟩)))))

theorem NP (a0 : (List aM)) (b1 : (List aM)) (r : Bool) (h0 : uM a0 b1 = some r) : dK Try.prog 10 [(eL aR a0), (eL aR b1)] (aG r) := by
  intro H0
  refine dP Try.func10 ?_
  have hO := aN.start H0
  unfold uM at h0
  refine aX aF 1 [] [] ?_
  refine aO ?_
  refine aX aF 5 [] [(10, (aG (!decide ((lN a0) = (lN b1)))))] ?_
  refine bV h0 (fun h0 => ?_) (fun h0 => ?_)
  · refine cJ aF 1 [(4, (aG false))] ?_
    refine bQ ?_
    obtain rfl := oI h0
    exact aI (aV (Q_r hO))
  refine bT ?_
  refine bB [(0, (eL aR a0)), (1, (eL aR b1))] ?_
  refine lY (fun T H => Has T [] ∧ aN ⟨H0, [], []⟩ H [] ∧ vS  = some r) ?_ ?_
  · clear hO h0
    rintro T H ⟨hT, hO, h0⟩
    refine bR hT ?_
    clear hT
    unfold vS at h0
    refine cJ aF 1 [(4, (aG true))] ?_
    refine bQ ?_
    obtain rfl := oI h0
    exact aI (Q_r hO)
  refine aX aF 1 [] [(5, (eI (0 : Int)))] ?_
  refine cI 0 ?_
  refine mI [(0, (eL aR a0)), (1, (eL aR b1)), (5, (eI (0 : Int)))] ?_
  refine lK (fun T H => ∃ i5 : Int, Has T [(0, (eL aR a0)), (1, (eL aR b1)), (5, (eI i5))] ∧ aN ⟨H0, [], []⟩ H [] ∧ AR a0 b1 i5 = some r) ?_ ⟨(0 : Int), bG, hO, h0⟩
  clear hO h0
  rintro T H ⟨i5, hT, hO, h0⟩
  refine bR hT ?_
  clear hT
  unfold AR at h0
  obtain ⟨rr0, hl0, h0⟩ := aY h0
  refine mV (fun (s : Int) T H => Has T [(0, (eL aR a0)), (1, (eL aR b1)), (5, (eI s))] ∧ aN ⟨H0, [], []⟩ H []) hl0 ⟨bG, hO⟩ ?_
  clear hO
  rintro k0 s out1 T H ⟨hT, hO⟩ h1 ho0
  obtain ⟨i5, rfl⟩ : ∃ x, x = s := ⟨_, rfl⟩
  replace h1 : tA a0 b1 i5 = some out1 := h1
  refine bR hT ?_
  clear hT
  unfold tA at h1
  refine aO ?_
  refine aX aF 4 [] [(14, (aG (decide (i5 < (lN a0)))))] ?_
  refine bV h1 (fun h1 => ?_) (fun h1 => ?_)
  · refine bT ?_
    refine bB [(0, (eL aR a0)), (1, (eL aR b1)), (5, (eI i5))] ?_
    refine aO ?_
    refine cI 1 ?_
    refine aO ?_
    obtain ⟨c3, h1⟩ := bC h1
    obtain ⟨c4, h1⟩ := bC h1
    obtain ⟨c5, h1⟩ := bC h1
    obtain ⟨c6, h1⟩ := bC h1
    obtain ⟨c7, h1⟩ := bC h1
    obtain ⟨c8, h1⟩ := bC h1
    obtain ⟨x9, hx10, h1⟩ := aY h1
    refine kB (jS [21, 26, 33, 38, 46, 51]) aF 38 ?_
    refine tK (K := fun T H => Has (lift T) [(0, (eL aR a0)), (1, (eL aR b1)), (5, (eI i5)), (54, (aG (((!decide (((gD a0 i5).At) = ((gD b1 i5).At))) || (!decide (((gD a0 i5).Net) = ((gD b1 i5).Net)))) || (!x9))))] ∧ aN ⟨H0, [], []⟩ H []) ?_ ?_
    · refine cQ 12 [0 ≤ i5 ∧ i5 < (lN a0), 0 ≤ i5 ∧ i5 < (lN b1)] ⟨c3, c4, trivial⟩ ?_
      refine tC (t := 28) (e := !decide (((gD a0 i5).At) = ((gD b1 i5).At))) (by kernel_rfl) (fun hg11 => ?_) (fun hg11 => ?_)
      · refine oK ?_
        exact ⟨⟨[(0, (eL aR a0)), (1, (eL aR b1)), (5, (eI i5)), (54, (aG true))], by kernel_rfl, rfl, ⟨aP.refl _, aP.refl _, aP.refl _, aP.eq (congrArg aG (MJ (MJ hg11 rfl) rfl).symm), trivial⟩⟩, hO⟩
      refine cQ 25 [0 ≤ i5 ∧ i5 < (lN a0), 0 ≤ i5 ∧ i5 < (lN b1)] ⟨(c5 (TV hg11)), (c6 (TV hg11)), trivial⟩ ?_
      refine tC (t := 41) (e := !decide (((gD a0 i5).Net) = ((gD b1 i5).Net))) (by kernel_rfl) (fun hg12 => ?_) (fun hg12 => ?_)
      · refine oK ?_
        exact ⟨⟨[(0, (eL aR a0)), (1, (eL aR b1)), (5, (eI i5)), (54, (aG true))], by kernel_rfl, rfl, ⟨aP.refl _, aP.refl _, aP.refl _, aP.eq (congrArg aG (MJ (MJ hg11 hg12) rfl).symm), trivial⟩⟩, hO⟩
      refine cQ 35 [0 ≤ i5 ∧ i5 < (lN a0), 0 ≤ i5 ∧ i5 < (lN b1)] ⟨(c7 (TV (MJ hg11 hg12))), (c8 (TV (MJ hg11 hg12))), trivial⟩ ?_
      refine uN 22 [(eL aL ((gD a0 i5).Row)), (eL aL ((gD b1 i5).Row))] (aG x9) (by kernel_rfl) (by kernel_rfl) (ZF ((gD a0 i5).Row) ((gD b1 i5).Row) _ (pS hx10 (TV (MJ hg11 hg12)))) hO ?_
      intro H hO
      refine oK ?_
      exact ⟨⟨[(0, (eL aR a0)), (1, (eL aR b1)), (5, (eI i5)), (54, (aG (!x9)))], by kernel_rfl, rfl, ⟨aP.refl _, aP.refl _, aP.refl _, aP.eq (congrArg aG (MJ (MJ hg11 hg12) rfl).symm), trivial⟩⟩, hO⟩
    · rintro T H ⟨hT, hO⟩
      refine dX hT ?_
      clear hT
      refine aI (aJ ?_)
      refine bV h1 (fun h1 => ?_) (fun h1 => ?_)
      · refine cJ aF 1 [(4, (aG false))] ?_
        refine bQ ?_
        obtain rfl := oI h1
        obtain rfl : _ = rr0 := ho0
        replace h0 : some false = some r := h0
        obtain rfl := oI h0
        exact aI (bW (aV (aV (bW (aV (Q_r hO))))))
      refine bT ?_
      refine fG [(0, (eL aR a0)), (1, (eL aR b1)), (5, (eI i5))] ?_
      refine aI (bD (aJ (?_)))
      refine aU aF 3 ?_
      refine bE ?_
      exact aI (aJ (⟨rfl, _, (oI h1).symm, bG, hO⟩))
  refine lS 0 ?_
  obtain rfl := oI h1
  obtain rfl : _ = rr0 := ho0
  replace h0 : vS  = some r := h0
  exact aI (aZ (aZ (cC (aJ (⟨rfl, bG, hO, h0⟩)))))

end Go.Abs
