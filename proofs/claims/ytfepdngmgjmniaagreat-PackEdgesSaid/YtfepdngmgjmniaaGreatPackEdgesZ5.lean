/- What the law PackEdges stands on: the framework, the given functions as plain functions, their walks, and the plain laws; part 5. -/
import Derived.Test.YtfepdngmgjmniaaGreatPackEdgesZ4
set_option linter.unusedSimpArgs false
set_option linter.unusedVariables false
namespace Go.Abs
open Go Go.RowKit Go.Proofs
theorem SX (l0 : (List aC)) (r : ((List aM) × Int)) (h0 : uH l0 = some r) : bY Tryz.prog 8 [(eL aD l0)] (.tup [(eL aL r.1), (eI r.2)]) := by
  intro H0
  refine cF Tryz.func8 ?_
  have hO := aN.start H0
  unfold uH at h0
  refine aY aF 2 [] [] ?_
  refine aO ?_
  refine aO ?_
  refine aU aF 3 ?_
  refine bR 1 ?_
  obtain ⟨x1, hx2, h0⟩ := aW h0
  refine cA (OU l0 _ hx2) hO ?_
  intro H hO
  refine bC ?_
  refine bT [] [(12, (aK (!x1)))] ?_
  refine bJ h0 (fun h0 => ?_) (fun h0 => ?_)
  · refine bV aF 2 [(2, (.sl true 0 (fun _ => .bad))), (3, (eI (2 : Int)))] ?_
    refine bK ?_
    refine cJ (l := [(2, (eL aL ([]))), (3, (eI (2 : Int)))]) ⟨[(2, (.sl true 0 (fun _ => .bad))), (3, (eI (2 : Int)))], by kernel_rfl, rfl, ⟨dG, aZ.refl _, trivial⟩⟩ ?_
    obtain rfl := oI h0
    exact aJ (aQ (Q_r hO))
  refine bL ?_
  refine bH [(0, (eL aD l0))] ?_
  refine aO ?_
  refine aO ?_
  refine aU aF 3 ?_
  refine bR 1 ?_
  obtain ⟨x5, hx6, h0⟩ := aW h0
  refine cA (VX l0 _ hx6) hO ?_
  intro H hO
  refine bC ?_
  refine bT [] [(15, (aK (!x5)))] ?_
  refine bJ h0 (fun h0 => ?_) (fun h0 => ?_)
  · refine bV aF 2 [(2, (.sl true 0 (fun _ => .bad))), (3, (eI (20 : Int)))] ?_
    refine bK ?_
    refine cJ (l := [(2, (eL aL ([]))), (3, (eI (20 : Int)))]) ⟨[(2, (.sl true 0 (fun _ => .bad))), (3, (eI (20 : Int)))], by kernel_rfl, rfl, ⟨dG, aZ.refl _, trivial⟩⟩ ?_
    obtain rfl := oI h0
    exact aJ (aQ (Q_r hO))
  refine bL ?_
  refine bH [(0, (eL aD l0))] ?_
  refine aO ?_
  refine aU aF 2 ?_
  refine iM (xs := []) (k := 3) (by kernel_rfl) (by kernel_rfl) ?_
  refine bC ?_
  refine bT [] [(4, (.sl true 0 (fun _ => .bad)))] ?_
  refine aO ?_
  refine aU aF 3 ?_
  refine bR 1 ?_
  obtain ⟨x9, hx10, h0⟩ := aW h0
  refine cA (DZ l0 _ hx10) hO ?_
  intro H hO
  refine bC ?_
  refine bT [] [(5, (eL (eL aI) x9))] ?_
  refine cH (fun T H => ∃ out4 : List aM, ∃ lo12 : Nat, Has T [(4, (.msl 3 lo12 0 (List.length out4)))] ∧ aN ⟨H0, [], []⟩ H [(lo12, 3, List.map aL out4)] ∧ sQ out4 = some r) ?_ ?_
  · clear hO h0
    rintro T H ⟨out4, lo12, hT, hO, h0⟩
    refine bA hT ?_
    clear hT
    unfold sQ at h0
    refine bV aF 3 [(2, (.msl 3 lo12 0 (List.length out4))), (3, (eI (0 : Int)))] ?_
    refine bK ?_
    refine cN [(2, (.msl 3 lo12 0 (List.length out4))), (3, (eI (0 : Int)))] ?_
    refine tE (en := aL) out4 0 0 2 3 lo12 (List.length out4) hO (by kernel_rfl) (by kernel_rfl) (by kernel_rfl) (L' := []) (by kernel_rfl) ?_
    intro H13 hO
    obtain rfl := oI h0
    exact aJ (Q_r hO)
  refine aY aF 1 [] [(6, (eI (0 : Int)))] ?_
  refine bO 0 ?_
  refine cL [(0, (eL aD l0)), (4, (.sl true 0 (fun _ => .bad))), (5, (eL (eL aI) x9)), (6, (eI (0 : Int)))] ?_
  refine uM (el := (fun _ => .bad)) 1 4 3 hO (by kernel_rfl) ?_
  intro lo41 H42 hO
  refine cC (fun T H => ∃ out4 : List aM, ∃ cU : (List (List aG)), ∃ i6 : Int, ∃ lo15 : Nat, Has T [(0, (eL aD l0)), (4, (.msl 3 lo15 0 (List.length out4))), (5, (eL (eL aI) cU)), (6, (eI i6))] ∧ aN ⟨H0, [], []⟩ H [(lo15, 3, List.map aL out4)] ∧ xJ l0 out4 cU i6 = some r) ?_ ⟨([] : List aM), x9, (0 : Int), lo41, .eq (by kernel_rfl), hO, h0⟩
  clear hO h0
  rintro T H ⟨out4, cU, i6, lo15, hT, hO, h0⟩
  refine bA hT ?_
  clear hT
  unfold xJ at h0
  obtain ⟨rr0, hl0, h0⟩ := aW h0
  refine bX (by kernel_rfl) (fun (s : List aM × Int) T H => ∃ lo15 : Nat, Has T [(0, (eL aD l0)), (4, (.msl 3 lo15 0 (List.length s.1))), (5, (eL (eL aI) cU)), (6, (eI s.2))] ∧ aN ⟨H0, [], []⟩ H [(lo15, 3, List.map aL s.1)]) hl0 ⟨lo15, .eq (by kernel_rfl), hO⟩ ?_
  clear hO
  rintro k0 s out1 T H ⟨lo15, hT, hO⟩ h1 ho0
  obtain ⟨out4, i6⟩ := s
  replace h1 : jZ l0 cU out4 i6 = some out1 := h1
  try dsimp only at hT
  refine bA hT ?_
  clear hT
  unfold jZ at h1
  refine aO ?_
  refine aY aF 4 [] [(22, (aK (decide (i6 < (lN cU)))))] ?_
  refine bJ h1 (fun h1 => ?_) (fun h1 => ?_)
  · refine bL ?_
    refine bH [(0, (eL aD l0)), (4, (.msl 3 lo15 0 (List.length out4))), (5, (eL (eL aI) cU)), (6, (eI i6))] ?_
    refine cH (fun T H => ∃ out4 : List aM, ∃ lo17 : Nat, Has T [(0, (eL aD l0)), (4, (.msl 3 lo17 0 (List.length out4))), (5, (eL (eL aI) cU)), (6, (eI i6))] ∧ aN ⟨H0, [], []⟩ H [(lo17, 3, List.map aL out4)] ∧ xL l0 out4 cU i6 = some out1) ?_ ?_
    · clear hO h1
      rintro T H ⟨out4, lo17, hT, hO, h1⟩
      refine bA hT ?_
      clear hT
      unfold xL at h1
      refine aU aF 3 ?_
      refine bC ?_
      exact aJ (aH (⟨rfl, _, (oI h1).symm, _, .eq (by kernel_rfl), hO⟩))
    refine bO 1 ?_
    refine aO ?_
    refine aU aF 12 ?_
    obtain ⟨c18, h1⟩ := bE h1
    refine jT 5 [0 ≤ i6 ∧ i6 < (lN cU)] ⟨c18, trivial⟩ ?_
    obtain ⟨x19, hx20, h1⟩ := aW h1
    refine cA (BU l0 (gD cU i6) _ hx20) hO ?_
    intro H hO
    obtain ⟨x22, hx23, h1⟩ := aW h1
    refine cA (WA x19 _ hx23) hO ?_
    intro H hO
    refine bC ?_
    refine bT [] [(7, (eL bG x22.1)), (8, (eI x22.2))] ?_
    refine aO ?_
    refine aY aF 2 [] [(36, (aK (!decide (x22.2 = (0 : Int)))))] ?_
    refine bJ h1 (fun h1 => ?_) (fun h1 => ?_)
    · refine aO ?_
      refine aU aF 3 ?_
      refine bC ?_
      refine cN [(2, (.sl true 0 (fun _ => .bad))), (3, (eI x22.2))] ?_
      replace hO := hO.pick (L' := []) [] (by decide) (by kernel_rfl)
      refine aJ (aH (?_))
      refine bK ?_
      refine cJ (l := [(2, (eL aL ([]))), (3, (eI x22.2))]) ⟨[(2, (.sl true 0 (fun _ => .bad))), (3, (eI x22.2))], by kernel_rfl, rfl, ⟨dG, aZ.refl _, trivial⟩⟩ ?_
      obtain rfl := oI h1
      obtain rfl : _ = rr0 := ho0
      replace h0 : some ([], x22.2) = some r := h0
      obtain rfl := oI h0
      exact aJ (aQ (bN (aQ (aQ (bN (aQ (Q_r hO)))))))
    refine bL ?_
    refine bH [(0, (eL aD l0)), (4, (.msl 3 lo15 0 (List.length out4))), (5, (eL (eL aI) cU)), (6, (eI i6)), (7, (eL bG x22.1))] ?_
    refine cH (fun T H => ∃ out4 : List aM, ∃ lo26 : Nat, Has T [(0, (eL aD l0)), (4, (.msl 3 lo26 0 (List.length out4))), (5, (eL (eL aI) cU)), (6, (eI i6))] ∧ aN ⟨H0, [], []⟩ H [(lo26, 3, List.map aL out4)] ∧ pY l0 out4 cU i6 = some out1) ?_ ?_
    · clear hO h1
      rintro T H ⟨out4, lo26, hT, hO, h1⟩
      refine bA hT ?_
      clear hT
      unfold pY at h1
      refine aY aF 3 [] [(60, (aK (decide ((4096 : Int) < (lN out4)))))] ?_
      refine bJ h1 (fun h1 => ?_) (fun h1 => ?_)
      · refine aO ?_
        refine aU aF 2 ?_
        refine bC ?_
        refine cN [(2, (.sl true 0 (fun _ => .bad))), (3, (eI (7 : Int)))] ?_
        replace hO := hO.pick (L' := []) [] (by decide) (by kernel_rfl)
        refine aJ (aH (?_))
        refine bK ?_
        refine cJ (l := [(2, (eL aL ([]))), (3, (eI (7 : Int)))]) ⟨[(2, (.sl true 0 (fun _ => .bad))), (3, (eI (7 : Int)))], by kernel_rfl, rfl, ⟨dG, aZ.refl _, trivial⟩⟩ ?_
        obtain rfl := oI h1
        obtain rfl : _ = rr0 := ho0
        replace h0 : some ([], (7 : Int)) = some r := h0
        obtain rfl := oI h0
        exact aJ (bN (aQ (aQ (bN (aQ (Q_r hO))))))
      refine bL ?_
      exact aJ (aV (aH (⟨rfl, _, _, .eq (by kernel_rfl), hO, h1⟩)))
    refine aY aF 1 [] [(9, (eI (0 : Int)))] ?_
    refine bO 2 ?_
    refine cL [(0, (eL aD l0)), (4, (.msl 3 lo15 0 (List.length out4))), (5, (eL (eL aI) cU)), (6, (eI i6)), (7, (eL bG x22.1)), (9, (eI (0 : Int)))] ?_
    refine cC (fun T H => ∃ out4 : List aM, ∃ s7 : (List aT), ∃ k9 : Int, ∃ lo29 : Nat, Has T [(0, (eL aD l0)), (4, (.msl 3 lo29 0 (List.length out4))), (5, (eL (eL aI) cU)), (6, (eI i6)), (7, (eL bG s7)), (9, (eI k9))] ∧ aN ⟨H0, [], []⟩ H [(lo29, 3, List.map aL out4)] ∧ tF l0 out4 cU i6 s7 k9 = some out1) ?_ ⟨out4, x22.1, (0 : Int), lo15, .eq (by kernel_rfl), hO, h1⟩
    clear hO h1
    rintro T H ⟨out4, s7, k9, lo29, hT, hO, h1⟩
    refine bA hT ?_
    clear hT
    unfold tF at h1
    obtain ⟨rr1, hl1, h1⟩ := aW h1
    refine bX (by kernel_rfl) (fun (s : List aM × Int) T H => ∃ lo29 : Nat, Has T [(0, (eL aD l0)), (4, (.msl 3 lo29 0 (List.length s.1))), (5, (eL (eL aI) cU)), (6, (eI i6)), (7, (eL bG s7)), (9, (eI s.2))] ∧ aN ⟨H0, [], []⟩ H [(lo29, 3, List.map aL s.1)]) hl1 ⟨lo29, .eq (by kernel_rfl), hO⟩ ?_
    clear hO
    rintro k1 s out2 T H ⟨lo29, hT, hO⟩ h2 ho1
    obtain ⟨out4, k9⟩ := s
    replace h2 : mC l0 cU i6 s7 out4 k9 = some out2 := h2
    try dsimp only at hT
    refine bA hT ?_
    clear hT
    unfold mC at h2
    refine aO ?_
    refine aY aF 4 [] [(41, (aK (decide (k9 < (lN s7)))))] ?_
    refine bJ h2 (fun h2 => ?_) (fun h2 => ?_)
    · refine bL ?_
      refine bH [(0, (eL aD l0)), (4, (.msl 3 lo29 0 (List.length out4))), (5, (eL (eL aI) cU)), (6, (eI i6)), (7, (eL bG s7)), (9, (eI k9))] ?_
      refine aO ?_
      refine bO 3 ?_
      refine eS (eV [49, 54, 56]) aF 15 ?_
      refine qH 1 ?_
      refine BK (xs := []) (k := 3) (by kernel_rfl) (by kernel_rfl) ?_
      obtain ⟨c35, h2⟩ := bE h2
      refine dA 6 [0 ≤ i6 ∧ i6 < (lN cU)] ⟨c35, trivial⟩ ?_
      obtain ⟨c37, h2⟩ := bE h2
      refine aBe (e := aI) (gD cU i6) (fun _ => .bad) 3 32 (eL aI (gD cU i6)) (by kernel_rfl) (by kernel_rfl) hO (JH (fun _ => by kernel_rfl)) c37 ?_
      intro H hO
      obtain ⟨c38, h2⟩ := bE h2
      refine dA 12 [0 ≤ k9 ∧ k9 < (lN s7)] ⟨c38, trivial⟩ ?_
      refine BK (xs := [(aL (aM.mk (gD cU i6) (gD s7 k9)))]) (k := 3) (by kernel_rfl) (by kernel_rfl) ?_
      obtain ⟨c40, h2⟩ := bE h2
      refine zQ (e := aL) out4 ([aM.mk (gD cU i6) (gD s7 k9)]) 0 lo29 3 40 (cZ [(aL (aM.mk (gD cU i6) (gD s7 k9)))]) (fun lo39 => [(lo39, 3, List.map aL (out4 ++ ([aM.mk (gD cU i6) (gD s7 k9)])))]) (by kernel_rfl) (by kernel_rfl) hO (by kernel_rfl) (by kernel_rfl) c40 (fun _ => by kernel_rfl) ?_
      intro lo39 H hO
      refine iJ ?_
      refine cN [(0, (eL aD l0)), (4, (.msl 3 lo39 0 (List.length (out4 ++ ([aM.mk (gD cU i6) (gD s7 k9)]))))), (5, (eL (eL aI) cU)), (6, (eI i6)), (7, (eL bG s7)), (9, (eI k9))] ?_
      refine aJ (aV (aH (?_)))
      refine aU aF 3 ?_
      refine bC ?_
      exact aJ (aH (⟨rfl, _, (oI h2).symm, _, .eq (by kernel_rfl), hO⟩))
    refine cV 2 ?_
    obtain rfl := oI h2
    obtain rfl : _ = rr1 := ho1
    replace h1 : pY l0 out4 cU i6 = some out1 := h1
    exact aJ (aS (aS (bM (aH (⟨rfl, _, _, .eq (by kernel_rfl), hO, h1⟩)))))
  refine cV 0 ?_
  obtain rfl := oI h1
  obtain rfl : _ = rr0 := ho0
  replace h0 : sQ out4 = some r := h0
  exact aJ (aS (aS (bM (aH (⟨rfl, _, _, .eq (by kernel_rfl), hO, h0⟩)))))

theorem YC (a0 : (List aC)) (b1 : (List aC)) (r : Bool) (h0 : xQ a0 b1 = some r) : bY Tryz.prog 11 [(eL aD a0), (eL aD b1)] (aK r) := by
  intro H0
  refine cF Tryz.func11 ?_
  have hO := aN.start H0
  unfold xQ at h0
  refine aY aF 1 [] [] ?_
  refine aO ?_
  refine aY aF 5 [] [(10, (aK (!decide ((lN a0) = (lN b1)))))] ?_
  refine bJ h0 (fun h0 => ?_) (fun h0 => ?_)
  · refine bV aF 1 [(4, (aK false))] ?_
    refine bK ?_
    obtain rfl := oI h0
    exact aJ (aQ (Q_r hO))
  refine bL ?_
  refine bH [(0, (eL aD a0)), (1, (eL aD b1))] ?_
  refine cH (fun T H => Has T [] ∧ aN ⟨H0, [], []⟩ H [] ∧ wJ  = some r) ?_ ?_
  · clear hO h0
    rintro T H ⟨hT, hO, h0⟩
    refine bA hT ?_
    clear hT
    unfold wJ at h0
    refine bV aF 1 [(4, (aK true))] ?_
    refine bK ?_
    obtain rfl := oI h0
    exact aJ (Q_r hO)
  refine aY aF 1 [] [(5, (eI (0 : Int)))] ?_
  refine bO 0 ?_
  refine cL [(0, (eL aD a0)), (1, (eL aD b1)), (5, (eI (0 : Int)))] ?_
  refine cC (fun T H => ∃ i5 : Int, Has T [(0, (eL aD a0)), (1, (eL aD b1)), (5, (eI i5))] ∧ aN ⟨H0, [], []⟩ H [] ∧ BX a0 b1 i5 = some r) ?_ ⟨(0 : Int), .eq (by kernel_rfl), hO, h0⟩
  clear hO h0
  rintro T H ⟨i5, hT, hO, h0⟩
  refine bA hT ?_
  clear hT
  unfold BX at h0
  obtain ⟨rr0, hl0, h0⟩ := aW h0
  refine bX (by kernel_rfl) (fun (s : Int) T H => Has T [(0, (eL aD a0)), (1, (eL aD b1)), (5, (eI s))] ∧ aN ⟨H0, [], []⟩ H []) hl0 ⟨.eq (by kernel_rfl), hO⟩ ?_
  clear hO
  rintro k0 s out1 T H ⟨hT, hO⟩ h1 ho0
  obtain ⟨i5, rfl⟩ : ∃ x, x = s := ⟨_, rfl⟩
  replace h1 : sF a0 b1 i5 = some out1 := h1
  refine bA hT ?_
  clear hT
  unfold sF at h1
  refine aO ?_
  refine aY aF 4 [] [(14, (aK (decide (i5 < (lN a0)))))] ?_
  refine bJ h1 (fun h1 => ?_) (fun h1 => ?_)
  · refine bL ?_
    refine bH [(0, (eL aD a0)), (1, (eL aD b1)), (5, (eI i5))] ?_
    refine aO ?_
    refine bO 1 ?_
    refine aO ?_
    obtain ⟨c3, h1⟩ := bE h1
    obtain ⟨c4, h1⟩ := bE h1
    obtain ⟨c5, h1⟩ := bE h1
    obtain ⟨c6, h1⟩ := bE h1
    obtain ⟨c7, h1⟩ := bE h1
    obtain ⟨c8, h1⟩ := bE h1
    obtain ⟨x9, hx10, h1⟩ := aW h1
    refine eS (eV [21, 26, 33, 38, 46, 51]) aF 38 ?_
    refine yB (K := fun T H => Has (lift T) [(0, (eL aD a0)), (1, (eL aD b1)), (5, (eI i5)), (54, (aK (((!decide (((gD a0 i5).At) = ((gD b1 i5).At))) || (!decide (((gD a0 i5).Net) = ((gD b1 i5).Net)))) || (!x9))))] ∧ aN ⟨H0, [], []⟩ H []) ?_ ?_
    · refine dA 12 [0 ≤ i5 ∧ i5 < (lN a0), 0 ≤ i5 ∧ i5 < (lN b1)] ⟨c3, c4, trivial⟩ ?_
      refine sE (t := 28) (e := !decide (((gD a0 i5).At) = ((gD b1 i5).At))) (by kernel_rfl) (fun hg11 => ?_) (fun hg11 => ?_)
      · refine iJ ?_
        exact ⟨⟨[(0, (eL aD a0)), (1, (eL aD b1)), (5, (eI i5)), (54, (aK true))], by kernel_rfl, rfl, ⟨aZ.refl _, aZ.refl _, aZ.refl _, aZ.eq (congrArg aK (zY (zY hg11 rfl) rfl).symm), trivial⟩⟩, hO⟩
      refine dA 25 [0 ≤ i5 ∧ i5 < (lN a0), 0 ≤ i5 ∧ i5 < (lN b1)] ⟨(c5 (yW hg11)), (c6 (yW hg11)), trivial⟩ ?_
      refine sE (t := 41) (e := !decide (((gD a0 i5).Net) = ((gD b1 i5).Net))) (by kernel_rfl) (fun hg12 => ?_) (fun hg12 => ?_)
      · refine iJ ?_
        exact ⟨⟨[(0, (eL aD a0)), (1, (eL aD b1)), (5, (eI i5)), (54, (aK true))], by kernel_rfl, rfl, ⟨aZ.refl _, aZ.refl _, aZ.refl _, aZ.eq (congrArg aK (zY (zY hg11 hg12) rfl).symm), trivial⟩⟩, hO⟩
      refine dA 35 [0 ≤ i5 ∧ i5 < (lN a0), 0 ≤ i5 ∧ i5 < (lN b1)] ⟨(c7 (yW (zY hg11 hg12))), (c8 (yW (zY hg11 hg12))), trivial⟩ ?_
      refine CN 30 [(eL aI ((gD a0 i5).Row)), (eL aI ((gD b1 i5).Row))] (aK x9) (by kernel_rfl) (by kernel_rfl) (DU ((gD a0 i5).Row) ((gD b1 i5).Row) _ (fP hx10 (yW (zY hg11 hg12)))) hO ?_
      intro H hO
      refine iJ ?_
      exact ⟨⟨[(0, (eL aD a0)), (1, (eL aD b1)), (5, (eI i5)), (54, (aK (!x9)))], by kernel_rfl, rfl, ⟨aZ.refl _, aZ.refl _, aZ.refl _, aZ.eq (congrArg aK (zY (zY hg11 hg12) rfl).symm), trivial⟩⟩, hO⟩
    · rintro T H ⟨hT, hO⟩
      refine cJ hT ?_
      clear hT
      refine aJ (aH ?_)
      refine bJ h1 (fun h1 => ?_) (fun h1 => ?_)
      · refine bV aF 1 [(4, (aK false))] ?_
        refine bK ?_
        obtain rfl := oI h1
        obtain rfl : _ = rr0 := ho0
        replace h0 : some false = some r := h0
        obtain rfl := oI h0
        exact aJ (bN (aQ (aQ (bN (aQ (Q_r hO))))))
      refine bL ?_
      refine cN [(0, (eL aD a0)), (1, (eL aD b1)), (5, (eI i5))] ?_
      refine aJ (aV (aH (?_)))
      refine aU aF 3 ?_
      refine bC ?_
      exact aJ (aH (⟨rfl, _, (oI h1).symm, .eq (by kernel_rfl), hO⟩))
  refine cV 0 ?_
  obtain rfl := oI h1
  obtain rfl : _ = rr0 := ho0
  replace h0 : wJ  = some r := h0
  exact aJ (aS (aS (bM (aH (⟨rfl, .eq (by kernel_rfl), hO, h0⟩)))))

theorem HT (t0 : Int) (r : Bool) (h0 : rS t0 = some r) : bY Tryz.prog 38 [(eI t0)] (aK r) := by
  intro H0
  refine cF Tryz.func38 ?_
  have hO := aN.start H0
  unfold rS at h0
  refine aY aF 1 [] [] ?_
  refine bV aF 7 [(2, (aK ((decide ((0 : Int) ≤ t0)) && (decide (t0 ≤ (1125899906842624 : Int))))))] ?_
  refine bK ?_
  obtain rfl := oI h0
  exact aJ (Q_r hO)

theorem aAh (s0 : aT) (r : Bool) (h0 : FJ s0 = some r) : bY Tryz.prog 39 [(bG s0)] (aK r) := by
  intro H0
  refine cF Tryz.func39 ?_
  have hO := aN.start H0
  unfold FJ at h0
  refine aO ?_
  refine aU aF 2 ?_
  refine fQ 2 (bG s0) (by kernel_rfl) (by kernel_rfl) ?_
  refine bC ?_
  refine bH [(1, (.rp (bG s0)))] ?_
  refine aO ?_
  refine aU aF 16 ?_
  refine bR 2 ?_
  obtain ⟨x1, hx2, h0⟩ := aW h0
  refine cA (HT s0.From _ hx2) hO ?_
  intro H hO
  refine bR 6 ?_
  obtain ⟨x4, hx5, h0⟩ := aW h0
  refine fU [(6, true)] 38 [(eI s0.To)] (aK x4) x1 (by kernel_rfl) (by kernel_rfl) (by kernel_rfl) (fun hb6 => (HT s0.To _ (fP hx5 hb6))) hO ?_
  intro H hO
  refine bC ?_
  refine bH [(2, (aK ((x1 && x4) && (decide (s0.From < s0.To)))))] ?_
  refine bK ?_
  obtain rfl := oI h0
  exact aJ (Q_r hO)

theorem PG (p0 : aM) (r : Bool) (h0 : wV p0 = some r) : bY Tryz.prog 16 [(aL p0)] (aK r) := by
  intro H0
  refine cF Tryz.func16 ?_
  have hO := aN.start H0
  unfold wV at h0
  refine aO ?_
  refine aU aF 2 ?_
  refine fQ 3 (aL p0) (by kernel_rfl) (by kernel_rfl) ?_
  refine bC ?_
  refine bH [(1, (.rp (aL p0)))] ?_
  refine aO ?_
  refine aO ?_
  refine aU aF 4 ?_
  refine bR 2 ?_
  obtain ⟨x1, hx2, h0⟩ := aW h0
  refine cA (AA p0.Row _ hx2) hO ?_
  intro H hO
  refine bC ?_
  refine bT [] [(6, (aK (!x1)))] ?_
  refine bJ h0 (fun h0 => ?_) (fun h0 => ?_)
  · refine bV aF 1 [(2, (aK false))] ?_
    refine bK ?_
    obtain rfl := oI h0
    exact aJ (aQ (Q_r hO))
  refine bL ?_
  refine bH [(1, (.rp (aL p0)))] ?_
  refine aO ?_
  refine aY aF 4 [] [(10, (aK (decide (p0.Span.From = (-1 : Int)))))] ?_
  refine bJ h0 (fun h0 => ?_) (fun h0 => ?_)
  · refine aO ?_
    refine aU aF 5 ?_
    refine bR 3 ?_
    obtain ⟨x6, hx7, h0⟩ := aW h0
    refine cA (HT p0.Span.To _ hx7) hO ?_
    intro H hO
    refine bC ?_
    refine bH [(2, (aK x6))] ?_
    refine bK ?_
    obtain rfl := oI h0
    exact aJ (aQ (Q_r hO))
  refine bL ?_
  refine bH [(1, (.rp (aL p0)))] ?_
  refine aO ?_
  refine aU aF 4 ?_
  refine bR 2 ?_
  obtain ⟨x9, hx10, h0⟩ := aW h0
  refine cA (aAh p0.Span _ hx10) hO ?_
  intro H hO
  refine bC ?_
  refine bH [(2, (aK x9))] ?_
  refine bK ?_
  obtain rfl := oI h0
  exact aJ (Q_r hO)

theorem ZN (l0 : (List Int)) (t1 : Int) (r : (List Int)) (h0 : uE l0 t1 = some r) : bY Tryz.prog 93 [(eL (eI) l0), (eI t1)] (eL (eI) r) := by
  intro H0
  refine cF Tryz.func93 ?_
  have hO := aN.start H0
  unfold uE at h0
  refine aY aF 1 [] [] ?_
  refine aO ?_
  refine aU aF 2 ?_
  refine iM (xs := []) (k := 1) (by kernel_rfl) (by kernel_rfl) ?_
  refine bC ?_
  refine bT [] [(5, (.sl true 0 (fun _ => .bad)))] ?_
  refine aY aF 1 [] [(6, (aK false))] ?_
  refine cH (fun T H => ∃ out5 : List Int, ∃ put6 : Bool, ∃ lo1 : Nat, Has T [(1, (eI t1)), (5, (.msl 1 lo1 0 (List.length out5))), (6, (aK put6))] ∧ aN ⟨H0, [], []⟩ H [(lo1, 1, List.map (eI) out5)] ∧ sJ t1 out5 put6 = some r) ?_ ?_
  · clear hO h0
    rintro T H ⟨out5, put6, lo1, hT, hO, h0⟩
    refine bA hT ?_
    clear hT
    unfold sJ at h0
    refine cH (fun T H => ∃ out5 : List Int, ∃ lo2 : Nat, Has T [(5, (.msl 1 lo2 0 (List.length out5)))] ∧ aN ⟨H0, [], []⟩ H [(lo2, 1, List.map (eI) out5)] ∧ sG out5 = some r) ?_ ?_
    · clear hO h0
      rintro T H ⟨out5, lo2, hT, hO, h0⟩
      refine bA hT ?_
      clear hT
      unfold sG at h0
      refine bV aF 2 [(4, (.msl 1 lo2 0 (List.length out5)))] ?_
      refine bK ?_
      refine cN [(4, (.msl 1 lo2 0 (List.length out5)))] ?_
      refine tE (en := (eI)) out5 0 0 4 1 lo2 (List.length out5) hO (by kernel_rfl) (by kernel_rfl) (by kernel_rfl) (L' := []) (by kernel_rfl) ?_
      intro H3 hO
      obtain rfl := oI h0
      exact aJ (Q_r hO)
    refine aY aF 2 [6] [(44, (aK (!put6)))] ?_
    refine bJ h0 (fun h0 => ?_) (fun h0 => ?_)
    · refine aU aF 5 ?_
      refine bR 2 ?_
      refine iM (xs := [(eI t1)]) (k := 1) (by kernel_rfl) (by kernel_rfl) ?_
      obtain ⟨c6, h0⟩ := bE h0
      refine rD (e := (eI)) out5 ([t1]) 0 lo1 1 8 (cZ [(eI t1)]) (fun lo5 => [(lo5, 1, List.map (eI) (out5 ++ ([t1])))]) (by kernel_rfl) (by kernel_rfl) hO (by kernel_rfl) (by kernel_rfl) c6 (fun _ => by kernel_rfl) ?_
      intro lo5 H hO
      refine bC ?_
      exact aJ (aH (⟨rfl, _, _, .eq (by kernel_rfl), hO, h0⟩))
    refine bL ?_
    exact aJ (aH (⟨rfl, _, _, .eq (by kernel_rfl), hO, h0⟩))
  refine aY aF 1 [] [(7, (eI (0 : Int)))] ?_
  refine bO 0 ?_
  refine cL [(0, (eL (eI) l0)), (1, (eI t1)), (5, (.sl true 0 (fun _ => .bad))), (6, (aK false)), (7, (eI (0 : Int)))] ?_
  refine uM (el := (fun _ => .bad)) 2 5 1 hO (by kernel_rfl) ?_
  intro lo20 H21 hO
  refine cC (fun T H => ∃ out5 : List Int, ∃ put6 : Bool, ∃ i7 : Int, ∃ lo8 : Nat, Has T [(0, (eL (eI) l0)), (1, (eI t1)), (5, (.msl 1 lo8 0 (List.length out5))), (6, (aK put6)), (7, (eI i7))] ∧ aN ⟨H0, [], []⟩ H [(lo8, 1, List.map (eI) out5)] ∧ AX l0 t1 out5 put6 i7 = some r) ?_ ⟨([] : List Int), false, (0 : Int), lo20, .eq (by kernel_rfl), hO, h0⟩
  clear hO h0
  rintro T H ⟨out5, put6, i7, lo8, hT, hO, h0⟩
  refine bA hT ?_
  clear hT
  unfold AX at h0
  obtain ⟨rr0, hl0, h0⟩ := aW h0
  refine bX (by kernel_rfl) (fun (s : List Int × Bool × Int) T H => ∃ lo8 : Nat, Has T [(0, (eL (eI) l0)), (1, (eI t1)), (5, (.msl 1 lo8 0 (List.length s.1))), (6, (aK s.2.1)), (7, (eI s.2.2))] ∧ aN ⟨H0, [], []⟩ H [(lo8, 1, List.map (eI) s.1)]) hl0 ⟨lo8, .eq (by kernel_rfl), hO⟩ ?_
  clear hO
  rintro k0 s out1 T H ⟨lo8, hT, hO⟩ h1 ho0
  obtain ⟨out5, put6, i7⟩ := s
  replace h1 : iI l0 t1 out5 put6 i7 = some out1 := h1
  try dsimp only at hT
  refine bA hT ?_
  clear hT
  unfold iI at h1
  refine aO ?_
  refine aY aF 4 [] [(12, (aK (decide (i7 < (lN l0)))))] ?_
  refine bJ h1 (fun h1 => ?_) (fun h1 => ?_)
  · refine bL ?_
    refine bH [(0, (eL (eI) l0)), (1, (eI t1)), (5, (.msl 1 lo8 0 (List.length out5))), (6, (aK put6)), (7, (eI i7))] ?_
    refine aO ?_
    refine bO 1 ?_
    refine aO ?_
    refine aO ?_
    refine aU aF 6 ?_
    obtain ⟨c10, h1⟩ := bE h1
    refine oN [0 ≤ i7 ∧ i7 < (lN l0)] ⟨c10, trivial⟩ ?_
    refine bT [] [(20, (aK (decide ((gD l0 i7) = t1))))] ?_
    refine bJ h1 (fun h1 => ?_) (fun h1 => ?_)
    · refine aO ?_
      refine aU aF 2 ?_
      refine bC ?_
      refine cN [(4, (eL (eI) l0))] ?_
      replace hO := hO.pick (L' := []) [] (by decide) (by kernel_rfl)
      refine aJ (aH (?_))
      refine bK ?_
      obtain rfl := oI h1
      obtain rfl : _ = rr0 := ho0
      replace h0 : some l0 = some r := h0
      obtain rfl := oI h0
      exact aJ (aQ (bN (aQ (aQ (bN (aQ (Q_r hO)))))))
    refine bL ?_
    refine bH [(0, (eL (eI) l0)), (1, (eI t1)), (5, (.msl 1 lo8 0 (List.length out5))), (6, (aK put6)), (7, (eI i7))] ?_
    refine cH (fun T H => ∃ out5 : List Int, ∃ put6 : Bool, ∃ lo12 : Nat, Has T [(0, (eL (eI) l0)), (1, (eI t1)), (5, (.msl 1 lo12 0 (List.length out5))), (6, (aK put6)), (7, (eI i7))] ∧ aN ⟨H0, [], []⟩ H [(lo12, 1, List.map (eI) out5)] ∧ wU l0 t1 out5 put6 i7 = some out1) ?_ ?_
    · clear hO h1
      rintro T H ⟨out5, put6, lo12, hT, hO, h1⟩
      refine bA hT ?_
      clear hT
      unfold wU at h1
      refine aU aF 8 ?_
      obtain ⟨c13, h1⟩ := bE h1
      refine jT 5 [0 ≤ i7 ∧ i7 < (lN l0)] ⟨c13, trivial⟩ ?_
      refine iM (xs := [(eI (gD l0 i7))]) (k := 1) (by kernel_rfl) (by kernel_rfl) ?_
      obtain ⟨c15, h1⟩ := bE h1
      refine rD (e := (eI)) out5 ([gD l0 i7]) 0 lo12 1 8 (cZ [(eI (gD l0 i7))]) (fun lo14 => [(lo14, 1, List.map (eI) (out5 ++ ([gD l0 i7])))]) (by kernel_rfl) (by kernel_rfl) hO (by kernel_rfl) (by kernel_rfl) c15 (fun _ => by kernel_rfl) ?_
      intro lo14 H hO
      refine bC ?_
      refine cN [(0, (eL (eI) l0)), (1, (eI t1)), (5, (.msl 1 lo14 0 (List.length (out5 ++ ([gD l0 i7]))))), (6, (aK put6)), (7, (eI i7))] ?_
      refine aJ (aV (aH (?_)))
      refine aU aF 3 ?_
      refine bC ?_
      exact aJ (aH (⟨rfl, _, (oI h1).symm, _, .eq (by kernel_rfl), hO⟩))
    refine aO ?_
    refine aU aF 10 ?_
    obtain ⟨c16, h1⟩ := bE h1
    refine oN [0 ≤ i7 ∧ i7 < (lN l0)] ⟨c16, trivial⟩ ?_
    refine bT [] [(31, (aK ((decide (t1 < (gD l0 i7))) && (!put6))))] ?_
    refine bJ h1 (fun h1 => ?_) (fun h1 => ?_)
    · refine aO ?_
      refine aU aF 5 ?_
      refine bR 2 ?_
      refine iM (xs := [(eI t1)]) (k := 1) (by kernel_rfl) (by kernel_rfl) ?_
      obtain ⟨c19, h1⟩ := bE h1
      refine rD (e := (eI)) out5 ([t1]) 0 lo8 1 8 (cZ [(eI t1)]) (fun lo18 => [(lo18, 1, List.map (eI) (out5 ++ ([t1])))]) (by kernel_rfl) (by kernel_rfl) hO (by kernel_rfl) (by kernel_rfl) c19 (fun _ => by kernel_rfl) ?_
      intro lo18 H hO
      refine bC ?_
      refine bT [5, 6, 31] [(5, (.msl 1 lo18 0 (List.length (out5 ++ ([t1])))))] ?_
      refine aU aF 1 ?_
      refine bC ?_
      exact aJ (aH (⟨rfl, _, _, _, .eq (by kernel_rfl), hO, h1⟩))
    refine bL ?_
    exact aJ (aH (⟨rfl, _, _, _, .eq (by kernel_rfl), hO, h1⟩))
  refine cV 0 ?_
  obtain rfl := oI h1
  obtain rfl : _ = rr0 := ho0
  replace h0 : sJ t1 out5 put6 = some r := h0
  exact aJ (aS (aS (bM (aH (⟨rfl, _, _, _, .eq (by kernel_rfl), hO, h0⟩)))))

theorem ZY (eF : (List Int)) (dJ : (List Int)) (r : ((List aA) × Int)) (h0 : yR eF dJ = some r) : bY Tryz.prog 94 [(eL (eI) eF), (eL (eI) dJ)] (.tup [(eL aE r.1), (eI r.2)]) := by
  intro H0
  refine cF Tryz.func94 ?_
  have hO := aN.start H0
  unfold yR at h0
  refine aY aF 2 [] [] ?_
  refine aO ?_
  refine aU aF 2 ?_
  refine iM (xs := []) (k := 2) (by kernel_rfl) (by kernel_rfl) ?_
  refine bC ?_
  refine bT [] [(6, (.sl true 0 (fun _ => .bad)))] ?_
  refine aY aF 1 [] [(7, (eI (0 : Int)))] ?_
  refine cH (fun T H => ∃ f6 : List aA, ∃ lo1 : Nat, Has T [(6, (.msl 2 lo1 0 (List.length f6)))] ∧ aN ⟨H0, [], []⟩ H [(lo1, 2, List.map aE f6)] ∧ wS f6 = some r) ?_ ?_
  · clear hO h0
    rintro T H ⟨f6, lo1, hT, hO, h0⟩
    refine bA hT ?_
    clear hT
    unfold wS at h0
    refine aO ?_
    refine aO ?_
    refine aU aF 3 ?_
    refine xZ (e := aE) f6 0 6 2 lo1 (List.length f6) [] (by kernel_rfl) hO (by kernel_rfl) (by kernel_rfl) (by kernel_rfl) (by kernel_rfl) ?_
    intro H hO
    refine bR 1 ?_
    obtain ⟨x2, hx3, h0⟩ := aW h0
    refine cA (EY f6 _ hx3) hO ?_
    intro H hO
    refine bC ?_
    refine bH [(6, (eL aE f6)), (42, (aK (!x2)))] ?_
    refine bJ h0 (fun h0 => ?_) (fun h0 => ?_)
    · refine bV aF 2 [(4, (.sl true 0 (fun _ => .bad))), (5, (eI (7 : Int)))] ?_
      refine bK ?_
      refine cJ (l := [(4, (eL aE ([]))), (5, (eI (7 : Int)))]) ⟨[(4, (.sl true 0 (fun _ => .bad))), (5, (eI (7 : Int)))], by kernel_rfl, rfl, ⟨dG, aZ.refl _, trivial⟩⟩ ?_
      obtain rfl := oI h0
      exact aJ (aQ (Q_r hO))
    refine bL ?_
    refine bH [(6, (eL aE f6))] ?_
    refine bV aF 3 [(4, (eL aE f6)), (5, (eI (0 : Int)))] ?_
    refine bK ?_
    obtain rfl := oI h0
    exact aJ (Q_r hO)
  refine aY aF 1 [] [(8, (eI (0 : Int)))] ?_
  refine bO 0 ?_
  refine cL [(0, (eL (eI) eF)), (1, (eL (eI) dJ)), (6, (.sl true 0 (fun _ => .bad))), (7, (eI (0 : Int))), (8, (eI (0 : Int)))] ?_
  refine uM (el := (fun _ => .bad)) 2 6 2 hO (by kernel_rfl) ?_
  intro lo17 H18 hO
  refine cC (fun T H => ∃ f6 : List aA, ∃ was7 : Int, ∃ i8 : Int, ∃ lo7 : Nat, Has T [(0, (eL (eI) eF)), (1, (eL (eI) dJ)), (6, (.msl 2 lo7 0 (List.length f6))), (7, (eI was7)), (8, (eI i8))] ∧ aN ⟨H0, [], []⟩ H [(lo7, 2, List.map aE f6)] ∧ BJ eF dJ f6 was7 i8 = some r) ?_ ⟨([] : List aA), (0 : Int), (0 : Int), lo17, .eq (by kernel_rfl), hO, h0⟩
  clear hO h0
  rintro T H ⟨f6, was7, i8, lo7, hT, hO, h0⟩
  refine bA hT ?_
  clear hT
  unfold BJ at h0
  obtain ⟨rr0, hl0, h0⟩ := aW h0
  refine bX (by kernel_rfl) (fun (s : List aA × Int × Int) T H => ∃ lo7 : Nat, Has T [(0, (eL (eI) eF)), (1, (eL (eI) dJ)), (6, (.msl 2 lo7 0 (List.length s.1))), (7, (eI s.2.1)), (8, (eI s.2.2))] ∧ aN ⟨H0, [], []⟩ H [(lo7, 2, List.map aE s.1)]) hl0 ⟨lo7, .eq (by kernel_rfl), hO⟩ ?_
  clear hO
  rintro k0 s out1 T H ⟨lo7, hT, hO⟩ h1 ho0
  obtain ⟨f6, was7, i8⟩ := s
  replace h1 : nX eF dJ f6 was7 i8 = some out1 := h1
  try dsimp only at hT
  refine bA hT ?_
  clear hT
  unfold nX at h1
  refine aO ?_
  refine aY aF 4 [] [(13, (aK (decide (i8 < (lN eF)))))] ?_
  refine bJ h1 (fun h1 => ?_) (fun h1 => ?_)
  · refine bL ?_
    refine bH [(0, (eL (eI) eF)), (1, (eL (eI) dJ)), (6, (.msl 2 lo7 0 (List.length f6))), (7, (eI was7)), (8, (eI i8))] ?_
    refine aO ?_
    refine bO 1 ?_
    refine cH (fun T H => ∃ f6 : List aA, ∃ lo9 : Nat, Has T [(0, (eL (eI) eF)), (1, (eL (eI) dJ)), (6, (.msl 2 lo9 0 (List.length f6))), (8, (eI i8))] ∧ aN ⟨H0, [], []⟩ H [(lo9, 2, List.map aE f6)] ∧ wQ eF dJ f6 i8 = some out1) ?_ ?_
    · clear hO h1
      rintro T H ⟨f6, lo9, hT, hO, h1⟩
      refine bA hT ?_
      clear hT
      unfold wQ at h1
      refine aU aF 5 ?_
      obtain ⟨c10, h1⟩ := bE h1
      refine oN [0 ≤ i8 ∧ i8 < (lN dJ)] ⟨c10, trivial⟩ ?_
      refine cN [(0, (eL (eI) eF)), (1, (eL (eI) dJ)), (6, (.msl 2 lo9 0 (List.length f6))), (7, (eI (gD dJ i8))), (8, (eI i8))] ?_
      refine aJ (aV (aH (?_)))
      refine aU aF 3 ?_
      refine bC ?_
      exact aJ (aH (⟨rfl, _, (oI h1).symm, _, .eq (by kernel_rfl), hO⟩))
    refine aO ?_
    refine aU aF 6 ?_
    obtain ⟨c11, h1⟩ := bE h1
    refine oN [0 ≤ i8 ∧ i8 < (lN dJ)] ⟨c11, trivial⟩ ?_
    refine bT [] [(21, (aK (!decide ((gD dJ i8) = was7))))] ?_
    refine bJ h1 (fun h1 => ?_) (fun h1 => ?_)
    · refine eS (eV [26, 30, 34]) aF 15 ?_
      obtain ⟨c13, h1⟩ := bE h1
      obtain ⟨c14, h1⟩ := bE h1
      refine dA 12 [0 ≤ i8 ∧ i8 < (lN eF), 0 ≤ i8 ∧ i8 < (lN dJ)] ⟨c13, c14, trivial⟩ ?_
      refine BK (xs := [(aE (aA.mk (gD eF i8) (wR ((gD dJ i8) - was7))))]) (k := 2) (by kernel_rfl) (by kernel_rfl) ?_
      obtain ⟨c16, h1⟩ := bE h1
      refine zQ (e := aE) f6 ([aA.mk (gD eF i8) (wR ((gD dJ i8) - was7))]) 0 lo7 2 16 (cZ [(aE (aA.mk (gD eF i8) (wR ((gD dJ i8) - was7))))]) (fun lo15 => [(lo15, 2, List.map aE (f6 ++ ([aA.mk (gD eF i8) (wR ((gD dJ i8) - was7))])))]) (by kernel_rfl) (by kernel_rfl) hO (by kernel_rfl) (by kernel_rfl) c16 (fun _ => by kernel_rfl) ?_
      intro lo15 H hO
      refine iJ ?_
      exact aJ (aH (⟨rfl, _, _, .eq (by kernel_rfl), hO, h1⟩))
    refine bL ?_
    exact aJ (aH (⟨rfl, _, _, .eq (by kernel_rfl), hO, h1⟩))
  refine cV 0 ?_
  obtain rfl := oI h1
  obtain rfl : _ = rr0 := ho0
  replace h0 : wS f6 = some r := h0
  exact aJ (aS (aS (bM (aH (⟨rfl, _, _, .eq (by kernel_rfl), hO, h0⟩)))))

theorem ZT (l0 : (List aA)) (r : ((List aA) × Int)) (h0 : xU l0 = some r) : bY Tryz.prog 66 [(eL aE l0)] (.tup [(eL aE r.1), (eI r.2)]) := by
  intro H0
  refine cF Tryz.func66 ?_
  have hO := aN.start H0
  unfold xU at h0
  refine aY aF 2 [] [] ?_
  refine cH (fun T H => Has T [(0, (eL aE l0))] ∧ aN ⟨H0, [], []⟩ H [] ∧ vM l0 = some r) ?_ ?_
  · clear hO h0
    rintro T H ⟨hT, hO, h0⟩
    refine bA hT ?_
    clear hT
    unfold vM at h0
    refine aO ?_
    refine aU aF 2 ?_
    refine iM (xs := []) (k := 1) (by kernel_rfl) (by kernel_rfl) ?_
    refine bC ?_
    refine bT [] [(5, (.sl true 0 (fun _ => .bad)))] ?_
    refine cH (fun T H => ∃ cO : (List Int), Has T [(0, (eL aE l0)), (5, (eL (eI) cO))] ∧ aN ⟨H0, [], []⟩ H [] ∧ wO l0 cO = some r) ?_ ?_
    · clear hO h0
      rintro T H ⟨cO, hT, hO, h0⟩
      refine bA hT ?_
      clear hT
      unfold wO at h0
      refine aO ?_
      refine aU aF 2 ?_
      refine iM (xs := []) (k := 1) (by kernel_rfl) (by kernel_rfl) ?_
      refine bC ?_
      refine bT [] [(7, (.sl true 0 (fun _ => .bad)))] ?_
      refine cH (fun T H => ∃ eW : List Int, ∃ lo1 : Nat, Has T [(5, (eL (eI) cO)), (7, (.msl 1 lo1 0 (List.length eW)))] ∧ aN ⟨H0, [], []⟩ H [(lo1, 1, List.map (eI) eW)] ∧ vP cO eW = some r) ?_ ?_
      · clear hO h0
        rintro T H ⟨eW, lo1, hT, hO, h0⟩
        refine bA hT ?_
        clear hT
        unfold vP at h0
        refine aO ?_
        refine aU aF 7 ?_
        refine xZ (e := (eI)) eW 0 7 1 lo1 (List.length eW) [] (by kernel_rfl) hO (by kernel_rfl) (by kernel_rfl) (by kernel_rfl) (by kernel_rfl) ?_
        intro H hO
        refine bR 2 ?_
        obtain ⟨x2, hx3, h0⟩ := aW h0
        refine cA (ZY cO eW _ hx3) hO ?_
        intro H hO
        refine bC ?_
        refine bH [(2, (eL aE x2.1)), (3, (eI x2.2))] ?_
        refine bK ?_
        obtain rfl := oI h0
        exact aJ (Q_r hO)
      refine aY aF 1 [] [(8, (eI (0 : Int)))] ?_
      refine bO 4 ?_
      refine cL [(0, (eL aE l0)), (5, (eL (eI) cO)), (7, (.sl true 0 (fun _ => .bad))), (8, (eI (0 : Int)))] ?_
      refine uM (el := (fun _ => .bad)) 2 7 1 hO (by kernel_rfl) ?_
      intro lo14 H15 hO
      refine cC (fun T H => ∃ eW : List Int, ∃ i8 : Int, ∃ lo6 : Nat, Has T [(0, (eL aE l0)), (5, (eL (eI) cO)), (7, (.msl 1 lo6 0 (List.length eW))), (8, (eI i8))] ∧ aN ⟨H0, [], []⟩ H [(lo6, 1, List.map (eI) eW)] ∧ BY l0 cO eW i8 = some r) ?_ ⟨([] : List Int), (0 : Int), lo14, .eq (by kernel_rfl), hO, h0⟩
      clear hO h0
      rintro T H ⟨eW, i8, lo6, hT, hO, h0⟩
      refine bA hT ?_
      clear hT
      unfold BY at h0
      obtain ⟨rr0, hl0, h0⟩ := aW h0
      refine bX (by kernel_rfl) (fun (s : List Int × Int) T H => ∃ lo6 : Nat, Has T [(0, (eL aE l0)), (5, (eL (eI) cO)), (7, (.msl 1 lo6 0 (List.length s.1))), (8, (eI s.2))] ∧ aN ⟨H0, [], []⟩ H [(lo6, 1, List.map (eI) s.1)]) hl0 ⟨lo6, .eq (by kernel_rfl), hO⟩ ?_
      clear hO
      rintro k0 s out1 T H ⟨lo6, hT, hO⟩ h1 ho0
      obtain ⟨eW, i8⟩ := s
      replace h1 : nV l0 cO eW i8 = some out1 := h1
      try dsimp only at hT
      refine bA hT ?_
      clear hT
      unfold nV at h1
      refine aO ?_
      refine aY aF 4 [] [(67, (aK (decide (i8 < (lN cO)))))] ?_
      refine bJ h1 (fun h1 => ?_) (fun h1 => ?_)
      · refine bL ?_
        refine bH [(0, (eL aE l0)), (5, (eL (eI) cO)), (7, (.msl 1 lo6 0 (List.length eW))), (8, (eI i8))] ?_
        refine aO ?_
        refine bO 5 ?_
        refine aU aF 10 ?_
        obtain ⟨c8, h1⟩ := bE h1
        refine jT 6 [0 ≤ i8 ∧ i8 < (lN cO)] ⟨c8, trivial⟩ ?_
        obtain ⟨x9, hx10, h1⟩ := aW h1
        refine cA (CB l0 (gD cO i8) _ hx10) hO ?_
        intro H hO
        refine iM (xs := [(eI x9)]) (k := 1) (by kernel_rfl) (by kernel_rfl) ?_
        obtain ⟨c13, h1⟩ := bE h1
        refine rD (e := (eI)) eW ([x9]) 0 lo6 1 8 (cZ [(eI x9)]) (fun lo12 => [(lo12, 1, List.map (eI) (eW ++ ([x9])))]) (by kernel_rfl) (by kernel_rfl) hO (by kernel_rfl) (by kernel_rfl) c13 (fun _ => by kernel_rfl) ?_
        intro lo12 H hO
        refine bC ?_
        refine cN [(0, (eL aE l0)), (5, (eL (eI) cO)), (7, (.msl 1 lo12 0 (List.length (eW ++ ([x9]))))), (8, (eI i8))] ?_
        refine aJ (aV (aH (?_)))
        refine aU aF 3 ?_
        refine bC ?_
        exact aJ (aH (⟨rfl, _, (oI h1).symm, _, .eq (by kernel_rfl), hO⟩))
      refine cV 4 ?_
      obtain rfl := oI h1
      obtain rfl : _ = rr0 := ho0
      replace h0 : vP cO eW = some r := h0
      exact aJ (aS (aS (bM (aH (⟨rfl, _, _, .eq (by kernel_rfl), hO, h0⟩)))))
    refine aY aF 1 [] [(6, (eI (0 : Int)))] ?_
    refine bO 2 ?_
    refine bA (l := [(0, (eL aE l0)), (5, (eL (eI) ([]))), (6, (eI (0 : Int)))]) ⟨[(0, (eL aE l0)), (5, (.sl true 0 (fun _ => .bad))), (6, (eI (0 : Int)))], by kernel_rfl, rfl, ⟨aZ.refl _, dG, aZ.refl _, trivial⟩⟩ ?_
    refine cC (fun T H => ∃ cO : (List Int), ∃ i6 : Int, Has T [(0, (eL aE l0)), (5, (eL (eI) cO)), (6, (eI i6))] ∧ aN ⟨H0, [], []⟩ H [] ∧ BT l0 cO i6 = some r) ?_ ⟨[], (0 : Int), .eq (by kernel_rfl), hO, h0⟩
    clear hO h0
    rintro T H ⟨cO, i6, hT, hO, h0⟩
    refine bA hT ?_
    clear hT
    unfold BT at h0
    obtain ⟨rr0, hl0, h0⟩ := aW h0
    refine bX (by kernel_rfl) (fun (s : (List Int) × Int) T H => Has T [(0, (eL aE l0)), (5, (eL (eI) s.1)), (6, (eI s.2))] ∧ aN ⟨H0, [], []⟩ H []) hl0 ⟨.eq (by kernel_rfl), hO⟩ ?_
    clear hO
    rintro k0 s out1 T H ⟨hT, hO⟩ h1 ho0
    obtain ⟨cO, i6⟩ := s
    replace h1 : jN l0 cO i6 = some out1 := h1
    try dsimp only at hT
    refine bA hT ?_
    clear hT
    unfold jN at h1
    refine aO ?_
    refine aY aF 4 [] [(33, (aK (decide (i6 < (lN l0)))))] ?_
    refine bJ h1 (fun h1 => ?_) (fun h1 => ?_)
    · refine bL ?_
      refine bH [(0, (eL aE l0)), (5, (eL (eI) cO)), (6, (eI i6))] ?_
      refine cH (fun T H => ∃ cO : (List Int), Has T [(0, (eL aE l0)), (5, (eL (eI) cO)), (6, (eI i6))] ∧ aN ⟨H0, [], []⟩ H [] ∧ vY l0 cO i6 = some out1) ?_ ?_
      · clear hO h1
        rintro T H ⟨cO, hT, hO, h1⟩
        refine bA hT ?_
        clear hT
        unfold vY at h1
        refine aU aF 3 ?_
        refine bC ?_
        exact aJ (aH (⟨rfl, _, (oI h1).symm, .eq (by kernel_rfl), hO⟩))
      refine bO 3 ?_
      refine aO ?_
      refine aO ?_
      refine aU aF 14 ?_
      obtain ⟨c18, h1⟩ := bE h1
      obtain ⟨c19, h1⟩ := bE h1
      refine oN [0 ≤ i6 ∧ i6 < (lN l0), (((!(decide (((gD l0 i6).At) < (-1 : Int))))) = true → 0 ≤ i6 ∧ i6 < (lN l0))] ⟨c18, c19, trivial⟩ ?_
      refine bT [] [(49, (aK ((decide (((gD l0 i6).At) < (-1 : Int))) || (decide ((1125899906842624 : Int) < ((gD l0 i6).At))))))] ?_
      refine bJ h1 (fun h1 => ?_) (fun h1 => ?_)
      · refine bV aF 2 [(2, (.sl true 0 (fun _ => .bad))), (3, (eI (13 : Int)))] ?_
        refine bK ?_
        refine cJ (l := [(2, (eL aE ([]))), (3, (eI (13 : Int)))]) ⟨[(2, (.sl true 0 (fun _ => .bad))), (3, (eI (13 : Int)))], by kernel_rfl, rfl, ⟨dG, aZ.refl _, trivial⟩⟩ ?_
        obtain rfl := oI h1
        obtain rfl : _ = rr0 := ho0
        replace h0 : some ([], (13 : Int)) = some r := h0
        obtain rfl := oI h0
        exact aJ (aQ (bN (aQ (aQ (bN (aQ (Q_r hO)))))))
      refine bL ?_
      refine bH [(0, (eL aE l0)), (5, (eL (eI) cO)), (6, (eI i6))] ?_
      refine aO ?_
      refine aU aF 6 ?_
      obtain ⟨c21, h1⟩ := bE h1
      refine oN [0 ≤ i6 ∧ i6 < (lN l0)] ⟨c21, trivial⟩ ?_
      refine bT [] [(55, (aK (decide (((gD l0 i6).At) < (1125899906842624 : Int)))))] ?_
      refine bJ h1 (fun h1 => ?_) (fun h1 => ?_)
      · refine aU aF 8 ?_
        obtain ⟨c23, h1⟩ := bE h1
        refine jT 6 [0 ≤ i6 ∧ i6 < (lN l0)] ⟨c23, trivial⟩ ?_
        obtain ⟨x24, hx25, h1⟩ := aW h1
        refine cA (ZN cO ((gD l0 i6).At) _ hx25) hO ?_
        intro H hO
        refine bC ?_
        exact aJ (aV (aH (⟨rfl, _, .eq (by kernel_rfl), hO, h1⟩)))
      refine bL ?_
      exact aJ (aV (aH (⟨rfl, _, .eq (by kernel_rfl), hO, h1⟩)))
    refine cV 2 ?_
    obtain rfl := oI h1
    obtain rfl : _ = rr0 := ho0
    replace h0 : wO l0 cO = some r := h0
    exact aJ (aS (aS (bM (aH (⟨rfl, _, .eq (by kernel_rfl), hO, h0⟩)))))
  refine aY aF 1 [] [(4, (eI (0 : Int)))] ?_
  refine bO 0 ?_
  refine cL [(0, (eL aE l0)), (4, (eI (0 : Int)))] ?_
  refine cC (fun T H => ∃ i4 : Int, Has T [(0, (eL aE l0)), (4, (eI i4))] ∧ aN ⟨H0, [], []⟩ H [] ∧ BM l0 i4 = some r) ?_ ⟨(0 : Int), .eq (by kernel_rfl), hO, h0⟩
  clear hO h0
  rintro T H ⟨i4, hT, hO, h0⟩
  refine bA hT ?_
  clear hT
  unfold BM at h0
  obtain ⟨rr0, hl0, h0⟩ := aW h0
  refine bX (by kernel_rfl) (fun (s : Int) T H => Has T [(0, (eL aE l0)), (4, (eI s))] ∧ aN ⟨H0, [], []⟩ H []) hl0 ⟨.eq (by kernel_rfl), hO⟩ ?_
  clear hO
  rintro k0 s out1 T H ⟨hT, hO⟩ h1 ho0
  obtain ⟨i4, rfl⟩ : ∃ x, x = s := ⟨_, rfl⟩
  replace h1 : qI l0 i4 = some out1 := h1
  refine bA hT ?_
  clear hT
  unfold qI at h1
  refine aO ?_
  refine aY aF 4 [] [(12, (aK (decide (i4 < (lN l0)))))] ?_
  refine bJ h1 (fun h1 => ?_) (fun h1 => ?_)
  · refine bL ?_
    refine bH [(0, (eL aE l0)), (4, (eI i4))] ?_
    refine aO ?_
    refine bO 1 ?_
    refine aO ?_
    refine aU aF 14 ?_
    obtain ⟨c28, h1⟩ := bE h1
    obtain ⟨c29, h1⟩ := bE h1
    refine oN [0 ≤ i4 ∧ i4 < (lN l0), (((!(decide ((1048576 : Int) < ((gD l0 i4).Net))))) = true → 0 ≤ i4 ∧ i4 < (lN l0))] ⟨c28, c29, trivial⟩ ?_
    refine bT [] [(28, (aK ((decide ((1048576 : Int) < ((gD l0 i4).Net))) || (decide (((gD l0 i4).Net) < (-1048576 : Int))))))] ?_
    refine bJ h1 (fun h1 => ?_) (fun h1 => ?_)
    · refine bV aF 2 [(2, (.sl true 0 (fun _ => .bad))), (3, (eI (2 : Int)))] ?_
      refine bK ?_
      refine cJ (l := [(2, (eL aE ([]))), (3, (eI (2 : Int)))]) ⟨[(2, (.sl true 0 (fun _ => .bad))), (3, (eI (2 : Int)))], by kernel_rfl, rfl, ⟨dG, aZ.refl _, trivial⟩⟩ ?_
      obtain rfl := oI h1
      obtain rfl : _ = rr0 := ho0
      replace h0 : some ([], (2 : Int)) = some r := h0
      obtain rfl := oI h0
      exact aJ (bN (aQ (aQ (bN (aQ (Q_r hO))))))
    refine bL ?_
    refine cN [(0, (eL aE l0)), (4, (eI i4))] ?_
    refine aJ (aV (aH (?_)))
    refine aU aF 3 ?_
    refine bC ?_
    exact aJ (aH (⟨rfl, _, (oI h1).symm, .eq (by kernel_rfl), hO⟩))
  refine cV 0 ?_
  obtain rfl := oI h1
  obtain rfl : _ = rr0 := ho0
  replace h0 : vM l0 = some r := h0
  exact aJ (aS (aS (bM (aH (⟨rfl, .eq (by kernel_rfl), hO, h0⟩)))))

theorem aAs (lo0p : Nat) (l0 : (List aC)) (r1 : (List aG)) (f2 : (List aA)) (r : (List aC)) (h0 : AH l0 r1 f2 = some r) : IE Tryz.prog 67 lo0p 3 (List.map aD l0) [(.msl 3 lo0p 0 (List.length l0)), (eL aI r1), (eL aE f2)] (fun lo => .msl 3 lo 0 (List.length r)) (List.map aD r) := by
  intro H0 hl0
  refine cF Tryz.func67 ?_
  have hO := aN.rO hl0
  clear hl0
  unfold AH at h0
  refine aY aF 1 [] [] ?_
  refine cH (fun T H => ∃ l0 : List aC, ∃ lo1 : Nat, Has T [(0, (.msl 3 lo1 0 (List.length l0)))] ∧ aN ⟨H0, [lo0p], []⟩ H [(lo1, 3, List.map aD l0)] ∧ DH l0 = some r) ?_ ?_
  · clear hO h0
    rintro T H ⟨l0, lo1, hT, hO, h0⟩
    refine bA hT ?_
    clear hT
    unfold DH at h0
    refine bV aF 2 [(6, (.msl 3 lo1 0 (List.length l0)))] ?_
    refine bK ?_
    obtain rfl := oI h0
    exact aJ (rV (x := (.msl 3 lo1 0 (List.length l0))) (by kernel_rfl) (aZ.refl _) ⟨lo1, rfl, hO⟩)
  refine aY aF 1 [] [(7, (eI (0 : Int)))] ?_
  refine bO 0 ?_
  refine cL [(0, (.msl 3 lo0p 0 (List.length l0))), (1, (eL aI r1)), (2, (eL aE f2)), (7, (eI (0 : Int)))] ?_
  refine cC (fun T H => ∃ l0 : List aC, ∃ i7 : Int, ∃ lo3 : Nat, Has T [(0, (.msl 3 lo3 0 (List.length l0))), (1, (eL aI r1)), (2, (eL aE f2)), (7, (eI i7))] ∧ aN ⟨H0, [lo0p], []⟩ H [(lo3, 3, List.map aD l0)] ∧ DF l0 r1 f2 i7 = some r) ?_ ⟨l0, (0 : Int), lo0p, .eq (by kernel_rfl), hO, h0⟩
  clear hO h0
  rintro T H ⟨l0, i7, lo3, hT, hO, h0⟩
  refine bA hT ?_
  clear hT
  unfold DF at h0
  obtain ⟨rr0, hl0, h0⟩ := aW h0
  refine bX (by kernel_rfl) (fun (s : List aC × Int) T H => ∃ lo3 : Nat, Has T [(0, (.msl 3 lo3 0 (List.length s.1))), (1, (eL aI r1)), (2, (eL aE f2)), (7, (eI s.2))] ∧ aN ⟨H0, [lo0p], []⟩ H [(lo3, 3, List.map aD s.1)]) hl0 ⟨lo3, .eq (by kernel_rfl), hO⟩ ?_
  clear hO
  rintro k0 s out1 T H ⟨lo3, hT, hO⟩ h1 ho0
  obtain ⟨l0, i7⟩ := s
  replace h1 : pN r1 f2 l0 i7 = some out1 := h1
  try dsimp only at hT
  refine bA hT ?_
  clear hT
  unfold pN at h1
  refine aO ?_
  refine aY aF 4 [] [(11, (aK (decide (i7 < (lN f2)))))] ?_
  refine bJ h1 (fun h1 => ?_) (fun h1 => ?_)
  · refine bL ?_
    refine bH [(0, (.msl 3 lo3 0 (List.length l0))), (1, (eL aI r1)), (2, (eL aE f2)), (7, (eI i7))] ?_
    refine aO ?_
    refine bO 1 ?_
    refine eS (eV [22, 27, 29]) aF 18 ?_
    refine qH 1 ?_
    refine BK (xs := []) (k := 3) (by kernel_rfl) (by kernel_rfl) ?_
    refine qH 3 ?_
    obtain ⟨c10, h1⟩ := bE h1
    refine aBe (e := aI) r1 (fun _ => .bad) 3 32 (eL aI r1) (by kernel_rfl) (by kernel_rfl) hO (JH (fun _ => by kernel_rfl)) c10 ?_
    intro H hO
    obtain ⟨c11, h1⟩ := bE h1
    obtain ⟨c12, h1⟩ := bE h1
    refine dA 15 [0 ≤ i7 ∧ i7 < (lN f2), 0 ≤ i7 ∧ i7 < (lN f2)] ⟨c11, c12, trivial⟩ ?_
    refine BK (xs := [(aD (aC.mk r1 ((gD f2 i7).At) ((gD f2 i7).Net)))]) (k := 3) (by kernel_rfl) (by kernel_rfl) ?_
    obtain ⟨c14, h1⟩ := bE h1
    refine zQ (e := aD) l0 ([aC.mk r1 ((gD f2 i7).At) ((gD f2 i7).Net)]) 0 lo3 3 40 (cZ [(aD (aC.mk r1 ((gD f2 i7).At) ((gD f2 i7).Net)))]) (fun lo13 => [(lo13, 3, List.map aD (l0 ++ ([aC.mk r1 ((gD f2 i7).At) ((gD f2 i7).Net)])))]) (by kernel_rfl) (by kernel_rfl) hO (by kernel_rfl) (by kernel_rfl) c14 (fun _ => by kernel_rfl) ?_
    intro lo13 H hO
    refine iJ ?_
    refine cN [(0, (.msl 3 lo13 0 (List.length (l0 ++ ([aC.mk r1 ((gD f2 i7).At) ((gD f2 i7).Net)]))))), (1, (eL aI r1)), (2, (eL aE f2)), (7, (eI i7))] ?_
    refine aJ (aV (aH (?_)))
    refine aU aF 3 ?_
    refine bC ?_
    exact aJ (aH (⟨rfl, _, (oI h1).symm, _, .eq (by kernel_rfl), hO⟩))
  refine cV 0 ?_
  obtain rfl := oI h1
  obtain rfl : _ = rr0 := ho0
  replace h0 : DH l0 = some r := h0
  exact aJ (aS (aS (bM (aH (⟨rfl, _, _, .eq (by kernel_rfl), hO, h0⟩)))))

theorem ZQ (l0 : (List aC)) (r : ((List aC) × Int)) (h0 : yS l0 = some r) : bY Tryz.prog 34 [(eL aD l0)] (.tup [(eL aD r.1), (eI r.2)]) := by
  intro H0
  refine cF Tryz.func34 ?_
  have hO := aN.start H0
  unfold yS at h0
  refine aY aF 2 [] [] ?_
  refine cH (fun T H => Has T [(0, (eL aD l0))] ∧ aN ⟨H0, [], []⟩ H [] ∧ wI l0 = some r) ?_ ?_
  · clear hO h0
    rintro T H ⟨hT, hO, h0⟩
    refine bA hT ?_
    clear hT
    unfold wI at h0
    refine cH (fun T H => Has T [(0, (eL aD l0))] ∧ aN ⟨H0, [], []⟩ H [] ∧ wM l0 = some r) ?_ ?_
    · clear hO h0
      rintro T H ⟨hT, hO, h0⟩
      refine bA hT ?_
      clear hT
      unfold wM at h0
      refine aO ?_
      refine aU aF 2 ?_
      refine iM (xs := []) (k := 3) (by kernel_rfl) (by kernel_rfl) ?_
      refine bC ?_
      refine bT [] [(6, (.sl true 0 (fun _ => .bad)))] ?_
      refine aO ?_
      refine aU aF 3 ?_
      refine bR 1 ?_
      obtain ⟨x1, hx2, h0⟩ := aW h0
      refine cA (DZ l0 _ hx2) hO ?_
      intro H hO
      refine bC ?_
      refine bT [] [(7, (eL (eL aI) x1))] ?_
      refine cH (fun T H => ∃ out6 : List aC, ∃ lo4 : Nat, Has T [(6, (.msl 3 lo4 0 (List.length out6)))] ∧ aN ⟨H0, [], []⟩ H [(lo4, 3, List.map aD out6)] ∧ sP out6 = some r) ?_ ?_
      · clear hO h0
        rintro T H ⟨out6, lo4, hT, hO, h0⟩
        refine bA hT ?_
        clear hT
        unfold sP at h0
        refine aO ?_
        refine aY aF 3 [] [(91, (aK (decide ((4096 : Int) < (lN out6)))))] ?_
        refine bJ h0 (fun h0 => ?_) (fun h0 => ?_)
        · refine aO ?_
          refine aU aF 2 ?_
          refine bC ?_
          refine cN [(2, (.sl true 0 (fun _ => .bad))), (3, (eI (7 : Int)))] ?_
          replace hO := hO.pick (L' := []) [] (by decide) (by kernel_rfl)
          refine aJ (aH (?_))
          refine bK ?_
          refine cJ (l := [(2, (eL aD ([]))), (3, (eI (7 : Int)))]) ⟨[(2, (.sl true 0 (fun _ => .bad))), (3, (eI (7 : Int)))], by kernel_rfl, rfl, ⟨dG, aZ.refl _, trivial⟩⟩ ?_
          obtain rfl := oI h0
          exact aJ (aQ (Q_r hO))
        refine bL ?_
        refine bH [(6, (.msl 3 lo4 0 (List.length out6)))] ?_
        refine bV aF 3 [(2, (.msl 3 lo4 0 (List.length out6))), (3, (eI (0 : Int)))] ?_
        refine bK ?_
        refine cN [(2, (.msl 3 lo4 0 (List.length out6))), (3, (eI (0 : Int)))] ?_
        refine tE (en := aD) out6 0 0 2 3 lo4 (List.length out6) hO (by kernel_rfl) (by kernel_rfl) (by kernel_rfl) (L' := []) (by kernel_rfl) ?_
        intro H6 hO
        obtain rfl := oI h0
        exact aJ (Q_r hO)
      refine aY aF 1 [] [(8, (eI (0 : Int)))] ?_
      refine bO 4 ?_
      refine cL [(0, (eL aD l0)), (6, (.sl true 0 (fun _ => .bad))), (7, (eL (eL aI) x1)), (8, (eI (0 : Int)))] ?_
      refine uM (el := (fun _ => .bad)) 1 6 3 hO (by kernel_rfl) ?_
      intro lo22 H23 hO
      refine cC (fun T H => ∃ out6 : List aC, ∃ oP : (List (List aG)), ∃ i8 : Int, ∃ lo8 : Nat, Has T [(0, (eL aD l0)), (6, (.msl 3 lo8 0 (List.length out6))), (7, (eL (eL aI) oP)), (8, (eI i8))] ∧ aN ⟨H0, [], []⟩ H [(lo8, 3, List.map aD out6)] ∧ BH l0 out6 oP i8 = some r) ?_ ⟨([] : List aC), x1, (0 : Int), lo22, .eq (by kernel_rfl), hO, h0⟩
      clear hO h0
      rintro T H ⟨out6, oP, i8, lo8, hT, hO, h0⟩
      refine bA hT ?_
      clear hT
      unfold BH at h0
      obtain ⟨rr0, hl0, h0⟩ := aW h0
      refine bX (by kernel_rfl) (fun (s : List aC × Int) T H => ∃ lo8 : Nat, Has T [(0, (eL aD l0)), (6, (.msl 3 lo8 0 (List.length s.1))), (7, (eL (eL aI) oP)), (8, (eI s.2))] ∧ aN ⟨H0, [], []⟩ H [(lo8, 3, List.map aD s.1)]) hl0 ⟨lo8, .eq (by kernel_rfl), hO⟩ ?_
      clear hO
      rintro k0 s out1 T H ⟨lo8, hT, hO⟩ h1 ho0
      obtain ⟨out6, i8⟩ := s
      replace h1 : oC l0 oP out6 i8 = some out1 := h1
      try dsimp only at hT
      refine bA hT ?_
      clear hT
      unfold oC at h1
      refine aO ?_
      refine aY aF 4 [] [(66, (aK (decide (i8 < (lN oP)))))] ?_
      refine bJ h1 (fun h1 => ?_) (fun h1 => ?_)
      · refine bL ?_
        refine bH [(0, (eL aD l0)), (6, (.msl 3 lo8 0 (List.length out6))), (7, (eL (eL aI) oP)), (8, (eI i8))] ?_
        refine aO ?_
        refine bO 5 ?_
        refine aO ?_
        refine aU aF 12 ?_
        obtain ⟨c10, h1⟩ := bE h1
        refine jT 5 [0 ≤ i8 ∧ i8 < (lN oP)] ⟨c10, trivial⟩ ?_
        obtain ⟨x11, hx12, h1⟩ := aW h1
        refine cA (BU l0 (gD oP i8) _ hx12) hO ?_
        intro H hO
        obtain ⟨x14, hx15, h1⟩ := aW h1
        refine cA (ZT x11 _ hx15) hO ?_
        intro H hO
        refine bC ?_
        refine bT [] [(9, (eL aE x14.1)), (10, (eI x14.2))] ?_
        refine aO ?_
        refine aY aF 2 [] [(80, (aK (!decide (x14.2 = (0 : Int)))))] ?_
        refine bJ h1 (fun h1 => ?_) (fun h1 => ?_)
        · refine aO ?_
          refine aU aF 3 ?_
          refine bC ?_
          refine cN [(2, (.sl true 0 (fun _ => .bad))), (3, (eI x14.2))] ?_
          replace hO := hO.pick (L' := []) [] (by decide) (by kernel_rfl)
          refine aJ (aH (?_))
          refine bK ?_
          refine cJ (l := [(2, (eL aD ([]))), (3, (eI x14.2))]) ⟨[(2, (.sl true 0 (fun _ => .bad))), (3, (eI x14.2))], by kernel_rfl, rfl, ⟨dG, aZ.refl _, trivial⟩⟩ ?_
          obtain rfl := oI h1
          obtain rfl : _ = rr0 := ho0
          replace h0 : some ([], x14.2) = some r := h0
          obtain rfl := oI h0
          exact aJ (aQ (bN (aQ (aQ (bN (aQ (Q_r hO)))))))
        refine bL ?_
        refine bH [(0, (eL aD l0)), (6, (.msl 3 lo8 0 (List.length out6))), (7, (eL (eL aI) oP)), (8, (eI i8)), (9, (eL aE x14.1))] ?_
        refine aU aF 8 ?_
        obtain ⟨c18, h1⟩ := bE h1
        refine jT 6 [0 ≤ i8 ∧ i8 < (lN oP)] ⟨c18, trivial⟩ ?_
        obtain ⟨x19, hx20, h1⟩ := aW h1
        refine aAS (L' := fun lo21 => [(lo21, 3, List.map aD x19)]) 0 lo8 3 (List.map aD out6) (List.map aD x19) 67 [(.msl 3 lo8 0 (List.length out6)), (eL aI (gD oP i8)), (eL aE x14.1)] (fun lo21 => (.msl 3 lo21 0 (List.length x19))) (by kernel_rfl) (by kernel_rfl) (aAs lo8 out6 (gD oP i8) x14.1 _ hx20) hO (by kernel_rfl) (fun _ => by kernel_rfl) ?_
        intro lo21 H hO
        refine bC ?_
        refine cN [(0, (eL aD l0)), (6, (.msl 3 lo21 0 (List.length x19))), (7, (eL (eL aI) oP)), (8, (eI i8))] ?_
        refine aJ (aV (aH (?_)))
        refine aU aF 3 ?_
        refine bC ?_
        exact aJ (aH (⟨rfl, _, (oI h1).symm, _, .eq (by kernel_rfl), hO⟩))
      refine cV 4 ?_
      obtain rfl := oI h1
      obtain rfl : _ = rr0 := ho0
      replace h0 : sP out6 = some r := h0
      exact aJ (aS (aS (bM (aH (⟨rfl, _, _, .eq (by kernel_rfl), hO, h0⟩)))))
    refine aY aF 1 [] [(5, (eI (0 : Int)))] ?_
    refine bO 2 ?_
    refine cL [(0, (eL aD l0)), (5, (eI (0 : Int)))] ?_
    refine cC (fun T H => ∃ i5 : Int, Has T [(0, (eL aD l0)), (5, (eI i5))] ∧ aN ⟨H0, [], []⟩ H [] ∧ CA l0 i5 = some r) ?_ ⟨(0 : Int), .eq (by kernel_rfl), hO, h0⟩
    clear hO h0
    rintro T H ⟨i5, hT, hO, h0⟩
    refine bA hT ?_
    clear hT
    unfold CA at h0
    obtain ⟨rr0, hl0, h0⟩ := aW h0
    refine bX (by kernel_rfl) (fun (s : Int) T H => Has T [(0, (eL aD l0)), (5, (eI s))] ∧ aN ⟨H0, [], []⟩ H []) hl0 ⟨.eq (by kernel_rfl), hO⟩ ?_
    clear hO
    rintro k0 s out1 T H ⟨hT, hO⟩ h1 ho0
    obtain ⟨i5, rfl⟩ : ∃ x, x = s := ⟨_, rfl⟩
    replace h1 : qE l0 i5 = some out1 := h1
    refine bA hT ?_
    clear hT
    unfold qE at h1
    refine aO ?_
    refine aY aF 4 [] [(43, (aK (decide (i5 < (lN l0)))))] ?_
    refine bJ h1 (fun h1 => ?_) (fun h1 => ?_)
    · refine bL ?_
      refine bH [(0, (eL aD l0)), (5, (eI i5))] ?_
      refine aO ?_
      refine bO 3 ?_
      refine aO ?_
      refine aU aF 14 ?_
      obtain ⟨c25, h1⟩ := bE h1
      obtain ⟨c26, h1⟩ := bE h1
      refine oN [0 ≤ i5 ∧ i5 < (lN l0), (((!(decide (((gD l0 i5).At) < (-1 : Int))))) = true → 0 ≤ i5 ∧ i5 < (lN l0))] ⟨c25, c26, trivial⟩ ?_
      refine bT [] [(59, (aK ((decide (((gD l0 i5).At) < (-1 : Int))) || (decide ((1125899906842624 : Int) < ((gD l0 i5).At))))))] ?_
      refine bJ h1 (fun h1 => ?_) (fun h1 => ?_)
      · refine bV aF 2 [(2, (.sl true 0 (fun _ => .bad))), (3, (eI (13 : Int)))] ?_
        refine bK ?_
        refine cJ (l := [(2, (eL aD ([]))), (3, (eI (13 : Int)))]) ⟨[(2, (.sl true 0 (fun _ => .bad))), (3, (eI (13 : Int)))], by kernel_rfl, rfl, ⟨dG, aZ.refl _, trivial⟩⟩ ?_
        obtain rfl := oI h1
        obtain rfl : _ = rr0 := ho0
        replace h0 : some ([], (13 : Int)) = some r := h0
        obtain rfl := oI h0
        exact aJ (bN (aQ (aQ (bN (aQ (Q_r hO))))))
      refine bL ?_
      refine cN [(0, (eL aD l0)), (5, (eI i5))] ?_
      refine aJ (aV (aH (?_)))
      refine aU aF 3 ?_
      refine bC ?_
      exact aJ (aH (⟨rfl, _, (oI h1).symm, .eq (by kernel_rfl), hO⟩))
    refine cV 2 ?_
    obtain rfl := oI h1
    obtain rfl : _ = rr0 := ho0
    replace h0 : wM l0 = some r := h0
    exact aJ (aS (aS (bM (aH (⟨rfl, .eq (by kernel_rfl), hO, h0⟩)))))
  refine aY aF 1 [] [(4, (eI (0 : Int)))] ?_
  refine bO 0 ?_
  refine cL [(0, (eL aD l0)), (4, (eI (0 : Int)))] ?_
  refine cC (fun T H => ∃ i4 : Int, Has T [(0, (eL aD l0)), (4, (eI i4))] ∧ aN ⟨H0, [], []⟩ H [] ∧ BB l0 i4 = some r) ?_ ⟨(0 : Int), .eq (by kernel_rfl), hO, h0⟩
  clear hO h0
  rintro T H ⟨i4, hT, hO, h0⟩
  refine bA hT ?_
  clear hT
  unfold BB at h0
  obtain ⟨rr0, hl0, h0⟩ := aW h0
  refine bX (by kernel_rfl) (fun (s : Int) T H => Has T [(0, (eL aD l0)), (4, (eI s))] ∧ aN ⟨H0, [], []⟩ H []) hl0 ⟨.eq (by kernel_rfl), hO⟩ ?_
  clear hO
  rintro k0 s out1 T H ⟨hT, hO⟩ h1 ho0
  obtain ⟨i4, rfl⟩ : ∃ x, x = s := ⟨_, rfl⟩
  replace h1 : qG l0 i4 = some out1 := h1
  refine bA hT ?_
  clear hT
  unfold qG at h1
  refine aO ?_
  refine aY aF 4 [] [(14, (aK (decide (i4 < (lN l0)))))] ?_
  refine bJ h1 (fun h1 => ?_) (fun h1 => ?_)
  · refine bL ?_
    refine bH [(0, (eL aD l0)), (4, (eI i4))] ?_
    refine aO ?_
    refine bO 1 ?_
    refine aO ?_
    refine aU aF 23 ?_
    obtain ⟨c29, h1⟩ := bE h1
    refine jT 5 [0 ≤ i4 ∧ i4 < (lN l0)] ⟨c29, trivial⟩ ?_
    obtain ⟨x30, hx31, h1⟩ := aW h1
    refine cA (AA ((gD l0 i4).Row) _ hx31) hO ?_
    intro H hO
    obtain ⟨c33, h1⟩ := bE h1
    obtain ⟨c34, h1⟩ := bE h1
    refine oN [(((!(!x30))) = true → 0 ≤ i4 ∧ i4 < (lN l0)), (((!((!x30) || (decide ((1048576 : Int) < ((gD l0 i4).Net)))))) = true → 0 ≤ i4 ∧ i4 < (lN l0))] ⟨c33, c34, trivial⟩ ?_
    refine bT [] [(39, (aK (((!x30) || (decide ((1048576 : Int) < ((gD l0 i4).Net)))) || (decide (((gD l0 i4).Net) < (-1048576 : Int))))))] ?_
    refine bJ h1 (fun h1 => ?_) (fun h1 => ?_)
    · refine bV aF 2 [(2, (.sl true 0 (fun _ => .bad))), (3, (eI (2 : Int)))] ?_
      refine bK ?_
      refine cJ (l := [(2, (eL aD ([]))), (3, (eI (2 : Int)))]) ⟨[(2, (.sl true 0 (fun _ => .bad))), (3, (eI (2 : Int)))], by kernel_rfl, rfl, ⟨dG, aZ.refl _, trivial⟩⟩ ?_
      obtain rfl := oI h1
      obtain rfl : _ = rr0 := ho0
      replace h0 : some ([], (2 : Int)) = some r := h0
      obtain rfl := oI h0
      exact aJ (bN (aQ (aQ (bN (aQ (Q_r hO))))))
    refine bL ?_
    refine cN [(0, (eL aD l0)), (4, (eI i4))] ?_
    refine aJ (aV (aH (?_)))
    refine aU aF 3 ?_
    refine bC ?_
    exact aJ (aH (⟨rfl, _, (oI h1).symm, .eq (by kernel_rfl), hO⟩))
  refine cV 0 ?_
  obtain rfl := oI h1
  obtain rfl : _ = rr0 := ho0
  replace h0 : wI l0 = some r := h0
  exact aJ (aS (aS (bM (aH (⟨rfl, .eq (by kernel_rfl), hO, h0⟩)))))

theorem LV (l0 : (List aM)) (r : ((List aC) × Int)) (h0 : sM l0 = some r) : bY Tryz.prog 12 [(eL aL l0)] (.tup [(eL aD r.1), (eI r.2)]) := by
  intro H0
  refine cF Tryz.func12 ?_
  have hO := aN.start H0
  unfold sM at h0
  refine aY aF 2 [] [] ?_
  refine aO ?_
  refine aU aF 2 ?_
  refine iM (xs := []) (k := 3) (by kernel_rfl) (by kernel_rfl) ?_
  refine bC ?_
  refine bT [] [(4, (.sl true 0 (fun _ => .bad)))] ?_
  refine cH (fun T H => ∃ all4 : List aC, ∃ lo1 : Nat, Has T [(0, (eL aL l0)), (4, (.msl 3 lo1 0 (List.length all4)))] ∧ aN ⟨H0, [], []⟩ H [(lo1, 3, List.map aD all4)] ∧ uJ l0 all4 = some r) ?_ ?_
  · clear hO h0
    rintro T H ⟨all4, lo1, hT, hO, h0⟩
    refine bA hT ?_
    clear hT
    unfold uJ at h0
    refine aO ?_
    refine aY aF 3 [] [(22, (aK (decide ((4096 : Int) < (lN l0)))))] ?_
    refine bJ h0 (fun h0 => ?_) (fun h0 => ?_)
    · refine aO ?_
      refine aU aF 2 ?_
      refine bC ?_
      refine cN [(2, (.sl true 0 (fun _ => .bad))), (3, (eI (7 : Int)))] ?_
      replace hO := hO.pick (L' := []) [] (by decide) (by kernel_rfl)
      refine aJ (aH (?_))
      refine bK ?_
      refine cJ (l := [(2, (eL aD ([]))), (3, (eI (7 : Int)))]) ⟨[(2, (.sl true 0 (fun _ => .bad))), (3, (eI (7 : Int)))], by kernel_rfl, rfl, ⟨dG, aZ.refl _, trivial⟩⟩ ?_
      obtain rfl := oI h0
      exact aJ (aQ (Q_r hO))
    refine bL ?_
    refine bH [(0, (eL aL l0)), (4, (.msl 3 lo1 0 (List.length all4)))] ?_
    refine cH (fun T H => ∃ all4 : List aC, ∃ lo3 : Nat, Has T [(4, (.msl 3 lo3 0 (List.length all4)))] ∧ aN ⟨H0, [], []⟩ H [(lo3, 3, List.map aD all4)] ∧ tX all4 = some r) ?_ ?_
    · clear hO h0
      rintro T H ⟨all4, lo3, hT, hO, h0⟩
      refine bA hT ?_
      clear hT
      unfold tX at h0
      refine aO ?_
      refine aU aF 6 ?_
      refine xZ (e := aD) all4 0 4 3 lo3 (List.length all4) [] (by kernel_rfl) hO (by kernel_rfl) (by kernel_rfl) (by kernel_rfl) (by kernel_rfl) ?_
      intro H hO
      refine bR 1 ?_
      obtain ⟨x4, hx5, h0⟩ := aW h0
      refine cA (ZQ all4 _ hx5) hO ?_
      intro H hO
      refine bC ?_
      refine bH [(2, (eL aD x4.1)), (3, (eI x4.2))] ?_
      refine bK ?_
      obtain rfl := oI h0
      exact aJ (Q_r hO)
    refine aY aF 1 [] [(6, (eI (0 : Int)))] ?_
    refine bO 2 ?_
    refine cL [(0, (eL aL l0)), (4, (.msl 3 lo1 0 (List.length all4))), (6, (eI (0 : Int)))] ?_
    refine cC (fun T H => ∃ all4 : List aC, ∃ i6 : Int, ∃ lo8 : Nat, Has T [(0, (eL aL l0)), (4, (.msl 3 lo8 0 (List.length all4))), (6, (eI i6))] ∧ aN ⟨H0, [], []⟩ H [(lo8, 3, List.map aD all4)] ∧ zC l0 all4 i6 = some r) ?_ ⟨all4, (0 : Int), lo1, .eq (by kernel_rfl), hO, h0⟩
    clear hO h0
    rintro T H ⟨all4, i6, lo8, hT, hO, h0⟩
    refine bA hT ?_
    clear hT
    unfold zC at h0
    obtain ⟨rr0, hl0, h0⟩ := aW h0
    refine bX (by kernel_rfl) (fun (s : List aC × Int) T H => ∃ lo8 : Nat, Has T [(0, (eL aL l0)), (4, (.msl 3 lo8 0 (List.length s.1))), (6, (eI s.2))] ∧ aN ⟨H0, [], []⟩ H [(lo8, 3, List.map aD s.1)]) hl0 ⟨lo8, .eq (by kernel_rfl), hO⟩ ?_
    clear hO
    rintro k0 s out1 T H ⟨lo8, hT, hO⟩ h1 ho0
    obtain ⟨all4, i6⟩ := s
    replace h1 : mX l0 all4 i6 = some out1 := h1
    try dsimp only at hT
    refine bA hT ?_
    clear hT
    unfold mX at h1
    refine aO ?_
    refine aY aF 4 [] [(26, (aK (decide (i6 < (lN l0)))))] ?_
    refine bJ h1 (fun h1 => ?_) (fun h1 => ?_)
    · refine bL ?_
      refine bH [(0, (eL aL l0)), (4, (.msl 3 lo8 0 (List.length all4))), (6, (eI i6))] ?_
      refine aO ?_
      refine bO 3 ?_
      refine aO ?_
      refine eS (eV [34, 40, 42]) aF 16 ?_
      obtain ⟨c10, h1⟩ := bE h1
      obtain ⟨c11, h1⟩ := bE h1
      refine dA 13 [0 ≤ i6 ∧ i6 < (lN l0), 0 ≤ i6 ∧ i6 < (lN l0)] ⟨c10, c11, trivial⟩ ?_
      refine BK (xs := [(aD (aC.mk ((gD l0 i6).Row) (((gD l0 i6).Span).From) (1 : Int)))]) (k := 3) (by kernel_rfl) (by kernel_rfl) ?_
      obtain ⟨c13, h1⟩ := bE h1
      refine zQ (e := aD) all4 ([aC.mk ((gD l0 i6).Row) (((gD l0 i6).Span).From) (1 : Int)]) 0 lo8 3 40 (cZ [(aD (aC.mk ((gD l0 i6).Row) (((gD l0 i6).Span).From) (1 : Int)))]) (fun lo12 => [(lo12, 3, List.map aD (all4 ++ ([aC.mk ((gD l0 i6).Row) (((gD l0 i6).Span).From) (1 : Int)])))]) (by kernel_rfl) (by kernel_rfl) hO (by kernel_rfl) (by kernel_rfl) c13 (fun _ => by kernel_rfl) ?_
      intro lo12 H hO
      refine iJ ?_
      refine bT [4] [(4, (.msl 3 lo12 0 (List.length (all4 ++ ([aC.mk ((gD l0 i6).Row) (((gD l0 i6).Span).From) (1 : Int)])))))] ?_
      refine eS (eV [49, 55, 57]) aF 16 ?_
      obtain ⟨c14, h1⟩ := bE h1
      obtain ⟨c15, h1⟩ := bE h1
      refine dA 13 [0 ≤ i6 ∧ i6 < (lN l0), 0 ≤ i6 ∧ i6 < (lN l0)] ⟨c14, c15, trivial⟩ ?_
      refine BK (xs := [(aD (aC.mk ((gD l0 i6).Row) (((gD l0 i6).Span).To) (-1 : Int)))]) (k := 3) (by kernel_rfl) (by kernel_rfl) ?_
      obtain ⟨c17, h1⟩ := bE h1
      refine zQ (e := aD) (all4 ++ ([aC.mk ((gD l0 i6).Row) (((gD l0 i6).Span).From) (1 : Int)])) ([aC.mk ((gD l0 i6).Row) (((gD l0 i6).Span).To) (-1 : Int)]) 0 lo12 3 40 (cZ [(aD (aC.mk ((gD l0 i6).Row) (((gD l0 i6).Span).To) (-1 : Int)))]) (fun lo16 => [(lo16, 3, List.map aD ((all4 ++ ([aC.mk ((gD l0 i6).Row) (((gD l0 i6).Span).From) (1 : Int)])) ++ ([aC.mk ((gD l0 i6).Row) (((gD l0 i6).Span).To) (-1 : Int)])))]) (by kernel_rfl) (by kernel_rfl) hO (by kernel_rfl) (by kernel_rfl) c17 (fun _ => by kernel_rfl) ?_
      intro lo16 H hO
      refine iJ ?_
      refine cN [(0, (eL aL l0)), (4, (.msl 3 lo16 0 (List.length ((all4 ++ ([aC.mk ((gD l0 i6).Row) (((gD l0 i6).Span).From) (1 : Int)])) ++ ([aC.mk ((gD l0 i6).Row) (((gD l0 i6).Span).To) (-1 : Int)]))))), (6, (eI i6))] ?_
      refine aJ (aV (aH (?_)))
      refine aU aF 3 ?_
      refine bC ?_
      exact aJ (aH (⟨rfl, _, (oI h1).symm, _, .eq (by kernel_rfl), hO⟩))
    refine cV 2 ?_
    obtain rfl := oI h1
    obtain rfl : _ = rr0 := ho0
    replace h0 : tX all4 = some r := h0
    exact aJ (aS (aS (bM (aH (⟨rfl, _, _, .eq (by kernel_rfl), hO, h0⟩)))))
  refine aY aF 1 [] [(5, (eI (0 : Int)))] ?_
  refine bO 0 ?_
  refine cL [(0, (eL aL l0)), (4, (.sl true 0 (fun _ => .bad))), (5, (eI (0 : Int)))] ?_
  refine uM (el := (fun _ => .bad)) 1 4 3 hO (by kernel_rfl) ?_
  intro lo26 H27 hO
  refine cC (fun T H => ∃ all4 : List aC, ∃ i5 : Int, ∃ lo19 : Nat, Has T [(0, (eL aL l0)), (4, (.msl 3 lo19 0 (List.length all4))), (5, (eI i5))] ∧ aN ⟨H0, [], []⟩ H [(lo19, 3, List.map aD all4)] ∧ zL l0 all4 i5 = some r) ?_ ⟨([] : List aC), (0 : Int), lo26, .eq (by kernel_rfl), hO, h0⟩
  clear hO h0
  rintro T H ⟨all4, i5, lo19, hT, hO, h0⟩
  refine bA hT ?_
  clear hT
  unfold zL at h0
  obtain ⟨rr0, hl0, h0⟩ := aW h0
  refine bX (by kernel_rfl) (fun (s : List aC × Int) T H => ∃ lo19 : Nat, Has T [(0, (eL aL l0)), (4, (.msl 3 lo19 0 (List.length s.1))), (5, (eI s.2))] ∧ aN ⟨H0, [], []⟩ H [(lo19, 3, List.map aD s.1)]) hl0 ⟨lo19, .eq (by kernel_rfl), hO⟩ ?_
  clear hO
  rintro k0 s out1 T H ⟨lo19, hT, hO⟩ h1 ho0
  obtain ⟨all4, i5⟩ := s
  replace h1 : oV l0 all4 i5 = some out1 := h1
  try dsimp only at hT
  refine bA hT ?_
  clear hT
  unfold oV at h1
  refine aO ?_
  refine aY aF 4 [] [(11, (aK (decide (i5 < (lN l0)))))] ?_
  refine bJ h1 (fun h1 => ?_) (fun h1 => ?_)
  · refine bL ?_
    refine bH [(0, (eL aL l0)), (4, (.msl 3 lo19 0 (List.length all4))), (5, (eI i5))] ?_
    refine aO ?_
    refine bO 1 ?_
    refine aO ?_
    refine aU aF 6 ?_
    obtain ⟨c21, h1⟩ := bE h1
    refine jT 4 [0 ≤ i5 ∧ i5 < (lN l0)] ⟨c21, trivial⟩ ?_
    obtain ⟨x22, hx23, h1⟩ := aW h1
    refine cA (PG (gD l0 i5) _ hx23) hO ?_
    intro H hO
    refine bC ?_
    refine bT [] [(19, (aK (!x22)))] ?_
    refine bJ h1 (fun h1 => ?_) (fun h1 => ?_)
    · refine aO ?_
      refine aU aF 2 ?_
      refine bC ?_
      refine cN [(2, (.sl true 0 (fun _ => .bad))), (3, (eI (2 : Int)))] ?_
      replace hO := hO.pick (L' := []) [] (by decide) (by kernel_rfl)
      refine aJ (aH (?_))
      refine bK ?_
      refine cJ (l := [(2, (eL aD ([]))), (3, (eI (2 : Int)))]) ⟨[(2, (.sl true 0 (fun _ => .bad))), (3, (eI (2 : Int)))], by kernel_rfl, rfl, ⟨dG, aZ.refl _, trivial⟩⟩ ?_
      obtain rfl := oI h1
      obtain rfl : _ = rr0 := ho0
      replace h0 : some ([], (2 : Int)) = some r := h0
      obtain rfl := oI h0
      exact aJ (bN (aQ (aQ (bN (aQ (Q_r hO))))))
    refine bL ?_
    refine cN [(0, (eL aL l0)), (4, (.msl 3 lo19 0 (List.length all4))), (5, (eI i5))] ?_
    refine aJ (aV (aH (?_)))
    refine aU aF 3 ?_
    refine bC ?_
    exact aJ (aH (⟨rfl, _, (oI h1).symm, _, .eq (by kernel_rfl), hO⟩))
  refine cV 0 ?_
  obtain rfl := oI h1
  obtain rfl : _ = rr0 := ho0
  replace h0 : uJ l0 all4 = some r := h0
  exact aJ (aS (aS (bM (aH (⟨rfl, _, _, .eq (by kernel_rfl), hO, h0⟩)))))

theorem WU (l0 : (List aM)) (r : ((List aM) × Int)) (h0 : yU l0 = some r) : bY Tryz.prog 14 [(eL aL l0)] (.tup [(eL aL r.1), (eI r.2)]) := by
  intro H0
  refine cF Tryz.func14 ?_
  have hO := aN.start H0
  unfold yU at h0
  refine aY aF 2 [] [] ?_
  refine aO ?_
  refine aU aF 7 ?_
  refine bR 1 ?_
  obtain ⟨x1, hx2, h0⟩ := aW h0
  refine cA (LV l0 _ hx2) hO ?_
  intro H hO
  refine bC ?_
  refine bH [(4, (eL aD x1.1)), (5, (eI x1.2))] ?_
  refine aO ?_
  refine aY aF 2 [] [(12, (aK (!decide (x1.2 = (0 : Int)))))] ?_
  refine bJ h0 (fun h0 => ?_) (fun h0 => ?_)
  · refine bV aF 3 [(2, (.sl true 0 (fun _ => .bad))), (3, (eI x1.2))] ?_
    refine bK ?_
    refine cJ (l := [(2, (eL aL ([]))), (3, (eI x1.2))]) ⟨[(2, (.sl true 0 (fun _ => .bad))), (3, (eI x1.2))], by kernel_rfl, rfl, ⟨dG, aZ.refl _, trivial⟩⟩ ?_
    obtain rfl := oI h0
    exact aJ (aQ (Q_r hO))
  refine bL ?_
  refine bH [(4, (eL aD x1.1))] ?_
  refine aO ?_
  refine aU aF 6 ?_
  refine bR 1 ?_
  obtain ⟨x5, hx6, h0⟩ := aW h0
  refine cA (SX x1.1 _ hx6) hO ?_
  intro H hO
  refine bC ?_
  refine bH [(2, (eL aL x5.1)), (3, (eI x5.2))] ?_
  refine bK ?_
  obtain rfl := oI h0
  exact aJ (Q_r hO)

theorem OI (l0 : (List aM)) (r : Bool) (h0 : tS l0 = some r) : bY Tryz.prog 4 [(eL aL l0)] (aK r) := by
  intro H0
  refine cF Tryz.func4 ?_
  have hO := aN.start H0
  unfold tS at h0
  refine aY aF 1 [] [] ?_
  refine aO ?_
  refine aO ?_
  refine aU aF 4 ?_
  refine bR 2 ?_
  obtain ⟨x1, hx2, h0⟩ := aW h0
  refine cA (aAF (lN l0) _ hx2) hO ?_
  intro H hO
  refine bC ?_
  refine bT [] [(15, (aK (!x1)))] ?_
  refine bJ h0 (fun h0 => ?_) (fun h0 => ?_)
  · refine aO ?_
    refine aU aF 2 ?_
    obtain ⟨x5, hx6, h0⟩ := aW h0
    refine cA (MI  _ hx6) hO ?_
    intro H hO
    refine bC ?_
    refine bH [(2, (aK x5))] ?_
    refine bK ?_
    obtain rfl := oI h0
    exact aJ (aQ (Q_r hO))
  refine bL ?_
  refine bH [(0, (eL aL l0))] ?_
  refine aO ?_
  refine aU aF 7 ?_
  refine bR 1 ?_
  obtain ⟨x8, hx9, h0⟩ := aW h0
  refine cA (MH l0 _ hx9) hO ?_
  intro H hO
  refine bC ?_
  refine bT [] [(3, (eL aD x8.1)), (4, (eI x8.2))] ?_
  refine aO ?_
  refine aU aF 7 ?_
  refine bR 1 ?_
  obtain ⟨x11, hx12, h0⟩ := aW h0
  refine cA (LV l0 _ hx12) hO ?_
  intro H hO
  refine bC ?_
  refine bT [] [(5, (eL aD x11.1)), (6, (eI x11.2))] ?_
  refine aO ?_
  refine aU aF 7 ?_
  refine bR 1 ?_
  obtain ⟨x14, hx15, h0⟩ := aW h0
  refine cA (IZ l0 _ hx15) hO ?_
  intro H hO
  refine bC ?_
  refine bT [] [(7, (eL aL x14.1)), (8, (eI x14.2))] ?_
  refine aO ?_
  refine aU aF 7 ?_
  refine bR 1 ?_
  obtain ⟨x17, hx18, h0⟩ := aW h0
  refine cA (WU l0 _ hx18) hO ?_
  intro H hO
  refine bC ?_
  refine bT [] [(9, (eL aL x17.1)), (10, (eI x17.2))] ?_
  refine cH (fun T H => ∃ a3 : (List aC), ∃ e4 : Int, ∃ b5 : (List aC), ∃ f6 : Int, ∃ c7 : (List aM), ∃ g8 : Int, ∃ d9 : (List aM), ∃ h10 : Int, Has T [(3, (eL aD a3)), (4, (eI e4)), (5, (eL aD b5)), (6, (eI f6)), (7, (eL aL c7)), (8, (eI g8)), (9, (eL aL d9)), (10, (eI h10))] ∧ aN ⟨H0, [], []⟩ H [] ∧ pO a3 e4 b5 f6 c7 g8 d9 h10 = some r) ?_ ?_
  · clear hO h0
    rintro T H ⟨a3, e4, b5, f6, c7, g8, d9, h10, hT, hO, h0⟩
    refine bA hT ?_
    clear hT
    unfold pO at h0
    refine aO ?_
    refine aU aF 27 ?_
    obtain ⟨x20, hx21, h0⟩ := aW h0
    refine cA (MI  _ hx21) hO ?_
    intro H hO
    refine bR 9 ?_
    obtain ⟨x23, hx24, h0⟩ := aW h0
    refine fU [(60, true)] 11 [(eL aD a3), (eL aD b5)] (aK x23) (x20 && (decide (e4 = f6))) (by kernel_rfl) (by kernel_rfl) (by kernel_rfl) (fun hb25 => (YC a3 b5 _ (fP hx24 hb25))) hO ?_
    intro H hO
    refine bR 19 ?_
    obtain ⟨x26, hx27, h0⟩ := aW h0
    refine fU [(70, true)] 9 [(eL aL c7), (eL aL d9)] (aK x26) (((x20 && (decide (e4 = f6))) && x23) && (decide (g8 = h10))) (by kernel_rfl) (by kernel_rfl) (by kernel_rfl) (fun hb28 => (ML c7 d9 _ (fP hx27 hb28))) hO ?_
    intro H hO
    refine bR 24 ?_
    obtain ⟨x29, hx30, h0⟩ := aW h0
    refine fU [(75, true)] 17 [(eL aL c7), (eL aL d9)] (aK x29) ((((x20 && (decide (e4 = f6))) && x23) && (decide (g8 = h10))) && x26) (by kernel_rfl) (by kernel_rfl) (by kernel_rfl) (fun hb31 => (OT c7 d9 _ (fP hx30 hb31))) hO ?_
    intro H hO
    refine bC ?_
    refine bH [(2, (aK (((((x20 && (decide (e4 = f6))) && x23) && (decide (g8 = h10))) && x26) && x29)))] ?_
    refine bK ?_
    obtain rfl := oI h0
    exact aJ (Q_r hO)
  refine bV aF 1 [(0, (eL aL l0)), (3, (eL aD x8.1)), (4, (eI x8.2)), (5, (eL aD x11.1)), (6, (eI x11.2)), (7, (eL aL x14.1)), (8, (eI x14.2)), (9, (eL aL x17.1)), (10, (eI x17.2)), (11, (eI (0 : Int)))] ?_
  refine bO 0 ?_
  refine cL [(0, (eL aL l0)), (3, (eL aD x8.1)), (4, (eI x8.2)), (5, (eL aD x11.1)), (6, (eI x11.2)), (7, (eL aL x14.1)), (8, (eI x14.2)), (9, (eL aL x17.1)), (10, (eI x17.2)), (11, (eI (0 : Int)))] ?_
  refine cC (fun T H => ∃ a3 : (List aC), ∃ e4 : Int, ∃ b5 : (List aC), ∃ f6 : Int, ∃ c7 : (List aM), ∃ g8 : Int, ∃ d9 : (List aM), ∃ h10 : Int, ∃ i11 : Int, Has T [(0, (eL aL l0)), (3, (eL aD a3)), (4, (eI e4)), (5, (eL aD b5)), (6, (eI f6)), (7, (eL aL c7)), (8, (eI g8)), (9, (eL aL d9)), (10, (eI h10)), (11, (eI i11))] ∧ aN ⟨H0, [], []⟩ H [] ∧ sZ l0 a3 e4 b5 f6 c7 g8 d9 h10 i11 = some r) ?_ ⟨x8.1, x8.2, x11.1, x11.2, x14.1, x14.2, x17.1, x17.2, (0 : Int), .eq (by kernel_rfl), hO, h0⟩
  clear hO h0
  rintro T H ⟨a3, e4, b5, f6, c7, g8, d9, h10, i11, hT, hO, h0⟩
  refine bA hT ?_
  clear hT
  unfold sZ at h0
  obtain ⟨rr0, hl0, h0⟩ := aW h0
  refine bX (by kernel_rfl) (fun (s : Int) T H => Has T [(0, (eL aL l0)), (3, (eL aD a3)), (4, (eI e4)), (5, (eL aD b5)), (6, (eI f6)), (7, (eL aL c7)), (8, (eI g8)), (9, (eL aL d9)), (10, (eI h10)), (11, (eI s))] ∧ aN ⟨H0, [], []⟩ H []) hl0 ⟨.eq (by kernel_rfl), hO⟩ ?_
  clear hO
  rintro k0 s out1 T H ⟨hT, hO⟩ h1 ho0
  obtain ⟨i11, rfl⟩ : ∃ x, x = s := ⟨_, rfl⟩
  replace h1 : kH l0 a3 e4 b5 f6 c7 g8 d9 h10 i11 = some out1 := h1
  refine bA hT ?_
  clear hT
  unfold kH at h1
  refine aO ?_
  refine aY aF 4 [] [(40, (aK (decide (i11 < (lN l0)))))] ?_
  refine bJ h1 (fun h1 => ?_) (fun h1 => ?_)
  · refine bL ?_
    refine bH [(0, (eL aL l0)), (3, (eL aD a3)), (4, (eI e4)), (5, (eL aD b5)), (6, (eI f6)), (7, (eL aL c7)), (8, (eI g8)), (9, (eL aL d9)), (10, (eI h10)), (11, (eI i11))] ?_
    refine aO ?_
    refine bO 1 ?_
    refine aO ?_
    refine eS (eV [46, 47, 51, 52]) aF 11 ?_
    obtain ⟨c33, h1⟩ := bE h1
    refine dA 4 [0 ≤ i11 ∧ i11 < (lN l0)] ⟨c33, trivial⟩ ?_
    obtain ⟨x34, hx35, h1⟩ := aW h1
    refine yA (GJ (gD l0 i11) _ hx35) hO ?_
    intro H hO
    obtain ⟨c37, h1⟩ := bE h1
    refine dA 9 [0 ≤ i11 ∧ i11 < (lN l0)] ⟨c37, trivial⟩ ?_
    obtain ⟨x38, hx39, h1⟩ := aW h1
    refine yA (PG (gD l0 i11) _ hx39) hO ?_
    intro H hO
    refine iJ ?_
    refine bT [] [(53, (aK (!(x34 == x38))))] ?_
    refine bJ h1 (fun h1 => ?_) (fun h1 => ?_)
    · refine bV aF 1 [(2, (aK false))] ?_
      refine bK ?_
      obtain rfl := oI h1
      obtain rfl : _ = rr0 := ho0
      replace h0 : some false = some r := h0
      obtain rfl := oI h0
      exact aJ (bN (aQ (aQ (bN (aQ (Q_r hO))))))
    refine bL ?_
    refine cN [(0, (eL aL l0)), (3, (eL aD a3)), (4, (eI e4)), (5, (eL aD b5)), (6, (eI f6)), (7, (eL aL c7)), (8, (eI g8)), (9, (eL aL d9)), (10, (eI h10)), (11, (eI i11))] ?_
    refine aJ (aV (aH (?_)))
    refine aU aF 3 ?_
    refine bC ?_
    exact aJ (aH (⟨rfl, _, (oI h1).symm, .eq (by kernel_rfl), hO⟩))
  refine cV 0 ?_
  obtain rfl := oI h1
  obtain rfl : _ = rr0 := ho0
  replace h0 : pO a3 e4 b5 f6 c7 g8 d9 h10 = some r := h0
  exact aJ (aS (aS (bM (aH (⟨rfl, _, _, _, _, _, _, _, _, .eq (by kernel_rfl), hO, h0⟩)))))

end Go.Abs
namespace Go.Abs
open Go Go.RowKit Go.Proofs
theorem MR {H : Type} {enc : TypeId × Value → H} {w : World} : BG enc Tryz.prog w 71 aI HO :=
  HD Tryz.underlying71 (by kernel_rfl) (tH (c' := PJ) (ok' := HO) (fun (a : Int) (b : Int × ByteArray × Unit) => (aG.mk a b.1 b.2.1 : aG)) (by kernel_rfl) (IF Tryz.underlying69) (tH (c' := fun (b : Int × ByteArray × Unit) => (V.cells (CF .i64 b.1) ++ (V.cells (EG b.2.1) ++ []))) (ok' := fun b => (KV b.1 ∧ ((fun s => s.size ≤ maxLen) b.2.1 ∧ True))) (fun a b => (a, b)) (by kernel_rfl) (IF Tryz.underlying3) (tH (c' := fun (b : ByteArray × Unit) => (V.cells (EG b.1) ++ [])) (ok' := fun b => ((fun s => s.size ≤ maxLen) b.1 ∧ True)) (fun a b => (a, b)) (by kernel_rfl) (XY Tryz.underlying9) (KQ ()) (fun _ _ => rfl) (fun _ _ h1 h2 => ⟨h1, h2⟩)) (fun _ _ => rfl) (fun _ _ h1 h2 => ⟨h1, h2⟩)) (fun _ _ => rfl) (fun _ _ h1 h2 => ⟨h1, h2⟩))

theorem OG {H : Type} {enc : TypeId × Value → H} {w : World} : BG enc Tryz.prog w 41 bG EU :=
  HD Tryz.underlying41 (by kernel_rfl) (tH (c' := KF) (ok' := EU) (fun (a : Int) (b : Int × Unit) => (aT.mk a b.1 : aT)) (by kernel_rfl) (IF Tryz.underlying3) (tH (c' := fun (b : Int × Unit) => (V.cells (CF .i64 b.1) ++ [])) (ok' := fun b => (KV b.1 ∧ True)) (fun a b => (a, b)) (by kernel_rfl) (IF Tryz.underlying3) (KQ ()) (fun _ _ => rfl) (fun _ _ h1 h2 => ⟨h1, h2⟩)) (fun _ _ => rfl) (fun _ _ h1 h2 => ⟨h1, h2⟩))

theorem NV {H : Type} {enc : TypeId × Value → H} {w : World} : BG enc Tryz.prog w 43 aL yH :=
  HD Tryz.underlying43 (by kernel_rfl) (tH (c' := PF) (ok' := yH) (fun (a : (List aG)) (b : aT × Unit) => (aM.mk a b.1 : aM)) (by kernel_rfl) (aAE Tryz.underlying39 (by decide +kernel) (fun _ => by kernel_rfl) (fun _ => rfl) MR (by kernel_rfl)) (tH (c' := fun (b : aT × Unit) => (V.cells (bG b.1) ++ [])) (ok' := fun b => (EU b.1 ∧ True)) (fun a b => (a, b)) (by kernel_rfl) OG (KQ ()) (fun _ _ => rfl) (fun _ _ h1 h2 => ⟨h1, h2⟩)) (fun _ _ => rfl) (fun _ _ h1 h2 => ⟨h1, h2⟩))

end Go.Abs
namespace Go.Abs
open Go
theorem dW {n : Int} (h1 : -9223372036854775808 ≤ n) (h2 : n ≤ 9223372036854775807) : IntKind.i64.wrap n = n := by
  simp only [IntKind.wrap, IntKind.bits, IntKind.signed]
  simp
  split <;> omega

def AW {α st R : Type} (step : st → α → Option (st ⊕ R)) (fin : st → R) : st → List α → Option R
  | s, [] => some (fin s)
  | s, a :: r => match step s a with
    | some (.inl s') => AW step fin s' r
    | some (.inr x) => some x
    | none => none

theorem aBm {α st R : Type} {step : st → α → Option (st ⊕ R)} {fin : st → R} {s s' : st} {a : α} {r : List α} (h : step s a = some (.inl s')) : AW step fin s (a :: r) = AW step fin s' r := by
  simp only [AW, h]

theorem aBz {α st R : Type} {step : st → α → Option (st ⊕ R)} {fin : st → R} {s : st} {x : R} {a : α} {r : List α} (h : step s a = some (.inr x)) : AW step fin s (a :: r) = some x := by
  simp only [AW, h]

theorem aAR {α S st R : Type} {body : S → Option (S ⊕ R)} {l : List α} (mk : st → Int → S) (step : st → α → Option (st ⊕ R)) (fin : st → R)
    (hn : ∀ (i : Nat) a s, l[i]? = some a → (∀ s', step s a = some (.inl s') → body (mk s i) = some (.inl (mk s' ((i + 1 : Nat) : Int)))) ∧ (∀ x, step s a = some (.inr x) → body (mk s i) = some (.inr x)))
    (he : ∀ s, body (mk s (l.length : Nat)) = some (.inr (fin s))) : ∀ (m k : Nat) (s : st) (r : R), l.length - k = m → k ≤ l.length → AW step fin s (l.drop k) = some r → lp body (mk s k) = some r
  | 0, k, s, r, hm, hk, h => by
    have : k = l.length := by omega
    subst this
    rw [List.drop_length] at h
    simp only [AW, Option.some.injEq] at h
    subst h
    exact cT (he s)
  | m + 1, k, s, r, hm, hk, h => by
    have hlt : k < l.length := by omega
    have hd : l.drop k = l[k] :: l.drop (k + 1) := List.drop_eq_getElem_cons hlt
    rw [hd] at h
    simp only [AW] at h
    obtain ⟨h1, h2⟩ := hn k l[k] s (List.getElem?_eq_getElem hlt)
    split at h
    · rename_i s' hs
      rw [dQ (h1 s' hs)]
      exact aAR mk step fin hn he m (k + 1) s' r (by omega) (by omega) h
    · rename_i x hs
      simp at h; subst h
      exact cT (h2 x hs)
    · cases h

theorem aDs {α S st R : Type} {body : S → Option (S ⊕ R)} {l : List α} (mk : st → Int → S) (step : st → α → Option (st ⊕ R)) (fin : st → R)
    (hn : ∀ (i : Nat) a s, l[i]? = some a → (∀ s', step s a = some (.inl s') → body (mk s i) = some (.inl (mk s' ((i + 1 : Nat) : Int)))) ∧ (∀ x, step s a = some (.inr x) → body (mk s i) = some (.inr x)))
    (he : ∀ s, body (mk s (l.length : Nat)) = some (.inr (fin s))) {s : st} {r : R} (h : AW step fin s l = some r) : lp body (mk s 0) = some r :=
  aAR mk step fin hn he _ 0 s r rfl (Nat.zero_le _) (by simpa using h)

theorem idx {α : Type} [Inhabited α] {l : List α} {i : Nat} {a : α} (h : l[i]? = some a) (hl : l.length < 4611686018427387904) :
    decide ((i : Int) < ((l.length : Nat) : Int)) = true ∧ (0 ≤ (i : Int) ∧ (i : Int) < ((l.length : Nat) : Int)) ∧ l.getD (Int.toNat (i : Int)) default = a ∧ IntKind.i64.wrap ((i : Int) + 1) = ((i + 1 : Nat) : Int) := by
  have hlt : i < l.length := (List.getElem?_eq_some_iff.1 h).1
  refine ⟨by simpa using hlt, ⟨by omega, by omega⟩, ?_, ?_⟩
  · rw [Int.toNat_natCast, List.getD_eq_getElem?_getD, h]; rfl
  · rw [dW (by omega) (by omega)]; omega

theorem cY {n : Nat} : decide (((n : Nat) : Int) < ((n : Nat) : Int)) = false := by simp

theorem aFA {α : Type} {j : α} {r : List α} : (0 : Int) ≤ 0 ∧ (0 : Int) < ((List.length (j :: r) : Nat) : Int) := ⟨by omega, by simp⟩

theorem aET {α : Type} [Inhabited α] {j : α} {r : List α} : List.getD (j :: r) (Int.toNat (0 : Int)) default = j := rfl

end Go.Abs
namespace Go.Abs
open Go
theorem drop_cons {α : Type} {l r : List α} {a : α} {k : Nat} (h : l.drop k = a :: r) : l[k]? = some a ∧ l.drop (k + 1) = r := by
  have hk : k < l.length := by
    apply Classical.byContradiction; intro hn
    rw [List.drop_eq_nil_of_le (by omega)] at h; cases h
  rw [List.drop_eq_getElem_cons hk] at h
  obtain ⟨h1, h2⟩ := List.cons.inj h
  exact ⟨by rw [List.getElem?_eq_getElem hk, h1], h2⟩

theorem aCx {α S st R : Type} {body : S → Option (S ⊕ R)} {l : List α} (mk : st → Int → S) (G : st → List α → R) (Inv : st → List α → Prop)
    (hn : ∀ (i : Nat) a r s, l[i]? = some a → Inv s (a :: r) → (∃ s', body (mk s i) = some (.inl (mk s' ((i + 1 : Nat) : Int))) ∧ Inv s' r ∧ G s' r = G s (a :: r)) ∨ body (mk s i) = some (.inr (G s (a :: r))))
    (he : ∀ s, Inv s [] → body (mk s (l.length : Nat)) = some (.inr (G s []))) : ∀ (r : List α) (k : Nat) (s : st), l.drop k = r → k ≤ l.length → Inv s r → lp body (mk s k) = some (G s r)
  | [], k, s, hd, hk, hi => by
    have : k = l.length := by
      have := congrArg List.length hd
      simp only [List.length_drop, List.length_nil] at this; omega
    subst this
    exact cT (he s hi)
  | a :: r, k, s, hd, hk, hi => by
    obtain ⟨h1, h2⟩ := drop_cons hd
    have hlt : k < l.length := (List.getElem?_eq_some_iff.1 h1).1
    rcases hn k a r s h1 hi with ⟨s', hb, hi', hg⟩ | hb
    · rw [dQ hb, aCx mk G Inv hn he r (k + 1) s' h2 (by omega) hi', hg]
    · exact cT hb

theorem iN {α S st R : Type} {body : S → Option (S ⊕ R)} {l : List α} (mk : st → Int → S) (G : st → List α → R) (Inv : st → List α → Prop) (s : st)
    (hn : ∀ (i : Nat) a r s, l[i]? = some a → Inv s (a :: r) → (∃ s', body (mk s i) = some (.inl (mk s' ((i + 1 : Nat) : Int))) ∧ Inv s' r ∧ G s' r = G s (a :: r)) ∨ body (mk s i) = some (.inr (G s (a :: r))))
    (he : ∀ s, Inv s [] → body (mk s (l.length : Nat)) = some (.inr (G s []))) (hi : Inv s l) : lp body (mk s 0) = some (G s l) :=
  aCx mk G Inv hn he l 0 s rfl (Nat.zero_le _) hi

theorem DN {α S R : Type} {body : S → Option (S ⊕ R)} {l : List α} (mk : Int → S) (bad : α → Bool) (x y : R)
    (hn : ∀ (i : Nat) a, l[i]? = some a → body (mk i) = some (if bad a then .inr x else .inl (mk ((i + 1 : Nat) : Int))))
    (he : body (mk (l.length : Nat)) = some (.inr y)) : lp body (mk 0) = some (if l.any bad then x else y) := by
  refine iN (st := Unit) (fun _ i => mk i) (fun _ r => if r.any bad then x else y) (fun _ _ => True) () ?_ ?_ trivial
  · intro i a r s ha _
    have hb := hn i a ha
    cases h : bad a
    · left; refine ⟨(), ?_, trivial, ?_⟩
      · simpa [h] using hb
      · simp [List.any_cons, h]
    · right; simpa [h, List.any_cons] using hb
  · intro _ _; simpa using he

end Go.Abs
namespace Go.Abs
open Go
noncomputable def FK {α : Type} [Inhabited α] (cmp3 : α → α → Option Int) (aB : List α) (a1 : Int) (b2 : Int) (i8 : Int) : Option ((List α × Int) ⊕ ((List α))) :=
  some (.inl (aB, IntKind.i64.wrap (i8 + (1 : Int))))

noncomputable def mW {α : Type} [Inhabited α] (cmp3 : α → α → Option Int) (a1 : Int) (b2 : Int) (i8 : Int) (aB : List α) (j9 : Int) : Option ((List α × Int) ⊕ ((List α))) :=
  bI ((((decide (a1 < j9))) = true → 0 ≤ j9 ∧ j9 < ((List.length aB : Nat) : Int))) <|
  bI ((((decide (a1 < j9))) = true → 0 ≤ (IntKind.i64.wrap (j9 - (1 : Int))) ∧ (IntKind.i64.wrap (j9 - (1 : Int))) < ((List.length aB : Nat) : Int))) <|
  (cP (decide (a1 < j9)) (cmp3 (List.getD aB (Int.toNat j9) default) (List.getD aB (Int.toNat (IntKind.i64.wrap (j9 - (1 : Int)))) default))).bind fun x3 =>
  cond ((decide (a1 < j9)) && (decide (x3 < (0 : Int))))
  (bI (0 ≤ (IntKind.i64.wrap (j9 - (1 : Int))) ∧ (IntKind.i64.wrap (j9 - (1 : Int))) < ((List.length aB : Nat) : Int)) <|
  bI (0 ≤ j9 ∧ j9 < ((List.length aB : Nat) : Int)) <|
  bI (0 ≤ j9 ∧ j9 < ((List.length aB : Nat) : Int)) <|
  bI (0 ≤ (IntKind.i64.wrap (j9 - (1 : Int))) ∧ (IntKind.i64.wrap (j9 - (1 : Int))) < ((List.length aB : Nat) : Int)) <|
  some (.inl (List.set (List.set aB (Int.toNat j9) (List.getD aB (Int.toNat (IntKind.i64.wrap (j9 - (1 : Int)))) default)) (Int.toNat (IntKind.i64.wrap (j9 - (1 : Int)))) (List.getD aB (Int.toNat j9) default), IntKind.i64.wrap (j9 - (1 : Int)))))
  (some (.inr aB))

noncomputable def FV {α : Type} [Inhabited α] (cmp3 : α → α → Option Int) (aB : List α) (a1 : Int) (b2 : Int) (i8 : Int) (j9 : Int) : Option ((List α × Int) ⊕ ((List α))) :=
  (lp (fun s => mW cmp3 a1 b2 i8 s.1 s.2) (aB, j9)).bind (fun rr => FK cmp3 rr a1 b2 i8)

noncomputable def kE {α : Type} [Inhabited α] (cmp3 : α → α → Option Int) (a1 : Int) (b2 : Int) (aB : List α) (i8 : Int) : Option ((List α × Int) ⊕ ((List α))) :=
  cond (decide (i8 < b2))
  (FV cmp3 aB a1 b2 i8 i8)
  (some (.inr aB))

noncomputable def FP {α : Type} [Inhabited α] (cmp3 : α → α → Option Int) (aB : List α) (a1 : Int) (b2 : Int) (i8 : Int) : Option (List α) :=
  (lp (fun s => kE cmp3 a1 b2 s.1 s.2) (aB, i8)).bind (fun rr => some rr)

noncomputable def pF {α : Type} [Inhabited α] (aB : (List α)) (a1 : Int) (b2 : Int) (cmp3 : α → α → Option Int) : Option (List α) :=
  FP cmp3 aB a1 b2 (IntKind.i64.wrap (a1 + (1 : Int)))

noncomputable def qZ {α : Type} [Inhabited α] (cmp4 : α → α → Option Int) (a1 : Int) (b2 : Int) (n3 : Int) (aB : List α) (i10 : Int) : Option ((List α × Int) ⊕ ((List α))) :=
  cond (decide (i10 < n3))
  (bI (0 ≤ (IntKind.i64.wrap (b2 + i10)) ∧ (IntKind.i64.wrap (b2 + i10)) < ((List.length aB : Nat) : Int)) <|
  bI (0 ≤ (IntKind.i64.wrap (a1 + i10)) ∧ (IntKind.i64.wrap (a1 + i10)) < ((List.length aB : Nat) : Int)) <|
  bI (0 ≤ (IntKind.i64.wrap (a1 + i10)) ∧ (IntKind.i64.wrap (a1 + i10)) < ((List.length aB : Nat) : Int)) <|
  bI (0 ≤ (IntKind.i64.wrap (b2 + i10)) ∧ (IntKind.i64.wrap (b2 + i10)) < ((List.length aB : Nat) : Int)) <|
  some (.inl (List.set (List.set aB (Int.toNat (IntKind.i64.wrap (a1 + i10))) (List.getD aB (Int.toNat (IntKind.i64.wrap (b2 + i10))) default)) (Int.toNat (IntKind.i64.wrap (b2 + i10))) (List.getD aB (Int.toNat (IntKind.i64.wrap (a1 + i10))) default), IntKind.i64.wrap (i10 + (1 : Int)))))
  (some (.inr aB))

noncomputable def JN {α : Type} [Inhabited α] (cmp4 : α → α → Option Int) (aB : List α) (a1 : Int) (b2 : Int) (n3 : Int) (i10 : Int) : Option (List α) :=
  (lp (fun s => qZ cmp4 a1 b2 n3 s.1 s.2) (aB, i10)).bind (fun rr => some rr)

noncomputable def xW {α : Type} [Inhabited α] (aB : (List α)) (a1 : Int) (b2 : Int) (n3 : Int) (cmp4 : α → α → Option Int) : Option (List α) :=
  JN cmp4 aB a1 b2 n3 (0 : Int)

noncomputable def IY {α : Type} [Inhabited α] (cmp4 : α → α → Option Int) (aB : List α) (m2 : Int) (i10 : Int) : Option (List α) :=
  (xW aB (IntKind.i64.wrap (m2 - i10)) m2 i10 cmp4).bind fun x1 =>
  some x1

noncomputable def nI {α : Type} [Inhabited α] (cmp4 : α → α → Option Int) (m2 : Int) (aB : List α) (i10 : Int) (j11 : Int) : Option ((List α × Int × Int) ⊕ ((List α × Int))) :=
  cond (!decide (i10 = j11))
  (cond (decide (j11 < i10))
  ((xW aB (IntKind.i64.wrap (m2 - i10)) m2 j11 cmp4).bind fun x4 =>
  some (.inl (x4, IntKind.i64.wrap (i10 - j11), j11)))
  ((xW aB (IntKind.i64.wrap (m2 - i10)) (IntKind.i64.wrap ((IntKind.i64.wrap (m2 + j11)) - i10)) i10 cmp4).bind fun x7 =>
  some (.inl (x7, i10, IntKind.i64.wrap (j11 - i10)))))
  (some (.inr (aB, i10)))

noncomputable def OY {α : Type} [Inhabited α] (cmp4 : α → α → Option Int) (aB : List α) (m2 : Int) (i10 : Int) (j11 : Int) : Option (List α) :=
  (lp (fun s => nI cmp4 m2 s.1 s.2.1 s.2.2) (aB, i10, j11)).bind (fun rr => IY cmp4 rr.1 m2 rr.2)

noncomputable def IK {α : Type} [Inhabited α] (aB : (List α)) (a1 : Int) (m2 : Int) (b3 : Int) (cmp4 : α → α → Option Int) : Option (List α) :=
  OY cmp4 aB m2 (IntKind.i64.wrap (m2 - a1)) (IntKind.i64.wrap (b3 - m2))

noncomputable def FY {α : Type} [Inhabited α] (cmp4 : α → α → Option Int) (rec : (List α) → Int → Int → Int → Option (List α)) (aB : List α) (b3 : Int) (bZ : Int) (eJ : Int) : Option (List α) :=
  cond ((decide (bZ < eJ)) && (decide (eJ < b3)))
  ((rec aB bZ eJ b3).bind fun x2 =>
  some x2)
  (some aB)

noncomputable def sN {α : Type} [Inhabited α] (cmp4 : α → α → Option Int) (rec : (List α) → Int → Int → Int → Option (List α)) (aB : List α) (a1 : Int) (b3 : Int) (bZ : Int) (bB : Int) (eJ : Int) : Option (List α) :=
  cond ((decide (a1 < bB)) && (decide (bB < bZ)))
  ((rec aB a1 bB bZ).bind fun x6 =>
  FY cmp4 rec x6 b3 bZ eJ)
  (FY cmp4 rec aB b3 bZ eJ)

noncomputable def LM {α : Type} [Inhabited α] (cmp4 : α → α → Option Int) (rec : (List α) → Int → Int → Int → Option (List α)) (aB : List α) (a1 : Int) (m2 : Int) (b3 : Int) (bZ : Int) (n19 : Int) (bB : Int) : Option (List α) :=
  cond ((decide (bB < m2)) && (decide (m2 < (IntKind.i64.wrap (n19 - bB)))))
  ((IK aB bB m2 (IntKind.i64.wrap (n19 - bB)) cmp4).bind fun x10 =>
  sN cmp4 rec x10 a1 b3 bZ bB (IntKind.i64.wrap (n19 - bB)))
  (sN cmp4 rec aB a1 b3 bZ bB (IntKind.i64.wrap (n19 - bB)))

noncomputable def qC {α : Type} [Inhabited α] (cmp4 : α → α → Option Int) (rec : (List α) → Int → Int → Int → Option (List α)) (a1 : Int) (m2 : Int) (b3 : Int) (bZ : Int) (n19 : Int) (p22 : Int) (aB : List α) (bB : Int) (r21 : Int) : Option ((List α × Int × Int) ⊕ ((List α × Int))) :=
  cond (decide (bB < r21))
  (bI (0 ≤ (1 : Int)) <|
  bI (0 ≤ (IntKind.i64.wrap (p22 - (IntKind.i64.wrap (Int.fdiv (IntKind.u64.wrap (IntKind.i64.wrap (bB + r21))) (2 ^ (min (Int.toNat (1 : Int)) 64)))))) ∧ (IntKind.i64.wrap (p22 - (IntKind.i64.wrap (Int.fdiv (IntKind.u64.wrap (IntKind.i64.wrap (bB + r21))) (2 ^ (min (Int.toNat (1 : Int)) 64)))))) < ((List.length aB : Nat) : Int)) <|
  bI (0 ≤ (IntKind.i64.wrap (Int.fdiv (IntKind.u64.wrap (IntKind.i64.wrap (bB + r21))) (2 ^ (min (Int.toNat (1 : Int)) 64)))) ∧ (IntKind.i64.wrap (Int.fdiv (IntKind.u64.wrap (IntKind.i64.wrap (bB + r21))) (2 ^ (min (Int.toNat (1 : Int)) 64)))) < ((List.length aB : Nat) : Int)) <|
  (cmp4 (List.getD aB (Int.toNat (IntKind.i64.wrap (p22 - (IntKind.i64.wrap (Int.fdiv (IntKind.u64.wrap (IntKind.i64.wrap (bB + r21))) (2 ^ (min (Int.toNat (1 : Int)) 64))))))) default) (List.getD aB (Int.toNat (IntKind.i64.wrap (Int.fdiv (IntKind.u64.wrap (IntKind.i64.wrap (bB + r21))) (2 ^ (min (Int.toNat (1 : Int)) 64))))) default)).bind fun x17 =>
  cond (!(decide (x17 < (0 : Int))))
  (some (.inl (aB, IntKind.i64.wrap ((IntKind.i64.wrap (Int.fdiv (IntKind.u64.wrap (IntKind.i64.wrap (bB + r21))) (2 ^ (min (Int.toNat (1 : Int)) 64)))) + (1 : Int)), r21)))
  (some (.inl (aB, bB, IntKind.i64.wrap (Int.fdiv (IntKind.u64.wrap (IntKind.i64.wrap (bB + r21))) (2 ^ (min (Int.toNat (1 : Int)) 64)))))))
  (some (.inr (aB, bB)))

noncomputable def LL {α : Type} [Inhabited α] (cmp4 : α → α → Option Int) (rec : (List α) → Int → Int → Int → Option (List α)) (aB : List α) (a1 : Int) (m2 : Int) (b3 : Int) (bZ : Int) (n19 : Int) (bB : Int) (r21 : Int) (p22 : Int) : Option (List α) :=
  (lp (fun s => qC cmp4 rec a1 m2 b3 bZ n19 p22 s.1 s.2.1 s.2.2) (aB, bB, r21)).bind (fun rr => LM cmp4 rec rr.1 a1 m2 b3 bZ n19 rr.2)

noncomputable def BE {α : Type} [Inhabited α] (cmp4 : α → α → Option Int) (rec : (List α) → Int → Int → Int → Option (List α)) (aB : List α) (a1 : Int) (m2 : Int) (b3 : Int) (bZ : Int) (n19 : Int) (bB : Int) (r21 : Int) : Option (List α) :=
  LL cmp4 rec aB a1 m2 b3 bZ n19 bB r21 (IntKind.i64.wrap (n19 - (1 : Int)))

noncomputable def BV {α : Type} [Inhabited α] (cmp4 : α → α → Option Int) (rec : (List α) → Int → Int → Int → Option (List α)) (aB : List α) (a1 : Int) (m2 : Int) (b3 : Int) : Option (List α) :=
  bI (0 ≤ (1 : Int)) <|
  cond (decide ((IntKind.i64.wrap (Int.fdiv (IntKind.u64.wrap (IntKind.i64.wrap (a1 + b3))) (2 ^ (min (Int.toNat (1 : Int)) 64)))) < m2))
  (BE cmp4 rec aB a1 m2 b3 (IntKind.i64.wrap (Int.fdiv (IntKind.u64.wrap (IntKind.i64.wrap (a1 + b3))) (2 ^ (min (Int.toNat (1 : Int)) 64)))) (IntKind.i64.wrap ((IntKind.i64.wrap (Int.fdiv (IntKind.u64.wrap (IntKind.i64.wrap (a1 + b3))) (2 ^ (min (Int.toNat (1 : Int)) 64)))) + m2)) (IntKind.i64.wrap ((IntKind.i64.wrap ((IntKind.i64.wrap (Int.fdiv (IntKind.u64.wrap (IntKind.i64.wrap (a1 + b3))) (2 ^ (min (Int.toNat (1 : Int)) 64)))) + m2)) - b3)) (IntKind.i64.wrap (Int.fdiv (IntKind.u64.wrap (IntKind.i64.wrap (a1 + b3))) (2 ^ (min (Int.toNat (1 : Int)) 64)))))
  (BE cmp4 rec aB a1 m2 b3 (IntKind.i64.wrap (Int.fdiv (IntKind.u64.wrap (IntKind.i64.wrap (a1 + b3))) (2 ^ (min (Int.toNat (1 : Int)) 64)))) (IntKind.i64.wrap ((IntKind.i64.wrap (Int.fdiv (IntKind.u64.wrap (IntKind.i64.wrap (a1 + b3))) (2 ^ (min (Int.toNat (1 : Int)) 64)))) + m2)) a1 m2)

noncomputable def LP {α : Type} [Inhabited α] (cmp4 : α → α → Option Int) (rec : (List α) → Int → Int → Int → Option (List α)) (aB : List α) : Option (List α) :=
  some aB

noncomputable def pE {α : Type} [Inhabited α] (cmp4 : α → α → Option Int) (rec : (List α) → Int → Int → Int → Option (List α)) (i14 : Int) (aB : List α) (k17 : Int) : Option ((List α × Int) ⊕ ((List α))) :=
  cond (decide (i14 < k17))
  (bI (0 ≤ (IntKind.i64.wrap (k17 - (1 : Int))) ∧ (IntKind.i64.wrap (k17 - (1 : Int))) < ((List.length aB : Nat) : Int)) <|
  bI (0 ≤ k17 ∧ k17 < ((List.length aB : Nat) : Int)) <|
  bI (0 ≤ k17 ∧ k17 < ((List.length aB : Nat) : Int)) <|
  bI (0 ≤ (IntKind.i64.wrap (k17 - (1 : Int))) ∧ (IntKind.i64.wrap (k17 - (1 : Int))) < ((List.length aB : Nat) : Int)) <|
  some (.inl (List.set (List.set aB (Int.toNat k17) (List.getD aB (Int.toNat (IntKind.i64.wrap (k17 - (1 : Int)))) default)) (Int.toNat (IntKind.i64.wrap (k17 - (1 : Int)))) (List.getD aB (Int.toNat k17) default), IntKind.i64.wrap (k17 - (1 : Int)))))
  (some (.inr aB))

noncomputable def JV {α : Type} [Inhabited α] (cmp4 : α → α → Option Int) (rec : (List α) → Int → Int → Int → Option (List α)) (aB : List α) (i14 : Int) (k17 : Int) : Option (List α) :=
  (lp (fun s => pE cmp4 rec i14 s.1 s.2) (aB, k17)).bind (fun rr => LP cmp4 rec rr)

noncomputable def LN {α : Type} [Inhabited α] (cmp4 : α → α → Option Int) (rec : (List α) → Int → Int → Int → Option (List α)) (aB : List α) (m2 : Int) (i14 : Int) : Option (List α) :=
  JV cmp4 rec aB i14 m2

noncomputable def oT {α : Type} [Inhabited α] (cmp4 : α → α → Option Int) (rec : (List α) → Int → Int → Int → Option (List α)) (m2 : Int) (aB : List α) (i14 : Int) (j15 : Int) : Option ((List α × Int × Int) ⊕ ((List α × Int))) :=
  cond (decide (i14 < j15))
  (bI (0 ≤ (1 : Int)) <|
  bI (0 ≤ m2 ∧ m2 < ((List.length aB : Nat) : Int)) <|
  bI (0 ≤ (IntKind.i64.wrap (Int.fdiv (IntKind.u64.wrap (IntKind.i64.wrap (i14 + j15))) (2 ^ (min (Int.toNat (1 : Int)) 64)))) ∧ (IntKind.i64.wrap (Int.fdiv (IntKind.u64.wrap (IntKind.i64.wrap (i14 + j15))) (2 ^ (min (Int.toNat (1 : Int)) 64)))) < ((List.length aB : Nat) : Int)) <|
  (cmp4 (List.getD aB (Int.toNat m2) default) (List.getD aB (Int.toNat (IntKind.i64.wrap (Int.fdiv (IntKind.u64.wrap (IntKind.i64.wrap (i14 + j15))) (2 ^ (min (Int.toNat (1 : Int)) 64))))) default)).bind fun x31 =>
  cond (!(decide (x31 < (0 : Int))))
  (some (.inl (aB, IntKind.i64.wrap ((IntKind.i64.wrap (Int.fdiv (IntKind.u64.wrap (IntKind.i64.wrap (i14 + j15))) (2 ^ (min (Int.toNat (1 : Int)) 64)))) + (1 : Int)), j15)))
  (some (.inl (aB, i14, IntKind.i64.wrap (Int.fdiv (IntKind.u64.wrap (IntKind.i64.wrap (i14 + j15))) (2 ^ (min (Int.toNat (1 : Int)) 64)))))))
  (some (.inr (aB, i14)))

noncomputable def JK {α : Type} [Inhabited α] (cmp4 : α → α → Option Int) (rec : (List α) → Int → Int → Int → Option (List α)) (aB : List α) (m2 : Int) (i14 : Int) (j15 : Int) : Option (List α) :=
  (lp (fun s => oT cmp4 rec m2 s.1 s.2.1 s.2.2) (aB, i14, j15)).bind (fun rr => LN cmp4 rec rr.1 m2 rr.2)

noncomputable def FZ {α : Type} [Inhabited α] (cmp4 : α → α → Option Int) (rec : (List α) → Int → Int → Int → Option (List α)) (aB : List α) (a1 : Int) (m2 : Int) (b3 : Int) : Option (List α) :=
  cond (decide ((IntKind.i64.wrap (b3 - m2)) = (1 : Int)))
  (JK cmp4 rec aB m2 a1 m2)
  (BV cmp4 rec aB a1 m2 b3)

noncomputable def JR {α : Type} [Inhabited α] (cmp4 : α → α → Option Int) (rec : (List α) → Int → Int → Int → Option (List α)) (aB : List α) : Option (List α) :=
  some aB

noncomputable def oS {α : Type} [Inhabited α] (cmp4 : α → α → Option Int) (rec : (List α) → Int → Int → Int → Option (List α)) (i10 : Int) (aB : List α) (k13 : Int) : Option ((List α × Int) ⊕ ((List α))) :=
  cond (decide (k13 < (IntKind.i64.wrap (i10 - (1 : Int)))))
  (bI (0 ≤ (IntKind.i64.wrap (k13 + (1 : Int))) ∧ (IntKind.i64.wrap (k13 + (1 : Int))) < ((List.length aB : Nat) : Int)) <|
  bI (0 ≤ k13 ∧ k13 < ((List.length aB : Nat) : Int)) <|
  bI (0 ≤ k13 ∧ k13 < ((List.length aB : Nat) : Int)) <|
  bI (0 ≤ (IntKind.i64.wrap (k13 + (1 : Int))) ∧ (IntKind.i64.wrap (k13 + (1 : Int))) < ((List.length aB : Nat) : Int)) <|
  some (.inl (List.set (List.set aB (Int.toNat k13) (List.getD aB (Int.toNat (IntKind.i64.wrap (k13 + (1 : Int)))) default)) (Int.toNat (IntKind.i64.wrap (k13 + (1 : Int)))) (List.getD aB (Int.toNat k13) default), IntKind.i64.wrap (k13 + (1 : Int)))))
  (some (.inr aB))

noncomputable def JL {α : Type} [Inhabited α] (cmp4 : α → α → Option Int) (rec : (List α) → Int → Int → Int → Option (List α)) (aB : List α) (i10 : Int) (k13 : Int) : Option (List α) :=
  (lp (fun s => oS cmp4 rec i10 s.1 s.2) (aB, k13)).bind (fun rr => JR cmp4 rec rr)

noncomputable def JG {α : Type} [Inhabited α] (cmp4 : α → α → Option Int) (rec : (List α) → Int → Int → Int → Option (List α)) (aB : List α) (a1 : Int) (i10 : Int) : Option (List α) :=
  JL cmp4 rec aB i10 a1

noncomputable def oW {α : Type} [Inhabited α] (cmp4 : α → α → Option Int) (rec : (List α) → Int → Int → Int → Option (List α)) (a1 : Int) (aB : List α) (i10 : Int) (j11 : Int) : Option ((List α × Int × Int) ⊕ ((List α × Int))) :=
  cond (decide (i10 < j11))
  (bI (0 ≤ (1 : Int)) <|
  bI (0 ≤ (IntKind.i64.wrap (Int.fdiv (IntKind.u64.wrap (IntKind.i64.wrap (i10 + j11))) (2 ^ (min (Int.toNat (1 : Int)) 64)))) ∧ (IntKind.i64.wrap (Int.fdiv (IntKind.u64.wrap (IntKind.i64.wrap (i10 + j11))) (2 ^ (min (Int.toNat (1 : Int)) 64)))) < ((List.length aB : Nat) : Int)) <|
  bI (0 ≤ a1 ∧ a1 < ((List.length aB : Nat) : Int)) <|
  (cmp4 (List.getD aB (Int.toNat (IntKind.i64.wrap (Int.fdiv (IntKind.u64.wrap (IntKind.i64.wrap (i10 + j11))) (2 ^ (min (Int.toNat (1 : Int)) 64))))) default) (List.getD aB (Int.toNat a1) default)).bind fun x45 =>
  cond (decide (x45 < (0 : Int)))
  (some (.inl (aB, IntKind.i64.wrap ((IntKind.i64.wrap (Int.fdiv (IntKind.u64.wrap (IntKind.i64.wrap (i10 + j11))) (2 ^ (min (Int.toNat (1 : Int)) 64)))) + (1 : Int)), j11)))
  (some (.inl (aB, i10, IntKind.i64.wrap (Int.fdiv (IntKind.u64.wrap (IntKind.i64.wrap (i10 + j11))) (2 ^ (min (Int.toNat (1 : Int)) 64)))))))
  (some (.inr (aB, i10)))

noncomputable def JW {α : Type} [Inhabited α] (cmp4 : α → α → Option Int) (rec : (List α) → Int → Int → Int → Option (List α)) (aB : List α) (a1 : Int) (i10 : Int) (j11 : Int) : Option (List α) :=
  (lp (fun s => oW cmp4 rec a1 s.1 s.2.1 s.2.2) (aB, i10, j11)).bind (fun rr => JG cmp4 rec rr.1 a1 rr.2)

noncomputable def eK {α : Type} [Inhabited α] (cmp4 : α → α → Option Int) (rec : (List α) → Int → Int → Int → Option (List α)) (aB : (List α)) (a1 : Int) (m2 : Int) (b3 : Int) : Option (List α) :=
  cond (decide ((IntKind.i64.wrap (m2 - a1)) = (1 : Int)))
  (JW cmp4 rec aB a1 m2 b3)
  (FZ cmp4 rec aB a1 m2 b3)

noncomputable def eP {α : Type} [Inhabited α] (cmp4 : α → α → Option Int) : Nat → (List α) → Int → Int → Int → Option (List α)
  | 0 => fun _ _ _ _ => none
  | k + 1 => eK cmp4 (eP cmp4 k)

noncomputable def qS {α : Type} [Inhabited α] (aB : (List α)) (a1 : Int) (m2 : Int) (b3 : Int) (cmp4 : α → α → Option Int) : Option (List α) := QE (fun k => eP cmp4 k aB a1 m2 b3)

noncomputable def FB {α : Type} [Inhabited α] (cmp2 : α → α → Option Int) (aB : List α) (n1 : Int) (aR : Int) : Option ((List α × Int) ⊕ ((List α))) :=
  some (.inl (aB, IntKind.i64.wrap (aR * (2 : Int))))

noncomputable def AS {α : Type} [Inhabited α] (cmp2 : α → α → Option Int) (aB : List α) (n1 : Int) (aR : Int) (a7 : Int) : Option ((List α × Int) ⊕ ((List α))) :=
  cond (decide ((IntKind.i64.wrap (a7 + aR)) < n1))
  ((qS aB a7 (IntKind.i64.wrap (a7 + aR)) n1 cmp2).bind fun x4 =>
  FB cmp2 x4 n1 aR)
  (FB cmp2 aB n1 aR)

noncomputable def nF {α : Type} [Inhabited α] (cmp2 : α → α → Option Int) (n1 : Int) (aR : Int) (aB : List α) (a7 : Int) (b8 : Int) : Option ((List α × Int × Int) ⊕ ((List α × Int))) :=
  cond (decide (b8 ≤ n1))
  ((qS aB a7 (IntKind.i64.wrap (a7 + aR)) b8 cmp2).bind fun x8 =>
  some (.inl (x8, b8, IntKind.i64.wrap (b8 + (IntKind.i64.wrap ((2 : Int) * aR))))))
  (some (.inr (aB, a7)))

noncomputable def AL {α : Type} [Inhabited α] (cmp2 : α → α → Option Int) (aB : List α) (n1 : Int) (aR : Int) (a7 : Int) (b8 : Int) : Option ((List α × Int) ⊕ ((List α))) :=
  (lp (fun s => nF cmp2 n1 aR s.1 s.2.1 s.2.2) (aB, a7, b8)).bind (fun rr => AS cmp2 rr.1 n1 aR rr.2)

noncomputable def kJ {α : Type} [Inhabited α] (cmp2 : α → α → Option Int) (n1 : Int) (aB : List α) (aR : Int) : Option ((List α × Int) ⊕ ((List α))) :=
  cond (decide (aR < n1))
  (AL cmp2 aB n1 aR (0 : Int) (IntKind.i64.wrap ((2 : Int) * aR)))
  (some (.inr aB))

noncomputable def FA {α : Type} [Inhabited α] (cmp2 : α → α → Option Int) (aB : List α) (n1 : Int) (aR : Int) : Option (List α) :=
  (lp (fun s => kJ cmp2 n1 s.1 s.2) (aB, aR)).bind (fun rr => some rr)

noncomputable def FF {α : Type} [Inhabited α] (cmp2 : α → α → Option Int) (aB : List α) (n1 : Int) (aR : Int) (a7 : Int) : Option (List α) :=
  (pF aB a7 n1 cmp2).bind fun x1 =>
  FA cmp2 x1 n1 aR

noncomputable def nG {α : Type} [Inhabited α] (cmp2 : α → α → Option Int) (n1 : Int) (aR : Int) (aB : List α) (a7 : Int) (b8 : Int) : Option ((List α × Int × Int) ⊕ ((List α × Int))) :=
  cond (decide (b8 ≤ n1))
  ((pF aB a7 b8 cmp2).bind fun x13 =>
  some (.inl (x13, b8, IntKind.i64.wrap (b8 + aR))))
  (some (.inr (aB, a7)))

noncomputable def FI {α : Type} [Inhabited α] (cmp2 : α → α → Option Int) (aB : List α) (n1 : Int) (aR : Int) (a7 : Int) (b8 : Int) : Option (List α) :=
  (lp (fun s => nG cmp2 n1 aR s.1 s.2.1 s.2.2) (aB, a7, b8)).bind (fun rr => FF cmp2 rr.1 n1 aR rr.2)

noncomputable def CL {α : Type} [Inhabited α] (aB : (List α)) (n1 : Int) (cmp2 : α → α → Option Int) : Option (List α) :=
  FI cmp2 aB n1 (20 : Int) (0 : Int) (20 : Int)

end Go.Abs
namespace Go.Abs
open Go
variable {α : Type} [Inhabited α]
structure Cmp {β : Type} (ok : β → Prop) (le : β → β → Prop) (cmp : β → β → Option Int) : Prop where
  ans : ∀ x y, ok x → ok y → ∃ v, cmp x y = some v ∧ (v < 0 ↔ ¬ le y x)
  trans : ∀ x y z, ok x → ok y → ok z → le x y → le y z → le x z
  total : ∀ x y, ok x → ok y → le x y ∨ le y x

abbrev Srt {β : Type} (le : β → β → Prop) (l : List β) : Prop := l.Pairwise le

abbrev Oks {β : Type} (ok : β → Prop) (l : List β) : Prop := ∀ x ∈ l, ok x

theorem aDF {Q R : List α} {x : α} : (Q ++ x :: R).getD Q.length default = x := by simp [List.getD_eq_getElem?_getD]

theorem aEn {β : Type} {Q R : List β} {x y : β} : (Q ++ x :: R).set Q.length y = Q ++ y :: R := by simp

theorem sD {Q R d : List α} {x : α} {n : Nat} (hd : d = Q ++ x :: R) (hn : n = Q.length) : d.getD n default = x := by subst hd; subst hn; exact aDF

theorem JT {β : Type} {Q R d : List β} {x y : β} {n : Nat} (hd : d = Q ++ x :: R) (hn : n = Q.length) : d.set n y = Q ++ y :: R := by subst hd; subst hn; exact aEn

theorem wr {n : Int} (h1 : -1099511627776 ≤ n) (h2 : n ≤ 8796093022208) : IntKind.i64.wrap n = n := dW (by omega) (by omega)

theorem YP {β : Type} {Q M R d : List β} {x y : β} {a b : Nat} (hd : d = Q ++ x :: (M ++ y :: R)) (ha : a = Q.length) (hb : b = Q.length + 1 + M.length) : (d.set a y).set b x = Q ++ y :: (M ++ x :: R) := by
  rw [JT hd ha, JT (Q := Q ++ y :: M) (x := y) (R := R) (by simp) (by simp; omega)]
  simp

section ins
variable {ok : α → Prop} {le : α → α → Prop} {cmp : α → α → Option Int}
theorem LS {A T : List α} {x : α} {a b i : Int} {P : List α} (ha : a = (P.length : Nat)) (hl : (P ++ A ++ x :: T).length ≤ 1099511627776)
    (hs : A = [] ∨ ∃ A' y v, A = A' ++ [y] ∧ cmp x y = some v ∧ ¬ v < 0) : mW cmp a b i (P ++ A ++ x :: T) ((P.length + A.length : Nat) : Int) = some (.inr (P ++ A ++ x :: T)) := by
  simp only [List.length_append, List.length_cons] at hl
  unfold mW
  rcases hs with rfl | ⟨A', y, v, rfl, hc, hv⟩
  · have h : decide (a < ((P.length + ([] : List α).length : Nat) : Int)) = false := by subst ha; simp
    rw [h, aX (fun h => by cases h), aX (fun h => by cases h)]
    simp [cP]
  · simp only [List.length_append, List.length_cons, List.length_nil] at hl ⊢
    have h : decide (a < ((P.length + (A'.length + (0 + 1)) : Nat) : Int)) = true := by subst ha; simp; omega
    have hw : IntKind.i64.wrap (((P.length + (A'.length + (0 + 1)) : Nat) : Int) - 1) = ((P.length + A'.length : Nat) : Int) := by rw [wr (by omega) (by omega)]; omega
    have g1 : (P ++ (A' ++ [y]) ++ x :: T).getD (P.length + (A'.length + (0 + 1))) default = x := sD (Q := P ++ (A' ++ [y])) rfl (by simp)
    have g2 : (P ++ (A' ++ [y]) ++ x :: T).getD (P.length + A'.length) default = y := sD (Q := P ++ A') (R := x :: T) (by simp) (by simp)
    rw [h, hw, aX (fun _ => ⟨by omega, by omega⟩), aX (fun _ => ⟨by omega, by omega⟩)]
    rw [Int.toNat_natCast, Int.toNat_natCast, g1, g2]
    simp [cP, hc, hv]

theorem aAo {A T : List α} {x y : α} {v : Int} {a b i : Int} {P : List α} (ha : a = (P.length : Nat)) (hl : (P ++ (A ++ [y]) ++ x :: T).length ≤ 1099511627776)
    (hc : cmp x y = some v) (hv : v < 0) : mW cmp a b i (P ++ (A ++ [y]) ++ x :: T) ((P.length + (A ++ [y]).length : Nat) : Int) = some (.inl (P ++ A ++ x :: (y :: T), ((P.length + A.length : Nat) : Int))) := by
  simp only [List.length_append, List.length_cons, List.length_nil] at hl ⊢
  unfold mW
  have h : decide (a < ((P.length + (A.length + (0 + 1)) : Nat) : Int)) = true := by subst ha; simp; omega
  have hw : IntKind.i64.wrap (((P.length + (A.length + (0 + 1)) : Nat) : Int) - 1) = ((P.length + A.length : Nat) : Int) := by rw [wr (by omega) (by omega)]; omega
  have g1 : (P ++ (A ++ [y]) ++ x :: T).getD (P.length + (A.length + (0 + 1))) default = x := sD (Q := P ++ (A ++ [y])) rfl (by simp)
  have g2 : (P ++ (A ++ [y]) ++ x :: T).getD (P.length + A.length) default = y := sD (Q := P ++ A) (R := x :: T) (by simp) (by simp)
  have hs : ((P ++ (A ++ [y]) ++ x :: T).set (P.length + (A.length + (0 + 1))) y).set (P.length + A.length) x = P ++ A ++ x :: (y :: T) := by
    rw [JT (Q := P ++ (A ++ [y])) (x := x) (R := T) rfl (by simp), JT (Q := P ++ A) (x := y) (R := y :: T) (by simp) (by simp)]
  have b1 : 0 ≤ ((P.length + (A.length + (0 + 1)) : Nat) : Int) ∧ ((P.length + (A.length + (0 + 1)) : Nat) : Int) < ((List.length (P ++ (A ++ [y]) ++ x :: T) : Nat) : Int) := ⟨by omega, by simp only [List.length_append, List.length_cons, List.length_nil]; omega⟩
  have b2 : 0 ≤ ((P.length + A.length : Nat) : Int) ∧ ((P.length + A.length : Nat) : Int) < ((List.length (P ++ (A ++ [y]) ++ x :: T) : Nat) : Int) := ⟨by omega, by simp only [List.length_append, List.length_cons, List.length_nil]; omega⟩
  rw [h, hw, aX (fun _ => b1), aX (fun _ => b2), Int.toNat_natCast, Int.toNat_natCast, g1, g2]
  simp only [cP, cond_true, hc, Option.bind_some, Bool.true_and, decide_eq_true hv]
  rw [aX b2, aX b1, aX b1, aX b2, hs]

theorem aCO (C : Cmp ok le cmp) {x : α} (hx : ok x) {a b i : Int} {P : List α} (ha : a = (P.length : Nat)) : ∀ (n : Nat) (A B T : List α), A.length = n → Oks ok A → Oks ok B → Srt le (A ++ B) → (∀ y ∈ B, ¬ le y x) → (P ++ A ++ x :: (B ++ T)).length ≤ 1099511627776 →
    ∃ D, D.Perm (A ++ x :: B) ∧ Srt le D ∧ lp (fun s : List α × Int => mW cmp a b i s.1 s.2) (P ++ A ++ x :: (B ++ T), ((P.length + A.length : Nat) : Int)) = some (P ++ D ++ T) := by
  intro n
  induction n with
  | zero =>
    intro A B T hn _ hB hs hlt hl
    have hA : A = [] := List.length_eq_zero_iff.1 hn
    subst hA
    refine ⟨x :: B, List.Perm.refl _, ?_, ?_⟩
    · refine List.pairwise_cons.2 ⟨fun y hy => ?_, by simpa using hs⟩
      rcases C.total x y hx (hB y hy) with h | h
      · exact h
      · exact absurd h (hlt y hy)
    · rw [cT (LS ha hl (Or.inl rfl))]; simp
  | succ n ih =>
    intro A B T hn hA hB hs hlt hl
    obtain ⟨A', y, rfl⟩ : ∃ A' y, A = A' ++ [y] := by
      rcases List.eq_nil_or_concat A with h | ⟨A', y, h⟩
      · rw [h] at hn; simp at hn
      · exact ⟨A', y, by simpa using h⟩
    have hy : ok y := hA y (by simp)
    obtain ⟨v, hc, hv⟩ := C.ans x y hx hy
    by_cases hneg : v < 0
    · have hb := aAo (i := i) (b := b) ha hl hc hneg
      have hl' : (P ++ A' ++ x :: ((y :: B) ++ T)).length ≤ 1099511627776 := by
        simp only [List.length_append, List.length_cons, List.length_nil] at hl ⊢; omega
      obtain ⟨D, d1, d2, d3⟩ := ih A' (y :: B) T (by simpa using hn) (fun z hz => hA z (by simp [hz])) (fun z hz => by rcases List.mem_cons.1 hz with rfl | hz; exact hy; exact hB z hz) (by simpa using hs)
        (fun z hz => by rcases List.mem_cons.1 hz with rfl | hz; exact hv.1 hneg; exact hlt z hz) hl'
      refine ⟨D, d1.trans ?_, d2, ?_⟩
      · simp only [List.append_assoc, List.singleton_append]
        exact List.Perm.append_left _ (List.Perm.swap ..)
      · rw [dQ hb]; simpa using d3
    · refine ⟨A' ++ [y] ++ x :: B, List.Perm.refl _, ?_, ?_⟩
      · have hyx : le y x := Classical.byContradiction fun h => hneg (hv.2 h)
        simp only [Srt, List.pairwise_append] at hs ⊢
        obtain ⟨s1, s2, s3⟩ := hs
        refine ⟨s1, List.pairwise_cons.2 ⟨fun z hz => ?_, s2⟩, ?_⟩
        · rcases C.total x z hx (hB z hz) with h | h
          · exact h
          · exact absurd h (hlt z hz)
        · intro z hz w hw
          rcases List.mem_cons.1 hw with rfl | hw
          · rcases List.mem_append.1 hz with hz' | hz'
            · exact C.trans z y w (hA z hz) hy hx (s1.2.2 z hz' y (by simp)) hyx
            · rw [List.mem_singleton] at hz'; subst hz'; exact hyx
          · exact s3 z hz w hw
      · rw [cT (LS ha hl (Or.inr ⟨A', y, v, rfl, hc, hneg⟩))]
        simp

theorem VF (C : Cmp ok le cmp) {a b : Int} {P : List α} (ha : a = (P.length : Nat)) : ∀ (B A T : List α), Oks ok A → Oks ok B → Srt le A → b = ((P.length + A.length + B.length : Nat) : Int) → (P ++ A ++ (B ++ T)).length ≤ 1099511627776 →
    ∃ D, D.Perm (A ++ B) ∧ Srt le D ∧ lp (fun s : List α × Int => kE cmp a b s.1 s.2) (P ++ A ++ (B ++ T), ((P.length + A.length : Nat) : Int)) = some (P ++ D ++ T)
  | [], A, T, _, _, hs, hb, _ => by
    refine ⟨A, by simp, hs, cT ?_⟩
    have : decide (((P.length + A.length : Nat) : Int) < b) = false := by subst hb; simp
    simp only [kE, this, cond_false, List.nil_append]
  | x :: B, A, T, hA, hB, hs, hb, hl => by
    obtain ⟨D, d1, d2, d3⟩ := aCO C (hB x (by simp)) (b := b) (i := ((P.length + A.length : Nat) : Int)) ha A.length A [] (B ++ T) rfl hA (by intro z hz; simp at hz) (by simpa using hs) (by simp) (by simpa using hl)
    have hD : D.length = A.length + 1 := by rw [d1.length_eq]; simp
    have hlt : decide (((P.length + A.length : Nat) : Int) < b) = true := by subst hb; simp; omega
    have hbod : (fun s : List α × Int => kE cmp a b s.1 s.2) (P ++ A ++ (x :: B ++ T), ((P.length + A.length : Nat) : Int)) = some (.inl (P ++ D ++ (B ++ T), ((P.length + D.length : Nat) : Int))) := by
      show kE cmp a b _ _ = _
      simp only [kE, hlt, cond_true, FV]
      rw [show P ++ A ++ (x :: B ++ T) = P ++ A ++ x :: ([] ++ (B ++ T)) by simp, d3]
      simp only [Option.bind_some, FK]
      rw [wr (by omega) (by simp only [List.length_append, List.length_cons] at hl; omega), hD]
      congr 1
    have hl' : (P ++ D ++ (B ++ T)).length ≤ 1099511627776 := by simp only [List.length_append, List.length_cons] at hl ⊢; omega
    obtain ⟨E, e1, e2, e3⟩ := VF C (b := b) ha B D T (fun z hz => by
      have := d1.mem_iff.1 hz
      rcases List.mem_append.1 this with h | h
      · exact hA z h
      · rw [List.mem_singleton] at h; subst h; exact hB z (by simp)) (fun z hz => hB z (by simp [hz])) d2 (by rw [hb]; simp only [List.length_cons]; congr 1; omega) hl'
    refine ⟨E, e1.trans ?_, e2, by rw [dQ hbod]; exact e3⟩
    have := d1.append_right B
    simpa using this

theorem aC1 (C : Cmp ok le cmp) {P A T : List α} {a b : Int} (ha : a = (P.length : Nat)) (hb : b = ((P.length + A.length : Nat) : Int)) (hA : Oks ok A) (hl : (P ++ A ++ T).length ≤ 1099511627776) :
    ∃ D, D.Perm A ∧ Srt le D ∧ pF (P ++ A ++ T) a b cmp = some (P ++ D ++ T) := by
  unfold pF FP
  simp only [List.length_append] at hl
  cases A with
  | nil =>
    refine ⟨[], List.Perm.refl _, List.Pairwise.nil, ?_⟩
    rw [cT (r := P ++ [] ++ T)]
    · rfl
    · have : decide (IntKind.i64.wrap (a + 1) < b) = false := by
        rw [wr (by omega) (by omega)]; subst ha; subst hb; simp; omega
      simp only [kE, this, cond_false]
  | cons x A =>
    simp only [List.length_cons] at hl
    have hw : IntKind.i64.wrap (a + 1) = ((P.length + [x].length : Nat) : Int) := by rw [wr (by omega) (by omega)]; subst ha; simp
    obtain ⟨D, d1, d2, d3⟩ := VF C (b := b) ha A [x] T (fun z hz => by rw [List.mem_singleton] at hz; subst hz; exact hA z (by simp)) (fun z hz => hA z (by simp [hz])) (by simp) (by rw [hb]; simp only [List.length_cons, List.length_nil]; congr 1; omega) (by simp only [List.length_append, List.length_cons, List.length_nil]; omega)
    refine ⟨D, by simpa using d1, d2, ?_⟩
    rw [hw, show P ++ x :: A ++ T = P ++ [x] ++ (A ++ T) by simp, d3]
    rfl

end ins
theorem MU {cmp : α → α → Option Int} {a b n : Int} : ∀ (X Y Q Z R : List α) (i : Nat), X.length = Y.length → a + i = (Q.length : Nat) → b + i = ((Q.length + X.length + Z.length : Nat) : Int) → n = ((i + X.length : Nat) : Int) → 0 ≤ a → 0 ≤ b → (Q ++ X ++ Z ++ Y ++ R).length ≤ 1099511627776 →
    lp (fun s : List α × Int => qZ cmp a b n s.1 s.2) (Q ++ X ++ Z ++ Y ++ R, ((i : Nat) : Int)) = some (Q ++ Y ++ Z ++ X ++ R)
  | [], Y, Q, Z, R, i, hxy, ha, hb, hn, _, _, hl => by
    have : Y = [] := List.length_eq_zero_iff.1 hxy.symm
    subst this
    refine cT ?_
    have : decide (((i : Nat) : Int) < n) = false := by subst hn; simp
    simp only [qZ, this, cond_false]
  | x :: X, [], Q, Z, R, i, hxy, _, _, _, _, _, _ => by simp at hxy
  | x :: X, y :: Y, Q, Z, R, i, hxy, ha, hb, hn, ha0, hb0, hl => by
    simp only [List.length_append, List.length_cons] at hl hb hn hxy
    have hlt : decide (((i : Nat) : Int) < n) = true := by subst hn; simp; omega
    have wa : IntKind.i64.wrap (a + i) = ((Q.length : Nat) : Int) := by rw [wr (by omega) (by omega)]; exact ha
    have wb : IntKind.i64.wrap (b + i) = ((Q.length + 1 + (X ++ Z).length : Nat) : Int) := by rw [wr (by omega) (by omega), hb]; simp only [List.length_append]; congr 1; omega
    have wi : IntKind.i64.wrap (((i : Nat) : Int) + 1) = ((i + 1 : Nat) : Int) := by rw [wr (by omega) (by omega)]; omega
    have hd : Q ++ x :: X ++ Z ++ y :: Y ++ R = Q ++ x :: ((X ++ Z) ++ y :: (Y ++ R)) := by simp
    have b1 : 0 ≤ ((Q.length : Nat) : Int) ∧ ((Q.length : Nat) : Int) < ((List.length (Q ++ x :: X ++ Z ++ y :: Y ++ R) : Nat) : Int) := ⟨by omega, by simp only [List.length_append, List.length_cons]; omega⟩
    have b2 : 0 ≤ ((Q.length + 1 + (X ++ Z).length : Nat) : Int) ∧ ((Q.length + 1 + (X ++ Z).length : Nat) : Int) < ((List.length (Q ++ x :: X ++ Z ++ y :: Y ++ R) : Nat) : Int) := ⟨by omega, by simp only [List.length_append, List.length_cons]; omega⟩
    have g1 : (Q ++ x :: X ++ Z ++ y :: Y ++ R).getD Q.length default = x := sD hd rfl
    have g2 : (Q ++ x :: X ++ Z ++ y :: Y ++ R).getD (Q.length + 1 + (X ++ Z).length) default = y := sD (Q := Q ++ x :: X ++ Z) (R := Y ++ R) (by simp) (by simp; omega)
    have hbod : (fun s : List α × Int => qZ cmp a b n s.1 s.2) (Q ++ x :: X ++ Z ++ y :: Y ++ R, ((i : Nat) : Int)) = some (.inl ((Q ++ [y]) ++ X ++ (Z ++ [x]) ++ Y ++ R, ((i + 1 : Nat) : Int))) := by
      show qZ cmp a b n _ _ = _
      simp only [qZ, hlt, cond_true, wa, wb, wi, aX b1, aX b2, Int.toNat_natCast, g1, g2]
      rw [YP hd rfl rfl]
      simp
    rw [dQ hbod, MU X Y (Q ++ [y]) (Z ++ [x]) R (i + 1) (by omega) (by simp; omega) (by simp; omega) (by rw [hn]; congr 1; omega) ha0 hb0 (by simp only [List.length_append, List.length_cons, List.length_nil]; omega)]
    simp

theorem TF {cmp : α → α → Option Int} {a b n : Int} {X Y Q Z R d : List α} (hd : d = Q ++ X ++ Z ++ Y ++ R) (hxy : X.length = Y.length) (ha : a = (Q.length : Nat)) (hb : b = ((Q.length + X.length + Z.length : Nat) : Int)) (hn : n = (X.length : Nat)) (hl : d.length ≤ 1099511627776) :
    xW d a b n cmp = some (Q ++ Y ++ Z ++ X ++ R) := by
  subst hd
  unfold xW JN
  have := MU (cmp := cmp) (a := a) (b := b) (n := n) X Y Q Z R 0 hxy (by omega) (by omega) (by omega) (by omega) (by omega) hl
  simp only [Int.natCast_zero] at this
  rw [this]; rfl

theorem aCD {cmp : α → α → Option Int} {m : Int} : ∀ (n : Nat) (X Y Q R : List α), X.length + Y.length ≤ n → X ≠ [] → Y ≠ [] → m = ((Q.length + X.length : Nat) : Int) → (Q ++ X ++ Y ++ R).length ≤ 1099511627776 →
    (lp (fun s : List α × Int × Int => nI cmp m s.1 s.2.1 s.2.2) (Q ++ X ++ Y ++ R, ((X.length : Nat) : Int), ((Y.length : Nat) : Int))).bind (fun rr => IY cmp rr.1 m rr.2) = some (Q ++ Y ++ X ++ R) := by
  intro n
  induction n with
  | zero => intro X Y Q R hn hX; exact absurd (List.length_eq_zero_iff.1 (by omega)) hX
  | succ n ih =>
    intro X Y Q R hn hX hY hm hl
    have hX' : 0 < X.length := List.length_pos_iff.2 hX
    have hY' : 0 < Y.length := List.length_pos_iff.2 hY
    simp only [List.length_append] at hl
    rcases Nat.lt_trichotomy X.length Y.length with h | h | h
    · -- the second is longer
      obtain ⟨Y1, Y2, rfl, hY2⟩ : ∃ Y1 Y2, Y = Y1 ++ Y2 ∧ Y2.length = X.length := ⟨Y.take (Y.length - X.length), Y.drop (Y.length - X.length), (List.take_append_drop _ _).symm, by rw [List.length_drop]; omega⟩
      simp only [List.length_append] at hn hl h
      have hne : decide (((X.length : Nat) : Int) = (((Y1 ++ Y2).length : Nat) : Int)) = false := by simp only [List.length_append]; simp; omega
      have hlt : decide ((((Y1 ++ Y2).length : Nat) : Int) < ((X.length : Nat) : Int)) = false := by simp only [List.length_append]; simp; omega
      have e1 : IntKind.i64.wrap (m - ((X.length : Nat) : Int)) = ((Q.length : Nat) : Int) := by rw [wr (by omega) (by omega)]; omega
      have e0 : IntKind.i64.wrap (m + (((Y1 ++ Y2).length : Nat) : Int)) = m + (((Y1 ++ Y2).length : Nat) : Int) := by simp only [List.length_append]; exact wr (by omega) (by omega)
      have e2 : IntKind.i64.wrap (m + (((Y1 ++ Y2).length : Nat) : Int) - ((X.length : Nat) : Int)) = ((Q.length + X.length + Y1.length : Nat) : Int) := by simp only [List.length_append]; rw [wr (by omega) (by omega)]; omega
      have e3 : IntKind.i64.wrap ((((Y1 ++ Y2).length : Nat) : Int) - ((X.length : Nat) : Int)) = ((Y1.length : Nat) : Int) := by simp only [List.length_append]; rw [wr (by omega) (by omega)]; omega
      have hbod : (fun s : List α × Int × Int => nI cmp m s.1 s.2.1 s.2.2) (Q ++ X ++ (Y1 ++ Y2) ++ R, ((X.length : Nat) : Int), (((Y1 ++ Y2).length : Nat) : Int)) = some (.inl (Q ++ Y2 ++ Y1 ++ (X ++ R), ((Y2.length : Nat) : Int), ((Y1.length : Nat) : Int))) := by
        show nI cmp m _ _ _ = _
        simp only [nI, hne, Bool.not_false, cond_true, hlt, cond_false, e0, e1, e2, e3]
        rw [TF (X := X) (Y := Y2) (Q := Q) (Z := Y1) (R := R) (by simp) hY2.symm rfl rfl rfl (by simp only [List.length_append]; omega)]
        simp [hY2]
      rw [dQ hbod, ih Y2 Y1 Q (X ++ R) (by omega) (fun h => by rw [h] at hY2; simp at hY2; omega) (fun h' => by rw [h'] at h; simp at h; omega) (by rw [hm]; congr 1; omega) (by simp only [List.length_append]; omega)]
      simp
    · -- alike
      have hne : decide (((X.length : Nat) : Int) = ((Y.length : Nat) : Int)) = true := by simp; omega
      rw [cT (r := (Q ++ X ++ Y ++ R, ((X.length : Nat) : Int))) (by show nI cmp m _ _ _ = _; simp only [nI, hne, Bool.not_true, cond_false])]
      simp only [Option.bind_some, IY]
      have e1 : IntKind.i64.wrap (m - ((X.length : Nat) : Int)) = ((Q.length : Nat) : Int) := by rw [wr (by omega) (by omega)]; omega
      rw [e1, TF (X := X) (Y := Y) (Q := Q) (Z := []) (R := R) (by simp) h rfl (by rw [hm]; simp) rfl (by simp only [List.length_append]; omega)]
      simp
    · -- the first is longer
      obtain ⟨X1, X2, rfl, hX1⟩ : ∃ X1 X2, X = X1 ++ X2 ∧ X1.length = Y.length := ⟨X.take Y.length, X.drop Y.length, (List.take_append_drop _ _).symm, by rw [List.length_take]; omega⟩
      simp only [List.length_append] at hn hl h hm
      have hne : decide ((((X1 ++ X2).length : Nat) : Int) = ((Y.length : Nat) : Int)) = false := by simp only [List.length_append]; simp; omega
      have hlt : decide (((Y.length : Nat) : Int) < (((X1 ++ X2).length : Nat) : Int)) = true := by simp only [List.length_append]; simp; omega
      have e1 : IntKind.i64.wrap (m - (((X1 ++ X2).length : Nat) : Int)) = ((Q.length : Nat) : Int) := by simp only [List.length_append]; rw [wr (by omega) (by omega)]; omega
      have e3 : IntKind.i64.wrap ((((X1 ++ X2).length : Nat) : Int) - ((Y.length : Nat) : Int)) = ((X2.length : Nat) : Int) := by simp only [List.length_append]; rw [wr (by omega) (by omega)]; omega
      have hbod : (fun s : List α × Int × Int => nI cmp m s.1 s.2.1 s.2.2) (Q ++ (X1 ++ X2) ++ Y ++ R, (((X1 ++ X2).length : Nat) : Int), ((Y.length : Nat) : Int)) = some (.inl ((Q ++ Y) ++ X2 ++ X1 ++ R, ((X2.length : Nat) : Int), ((X1.length : Nat) : Int))) := by
        show nI cmp m _ _ _ = _
        simp only [nI, hne, Bool.not_false, cond_true, hlt, e1, e3]
        rw [TF (X := X1) (Y := Y) (Q := Q) (Z := X2) (R := R) (by simp) hX1 rfl (by rw [hm]; congr 1; omega) (by rw [hX1]) (by simp only [List.length_append]; omega)]
        simp [hX1]
      rw [dQ hbod, ih X2 X1 (Q ++ Y) R (by omega) (fun h' => by rw [h'] at h; simp at h; omega) (fun h => by rw [h] at hX1; simp at hX1; omega) (by rw [hm]; simp only [List.length_append]; congr 1; omega) (by simp only [List.length_append]; omega)]
      simp

theorem aEV {cmp : α → α → Option Int} {a m b : Int} {X Y Q R d : List α} (hd : d = Q ++ X ++ Y ++ R) (hX : X ≠ []) (hY : Y ≠ []) (ha : a = (Q.length : Nat)) (hm : m = ((Q.length + X.length : Nat) : Int)) (hb : b = ((Q.length + X.length + Y.length : Nat) : Int)) (hl : d.length ≤ 1099511627776) :
    IK d a m b cmp = some (Q ++ Y ++ X ++ R) := by
  subst hd
  unfold IK OY
  have hl' := hl
  simp only [List.length_append] at hl'
  rw [show IntKind.i64.wrap (m - a) = ((X.length : Nat) : Int) by rw [wr (by omega) (by omega)]; omega, show IntKind.i64.wrap (b - m) = ((Y.length : Nat) : Int) by rw [wr (by omega) (by omega)]; omega]
  exact aCD _ X Y Q R (Nat.le_refl _) hX hY hm hl

end Go.Abs
namespace Go.Abs
open Go
variable {α : Type} [Inhabited α]
theorem half {s : Nat} (h : s ≤ 4398046511104) : IntKind.i64.wrap (Int.fdiv (IntKind.u64.wrap (IntKind.i64.wrap (s : Int))) (2 ^ (min (Int.toNat (1 : Int)) 64))) = ((s / 2 : Nat) : Int) := by
  rw [wr (n := (s : Int)) (by omega) (by omega)]
  have hu : IntKind.u64.wrap (s : Int) = (s : Int) := by
    simp only [IntKind.wrap, IntKind.bits, IntKind.signed]
    simp
    omega
  have hp : (2 : Int) ^ (min (Int.toNat (1 : Int)) 64) = 2 := by decide
  rw [hu, hp, Int.fdiv_eq_ediv_of_nonneg _ (by omega), wr (by omega) (by omega)]
  omega

theorem LI {P B S d : List α} {n k : Nat} (hd : d = P ++ B ++ S) (hn : n = P.length + k) (hk : k < B.length) : d.getD n default = B.getD k default := by
  subst hd; subst hn
  simp only [List.getD_eq_getElem?_getD]
  rw [List.append_assoc, List.getElem?_append_right (by omega), List.getElem?_append_left (by omega)]
  congr 2; omega

theorem KC {l : List α} {t : Nat} {y : α} (h : y ∈ l.take t) : ∃ i, i < t ∧ i < l.length ∧ y = l.getD i default := by
  obtain ⟨i, hi, rfl⟩ := List.mem_iff_getElem.1 h
  rw [List.length_take] at hi
  refine ⟨i, by omega, by omega, ?_⟩
  rw [List.getElem_take, List.getD_eq_getElem?_getD, List.getElem?_eq_getElem (by omega)]; rfl

theorem yM {l : List α} {t : Nat} {y : α} (h : y ∈ l.drop t) : ∃ i, t ≤ i ∧ i < l.length ∧ y = l.getD i default := by
  obtain ⟨i, hi, rfl⟩ := List.mem_iff_getElem.1 h
  rw [List.length_drop] at hi
  refine ⟨t + i, by omega, by omega, ?_⟩
  rw [List.getElem_drop, List.getD_eq_getElem?_getD, List.getElem?_eq_getElem (by omega)]; rfl

theorem dR {l : List α} {i : Nat} (h : i < l.length) : l.getD i default ∈ l := by
  rw [List.getD_eq_getElem?_getD, List.getElem?_eq_getElem h]; exact List.getElem_mem h

section sym
variable {ok : α → Prop} {le : α → α → Prop} {cmp : α → α → Option Int}
theorem Cmp.refl {β : Type} {ok : β → Prop} {le : β → β → Prop} {cmp : β → β → Option Int} (C : Cmp ok le cmp) {x : β} (h : ok x) : le x x := by rcases C.total x x h h with h | h <;> exact h

theorem vT (C : Cmp ok le cmp) {l : List α} (ho : Oks ok l) (hs : Srt le l) {i j : Nat} (hij : i ≤ j) (hj : j < l.length) : le (l.getD i default) (l.getD j default) := by
  rcases Nat.lt_or_eq_of_le hij with h | h
  · have := List.pairwise_iff_getElem.1 hs i j (by omega) hj h
    simpa [List.getD_eq_getElem?_getD, List.getElem?_eq_getElem hj, List.getElem?_eq_getElem (show i < l.length by omega)] using this
  · subst h; exact C.refl (ho _ (dR hj))

theorem XL {β : Type} {le : β → β → Prop} {l : List β} (h : Srt le l) (t : Nat) : Srt le (l.take t) := List.Pairwise.sublist (List.take_sublist t l) h

theorem ZS {β : Type} {le : β → β → Prop} {l : List β} (h : Srt le l) (t : Nat) : Srt le (l.drop t) := List.Pairwise.sublist (List.drop_sublist t l) h

theorem ZI {β : Type} {body : (List β × Int × Int) → Option ((List β × Int × Int) ⊕ (List β × Int))} {d : List β} {f : Nat → Prop} {lo hi : Nat}
    (hb : ∀ i j : Nat, lo ≤ i → i < j → j ≤ hi → ∃ t : Bool, (t = true ↔ f ((i + j) / 2)) ∧ body (d, (i : Int), (j : Int)) = some (.inl (if t then (d, (((i + j) / 2 + 1 : Nat) : Int), (j : Int)) else (d, (i : Int), (((i + j) / 2 : Nat) : Int)))))
    (he : ∀ i : Nat, body (d, (i : Int), (i : Int)) = some (.inr (d, (i : Int)))) :
    ∀ (n i j : Nat), j - i ≤ n → lo ≤ i → i ≤ j → j ≤ hi → (i = lo ∨ f (i - 1)) → (j = hi ∨ ¬ f j) → ∃ s, lo ≤ s ∧ s ≤ hi ∧ (s = lo ∨ f (s - 1)) ∧ (s = hi ∨ ¬ f s) ∧ lp body (d, (i : Int), (j : Int)) = some (d, ((s : Nat) : Int)) := by
  intro n
  induction n with
  | zero =>
    intro i j hn h1 h2 h3 h4 h5
    have : i = j := by omega
    subst this
    exact ⟨i, h1, h3, h4, h5, cT (he i)⟩
  | succ n ih =>
    intro i j hn h1 h2 h3 h4 h5
    by_cases hij : i = j
    · subst hij; exact ⟨i, h1, h3, h4, h5, cT (he i)⟩
    · obtain ⟨t, ht, hbt⟩ := hb i j h1 (by omega) h3
      cases t
      · obtain ⟨s, r1, r2, r3, r4, r5⟩ := ih i ((i + j) / 2) (by omega) h1 (by omega) (by omega) h4 (Or.inr (fun h => by have := ht.2 h; cases this))
        refine ⟨s, r1, r2, r3, r4, ?_⟩
        rw [dQ hbt]; exact r5
      · obtain ⟨s, r1, r2, r3, r4, r5⟩ := ih ((i + j) / 2 + 1) j (by omega) (by omega) (by omega) h3 (Or.inr (by simpa using ht.1 rfl)) h5
        refine ⟨s, r1, r2, r3, r4, ?_⟩
        rw [dQ hbt]; exact r5

def RB (le : α → α → Prop) (P A B S r : List α) : Prop := ∃ D, D.Perm (A ++ B) ∧ Srt le D ∧ r = P ++ D ++ S

theorem aDU {cmp : α → α → Option Int} {rec : List α → Int → Int → Int → Option (List α)} {e : Int} {x : α} : ∀ (B Q R : List α) (k : Nat), k = Q.length → e = ((Q.length + B.length + 1 : Nat) : Int) → (Q ++ x :: B ++ R).length ≤ 1099511627776 →
    lp (fun s : List α × Int => oS cmp rec e s.1 s.2) (Q ++ x :: B ++ R, (k : Int)) = some (Q ++ B ++ x :: R)
  | [], Q, R, k, hk, he, hl => by
    simp only [List.length_append, List.length_cons, List.length_nil] at hl he
    refine cT ?_
    show oS cmp rec e _ _ = _
    have : decide ((k : Int) < IntKind.i64.wrap (e - 1)) = false := by rw [wr (by omega) (by omega)]; simp; omega
    simp only [oS, this, cond_false]
    simp
  | y :: B, Q, R, k, hk, he, hl => by
    simp only [List.length_append, List.length_cons] at hl he
    have h1 : decide ((k : Int) < IntKind.i64.wrap (e - 1)) = true := by rw [wr (by omega) (by omega)]; simp; omega
    have hw : IntKind.i64.wrap ((k : Int) + 1) = ((k + 1 : Nat) : Int) := by rw [wr (by omega) (by omega)]; omega
    have b1 : 0 ≤ (k : Int) ∧ (k : Int) < ((List.length (Q ++ x :: y :: B ++ R) : Nat) : Int) := ⟨by omega, by simp only [List.length_append, List.length_cons]; omega⟩
    have b2 : 0 ≤ ((k + 1 : Nat) : Int) ∧ ((k + 1 : Nat) : Int) < ((List.length (Q ++ x :: y :: B ++ R) : Nat) : Int) := ⟨by omega, by simp only [List.length_append, List.length_cons]; omega⟩
    have hd : Q ++ x :: y :: B ++ R = Q ++ x :: ([] ++ y :: (B ++ R)) := by simp
    have g1 : (Q ++ x :: y :: B ++ R).getD k default = x := sD hd hk
    have g2 : (Q ++ x :: y :: B ++ R).getD (k + 1) default = y := sD (Q := Q ++ [x]) (R := B ++ R) (by simp) (by simp; omega)
    have hb : (fun s : List α × Int => oS cmp rec e s.1 s.2) (Q ++ x :: y :: B ++ R, (k : Int)) = some (.inl ((Q ++ [y]) ++ x :: B ++ R, ((k + 1 : Nat) : Int))) := by
      show oS cmp rec e _ _ = _
      simp only [oS, h1, cond_true, hw, aX b1, aX b2, Int.toNat_natCast, g1, g2]
      rw [YP (M := []) hd hk (by simp; omega)]
      simp
    rw [dQ hb, aDU B (Q ++ [y]) R (k + 1) (by simp; omega) (by rw [he]; simp only [List.length_append, List.length_cons, List.length_nil]; congr 1; omega) (by simp only [List.length_append, List.length_cons, List.length_nil]; omega)]
    simp

theorem aD9 {cmp : α → α → Option Int} {rec : List α → Int → Int → Int → Option (List α)} {e : Int} {x : α} {Q : List α} (he : e = (Q.length : Nat)) : ∀ (n : Nat) (A R : List α) (k : Nat), A.length = n → k = Q.length + A.length → (Q ++ A ++ x :: R).length ≤ 1099511627776 →
    lp (fun s : List α × Int => pE cmp rec e s.1 s.2) (Q ++ A ++ x :: R, (k : Int)) = some (Q ++ x :: A ++ R) := by
  intro n
  induction n with
  | zero =>
    intro A R k hn hk hl
    have hA : A = [] := List.length_eq_zero_iff.1 hn
    subst hA
    refine cT ?_
    show pE cmp rec e _ _ = _
    have : decide (e < (k : Int)) = false := by simp only [List.length_nil] at hk; simp; omega
    simp only [pE, this, cond_false]
    simp
  | succ n ih =>
    intro A R k hn hk hl
    obtain ⟨A', y, rfl⟩ : ∃ A' y, A = A' ++ [y] := by
      rcases List.eq_nil_or_concat A with h | ⟨A', y, h⟩
      · rw [h] at hn; simp at hn
      · exact ⟨A', y, by simpa using h⟩
    simp only [List.length_append, List.length_cons, List.length_nil] at hl hk hn
    have h1 : decide (e < (k : Int)) = true := by simp; omega
    have hw : IntKind.i64.wrap ((k : Int) - 1) = ((Q.length + A'.length : Nat) : Int) := by rw [wr (by omega) (by omega)]; omega
    have b1 : 0 ≤ (k : Int) ∧ (k : Int) < ((List.length (Q ++ (A' ++ [y]) ++ x :: R) : Nat) : Int) := ⟨by omega, by simp only [List.length_append, List.length_cons, List.length_nil]; omega⟩
    have b2 : 0 ≤ ((Q.length + A'.length : Nat) : Int) ∧ ((Q.length + A'.length : Nat) : Int) < ((List.length (Q ++ (A' ++ [y]) ++ x :: R) : Nat) : Int) := ⟨by omega, by simp only [List.length_append, List.length_cons, List.length_nil]; omega⟩
    have g1 : (Q ++ (A' ++ [y]) ++ x :: R).getD k default = x := sD (Q := Q ++ (A' ++ [y])) rfl (by simp; omega)
    have g2 : (Q ++ (A' ++ [y]) ++ x :: R).getD (Q.length + A'.length) default = y := sD (Q := Q ++ A') (R := x :: R) (by simp) (by simp)
    have hb : (fun s : List α × Int => pE cmp rec e s.1 s.2) (Q ++ (A' ++ [y]) ++ x :: R, (k : Int)) = some (.inl (Q ++ A' ++ x :: (y :: R), ((Q.length + A'.length : Nat) : Int))) := by
      show pE cmp rec e _ _ = _
      simp only [pE, h1, cond_true, hw, aX b1, aX b2, Int.toNat_natCast, g1, g2]
      rw [JT (Q := Q ++ (A' ++ [y])) (x := x) (R := R) rfl (by simp; omega), JT (Q := Q ++ A') (x := y) (R := y :: R) (by simp) (by simp)]
    rw [dQ hb, ih A' (y :: R) (Q.length + A'.length) (by omega) rfl (by simp only [List.length_append, List.length_cons]; omega)]
    simp

def aBd (cmp : α → α → Option Int) (le : α → α → Prop) (P A B S : List α) (d : List α) (a m b : Int) : Prop :=
  (∃ r, RB le P A B S r ∧ ∀ rec, eK cmp rec d a m b = some r) ∨
  (∃ A1 A2 B1 B2, A = A1 ++ A2 ∧ B = B1 ++ B2 ∧ 0 < A1.length + B1.length ∧ 0 < A2.length + B2.length ∧ (∀ x ∈ A1 ++ B1, ∀ y ∈ A2 ++ B2, le x y) ∧
    ∀ rec, eK cmp rec d a m b = (cond (decide (A1 ≠ [] ∧ B1 ≠ [])) (rec (P ++ A1 ++ B1 ++ A2 ++ B2 ++ S) a (a + (A1.length : Nat)) (a + ((A1.length + B1.length : Nat) : Int))) (some (P ++ A1 ++ B1 ++ A2 ++ B2 ++ S))).bind fun x =>
      cond (decide (A2 ≠ [] ∧ B2 ≠ [])) (rec x (a + ((A1.length + B1.length : Nat) : Int)) (a + ((A1.length + B1.length + A2.length : Nat) : Int)) b) (some x))

theorem aCR (C : Cmp ok le cmp) {P B S : List α} {x : α} {a m b : Int} (hx : ok x) (hB : Oks ok B) (hs : Srt le B) (ha : a = (P.length : Nat)) (hm : m = ((P.length + 1 : Nat) : Int)) (hb : b = ((P.length + 1 + B.length : Nat) : Int)) (hl : (P ++ x :: B ++ S).length ≤ 1099511627776) :
    ∃ r, RB le P [x] B S r ∧ ∀ rec, eK cmp rec (P ++ x :: B ++ S) a m b = some r := by
  have hl' := hl
  simp only [List.length_append, List.length_cons] at hl'
  have hgx : (P ++ x :: B ++ S).getD P.length default = x := sD (Q := P) (R := B ++ S) (by simp) rfl
  have hgb : ∀ k, k < B.length → (P ++ x :: B ++ S).getD (P.length + 1 + k) default = B.getD k default := fun k hk => LI (P := P ++ [x]) (B := B) (S := S) (by simp) (by simp) hk
  have hbin : ∀ rec, ∃ s : Nat, P.length + 1 ≤ s ∧ s ≤ P.length + 1 + B.length ∧ (s = P.length + 1 ∨ ¬ le x (B.getD (s - 1 - (P.length + 1)) default)) ∧ (s = P.length + 1 + B.length ∨ ¬ ¬ le x (B.getD (s - (P.length + 1)) default)) ∧
      lp (fun s : List α × Int × Int => oW cmp rec a s.1 s.2.1 s.2.2) (P ++ x :: B ++ S, m, b) = some (P ++ x :: B ++ S, ((s : Nat) : Int)) := by
    intro rec
    rw [hm, hb]
    refine ZI (lo := P.length + 1) (hi := P.length + 1 + B.length) (f := fun k => ¬ le x (B.getD (k - (P.length + 1)) default)) ?_ ?_ _ _ _ (Nat.le_refl _) (Nat.le_refl _) (by omega) (Nat.le_refl _) (Or.inl rfl) (Or.inl rfl)
    · intro i j h1 h2 h3
      have hh : (i + j) / 2 - (P.length + 1) < B.length := by omega
      have e1 : (P ++ x :: B ++ S).getD ((i + j) / 2) default = B.getD ((i + j) / 2 - (P.length + 1)) default := by
        have := hgb ((i + j) / 2 - (P.length + 1)) hh
        rwa [show P.length + 1 + ((i + j) / 2 - (P.length + 1)) = (i + j) / 2 by omega] at this
      obtain ⟨v, hc, hv⟩ := C.ans _ x (hB _ (dR hh)) hx
      refine ⟨decide (v < 0), by simpa using hv, ?_⟩
      show oW cmp rec a _ _ _ = _
      have hlt : decide ((i : Int) < (j : Int)) = true := by simpa using h2
      have hadd : ((i : Int) + (j : Int)) = ((i + j : Nat) : Int) := by omega
      have w1 : IntKind.i64.wrap ((((i + j) / 2 : Nat) : Int) + 1) = (((i + j) / 2 + 1 : Nat) : Int) := by rw [wr (by omega) (by omega)]; omega
      simp only [oW, hlt, cond_true, hadd, half (s := i + j) (by omega), Int.toNat_natCast, ha, e1, hgx, hc, Option.bind_some, w1]
      rw [aX (by omega), aX ⟨by omega, by simp only [List.length_append, List.length_cons]; omega⟩, aX ⟨by omega, by simp only [List.length_append, List.length_cons]; omega⟩]
      by_cases hneg : v < 0 <;> simp [hneg]
    · intro i
      show oW cmp rec a _ _ _ = _
      have hlt : decide ((i : Int) < (i : Int)) = false := by simp
      simp only [oW, hlt, cond_false]
  obtain ⟨s, s1, s2, s3, s4, s5⟩ := hbin (fun _ _ _ _ => none)
  obtain ⟨t, rfl⟩ : ∃ t, s = P.length + 1 + t := ⟨s - (P.length + 1), by omega⟩
  have ht : t ≤ B.length := by omega
  have hx1 : ∀ i, i < t → le (B.getD i default) x := fun i hi => by
    have h3 : ¬ le x (B.getD (t - 1) default) := by
      rcases s3 with h | h
      · omega
      · rwa [show P.length + 1 + t - 1 - (P.length + 1) = t - 1 by omega] at h
    have h4 : le (B.getD (t - 1) default) x := by
      rcases C.total x _ hx (hB _ (dR (show t - 1 < B.length by omega))) with h | h
      · exact absurd h h3
      · exact h
    exact C.trans _ _ _ (hB _ (dR (by omega))) (hB _ (dR (by omega))) hx (vT C hB hs (show i ≤ t - 1 by omega) (by omega)) h4
  have hx2 : ∀ j, t ≤ j → j < B.length → le x (B.getD j default) := fun j hj hj' => by
    have h3 : le x (B.getD t default) := by
      rcases s4 with h | h
      · omega
      · rw [show P.length + 1 + t - (P.length + 1) = t by omega] at h
        exact Classical.not_not.1 h
    exact C.trans _ _ _ hx (hB _ (dR (by omega))) (hB _ (dR hj')) h3 (vT C hB hs hj hj')
  have hBs : B.take t ++ B.drop t = B := List.take_append_drop t B
  have hlt : (B.take t).length = t := by rw [List.length_take]; omega
  refine ⟨P ++ (B.take t ++ x :: B.drop t) ++ S, ⟨_, ?_, ?_, rfl⟩, fun rec => ?_⟩
  · have := List.perm_middle (a := x) (l₁ := B.take t) (l₂ := B.drop t)
    rw [hBs] at this; exact this
  · simp only [Srt, List.pairwise_append, List.pairwise_cons]
    refine ⟨XL hs t, ⟨fun z hz => ?_, ZS hs t⟩, fun y hy z hz => ?_⟩
    · obtain ⟨j, j1, j2, rfl⟩ := yM hz
      exact hx2 j j1 j2
    · obtain ⟨i, i1, i2, rfl⟩ := KC hy
      rcases List.mem_cons.1 hz with rfl | hz
      · exact hx1 i i1
      · obtain ⟨j, j1, j2, rfl⟩ := yM hz
        exact vT C hB hs (by omega) j2
  · have h1 : decide (IntKind.i64.wrap (m - a) = 1) = true := by rw [wr (by omega) (by omega)]; simp; omega
    have s5' : lp (fun s : List α × Int × Int => oW cmp rec a s.1 s.2.1 s.2.2) (P ++ x :: B ++ S, m, b) = some (P ++ x :: B ++ S, ((P.length + 1 + t : Nat) : Int)) := s5
    simp only [eK, h1, cond_true, JW, s5', Option.bind_some, JG, JL]
    have hmv := aDU (cmp := cmp) (rec := rec) (e := ((P.length + 1 + t : Nat) : Int)) (x := x) (B.take t) P (B.drop t ++ S) P.length rfl (by rw [hlt]; congr 1; omega) (by simp only [List.length_append, List.length_cons, List.length_drop]; omega)
    have hd : P ++ x :: B.take t ++ (B.drop t ++ S) = P ++ x :: B ++ S := by
      have : P ++ x :: B.take t ++ (B.drop t ++ S) = P ++ x :: (B.take t ++ B.drop t) ++ S := by simp only [List.append_assoc, List.cons_append]
      rw [this, hBs]
    rw [hd] at hmv
    rw [ha, hmv]
    simp [JR]

theorem aDl (C : Cmp ok le cmp) {P A S : List α} {x : α} {a m b : Int} (hx : ok x) (hA : Oks ok A) (hs : Srt le A) (hA1 : A.length ≠ 1) (ha : a = (P.length : Nat)) (hm : m = ((P.length + A.length : Nat) : Int)) (hb : b = ((P.length + A.length + 1 : Nat) : Int)) (hl : (P ++ A ++ x :: S).length ≤ 1099511627776) :
    ∃ r, RB le P A [x] S r ∧ ∀ rec, eK cmp rec (P ++ A ++ x :: S) a m b = some r := by
  have hl' := hl
  simp only [List.length_append, List.length_cons] at hl'
  have hgx : (P ++ A ++ x :: S).getD (P.length + A.length) default = x := sD (Q := P ++ A) (R := S) rfl (by simp)
  have hga : ∀ k, k < A.length → (P ++ A ++ x :: S).getD (P.length + k) default = A.getD k default := fun k hk => LI (P := P) (B := A) (S := x :: S) rfl rfl hk
  have hbin : ∀ rec, ∃ s : Nat, P.length ≤ s ∧ s ≤ P.length + A.length ∧ (s = P.length ∨ le (A.getD (s - 1 - P.length) default) x) ∧ (s = P.length + A.length ∨ ¬ le (A.getD (s - P.length) default) x) ∧
      lp (fun s : List α × Int × Int => oT cmp rec m s.1 s.2.1 s.2.2) (P ++ A ++ x :: S, a, m) = some (P ++ A ++ x :: S, ((s : Nat) : Int)) := by
    intro rec
    rw [ha, hm]
    refine ZI (lo := P.length) (hi := P.length + A.length) (f := fun k => le (A.getD (k - P.length) default) x) ?_ ?_ _ _ _ (Nat.le_refl _) (Nat.le_refl _) (by omega) (Nat.le_refl _) (Or.inl rfl) (Or.inl rfl)
    · intro i j h1 h2 h3
      have hh : (i + j) / 2 - P.length < A.length := by omega
      have e1 : (P ++ A ++ x :: S).getD ((i + j) / 2) default = A.getD ((i + j) / 2 - P.length) default := by
        have := hga ((i + j) / 2 - P.length) hh
        rwa [show P.length + ((i + j) / 2 - P.length) = (i + j) / 2 by omega] at this
      obtain ⟨v, hc, hv⟩ := C.ans x _ hx (hA _ (dR hh))
      refine ⟨!decide (v < 0), by simp only [Bool.not_eq_true', decide_eq_false_iff_not, hv, Classical.not_not], ?_⟩
      show oT cmp rec _ _ _ _ = _
      have hlt : decide ((i : Int) < (j : Int)) = true := by simpa using h2
      have hadd : ((i : Int) + (j : Int)) = ((i + j : Nat) : Int) := by omega
      have w1 : IntKind.i64.wrap ((((i + j) / 2 : Nat) : Int) + 1) = (((i + j) / 2 + 1 : Nat) : Int) := by rw [wr (by omega) (by omega)]; omega
      simp only [oT, hlt, cond_true, hadd, half (s := i + j) (by omega), Int.toNat_natCast, e1, hgx, hc, Option.bind_some, w1]
      rw [aX (by omega), aX ⟨by omega, by simp only [List.length_append, List.length_cons]; omega⟩, aX ⟨by omega, by simp only [List.length_append, List.length_cons]; omega⟩]
      by_cases hneg : v < 0 <;> simp [hneg]
    · intro i
      show oT cmp rec _ _ _ _ = _
      have hlt : decide ((i : Int) < (i : Int)) = false := by simp
      simp only [oT, hlt, cond_false]
  obtain ⟨s, s1, s2, s3, s4, s5⟩ := hbin (fun _ _ _ _ => none)
  obtain ⟨t, rfl⟩ : ∃ t, s = P.length + t := ⟨s - P.length, by omega⟩
  have ht : t ≤ A.length := by omega
  have hx1 : ∀ i, i < t → le (A.getD i default) x := fun i hi => by
    have h4 : le (A.getD (t - 1) default) x := by
      rcases s3 with h | h
      · omega
      · rwa [show P.length + t - 1 - P.length = t - 1 by omega] at h
    exact C.trans _ _ _ (hA _ (dR (by omega))) (hA _ (dR (by omega))) hx (vT C hA hs (show i ≤ t - 1 by omega) (by omega)) h4
  have hx2 : ∀ j, t ≤ j → j < A.length → le x (A.getD j default) := fun j hj hj' => by
    have h3 : le x (A.getD t default) := by
      rcases s4 with h | h
      · omega
      · rw [show P.length + t - P.length = t by omega] at h
        rcases C.total x _ hx (hA _ (dR (show t < A.length by omega))) with h' | h'
        · exact h'
        · exact absurd h' h
    exact C.trans _ _ _ hx (hA _ (dR (by omega))) (hA _ (dR hj')) h3 (vT C hA hs hj hj')
  have hAs : A.take t ++ A.drop t = A := List.take_append_drop t A
  have hlt : (A.take t).length = t := by rw [List.length_take]; omega
  refine ⟨P ++ (A.take t ++ x :: A.drop t) ++ S, ⟨_, ?_, ?_, rfl⟩, fun rec => ?_⟩
  · have := List.perm_middle (a := x) (l₁ := A.take t) (l₂ := A.drop t)
    rw [hAs] at this
    exact this.trans (by simpa using (List.perm_append_comm (l₁ := [x]) (l₂ := A)))
  · simp only [Srt, List.pairwise_append, List.pairwise_cons]
    refine ⟨XL hs t, ⟨fun z hz => ?_, ZS hs t⟩, fun y hy z hz => ?_⟩
    · obtain ⟨j, j1, j2, rfl⟩ := yM hz
      exact hx2 j j1 j2
    · obtain ⟨i, i1, i2, rfl⟩ := KC hy
      rcases List.mem_cons.1 hz with rfl | hz
      · exact hx1 i i1
      · obtain ⟨j, j1, j2, rfl⟩ := yM hz
        exact vT C hA hs (by omega) j2
  · have h1 : decide (IntKind.i64.wrap (m - a) = 1) = false := by rw [wr (by omega) (by omega)]; simp; omega
    have h2 : decide (IntKind.i64.wrap (b - m) = 1) = true := by rw [wr (by omega) (by omega)]; simp; omega
    have s5' : lp (fun s : List α × Int × Int => oT cmp rec m s.1 s.2.1 s.2.2) (P ++ A ++ x :: S, a, m) = some (P ++ A ++ x :: S, ((P.length + t : Nat) : Int)) := s5
    simp only [eK, h1, cond_false, FZ, h2, cond_true, JK, s5', Option.bind_some, LN, JV]
    have hmv := aD9 (cmp := cmp) (rec := rec) (e := ((P.length + t : Nat) : Int)) (x := x) (Q := P ++ A.take t) (by simp [hlt]) (A.drop t).length (A.drop t) S (P.length + A.length) rfl (by simp only [List.length_append, List.length_drop, hlt]; omega) (by simp only [List.length_append, List.length_cons, List.length_drop, hlt]; omega)
    have hd : P ++ A.take t ++ A.drop t ++ x :: S = P ++ A ++ x :: S := by
      have : P ++ A.take t ++ A.drop t ++ x :: S = P ++ (A.take t ++ A.drop t) ++ x :: S := by simp only [List.append_assoc]
      rw [this, hAs]
    rw [hd] at hmv
    rw [hm, hmv]
    simp [LP]

theorem aEz (C : Cmp ok le cmp) {P A B S : List α} {a m b : Int} (hA : Oks ok A) (hB : Oks ok B) (hsA : Srt le A) (hsB : Srt le B) (hA2 : 2 ≤ A.length) (hB2 : 2 ≤ B.length)
    (ha : a = (P.length : Nat)) (hm : m = ((P.length + A.length : Nat) : Int)) (hb : b = ((P.length + A.length + B.length : Nat) : Int)) (hl : (P ++ A ++ B ++ S).length ≤ 1099511627776) :
    aBd cmp le P A B S (P ++ A ++ B ++ S) a m b := by
  right
  have hl' := hl
  simp only [List.length_append] at hl'
  -- the middle
  obtain ⟨mid, hmid⟩ : ∃ mid : Nat, mid = (P.length + (P.length + A.length + B.length)) / 2 := ⟨_, rfl⟩
  have hga : ∀ k, P.length ≤ k → k < P.length + A.length → (P ++ A ++ B ++ S).getD k default = A.getD (k - P.length) default := fun k h1 h2 => LI (P := P) (B := A) (S := B ++ S) (by simp) (by omega) (by omega)
  have hgb : ∀ k, P.length + A.length ≤ k → k < P.length + A.length + B.length → (P ++ A ++ B ++ S).getD k default = B.getD (k - (P.length + A.length)) default := fun k h1 h2 => LI (P := P ++ A) (B := B) (S := S) (by simp) (by simp; omega) (by omega)
  -- the search
  obtain ⟨lo, hi, hlo, hhi, hbnd, hlohi, hrange, hinit⟩ : ∃ lo hi : Nat, (lo = P.length ∨ lo + (P.length + A.length + B.length) = mid + (P.length + A.length)) ∧ (hi = P.length + A.length ∨ hi = mid) ∧ (P.length ≤ lo ∧ mid + (P.length + A.length) ≤ lo + (P.length + A.length + B.length) ∧ hi ≤ P.length + A.length ∧ hi ≤ mid) ∧ lo ≤ hi ∧
      (∀ c, lo ≤ c → c < hi → P.length ≤ c ∧ c < P.length + A.length ∧ P.length + A.length ≤ mid + (P.length + A.length) - 1 - c ∧ mid + (P.length + A.length) - 1 - c < P.length + A.length + B.length) ∧
      (∀ rec, BV cmp rec (P ++ A ++ B ++ S) a m b = BE cmp rec (P ++ A ++ B ++ S) a m b (mid : Int) ((mid + (P.length + A.length) : Nat) : Int) (lo : Int) (hi : Int)) := by
    have hw0 : IntKind.i64.wrap (Int.fdiv (IntKind.u64.wrap (IntKind.i64.wrap (a + b))) (2 ^ (min (Int.toNat (1 : Int)) 64))) = ((mid : Nat) : Int) := by
      rw [show a + b = ((P.length + (P.length + A.length + B.length) : Nat) : Int) by omega, half (by omega), hmid]
    have hw1 : IntKind.i64.wrap ((mid : Int) + m) = ((mid + (P.length + A.length) : Nat) : Int) := by rw [wr (by omega) (by omega)]; omega
    by_cases hc : mid < P.length + A.length
    · refine ⟨mid + (P.length + A.length) - (P.length + A.length + B.length), mid, Or.inr (by omega), Or.inr (by omega), by omega, by omega, fun c h1 h2 => ⟨by omega, by omega, by omega, by omega⟩, fun rec => ?_⟩
      have hlt : decide ((mid : Int) < m) = true := by simp; omega
      simp only [BV, hw0, hlt, cond_true, hw1]
      rw [aX (by omega), show IntKind.i64.wrap (((mid + (P.length + A.length) : Nat) : Int) - b) = ((mid + (P.length + A.length) - (P.length + A.length + B.length) : Nat) : Int) by rw [wr (by omega) (by omega)]; omega]
    · refine ⟨P.length, P.length + A.length, Or.inl rfl, Or.inl rfl, by omega, by omega, fun c h1 h2 => ⟨by omega, by omega, by omega, by omega⟩, fun rec => ?_⟩
      have hlt : decide ((mid : Int) < m) = false := by simp; omega
      simp only [BV, hw0, hlt, cond_false, hw1]
      rw [aX (by omega)]
      rw [ha, hm]
  have hbin : ∀ rec, ∃ s : Nat, lo ≤ s ∧ s ≤ hi ∧ (s = lo ∨ le (A.getD (s - 1 - P.length) default) (B.getD (mid + (P.length + A.length) - 1 - (s - 1) - (P.length + A.length)) default)) ∧ (s = hi ∨ ¬ le (A.getD (s - P.length) default) (B.getD (mid + (P.length + A.length) - 1 - s - (P.length + A.length)) default)) ∧
      lp (fun s : List α × Int × Int => qC cmp rec a m b (mid : Int) ((mid + (P.length + A.length) : Nat) : Int) ((mid + (P.length + A.length) - 1 : Nat) : Int) s.1 s.2.1 s.2.2) (P ++ A ++ B ++ S, (lo : Int), (hi : Int)) = some (P ++ A ++ B ++ S, ((s : Nat) : Int)) := by
    intro rec
    refine ZI (lo := lo) (hi := hi) (f := fun k => le (A.getD (k - P.length) default) (B.getD (mid + (P.length + A.length) - 1 - k - (P.length + A.length)) default)) ?_ ?_ _ _ _ (Nat.le_refl _) (Nat.le_refl _) hlohi (Nat.le_refl _) (Or.inl rfl) (Or.inl rfl)
    · intro i j h1 h2 h3
      obtain ⟨r1, r2, r3, r4⟩ := hrange ((i + j) / 2) (by omega) (by omega)
      have e1 := hga ((i + j) / 2) r1 r2
      have e2 := hgb (mid + (P.length + A.length) - 1 - (i + j) / 2) r3 r4
      obtain ⟨v, hc, hv⟩ := C.ans (B.getD (mid + (P.length + A.length) - 1 - (i + j) / 2 - (P.length + A.length)) default) (A.getD ((i + j) / 2 - P.length) default) (hB _ (dR (by omega))) (hA _ (dR (by omega)))
      refine ⟨!decide (v < 0), by simp only [Bool.not_eq_true', decide_eq_false_iff_not, hv, Classical.not_not], ?_⟩
      show qC cmp rec _ _ _ _ _ _ _ _ _ = _
      have hlt : decide ((i : Int) < (j : Int)) = true := by simpa using h2
      have hadd : ((i : Int) + (j : Int)) = ((i + j : Nat) : Int) := by omega
      have w1 : IntKind.i64.wrap ((((i + j) / 2 : Nat) : Int) + 1) = (((i + j) / 2 + 1 : Nat) : Int) := by rw [wr (by omega) (by omega)]; omega
      have w2 : IntKind.i64.wrap (((mid + (P.length + A.length) - 1 : Nat) : Int) - (((i + j) / 2 : Nat) : Int)) = ((mid + (P.length + A.length) - 1 - (i + j) / 2 : Nat) : Int) := by rw [wr (by omega) (by omega)]; omega
      simp only [qC, hlt, cond_true, hadd, half (s := i + j) (by omega), w1, w2, Int.toNat_natCast, e1, e2, hc, Option.bind_some]
      rw [aX (by omega), aX ⟨by omega, by simp only [List.length_append]; omega⟩, aX ⟨by omega, by simp only [List.length_append]; omega⟩]
      by_cases hneg : v < 0 <;> simp [hneg]
    · intro i
      show qC cmp rec _ _ _ _ _ _ _ _ _ = _
      have hlt : decide ((i : Int) < (i : Int)) = false := by simp
      simp only [qC, hlt, cond_false]
  obtain ⟨s, s1, s2, s3, s4, s5⟩ := hbin (fun _ _ _ _ => none)
  have hsA0 : P.length ≤ s ∧ s ≤ P.length + A.length := by
    omega
  have hsB0 : P.length + A.length ≤ mid + (P.length + A.length) - s ∧ mid + (P.length + A.length) - s ≤ P.length + A.length + B.length := by
    omega
  obtain ⟨t, rfl⟩ : ∃ t, s = P.length + t := ⟨s - P.length, by omega⟩
  obtain ⟨u, hu⟩ : ∃ u, mid + (P.length + A.length) - (P.length + t) = P.length + A.length + u := ⟨mid + (P.length + A.length) - (P.length + t) - (P.length + A.length), by omega⟩
  have htA : t ≤ A.length := by omega
  have huB : u ≤ B.length := by omega
  have hmtu : mid = P.length + t + u := by omega
  have hAs : A.take t ++ A.drop t = A := List.take_append_drop t A
  have hBs : B.take u ++ B.drop u = B := List.take_append_drop u B
  have hlA1 : (A.take t).length = t := by rw [List.length_take]; omega
  have hlA2 : (A.drop t).length = A.length - t := by rw [List.length_drop]
  have hlB1 : (B.take u).length = u := by rw [List.length_take]; omega
  have hlB2 : (B.drop u).length = B.length - u := by rw [List.length_drop]
  refine ⟨A.take t, A.drop t, B.take u, B.drop u, hAs.symm, hBs.symm, by rw [hlA1, hlB1]; omega, by rw [hlA2, hlB2]; omega, ?_, fun rec => ?_⟩
  · -- who stands ahead of whom
    intro x hx y hy
    rcases List.mem_append.1 hx with hx | hx
    · obtain ⟨i, i1, i2, rfl⟩ := KC hx
      rcases List.mem_append.1 hy with hy | hy
      · obtain ⟨j, j1, j2, rfl⟩ := yM hy
        exact vT C hA hsA (by omega) j2
      · obtain ⟨j, j1, j2, rfl⟩ := yM hy
        have h3 : le (A.getD (t - 1) default) (B.getD u default) := by
          rcases s3 with h | h
          · rcases hlo with h' | h' <;> omega
          · rwa [show P.length + t - 1 - P.length = t - 1 by omega, show mid + (P.length + A.length) - 1 - (P.length + t - 1) - (P.length + A.length) = u by omega] at h
        exact C.trans _ _ _ (hA _ (dR i2)) (hA _ (dR (by omega))) (hB _ (dR j2)) (vT C hA hsA (show i ≤ t - 1 by omega) (by omega))
          (C.trans _ _ _ (hA _ (dR (by omega))) (hB _ (dR (by omega))) (hB _ (dR j2)) h3 (vT C hB hsB j1 j2))
    · obtain ⟨i, i1, i2, rfl⟩ := KC hx
      rcases List.mem_append.1 hy with hy | hy
      · obtain ⟨j, j1, j2, rfl⟩ := yM hy
        have h3 : le (B.getD (u - 1) default) (A.getD t default) := by
          have h0 : ¬ le (A.getD t default) (B.getD (u - 1) default) := by
            rcases s4 with h | h
            · rcases hhi with h' | h' <;> omega
            · rwa [show P.length + t - P.length = t by omega, show mid + (P.length + A.length) - 1 - (P.length + t) - (P.length + A.length) = u - 1 by omega] at h
          rcases C.total _ _ (hA _ (dR (show t < A.length by omega))) (hB _ (dR (show u - 1 < B.length by omega))) with h | h
          · exact absurd h h0
          · exact h
        exact C.trans _ _ _ (hB _ (dR i2)) (hB _ (dR (by omega))) (hA _ (dR j2)) (vT C hB hsB (show i ≤ u - 1 by omega) (by omega))
          (C.trans _ _ _ (hB _ (dR (by omega))) (hA _ (dR (by omega))) (hA _ (dR j2)) h3 (vT C hA hsA j1 j2))
      · obtain ⟨j, j1, j2, rfl⟩ := yM hy
        exact vT C hB hsB (by omega) j2
  · have h1 : decide (IntKind.i64.wrap (m - a) = 1) = false := by rw [wr (by omega) (by omega)]; simp; omega
    have h2 : decide (IntKind.i64.wrap (b - m) = 1) = false := by rw [wr (by omega) (by omega)]; simp; omega
    have s5' : lp (fun s : List α × Int × Int => qC cmp rec a m b (mid : Int) ((mid + (P.length + A.length) : Nat) : Int) ((mid + (P.length + A.length) - 1 : Nat) : Int) s.1 s.2.1 s.2.2) (P ++ A ++ B ++ S, (lo : Int), (hi : Int)) = some (P ++ A ++ B ++ S, ((P.length + t : Nat) : Int)) := s5
    have hp : IntKind.i64.wrap (((mid + (P.length + A.length) : Nat) : Int) - 1) = ((mid + (P.length + A.length) - 1 : Nat) : Int) := by rw [wr (by omega) (by omega)]; omega
    have he : IntKind.i64.wrap (((mid + (P.length + A.length) : Nat) : Int) - ((P.length + t : Nat) : Int)) = ((P.length + A.length + u : Nat) : Int) := by rw [wr (by omega) (by omega)]; omega
    simp only [eK, h1, cond_false, FZ, h2, hinit rec, BE, LL, hp, s5', Option.bind_some, LM, he]
    -- the turn
    have hd : P ++ A ++ B ++ S = (P ++ A.take t) ++ A.drop t ++ B.take u ++ (B.drop u ++ S) := by
      have : (P ++ A.take t) ++ A.drop t ++ B.take u ++ (B.drop u ++ S) = P ++ (A.take t ++ A.drop t) ++ (B.take u ++ B.drop u) ++ S := by simp only [List.append_assoc]
      rw [this, hAs, hBs]
    have hrot : cond (decide (((P.length + t : Nat) : Int) < m) && decide (m < ((P.length + A.length + u : Nat) : Int)))
        ((IK (P ++ A ++ B ++ S) ((P.length + t : Nat) : Int) m ((P.length + A.length + u : Nat) : Int) cmp).bind fun x10 => sN cmp rec x10 a b (mid : Int) ((P.length + t : Nat) : Int) ((P.length + A.length + u : Nat) : Int))
        (sN cmp rec (P ++ A ++ B ++ S) a b (mid : Int) ((P.length + t : Nat) : Int) ((P.length + A.length + u : Nat) : Int))
        = sN cmp rec (P ++ A.take t ++ B.take u ++ A.drop t ++ B.drop u ++ S) a b (mid : Int) ((P.length + t : Nat) : Int) ((P.length + A.length + u : Nat) : Int) := by
      by_cases hc : t < A.length ∧ 0 < u
      · have : (decide (((P.length + t : Nat) : Int) < m) && decide (m < ((P.length + A.length + u : Nat) : Int))) = true := by simp; omega
        rw [this, cond_true, aEV (Q := P ++ A.take t) (X := A.drop t) (Y := B.take u) (R := B.drop u ++ S) hd (fun h => by rw [h] at hlA2; simp at hlA2; omega) (fun h => by rw [h] at hlB1; simp at hlB1; omega)
          (by simp only [List.length_append, hlA1]) (by simp only [List.length_append, hlA1, hlA2]; rw [hm]; congr 1; omega) (by simp only [List.length_append, hlA1, hlA2, hlB1]; congr 1; omega) hl]
        simp
      · have : (decide (((P.length + t : Nat) : Int) < m) && decide (m < ((P.length + A.length + u : Nat) : Int))) = false := by
          rw [Bool.eq_false_iff]; intro h; simp at h; apply hc; omega
        rw [this, cond_false, hd]
        congr 1
        by_cases h0 : t < A.length
        · have : u = 0 := by omega
          subst this; simp
        · have hz : A.drop t = [] := List.drop_eq_nil_of_le (by omega)
          simp only [hz, List.append_nil, List.append_assoc, List.nil_append]
    rw [hrot]
    have hne1 : decide (A.take t ≠ [] ∧ B.take u ≠ []) = (decide (a < ((P.length + t : Nat) : Int)) && decide (((P.length + t : Nat) : Int) < (mid : Int))) := by
      have q1 : A.take t ≠ [] ↔ 0 < t := by rw [← List.length_pos_iff, hlA1]
      have q2 : B.take u ≠ [] ↔ 0 < u := by rw [← List.length_pos_iff, hlB1]
      rw [Bool.eq_iff_iff]; simp [q1, q2]; omega
    have hne2 : decide (A.drop t ≠ [] ∧ B.drop u ≠ []) = (decide ((mid : Int) < ((P.length + A.length + u : Nat) : Int)) && decide (((P.length + A.length + u : Nat) : Int) < b)) := by
      have q1 : A.drop t ≠ [] ↔ t < A.length := by rw [← List.length_pos_iff, hlA2]; omega
      have q2 : B.drop u ≠ [] ↔ u < B.length := by rw [← List.length_pos_iff, hlB2]; omega
      rw [Bool.eq_iff_iff]; simp [q1, q2]; omega
    rw [hne1, hne2, hlA1, hlB1, hlA2]
    have f1 : a + ((t : Nat) : Int) = ((P.length + t : Nat) : Int) := by omega
    have f2 : a + ((t + u : Nat) : Int) = (mid : Int) := by omega
    have f3 : a + ((t + u + (A.length - t) : Nat) : Int) = ((P.length + A.length + u : Nat) : Int) := by omega
    rw [f1, f2, f3]
    simp only [sN, FY]
    cases (decide (a < ((P.length + t : Nat) : Int)) && decide (((P.length + t : Nat) : Int) < (mid : Int))) <;> simp only [cond_true, cond_false, Option.bind_some, Option.bind_fun_some]

end sym
end Go.Abs
namespace Go.Abs
open Go
variable {α : Type} [Inhabited α] {ok : α → Prop} {le : α → α → Prop} {cmp : α → α → Option Int}
theorem aEB (C : Cmp ok le cmp) {P A B S : List α} {a m b : Int} (hA : A ≠ []) (hB : B ≠ []) (oA : Oks ok A) (oB : Oks ok B) (sA : Srt le A) (sB : Srt le B)
    (ha : a = (P.length : Nat)) (hm : m = ((P.length + A.length : Nat) : Int)) (hb : b = ((P.length + A.length + B.length : Nat) : Int)) (hl : (P ++ A ++ B ++ S).length ≤ 1099511627776) : aBd cmp le P A B S (P ++ A ++ B ++ S) a m b := by
  by_cases h1 : A.length = 1
  · obtain ⟨x, rfl⟩ := List.length_eq_one_iff.1 h1
    left
    obtain ⟨r, h, h'⟩ := aCR C (P := P) (S := S) (x := x) (oA x (by simp)) oB sB ha (by simpa using hm) (by simpa using hb) (by simpa using hl)
    exact ⟨r, h, fun rec => by have := h' rec; simpa using this⟩
  · by_cases h2 : B.length = 1
    · obtain ⟨x, rfl⟩ := List.length_eq_one_iff.1 h2
      left
      obtain ⟨r, h, h'⟩ := aDl C (P := P) (S := S) (x := x) (oB x (by simp)) oA sA h1 ha hm (by simpa using hb) (by simpa using hl)
      exact ⟨r, h, fun rec => by have := h' rec; simpa using this⟩
    · have p1 := List.length_pos_iff.2 hA
      have p2 := List.length_pos_iff.2 hB
      exact aEz C oA oB sA sB (by omega) (by omega) ha hm hb hl

theorem QD (C : Cmp ok le cmp) : ∀ (k : Nat) (P A B S : List α) (a m b : Int), A ≠ [] → B ≠ [] → Oks ok A → Oks ok B → Srt le A → Srt le B →
    a = (P.length : Nat) → m = ((P.length + A.length : Nat) : Int) → b = ((P.length + A.length + B.length : Nat) : Int) → (P ++ A ++ B ++ S).length ≤ 1099511627776 →
    (∀ r, eP cmp k (P ++ A ++ B ++ S) a m b = some r → RB le P A B S r) ∧ (A.length + B.length ≤ k → ∃ r, eP cmp k (P ++ A ++ B ++ S) a m b = some r)
  | 0, P, A, B, S, a, m, b, hA, hB, oA, oB, sA, sB, ha, hm, hb, hl => by
    refine ⟨fun r h => by simp [eP] at h, fun h => ?_⟩
    exact absurd (List.length_eq_zero_iff.1 (by omega)) hA
  | k + 1, P, A, B, S, a, m, b, hA, hB, oA, oB, sA, sB, ha, hm, hb, hl => by
    have part : ∀ (P' A' B' S' : List α) (a' m' b' : Int), Oks ok A' → Oks ok B' → Srt le A' → Srt le B' → a' = (P'.length : Nat) → m' = ((P'.length + A'.length : Nat) : Int) → b' = ((P'.length + A'.length + B'.length : Nat) : Int) → (P' ++ A' ++ B' ++ S').length ≤ 1099511627776 →
        (∀ r, cond (decide (A' ≠ [] ∧ B' ≠ [])) (eP cmp k (P' ++ A' ++ B' ++ S') a' m' b') (some (P' ++ A' ++ B' ++ S')) = some r → RB le P' A' B' S' r) ∧
        (A'.length + B'.length ≤ k → ∃ r, cond (decide (A' ≠ [] ∧ B' ≠ [])) (eP cmp k (P' ++ A' ++ B' ++ S') a' m' b') (some (P' ++ A' ++ B' ++ S')) = some r) := by
      intro P' A' B' S' a' m' b' oA' oB' sA' sB' ha' hm' hb' hl'
      by_cases h : A' ≠ [] ∧ B' ≠ []
      · rw [decide_eq_true h, cond_true]
        exact QD C k P' A' B' S' a' m' b' h.1 h.2 oA' oB' sA' sB' ha' hm' hb' hl'
      · rw [decide_eq_false h, cond_false]
        refine ⟨fun r hr => ?_, fun _ => ⟨_, rfl⟩⟩
        cases hr
        refine ⟨A' ++ B', List.Perm.refl _, ?_, by simp⟩
        by_cases h1 : A' = []
        · subst h1; simpa using sB'
        · have h2 : B' = [] := Classical.byContradiction fun h2 => h ⟨h1, h2⟩
          subst h2; simpa using sA'
    rcases aEB C hA hB oA oB sA sB ha hm hb hl with ⟨r, hr, hs⟩ | ⟨A1, A2, B1, B2, rfl, rfl, p1, p2, hcross, hs⟩
    · have e : eP cmp (k + 1) (P ++ A ++ B ++ S) a m b = some r := hs _
      exact ⟨fun r' h => by rw [e] at h; cases h; exact hr, fun _ => ⟨r, e⟩⟩
    · have e := hs (eP cmp k)
      rw [show eK cmp (eP cmp k) = eP cmp (k + 1) from rfl] at e
      have q1 := part P A1 B1 (A2 ++ B2 ++ S) a (a + (A1.length : Nat)) (a + ((A1.length + B1.length : Nat) : Int)) (fun x hx => oA x (by simp [hx])) (fun x hx => oB x (by simp [hx]))
        (List.pairwise_append.1 sA).1 (List.pairwise_append.1 sB).1 ha (by omega) (by omega) (by simp only [List.length_append] at hl ⊢; omega)
      have hd1 : P ++ A1 ++ B1 ++ A2 ++ B2 ++ S = P ++ A1 ++ B1 ++ (A2 ++ B2 ++ S) := by simp
      rw [hd1] at e
      have q2 : ∀ D1 : List α, D1.Perm (A1 ++ B1) → _ := fun D1 hD1 => part (P ++ D1) A2 B2 S (a + ((A1.length + B1.length : Nat) : Int)) (a + ((A1.length + B1.length + A2.length : Nat) : Int)) b (fun x hx => oA x (by simp [hx])) (fun x hx => oB x (by simp [hx]))
        (List.pairwise_append.1 sA).2.1 (List.pairwise_append.1 sB).2.1 (by have := hD1.length_eq; simp only [List.length_append] at this ⊢; omega) (by have := hD1.length_eq; simp only [List.length_append] at this ⊢; omega)
        (by have := hD1.length_eq; rw [hb]; simp only [List.length_append] at this ⊢; congr 1; omega) (by have := hD1.length_eq; simp only [List.length_append] at hl this ⊢; omega)
      refine ⟨fun r h => ?_, fun hk => ?_⟩
      · rw [e] at h
        obtain ⟨x, h1, h2⟩ := Option.bind_eq_some_iff.1 h
        obtain ⟨D1, d1, d2, rfl⟩ := q1.1 x h1
        have h2' : cond (decide (A2 ≠ [] ∧ B2 ≠ [])) (eP cmp k (P ++ D1 ++ A2 ++ B2 ++ S) (a + ((A1.length + B1.length : Nat) : Int)) (a + ((A1.length + B1.length + A2.length : Nat) : Int)) b) (some (P ++ D1 ++ A2 ++ B2 ++ S)) = some r := by
          have : P ++ D1 ++ (A2 ++ B2 ++ S) = P ++ D1 ++ A2 ++ B2 ++ S := by simp
          rw [this] at h2; exact h2
        obtain ⟨D2, f1, f2, rfl⟩ := (q2 D1 d1).1 r h2'
        refine ⟨D1 ++ D2, ?_, ?_, by simp⟩
        · refine (d1.append f1).trans ?_
          have : (B1 ++ (A2 ++ B2)).Perm (A2 ++ (B1 ++ B2)) := by
            have := (List.perm_append_comm (l₁ := B1) (l₂ := A2)).append_right B2
            simpa using this
          have := this.append_left A1
          simpa using this
        · rw [Srt, List.pairwise_append]
          exact ⟨d2, f2, fun x hx y hy => hcross x (d1.mem_iff.1 hx) y (f1.mem_iff.1 hy)⟩
      · simp only [List.length_append] at hk
        obtain ⟨x, hx⟩ := q1.2 (by omega)
        obtain ⟨D1, d1, d2, rfl⟩ := q1.1 x hx
        obtain ⟨r, hr⟩ := (q2 D1 d1).2 (by omega)
        refine ⟨r, ?_⟩
        rw [e, hx]
        have : P ++ D1 ++ (A2 ++ B2 ++ S) = P ++ D1 ++ A2 ++ B2 ++ S := by simp
        rw [this]; exact hr

theorem aBF {β : Type} {g : Nat → Option β} (h : ∃ k r, g k = some r) : ∃ r, QE g = some r := by
  unfold QE
  rw [dif_pos h]
  exact Classical.choose_spec h

theorem aCg (C : Cmp ok le cmp) {P A B S d : List α} {a m b : Int} (hd : d = P ++ A ++ B ++ S) (hA : A ≠ []) (hB : B ≠ []) (oA : Oks ok A) (oB : Oks ok B) (sA : Srt le A) (sB : Srt le B)
    (ha : a = (P.length : Nat)) (hm : m = ((P.length + A.length : Nat) : Int)) (hb : b = ((P.length + A.length + B.length : Nat) : Int)) (hl : d.length ≤ 1099511627776) :
    ∃ D, D.Perm (A ++ B) ∧ Srt le D ∧ qS d a m b cmp = some (P ++ D ++ S) := by
  subst hd
  unfold qS
  obtain ⟨r, hr⟩ := (QD C (A.length + B.length) P A B S a m b hA hB oA oB sA sB ha hm hb hl).2 (Nat.le_refl _)
  obtain ⟨r', hr'⟩ := aBF (g := fun k => eP cmp k (P ++ A ++ B ++ S) a m b) ⟨_, r, hr⟩
  obtain ⟨k, hk⟩ := ND hr'
  obtain ⟨D, d1, d2, rfl⟩ := (QD C k P A B S a m b hA hB oA oB sA sB ha hm hb hl).1 r' hk
  exact ⟨D, d1, d2, hr'⟩

inductive oL {β : Type} (le : β → β → Prop) (n : Nat) : List β → Prop
  | last {l : List β} : l.length ≤ n → Srt le l → oL le n l
  | cons {x l : List β} : x.length = n → Srt le x → oL le n l → oL le n (x ++ l)

theorem oL.srt {β : Type} {le : β → β → Prop} {n : Nat} {l : List β} (h : oL le n l) (hl : l.length ≤ n) : Srt le l := by
  cases h with
  | last _ h => exact h
  | cons hx hs hr =>
    rename_i x r
    have : r = [] := List.length_eq_zero_iff.1 (by simp only [List.length_append] at hl; omega)
    subst this; simpa using hs

theorem oL.split {β : Type} {le : β → β → Prop} {n : Nat} {l : List β} (h : oL le n l) (hl : n < l.length) : ∃ x r, l = x ++ r ∧ x.length = n ∧ Srt le x ∧ oL le n r := by
  cases h with
  | last h' _ => omega
  | cons hx hs hr => exact ⟨_, _, rfl, hx, hs, hr⟩

theorem oL.aEW {β : Type} {le : β → β → Prop} {n : Nat} {l : List β} (hn : 0 < n) (h : oL le n l) (hl : 2 * n ≤ l.length) : ∃ x y r, l = x ++ y ++ r ∧ x.length = n ∧ y.length = n ∧ Srt le x ∧ Srt le y ∧ oL le n r := by
  obtain ⟨x, r, rfl, h1, h2, h3⟩ := h.split (by omega)
  simp only [List.length_append] at hl
  by_cases he : r.length = n
  · exact ⟨x, r, [], by simp, h1, he, h2, h3.srt (by omega), oL.last (by simp) List.Pairwise.nil⟩
  · obtain ⟨y, r', rfl, e1, e2, e3⟩ := h3.split (by omega)
    exact ⟨x, y, r', by simp, h1, e1, h2, e2, e3⟩

theorem Oks.perm {β : Type} {ok : β → Prop} {l l' : List β} (h : Oks ok l) (hp : l'.Perm l) : Oks ok l' := fun x hx => h x (hp.mem_iff.1 hx)

theorem aEK (C : Cmp ok le cmp) {n1 : Int} : ∀ (n : Nat) (F G : List α), G.length ≤ n → Oks ok G → n1 = ((F.length + G.length : Nat) : Int) → (F ++ G).length ≤ 1099511627776 →
    ∃ G1 G2, (G1 ++ G2).Perm G ∧ G2.length < 20 ∧ (∀ H, H.length ≤ 20 → Srt le H → oL le 20 (G1 ++ H)) ∧
      lp (fun s : List α × Int × Int => nG cmp n1 20 s.1 s.2.1 s.2.2) (F ++ G, ((F.length : Nat) : Int), ((F.length + 20 : Nat) : Int)) = some (F ++ G1 ++ G2, ((F.length + G1.length : Nat) : Int)) := by
  intro n
  induction n with
  | zero =>
    intro F G hn hG h1 hl
    refine ⟨[], G, by simp, by omega, fun H h2 h3 => oL.last (by simpa using h2) (by simpa using h3), ?_⟩
    rw [cT (r := (F ++ G, ((F.length : Nat) : Int)))]
    · simp
    · have : decide (((F.length + 20 : Nat) : Int) ≤ n1) = false := by subst h1; simp; omega
      simp only [nG, this, cond_false]
  | succ n ih =>
    intro F G hn hG h1 hl
    by_cases hg : G.length < 20
    · refine ⟨[], G, by simp, by omega, fun H h2 h3 => oL.last (by simpa using h2) (by simpa using h3), ?_⟩
      rw [cT (r := (F ++ G, ((F.length : Nat) : Int)))]
      · simp
      · have : decide (((F.length + 20 : Nat) : Int) ≤ n1) = false := by subst h1; simp; omega
        simp only [nG, this, cond_false]
    · obtain ⟨X, R, rfl, hX⟩ : ∃ X R, G = X ++ R ∧ X.length = 20 := ⟨G.take 20, G.drop 20, (List.take_append_drop _ _).symm, by rw [List.length_take]; omega⟩
      simp only [List.length_append] at hn hl h1 hg
      obtain ⟨D, d1, d2, d3⟩ := aC1 C (P := F) (A := X) (T := R) (a := ((F.length : Nat) : Int)) (b := ((F.length + 20 : Nat) : Int)) rfl (by rw [hX]) (fun x hx => hG x (by simp [hx])) (by simp only [List.length_append]; omega)
      have hD : D.length = 20 := by rw [d1.length_eq, hX]
      obtain ⟨G1, G2, g1, g2, g3, g4⟩ := ih (F ++ D) R (by omega) (fun x hx => hG x (by simp [hx])) (by rw [h1]; simp only [List.length_append]; congr 1; omega) (by simp only [List.length_append]; omega)
      refine ⟨D ++ G1, G2, ?_, g2, fun H h2 h3 => ?_, ?_⟩
      · have := d1.append g1
        simpa using this
      · rw [List.append_assoc]; exact oL.cons hD d2 (g3 H h2 h3)
      · have hb : (fun s : List α × Int × Int => nG cmp n1 20 s.1 s.2.1 s.2.2) (F ++ (X ++ R), ((F.length : Nat) : Int), ((F.length + 20 : Nat) : Int)) = some (.inl (F ++ D ++ R, (((F ++ D).length : Nat) : Int), (((F ++ D).length + 20 : Nat) : Int))) := by
          show nG cmp n1 20 _ _ _ = _
          have : decide (((F.length + 20 : Nat) : Int) ≤ n1) = true := by subst h1; simp; omega
          simp only [nG, this, cond_true]
          rw [show F ++ (X ++ R) = F ++ X ++ R by simp, d3]
          simp only [Option.bind_some, List.length_append, hD]
          rw [wr (by omega) (by omega)]
          congr 1
        rw [dQ hb, g4]
        simp only [List.length_append, List.append_assoc]
        congr 2
        congr 1; omega

theorem aE1 (C : Cmp ok le cmp) {n1 : Int} {bs : Nat} (hbs : 0 < bs) (hbs' : bs ≤ 1099511627776) : ∀ (n : Nat) (F G : List α), G.length ≤ n → Oks ok G → oL le bs G → n1 = ((F.length + G.length : Nat) : Int) → (F ++ G).length ≤ 1099511627776 →
    ∃ G1 G2, (G1 ++ G2).Perm G ∧ G2.length < 2 * bs ∧ oL le bs G2 ∧ (∀ H, H.length ≤ 2 * bs → Srt le H → oL le (2 * bs) (G1 ++ H)) ∧
      lp (fun s : List α × Int × Int => nF cmp n1 (bs : Int) s.1 s.2.1 s.2.2) (F ++ G, ((F.length : Nat) : Int), ((F.length + 2 * bs : Nat) : Int)) = some (F ++ G1 ++ G2, ((F.length + G1.length : Nat) : Int)) := by
  have stop : ∀ (F G : List α), oL le bs G → G.length < 2 * bs → n1 = ((F.length + G.length : Nat) : Int) → ∃ G1 G2, (G1 ++ G2).Perm G ∧ G2.length < 2 * bs ∧ oL le bs G2 ∧ (∀ H, H.length ≤ 2 * bs → Srt le H → oL le (2 * bs) (G1 ++ H)) ∧
      lp (fun s : List α × Int × Int => nF cmp n1 (bs : Int) s.1 s.2.1 s.2.2) (F ++ G, ((F.length : Nat) : Int), ((F.length + 2 * bs : Nat) : Int)) = some (F ++ G1 ++ G2, ((F.length + G1.length : Nat) : Int)) := by
    intro F G hG hg h1
    refine ⟨[], G, by simp, hg, hG, fun H h2 h3 => oL.last (by simpa using h2) (by simpa using h3), ?_⟩
    rw [cT (r := (F ++ G, ((F.length : Nat) : Int)))]
    · simp
    · have : decide (((F.length + 2 * bs : Nat) : Int) ≤ n1) = false := by subst h1; simp; omega
      show nF cmp n1 _ _ _ _ = _
      simp only [nF, this, cond_false]
  intro n
  induction n with
  | zero => intro F G hn _ hB h1 _; exact stop F G hB (by omega) h1
  | succ n ih =>
    intro F G hn hG hB h1 hl
    by_cases hg : G.length < 2 * bs
    · exact stop F G hB hg h1
    · obtain ⟨x, y, R, rfl, x1, y1, sx, sy, hR⟩ := hB.aEW hbs (by omega)
      simp only [List.length_append] at hn hl h1 hg
      obtain ⟨D, d1, d2, d3⟩ := aCg C (P := F) (A := x) (B := y) (S := R) (d := F ++ (x ++ y ++ R)) (a := ((F.length : Nat) : Int)) (m := ((F.length + bs : Nat) : Int)) (b := ((F.length + 2 * bs : Nat) : Int)) (by simp) (fun h => by rw [h] at x1; simp at x1; omega) (fun h => by rw [h] at y1; simp at y1; omega)
        (fun z hz => hG z (by simp [hz])) (fun z hz => hG z (by simp [hz])) sx sy rfl (by rw [x1]) (by rw [x1, y1]; congr 1; omega) (by simp only [List.length_append]; omega)
      have hD : D.length = 2 * bs := by rw [d1.length_eq]; simp only [List.length_append]; omega
      obtain ⟨G1, G2, g1, g2, g3, g4, g5⟩ := ih (F ++ D) R (by omega) (fun z hz => hG z (by simp [hz])) hR (by rw [h1]; simp only [List.length_append]; congr 1; omega) (by simp only [List.length_append]; omega)
      refine ⟨D ++ G1, G2, ?_, g2, g3, fun H h2 h3 => ?_, ?_⟩
      · have := d1.append g1
        simpa using this
      · rw [List.append_assoc]; exact oL.cons hD d2 (g4 H h2 h3)
      · have hb : (fun s : List α × Int × Int => nF cmp n1 (bs : Int) s.1 s.2.1 s.2.2) (F ++ (x ++ y ++ R), ((F.length : Nat) : Int), ((F.length + 2 * bs : Nat) : Int)) = some (.inl (F ++ D ++ R, (((F ++ D).length : Nat) : Int), (((F ++ D).length + 2 * bs : Nat) : Int))) := by
          show nF cmp n1 _ _ _ _ = _
          have : decide (((F.length + 2 * bs : Nat) : Int) ≤ n1) = true := by subst h1; simp; omega
          have w1 : IntKind.i64.wrap (((F.length : Nat) : Int) + (bs : Int)) = ((F.length + bs : Nat) : Int) := by rw [wr (by omega) (by omega)]; omega
          have w2 : IntKind.i64.wrap (2 * (bs : Int)) = 2 * (bs : Int) := wr (by omega) (by omega)
          have w3 : IntKind.i64.wrap (((F.length + 2 * bs : Nat) : Int) + 2 * (bs : Int)) = ((F.length + 2 * bs + 2 * bs : Nat) : Int) := by rw [wr (by omega) (by omega)]; omega
          simp only [nF, this, cond_true, w1, w2, w3, d3, Option.bind_some, List.length_append, hD]
        rw [dQ hb, g5]
        simp only [List.length_append, List.append_assoc]
        congr 2
        congr 1; omega

theorem aBE (C : Cmp ok le cmp) {d : List α} {bs : Nat} (hbs : 0 < bs) (hbs' : bs < d.length) (ho : Oks ok d) (hB : oL le bs d) (hl : d.length ≤ 1099511627776) :
    ∃ r, r.Perm d ∧ oL le (2 * bs) r ∧ kJ cmp ((d.length : Nat) : Int) d (bs : Int) = some (.inl (r, ((2 * bs : Nat) : Int))) := by
  obtain ⟨G1, G2, g1, g2, g3, g4, g5⟩ := aE1 C (n1 := ((d.length : Nat) : Int)) hbs (by omega) d.length [] d (Nat.le_refl _) ho hB (by simp) (by simpa using hl)
  have hlen := g1.length_eq
  simp only [List.length_append] at hlen
  have w2 : IntKind.i64.wrap (2 * (bs : Int)) = ((2 * bs : Nat) : Int) := by rw [wr (by omega) (by omega)]; omega
  have w4 : IntKind.i64.wrap ((bs : Int) * 2) = ((2 * bs : Nat) : Int) := by rw [wr (by omega) (by omega)]; omega
  have hlt : decide ((bs : Int) < ((d.length : Nat) : Int)) = true := by simp; omega
  simp only [List.nil_append, List.length_nil, Nat.zero_add, Int.natCast_zero] at g5
  have w1 : IntKind.i64.wrap (((G1.length : Nat) : Int) + (bs : Int)) = ((G1.length + bs : Nat) : Int) := by rw [wr (by omega) (by omega)]; omega
  by_cases hg : bs < G2.length
  · obtain ⟨x, y, rfl, x1, sx, hy⟩ := g3.split hg
    simp only [List.length_append] at g2 hg hlen
    have sy : Srt le y := hy.srt (by omega)
    have og : Oks ok (G1 ++ (x ++ y)) := ho.perm g1
    obtain ⟨D, d1, d2, d3⟩ := aCg C (P := G1) (A := x) (B := y) (S := []) (d := G1 ++ (x ++ y)) (a := ((G1.length : Nat) : Int)) (m := ((G1.length + bs : Nat) : Int)) (b := ((d.length : Nat) : Int)) (by simp) (fun h => by rw [h] at x1; simp at x1; omega) (fun h => by rw [h] at hg; simp at hg; omega)
      (fun z hz => og z (by simp [hz])) (fun z hz => og z (by simp [hz])) sx sy rfl (by rw [x1]) (by congr 1; omega) (by simp only [List.length_append]; omega)
    refine ⟨G1 ++ D, ?_, ?_, ?_⟩
    · exact (d1.append_left G1).trans g1
    · exact g4 D (by rw [d1.length_eq]; simp only [List.length_append]; omega) d2
    · have hc : decide (((G1.length + bs : Nat) : Int) < ((d.length : Nat) : Int)) = true := by simp; omega
      simp only [kJ, hlt, cond_true, w2, AL, g5, Option.bind_some, AS, w1, hc, d3, FB, w4]
      simp
  · refine ⟨G1 ++ G2, g1, g4 G2 (by omega) (g3.srt (by omega)), ?_⟩
    have hc : decide (((G1.length + bs : Nat) : Int) < ((d.length : Nat) : Int)) = false := by simp; omega
    simp only [kJ, hlt, cond_true, w2, AL, g5, Option.bind_some, AS, w1, hc, cond_false, FB, w4]

theorem aCy (C : Cmp ok le cmp) : ∀ (n : Nat) (d : List α) (bs : Nat), d.length - bs ≤ n → 0 < bs → Oks ok d → oL le bs d → d.length ≤ 1099511627776 →
    ∃ r, r.Perm d ∧ Srt le r ∧ lp (fun s : List α × Int => kJ cmp ((d.length : Nat) : Int) s.1 s.2) (d, (bs : Int)) = some r := by
  have stop : ∀ (d : List α) (bs : Nat), d.length ≤ bs → oL le bs d → ∃ r, r.Perm d ∧ Srt le r ∧ lp (fun s : List α × Int => kJ cmp ((d.length : Nat) : Int) s.1 s.2) (d, (bs : Int)) = some r := by
    intro d bs h hB
    refine ⟨d, List.Perm.refl _, hB.srt h, cT ?_⟩
    show kJ cmp _ _ _ = _
    have : decide ((bs : Int) < ((d.length : Nat) : Int)) = false := by simp; omega
    simp only [kJ, this, cond_false]
  intro n
  induction n with
  | zero => intro d bs hn _ _ hB _; exact stop d bs (by omega) hB
  | succ n ih =>
    intro d bs hn hbs ho hB hl
    by_cases h : d.length ≤ bs
    · exact stop d bs h hB
    · obtain ⟨r, r1, r2, r3⟩ := aBE C hbs (by omega) ho hB hl
      obtain ⟨r', e1, e2, e3⟩ := ih r (2 * bs) (by rw [r1.length_eq]; omega) (by omega) (ho.perm r1) r2 (by rw [r1.length_eq]; exact hl)
      rw [r1.length_eq] at e3
      refine ⟨r', e1.trans r1, e2, ?_⟩
      rw [dQ (show (fun s : List α × Int => kJ cmp ((d.length : Nat) : Int) s.1 s.2) (d, (bs : Int)) = _ from r3)]
      exact e3

theorem UQ (C : Cmp ok le cmp) {d : List α} (ho : Oks ok d) (hl : d.length ≤ 1099511627776) : ∃ r, r.Perm d ∧ Srt le r ∧ CL d ((d.length : Nat) : Int) cmp = some r := by
  obtain ⟨G1, G2, g1, g2, g3, g4⟩ := aEK C (n1 := ((d.length : Nat) : Int)) d.length [] d (Nat.le_refl _) ho (by simp) (by simpa using hl)
  have hlen := g1.length_eq
  simp only [List.length_append] at hlen
  have og := ho.perm g1
  obtain ⟨D, d1, d2, d3⟩ := aC1 C (P := G1) (A := G2) (T := []) (a := ((G1.length : Nat) : Int)) (b := ((d.length : Nat) : Int)) rfl (by congr 1; omega) (fun z hz => og z (by simp [hz])) (by simp only [List.length_append, List.length_nil]; omega)
  have hp : (G1 ++ D).Perm d := (d1.append_left G1).trans g1
  obtain ⟨r, r1, r2, r3⟩ := aCy C (G1 ++ D).length (G1 ++ D) 20 (by omega) (by omega) (ho.perm hp) (g3 D (by rw [d1.length_eq]; omega) d2) (by rw [hp.length_eq]; exact hl)
  refine ⟨r, r1.trans hp, r2, ?_⟩
  simp only [List.nil_append, List.length_nil, Nat.zero_add, Int.natCast_zero] at g4
  unfold CL FI
  have g4' : lp (fun s : List α × Int × Int => nG cmp ((d.length : Nat) : Int) 20 s.1 s.2.1 s.2.2) (d, (0 : Int), (20 : Int)) = some (G1 ++ G2, ((G1.length : Nat) : Int)) := g4
  rw [g4']
  simp only [Option.bind_some, FF]
  rw [show G1 ++ G2 = G1 ++ G2 ++ [] by simp, d3]
  simp only [Option.bind_some, FA, List.append_nil]
  rw [hp.length_eq] at r3
  have r3' : lp (fun s : List α × Int => kJ cmp ((d.length : Nat) : Int) s.1 s.2) (G1 ++ D, (20 : Int)) = some r := r3
  rw [r3']; rfl

end Go.Abs
namespace Go.Abs
open Go
structure aFw where
  Kind : Int
  Input : Int
  Edges : (List aC)
  At : Int
  deriving Inhabited, DecidableEq

end Go.Abs
namespace Go.Abs
open Go
def FD (n : Int) : Bool := decide (n ≤ 1048576) && decide (-1048576 ≤ n)

theorem aBc (n : Int) : AP n = some (FD n) := rfl

def rT (last : Int) (j : aA) : Bool := decide (j.At ≤ last) || decide (1125899906842624 ≤ j.At) || decide (j.Net = 0) || !FD j.Net

def chk (last : Int) : List aA → Bool
  | [] => true
  | j :: r => !rT last j && chk j.At r

def fL (f : List aA) : Bool := decide (f.length ≤ 1024) && chk (-2) f

theorem XK {f : List aA} {i : Nat} {a : aA} {last : Int} (ha : f[i]? = some a) (hl : f.length < 4611686018427387904) :
    nH f (f.length : Nat) last i = some (if rT last a then .inr (.inr false) else .inl (a.At, ((i + 1 : Nat) : Int))) := by
  obtain ⟨d1, d2, d3, d4⟩ := idx ha hl
  simp only [nH, d1, cond_true, aX d2, d3, d4, aBc]
  unfold rT
  cases h : (decide (a.At ≤ last) || decide (1125899906842624 ≤ a.At) || decide (a.Net = 0)) <;> cases h2 : FD a.Net <;> simp [cP]

theorem YJ : ∀ (f : List aA) (last : Int), AW (fun last (j : aA) => some (if rT last j then .inr (.inr false) else .inl j.At)) (fun _ => (.inl () : Unit ⊕ Bool)) last f = some (if chk last f then .inl () else .inr false)
  | [], last => by simp [AW, chk]
  | j :: r, last => by
    cases h : rT last j
    · rw [aBm (s' := j.At) (by simp [h])]
      rw [YJ r j.At]
      simp [chk, h]
    · rw [aBz (x := .inr false) (by simp [h])]
      simp [chk, h]

theorem SK (f : List aA) : qN f = some (fL f) := by
  unfold qN fL
  by_cases hl : f.length ≤ 1024
  · have h1 : decide ((1024 : Int) < ((f.length : Nat) : Int)) = false := by simp; omega
    rw [h1, cond_false]
    unfold EV
    have key := aDs (l := f) (body := fun s : Int × Int => nH f (f.length : Nat) s.1 s.2) (fun last i => (last, i)) _ _
      (fun i a s ha => by
        constructor
        · intro s' hs
          show nH f (f.length : Nat) s i = _
          rw [XK ha (by omega)]
          split at hs <;> simp_all
        · intro x hs
          show nH f (f.length : Nat) s i = _
          rw [XK ha (by omega)]
          split at hs <;> simp_all)
      (fun s => by show nH f (f.length : Nat) s (f.length : Nat) = _; simp only [nH, cY, cond_false]) (YJ f (-2))
    rw [key]
    cases h : chk (-2) f <;> simp [AI, hl]
  · have h1 : decide ((1024 : Int) < ((f.length : Nat) : Int)) = true := by simp; omega
    rw [h1, cond_true]
    simp [hl]

theorem mL {last : Int} {j : aA} : rT last j = false ↔ last < j.At ∧ j.At < 1125899906842624 ∧ j.Net ≠ 0 ∧ j.Net ≤ 1048576 ∧ -1048576 ≤ j.Net := by
  simp [rT, FD]
  omega

def xF (last : Int) : List aA → Prop
  | [] => True
  | j :: r => (last < j.At ∧ j.At < 1125899906842624 ∧ j.Net ≠ 0 ∧ j.Net ≤ 1048576 ∧ -1048576 ≤ j.Net) ∧ xF j.At r

theorem aA2 : ∀ {f : List aA} {last : Int}, chk last f = true ↔ xF last f
  | [], last => by simp [chk, xF]
  | j :: r, last => by simp [chk, xF, mL, aA2]

theorem kK {f : List aA} : fL f = true ↔ f.length ≤ 1024 ∧ xF (-2) f := by simp [fL, aA2]

theorem xF.above : ∀ {f : List aA} {last : Int}, xF last f → ∀ j ∈ f, last < j.At ∧ j.At < 1125899906842624 ∧ j.Net ≠ 0 ∧ j.Net ≤ 1048576 ∧ -1048576 ≤ j.Net
  | [], _, _, j, hj => by simp at hj
  | a :: r, last, h, j, hj => by
    rcases List.mem_cons.1 hj with rfl | hj
    · exact h.1
    · have := h.2.above j hj
      have h1 := h.1.1
      exact ⟨by omega, this.2⟩

def val (f : List aA) (t : Int) : Int := (f.map fun j => if j.At ≤ t then j.Net else 0).sum

theorem qY (t : Int) : val [] t = 0 := rfl

theorem cK (j : aA) (r : List aA) (t : Int) : val (j :: r) t = (if j.At ≤ t then j.Net else 0) + val r t := by simp [val]

theorem DE (f g : List aA) (t : Int) : val (f ++ g) t = val f t + val g t := by simp [val]

theorem UY : ∀ {f : List aA} {b : Int} (t : Int), 0 ≤ b → (∀ j ∈ f, j.Net ≤ b ∧ -b ≤ j.Net) → val f t ≤ b * f.length ∧ -(b * f.length) ≤ val f t
  | [], b, t, _, _ => by simp [val]
  | j :: r, b, t, hb, h => by
    obtain ⟨h1, h2⟩ := UY t hb (fun k hk => h k (List.mem_cons_of_mem _ hk))
    have h3 := h j (List.mem_cons_self ..)
    rw [cK]
    simp only [List.length_cons, Int.natCast_add, Int.natCast_one, Int.mul_add, Int.mul_one]
    split <;> omega

theorem CR {f : List aA} {t : Int} (h : ∀ j ∈ f, t < j.At) : val f t = 0 := by
  induction f with
  | nil => rfl
  | cons j r ih =>
    rw [cK, ih (fun k hk => h k (List.mem_cons_of_mem _ hk))]
    have := h j (List.mem_cons_self ..)
    rw [if_neg (by omega)]; rfl

theorem aD7 (f : List aA) : xA f = some (if fL f then (f, 0) else ([], 7)) := by
  unfold xA
  rw [SK]
  cases h : fL f <;> simp

end Go.Abs
namespace Go.Abs
open Go
section both
variable {op : Int → Int → Option Int} {f g r : List aA} {out : List aA} {a b was t : Int} {j : aA}
end both
def emit (p v was : Int) : List aA := if v = was then [] else [⟨p, v - was⟩]

def vE (was : Int) : List (Int × Int) → List aA
  | [] => []
  | x :: r => emit x.1 x.2 was ++ vE x.2 r

def merge (f g : List aA) (a b : Int) : List (Int × Int × Int) :=
  match f, g with
  | [], [] => []
  | j :: f, [] => (j.At, a + j.Net, b) :: merge f [] (a + j.Net) b
  | [], k :: g => (k.At, a, b + k.Net) :: merge [] g a (b + k.Net)
  | j :: f, k :: g =>
    if j.At < k.At then (j.At, a + j.Net, b) :: merge f (k :: g) (a + j.Net) b
    else if k.At < j.At then (k.At, a, b + k.Net) :: merge (j :: f) g a (b + k.Net)
    else (j.At, a + j.Net, b + k.Net) :: merge f g (a + j.Net) (b + k.Net)

termination_by f.length + g.length
end Go.Abs
namespace Go.Abs
open Go
def comb (OP : Int → Int → Int) (f g : List aA) : List aA := vE 0 ((merge f g 0 0).map fun x => (x.1, OP x.2.1 x.2.2))

def told (f : List aA) : List aA × Int := if fL f then (f, 0) else ([], 7)

theorem aDO (f : List aA) : xA f = some (told f) := aD7 f

def two (OP : Int → Int → Int) (f g : List aA) : List aA × Int := if fL f && fL g then told (comb OP f g) else ([], 2)

end Go.Abs
namespace Go.Abs
open Go
theorem aDz (p v was t : Int) : val (emit p v was) t = if p ≤ t then v - was else 0 := by
  unfold emit
  by_cases h : v = was
  · rw [if_pos h, qY, h]; split <;> omega
  · rw [if_neg h, cK, qY]; simp

theorem xF.yQ {l t : Int} {f : List aA} (h : xF l f) (ht : t ≤ l) : val f t = 0 := CR fun j hj => by have := (h.above j hj).1; omega

end Go.Abs
namespace Go.Abs
open Go
def AQ (f : List aA) : Nat → Int
  | 0 => -2
  | k + 1 => (f.getD k default).At

theorem aAl {f : List aA} {i : Nat} {a : aA} {last : Int} (ha : f[i]? = some a) (hl : f.length ≤ 1024) (hlast : last = AQ f i) (hp : -2 ≤ last) (hp' : 0 < i → -1 ≤ last) :
    mF f i = some (if rT last a then .inr (.inr false) else .inl ((i + 1 : Nat) : Int)) := by
  obtain ⟨d1, d2, d3, d4⟩ := idx ha (by omega)
  have hlt : i < f.length := (List.getElem?_eq_some_iff.1 ha).1
  simp only [mF, d1, cond_true, d3, d4]
  rw [aX d2, aX (fun _ => d2), aX (fun _ => d2), aX (fun _ => d2), aX (fun _ => d2), aX (fun _ => d2)]
  cases i with
  | zero =>
    rw [aX (fun h => by simp at h)]
    have hm2 : last = -2 := hlast
    subst hm2
    by_cases hb : rT (-2) a = true
    · rw [if_pos hb]
      have hx : (((((decide (a.At < -1)) || (decide (1125899906842624 ≤ a.At))) || (decide (a.Net = 0))) || (decide (1048576 < a.Net))) || (decide (a.Net < -1048576))) = true := by
        simp [rT, FD] at hb ⊢; omega
      rw [hx, cond_true]
    · have hb' : rT (-2) a = false := by simpa using hb
      rw [if_neg hb]
      rw [mL] at hb'
      have hx : (((((decide (a.At < -1)) || (decide (1125899906842624 ≤ a.At))) || (decide (a.Net = 0))) || (decide (1048576 < a.Net))) || (decide (a.Net < -1048576))) = false := by
        simp; omega
      rw [hx, cond_false]
      simp
  | succ k =>
    have hw : IntKind.i64.wrap (((k + 1 : Nat) : Int) - 1) = (k : Int) := by rw [dW (by omega) (by omega)]; omega
    have hg : List.getD f (Int.toNat (k : Int)) default = f.getD k default := by rw [Int.toNat_natCast]
    rw [hw, hg, aX (fun _ => ⟨by omega, by omega⟩)]
    have hpos : decide ((0 : Int) < ((k + 1 : Nat) : Int)) = true := by simp
    have hp1 := hp' (by omega)
    have hl2 : (f.getD k default).At = last := hlast.symm
    rw [hpos, Bool.true_and, hl2]
    by_cases hb : rT last a = true
    · rw [if_pos hb]
      by_cases hx : (((((decide (a.At < -1)) || (decide (1125899906842624 ≤ a.At))) || (decide (a.Net = 0))) || (decide (1048576 < a.Net))) || (decide (a.Net < -1048576))) = true
      · rw [hx, cond_true]
      · have hx' : (((((decide (a.At < -1)) || (decide (1125899906842624 ≤ a.At))) || (decide (a.Net = 0))) || (decide (1048576 < a.Net))) || (decide (a.Net < -1048576))) = false := by simpa using hx
        have hy : decide (a.At ≤ last) = true := by
          simp [rT, FD] at hb hx' ⊢; omega
        rw [hx', cond_false, hy, cond_true]
    · have hb' : rT last a = false := by simpa using hb
      rw [if_neg hb]
      rw [mL] at hb'
      have hx : (((((decide (a.At < -1)) || (decide (1125899906842624 ≤ a.At))) || (decide (a.Net = 0))) || (decide (1048576 < a.Net))) || (decide (a.Net < -1048576))) = false := by
        simp; omega
      have hy : decide (a.At ≤ last) = false := by simp; omega
      rw [hx, cond_false, hy, cond_false]

theorem VL {f : List aA} (hl : f.length ≤ 1024) : ∀ (m k : Nat), f.length - k = m → k ≤ f.length → -2 ≤ AQ f k → (0 < k → -1 ≤ AQ f k) → lp (fun s => mF f s) (k : Int) = some (if chk (AQ f k) (f.drop k) = true then .inl () else .inr false)
  | 0, k, hm, hk, _, _ => by
    have : k = f.length := by omega
    subst this
    rw [List.drop_length]
    refine cT ?_
    show mF f _ = _
    simp [mF, chk]
  | m + 1, k, hm, hk, hp, hp' => by
    have h1 : k < f.length := by omega
    have hb := aAl (List.getElem?_eq_getElem h1) hl rfl hp hp'
    have e1 : f.drop k = f[k] :: f.drop (k + 1) := List.drop_eq_getElem_cons h1
    have hpa : AQ f (k + 1) = f[k].At := by simp [AQ, List.getD_eq_getElem?_getD, h1]
    rw [e1]
    by_cases h : rT (AQ f k) f[k] = true
    · rw [if_pos h] at hb
      rw [cT (show (fun s => mF f s) (k : Int) = _ from hb)]
      simp [chk, h]
    · rw [if_neg h] at hb
      have h' : rT (AQ f k) f[k] = false := by simpa using h
      have := mL.1 h'
      rw [dQ (show (fun s => mF f s) (k : Int) = _ from hb), VL hl m (k + 1) (by omega) (by omega) (by rw [hpa]; omega) (fun _ => by rw [hpa]; omega), hpa]
      simp [chk, h']

theorem HY (f : List aA) : pL f = some (fL f) := by
  unfold pL fL
  by_cases hl : f.length ≤ 1024
  · have h1 : decide ((1024 : Int) < ((f.length : Nat) : Int)) = false := by simp; omega
    rw [h1, cond_false]
    unfold CZ
    have := VL hl f.length 0 rfl (Nat.zero_le _) (by simp [AQ]) (by omega)
    simp only [Int.natCast_zero, List.drop_zero, AQ] at this
    rw [this]
    cases h : chk (-2) f <;> simp [xN, hl]
  · have h1 : decide ((1024 : Int) < ((f.length : Nat) : Int)) = true := by simp; omega
    rw [h1, cond_true]
    simp [hl]

end Go.Abs
namespace Go.Abs
open Go
def aBX (f : List aA) : Int := (f.map aA.Net).sum

def TL (t : Int) : List aA → List aA
  | [] => []
  | j :: r => if t ≤ j.At then [] else j :: TL t r

def aft (t : Int) : List aA → List aA
  | [] => []
  | j :: r => if t ≤ j.At then j :: r else aft t r

def aFc (t : Int) (f : List aA) : List aA := TL t f ++ (if aBX (TL t f) = 0 then [] else [⟨t, -aBX (TL t f)⟩])

def ahead (f : List aA) (t : Int) : List aA × Int :=
  if fL f then (if 1125899906842624 ≤ t then (f, 0) else told (aFc t f)) else ([], 2)

end Go.Abs
namespace Go.Abs
open Go
def aFp (t : Int) (f : List aA) : List aA := (if aBX (TL t f) = 0 then [] else [⟨-1, aBX (TL t f)⟩]) ++ aft t f

def rest (f : List aA) (t : Int) : List aA × Int :=
  if fL f then (if 1125899906842624 ≤ t then ([], 0) else if t ≤ -1 then (f, 0) else told (aFp t f)) else ([], 2)

end Go.Abs
namespace Go.Abs
open Go
def Up (last : Int) : List aA → Prop
  | [] => True
  | j :: r => (last < j.At ∧ j.At < 1125899906842624 ∧ j.Net ≠ 0) ∧ Up j.At r

theorem Up.above : ∀ {f : List aA} {last : Int}, Up last f → ∀ j ∈ f, last < j.At ∧ j.At < 1125899906842624 ∧ j.Net ≠ 0
  | [], _, _, j, hj => by simp at hj
  | a :: r, last, h, j, hj => by
    rcases List.mem_cons.1 hj with rfl | hj
    · exact h.1
    · have := h.2.above j hj
      have h1 := h.1.1
      exact ⟨by omega, this.2⟩

theorem Up.yQ {l t : Int} {f : List aA} (h : Up l f) (ht : t ≤ l) : val f t = 0 := CR fun j hj => by have := (h.above j hj).1; omega

theorem Up.weaken {a b : Int} {f : List aA} (h : Up b f) (hab : a ≤ b) : Up a f := by
  cases f with
  | nil => trivial
  | cons j r => exact ⟨⟨by have := h.1.1; omega, h.1.2⟩, h.2⟩

theorem xF.up : ∀ {f : List aA} {last : Int}, xF last f → Up last f
  | [], _, _ => trivial
  | _ :: _, _, h => ⟨⟨h.1.1, h.1.2.1, h.1.2.2.1⟩, h.2.up⟩

theorem Up.ext : ∀ {f g : List aA} {last : Int}, Up last f → Up last g → (∀ t, last < t → t < 1125899906842624 → val f t = val g t) → f = g
  | [], [], _, _, _, _ => rfl
  | j :: r, [], last, hf, _, h => by
    have := h j.At hf.1.1 hf.1.2.1
    rw [cK, if_pos (Int.le_refl _), hf.2.yQ (Int.le_refl _), qY] at this
    exact absurd (by omega) hf.1.2.2
  | [], k :: s, last, _, hg, h => by
    have := h k.At hg.1.1 hg.1.2.1
    rw [cK, if_pos (Int.le_refl _), hg.2.yQ (Int.le_refl _), qY] at this
    exact absurd (by omega) hg.1.2.2
  | j :: r, k :: s, last, hf, hg, h => by
    have h1 := h j.At hf.1.1 hf.1.2.1
    have h2 := h k.At hg.1.1 hg.1.2.1
    rw [cK, if_pos (Int.le_refl _), hf.2.yQ (Int.le_refl _), cK] at h1
    rw [cK, cK k, if_pos (Int.le_refl _), hg.2.yQ (Int.le_refl _)] at h2
    have n1 := hf.1.2.2
    have n2 := hg.1.2.2
    have he : j.At = k.At := by
      rcases Int.lt_trichotomy j.At k.At with h3 | h3 | h3
      · rw [if_neg (by omega), hg.2.yQ (by omega)] at h1; omega
      · exact h3
      · rw [if_neg (by omega), hf.2.yQ (by omega)] at h2; omega
    rw [if_pos (by omega), hg.2.yQ (by omega)] at h1
    have hj : j = k := by
      obtain ⟨a, b⟩ := j; obtain ⟨c, d⟩ := k
      simp only at he h1
      simp only [Int.add_zero] at h1
      rw [he, h1]
    subst hj
    rw [hf.2.ext hg.2 (fun t ht ht' => by
      have := h t (by have := hf.1.1; omega) ht'
      rw [cK, cK] at this; omega)]

def Inc (last : Int) : List Int → Prop
  | [] => True
  | p :: r => (last < p ∧ p < 1125899906842624) ∧ Inc p r

theorem Inc.above : ∀ {ps : List Int} {last : Int}, Inc last ps → ∀ p ∈ ps, last < p ∧ p < 1125899906842624
  | [], _, _, j, hj => by simp at hj
  | a :: r, last, h, j, hj => by
    rcases List.mem_cons.1 hj with rfl | hj
    · exact h.1
    · have := h.2.above j hj
      have h1 := h.1.1
      exact ⟨by omega, this.2⟩

theorem JY : ∀ {l : List (Int × Int)} {last was : Int}, Inc last (l.map Prod.fst) → Up last (vE was l)
  | [], _, _, _ => trivial
  | x :: r, last, was, h => by
    simp only [vE]
    have ih : Up x.1 (vE x.2 r) := JY h.2
    have h1 : last < x.1 ∧ x.1 < 1125899906842624 := h.1
    unfold emit
    split
    · exact ih.weaken (by omega)
    · exact ⟨⟨h1.1, h1.2, by simp only; omega⟩, ih⟩

theorem NR {F : Int → Int} : ∀ {ps : List Int} {last : Int}, Inc last ps → (∀ s t, last ≤ s → s ≤ t → t < 1125899906842624 → (∀ p ∈ ps, ¬ (s < p ∧ p ≤ t)) → F s = F t) →
    ∀ t, last ≤ t → t < 1125899906842624 → val (vE (F last) (ps.map fun p => (p, F p))) t = F t - F last
  | [], last, _, hF, t, h1, h2 => by
    have := hF last t (Int.le_refl _) h1 h2 (by simp)
    simp [vE, val, this]
  | p :: r, last, hi, hF, t, h1, h2 => by
    simp only [List.map_cons, vE]
    rw [DE, aDz]
    by_cases hp : p ≤ t
    · rw [if_pos hp, NR (F := F) hi.2 (fun s t' hs hst ht' hn => hF s t' (by have := hi.1.1; omega) hst ht' (fun q hq => by
        rcases List.mem_cons.1 hq with rfl | hq
        · omega
        · exact hn q hq)) t hp h2]
      omega
    · have := hF last t (Int.le_refl _) h1 h2 (fun q hq => by
        rcases List.mem_cons.1 hq with rfl | hq
        · omega
        · have := (hi.2.above q hq).1; omega)
      rw [if_neg hp, Up.yQ (JY (last := p) (by rw [List.map_map]; simpa [Function.comp_def] using hi.2)) (by omega)]
      omega

theorem aFf {f : List aA} (h : fL f = true) : Up (-2) f := (kK.1 h).2.up

theorem aC7 {F : Int → Int} (h2 : F (-2) = 0) {ps : List Int} (hi : Inc (-2) ps) (hF : ∀ s t, -2 ≤ s → s ≤ t → t < 1125899906842624 → (∀ p ∈ ps, ¬ (s < p ∧ p ≤ t)) → F s = F t) {h : List aA} (hh : Up (-2) h) (hv : ∀ t, -2 < t → t < 1125899906842624 → val h t = F t) :
    vE 0 (ps.map fun p => (p, F p)) = h := by
  refine (JY (by rw [List.map_map]; simpa [Function.comp_def] using hi)).ext hh fun t h3 h4 => ?_
  have := NR hi hF t (by omega) h4
  rw [h2] at this
  rw [this, hv t h3 h4]; omega

end Go.Abs
namespace Go.Abs
open Go
theorem OK {f : List aA} (t : Int) (hb : ∀ j ∈ f, j.Net ≤ 1048576 ∧ -1048576 ≤ j.Net) (hl : f.length ≤ 1099511627776) : mH f t = some (val f t) := by
  unfold mH zE
  rw [iN (l := f) (body := fun s : Int × Int => jW f t s.1 s.2) (fun v i => (v, i)) (fun v r => v + val r t)
    (fun v r => (∀ j ∈ r, j.Net ≤ 1048576 ∧ -1048576 ≤ j.Net) ∧ r.length ≤ 1099511627776 ∧ v ≤ 1048576 * (1099511627776 - r.length) ∧ -(1048576 * (1099511627776 - r.length)) ≤ v) 0 ?_ ?_ ?_]
  · simp [uT]
  · intro i a r v ha ⟨h1, h2, h3, h4⟩
    obtain ⟨d1, d2, d3, d4⟩ := idx ha (by omega)
    have hj := h1 a (List.mem_cons_self ..)
    simp only [List.length_cons] at h2 h3 h4
    left
    by_cases h : a.At ≤ t
    · refine ⟨v + a.Net, ?_, ⟨fun j hj => h1 j (List.mem_cons_of_mem _ hj), by omega, by omega, by omega⟩, ?_⟩
      · show jW f t v i = _
        have hw : IntKind.i64.wrap (v + a.Net) = v + a.Net := dW (by omega) (by omega)
        simp only [jW, rA, d1, cond_true, aX d2, d3, d4, h, decide_true, hw]
      · show v + a.Net + val r t = v + val (a :: r) t
        rw [cK, if_pos h]; omega
    · refine ⟨v, ?_, ⟨fun j hj => h1 j (List.mem_cons_of_mem _ hj), by omega, by omega, by omega⟩, ?_⟩
      · show jW f t v i = _
        simp only [jW, rA, d1, cond_true, aX d2, d3, d4, h, decide_false, cond_false]
      · show v + val r t = v + val (a :: r) t
        rw [cK, if_neg h]; omega
  · intro s _
    show jW f t s (f.length : Nat) = _
    simp only [jW, cY, cond_false]
    simp [val]
  · exact ⟨hb, hl, by omega, by omega⟩

theorem CG {f : List aA} (h : fL f = true) : ∀ j ∈ f, j.Net ≤ 1048576 ∧ -1048576 ≤ j.Net := fun j hj => by have := (kK.1 h).2.above j hj; omega

theorem MA {f : List aA} (h : fL f = true) (t : Int) : mH f t = some (val f t) :=
  OK t (CG h) (by have := (kK.1 h).1; omega)

def pG (t : Int) : List Int → List Int
  | [] => [t]
  | p :: r => if p = t then p :: r else if t < p then t :: p :: r else p :: pG t r

theorem UL {t x : Int} : ∀ {ps : List Int}, x ∈ pG t ps ↔ x = t ∨ x ∈ ps
  | [] => by simp [pG]
  | p :: r => by
    unfold pG
    split
    · rename_i h; subst h; simp
    · split
      · simp
      · simp only [List.mem_cons, UL (ps := r)]; constructor <;> (intro h; rcases h with h | h | h <;> simp [h])

theorem MQ {t : Int} : ∀ {ps : List Int} {last : Int}, Inc last ps → last < t → t < 1125899906842624 → Inc last (pG t ps)
  | [], last, _, h1, h2 => ⟨⟨h1, h2⟩, trivial⟩
  | p :: r, last, h, h1, h2 => by
    unfold pG
    split
    · exact h
    · split
      · rename_i h3 h4
        exact ⟨⟨h1, h2⟩, ⟨h4, h.1.2⟩, h.2⟩
      · exact ⟨h.1, MQ h.2 (by omega) h2⟩

theorem MG {t : Int} : ∀ {ps : List Int}, (pG t ps).length ≤ ps.length + 1
  | [] => by simp [pG]
  | p :: r => by
    unfold pG
    split
    · simp
    · split
      · simp
      · simp only [List.length_cons]; have := MG (t := t) (ps := r); omega

theorem NU {t : Int} : ∀ {ps : List Int}, (∀ x ∈ ps, x < t) → pG t ps = ps ++ [t]
  | [], _ => rfl
  | p :: r, h => by
    have := h p (List.mem_cons_self ..)
    unfold pG
    rw [if_neg (by omega), if_neg (by omega), NU (fun x hx => h x (List.mem_cons_of_mem _ hx))]; rfl

theorem RW {t : Int} : ∀ {ps : List Int} {last : Int}, Inc last ps → t ∈ ps → pG t ps = ps
  | [], _, _, h => by simp at h
  | p :: r, last, hi, h => by
    unfold pG
    split
    · rfl
    · rename_i hp
      rcases List.mem_cons.1 h with h | h
      · exact absurd h.symm hp
      · have := (hi.2.above t h).1
        rw [if_neg (by omega), RW hi.2 h]

theorem aCi {l out : List Int} {t a : Int} {put : Bool} {i : Nat} (ha : l[i]? = some a) (hl : l.length ≤ 1099511627776) (ho : out.length ≤ 2199023255552) :
    iI l t out put i = some (if a = t then .inr (.inr l) else if t < a ∧ put = false then .inl (out ++ [t] ++ [a], true, ((i + 1 : Nat) : Int)) else .inl (out ++ [a], put, ((i + 1 : Nat) : Int))) := by
  obtain ⟨d1, d2, d3, d4⟩ := idx ha (by omega)
  simp only [iI, wU, d1, cond_true, aX d2, d3, d4]
  by_cases h1 : a = t
  · simp [h1]
  · rw [decide_eq_false h1, cond_false, if_neg h1]
    by_cases h2 : t < a
    · cases put
      · simp only [h2, decide_true, Bool.not_false, Bool.and_self, cond_true, and_self, if_true]
        rw [aX (by simp only [List.length_cons, List.length_nil]; omega), aX (by simp only [List.length_append, List.length_cons, List.length_nil]; omega)]
      · simp only [h2, decide_true, Bool.not_true, Bool.and_false, cond_false, and_false, if_false, reduceCtorEq]
        rw [aX (by simp only [List.length_cons, List.length_nil]; omega)]
    · simp only [h2, decide_false, Bool.false_and, cond_false, false_and, if_false]
      rw [aX (by simp only [List.length_cons, List.length_nil]; omega)]

theorem aEh {l : List Int} {last t : Int} (hi : Inc last l) (hl : l.length ≤ 1099511627776) : uE l t = some (pG t l) := by
  unfold uE AX
  rw [iN (l := l) (body := fun s : List Int × Bool × Int => iI l t s.1 s.2.1 s.2.2) (fun (s : List Int × Bool) i => (s.1, s.2, i))
    (fun s r => if s.2 then .inl (s.1 ++ r, true) else if t ∈ r then .inr l else if (∃ x ∈ r, t < x) then .inl (s.1 ++ pG t r, true) else .inl (s.1 ++ r, false))
    (fun s r => (∃ m, Inc m r) ∧ (s.2 = true → ∀ x ∈ r, t < x) ∧ r.length ≤ 1099511627776 ∧ s.1.length + r.length ≤ 1099511627777 + (if s.2 then 1 else 0)) ([], false) ?_ ?_ ?_]
  · simp only [Bool.false_eq_true, if_false, List.nil_append, Option.bind_some]
    by_cases h1 : t ∈ l
    · simp [h1, RW hi h1]
    · simp only [h1, if_false]
      by_cases h2 : ∃ x ∈ l, t < x
      · simp only [h2, if_true]
        simp [sJ, sG]
      · simp only [h2, if_false]
        have : ∀ x ∈ l, x < t := fun x hx => by
          have h3 : ¬ t < x := fun h => h2 ⟨x, hx, h⟩
          have h4 : x ≠ t := fun h => h1 (h ▸ hx)
          omega
        rw [NU this]
        simp only [Sum.elim_inl, sJ, sG, Bool.not_false, cond_true]
        rw [aX (by simp only [List.length_cons, List.length_nil]; omega)]
  · rintro i a r ⟨out, put⟩ ha ⟨⟨m, hm⟩, h1, h2, h3⟩
    simp only [List.length_cons] at h2 h3
    have hb := aCi (t := t) (put := put) (out := out) ha hl (by split at h3 <;> omega)
    have hab : ∀ x ∈ r, a < x := fun x hx => (hm.2.above x hx).1
    cases put
    · by_cases e : a = t
      · right
        show iI l t out false i = _
        rw [hb]; simp [e]
      · left
        by_cases e2 : t < a
        · have hnt : t ∉ a :: r := fun h => by
            rcases List.mem_cons.1 h with h | h
            · exact e h.symm
            · have := hab t h; omega
          refine ⟨(out ++ [t] ++ [a], true), ?_, ⟨⟨a, hm.2⟩, fun _ x hx => by have := hab x hx; omega, by omega, by simp only [List.length_append, List.length_cons, List.length_nil, Bool.false_eq_true, if_false, if_true] at h3 ⊢; omega⟩, ?_⟩
          · show iI l t out false i = _
            rw [hb]; simp [e, e2]
          · have hex : ∃ x ∈ a :: r, t < x := ⟨a, List.mem_cons_self .., e2⟩
            simp only [if_true, Bool.false_eq_true, if_false, hnt, hex]
            simp [pG, e, e2]
        · refine ⟨(out ++ [a], false), ?_, ⟨⟨a, hm.2⟩, fun h => absurd h (by simp), by omega, by simp only [List.length_append, List.length_cons, List.length_nil, Bool.false_eq_true, if_false] at h3 ⊢; omega⟩, ?_⟩
          · show iI l t out false i = _
            rw [hb]; simp [e, e2]
          · have i1 : (t ∈ a :: r) ↔ t ∈ r := by simp only [List.mem_cons]; constructor; (intro h; rcases h with h | h; exact absurd h.symm e; exact h); exact Or.inr
            have i2 : (∃ x ∈ a :: r, t < x) ↔ (∃ x ∈ r, t < x) := by
              constructor
              · rintro ⟨x, hx, hx'⟩
                rcases List.mem_cons.1 hx with rfl | hx
                · exact absurd hx' e2
                · exact ⟨x, hx, hx'⟩
              · rintro ⟨x, hx, hx'⟩; exact ⟨x, List.mem_cons_of_mem _ hx, hx'⟩
            simp only [Bool.false_eq_true, if_false, i1, i2]
            simp [pG, e, e2]
    · left
      have ht := h1 rfl a (List.mem_cons_self ..)
      refine ⟨(out ++ [a], true), ?_, ⟨⟨a, hm.2⟩, fun _ x hx => h1 rfl x (List.mem_cons_of_mem _ hx), by omega, by simp only [List.length_append, List.length_cons, List.length_nil, if_true] at h3 ⊢; omega⟩, ?_⟩
      · show iI l t out true i = _
        have : a ≠ t := by omega
        rw [hb]; simp [this]
      · simp
  · rintro ⟨out, put⟩ _
    show iI l t out put (l.length : Nat) = _
    simp only [iI, cY, cond_false]
    cases put <;> simp
  · exact ⟨⟨last, hi⟩, fun h => absurd h (by simp), hl, by simp only [List.length_nil]; simp; omega⟩

def EO (ps : List Int) (f : List aA) : List Int := f.foldl (fun ps j => pG j.At ps) ps

theorem PU {x : Int} : ∀ {f : List aA} {ps : List Int}, x ∈ EO ps f ↔ x ∈ ps ∨ ∃ j ∈ f, j.At = x
  | [], ps => by simp [EO]
  | k :: r, ps => by
    have := PU (x := x) (f := r) (ps := pG k.At ps)
    unfold EO at this ⊢
    rw [List.foldl_cons, this, UL]
    constructor
    · rintro ((h | h) | ⟨j, h, h'⟩)
      · exact Or.inr ⟨k, List.mem_cons_self .., h.symm⟩
      · exact Or.inl h
      · exact Or.inr ⟨j, List.mem_cons_of_mem _ h, h'⟩
    · rintro (h | ⟨j, h, h'⟩)
      · exact Or.inl (Or.inr h)
      · rcases List.mem_cons.1 h with rfl | h
        · exact Or.inl (Or.inl h'.symm)
        · exact Or.inr ⟨j, h, h'⟩

theorem YE : ∀ {f : List aA} {ps : List Int} {last : Int}, Inc last ps → (∀ j ∈ f, last < j.At ∧ j.At < 1125899906842624) → Inc last (EO ps f)
  | [], _, _, h, _ => h
  | k :: r, ps, last, h, hf => by
    have hk := hf k (List.mem_cons_self ..)
    exact YE (f := r) (MQ h hk.1 hk.2) fun j hj => hf j (List.mem_cons_of_mem _ hj)

theorem XG : ∀ {f : List aA} {ps : List Int}, (EO ps f).length ≤ ps.length + f.length
  | [], ps => by simp [EO]
  | k :: r, ps => by
    have := XG (f := r) (ps := pG k.At ps)
    have h2 := MG (t := k.At) (ps := ps)
    unfold EO at this ⊢
    rw [List.foldl_cons]; simp only [List.length_cons]; omega

theorem aBN {ps : List Int} {F : Int → Int} (hl : ps.length ≤ 1099511627776) (hb : ∀ p ∈ ps, -2305843009213693952 ≤ F p ∧ F p ≤ 2305843009213693952) :
    yR ps (ps.map F) = some (told (vE 0 (ps.map fun p => (p, F p)))) := by
  unfold yR BJ
  rw [iN (l := ps) (body := fun s : List aA × Int × Int => nX ps (ps.map F) s.1 s.2.1 s.2.2) (fun (s : List aA × Int) i => (s.1, s.2, i))
    (fun s r => s.1 ++ vE s.2 (r.map fun p => (p, F p))) (fun s r => (∀ p ∈ r, -2305843009213693952 ≤ F p ∧ F p ≤ 2305843009213693952) ∧ (-2305843009213693952 ≤ s.2 ∧ s.2 ≤ 2305843009213693952) ∧ s.1.length + r.length ≤ 1099511627776) ([], 0) ?_ ?_ ?_]
  · simp only [List.nil_append, Option.bind_some, wS, HY, told]
    cases h : fL (vE 0 (ps.map fun p => (p, F p))) <;> simp
  · rintro i a r ⟨out, was⟩ ha ⟨h1, h2, h3⟩
    simp only [List.length_cons] at h2 h3
    obtain ⟨d1, d2, d3, d4⟩ := idx ha (by omega)
    have ha' : (ps.map F)[i]? = some (F a) := by rw [List.getElem?_map, ha]; rfl
    obtain ⟨_, e2, e3, _⟩ := idx ha' (by rw [List.length_map]; omega)
    have hF := h1 a (List.mem_cons_self ..)
    left
    refine ⟨(out ++ emit a (F a) was, F a), ?_, ⟨fun p hp => h1 p (List.mem_cons_of_mem _ hp), hF, ?_⟩, ?_⟩
    · show nX ps (ps.map F) out was i = _
      have hw : IntKind.i64.wrap (F a - was) = F a - was := dW (by omega) (by omega)
      simp only [nX, wQ, d1, cond_true, aX d2, aX e2, e3, d3, d4, hw]
      unfold emit
      by_cases h : F a = was
      · simp [h]
      · simp only [h, decide_false, Bool.not_false, cond_true, if_false]
        rw [aX (by simp only [List.length_cons, List.length_nil]; omega)]
    · have : (emit a (F a) was).length ≤ 1 := by unfold emit; split <;> simp
      simp only [List.length_append]; omega
    · simp [vE]
  · rintro ⟨out, was⟩ _
    show nX ps (ps.map F) out was (ps.length : Nat) = _
    simp only [nX, cY, cond_false]
    simp [vE]
  · exact ⟨hb, ⟨by omega, by omega⟩, by simp only [List.length_nil]; omega⟩

theorem aAq {ps : List Int} {F : Int → Int} {body : List Int × Int → Option ((List Int × Int) ⊕ List Int)} (hb : ∀ (i : Nat) a vs, ps[i]? = some a → a ∈ ps → vs.length ≤ 1099511627776 → body (vs, (i : Int)) = some (.inl (vs ++ [F a], ((i + 1 : Nat) : Int))))
    (he : ∀ vs, body (vs, (ps.length : Nat)) = some (.inr vs)) (hl : ps.length ≤ 1099511627776) : lp body ([], 0) = some (ps.map F) := by
  rw [iN (l := ps) (fun vs i => (vs, i)) (fun vs r => vs ++ r.map F) (fun vs r => vs.length + r.length ≤ 1099511627776) [] ?_ ?_ (by simpa using hl)]
  · simp
  · rintro i a r vs ha h1
    simp only [List.length_cons] at h1
    left
    refine ⟨vs ++ [F a], hb i a vs ha (List.mem_of_getElem? ha) (by omega), by simp only [List.length_append, List.length_cons, List.length_nil]; omega, by simp⟩
  · intro vs _; simpa using he vs

end Go.Abs
namespace Go.Abs
open Go
def mn (a b : Int) : Int := if b < a then b else a

def parts (v : Int) : List aA → List Int
  | [] => []
  | j :: r => (v + j.Net) :: parts (v + j.Net) r

def tA (f : List aA) : Int := (f.map fun j => val f j.At).foldl mn (val f (-1))

theorem parts_eq : ∀ {f : List aA} {l v : Int}, xF l f → parts v f = f.map fun j => v + val f j.At
  | [], _, _, _ => rfl
  | j :: r, l, v, h => by
    simp only [parts, List.map_cons]
    rw [parts_eq h.2, cK, if_pos (Int.le_refl _), h.2.yQ (Int.le_refl _), Int.add_zero]
    congr 1
    apply List.map_congr_left
    intro k hk
    have := (h.2.above k hk).1
    rw [cK, if_pos (by omega)]; omega

theorem aB7 {j : aA} {r : List aA} (h : xF (-2) (j :: r)) : val (j :: r) (-1) = if j.At = -1 then j.Net else 0 := by
  have := h.1.1
  by_cases e : j.At = -1
  · rw [if_pos e, cK, if_pos (by omega), h.2.yQ (by omega)]; omega
  · rw [if_neg e, CR]
    intro k hk
    rcases List.mem_cons.1 hk with rfl | hk
    · omega
    · have := (h.2.above k hk).1; omega

theorem RQ {f : List aA} (hf : fL f = true) (m : Int) (hm : -1125899906842624 ≤ m ∧ m ≤ 1125899906842624) : vR 0 m f (f.length : Nat) 0 = some ((f.map fun j => val f j.At).foldl mn m) := by
  obtain ⟨hl, hr⟩ := kK.1 hf
  unfold vR
  rw [iN (l := f) (body := fun s : Int × Int × Int => nU f (f.length : Nat) s.1 s.2.1 s.2.2) (fun (s : Int × Int) i => (s.1, s.2, i)) (fun s r => (parts s.1 r).foldl mn s.2)
    (fun s r => (∀ j ∈ r, j.Net ≤ 1048576 ∧ -1048576 ≤ j.Net) ∧ r.length ≤ 1024 ∧ s.1 ≤ 1048576 * (1024 - r.length) ∧ -(1048576 * (1024 - r.length)) ≤ s.1) (0, m) ?_ ?_ ?_]
  · simp only [Option.bind_some, wE, parts_eq hr, Int.zero_add]
  · rintro i a r ⟨v, m⟩ ha ⟨h1, h2, h3, h4⟩
    obtain ⟨d1, d2, d3, d4⟩ := idx ha (by omega)
    have hj := h1 a (List.mem_cons_self ..)
    simp only [List.length_cons] at h2 h3 h4
    have hw : IntKind.i64.wrap (v + a.Net) = v + a.Net := dW (by omega) (by omega)
    left
    refine ⟨(v + a.Net, mn m (v + a.Net)), ?_, ⟨fun j hj => h1 j (List.mem_cons_of_mem _ hj), by omega, by simp only; omega, by simp only; omega⟩, rfl⟩
    show nU f (f.length : Nat) v m i = _
    simp only [nU, d1, cond_true, aX d2, d3, d4, hw, mn]
  · rintro ⟨v, m⟩ _
    show nU f (f.length : Nat) v m (f.length : Nat) = _
    simp only [nU, cY, cond_false, parts, List.foldl_nil]
  · exact ⟨CG hf, hl, by simp only; omega, by simp only; omega⟩

theorem aDB (f : List aA) : xV f = some (if fL f then tA f else 0) := by
  unfold xV
  rw [SK]
  cases h : fL f
  · simp
  · cases f with
    | nil => simp [tA, val]
    | cons j r =>
      obtain ⟨hl, hr⟩ := kK.1 h
      have hne : decide (((List.length (j :: r) : Nat) : Int) = 0) = false := by simp; omega
      simp only [Option.bind_some, Bool.not_true, Bool.false_or, hne, cond_false, aX aFA, aET, if_true]
      have hj := hr.1
      unfold tA
      rw [aB7 hr]
      by_cases e : j.At = -1
      · simp only [e, decide_true, cond_true, if_true, sH]
        exact RQ h j.Net (by omega)
      · simp only [e, decide_false, cond_false, if_false, sH]
        exact RQ h 0 (by omega)

theorem OJ (f : List aA) : sI f = some (if fL f then tA f else 0) := by
  unfold sI
  rw [HY]
  cases h : fL f
  · simp
  · obtain ⟨hl, hr⟩ := kK.1 h
    simp only [Option.bind_some, Bool.not_true, cond_false, MA h, if_true, zG]
    rw [iN (l := f) (body := fun s : Int × Int => mZ f s.1 s.2) (fun m i => (m, i)) (fun m r => (r.map fun j => val f j.At).foldl mn m) (fun _ _ => True) (val f (-1)) ?_ ?_ trivial]
    · simp [uF, tA]
    · rintro i a r m ha _
      obtain ⟨d1, d2, d3, d4⟩ := idx ha (by omega)
      left
      refine ⟨mn m (val f a.At), ?_, trivial, rfl⟩
      show mZ f m i = _
      simp only [mZ, uK, d1, cond_true, aX d2, d3, d4, MA h, Option.bind_some, mn]
      by_cases e : val f a.At < m <;> simp [e]
    · intro m _
      show mZ f m (f.length : Nat) = _
      simp only [mZ, cY, cond_false, List.map_nil, List.foldl_nil]

theorem HW {s t : Int} (hst : s ≤ t) : ∀ {f : List aA}, (∀ j ∈ f, ¬ (s < j.At ∧ j.At ≤ t)) → val f s = val f t
  | [], _ => rfl
  | j :: r, h => by
    have hj := h j (List.mem_cons_self ..)
    rw [cK, cK, HW hst (fun k hk => h k (List.mem_cons_of_mem _ hk))]
    by_cases e : j.At ≤ s
    · rw [if_pos e, if_pos (by omega)]
    · rw [if_neg e, if_neg (by omega)]

theorem aBu {f : List aA} (h : fL f = true) : ∀ j ∈ f, -2 < j.At ∧ j.At < 1125899906842624 := fun j hj => by have := (kK.1 h).2.above j hj; omega

theorem aEx : fL [] = true := by decide

end Go.Abs
namespace Go.Abs
open Go
theorem w1 : IntKind.i64.wrap (0 + 1) = 1 := by rw [dW] <;> omega

theorem w2 : IntKind.i64.wrap (1 + 1) = 2 := by rw [dW] <;> omega

theorem w3 : IntKind.i64.wrap (1 - 1) = 0 := by rw [dW] <;> omega

theorem v0 : IntKind.i64.wrap 0 = 0 := by rw [dW] <;> omega

theorem v1 : IntKind.i64.wrap 1 = 1 := by rw [dW] <;> omega

theorem v2 : IntKind.i64.wrap 2 = 2 := by rw [dW] <;> omega

theorem v3 : IntKind.i64.wrap (-1) = -1 := by rw [dW] <;> omega

end Go.Abs
namespace Go.Abs
open Go
theorem aDx (f : List aA) : (told f).1.length ≤ 1024 := by
  unfold told
  cases h : fL f
  · simp
  · simpa using (kK.1 h).1

end Go.Abs
namespace Go.Abs
theorem aDd : @eA = @pF aA _ := rfl

theorem aB3 : @eH = @eK aA _ := rfl

theorem aBj (cmp) : ∀ k, @gV cmp k = @eP aA _ cmp k
  | 0 => rfl
  | k + 1 => by
    show eH cmp _ = eK cmp _
    rw [aBj cmp k, aB3]

theorem aDu : @eY = @qS aA _ := by
  funext d a m b cmp
  unfold eY qS
  simp only [aBj]

theorem aAC : @fW = @CL aA _ := by
  funext d n cmp
  unfold fW CL iZ FI
  unfold iS nG fJ FF
  unfold jA FA iP kJ
  unfold iR AL iQ nF
  unfold fM AS
  rw [aDu, aDd]
  rfl

end Go.Abs
namespace Go.Abs
open Go
variable {α : Type} [Inhabited α]
noncomputable def rC (f1 : α → Option Bool) (s0 : (List α)) (t7 : Int) (t8 : Int) : Option ((Int) ⊕ (Unit ⊕ Int)) :=
  cond (decide (t8 < t7))
  (bI (0 ≤ t8 ∧ t8 < ((List.length s0 : Nat) : Int)) <|
  (f1 (List.getD s0 (Int.toNat t8) default)).bind fun x2 =>
  cond x2
  (some (.inr (.inr t8)))
  (some (.inl (IntKind.i64.wrap (t8 + (1 : Int))))))
  (some (.inr (.inl ())))

theorem HG {l : List α} {f : α → Option Bool} {g : α → Bool} (hl : l.length ≤ 1099511627776) (hf : ∀ x ∈ l, f x = some (g x)) : ∀ (r : List α) (k : Nat), l.drop k = r → k ≤ l.length →
    ∃ x, lp (fun s => rC f l (l.length : Nat) s) (k : Int) = some x ∧ ((x = .inl () ∧ r.any g = false) ∨ (∃ i : Nat, x = .inr (i : Int) ∧ k ≤ i ∧ i < l.length ∧ r.any g = true ∧ g (l.getD i default) = true ∧ ∀ j, k ≤ j → j < i → g (l.getD j default) = false))
  | [], k, hd, hk => by
    have : k = l.length := by
      have := congrArg List.length hd
      simp only [List.length_drop, List.length_nil] at this; omega
    subst this
    refine ⟨.inl (), cT ?_, Or.inl ⟨rfl, rfl⟩⟩
    show rC f l _ _ = _
    simp only [rC, cY, cond_false]
  | a :: r, k, hd, hk => by
    obtain ⟨h1, h2⟩ := drop_cons hd
    have hlt : k < l.length := (List.getElem?_eq_some_iff.1 h1).1
    obtain ⟨d1, d2, d3, d4⟩ := idx h1 (by omega)
    have hga : l.getD k default = a := by rw [Int.toNat_natCast] at d3; exact d3
    have hb : (fun s => rC f l (l.length : Nat) s) (k : Int) = some (if g a then .inr (.inr (k : Int)) else .inl ((k + 1 : Nat) : Int)) := by
      show rC f l _ _ = _
      simp only [rC, d1, cond_true, aX d2, d3, d4, hf a (List.mem_of_getElem? h1), Option.bind_some]
      cases g a <;> simp
    cases hg : g a
    · rw [hg] at hb
      obtain ⟨x, e, hx⟩ := HG hl hf r (k + 1) h2 (by omega)
      refine ⟨x, by rw [dQ hb]; exact e, ?_⟩
      rcases hx with ⟨rfl, h⟩ | ⟨i, rfl, h3, h4, h5, h6, h7⟩
      · exact Or.inl ⟨rfl, by simp [hg, h]⟩
      · refine Or.inr ⟨i, rfl, by omega, h4, by simp [h5], h6, fun j hj hj' => ?_⟩
        by_cases e : j = k
        · subst e; rw [hga, hg]
        · exact h7 j (by omega) hj'
    · rw [hg] at hb
      exact ⟨.inr (k : Int), cT hb, Or.inr ⟨k, rfl, Nat.le_refl _, hlt, by simp [hg], by rw [hga, hg], fun j h h' => by omega⟩⟩

end Go.Abs
namespace Go.Abs
open Go
theorem NF {l : List aA} {f : aA → Option Bool} {g : aA → Bool} (hl : l.length ≤ 1099511627776) (hf : ∀ x ∈ l, f x = some (g x)) : dH l f = some (l.any g) := by
  unfold dH gK fZ
  obtain ⟨x, e, hx⟩ := HG hl hf l 0 rfl (Nat.zero_le _)
  have e' : lp (fun s => gG f l (l.length : Nat) s) 0 = some x := e
  rw [e']
  rcases hx with ⟨rfl, h⟩ | ⟨i, rfl, _, _, h, _⟩
  · simp [eC, h]
  · simp [h]

def qJ (j : aA) : Bool := !FD j.Net

def uI (j : aA) : Bool := decide (j.At < -1) || decide (1125899906842624 < j.At)

def AY (l : List aA) : List aA := vE 0 ((EO [] (l.filter fun j => decide (j.At < 1125899906842624))).map fun p => (p, val l p))

def fR (l : List aA) : List aA × Int := if l.any qJ then ([], 2) else if l.any uI then ([], 13) else told (AY l)

def GD (p n : Int) : List aA := if n ≠ 0 ∧ p < 1125899906842624 then [⟨p, n⟩] else []

def zV (p n : Int) : List aA → List aA
  | [] => GD p n
  | j :: r => if j.At = p then zV p (n + j.Net) r else GD p n ++ zV j.At j.Net r

def grp : List aA → List aA
  | [] => []
  | j :: r => zV j.At j.Net r

abbrev ZX (a b : aA) : Prop := a.At ≤ b.At

theorem QV {t : Int} (ht : t < 1125899906842624) : ∀ {r : List aA} {p n : Int}, val (zV p n r) t = (if p ≤ t then n else 0) + val r t
  | [], p, n => by
    unfold zV GD
    split
    · rw [cK, qY]
    · rw [qY]; split <;> omega
  | j :: r, p, n => by
    unfold zV
    split
    · rename_i h
      rw [QV ht, cK, h]; split <;> omega
    · rw [DE, QV ht, cK]
      have : val (GD p n) t = if p ≤ t then n else 0 := by
        unfold GD
        split
        · rw [cK, qY]; simp
        · rw [qY]; split <;> omega
      rw [this]

theorem aEi {t : Int} (ht : t < 1125899906842624) : ∀ {r : List aA}, val (grp r) t = val r t
  | [] => rfl
  | j :: r => by unfold grp; rw [QV ht, cK]

theorem TM : ∀ {r : List aA} {p n last : Int}, last < p → (∀ j ∈ r, p ≤ j.At) → Srt ZX r → Up last (zV p n r)
  | [], p, n, last, h, _, _ => by
    unfold zV GD
    split
    · rename_i h'; exact ⟨⟨h, h'.2, h'.1⟩, trivial⟩
    · trivial
  | j :: r, p, n, last, h, hp, hs => by
    have hj := hp j (by simp)
    have hs' := List.pairwise_cons.1 hs
    unfold zV
    split
    · exact TM h (fun k hk => hp k (by simp [hk])) hs'.2
    · have ih : Up p (zV j.At j.Net r) := TM (by omega) (fun k hk => hs'.1 k hk) hs'.2
      unfold GD
      split
      · rename_i h'; exact ⟨⟨h, h'.2, h'.1⟩, ih⟩
      · exact ih.weaken (by omega)

theorem aEM {r : List aA} (h : ∀ j ∈ r, -2 < j.At) (hs : Srt ZX r) : Up (-2) (grp r) := by
  cases r with
  | nil => trivial
  | cons j r =>
    have hs' := List.pairwise_cons.1 hs
    exact TM (h j (by simp)) (fun k hk => hs'.1 k hk) hs'.2

theorem YS {l out : List aA} (hl : l.length ≤ 1099511627776) (hb : ∀ j ∈ l, j.Net ≤ 1048576 ∧ -1048576 ≤ j.Net) : ∀ (r : List aA) (k : Nat) (p n : Int), l.drop k = r → k ≤ l.length → n ≤ 1048576 * k → -(1048576 * k) ≤ n →
    ∃ n' k', k ≤ k' ∧ k' ≤ l.length ∧ zV p n r = GD p n' ++ grp (l.drop k') ∧ lp (fun s : List aA × List aA × Int × aA => kD s.1 s.2.1 s.2.2.1 s.2.2.2) (l, out, (k : Int), ⟨p, n⟩) = some (l, out, ((k' : Nat) : Int), ⟨p, n'⟩) ∧ (∀ j r', r = j :: r' → j.At = p → k < k')
  | [], k, p, n, hd, hk, _, _ => by
    have : k = l.length := by
      have := congrArg List.length hd
      simp only [List.length_drop, List.length_nil] at this; omega
    subst this
    refine ⟨n, l.length, Nat.le_refl _, Nat.le_refl _, by simp [zV, grp], cT ?_, fun j r' h => by cases h⟩
    show kD _ _ _ _ = _
    simp only [kD, cY, Bool.false_and, cond_false]
    exact aX (fun h => by cases h)
  | a :: r, k, p, n, hd, hk, h1, h2 => by
    obtain ⟨e1, e2⟩ := drop_cons hd
    have hlt : k < l.length := (List.getElem?_eq_some_iff.1 e1).1
    obtain ⟨d1, d2, d3, d4⟩ := idx e1 (by omega)
    have ha := hb a (List.mem_of_getElem? e1)
    by_cases h : a.At = p
    · have hw : IntKind.i64.wrap (n + a.Net) = n + a.Net := dW (by omega) (by omega)
      obtain ⟨n', k', k1, k2, k3, k4, _⟩ := YS hl hb r (k + 1) p (n + a.Net) e2 (by omega) (by omega) (by omega) (out := out)
      refine ⟨n', k', by omega, k2, by simp [zV, h, k3], ?_, fun _ _ _ _ => by omega⟩
      have hb : (fun s : List aA × List aA × Int × aA => kD s.1 s.2.1 s.2.2.1 s.2.2.2) (l, out, (k : Int), ⟨p, n⟩) = some (.inl (l, out, ((k + 1 : Nat) : Int), ⟨p, n + a.Net⟩)) := by
        show kD _ _ _ _ = _
        simp only [kD, d1, Bool.true_and, d3, d4, h, decide_true, cond_true, hw]
        rw [aX (fun _ => d2), aX d2]
      rw [dQ hb, k4]
    · refine ⟨n, k, Nat.le_refl _, hk, ?_, cT ?_, fun j r' he hp => ?_⟩
      · rw [hd]; simp [zV, h, grp]
      · show kD _ _ _ _ = _
        simp only [kD, d1, Bool.true_and, d3, h, decide_false, cond_false]
        exact aX (fun _ => d2)
      · cases he; exact absurd hp h

theorem aDG {l : List aA} (hl : l.length ≤ 1099511627776) (hb : ∀ j ∈ l, j.Net ≤ 1048576 ∧ -1048576 ≤ j.Net) : ∀ (m k : Nat) (out : List aA), l.length - k ≤ m → k ≤ l.length → out.length ≤ k →
    lp (fun s : List aA × List aA × Int => mE s.1 s.2.1 s.2.2) (l, out, (k : Int)) = some (out ++ grp (l.drop k)) := by
  have stop : ∀ out, lp (fun s : List aA × List aA × Int => mE s.1 s.2.1 s.2.2) (l, out, ((l.length : Nat) : Int)) = some (out ++ grp (l.drop l.length)) := by
    intro out
    refine cT ?_
    show mE _ _ _ = _
    simp only [mE, cY, cond_false]
    simp [grp]
  intro m
  induction m with
  | zero =>
    intro k out hm hk _
    have : k = l.length := by omega
    subst this; exact stop out
  | succ m ih =>
    intro k out hm hk ho
    by_cases he : k = l.length
    · subst he; exact stop out
    · have hlt : k < l.length := by omega
      have hd : l.drop k = l[k] :: l.drop (k + 1) := List.drop_eq_getElem_cons hlt
      obtain ⟨d1, d2, d3, d4⟩ := idx (List.getElem?_eq_getElem hlt) (by omega)
      obtain ⟨n', k', k1, k2, k3, k4, k5⟩ := YS hl hb (l.drop k) k l[k].At 0 rfl hk (by omega) (by omega) (out := out)
      have hk' := k5 _ _ hd rfl
      have hbod : (fun s : List aA × List aA × Int => mE s.1 s.2.1 s.2.2) (l, out, (k : Int)) = some (.inl (l, out ++ GD l[k].At n', ((k' : Nat) : Int))) := by
        show mE _ _ _ = _
        simp only [mE, d1, cond_true, aX d2, d3, DQ, k4, Option.bind_some, xS]
        unfold GD
        by_cases c : n' ≠ 0 ∧ l[k].At < 1125899906842624
        · have hc : (!decide (n' = 0) && decide (l[k].At < 1125899906842624)) = true := by simp [c]
          rw [hc, cond_true, if_pos c, aX (by simp only [List.length_cons, List.length_nil]; omega)]
        · have hc : (!decide (n' = 0) && decide (l[k].At < 1125899906842624)) = false := by
            rw [Bool.eq_false_iff]; intro h; apply c; simpa using h
          rw [hc, cond_false, if_neg c]; simp
      have hfl : (GD l[k].At n').length ≤ 1 := by unfold GD; split <;> simp
      rw [dQ hbod, ih k' _ (by omega) k2 (by simp only [List.length_append]; omega)]
      have hg : grp (l.drop k) = zV l[k].At 0 (l.drop k) := by rw [hd]; simp [grp, zV]
      rw [hg, k3]; simp

theorem aEm (a b : aA) : oD a b = some (if a.At < b.At then -1 else if b.At < a.At then 1 else 0) := by
  unfold oD jX qA
  by_cases h1 : a.At < b.At
  · simp [h1]
  · by_cases h2 : b.At < a.At <;> simp [h1, h2]

theorem aFx : Cmp (fun _ => True) ZX (fun y0 y1 => oD y0 y1) where
  ans x y _ _ := ⟨_, aEm x y, by unfold ZX; split <;> (try split) <;> omega⟩
  trans x y z _ _ _ h1 h2 := Int.le_trans h1 h2
  total x y _ _ := Int.le_total x.At y.At

theorem aFj {l : List aA} (hl : l.length ≤ 1099511627776) : ∃ r, r.Perm l ∧ Srt ZX r ∧ dP l (fun y0 y1 => oD y0 y1) = some r := by
  obtain ⟨r, r1, r2, r3⟩ := UQ aFx (d := l) (fun _ _ => trivial) hl
  refine ⟨r, r1, r2, ?_⟩
  unfold dP
  rw [aAC, r3]; rfl

theorem aAa {f g : List aA} (h : f.Perm g) (t : Int) : val f t = val g t := by
  induction h with
  | nil => rfl
  | cons x _ ih => rw [cK, cK, ih]
  | swap x y l => rw [cK, cK, cK, cK]; omega
  | trans _ _ ih1 ih2 => rw [ih1, ih2]

theorem KP {l : List aA} (h : l.any qJ = false) : ∀ j ∈ l, j.Net ≤ 1048576 ∧ -1048576 ≤ j.Net := by
  intro j hj
  have := List.any_eq_false.1 h j hj
  simp [qJ, FD] at this
  omega

theorem EM {l : List aA} (h : l.any uI = false) : ∀ j ∈ l, -2 < j.At ∧ j.At ≤ 1125899906842624 := by
  intro j hj
  have := List.any_eq_false.1 h j hj
  simp [uI] at this
  omega

theorem NO {l : List aA} (ht : ∀ j ∈ l, -2 < j.At) : Inc (-2) (EO [] (l.filter fun j => decide (j.At < 1125899906842624))) :=
  YE (ps := []) (show Inc (-2) [] from trivial) fun j hj => by
    obtain ⟨h1, h2⟩ := List.mem_filter.1 hj
    exact ⟨ht j h1, by simpa using h2⟩

theorem QU {l h : List aA} (ht : ∀ j ∈ l, -2 < j.At) (hh : Up (-2) h) (hv : ∀ t, -2 < t → t < 1125899906842624 → val h t = val l t) : AY l = h := by
  refine aC7 (F := val l) (CR fun j hj => ht j hj) (NO ht) ?_ hh hv
  intro s t _ hst h2 hn
  exact HW hst fun j hj hc => hn j.At (PU.2 (Or.inr ⟨j, List.mem_filter.2 ⟨hj, by simp; omega⟩, rfl⟩)) hc

theorem norm_eq {l : List aA} (hl : l.length ≤ 1099511627776) : AF l = some (fR l) := by
  unfold AF fR
  rw [NF (g := qJ) hl (fun x _ => by simp [wB, aBc, qJ])]
  simp only [Option.bind_some]
  cases h1 : l.any qJ
  · rw [NF (f := fun y0 => wK y0) (g := uI) hl (fun x _ => rfl)]
    simp only [cond_false, Option.bind_some, Bool.false_eq_true, if_false]
    cases h2 : l.any uI
    · simp only [cond_false, Bool.false_eq_true, if_false]
      have hc : fO l = some l := by unfold fO; exact aX ⟨by omega, by omega⟩
      obtain ⟨r, r1, r2, r3⟩ := aFj hl
      rw [hc]
      simp only [Option.bind_some]
      rw [r3]
      simp only [Option.bind_some, DG]
      have hlr : r.length ≤ 1099511627776 := by rw [r1.length_eq]; exact hl
      have := aDG hlr (fun j hj => KP h1 j (r1.mem_iff.1 hj)) r.length 0 [] (by omega) (by omega) (by simp)
      simp only [Int.natCast_zero, List.drop_zero, List.nil_append] at this
      rw [this]
      simp only [Option.bind_some, yN, aDO]
      rw [QU (fun j hj => (EM h2 j hj).1) (aEM (fun j hj => (EM h2 j (r1.mem_iff.1 hj)).1) r2) (fun t _ ht => by rw [aEi ht, aAa r1])]
    · simp
  · simp

theorem aBL {l : List aA} (hl : l.length ≤ 1099511627776) : xU l = some (fR l) := by
  unfold xU BM fR
  rw [DN (l := l) (fun i => i) qJ (.inr ([], 2)) (.inl ()) ?_ ?_]
  · cases h1 : l.any qJ
    · simp only [Bool.false_eq_true, if_false, Option.bind_some, Sum.elim_inl, vM, BT]
      rw [iN (l := l) (body := fun s : List Int × Int => jN l s.1 s.2) (fun ps i => (ps, i)) (fun ps r => if r.any uI then .inr ([], 13) else .inl (EO ps (r.filter fun j => decide (j.At < 1125899906842624))))
        (fun ps r => Inc (-2) ps ∧ ps.length + r.length ≤ 1099511627776) [] ?_ ?_ ⟨trivial, by simpa using hl⟩]
      · cases h2 : l.any uI
        · simp only [Bool.false_eq_true, if_false, Option.bind_some, Sum.elim_inl, wO, BY]
          have hlen := XG (f := l.filter fun j => decide (j.At < 1125899906842624)) (ps := [])
          have hlf : (l.filter fun j => decide (j.At < 1125899906842624)).length ≤ l.length := List.length_filter_le _ _
          simp only [List.length_nil] at hlen
          have hvb : ∀ p, val l p ≤ 1048576 * l.length ∧ -(1048576 * l.length) ≤ val l p := fun p => UY p (by omega) (fun j hj => by have := KP h1 j hj; omega)
          rw [aAq (ps := EO [] (l.filter fun j => decide (j.At < 1125899906842624))) (F := val l) (body := fun s : List Int × Int => nV l (EO [] (l.filter fun j => decide (j.At < 1125899906842624))) s.1 s.2) ?_ ?_ (by omega)]
          · simp only [Option.bind_some, vP]
            rw [aBN (by omega) (fun p _ => by have := hvb p; omega)]
            rfl
          · intro i a vs ha _ hv
            obtain ⟨d1, d2, d3, d4⟩ := idx ha (by omega)
            show nV l _ vs i = _
            simp only [nV, d1, cond_true, aX d2, d3, d4, OK a (KP h1) hl, Option.bind_some]
            exact aX (by simp only [List.length_cons, List.length_nil]; omega)
          · intro vs
            show nV l _ vs _ = _
            simp only [nV, cY, cond_false]
        · simp
      · rintro i a r ps ha ⟨g1, g2⟩
        obtain ⟨d1, d2, d3, d4⟩ := idx ha (by omega)
        simp only [List.length_cons] at g2
        have hbod : jN l ps i = if uI a then some (.inr (.inr ([], 13))) else if a.At < 1125899906842624 then (uE ps a.At).bind (fun x => some (.inl (x, ((i + 1 : Nat) : Int)))) else some (.inl (ps, ((i + 1 : Nat) : Int))) := by
          simp only [jN, vY, d1, cond_true, aX d2, d3, d4]
          rw [aX (fun _ => d2)]
          unfold uI
          cases (decide (a.At < -1) || decide (1125899906842624 < a.At))
          · by_cases c : a.At < 1125899906842624 <;> simp [c]
          · simp
        cases ho : uI a
        · left
          rw [ho] at hbod
          have ho' : -1 ≤ a.At ∧ a.At ≤ 1125899906842624 := by simp [uI] at ho; omega
          by_cases c : a.At < 1125899906842624
          · have hlen := MG (t := a.At) (ps := ps)
            refine ⟨pG a.At ps, ?_, ⟨MQ g1 (by omega) c, by omega⟩, ?_⟩
            · show jN l ps i = _
              rw [hbod, aEh g1 (by omega)]; simp [c]
            · simp only [List.any_cons, ho, Bool.false_or]
              have hf : (a :: r).filter (fun j => decide (j.At < 1125899906842624)) = a :: r.filter (fun j => decide (j.At < 1125899906842624)) := by simp [c]
              rw [hf]; rfl
          · refine ⟨ps, ?_, ⟨g1, by omega⟩, ?_⟩
            · show jN l ps i = _
              rw [hbod]; simp [c]
            · simp only [List.any_cons, ho, Bool.false_or]
              have hf : (a :: r).filter (fun j => decide (j.At < 1125899906842624)) = r.filter (fun j => decide (j.At < 1125899906842624)) := by simp [c]
              rw [hf]
        · right
          rw [ho] at hbod
          show jN l ps i = _
          rw [hbod]; simp [ho]
      · intro ps _
        show jN l ps _ = _
        simp only [jN, cY, cond_false]
        simp [EO]
    · simp
  · intro i a ha
    obtain ⟨d1, d2, d3, d4⟩ := idx ha (by omega)
    show qI l i = _
    simp only [qI, d1, cond_true, aX d2, d3, d4]
    rw [aX (fun _ => d2)]
    unfold qJ FD
    by_cases c1 : 1048576 < a.Net
    · have : ¬ a.Net ≤ 1048576 := by omega
      simp [c1, this]
    · have c1' : a.Net ≤ 1048576 := by omega
      by_cases c2 : a.Net < -1048576
      · have : ¬ -1048576 ≤ a.Net := by omega
        simp [c1', c1, c2, this]
      · have : -1048576 ≤ a.Net := by omega
        simp [c1', c1, c2, this]
  · show qI l _ = _
    simp only [qI, cY, cond_false]

end Go.Abs
namespace Go.Abs
open Go
theorem UG (x y : ByteArray) : pK x y = decide (x = y) := by
  unfold pK
  rw [ByteArray.toList_eq, ByteArray.toList_eq]
  by_cases h : x = y
  · simp [h]
  · have : x.data.toList ≠ y.data.toList := by
      intro he
      apply h
      cases x; cases y
      congr 1
      exact Array.toList_inj.1 he
    have h2 : (x.data.toList == y.data.toList) = false := by simpa using this
    rw [h2]; simp [h]

theorem veq (a b : aG) : ((decide (a.Kind = b.Kind)) && ((decide (a.Num = b.Num)) && ((pK a.Text b.Text) && true))) = decide (a = b) := by
  rw [UG]
  obtain ⟨a1, a2, a3⟩ := a
  obtain ⟨b1, b2, b3⟩ := b
  by_cases h1 : a1 = b1 <;> by_cases h2 : a2 = b2 <;> by_cases h3 : a3 = b3 <;> simp [h1, h2, h3]

def IS (v : aG) : Bool := decide (v.Kind = 1) && pK v.Text (⟨#[]⟩ : ByteArray)

def IN (v : aG) : Bool := ((decide (v.Kind = 2)) && (decide (v.Num = 0))) && (decide (((ByteArray.size v.Text : Nat) : Int) ≤ 64))

def vI (v : aG) : Bool := IS v || IN v

def fC (r : List aG) : Bool := decide (r.length ≤ 8) && r.all vI

theorem of_eq (v : aG) : mJ v = some (if IS v then (.k_number v.Num, true) else if IN v then (.k_words v.Text, true) else (.none_, false)) := by
  unfold mJ IS IN
  cases (decide (v.Kind = 1) && pK v.Text (⟨#[]⟩ : ByteArray)) <;> cases (((decide (v.Kind = 2)) && (decide (v.Num = 0))) && (decide (((ByteArray.size v.Text : Nat) : Int) ≤ 64))) <;> rfl

theorem aEo (v : aG) : AD v = some (vI v) := by
  unfold AD vI
  rw [of_eq]
  cases IS v <;> cases IN v <;> rfl

theorem SQ (v : aG) : tL v = some (vI v) := by
  unfold tL vI IS IN
  by_cases h : v.Kind = 1
  · simp [h]
  · simp [h]

theorem ZF {l : List aG} {f : aG → Option Bool} {g : aG → Bool} (hl : l.length ≤ 1099511627776) (hf : ∀ x ∈ l, f x = some (g x)) : dU l f = some (l.any g) := by
  unfold dU gJ gC
  obtain ⟨x, e, hx⟩ := HG hl hf l 0 rfl (Nat.zero_le _)
  have e' : lp (fun s => fY f l (l.length : Nat) s) 0 = some x := e
  rw [e']
  rcases hx with ⟨rfl, h⟩ | ⟨i, rfl, _, _, h, _⟩
  · simp [eE, h]
  · simp [h]

theorem JF (r : List aG) : tD r = some (fC r) := by
  unfold tD fC
  by_cases h : r.length ≤ 8
  · have h1 : decide ((8 : Int) < ((r.length : Nat) : Int)) = false := by simp; omega
    rw [h1, cond_false, ZF (g := fun v => !vI v) (by omega) (fun x _ => by simp [AN, aEo])]
    simp only [Option.bind_some, h, decide_true, Bool.true_and]
    congr 1
    rw [List.all_eq_not_any_not]
  · have h1 : decide ((8 : Int) < ((r.length : Nat) : Int)) = true := by simp; omega
    rw [h1, cond_true]
    simp [h]

theorem DS (r : List aG) (hl : r.length ≤ 1099511627776 * 16) : pJ r = some (fC r) := by
  unfold pJ DP
  have hl9 : (r.take 9).length ≤ 9 := by simp; omega
  rw [DN (l := r.take 9) (fun i => i) (fun v => !vI v) (.inr false) (.inl ()) ?_ ?_]
  · unfold fC
    by_cases h : r.length ≤ 8
    · have ht : r.take 9 = r := List.take_of_length_le (by omega)
      rw [ht, List.all_eq_not_any_not]
      cases h1 : (r.any fun v => !vI v)
      · have : ((r.length : Nat) : Int) ≤ 8 := by omega
        simp [uN, this, h]
      · simp
    · cases h1 : ((r.take 9).any fun v => !vI v)
      · have : ¬ ((r.length : Nat) : Int) ≤ 8 := by omega
        simp [uN, this, h]
      · simp [h]
  · intro i a ha
    have hi : i < (r.take 9).length := (List.getElem?_eq_some_iff.1 ha).1
    have hi2 : i < r.length := by simp at hi; omega
    have ha2 : r[i]? = some a := by
      rw [List.getElem?_take] at ha
      split at ha
      · exact ha
      · cases ha
    obtain ⟨d1, d2, d3, d4⟩ := idx ha2 (by omega)
    have h9 : decide ((i : Int) < 9) = true := by simp; omega
    show rM r i = _
    simp only [rM, d1, h9, Bool.and_self, cond_true, aX d2, d3, d4, SQ, Option.bind_some]
    cases vI a <;> simp
  · show rM r _ = _
    have : ((decide ((((r.take 9).length : Nat) : Int) < ((r.length : Nat) : Int))) && (decide ((((r.take 9).length : Nat) : Int) < 9))) = false := by
      rw [Bool.and_eq_false_iff]
      by_cases h : r.length ≤ 8
      · left; simp; omega
      · right; simp; omega
    simp only [rM, this, cond_false]

theorem OD {α : Type} [DecidableEq α] {f g : List α} {body : Int → Option (Int ⊕ (Unit ⊕ Bool))} (he : f.length = g.length)
    (hb : ∀ (i : Nat) a b, f[i]? = some a → g[i]? = some b → body i = some (if a = b then .inl ((i + 1 : Nat) : Int) else .inr (.inr false)))
    (hend : body (f.length : Nat) = some (.inr (.inl ()))) : ∀ (m k : Nat), f.length - k = m → k ≤ f.length → lp body (k : Int) = some (if f.drop k = g.drop k then .inl () else .inr false)
  | 0, k, hm, hk => by
    have : k = f.length := by omega
    subst this
    rw [List.drop_length, he, List.drop_length, if_pos rfl]
    rw [← he]
    exact cT hend
  | m + 1, k, hm, hk => by
    have h1 : k < f.length := by omega
    have h2 : k < g.length := by omega
    have hbk := hb k _ _ (List.getElem?_eq_getElem h1) (List.getElem?_eq_getElem h2)
    have e1 : f.drop k = f[k] :: f.drop (k + 1) := List.drop_eq_getElem_cons h1
    have e2 : g.drop k = g[k] :: g.drop (k + 1) := List.drop_eq_getElem_cons h2
    have hiff : (f.drop k = g.drop k) ↔ (f[k] = g[k] ∧ f.drop (k + 1) = g.drop (k + 1)) := by rw [e1, e2, List.cons.injEq]
    by_cases h : f[k] = g[k]
    · rw [if_pos h] at hbk
      rw [dQ hbk, OD he hb hend m (k + 1) (by omega) (by omega)]
      simp only [hiff, h, true_and]
    · rw [if_neg h] at hbk
      rw [cT hbk]
      simp only [hiff, h, false_and, if_false]

theorem MC {α : Type} {f g : List α} (h : f.length ≠ g.length) : (!decide (((f.length : Nat) : Int) = ((g.length : Nat) : Int))) = true := by simp; omega

theorem NC {α : Type} {f g : List α} (h : f.length = g.length) : (!decide (((f.length : Nat) : Int) = ((g.length : Nat) : Int))) = false := by simp [h]

theorem RS (a b : List aG) (hl : a.length ≤ 17592186044416) : yX a b = some (decide (a = b)) := by
  unfold yX iX
  by_cases he : a.length = b.length
  · rw [NC he, cond_false]
    unfold iL
    have := OD (f := a) (g := b) (body := fun s => dX a b (a.length : Nat) s) he ?_ ?_ a.length 0 rfl (Nat.zero_le _)
    · simp only [Int.natCast_zero, List.drop_zero] at this
      rw [this]
      by_cases h : a = b <;> simp [h, eX]
    · intro i x y hx hy
      obtain ⟨d1, d2, d3, d4⟩ := idx hx (by omega)
      obtain ⟨_, e2, e3, _⟩ := idx hy (by omega)
      simp only [dX, d1, cond_true, aX d2, aX e2, d3, e3, d4, veq]
      by_cases h : x = y <;> simp [h]
    · simp only [dX, cY, cond_false]
  · rw [MC he, cond_true]
    have : a ≠ b := fun h => he (by rw [h])
    simp [this]

theorem AU (a b : List aG) (hl : a.length ≤ 17592186044416) : pQ a b = some (decide (a = b)) := by
  unfold pQ
  by_cases he : a.length = b.length
  · rw [NC he, cond_false]
    unfold BC
    have := OD (f := a) (g := b) (body := fun s => sC a b s) he ?_ ?_ a.length 0 rfl (Nat.zero_le _)
    · simp only [Int.natCast_zero, List.drop_zero] at this
      rw [this]
      by_cases h : a = b <;> simp [h, wP]
    · intro i x y hx hy
      obtain ⟨d1, d2, d3, d4⟩ := idx hx (by omega)
      obtain ⟨_, e2, e3, _⟩ := idx hy (by omega)
      simp only [sC, d1, cond_true, aX d2, aX e2, d3, e3, d4, veq]
      by_cases h : x = y <;> simp [h]
    · simp only [sC, cY, cond_false]
  · rw [MC he, cond_true]
    have : a ≠ b := fun h => he (by rw [h])
    simp [this]

structure MY {α : Type} (c : α → α → Int) : Prop where
  eq : ∀ a b, c a b = 0 ↔ a = b
  anti : ∀ a b, c a b < 0 ↔ 0 < c b a
  trans : ∀ a b d, c a b < 0 → c b d < 0 → c a d < 0

def oM (x y : Int) : Int := if x < y then -1 else if y < x then 1 else 0

theorem HJ : MY oM where
  eq a b := by unfold oM; (repeat' split) <;> omega
  anti a b := by unfold oM; (repeat' split) <;> omega
  trans a b d := by unfold oM; (repeat' split) <;> omega

def gH {α : Type} [DecidableEq α] (c : α → α → Int) : List α → List α → Int
  | [], [] => 0
  | [], _ :: _ => -1
  | _ :: _, [] => 1
  | a :: r, b :: s => if a = b then gH c r s else c a b

theorem MY.list {α : Type} [DecidableEq α] {c : α → α → Int} (h : MY c) : MY (gH c) where
  eq := by
    intro a
    induction a with
    | nil => intro b; cases b <;> simp [gH]
    | cons x r ih =>
      intro b
      cases b with
      | nil => simp [gH]
      | cons y s =>
        unfold gH
        split
        · rename_i e; subst e; rw [ih]; simp
        · rename_i e
          have := h.eq x y
          constructor
          · intro h0; exact absurd (this.1 h0) e
          · intro h0; cases h0; exact absurd rfl e
  anti := by
    intro a
    induction a with
    | nil => intro b; cases b <;> simp [gH]
    | cons x r ih =>
      intro b
      cases b with
      | nil => simp [gH]
      | cons y s =>
        unfold gH
        by_cases e : x = y
        · subst e; simp only [if_true]; exact ih s
        · rw [if_neg e, if_neg (fun e' => e e'.symm)]; exact h.anti x y
  trans := by
    intro a
    induction a with
    | nil =>
      intro b d
      cases b <;> cases d <;> simp [gH]
    | cons x r ih =>
      intro b d
      cases b with
      | nil => simp [gH]
      | cons y s =>
        cases d with
        | nil => simp [gH]
        | cons z t =>
          unfold gH
          by_cases e1 : x = y
          · subst e1
            rw [if_pos rfl]
            by_cases e2 : x = z
            · subst e2; rw [if_pos rfl, if_pos rfl]; exact ih s t
            · rw [if_neg e2, if_neg e2]; exact fun _ h => h
          · rw [if_neg e1]
            by_cases e2 : y = z
            · have hz : ¬ x = z := fun e => e1 (e.trans e2.symm)
              intro h _
              rw [if_neg hz, ← e2]; exact h
            · rw [if_neg e2]
              intro h1 h2
              by_cases e3 : x = z
              · subst e3
                have h3 := (h.anti x y).1 h1
                omega
              · rw [if_neg e3]; exact h.trans x y z h1 h2

def GA (a b : UInt8) : Int := if a < b then -1 else if b < a then 1 else 0

theorem PY : MY GA where
  eq a b := by
    unfold GA
    constructor
    · intro h
      split at h
      · cases h
      · split at h
        · cases h
        · rename_i h1 h2
          rw [UInt8.lt_iff_toNat_lt] at h1 h2
          exact UInt8.toNat_inj.1 (by omega)
    · rintro rfl
      have : ¬ a < a := by rw [UInt8.lt_iff_toNat_lt]; omega
      simp [this]
  anti a b := by
    unfold GA
    simp only [UInt8.lt_iff_toNat_lt]
    (repeat' split) <;> omega
  trans a b d := by
    unfold GA
    simp only [UInt8.lt_iff_toNat_lt]
    (repeat' split) <;> omega

theorem IQ : ∀ (a b : List UInt8), Go.Lib.compareBytes a b = gH GA a b
  | [], [] => rfl
  | [], _ :: _ => rfl
  | _ :: _, [] => rfl
  | a :: r, b :: s => by
    unfold Go.Lib.compareBytes gH
    rw [IQ r s]
    by_cases e : a = b
    · subst e
      have : ¬ a < a := by rw [UInt8.lt_iff_toNat_lt]; omega
      simp [this]
    · rw [if_neg e]
      unfold GA
      have : ¬ (¬ a < b ∧ ¬ b < a) := by
        rintro ⟨h1, h2⟩
        rw [UInt8.lt_iff_toNat_lt] at h1 h2
        exact e (UInt8.toNat_inj.1 (by omega))
      by_cases h1 : a < b
      · simp [h1]
      · have h2 : b < a := Classical.byContradiction fun h2 => this ⟨h1, h2⟩
        simp [h1, h2]

def TQ (a b : ByteArray) : Int := gH GA a.data.toList b.data.toList

theorem aEC (a b : ByteArray) : TB a b = TQ a b := IQ _ _

theorem data_inj {x y : ByteArray} (h : x.data.toList = y.data.toList) : x = y := by
  cases x; cases y
  congr 1
  exact Array.toList_inj.1 h

theorem KU : MY TQ where
  eq a b := by unfold TQ; rw [(PY.list).eq]; exact ⟨data_inj, fun h => by rw [h]⟩
  anti a b := (PY.list).anti _ _
  trans a b d := (PY.list).trans _ _ _

def CD (a b : aG) : Int := if a.Kind = b.Kind then (if a.Num = b.Num then TQ a.Text b.Text else oM a.Num b.Num) else oM a.Kind b.Kind

theorem KJ : MY CD where
  eq a b := by
    obtain ⟨a1, a2, a3⟩ := a
    obtain ⟨b1, b2, b3⟩ := b
    unfold CD
    simp only [aG.mk.injEq]
    by_cases h1 : a1 = b1
    · by_cases h2 : a2 = b2
      · simp [h1, h2, KU.eq]
      · simp [h1, h2, HJ.eq]
    · simp [h1, HJ.eq]
  anti a b := by
    unfold CD
    by_cases h1 : a.Kind = b.Kind
    · rw [if_pos h1, if_pos h1.symm]
      by_cases h2 : a.Num = b.Num
      · rw [if_pos h2, if_pos h2.symm]; exact KU.anti _ _
      · rw [if_neg h2, if_neg (fun h => h2 h.symm)]; exact HJ.anti _ _
    · rw [if_neg h1, if_neg (fun h => h1 h.symm)]; exact HJ.anti _ _
  trans a b d := by
    unfold CD
    intro h1 h2
    have lt : ∀ {x y : Int}, oM x y < 0 → x < y := fun {x y} h => by unfold oM at h; split at h <;> (try split at h) <;> omega
    have mk : ∀ {x y : Int}, x < y → oM x y < 0 := fun {x y} h => by unfold oM; rw [if_pos h]; omega
    by_cases e1 : a.Kind = b.Kind
    · rw [if_pos e1] at h1
      by_cases e2 : b.Kind = d.Kind
      · rw [if_pos e2] at h2
        rw [if_pos (e1.trans e2)]
        by_cases f1 : a.Num = b.Num
        · rw [if_pos f1] at h1
          by_cases f2 : b.Num = d.Num
          · rw [if_pos f2] at h2
            rw [if_pos (f1.trans f2)]
            exact KU.trans _ _ _ h1 h2
          · rw [if_neg f2] at h2
            rw [f1, if_neg f2]; exact h2
        · rw [if_neg f1] at h1
          have g1 := lt h1
          by_cases f2 : b.Num = d.Num
          · rw [← f2, if_neg f1]; exact h1
          · rw [if_neg f2] at h2
            have g2 := lt h2
            rw [if_neg (by omega)]
            exact mk (by omega)
      · rw [if_neg e2] at h2
        rw [e1, if_neg e2]; exact h2
    · rw [if_neg e1] at h1
      have g1 := lt h1
      by_cases e2 : b.Kind = d.Kind
      · rw [← e2, if_neg e1]; exact h1
      · rw [if_neg e2] at h2
        have g2 := lt h2
        rw [if_neg (by omega)]
        exact mk (by omega)

def eB (a b : List aG) : Int := gH CD a b

theorem iK : MY eB := KJ.list

end Go.Abs
namespace Go.Abs
open Go
theorem UX (x y : Int) : jX x y = some (oM x y) := by
  unfold jX qA oM
  by_cases h1 : x < y
  · simp [h1]
  · by_cases h2 : y < x <;> simp [h1, h2]

theorem aC6 (x y : Int) : eO x y = some (oM x y) := by
  unfold eO kG oM
  by_cases h1 : x < y
  · simp [h1]
  · by_cases h2 : y < x <;> simp [h1, h2]

theorem HC {v : aG} (h : IS v = true) : v.Kind = 1 ∧ v.Text = (⟨#[]⟩ : ByteArray) := by
  simp only [IS, UG, Bool.and_eq_true, decide_eq_true_eq] at h; exact h

theorem EK {v : aG} (h : IN v = true) : v.Kind = 2 ∧ v.Num = 0 ∧ v.Text.size ≤ 64 := by
  simp only [IN, Bool.and_eq_true, decide_eq_true_eq] at h; exact ⟨h.1.1, h.1.2, by omega⟩

theorem OA {v : aG} (h : vI v = true) : IS v = true ∨ (IS v = false ∧ IN v = true) := by
  unfold vI at h
  cases hn : IS v
  · rw [hn] at h; exact .inr ⟨rfl, by simpa using h⟩
  · exact .inl rfl

theorem aB4 (a : ByteArray) : TQ a a = 0 := (KU.eq a a).2 rfl

theorem HV (a : Int) : oM a a = 0 := (HJ.eq a a).2 rfl

theorem aCb {a b : aG} (ha : vI a = true) (hb : vI b = true) : tB a b = some (CD a b) := by
  unfold tB
  simp only [of_eq, Option.bind_some]
  rcases OA ha with h1 | ⟨h1, h1'⟩ <;> rcases OA hb with h2 | ⟨h2, h2'⟩
  · obtain ⟨k1, t1⟩ := HC h1
    obtain ⟨k2, t2⟩ := HC h2
    simp only [h1, h2, if_true, Bool.not_true, Bool.or_self, cond_false, aC6, Option.bind_some]
    unfold CD
    rw [k1, k2, t1, t2, if_pos rfl, aB4]
    by_cases hn : a.Num = b.Num
    · rw [if_pos hn, hn, HV]
    · rw [if_neg hn]
  · obtain ⟨k1, t1⟩ := HC h1
    obtain ⟨k2, n2, _⟩ := EK h2'
    simp only [h1, h2, h2', if_true, Bool.false_eq_true, if_false, Bool.not_true, Bool.or_self, cond_false]
    unfold CD
    rw [k1, k2]; rfl
  · obtain ⟨k1, n1, _⟩ := EK h1'
    obtain ⟨k2, t2⟩ := HC h2
    simp only [h1, h1', h2, if_true, Bool.false_eq_true, if_false, Bool.not_true, Bool.or_self, cond_false]
    unfold CD
    rw [k1, k2]; rfl
  · obtain ⟨k1, n1, _⟩ := EK h1'
    obtain ⟨k2, n2, _⟩ := EK h2'
    simp only [h1, h1', h2, h2', if_true, Bool.false_eq_true, if_false, Bool.not_true, Bool.or_self, cond_false]
    unfold CD nS jJ
    rw [k1, k2, n1, n2, if_pos rfl, if_pos rfl]
    simp [aEC]

theorem wX {r : List aG} (h : fC r = true) : r.length ≤ 8 ∧ ∀ v ∈ r, vI v = true := by
  simp only [fC, Bool.and_eq_true, decide_eq_true_eq, List.all_eq_true] at h; exact h

theorem ZP {a b : List aG} {k : Nat} (hk : k = a.length ∨ k = b.length) (h1 : k ≤ a.length) (h2 : k ≤ b.length) : eB (a.drop k) (b.drop k) = oM a.length b.length := by
  rcases hk with rfl | rfl
  · rw [List.drop_length]
    by_cases h : a.length = b.length
    · rw [h, List.drop_length, HV]; rfl
    · rw [List.drop_eq_getElem_cons (by omega)]
      show (-1 : Int) = _
      unfold oM; rw [if_pos (by omega)]
  · rw [List.drop_length]
    by_cases h : a.length = b.length
    · rw [← h, List.drop_length, HV]; rfl
    · rw [List.drop_eq_getElem_cons (by omega)]
      show (1 : Int) = _
      unfold oM; rw [if_neg (by omega), if_pos (by omega)]

theorem aA4 {a b : List aG} (hl : a.length ≤ 8) (hlb : b.length ≤ 8) (n : Nat) (hn : n = min a.length b.length) : ∀ (m k : Nat), n - k = m → k ≤ n →
    ∃ x, lp (fun s : Int × Int => cD (fun st y0 => (jY y0 st b).bind fun o => some (o.2, o.1)) (a.take n) (n : Nat) s.1 s.2) ((k : Int) - 1, (k : Int)) = some x ∧
      ((∃ sg, x = .inl sg ∧ eB (a.drop k) (b.drop k) = oM a.length b.length) ∨
        (∃ i : Nat, x = .inr ((i : Int), (i : Int)) ∧ i < a.length ∧ i < b.length ∧ eB (a.drop k) (b.drop k) = CD (a.getD i default) (b.getD i default)))
  | 0, k, hm, hk => by
    have : k = n := by omega
    subst this
    refine ⟨.inl ((k : Int) - 1), cT ?_, .inl ⟨_, rfl, ZP (by omega) (by omega) (by omega)⟩⟩
    show cD _ _ _ _ _ = _
    simp only [cD, cY, cond_false]
  | m + 1, k, hm, hk => by
    have h1 : k < a.length := by omega
    have h2 : k < b.length := by omega
    have ht : (a.take n)[k]? = some a[k] := by
      rw [List.getElem?_take_of_lt (by omega)]; exact List.getElem?_eq_getElem h1
    obtain ⟨d1, d2, d3, d4⟩ := idx ht (by simp; omega)
    have hlt : (a.take n).length = n := by simp; omega
    rw [hlt] at d1 d2
    obtain ⟨_, e2, e3, _⟩ := idx (List.getElem?_eq_getElem h2) (by omega)
    have hw : IntKind.i64.wrap ((k : Int) - 1 + 1) = (k : Int) := by rw [dW (by omega) (by omega)]; omega
    have hb : (fun s : Int × Int => cD (fun st y0 => (jY y0 st b).bind fun o => some (o.2, o.1)) (a.take n) (n : Nat) s.1 s.2) ((k : Int) - 1, (k : Int)) =
        some (if a[k] = b[k] then .inl ((k : Int), ((k + 1 : Nat) : Int)) else .inr (.inr ((k : Int), (k : Int)))) := by
      show cD _ _ _ _ _ = _
      simp only [cD, d1, cond_true, hlt, aX d2, d3, d4, jY, hw, aX e2, e3, veq, Option.bind_some]
      by_cases h : a[k] = b[k] <;> simp [h]
    have ea : a.drop k = a[k] :: a.drop (k + 1) := List.drop_eq_getElem_cons h1
    have eb : b.drop k = b[k] :: b.drop (k + 1) := List.drop_eq_getElem_cons h2
    by_cases h : a[k] = b[k]
    · rw [if_pos h] at hb
      obtain ⟨x, e, hx⟩ := aA4 hl hlb n hn m (k + 1) (by omega) (by omega)
      have hc : eB (a.drop k) (b.drop k) = eB (a.drop (k + 1)) (b.drop (k + 1)) := by
        rw [ea, eb]; unfold eB; rw [gH, if_pos h]
      refine ⟨x, ?_, by rw [hc]; exact hx⟩
      rw [dQ hb]
      rw [show ((k + 1 : Nat) : Int) - 1 = (k : Int) by omega] at e
      exact e
    · rw [if_neg h] at hb
      refine ⟨_, cT hb, .inr ⟨k, rfl, h1, h2, ?_⟩⟩
      rw [ea, eb]; unfold eB; rw [gH, if_neg h]
      simp [List.getD_eq_getElem?_getD, h1, h2]

theorem UN (a b : List aG) : sL a b = some (if fC a && fC b then eB a b else 0) := by
  unfold sL
  rw [JF]
  simp only [Option.bind_some]
  cases ha : fC a
  · simp [cP]
  · simp only [Bool.not_true, Bool.not_false, cP, cond_true, JF, Option.bind_some, Bool.false_or]
    cases hb : fC b
    · simp
    · obtain ⟨la, ma⟩ := wX ha
      obtain ⟨lb, mb⟩ := wX hb
      have hif : (if ((List.length b : Nat) : Int) < ((List.length a : Nat) : Int) then ((List.length b : Nat) : Int) else ((List.length a : Nat) : Int)) = ((min a.length b.length : Nat) : Int) := by split <;> omega
      have hlt : (a.take (min a.length b.length)).length = min a.length b.length := by rw [List.length_take]; omega
      simp only [Bool.not_true, cond_false, hif, Int.toNat_natCast, xM, Option.bind_some, fS, fG, hlt, Bool.and_self, if_true]
      rw [aX ⟨by omega, by omega⟩]
      obtain ⟨x, e, hx⟩ := aA4 (a := a) (b := b) la lb _ rfl _ 0 rfl (Nat.zero_le _)
      have e' : lp (fun s : Int × Int => cD (fun st y0 => (jY y0 st b).bind fun o => some (o.2, o.1)) (a.take (min a.length b.length)) (min a.length b.length : Nat) s.1 s.2) ((-1 : Int), (0 : Int)) = some x := e
      rw [e']
      simp only [List.drop_zero] at hx
      rcases hx with ⟨sg, rfl, h⟩ | ⟨i, rfl, h1, h2, h⟩
      · simp [dV, UX, h]
      · have hi : decide ((i : Int) < 0) = false := by simp
        simp only [Option.bind_some, Sum.elim_inr, hi, cond_false, Int.toNat_natCast]
        rw [aX ⟨by omega, by omega⟩, aX ⟨by omega, by omega⟩]
        have g1 : a.getD i default ∈ a := by simp [List.getD_eq_getElem?_getD, h1]
        have g2 : b.getD i default ∈ b := by simp [List.getD_eq_getElem?_getD, h2]
        rw [aCb (ma _ g1) (mb _ g2), h]
        simp only [Option.bind_some]

theorem aDR {s : ByteArray} {i : Nat} (h : i < s.data.toList.length) : bt s (i : Int) = ((s.data.toList[i]).toNat : Int) := by
  have h' : i < s.data.size := by simpa using h
  unfold bt
  simp only [Int.toNat_natCast, Array.getElem_toList]
  rw [Array.getD_eq_getD_getElem?, Array.getElem?_eq_getElem h']
  rfl

theorem XP {a b : aG} (ha : a.Text.size ≤ 64) (hb : b.Text.size ≤ 64) : ∀ (m k : Nat), min a.Text.size b.Text.size - k = m → k ≤ min a.Text.size b.Text.size →
    ∃ x, lp (fun s => gN a b s) (k : Int) = some x ∧
      ((x = .inl () ∧ gH GA (a.Text.data.toList.drop k) (b.Text.data.toList.drop k) = oM a.Text.size b.Text.size) ∨ (∃ v, x = .inr v ∧ gH GA (a.Text.data.toList.drop k) (b.Text.data.toList.drop k) = v))
  | 0, k, hm, hk => by
    have hsa : a.Text.data.toList.length = a.Text.size := by rw [Array.length_toList]; rfl
    have hsb : b.Text.data.toList.length = b.Text.size := by rw [Array.length_toList]; rfl
    refine ⟨.inl (), cT ?_, .inl ⟨rfl, ?_⟩⟩
    · show gN a b _ = _
      have : ((decide ((k : Int) < ((ByteArray.size a.Text : Nat) : Int))) && (decide ((k : Int) < ((ByteArray.size b.Text : Nat) : Int)))) = false := by
        rw [Bool.and_eq_false_iff]
        simp only [decide_eq_false_iff_not]
        omega
      simp only [gN, this, cond_false]
    · by_cases h1 : a.Text.size ≤ k
      · rw [List.drop_eq_nil_of_le (by omega)]
        by_cases h2 : b.Text.size ≤ k
        · rw [List.drop_eq_nil_of_le (by omega)]
          have : a.Text.size = b.Text.size := by omega
          rw [this, HV]; rfl
        · rw [List.drop_eq_getElem_cons (by omega)]
          show (-1 : Int) = _
          unfold oM; rw [if_pos (by omega)]
      · have h2 : b.Text.size ≤ k := by omega
        rw [@List.drop_eq_nil_of_le _ b.Text.data.toList k (by omega), List.drop_eq_getElem_cons (by omega)]
        show (1 : Int) = _
        unfold oM; rw [if_neg (by omega), if_pos (by omega)]
  | m + 1, k, hm, hk => by
    have hsa : a.Text.data.toList.length = a.Text.size := by rw [Array.length_toList]; rfl
    have hsb : b.Text.data.toList.length = b.Text.size := by rw [Array.length_toList]; rfl
    have h1 : k < a.Text.data.toList.length := by omega
    have h2 : k < b.Text.data.toList.length := by omega
    have c1 : decide ((k : Int) < ((ByteArray.size a.Text : Nat) : Int)) = true := by simp; omega
    have c2 : decide ((k : Int) < ((ByteArray.size b.Text : Nat) : Int)) = true := by simp; omega
    have p1 : 0 ≤ (k : Int) ∧ (k : Int) < ((ByteArray.size a.Text : Nat) : Int) := ⟨by omega, by omega⟩
    have p2 : 0 ≤ (k : Int) ∧ (k : Int) < ((ByteArray.size b.Text : Nat) : Int) := ⟨by omega, by omega⟩
    have hw : IntKind.i64.wrap ((k : Int) + 1) = ((k + 1 : Nat) : Int) := by rw [dW (by omega) (by omega)]; omega
    have ea := List.drop_eq_getElem_cons h1
    have eb := List.drop_eq_getElem_cons h2
    have hb' : gN a b (k : Int) = some (if a.Text.data.toList[k] = b.Text.data.toList[k] then .inl ((k + 1 : Nat) : Int) else .inr (.inr (GA a.Text.data.toList[k] b.Text.data.toList[k]))) := by
      simp only [gN, c1, c2, Bool.and_self, cond_true, aX p1, aX p2, aDR h1, aDR h2, hw]
      generalize a.Text.data.toList[k] = x
      generalize b.Text.data.toList[k] = y
      by_cases e : x = y
      · subst e; simp
      · have e' : ¬ ((x.toNat : Int) = (y.toNat : Int)) := fun h => e (UInt8.toNat_inj.1 (by omega))
        simp only [e', decide_false, Bool.not_false, cond_true, if_neg e]
        unfold GA
        simp only [UInt8.lt_iff_toNat_lt]
        by_cases l : x.toNat < y.toNat
        · have : ((x.toNat : Int) < (y.toNat : Int)) := by omega
          simp [l]
        · have l2 : y.toNat < x.toNat := by
            rcases Nat.lt_or_ge y.toNat x.toNat with h | h
            · exact h
            · exact absurd (UInt8.toNat_inj.1 (by omega)) e
          simp [l, l2]
    by_cases e : a.Text.data.toList[k] = b.Text.data.toList[k]
    · rw [if_pos e] at hb'
      obtain ⟨x, hx1, hx2⟩ := XP ha hb m (k + 1) (by omega) (by omega)
      refine ⟨x, by rw [dQ (show (fun s => gN a b s) (k : Int) = _ from hb')]; exact hx1, ?_⟩
      rw [ea, eb, gH, if_pos e]; exact hx2
    · rw [if_neg e] at hb'
      refine ⟨_, cT (show (fun s => gN a b s) (k : Int) = _ from hb'), .inr ⟨_, rfl, ?_⟩⟩
      rw [ea, eb, gH, if_neg e]

theorem VR {v : aG} (h : vI v = true) : v.Text.size ≤ 64 := by
  rcases OA h with h | ⟨_, h⟩
  · rw [(HC h).2]; decide
  · exact (EK h).2.2

theorem UD {v : aG} (h : vI v = true) : v.Kind = 1 ∨ v.Kind = 2 := by
  rcases OA h with h | ⟨_, h⟩
  · exact .inl (HC h).1
  · exact .inr (EK h).1

end Go.Abs
