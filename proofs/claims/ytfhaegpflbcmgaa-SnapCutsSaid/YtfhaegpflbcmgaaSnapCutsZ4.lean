/- What the law SnapCuts stands on: the framework, the given functions as plain functions, their walks, and the plain laws; part 4. -/
import Derived.Test.YtfhaegpflbcmgaaSnapCutsZ3
set_option linter.unusedSimpArgs false
set_option linter.unusedVariables false
namespace Go.Abs
open Go Go.RowKit Go.Proofs
theorem vO (lo0p : Nat) (aA : (List Int)) (a1 : Int) (b2 : Int) (cG : Int) (r : ((Int × Bool) × List Int)) (h0 : fU aA a1 b2 cG = some r) : mA Try.prog 86 lo0p 1 (List.map (eI) aA) (List.map (eI) r.2) [(.msl 1 lo0p 0 (List.length aA)), (eI a1), (eI b2), (eI cG)] (.tup [(eI r.1.1), (aE r.1.2)]) := by
  intro H0 hl0
  refine dG Try.func86 ?_
  have hO := aJ.sH hl0
  clear hl0
  obtain ⟨N0, hN0⟩ : ∃ n, n = List.length aA := ⟨_, rfl⟩
  have hN : List.length aA = N0 := hN0.symm
  unfold fU at h0
  refine aT aD 2 [] [] ?_
  refine aN ?_
  refine fF (fG []) aD 16 ?_
  obtain ⟨c1, h0⟩ := aV h0
  refine cD 7 [0 ≤ cG ∧ cG < (lN aA)] ⟨c1, trivial⟩ ?_
  refine gU 0 lo0p 1 (0 + Int.toNat cG) (eI (gD aA cG)) (eI (gD aA cG)) (List.map (eI) aA) hO (bX c1) ?_
  obtain ⟨c2, h0⟩ := aV h0
  refine cD 11 [0 ≤ a1 ∧ a1 < (lN aA)] ⟨c2, trivial⟩ ?_
  refine gU 0 lo0p 1 (0 + Int.toNat a1) (eI (gD aA a1)) (eI (gD aA a1)) (List.map (eI) aA) hO (bX c2) ?_
  obtain ⟨c3, h0⟩ := aV h0
  refine cD 13 [0 ≤ a1 ∧ a1 < (lN aA)] ⟨c3, trivial⟩ ?_
  refine kH 0 lo0p 1 (0 + Int.toNat a1) (eI (gD aA a1)) (eI (gD aA cG)) (List.map (eI) aA) [(lo0p, 1, List.map (eI) (List.set aA (Int.toNat a1) (gD aA cG)))] hO (bX c3) (by simp only [List.set, gQ]) ?_
  intro H hO
  replace hN : List.length (List.set aA (Int.toNat a1) (gD aA cG)) = N0 := by simpa using hN
  obtain ⟨c4, h0⟩ := aV h0
  refine cD 15 [0 ≤ cG ∧ cG < (lN aA)] ⟨c4, trivial⟩ ?_
  refine kH 0 lo0p 1 (0 + Int.toNat cG) (eI (gD (List.set aA (Int.toNat a1) (gD aA cG)) cG)) (eI (gD aA a1)) (List.map (eI) (List.set aA (Int.toNat a1) (gD aA cG))) [(lo0p, 1, List.map (eI) (List.set (List.set aA (Int.toNat a1) (gD aA cG)) (Int.toNat cG) (gD aA a1)))] hO (lP c4 (by simp [])) (by simp only [List.set, gQ]) ?_
  intro H hO
  replace hN : List.length (List.set (List.set aA (Int.toNat a1) (gD aA cG)) (Int.toNat cG) (gD aA a1)) = N0 := by simpa using hN
  refine mW (by kernel_rfl) ?_
  refine cV (l := [(0, (.msl 1 lo0p 0 (List.length (List.set (List.set aA (Int.toNat a1) (gD aA cG)) (Int.toNat cG) (gD aA a1))))), (1, (eI a1)), (2, (eI b2))]) ⟨[(0, (.msl 1 lo0p 0 (List.length aA))), (1, (eI a1)), (2, (eI b2))], by kernel_rfl, rfl, ⟨aO.eq (by simp []), aO.refl _, aO.refl _, trivial⟩⟩ ?_
  refine aG (aF (?_))
  refine aT aD 6 [2] [(10, (eI (wR (a1 + (1 : Int))))), (11, (eI (wR (b2 - (1 : Int)))))] ?_
  refine dS (fun T H => ∃ aA : List Int, ∃ i10 : Int, ∃ j11 : Int, Has T [(0, (.msl 1 lo0p 0 (List.length aA))), (1, (eI a1)), (10, (eI i10)), (11, (eI j11))] ∧ aJ ⟨H0, [lo0p], []⟩ H [(lo0p, 1, List.map (eI) aA)] ∧ List.length aA = N0 ∧ hU aA a1 i10 j11 = some r) ?_ ?_
  · clear hO hN h0
    rintro T H ⟨aA, i10, j11, hT, hO, hN, h0⟩
    refine aY hT ?_
    clear hT
    unfold hU at h0
    refine dS (fun T H => ∃ aA : List Int, ∃ j11 : Int, Has T [(0, (.msl 1 lo0p 0 (List.length aA))), (1, (eI a1)), (10, (eI i10)), (11, (eI j11))] ∧ aJ ⟨H0, [lo0p], []⟩ H [(lo0p, 1, List.map (eI) aA)] ∧ List.length aA = N0 ∧ eG aA a1 i10 j11 = some r) ?_ ?_
    · clear hO hN h0
      rintro T H ⟨aA, j11, hT, hO, hN, h0⟩
      refine aY hT ?_
      clear hT
      unfold eG at h0
      refine aN ?_
      refine aT aD 3 [] [(65, (aE (decide (j11 < i10))))] ?_
      refine bH h0 (fun h0 => ?_) (fun h0 => ?_)
      · refine aN ?_
        refine fF (fG []) aD 16 ?_
        obtain ⟨c6, h0⟩ := aV h0
        refine cD 7 [0 ≤ a1 ∧ a1 < (lN aA)] ⟨c6, trivial⟩ ?_
        refine gU 0 lo0p 1 (0 + Int.toNat a1) (eI (gD aA a1)) (eI (gD aA a1)) (List.map (eI) aA) hO (bX c6) ?_
        obtain ⟨c7, h0⟩ := aV h0
        refine cD 11 [0 ≤ j11 ∧ j11 < (lN aA)] ⟨c7, trivial⟩ ?_
        refine gU 0 lo0p 1 (0 + Int.toNat j11) (eI (gD aA j11)) (eI (gD aA j11)) (List.map (eI) aA) hO (bX c7) ?_
        obtain ⟨c8, h0⟩ := aV h0
        refine cD 13 [0 ≤ j11 ∧ j11 < (lN aA)] ⟨c8, trivial⟩ ?_
        refine kH 0 lo0p 1 (0 + Int.toNat j11) (eI (gD aA j11)) (eI (gD aA a1)) (List.map (eI) aA) [(lo0p, 1, List.map (eI) (List.set aA (Int.toNat j11) (gD aA a1)))] hO (bX c8) (by simp only [List.set, gQ]) ?_
        intro H hO
        replace hN : List.length (List.set aA (Int.toNat j11) (gD aA a1)) = N0 := by simpa using hN
        obtain ⟨c9, h0⟩ := aV h0
        refine cD 15 [0 ≤ a1 ∧ a1 < (lN aA)] ⟨c9, trivial⟩ ?_
        refine kH 0 lo0p 1 (0 + Int.toNat a1) (eI (gD (List.set aA (Int.toNat j11) (gD aA a1)) a1)) (eI (gD aA j11)) (List.map (eI) (List.set aA (Int.toNat j11) (gD aA a1))) [(lo0p, 1, List.map (eI) (List.set (List.set aA (Int.toNat j11) (gD aA a1)) (Int.toNat a1) (gD aA j11)))] hO (lP c9 (by simp [])) (by simp only [List.set, gQ]) ?_
        intro H hO
        replace hN : List.length (List.set (List.set aA (Int.toNat j11) (gD aA a1)) (Int.toNat a1) (gD aA j11)) = N0 := by simpa using hN
        refine mW (by kernel_rfl) ?_
        refine cV (l := [(0, (.msl 1 lo0p 0 (List.length (List.set (List.set aA (Int.toNat j11) (gD aA a1)) (Int.toNat a1) (gD aA j11))))), (11, (eI j11))]) ⟨[(0, (.msl 1 lo0p 0 (List.length aA))), (11, (eI j11))], by kernel_rfl, rfl, ⟨aO.eq (by simp []), aO.refl _, trivial⟩⟩ ?_
        refine aG (aF (?_))
        refine aT aD 3 [11] [(8, (eI j11)), (9, (aE true))] ?_
        refine bJ ?_
        obtain rfl := oI h0
        exact aG (aP (lW (x := (.tup [(eI j11), (aE true)])) (by kernel_rfl) (aO.refl _) ⟨rfl, hO.ext, hO.at 0 (by kernel_rfl), by simp only [List.length_map]; exact hN.trans hN0⟩))
      refine bI ?_
      refine bG [(0, (.msl 1 lo0p 0 (List.length aA))), (1, (eI a1)), (10, (eI i10)), (11, (eI j11))] ?_
      refine aN ?_
      refine fF (fG []) aD 16 ?_
      obtain ⟨c10, h0⟩ := aV h0
      refine cD 7 [0 ≤ j11 ∧ j11 < (lN aA)] ⟨c10, trivial⟩ ?_
      refine gU 0 lo0p 1 (0 + Int.toNat j11) (eI (gD aA j11)) (eI (gD aA j11)) (List.map (eI) aA) hO (bX c10) ?_
      obtain ⟨c11, h0⟩ := aV h0
      refine cD 11 [0 ≤ i10 ∧ i10 < (lN aA)] ⟨c11, trivial⟩ ?_
      refine gU 0 lo0p 1 (0 + Int.toNat i10) (eI (gD aA i10)) (eI (gD aA i10)) (List.map (eI) aA) hO (bX c11) ?_
      obtain ⟨c12, h0⟩ := aV h0
      refine cD 13 [0 ≤ i10 ∧ i10 < (lN aA)] ⟨c12, trivial⟩ ?_
      refine kH 0 lo0p 1 (0 + Int.toNat i10) (eI (gD aA i10)) (eI (gD aA j11)) (List.map (eI) aA) [(lo0p, 1, List.map (eI) (List.set aA (Int.toNat i10) (gD aA j11)))] hO (bX c12) (by simp only [List.set, gQ]) ?_
      intro H hO
      replace hN : List.length (List.set aA (Int.toNat i10) (gD aA j11)) = N0 := by simpa using hN
      obtain ⟨c13, h0⟩ := aV h0
      refine cD 15 [0 ≤ j11 ∧ j11 < (lN aA)] ⟨c13, trivial⟩ ?_
      refine kH 0 lo0p 1 (0 + Int.toNat j11) (eI (gD (List.set aA (Int.toNat i10) (gD aA j11)) j11)) (eI (gD aA i10)) (List.map (eI) (List.set aA (Int.toNat i10) (gD aA j11))) [(lo0p, 1, List.map (eI) (List.set (List.set aA (Int.toNat i10) (gD aA j11)) (Int.toNat j11) (gD aA i10)))] hO (lP c13 (by simp [])) (by simp only [List.set, gQ]) ?_
      intro H hO
      replace hN : List.length (List.set (List.set aA (Int.toNat i10) (gD aA j11)) (Int.toNat j11) (gD aA i10)) = N0 := by simpa using hN
      refine mW (by kernel_rfl) ?_
      refine cV (l := [(0, (.msl 1 lo0p 0 (List.length (List.set (List.set aA (Int.toNat i10) (gD aA j11)) (Int.toNat j11) (gD aA i10))))), (1, (eI a1)), (10, (eI i10)), (11, (eI j11))]) ⟨[(0, (.msl 1 lo0p 0 (List.length aA))), (1, (eI a1)), (10, (eI i10)), (11, (eI j11))], by kernel_rfl, rfl, ⟨aO.eq (by simp []), aO.refl _, aO.refl _, aO.refl _, trivial⟩⟩ ?_
      refine aG (aF (?_))
      refine aT aD 3 [10] [(10, (eI (wR (i10 + (1 : Int)))))] ?_
      refine aT aD 3 [11] [(11, (eI (wR (j11 - (1 : Int)))))] ?_
      refine dS (fun T H => ∃ aA : List Int, ∃ j11 : Int, Has T [(0, (.msl 1 lo0p 0 (List.length aA))), (1, (eI a1)), (11, (eI j11))] ∧ aJ ⟨H0, [lo0p], []⟩ H [(lo0p, 1, List.map (eI) aA)] ∧ List.length aA = N0 ∧ gZ aA a1 j11 = some r) ?_ ?_
      · clear hO hN h0
        rintro T H ⟨aA, j11, hT, hO, hN, h0⟩
        refine aY hT ?_
        clear hT
        unfold gZ at h0
        refine aN ?_
        refine fF (fG []) aD 16 ?_
        obtain ⟨c14, h0⟩ := aV h0
        refine cD 7 [0 ≤ a1 ∧ a1 < (lN aA)] ⟨c14, trivial⟩ ?_
        refine gU 0 lo0p 1 (0 + Int.toNat a1) (eI (gD aA a1)) (eI (gD aA a1)) (List.map (eI) aA) hO (bX c14) ?_
        obtain ⟨c15, h0⟩ := aV h0
        refine cD 11 [0 ≤ j11 ∧ j11 < (lN aA)] ⟨c15, trivial⟩ ?_
        refine gU 0 lo0p 1 (0 + Int.toNat j11) (eI (gD aA j11)) (eI (gD aA j11)) (List.map (eI) aA) hO (bX c15) ?_
        obtain ⟨c16, h0⟩ := aV h0
        refine cD 13 [0 ≤ j11 ∧ j11 < (lN aA)] ⟨c16, trivial⟩ ?_
        refine kH 0 lo0p 1 (0 + Int.toNat j11) (eI (gD aA j11)) (eI (gD aA a1)) (List.map (eI) aA) [(lo0p, 1, List.map (eI) (List.set aA (Int.toNat j11) (gD aA a1)))] hO (bX c16) (by simp only [List.set, gQ]) ?_
        intro H hO
        replace hN : List.length (List.set aA (Int.toNat j11) (gD aA a1)) = N0 := by simpa using hN
        obtain ⟨c17, h0⟩ := aV h0
        refine cD 15 [0 ≤ a1 ∧ a1 < (lN aA)] ⟨c17, trivial⟩ ?_
        refine kH 0 lo0p 1 (0 + Int.toNat a1) (eI (gD (List.set aA (Int.toNat j11) (gD aA a1)) a1)) (eI (gD aA j11)) (List.map (eI) (List.set aA (Int.toNat j11) (gD aA a1))) [(lo0p, 1, List.map (eI) (List.set (List.set aA (Int.toNat j11) (gD aA a1)) (Int.toNat a1) (gD aA j11)))] hO (lP c17 (by simp [])) (by simp only [List.set, gQ]) ?_
        intro H hO
        replace hN : List.length (List.set (List.set aA (Int.toNat j11) (gD aA a1)) (Int.toNat a1) (gD aA j11)) = N0 := by simpa using hN
        refine mW (by kernel_rfl) ?_
        refine cV (l := [(0, (.msl 1 lo0p 0 (List.length (List.set (List.set aA (Int.toNat j11) (gD aA a1)) (Int.toNat a1) (gD aA j11))))), (11, (eI j11))]) ⟨[(0, (.msl 1 lo0p 0 (List.length aA))), (11, (eI j11))], by kernel_rfl, rfl, ⟨aO.eq (by simp []), aO.refl _, trivial⟩⟩ ?_
        refine aG (aF (?_))
        refine aT aD 3 [11] [(8, (eI j11)), (9, (aE false))] ?_
        refine bJ ?_
        obtain rfl := oI h0
        exact aG (lW (x := (.tup [(eI j11), (aE false)])) (by kernel_rfl) (aO.refl _) ⟨rfl, hO.ext, hO.at 0 (by kernel_rfl), by simp only [List.length_map]; exact hN.trans hN0⟩)
      refine bY 4 ?_
      refine eU [(0, (.msl 1 lo0p 0 (List.length (List.set (List.set aA (Int.toNat i10) (gD aA j11)) (Int.toNat j11) (gD aA i10))))), (1, (eI a1)), (10, (eI (wR (i10 + (1 : Int))))), (11, (eI (wR (j11 - (1 : Int)))))] ?_
      refine dU (fun T H => ∃ aA : List Int, ∃ i10 : Int, ∃ j11 : Int, Has T [(0, (.msl 1 lo0p 0 (List.length aA))), (1, (eI a1)), (10, (eI i10)), (11, (eI j11))] ∧ aJ ⟨H0, [lo0p], []⟩ H [(lo0p, 1, List.map (eI) aA)] ∧ List.length aA = N0 ∧ jQ aA a1 i10 j11 = some r) ?_ ⟨List.set (List.set aA (Int.toNat i10) (gD aA j11)) (Int.toNat j11) (gD aA i10), wR (i10 + (1 : Int)), wR (j11 - (1 : Int)), .eq (by kernel_rfl), hO, hN, h0⟩
      clear hO hN h0
      rintro T H ⟨aA, i10, j11, hT, hO, hN, h0⟩
      refine aY hT ?_
      clear hT
      unfold jQ at h0
      obtain ⟨rr0, hl0, h0⟩ := aX h0
      refine cS (by kernel_rfl) (fun (s : List Int × Int × Int) T H => Has T [(0, (.msl 1 lo0p 0 (List.length s.1))), (1, (eI a1)), (10, (eI s.2.1)), (11, (eI s.2.2))] ∧ aJ ⟨H0, [lo0p], []⟩ H [(lo0p, 1, List.map (eI) s.1)] ∧ List.length s.1 = N0) hl0 ⟨.eq (by kernel_rfl), hO, hN⟩ ?_
      clear hO hN
      rintro k0 s out1 T H ⟨hT, hO, hN⟩ h1 ho0
      obtain ⟨aA, i10, j11⟩ := s
      replace h1 : cZ a1 aA i10 j11 = some out1 := h1
      try dsimp only at hT
      refine aY hT ?_
      clear hT
      unfold cZ at h1
      refine bY 5 ?_
      refine dS (fun T H => ∃ aA : List Int, ∃ i10 : Int, Has T [(0, (.msl 1 lo0p 0 (List.length aA))), (1, (eI a1)), (10, (eI i10)), (11, (eI j11))] ∧ aJ ⟨H0, [lo0p], []⟩ H [(lo0p, 1, List.map (eI) aA)] ∧ List.length aA = N0 ∧ gY aA a1 i10 j11 = some out1) ?_ ?_
      · clear hO hN h1
        rintro T H ⟨aA, i10, hT, hO, hN, h1⟩
        refine aY hT ?_
        clear hT
        unfold gY at h1
        refine dS (fun T H => ∃ aA : List Int, ∃ j11 : Int, Has T [(0, (.msl 1 lo0p 0 (List.length aA))), (1, (eI a1)), (10, (eI i10)), (11, (eI j11))] ∧ aJ ⟨H0, [lo0p], []⟩ H [(lo0p, 1, List.map (eI) aA)] ∧ List.length aA = N0 ∧ eJ aA a1 i10 j11 = some out1) ?_ ?_
        · clear hO hN h1
          rintro T H ⟨aA, j11, hT, hO, hN, h1⟩
          refine aY hT ?_
          clear hT
          unfold eJ at h1
          refine aN ?_
          refine aT aD 3 [] [(134, (aE (decide (j11 < i10))))] ?_
          refine bH h1 (fun h1 => ?_) (fun h1 => ?_)
          · refine fA 4 ?_
            obtain rfl := oI h1
            obtain rfl : _ = rr0 := ho0
            replace h0 : gZ aA a1 j11 = some r := h0
            exact aG (aS (qZ (by kernel_rfl) (aS (bN (aF (⟨rfl, _, _, .eq (by kernel_rfl), hO, hN, h0⟩))))))
          refine bI ?_
          refine bG [(0, (.msl 1 lo0p 0 (List.length aA))), (1, (eI a1)), (10, (eI i10)), (11, (eI j11))] ?_
          refine aN ?_
          refine fF (fG []) aD 16 ?_
          obtain ⟨c19, h1⟩ := aV h1
          refine cD 7 [0 ≤ j11 ∧ j11 < (lN aA)] ⟨c19, trivial⟩ ?_
          refine gU 0 lo0p 1 (0 + Int.toNat j11) (eI (gD aA j11)) (eI (gD aA j11)) (List.map (eI) aA) hO (bX c19) ?_
          obtain ⟨c20, h1⟩ := aV h1
          refine cD 11 [0 ≤ i10 ∧ i10 < (lN aA)] ⟨c20, trivial⟩ ?_
          refine gU 0 lo0p 1 (0 + Int.toNat i10) (eI (gD aA i10)) (eI (gD aA i10)) (List.map (eI) aA) hO (bX c20) ?_
          obtain ⟨c21, h1⟩ := aV h1
          refine cD 13 [0 ≤ i10 ∧ i10 < (lN aA)] ⟨c21, trivial⟩ ?_
          refine kH 0 lo0p 1 (0 + Int.toNat i10) (eI (gD aA i10)) (eI (gD aA j11)) (List.map (eI) aA) [(lo0p, 1, List.map (eI) (List.set aA (Int.toNat i10) (gD aA j11)))] hO (bX c21) (by simp only [List.set, gQ]) ?_
          intro H hO
          replace hN : List.length (List.set aA (Int.toNat i10) (gD aA j11)) = N0 := by simpa using hN
          obtain ⟨c22, h1⟩ := aV h1
          refine cD 15 [0 ≤ j11 ∧ j11 < (lN aA)] ⟨c22, trivial⟩ ?_
          refine kH 0 lo0p 1 (0 + Int.toNat j11) (eI (gD (List.set aA (Int.toNat i10) (gD aA j11)) j11)) (eI (gD aA i10)) (List.map (eI) (List.set aA (Int.toNat i10) (gD aA j11))) [(lo0p, 1, List.map (eI) (List.set (List.set aA (Int.toNat i10) (gD aA j11)) (Int.toNat j11) (gD aA i10)))] hO (lP c22 (by simp [])) (by simp only [List.set, gQ]) ?_
          intro H hO
          replace hN : List.length (List.set (List.set aA (Int.toNat i10) (gD aA j11)) (Int.toNat j11) (gD aA i10)) = N0 := by simpa using hN
          refine mW (by kernel_rfl) ?_
          refine cV (l := [(0, (.msl 1 lo0p 0 (List.length (List.set (List.set aA (Int.toNat i10) (gD aA j11)) (Int.toNat j11) (gD aA i10))))), (1, (eI a1)), (10, (eI i10)), (11, (eI j11))]) ⟨[(0, (.msl 1 lo0p 0 (List.length aA))), (1, (eI a1)), (10, (eI i10)), (11, (eI j11))], by kernel_rfl, rfl, ⟨aO.eq (by simp []), aO.refl _, aO.refl _, aO.refl _, trivial⟩⟩ ?_
          refine aG (aF (?_))
          refine aT aD 3 [10] [(10, (eI (wR (i10 + (1 : Int)))))] ?_
          refine aU aD 3 ?_
          refine bA ?_
          exact aG (aW (aF (⟨rfl, _, (oI h1).symm, .eq (by kernel_rfl), hO, hN⟩)))
        refine bY 8 ?_
        refine eU [(0, (.msl 1 lo0p 0 (List.length aA))), (1, (eI a1)), (10, (eI i10)), (11, (eI j11))] ?_
        refine dU (fun T H => ∃ aA : List Int, ∃ j11 : Int, Has T [(0, (.msl 1 lo0p 0 (List.length aA))), (1, (eI a1)), (10, (eI i10)), (11, (eI j11))] ∧ aJ ⟨H0, [lo0p], []⟩ H [(lo0p, 1, List.map (eI) aA)] ∧ List.length aA = N0 ∧ jP aA a1 i10 j11 = some out1) ?_ ⟨aA, j11, .eq (by kernel_rfl), hO, hN, h1⟩
        clear hO hN h1
        rintro T H ⟨aA, j11, hT, hO, hN, h1⟩
        refine aY hT ?_
        clear hT
        unfold jP at h1
        obtain ⟨rr1, hl1, h1⟩ := aX h1
        refine cS (by kernel_rfl) (fun (s : List Int × Int) T H => Has T [(0, (.msl 1 lo0p 0 (List.length s.1))), (1, (eI a1)), (10, (eI i10)), (11, (eI s.2))] ∧ aJ ⟨H0, [lo0p], []⟩ H [(lo0p, 1, List.map (eI) s.1)] ∧ List.length s.1 = N0) hl1 ⟨.eq (by kernel_rfl), hO, hN⟩ ?_
        clear hO hN
        rintro k1 s out2 T H ⟨hT, hO, hN⟩ h2 ho1
        obtain ⟨aA, j11⟩ := s
        replace h2 : eE a1 i10 aA j11 = some out2 := h2
        try dsimp only at hT
        refine aY hT ?_
        clear hT
        unfold eE at h2
        refine aN ?_
        refine aN ?_
        obtain ⟨c23, h2⟩ := aV h2
        obtain ⟨c24, h2⟩ := aV h2
        obtain ⟨x25, hx26, h2⟩ := aX h2
        refine fF (fG []) aD 15 ?_
        refine mT (K := fun T H => Has (lift T) [(0, (.msl 1 lo0p 0 (List.length aA))), (1, (eI a1)), (10, (eI i10)), (11, (eI j11)), (129, (aE ((decide (i10 ≤ j11)) && (!x25))))] ∧ aJ ⟨H0, [lo0p], []⟩ H [(lo0p, 1, List.map (eI) aA)]) ?_ ?_
        · refine mX 4 ?_
          refine lB (t := 118) (e := decide (i10 ≤ j11)) (by kernel_rfl) (fun hg27 => ?_) (fun hg27 => ?_)
          · refine cD 7 [0 ≤ j11 ∧ j11 < (lN aA)] ⟨(c23 hg27), trivial⟩ ?_
            refine iY 0 lo0p 1 (0 + Int.toNat j11) (eI (gD aA j11)) (eI (gD aA j11)) (List.map (eI) aA) (by kernel_rfl) (by kernel_rfl) (by kernel_rfl) hO (by kernel_rfl) (bX (c23 hg27)) ?_
            refine cD 11 [0 ≤ a1 ∧ a1 < (lN aA)] ⟨(c24 hg27), trivial⟩ ?_
            refine iY 0 lo0p 1 (0 + Int.toNat a1) (eI (gD aA a1)) (eI (gD aA a1)) (List.map (eI) aA) (by kernel_rfl) (by kernel_rfl) (by kernel_rfl) hO (by kernel_rfl) (bX (c24 hg27)) ?_
            refine mJ 70 [(eI (gD aA j11)), (eI (gD aA a1))] (aE x25) (by kernel_rfl) (by kernel_rfl) (fM (gD aA j11) (gD aA a1) _ (kE hx26 hg27)) hO ?_
            intro H hO
            refine jB ?_
            exact ⟨⟨[(0, (.msl 1 lo0p 0 (List.length aA))), (1, (eI a1)), (10, (eI i10)), (11, (eI j11)), (129, (aE (!x25)))], by kernel_rfl, rfl, ⟨aO.refl _, aO.refl _, aO.refl _, aO.refl _, aO.eq (congrArg aE (jD hg27 rfl).symm), trivial⟩⟩, hO⟩
          refine jB ?_
          exact ⟨⟨[(0, (.msl 1 lo0p 0 (List.length aA))), (1, (eI a1)), (10, (eI i10)), (11, (eI j11)), (129, (aE false))], by kernel_rfl, rfl, ⟨aO.refl _, aO.refl _, aO.refl _, aO.refl _, aO.eq (congrArg aE (jD hg27 rfl).symm), trivial⟩⟩, hO⟩
        · rintro T H ⟨hT, hO⟩
          refine cV hT ?_
          clear hT
          refine aG (aF ?_)
          refine bH h2 (fun h2 => ?_) (fun h2 => ?_)
          · refine bI ?_
            refine bG [(0, (.msl 1 lo0p 0 (List.length aA))), (1, (eI a1)), (10, (eI i10)), (11, (eI j11))] ?_
            refine bY 9 ?_
            refine aU aD 3 ?_
            refine bA ?_
            exact aG (aW (aF (⟨rfl, _, (oI h2).symm, .eq (by kernel_rfl), hO, hN⟩)))
          refine fA 8 ?_
          obtain rfl := oI h2
          obtain rfl : _ = rr1 := ho1
          replace h1 : eJ aA a1 i10 j11 = some out1 := h1
          exact aG (aS (aS (bN (aF (⟨rfl, _, _, .eq (by kernel_rfl), hO, hN, h1⟩)))))
      refine bY 6 ?_
      refine eU [(0, (.msl 1 lo0p 0 (List.length aA))), (1, (eI a1)), (10, (eI i10)), (11, (eI j11))] ?_
      refine dU (fun T H => ∃ aA : List Int, ∃ i10 : Int, Has T [(0, (.msl 1 lo0p 0 (List.length aA))), (1, (eI a1)), (10, (eI i10)), (11, (eI j11))] ∧ aJ ⟨H0, [lo0p], []⟩ H [(lo0p, 1, List.map (eI) aA)] ∧ List.length aA = N0 ∧ jN aA a1 i10 j11 = some out1) ?_ ⟨aA, i10, .eq (by kernel_rfl), hO, hN, h1⟩
      clear hO hN h1
      rintro T H ⟨aA, i10, hT, hO, hN, h1⟩
      refine aY hT ?_
      clear hT
      unfold jN at h1
      obtain ⟨rr1, hl1, h1⟩ := aX h1
      refine cS (by kernel_rfl) (fun (s : List Int × Int) T H => Has T [(0, (.msl 1 lo0p 0 (List.length s.1))), (1, (eI a1)), (10, (eI s.2)), (11, (eI j11))] ∧ aJ ⟨H0, [lo0p], []⟩ H [(lo0p, 1, List.map (eI) s.1)] ∧ List.length s.1 = N0) hl1 ⟨.eq (by kernel_rfl), hO, hN⟩ ?_
      clear hO hN
      rintro k1 s out2 T H ⟨hT, hO, hN⟩ h2 ho1
      obtain ⟨aA, i10⟩ := s
      replace h2 : eH a1 j11 aA i10 = some out2 := h2
      try dsimp only at hT
      refine aY hT ?_
      clear hT
      unfold eH at h2
      refine aN ?_
      refine aN ?_
      obtain ⟨c29, h2⟩ := aV h2
      obtain ⟨c30, h2⟩ := aV h2
      obtain ⟨x31, hx32, h2⟩ := aX h2
      refine fF (fG []) aD 14 ?_
      refine mT (K := fun T H => Has (lift T) [(0, (.msl 1 lo0p 0 (List.length aA))), (1, (eI a1)), (10, (eI i10)), (11, (eI j11)), (112, (aE ((decide (i10 ≤ j11)) && x31)))] ∧ aJ ⟨H0, [lo0p], []⟩ H [(lo0p, 1, List.map (eI) aA)]) ?_ ?_
      · refine mX 4 ?_
        refine lB (t := 102) (e := decide (i10 ≤ j11)) (by kernel_rfl) (fun hg33 => ?_) (fun hg33 => ?_)
        · refine cD 7 [0 ≤ i10 ∧ i10 < (lN aA)] ⟨(c29 hg33), trivial⟩ ?_
          refine iY 0 lo0p 1 (0 + Int.toNat i10) (eI (gD aA i10)) (eI (gD aA i10)) (List.map (eI) aA) (by kernel_rfl) (by kernel_rfl) (by kernel_rfl) hO (by kernel_rfl) (bX (c29 hg33)) ?_
          refine cD 11 [0 ≤ a1 ∧ a1 < (lN aA)] ⟨(c30 hg33), trivial⟩ ?_
          refine iY 0 lo0p 1 (0 + Int.toNat a1) (eI (gD aA a1)) (eI (gD aA a1)) (List.map (eI) aA) (by kernel_rfl) (by kernel_rfl) (by kernel_rfl) hO (by kernel_rfl) (bX (c30 hg33)) ?_
          refine mJ 70 [(eI (gD aA i10)), (eI (gD aA a1))] (aE x31) (by kernel_rfl) (by kernel_rfl) (fM (gD aA i10) (gD aA a1) _ (kE hx32 hg33)) hO ?_
          intro H hO
          refine jB ?_
          exact ⟨⟨[(0, (.msl 1 lo0p 0 (List.length aA))), (1, (eI a1)), (10, (eI i10)), (11, (eI j11)), (112, (aE x31))], by kernel_rfl, rfl, ⟨aO.refl _, aO.refl _, aO.refl _, aO.refl _, aO.eq (congrArg aE (jD hg33 rfl).symm), trivial⟩⟩, hO⟩
        refine jB ?_
        exact ⟨⟨[(0, (.msl 1 lo0p 0 (List.length aA))), (1, (eI a1)), (10, (eI i10)), (11, (eI j11)), (112, (aE false))], by kernel_rfl, rfl, ⟨aO.refl _, aO.refl _, aO.refl _, aO.refl _, aO.eq (congrArg aE (jD hg33 rfl).symm), trivial⟩⟩, hO⟩
      · rintro T H ⟨hT, hO⟩
        refine cV hT ?_
        clear hT
        refine aG (aF ?_)
        refine bH h2 (fun h2 => ?_) (fun h2 => ?_)
        · refine bI ?_
          refine bG [(0, (.msl 1 lo0p 0 (List.length aA))), (1, (eI a1)), (10, (eI i10)), (11, (eI j11))] ?_
          refine bY 7 ?_
          refine aU aD 3 ?_
          refine bA ?_
          exact aG (aW (aF (⟨rfl, _, (oI h2).symm, .eq (by kernel_rfl), hO, hN⟩)))
        refine fA 6 ?_
        obtain rfl := oI h2
        obtain rfl : _ = rr1 := ho1
        replace h1 : gY aA a1 i10 j11 = some out1 := h1
        exact aG (aS (aS (bN (aF (⟨rfl, _, _, .eq (by kernel_rfl), hO, hN, h1⟩)))))
    refine bY 2 ?_
    refine eU [(0, (.msl 1 lo0p 0 (List.length aA))), (1, (eI a1)), (10, (eI i10)), (11, (eI j11))] ?_
    refine dU (fun T H => ∃ aA : List Int, ∃ j11 : Int, Has T [(0, (.msl 1 lo0p 0 (List.length aA))), (1, (eI a1)), (10, (eI i10)), (11, (eI j11))] ∧ aJ ⟨H0, [lo0p], []⟩ H [(lo0p, 1, List.map (eI) aA)] ∧ List.length aA = N0 ∧ jM aA a1 i10 j11 = some r) ?_ ⟨aA, j11, .eq (by kernel_rfl), hO, hN, h0⟩
    clear hO hN h0
    rintro T H ⟨aA, j11, hT, hO, hN, h0⟩
    refine aY hT ?_
    clear hT
    unfold jM at h0
    obtain ⟨rr0, hl0, h0⟩ := aX h0
    refine cS (by kernel_rfl) (fun (s : List Int × Int) T H => Has T [(0, (.msl 1 lo0p 0 (List.length s.1))), (1, (eI a1)), (10, (eI i10)), (11, (eI s.2))] ∧ aJ ⟨H0, [lo0p], []⟩ H [(lo0p, 1, List.map (eI) s.1)] ∧ List.length s.1 = N0) hl0 ⟨.eq (by kernel_rfl), hO, hN⟩ ?_
    clear hO hN
    rintro k0 s out1 T H ⟨hT, hO, hN⟩ h1 ho0
    obtain ⟨aA, j11⟩ := s
    replace h1 : eM a1 i10 aA j11 = some out1 := h1
    try dsimp only at hT
    refine aY hT ?_
    clear hT
    unfold eM at h1
    refine aN ?_
    refine aN ?_
    obtain ⟨c35, h1⟩ := aV h1
    obtain ⟨c36, h1⟩ := aV h1
    obtain ⟨x37, hx38, h1⟩ := aX h1
    refine fF (fG []) aD 15 ?_
    refine mT (K := fun T H => Has (lift T) [(0, (.msl 1 lo0p 0 (List.length aA))), (1, (eI a1)), (10, (eI i10)), (11, (eI j11)), (60, (aE ((decide (i10 ≤ j11)) && (!x37))))] ∧ aJ ⟨H0, [lo0p], []⟩ H [(lo0p, 1, List.map (eI) aA)]) ?_ ?_
    · refine mX 4 ?_
      refine lB (t := 49) (e := decide (i10 ≤ j11)) (by kernel_rfl) (fun hg39 => ?_) (fun hg39 => ?_)
      · refine cD 7 [0 ≤ j11 ∧ j11 < (lN aA)] ⟨(c35 hg39), trivial⟩ ?_
        refine iY 0 lo0p 1 (0 + Int.toNat j11) (eI (gD aA j11)) (eI (gD aA j11)) (List.map (eI) aA) (by kernel_rfl) (by kernel_rfl) (by kernel_rfl) hO (by kernel_rfl) (bX (c35 hg39)) ?_
        refine cD 11 [0 ≤ a1 ∧ a1 < (lN aA)] ⟨(c36 hg39), trivial⟩ ?_
        refine iY 0 lo0p 1 (0 + Int.toNat a1) (eI (gD aA a1)) (eI (gD aA a1)) (List.map (eI) aA) (by kernel_rfl) (by kernel_rfl) (by kernel_rfl) hO (by kernel_rfl) (bX (c36 hg39)) ?_
        refine mJ 70 [(eI (gD aA j11)), (eI (gD aA a1))] (aE x37) (by kernel_rfl) (by kernel_rfl) (fM (gD aA j11) (gD aA a1) _ (kE hx38 hg39)) hO ?_
        intro H hO
        refine jB ?_
        exact ⟨⟨[(0, (.msl 1 lo0p 0 (List.length aA))), (1, (eI a1)), (10, (eI i10)), (11, (eI j11)), (60, (aE (!x37)))], by kernel_rfl, rfl, ⟨aO.refl _, aO.refl _, aO.refl _, aO.refl _, aO.eq (congrArg aE (jD hg39 rfl).symm), trivial⟩⟩, hO⟩
      refine jB ?_
      exact ⟨⟨[(0, (.msl 1 lo0p 0 (List.length aA))), (1, (eI a1)), (10, (eI i10)), (11, (eI j11)), (60, (aE false))], by kernel_rfl, rfl, ⟨aO.refl _, aO.refl _, aO.refl _, aO.refl _, aO.eq (congrArg aE (jD hg39 rfl).symm), trivial⟩⟩, hO⟩
    · rintro T H ⟨hT, hO⟩
      refine cV hT ?_
      clear hT
      refine aG (aF ?_)
      refine bH h1 (fun h1 => ?_) (fun h1 => ?_)
      · refine bI ?_
        refine bG [(0, (.msl 1 lo0p 0 (List.length aA))), (1, (eI a1)), (10, (eI i10)), (11, (eI j11))] ?_
        refine bY 3 ?_
        refine aU aD 3 ?_
        refine bA ?_
        exact aG (aW (aF (⟨rfl, _, (oI h1).symm, .eq (by kernel_rfl), hO, hN⟩)))
      refine fA 2 ?_
      obtain rfl := oI h1
      obtain rfl : _ = rr0 := ho0
      replace h0 : eG aA a1 i10 j11 = some r := h0
      exact aG (aS (aS (bN (aF (⟨rfl, _, _, .eq (by kernel_rfl), hO, hN, h0⟩)))))
  refine bY 0 ?_
  refine eU [(0, (.msl 1 lo0p 0 (List.length (List.set (List.set aA (Int.toNat a1) (gD aA cG)) (Int.toNat cG) (gD aA a1))))), (1, (eI a1)), (10, (eI (wR (a1 + (1 : Int))))), (11, (eI (wR (b2 - (1 : Int)))))] ?_
  refine dU (fun T H => ∃ aA : List Int, ∃ i10 : Int, ∃ j11 : Int, Has T [(0, (.msl 1 lo0p 0 (List.length aA))), (1, (eI a1)), (10, (eI i10)), (11, (eI j11))] ∧ aJ ⟨H0, [lo0p], []⟩ H [(lo0p, 1, List.map (eI) aA)] ∧ List.length aA = N0 ∧ fD aA a1 i10 j11 = some r) ?_ ⟨List.set (List.set aA (Int.toNat a1) (gD aA cG)) (Int.toNat cG) (gD aA a1), wR (a1 + (1 : Int)), wR (b2 - (1 : Int)), .eq (by kernel_rfl), hO, hN, h0⟩
  clear hO hN h0
  rintro T H ⟨aA, i10, j11, hT, hO, hN, h0⟩
  refine aY hT ?_
  clear hT
  unfold fD at h0
  obtain ⟨rr0, hl0, h0⟩ := aX h0
  refine cS (by kernel_rfl) (fun (s : List Int × Int) T H => Has T [(0, (.msl 1 lo0p 0 (List.length s.1))), (1, (eI a1)), (10, (eI s.2)), (11, (eI j11))] ∧ aJ ⟨H0, [lo0p], []⟩ H [(lo0p, 1, List.map (eI) s.1)] ∧ List.length s.1 = N0) hl0 ⟨.eq (by kernel_rfl), hO, hN⟩ ?_
  clear hO hN
  rintro k0 s out1 T H ⟨hT, hO, hN⟩ h1 ho0
  obtain ⟨aA, i10⟩ := s
  replace h1 : eB a1 j11 aA i10 = some out1 := h1
  try dsimp only at hT
  refine aY hT ?_
  clear hT
  unfold eB at h1
  refine aN ?_
  refine aN ?_
  obtain ⟨c41, h1⟩ := aV h1
  obtain ⟨c42, h1⟩ := aV h1
  obtain ⟨x43, hx44, h1⟩ := aX h1
  refine fF (fG []) aD 14 ?_
  refine mT (K := fun T H => Has (lift T) [(0, (.msl 1 lo0p 0 (List.length aA))), (1, (eI a1)), (10, (eI i10)), (11, (eI j11)), (43, (aE ((decide (i10 ≤ j11)) && x43)))] ∧ aJ ⟨H0, [lo0p], []⟩ H [(lo0p, 1, List.map (eI) aA)]) ?_ ?_
  · refine mX 4 ?_
    refine lB (t := 33) (e := decide (i10 ≤ j11)) (by kernel_rfl) (fun hg45 => ?_) (fun hg45 => ?_)
    · refine cD 7 [0 ≤ i10 ∧ i10 < (lN aA)] ⟨(c41 hg45), trivial⟩ ?_
      refine iY 0 lo0p 1 (0 + Int.toNat i10) (eI (gD aA i10)) (eI (gD aA i10)) (List.map (eI) aA) (by kernel_rfl) (by kernel_rfl) (by kernel_rfl) hO (by kernel_rfl) (bX (c41 hg45)) ?_
      refine cD 11 [0 ≤ a1 ∧ a1 < (lN aA)] ⟨(c42 hg45), trivial⟩ ?_
      refine iY 0 lo0p 1 (0 + Int.toNat a1) (eI (gD aA a1)) (eI (gD aA a1)) (List.map (eI) aA) (by kernel_rfl) (by kernel_rfl) (by kernel_rfl) hO (by kernel_rfl) (bX (c42 hg45)) ?_
      refine mJ 70 [(eI (gD aA i10)), (eI (gD aA a1))] (aE x43) (by kernel_rfl) (by kernel_rfl) (fM (gD aA i10) (gD aA a1) _ (kE hx44 hg45)) hO ?_
      intro H hO
      refine jB ?_
      exact ⟨⟨[(0, (.msl 1 lo0p 0 (List.length aA))), (1, (eI a1)), (10, (eI i10)), (11, (eI j11)), (43, (aE x43))], by kernel_rfl, rfl, ⟨aO.refl _, aO.refl _, aO.refl _, aO.refl _, aO.eq (congrArg aE (jD hg45 rfl).symm), trivial⟩⟩, hO⟩
    refine jB ?_
    exact ⟨⟨[(0, (.msl 1 lo0p 0 (List.length aA))), (1, (eI a1)), (10, (eI i10)), (11, (eI j11)), (43, (aE false))], by kernel_rfl, rfl, ⟨aO.refl _, aO.refl _, aO.refl _, aO.refl _, aO.eq (congrArg aE (jD hg45 rfl).symm), trivial⟩⟩, hO⟩
  · rintro T H ⟨hT, hO⟩
    refine cV hT ?_
    clear hT
    refine aG (aF ?_)
    refine bH h1 (fun h1 => ?_) (fun h1 => ?_)
    · refine bI ?_
      refine bG [(0, (.msl 1 lo0p 0 (List.length aA))), (1, (eI a1)), (10, (eI i10)), (11, (eI j11))] ?_
      refine bY 1 ?_
      refine aU aD 3 ?_
      refine bA ?_
      exact aG (aW (aF (⟨rfl, _, (oI h1).symm, .eq (by kernel_rfl), hO, hN⟩)))
    refine fA 0 ?_
    obtain rfl := oI h1
    obtain rfl : _ = rr0 := ho0
    replace h0 : hU aA a1 i10 j11 = some r := h0
    exact aG (aS (aS (bN (aF (⟨rfl, _, _, _, .eq (by kernel_rfl), hO, hN, h0⟩)))))

end Go.Abs
namespace Go.Abs
open Go Go.RowKit Go.Proofs
theorem uE  (rec : (List Int) → Int → Int → Int → Option (List Int)) (ih : ∀ (lo0p : Nat) (aA : (List Int)) (a1 : Int) (b2 : Int) (bW : Int) (r : List Int), rec aA a1 b2 bW = some r → mA Try.prog 60 lo0p 1 (List.map (eI) aA) (List.map (eI) r) [(.msl 1 lo0p 0 (List.length aA)), (eI a1), (eI b2), (eI bW)] (.tup [])) (lo0p : Nat) (aA : (List Int)) (a1 : Int) (b2 : Int) (bW : Int) (r : List Int) (h0 : fJ rec aA a1 b2 bW = some r) : mA Try.prog 60 lo0p 1 (List.map (eI) aA) (List.map (eI) r) [(.msl 1 lo0p 0 (List.length aA)), (eI a1), (eI b2), (eI bW)] (.tup []) := by
  intro H0 hl0
  refine dG Try.func60 ?_
  have hO := aJ.sH hl0
  clear hl0
  obtain ⟨N0, hN0⟩ : ∃ n, n = List.length aA := ⟨_, rfl⟩
  have hN : List.length aA = N0 := hN0.symm
  unfold fJ at h0
  refine aT aD 1 [] [(8, (aE true))] ?_
  refine aT aD 1 [] [(9, (aE true))] ?_
  refine bY 0 ?_
  refine eU [(0, (.msl 1 lo0p 0 (List.length aA))), (1, (eI a1)), (2, (eI b2)), (3, (eI bW)), (8, (aE true)), (9, (aE true))] ?_
  refine dU (fun T H => ∃ aA : List Int, ∃ a1 : Int, ∃ b2 : Int, ∃ bW : Int, ∃ bR : Bool, ∃ bK : Bool, Has T [(0, (.msl 1 lo0p 0 (List.length aA))), (1, (eI a1)), (2, (eI b2)), (3, (eI bW)), (8, (aE bR)), (9, (aE bK))] ∧ aJ ⟨H0, [lo0p], []⟩ H [(lo0p, 1, List.map (eI) aA)] ∧ List.length aA = N0 ∧ kC rec aA a1 b2 bW bR bK = some r) ?_ ⟨aA, a1, b2, bW, true, true, .eq (by kernel_rfl), hO, hN, h0⟩
  clear hO hN h0
  rintro T H ⟨aA, a1, b2, bW, bR, bK, hT, hO, hN, h0⟩
  refine aY hT ?_
  clear hT
  unfold kC at h0
  obtain ⟨rr0, hl0, h0⟩ := aX h0
  refine cS (by kernel_rfl) (fun (s : List Int × Int × Int × Int × Bool × Bool) T H => Has T [(0, (.msl 1 lo0p 0 (List.length s.1))), (1, (eI s.2.1)), (2, (eI s.2.2.1)), (3, (eI s.2.2.2.1)), (8, (aE s.2.2.2.2.1)), (9, (aE s.2.2.2.2.2))] ∧ aJ ⟨H0, [lo0p], []⟩ H [(lo0p, 1, List.map (eI) s.1)] ∧ List.length s.1 = N0) hl0 ⟨.eq (by kernel_rfl), hO, hN⟩ ?_
  clear hO hN
  rintro k0 s out1 T H ⟨hT, hO, hN⟩ h1 ho0
  obtain ⟨aA, a1, b2, bW, bR, bK⟩ := s
  replace h1 : dZ rec aA a1 b2 bW bR bK = some out1 := h1
  try dsimp only at hT
  refine aY hT ?_
  clear hT
  unfold dZ at h1
  refine bY 1 ?_
  refine aT aD 4 [] [(10, (eI (wR (b2 - a1))))] ?_
  refine aN ?_
  refine aT aD 2 [] [(23, (aE (decide ((wR (b2 - a1)) ≤ (12 : Int)))))] ?_
  refine bH h1 (fun h1 => ?_) (fun h1 => ?_)
  · refine aN ?_
    refine aU aD 4 ?_
    refine bS 3 ?_
    obtain ⟨x2, hx3, h1⟩ := aX h1
    refine vS [(lo0p, 1, List.map (eI) x2)] 0 (tG lo0p aA a1 b2 _ hx3) hO ?_
    intro H hO hl4
    simp only [List.length_map] at hl4
    replace hN := hl4.trans hN
    refine iT ?_
    refine cV (l := [(0, (.msl 1 lo0p 0 (List.length x2)))]) ⟨[(0, (.msl 1 lo0p 0 (List.length aA)))], by kernel_rfl, rfl, ⟨aO.eq (by simp [hl4]), trivial⟩⟩ ?_
    refine aG (aF (?_))
    refine bJ ?_
    obtain rfl := oI h1
    obtain rfl : _ = rr0 := ho0
    replace h0 : some x2 = some r := h0
    obtain rfl := oI h0
    exact aG (aP (bD (aP (bD (lW (x := (.tup [])) (by kernel_rfl) (aO.refl _) ⟨rfl, hO.ext, hO.at 0 (by kernel_rfl), by simp only [List.length_map]; exact hN.trans hN0⟩)))))
  refine bI ?_
  refine bG [(0, (.msl 1 lo0p 0 (List.length aA))), (1, (eI a1)), (2, (eI b2)), (3, (eI bW)), (8, (aE bR)), (9, (aE bK)), (10, (eI (wR (b2 - a1))))] ?_
  refine aN ?_
  refine aT aD 2 [] [(29, (aE (decide (bW = (0 : Int)))))] ?_
  refine bH h1 (fun h1 => ?_) (fun h1 => ?_)
  · refine aN ?_
    refine aU aD 4 ?_
    refine bS 3 ?_
    obtain ⟨x6, hx7, h1⟩ := aX h1
    refine vS [(lo0p, 1, List.map (eI) x6)] 0 (vQ lo0p aA a1 b2 _ hx7) hO ?_
    intro H hO hl8
    simp only [List.length_map] at hl8
    replace hN := hl8.trans hN
    refine iT ?_
    refine cV (l := [(0, (.msl 1 lo0p 0 (List.length x6)))]) ⟨[(0, (.msl 1 lo0p 0 (List.length aA)))], by kernel_rfl, rfl, ⟨aO.eq (by simp [hl8]), trivial⟩⟩ ?_
    refine aG (aF (?_))
    refine bJ ?_
    obtain rfl := oI h1
    obtain rfl : _ = rr0 := ho0
    replace h0 : some x6 = some r := h0
    obtain rfl := oI h0
    exact aG (aP (bD (aP (bD (lW (x := (.tup [])) (by kernel_rfl) (aO.refl _) ⟨rfl, hO.ext, hO.at 0 (by kernel_rfl), by simp only [List.length_map]; exact hN.trans hN0⟩)))))
  refine bI ?_
  refine bG [(0, (.msl 1 lo0p 0 (List.length aA))), (1, (eI a1)), (2, (eI b2)), (3, (eI bW)), (8, (aE bR)), (9, (aE bK)), (10, (eI (wR (b2 - a1))))] ?_
  refine dS (fun T H => ∃ aA : List Int, ∃ bW : Int, ∃ dM : Int, Has T [(0, (.msl 1 lo0p 0 (List.length aA))), (1, (eI a1)), (2, (eI b2)), (3, (eI bW)), (8, (aE bR)), (9, (aE bK)), (10, (eI dM))] ∧ aJ ⟨H0, [lo0p], []⟩ H [(lo0p, 1, List.map (eI) aA)] ∧ List.length aA = N0 ∧ gG rec aA a1 b2 bW bR bK dM = some out1) ?_ ?_
  · clear hO hN h1
    rintro T H ⟨aA, bW, dM, hT, hO, hN, h1⟩
    refine aY hT ?_
    clear hT
    unfold gG at h1
    refine aN ?_
    refine aU aD 9 ?_
    refine bS 3 ?_
    obtain ⟨x9, hx10, h1⟩ := aX h1
    refine zG [] [0] (uK lo0p aA a1 b2 _ hx10) hO ?_
    intro r11 L12 H hP13 hO
    obtain ⟨rfl, rfl⟩ := hP13
    replace hO : aJ ⟨H0, [lo0p], []⟩ H [(lo0p, 1, List.map (eI) aA)] := hO
    refine bA ?_
    refine bP [] [(11, (eI x9.1)), (12, (eI x9.2))] ?_
    refine dS (fun T H => ∃ aA : List Int, ∃ fI : Int, ∃ zW : Int, Has T [(0, (.msl 1 lo0p 0 (List.length aA))), (1, (eI a1)), (2, (eI b2)), (3, (eI bW)), (8, (aE bR)), (9, (aE bK)), (10, (eI dM)), (11, (eI fI)), (12, (eI zW))] ∧ aJ ⟨H0, [lo0p], []⟩ H [(lo0p, 1, List.map (eI) aA)] ∧ List.length aA = N0 ∧ gF rec aA a1 b2 bW bR bK dM fI zW = some out1) ?_ ?_
    · clear hO hN h1
      rintro T H ⟨aA, fI, zW, hT, hO, hN, h1⟩
      refine aY hT ?_
      clear hT
      unfold gF at h1
      refine dS (fun T H => ∃ aA : List Int, Has T [(0, (.msl 1 lo0p 0 (List.length aA))), (1, (eI a1)), (2, (eI b2)), (3, (eI bW)), (8, (aE bR)), (9, (aE bK)), (10, (eI dM)), (11, (eI fI))] ∧ aJ ⟨H0, [lo0p], []⟩ H [(lo0p, 1, List.map (eI) aA)] ∧ List.length aA = N0 ∧ gE rec aA a1 b2 bW bR bK dM fI = some out1) ?_ ?_
      · clear hO hN h1
        rintro T H ⟨aA, hT, hO, hN, h1⟩
        refine aY hT ?_
        clear hT
        unfold gE at h1
        refine aN ?_
        refine aN ?_
        obtain ⟨c14, h1⟩ := aV h1
        obtain ⟨c15, h1⟩ := aV h1
        obtain ⟨x16, hx17, h1⟩ := aX h1
        refine fF (fG []) aD 15 ?_
        refine mT (K := fun T H => Has (lift T) [(0, (.msl 1 lo0p 0 (List.length aA))), (1, (eI a1)), (2, (eI b2)), (3, (eI bW)), (8, (aE bR)), (9, (aE bK)), (10, (eI dM)), (11, (eI fI)), (87, (aE ((decide ((0 : Int) < a1)) && (!x16))))] ∧ aJ ⟨H0, [lo0p], []⟩ H [(lo0p, 1, List.map (eI) aA)]) ?_ ?_
        · refine mX 3 ?_
          refine lB (t := 75) (e := decide ((0 : Int) < a1)) (by kernel_rfl) (fun hg18 => ?_) (fun hg18 => ?_)
          · refine cD 7 [0 ≤ (wR (a1 - (1 : Int))) ∧ (wR (a1 - (1 : Int))) < (lN aA)] ⟨(c14 hg18), trivial⟩ ?_
            refine iY 0 lo0p 1 (0 + Int.toNat (wR (a1 - (1 : Int)))) (eI (gD aA (wR (a1 - (1 : Int))))) (eI (gD aA (wR (a1 - (1 : Int))))) (List.map (eI) aA) (by kernel_rfl) (by kernel_rfl) (by kernel_rfl) hO (by kernel_rfl) (bX (c14 hg18)) ?_
            refine cD 11 [0 ≤ fI ∧ fI < (lN aA)] ⟨(c15 hg18), trivial⟩ ?_
            refine iY 0 lo0p 1 (0 + Int.toNat fI) (eI (gD aA fI)) (eI (gD aA fI)) (List.map (eI) aA) (by kernel_rfl) (by kernel_rfl) (by kernel_rfl) hO (by kernel_rfl) (bX (c15 hg18)) ?_
            refine mJ 70 [(eI (gD aA (wR (a1 - (1 : Int))))), (eI (gD aA fI))] (aE x16) (by kernel_rfl) (by kernel_rfl) (fM (gD aA (wR (a1 - (1 : Int)))) (gD aA fI) _ (kE hx17 hg18)) hO ?_
            intro H hO
            refine jB ?_
            exact ⟨⟨[(0, (.msl 1 lo0p 0 (List.length aA))), (1, (eI a1)), (2, (eI b2)), (3, (eI bW)), (8, (aE bR)), (9, (aE bK)), (10, (eI dM)), (11, (eI fI)), (87, (aE (!x16)))], by kernel_rfl, rfl, ⟨aO.refl _, aO.refl _, aO.refl _, aO.refl _, aO.refl _, aO.refl _, aO.refl _, aO.refl _, aO.eq (congrArg aE (jD hg18 rfl).symm), trivial⟩⟩, hO⟩
          refine jB ?_
          exact ⟨⟨[(0, (.msl 1 lo0p 0 (List.length aA))), (1, (eI a1)), (2, (eI b2)), (3, (eI bW)), (8, (aE bR)), (9, (aE bK)), (10, (eI dM)), (11, (eI fI)), (87, (aE false))], by kernel_rfl, rfl, ⟨aO.refl _, aO.refl _, aO.refl _, aO.refl _, aO.refl _, aO.refl _, aO.refl _, aO.refl _, aO.eq (congrArg aE (jD hg18 rfl).symm), trivial⟩⟩, hO⟩
        · rintro T H ⟨hT, hO⟩
          refine cV hT ?_
          clear hT
          refine aG (aF ?_)
          refine bH h1 (fun h1 => ?_) (fun h1 => ?_)
          · refine aN ?_
            refine aU aD 6 ?_
            refine bS 4 ?_
            obtain ⟨x20, hx21, h1⟩ := aX h1
            refine vS [(lo0p, 1, List.map (eI) x20.2)] 0 (sX lo0p aA a1 b2 fI _ hx21) hO ?_
            intro H hO hl22
            simp only [List.length_map] at hl22
            replace hN := hl22.trans hN
            refine bA ?_
            refine cV (l := [(0, (.msl 1 lo0p 0 (List.length x20.2))), (2, (eI b2)), (3, (eI bW)), (8, (aE bR)), (9, (aE bK)), (13, (eI x20.1))]) ⟨[(0, (.msl 1 lo0p 0 (List.length aA))), (2, (eI b2)), (3, (eI bW)), (8, (aE bR)), (9, (aE bK)), (13, (eI x20.1))], by kernel_rfl, rfl, ⟨aO.eq (by simp [hl22]), aO.refl _, aO.refl _, aO.refl _, aO.refl _, aO.refl _, trivial⟩⟩ ?_
            refine aG (aF (?_))
            refine aT aD 2 [13] [(1, (eI x20.1))] ?_
            refine fA 1 ?_
            exact aG (aS (bN (aF (⟨rfl, _, (oI h1).symm, .eq (by kernel_rfl), hO, hN⟩))))
          refine bI ?_
          refine bG [(0, (.msl 1 lo0p 0 (List.length aA))), (1, (eI a1)), (2, (eI b2)), (3, (eI bW)), (10, (eI dM)), (11, (eI fI))] ?_
          refine aN ?_
          refine aU aD 10 ?_
          refine bS 4 ?_
          obtain ⟨x23, hx24, h1⟩ := aX h1
          refine vS [(lo0p, 1, List.map (eI) x23.2)] 0 (vO lo0p aA a1 b2 fI _ hx24) hO ?_
          intro H hO hl25
          simp only [List.length_map] at hl25
          replace hN := hl25.trans hN
          refine bA ?_
          refine cV (l := [(0, (.msl 1 lo0p 0 (List.length x23.2))), (1, (eI a1)), (2, (eI b2)), (3, (eI bW)), (10, (eI dM)), (14, (eI x23.1.1)), (15, (aE x23.1.2))]) ⟨[(0, (.msl 1 lo0p 0 (List.length aA))), (1, (eI a1)), (2, (eI b2)), (3, (eI bW)), (10, (eI dM)), (14, (eI x23.1.1)), (15, (aE x23.1.2))], by kernel_rfl, rfl, ⟨aO.eq (by simp [hl25]), aO.refl _, aO.refl _, aO.refl _, aO.refl _, aO.refl _, aO.refl _, trivial⟩⟩ ?_
          refine aG (aF (?_))
          refine aT aD 2 [15] [(9, (aE x23.1.2))] ?_
          refine aT aD 8 [] [(16, (eI (wR (x23.1.1 - a1)))), (17, (eI (wR (b2 - x23.1.1))))] ?_
          refine aN ?_
          refine aU aD 3 ?_
          obtain ⟨c26, h1⟩ := aV h1
          refine mU [(8 : Int) ≠ 0] ⟨c26, trivial⟩ ?_
          refine bP [10] [(18, (eI (wR (Int.tdiv dM (8 : Int)))))] ?_
          refine aT aD 3 [] [(113, (aE (decide ((wR (x23.1.1 - a1)) < (wR (b2 - x23.1.1))))))] ?_
          refine bH h1 (fun h1 => ?_) (fun h1 => ?_)
          · refine bO aD 4 [(0, (.msl 1 lo0p 0 (List.length x23.2))), (1, (eI a1)), (2, (eI b2)), (3, (eI bW)), (8, (aE (decide ((wR (Int.tdiv dM (8 : Int))) ≤ (wR (x23.1.1 - a1)))))), (9, (aE x23.1.2)), (14, (eI x23.1.1))] ?_
            refine aN ?_
            refine aU aD 5 ?_
            refine bS 4 ?_
            obtain ⟨x28, hx29, h1⟩ := aX h1
            refine vS [(lo0p, 1, List.map (eI) x28)] 0 (ih lo0p x23.2 a1 x23.1.1 bW _ hx29) hO ?_
            intro H hO hl30
            simp only [List.length_map] at hl30
            replace hN := hl30.trans hN
            refine iT ?_
            refine cV (l := [(0, (.msl 1 lo0p 0 (List.length x28))), (2, (eI b2)), (3, (eI bW)), (8, (aE (decide ((wR (Int.tdiv dM (8 : Int))) ≤ (wR (x23.1.1 - a1)))))), (9, (aE x23.1.2)), (14, (eI x23.1.1))]) ⟨[(0, (.msl 1 lo0p 0 (List.length x23.2))), (2, (eI b2)), (3, (eI bW)), (8, (aE (decide ((wR (Int.tdiv dM (8 : Int))) ≤ (wR (x23.1.1 - a1)))))), (9, (aE x23.1.2)), (14, (eI x23.1.1))], by kernel_rfl, rfl, ⟨aO.eq (by simp [hl30]), aO.refl _, aO.refl _, aO.refl _, aO.refl _, aO.refl _, trivial⟩⟩ ?_
            refine aG (aF (?_))
            refine aU aD 3 ?_
            refine bA ?_
            exact aG (aW (aF (⟨rfl, _, (oI h1).symm, .eq (by kernel_rfl), hO, hN⟩)))
          refine bO aD 4 [(0, (.msl 1 lo0p 0 (List.length x23.2))), (1, (eI a1)), (2, (eI b2)), (3, (eI bW)), (8, (aE (decide ((wR (Int.tdiv dM (8 : Int))) ≤ (wR (b2 - x23.1.1)))))), (9, (aE x23.1.2)), (14, (eI x23.1.1))] ?_
          refine aN ?_
          refine aU aD 6 ?_
          refine bS 5 ?_
          obtain ⟨x31, hx32, h1⟩ := aX h1
          refine vS [(lo0p, 1, List.map (eI) x31)] 0 (ih lo0p x23.2 (wR (x23.1.1 + (1 : Int))) b2 bW _ hx32) hO ?_
          intro H hO hl33
          simp only [List.length_map] at hl33
          replace hN := hl33.trans hN
          refine iT ?_
          refine cV (l := [(0, (.msl 1 lo0p 0 (List.length x31))), (1, (eI a1)), (3, (eI bW)), (8, (aE (decide ((wR (Int.tdiv dM (8 : Int))) ≤ (wR (b2 - x23.1.1)))))), (9, (aE x23.1.2)), (14, (eI x23.1.1))]) ⟨[(0, (.msl 1 lo0p 0 (List.length x23.2))), (1, (eI a1)), (3, (eI bW)), (8, (aE (decide ((wR (Int.tdiv dM (8 : Int))) ≤ (wR (b2 - x23.1.1)))))), (9, (aE x23.1.2)), (14, (eI x23.1.1))], by kernel_rfl, rfl, ⟨aO.eq (by simp [hl33]), aO.refl _, aO.refl _, aO.refl _, aO.refl _, aO.refl _, trivial⟩⟩ ?_
          refine aG (aF (?_))
          refine aU aD 2 ?_
          refine bA ?_
          exact aG (aW (aF (⟨rfl, _, (oI h1).symm, .eq (by kernel_rfl), hO, hN⟩)))
      refine aT aD 8 [12] [(68, (aE ((bR && bK) && (decide (zW = (1 : Int))))))] ?_
      refine bH h1 (fun h1 => ?_) (fun h1 => ?_)
      · refine aN ?_
        refine aU aD 4 ?_
        refine bS 3 ?_
        obtain ⟨x35, hx36, h1⟩ := aX h1
        refine vS [(lo0p, 1, List.map (eI) x35.2)] 0 (pK lo0p aA a1 b2 _ hx36) hO ?_
        intro H hO hl37
        simp only [List.length_map] at hl37
        replace hN := hl37.trans hN
        refine iT ?_
        refine cV (l := [(0, (.msl 1 lo0p 0 (List.length x35.2))), (1, (eI a1)), (2, (eI b2)), (3, (eI bW)), (8, (aE bR)), (9, (aE bK)), (10, (eI dM)), (11, (eI fI)), (72, (aE x35.1))]) ⟨[(0, (.msl 1 lo0p 0 (List.length aA))), (1, (eI a1)), (2, (eI b2)), (3, (eI bW)), (8, (aE bR)), (9, (aE bK)), (10, (eI dM)), (11, (eI fI)), (72, (aE x35.1))], by kernel_rfl, rfl, ⟨aO.eq (by simp [hl37]), aO.refl _, aO.refl _, aO.refl _, aO.refl _, aO.refl _, aO.refl _, aO.refl _, aO.refl _, trivial⟩⟩ ?_
        refine aG (aF (?_))
        refine bH h1 (fun h1 => ?_) (fun h1 => ?_)
        · refine bJ ?_
          obtain rfl := oI h1
          obtain rfl : _ = rr0 := ho0
          replace h0 : some x35.2 = some r := h0
          obtain rfl := oI h0
          exact aG (aP (bD (aP (bD (lW (x := (.tup [])) (by kernel_rfl) (aO.refl _) ⟨rfl, hO.ext, hO.at 0 (by kernel_rfl), by simp only [List.length_map]; exact hN.trans hN0⟩)))))
        refine bI ?_
        exact aG (aF (⟨rfl, _, .eq (by kernel_rfl), hO, hN, h1⟩))
      refine bI ?_
      exact aG (aF (⟨rfl, _, .eq (by kernel_rfl), hO, hN, h1⟩))
    refine aT aD 2 [] [(50, (aE (decide (x9.2 = (2 : Int)))))] ?_
    refine bH h1 (fun h1 => ?_) (fun h1 => ?_)
    · refine aN ?_
      refine aU aD 4 ?_
      refine bS 3 ?_
      obtain ⟨x40, hx41, h1⟩ := aX h1
      refine vS [(lo0p, 1, List.map (eI) x40)] 0 (uH lo0p aA a1 b2 _ hx41) hO ?_
      intro H hO hl42
      simp only [List.length_map] at hl42
      replace hN := hl42.trans hN
      refine iT ?_
      refine cV (l := [(0, (.msl 1 lo0p 0 (List.length x40))), (1, (eI a1)), (2, (eI b2)), (3, (eI bW)), (8, (aE bR)), (9, (aE bK)), (10, (eI dM)), (11, (eI x9.1))]) ⟨[(0, (.msl 1 lo0p 0 (List.length aA))), (1, (eI a1)), (2, (eI b2)), (3, (eI bW)), (8, (aE bR)), (9, (aE bK)), (10, (eI dM)), (11, (eI x9.1))], by kernel_rfl, rfl, ⟨aO.eq (by simp [hl42]), aO.refl _, aO.refl _, aO.refl _, aO.refl _, aO.refl _, aO.refl _, aO.refl _, trivial⟩⟩ ?_
      refine aG (aF (?_))
      refine aT aD 7 [11] [(11, (eI (wR ((wR (b2 - (1 : Int))) - (wR (x9.1 - a1))))))] ?_
      refine aU aD 1 ?_
      refine bA ?_
      exact aG (aF (⟨rfl, _, _, _, .eq (by kernel_rfl), hO, hN, h1⟩))
    refine bI ?_
    exact aG (aF (⟨rfl, _, _, _, .eq (by kernel_rfl), hO, hN, h1⟩))
  refine aT aD 2 [] [(35, (aE (!bR)))] ?_
  refine bH h1 (fun h1 => ?_) (fun h1 => ?_)
  · refine aN ?_
    refine aU aD 4 ?_
    refine bS 3 ?_
    obtain ⟨x44, hx45, h1⟩ := aX h1
    refine vS [(lo0p, 1, List.map (eI) x44)] 0 (tK lo0p aA a1 b2 _ hx45) hO ?_
    intro H hO hl46
    simp only [List.length_map] at hl46
    replace hN := hl46.trans hN
    refine iT ?_
    refine cV (l := [(0, (.msl 1 lo0p 0 (List.length x44))), (1, (eI a1)), (2, (eI b2)), (3, (eI bW)), (8, (aE bR)), (9, (aE bK)), (10, (eI (wR (b2 - a1))))]) ⟨[(0, (.msl 1 lo0p 0 (List.length aA))), (1, (eI a1)), (2, (eI b2)), (3, (eI bW)), (8, (aE bR)), (9, (aE bK)), (10, (eI (wR (b2 - a1))))], by kernel_rfl, rfl, ⟨aO.eq (by simp [hl46]), aO.refl _, aO.refl _, aO.refl _, aO.refl _, aO.refl _, aO.refl _, trivial⟩⟩ ?_
    refine aG (aF (?_))
    refine aU aD 3 ?_
    refine bA ?_
    exact aG (aF (⟨rfl, _, _, _, .eq (by kernel_rfl), hO, hN, h1⟩))
  refine bI ?_
  exact aG (aF (⟨rfl, _, _, _, .eq (by kernel_rfl), hO, hN, h1⟩))

theorem nX  : ∀ (k : Nat) (lo0p : Nat) (aA : (List Int)) (a1 : Int) (b2 : Int) (bW : Int) (r : List Int), cX k aA a1 b2 bW = some r → mA Try.prog 60 lo0p 1 (List.map (eI) aA) (List.map (eI) r) [(.msl 1 lo0p 0 (List.length aA)), (eI a1), (eI b2), (eI bW)] (.tup [])
  | 0, _, _, _, _, _, _, h => by cases h
  | k + 1, lo0p, aA, a1, b2, bW, r, h => uE  _ (nX  k) lo0p aA a1 b2 bW r h

theorem wH (lo0p : Nat) (aA : (List Int)) (a1 : Int) (b2 : Int) (bW : Int) (r : List Int) (h0 : iX aA a1 b2 bW = some r) : mA Try.prog 60 lo0p 1 (List.map (eI) aA) (List.map (eI) r) [(.msl 1 lo0p 0 (List.length aA)), (eI a1), (eI b2), (eI bW)] (.tup []) := by
  obtain ⟨k, hk⟩ := IQ h0
  exact nX  k lo0p aA a1 b2 bW r hk

theorem zY (lo0p : Nat) (x0 : (List Int)) (r : List Int) (h0 : jS x0 = some r) : mA Try.prog 33 lo0p 1 (List.map (eI) x0) (List.map (eI) r) [(.msl 1 lo0p 0 (List.length x0))] (.tup []) := by
  intro H0 hl0
  refine dG Try.func33 ?_
  have hO := aJ.sH hl0
  clear hl0
  obtain ⟨N0, hN0⟩ : ∃ n, n = List.length x0 := ⟨_, rfl⟩
  have hN : List.length x0 = N0 := hN0.symm
  unfold jS at h0
  refine aT aD 3 [] [(2, (eI (lN x0)))] ?_
  refine aU aD 6 ?_
  refine bS 4 ?_
  obtain ⟨x1, hx2, h0⟩ := aX h0
  refine dW (yP (IntKind.u64.wrap (lN x0)) _ hx2) hO ?_
  intro H hO
  obtain ⟨x4, hx5, h0⟩ := aX h0
  refine vS [(lo0p, 1, List.map (eI) x4)] 0 (wH lo0p x0 (0 : Int) (lN x0) x1 _ hx5) hO ?_
  intro H hO hl6
  simp only [List.length_map] at hl6
  replace hN := hl6.trans hN
  refine iT ?_
  refine cV (l := [(0, (.msl 1 lo0p 0 (List.length x4)))]) ⟨[(0, (.msl 1 lo0p 0 (List.length x0)))], by kernel_rfl, rfl, ⟨aO.eq (by simp [hl6]), trivial⟩⟩ ?_
  obtain rfl := oI h0
  exact aG (yL (x := (.tup [])) (by kernel_rfl) (aO.refl _) ⟨rfl, hO.ext, hO.at 0 (by kernel_rfl), by simp only [List.length_map]; exact hN.trans hN0⟩)

theorem zL (l0 : (List aL)) (cC : Int) (r : ((List Int) × Int)) (h0 : oB l0 cC = some r) : dN Try.prog 12 [(eL aM l0), (eI cC)] (.tup [(eL (eI) r.1), (eI r.2)]) := by
  intro H0
  refine dG Try.func12 ?_
  have hO := aJ.start H0
  unfold oB at h0
  refine aT aD 2 [] [] ?_
  refine aN ?_
  refine bY 0 ?_
  refine aN ?_
  refine aU aD 4 ?_
  refine bS 1 ?_
  obtain ⟨x1, hx2, h0⟩ := aX h0
  refine dW (GJ l0 _ hx2) hO ?_
  intro H hO
  refine bA ?_
  refine bP [] [(11, (aE (!x1)))] ?_
  refine bH h0 (fun h0 => ?_) (fun h0 => ?_)
  · refine bO aD 2 [(4, (.sl true 0 (fun _ => .bad))), (5, (eI (2 : Int)))] ?_
    refine bJ ?_
    refine cV (l := [(4, (eL (eI) ([]))), (5, (eI (2 : Int)))]) ⟨[(4, (.sl true 0 (fun _ => .bad))), (5, (eI (2 : Int)))], by kernel_rfl, rfl, ⟨lT, aO.refl _, trivial⟩⟩ ?_
    obtain rfl := oI h0
    exact aG (bD (aP (Q_r hO)))
  refine aN ?_
  refine aU aD 4 ?_
  refine bS 1 ?_
  obtain ⟨x5, hx6, h0⟩ := aX h0
  refine dW (NB l0 _ hx6) hO ?_
  intro H hO
  refine bA ?_
  refine bP [11] [(15, (aE (!x5)))] ?_
  refine bH h0 (fun h0 => ?_) (fun h0 => ?_)
  · refine bO aD 2 [(4, (.sl true 0 (fun _ => .bad))), (5, (eI (20 : Int)))] ?_
    refine bJ ?_
    refine cV (l := [(4, (eL (eI) ([]))), (5, (eI (20 : Int)))]) ⟨[(4, (.sl true 0 (fun _ => .bad))), (5, (eI (20 : Int)))], by kernel_rfl, rfl, ⟨lT, aO.refl _, trivial⟩⟩ ?_
    obtain rfl := oI h0
    exact aG (bD (aP (Q_r hO)))
  refine aT aD 7 [15] [(19, (aE ((decide (cC < (0 : Int))) || (decide ((1125899906842624 : Int) < cC)))))] ?_
  refine bH h0 (fun h0 => ?_) (fun h0 => ?_)
  · refine bO aD 2 [(4, (.sl true 0 (fun _ => .bad))), (5, (eI (13 : Int)))] ?_
    refine bJ ?_
    refine cV (l := [(4, (eL (eI) ([]))), (5, (eI (13 : Int)))]) ⟨[(4, (.sl true 0 (fun _ => .bad))), (5, (eI (13 : Int)))], by kernel_rfl, rfl, ⟨lT, aO.refl _, trivial⟩⟩ ?_
    obtain rfl := oI h0
    exact aG (bD (aP (Q_r hO)))
  refine bO aD 3 [(0, (eL aM l0)), (1, (eI cC)), (26, (aE (decide (cC = (1125899906842624 : Int)))))] ?_
  refine bH h0 (fun h0 => ?_) (fun h0 => ?_)
  · refine bO aD 2 [(4, (.sl true 0 (fun _ => .bad))), (5, (eI (0 : Int)))] ?_
    refine bJ ?_
    refine cV (l := [(4, (eL (eI) ([]))), (5, (eI (0 : Int)))]) ⟨[(4, (.sl true 0 (fun _ => .bad))), (5, (eI (0 : Int)))], by kernel_rfl, rfl, ⟨lT, aO.refl _, trivial⟩⟩ ?_
    obtain rfl := oI h0
    exact aG (bD (aP (Q_r hO)))
  refine bI ?_
  refine iD [(0, (eL aM l0)), (1, (eI cC))] ?_
  refine aG (aW (aF (?_)))
  refine aN ?_
  refine aU aD 5 ?_
  refine UW (β := Int) (eI) (t := 58) hO ?_
  intro lm11 H hO
  refine bS 2 ?_
  refine MK (f := (eI)) (mty := 58) cC (1 : Int) hO ?_
  intro H hO
  refine bA ?_
  refine bP [] [(6, (.mp lm11))] ?_
  refine dS (fun T H => ∃ jO : (List (Int × Int)), Has T [(6, (.mp lm11))] ∧ aJ ⟨H0, [], (lm11, AT (eI) jO) :: []⟩ H [] ∧ rU jO = some r) ?_ ?_
  · clear hO h0
    rintro T H ⟨jO, hT, hO, h0⟩
    refine aY hT ?_
    clear hT
    unfold rU at h0
    refine aN ?_
    refine aU aD 4 ?_
    refine bS 1 ?_
    refine WV (mty := 58) hO ?_
    obtain ⟨c13, h0⟩ := aV h0
    refine PN 1 8 (lN jO) (by kernel_rfl) (by kernel_rfl) c13 hO ?_
    intro lo14 H hO
    refine bA ?_
    refine bG [(6, (.mp lm11)), (9, (.msl 1 lo14 0 (List.length ([] : List Int))))] ?_
    refine dS (fun T H => ∃ out9 : List Int, ∃ lo15 : Nat, Has T [(9, (.msl 1 lo15 0 (List.length out9)))] ∧ aJ ⟨H0, [], []⟩ H [(lo15, 1, List.map (eI) out9)] ∧ uN out9 = some r) ?_ ?_
    · clear hO h0
      rintro T H ⟨out9, lo15, hT, hO, h0⟩
      refine aY hT ?_
      clear hT
      unfold uN at h0
      refine aN ?_
      refine aU aD 2 ?_
      refine bS 1 ?_
      obtain ⟨x16, hx17, h0⟩ := aX h0
      refine vS [(lo15, 1, List.map (eI) x16)] 0 (zY lo15 out9 _ hx17) hO ?_
      intro H hO hl18
      simp only [List.length_map] at hl18
      refine iT ?_
      refine cV (l := [(9, (.msl 1 lo15 0 (List.length x16)))]) ⟨[(9, (.msl 1 lo15 0 (List.length out9)))], by kernel_rfl, rfl, ⟨aO.eq (by simp [hl18]), trivial⟩⟩ ?_
      refine aG (aF (?_))
      refine bO aD 3 [(4, (.msl 1 lo15 0 (List.length x16))), (5, (eI (0 : Int)))] ?_
      refine bJ ?_
      refine iD [(4, (.msl 1 lo15 0 (List.length x16))), (5, (eI (0 : Int)))] ?_
      refine sE (en := (eI)) x16 0 0 4 1 lo15 (List.length x16) hO (by kernel_rfl) (by kernel_rfl) (by kernel_rfl) (L' := []) (by kernel_rfl) ?_
      intro H19 hO
      obtain rfl := oI h0
      exact aG (Q_r hO)
    refine aN ?_
    refine aU aD 2 ?_
    refine bS 1 ?_
    refine RA (mty := 58) hO ?_
    intro li20 bs21 ck22 H hmb XZ hO
    refine iT ?_
    refine bP [6] [(50, (.lp li20 0 0))] ?_
    refine bY 3 ?_
    refine eU [(9, (.msl 1 lo14 0 (List.length ([] : List Int)))), (50, (.lp li20 0 0))] ?_
    refine dU (fun T H => ∃ out9 : List Int, ∃ t50 : (List (Int × Int)), ∃ lo24 : Nat, Has T [(9, (.msl 1 lo24 0 (List.length out9))), (50, (.lp li20 0 0))] ∧ aJ ⟨H0, [], (li20, EB li20 lm11 ck22 []) :: (lm11, BN (eI) t50 bs21 ck22) :: []⟩ H [(lo24, 1, List.map (eI) out9)] ∧ List.length bs21 = List.length t50 ∧ vC out9 t50 = some r) ?_ ⟨([] : List Int), jO, lo14, .eq (by kernel_rfl), hO, hmb, h0⟩
    clear hO hmb h0
    rintro T H ⟨out9, t50, lo24, hT, hO, hmb, h0⟩
    refine aY hT ?_
    clear hT
    unfold vC at h0
    refine UX (by kernel_rfl) (fun (s : List Int) (seen : List Nat) T H => ∃ lo24 : Nat, Has T [(9, (.msl 1 lo24 0 (List.length s))), (50, (.lp li20 0 0))] ∧ aJ ⟨H0, [], (li20, EB li20 lm11 ck22 seen) :: (lm11, BN (eI) t50 bs21 ck22) :: []⟩ H [(lo24, 1, List.map (eI) s)]) hmb h0 ⟨lo24, .eq (by kernel_rfl), hO⟩ ?_
    clear hO h0
    rintro seen rem s T H ⟨lo24, hT, hO⟩ hleft hall
    obtain ⟨out9, rfl⟩ : ∃ x, x = s := ⟨_, rfl⟩
    refine aY (l := [(9, (.msl 1 lo24 0 (List.length out9))), (50, (.lp li20 0 0))]) hT ?_
    clear hT
    refine aN ?_
    refine aU aD 2 ?_
    refine TL hmb XZ hleft hall hO (fun h0 => ?_) (fun mk mv bq rest out1 H h1 hlt hleft hall hat hO => ?_)
    · clear hall hleft
      replace h0 : uU t50 out9 = some r := h0
      unfold uU at h0
      refine bA ?_
      refine bP [] [(52, (aE false))] ?_
      refine aN ?_
      refine lQ (false) (fun hc25 => ?_) (fun hc25 => ?_)
      · cases hc25
      · refine fA 3 ?_
        replace hO := hO.tZ.tZ
        exact aG (aS (aS (bN (aF (⟨rfl, _, _, .eq (by kernel_rfl), hO, h0⟩)))))
    replace h1 : oM t50 out9 mk mv = some out1 := h1
    unfold oM at h1
    refine bA ?_
    refine bP [] [(52, (aE true))] ?_
    refine aN ?_
    refine lQ (true) (fun hc26 => ?_) (fun hc26 => ?_)
    · refine bI ?_
      refine bG [(9, (.msl 1 lo24 0 (List.length out9))), (50, (.lp li20 0 0))] ?_
      refine bY 4 ?_
      refine aN ?_
      refine aU aD 3 ?_
      refine QO hat hO ?_
      refine bA ?_
      refine bP [] [(10, (eI mk))] ?_
      refine aU aD 5 ?_
      refine bS 2 ?_
      refine lV (xs := [(eI mk)]) (k := 1) (by kernel_rfl) (by kernel_rfl) ?_
      obtain ⟨c28, h1⟩ := aV h1
      refine qU (e := (eI)) out9 ([mk]) 0 lo24 1 8 (iC [(eI mk)]) (fun lo27 => [(lo27, 1, List.map (eI) (out9 ++ ([mk])))]) (by kernel_rfl) (by kernel_rfl) hO (by kernel_rfl) (by kernel_rfl) c28 (fun _ => by kernel_rfl) ?_
      intro lo27 H hO
      refine bA ?_
      obtain rfl := oI h1
      exact aG (aW (aF (⟨rfl, _, _, _, hlt, hleft, hall, lo27, .eq (by kernel_rfl), hO⟩)))
    · cases hc26
  refine aT aD 3 [0] [(32, (eL aM l0)), (33, (eI (lN l0))), (34, (eI (0 : Int)))] ?_
  refine bY 1 ?_
  refine eU [(1, (eI cC)), (6, (.mp lm11)), (32, (eL aM l0)), (33, (eI (lN l0))), (34, (eI (0 : Int)))] ?_
  refine dU (fun T H => ∃ jO : (List (Int × Int)), ∃ t32 : (List aL), ∃ t33 : Int, ∃ t34 : Int, Has T [(1, (eI cC)), (6, (.mp lm11)), (32, (eL aM t32)), (33, (eI t33)), (34, (eI t34))] ∧ aJ ⟨H0, [], (lm11, AT (eI) jO) :: []⟩ H [] ∧ vG cC jO t32 t33 t34 = some r) ?_ ⟨pU ([] : (List (Int × Int))) cC (1 : Int), l0, (lN l0), (0 : Int), .eq (by kernel_rfl), hO, h0⟩
  clear hO h0
  rintro T H ⟨jO, t32, t33, t34, hT, hO, h0⟩
  refine aY hT ?_
  clear hT
  unfold vG at h0
  obtain ⟨rr0, hl0, h0⟩ := aX h0
  refine cS (by kernel_rfl) (fun (s : (List (Int × Int)) × Int) T H => Has T [(1, (eI cC)), (6, (.mp lm11)), (32, (eL aM t32)), (33, (eI t33)), (34, (eI s.2))] ∧ aJ ⟨H0, [], (lm11, AT (eI) s.1) :: []⟩ H []) hl0 ⟨.eq (by kernel_rfl), hO⟩ ?_
  clear hO
  rintro k0 s out1 T H ⟨hT, hO⟩ h1 ho0
  obtain ⟨jO, t34⟩ := s
  replace h1 : mC cC t32 t33 jO t34 = some out1 := h1
  try dsimp only at hT
  refine aY hT ?_
  clear hT
  unfold mC at h1
  refine aT aD 1 [] [(35, (aE (decide (t34 < t33))))] ?_
  refine aN ?_
  refine bH h1 (fun h1 => ?_) (fun h1 => ?_)
  · refine bI ?_
    refine bG [(1, (eI cC)), (6, (.mp lm11)), (32, (eL aM t32)), (33, (eI t33)), (34, (eI t34))] ?_
    refine dS (fun T H => ∃ jO : (List (Int × Int)), Has T [(1, (eI cC)), (6, (.mp lm11)), (32, (eL aM t32)), (33, (eI t33)), (34, (eI t34))] ∧ aJ ⟨H0, [], (lm11, AT (eI) jO) :: []⟩ H [] ∧ pF cC jO t32 t33 t34 = some out1) ?_ ?_
    · clear hO h1
      rintro T H ⟨jO, hT, hO, h1⟩
      refine aY hT ?_
      clear hT
      unfold pF at h1
      refine aU aD 2 ?_
      refine bA ?_
      exact aG (aF (⟨rfl, _, (oI h1).symm, .eq (by kernel_rfl), hO⟩))
    refine bY 2 ?_
    refine aN ?_
    refine aU aD 4 ?_
    obtain ⟨c30, h1⟩ := aV h1
    refine pN 2 [0 ≤ t34 ∧ t34 < (lN t32)] ⟨c30, trivial⟩ ?_
    refine AE 3 (.agg [(.sl true 0 (fun _ => .bad)), (eI 0), (eI 0)]) (aM (aL.mk ([]) 0 0)) (by kernel_rfl) (by kernel_rfl) (by kernel_rfl) (UN (xs := [(.sl true 0 (fun _ => .bad)), (eI 0), (eI 0)]) (ys := [(eL aC ([])), (eI 0), (eI 0)]) ⟨lT, aO.refl _, aO.refl _, trivial⟩) (by kernel_rfl) (by kernel_rfl) hO ?_
    intro lo31 H hO
    refine rQ 0 lo31 3 0 (aM (aL.mk ([]) 0 0)) (aM (gD t32 t34)) [(aM (aL.mk ([]) 0 0))] [(lo31, 3, [(aM (gD t32 t34))])] hO rfl (by kernel_rfl) ?_
    intro H hO
    refine iT ?_
    refine bP [] [(8, (.lp lo31 0 0))] ?_
    refine aN ?_
    refine aU aD 4 ?_
    refine bS 1 ?_
    refine uM 0 lo31 3 0 (aM (gD t32 t34)) (eI ((gD t32 t34).At)) [(aM (gD t32 t34))] hO rfl ?_
    refine bA ?_
    refine bP [] [(41, (aE (decide (cC < ((gD t32 t34).At)))))] ?_
    refine bH h1 (fun h1 => ?_) (fun h1 => ?_)
    · refine aU aD 4 ?_
      refine bS 2 ?_
      refine uM 0 lo31 3 0 (aM (gD t32 t34)) (eI ((gD t32 t34).At)) [(aM (gD t32 t34))] hO rfl ?_
      refine MK (f := (eI)) (mty := 58) ((gD t32 t34).At) (1 : Int) hO ?_
      intro H hO
      refine iT ?_
      replace hO := hO.pick (L' := []) [] (by decide) (by kernel_rfl)
      exact aG (aW (aF (⟨rfl, _, .eq (by kernel_rfl), hO, h1⟩)))
    refine bI ?_
    replace hO := hO.pick (L' := []) [] (by decide) (by kernel_rfl)
    exact aG (aW (aF (⟨rfl, _, .eq (by kernel_rfl), hO, h1⟩)))
  refine fA 1 ?_
  obtain rfl := oI h1
  obtain rfl : _ = rr0 := ho0
  replace h0 : rU jO = some r := h0
  exact aG (aS (aS (bN (aF (⟨rfl, _, .eq (by kernel_rfl), hO, h0⟩)))))

theorem JL (l0 : (List aL)) (r : (List aL)) (h0 : tT l0 = some r) : dN Try.prog 38 [(eL aM l0)] (.fn (.func 66) [] [(.rp (eL aM r))]) := by
  intro H0
  refine dG Try.func38 ?_
  have hO := aJ.start H0
  unfold tT at h0
  refine aN ?_
  refine aU aD 2 ?_
  refine nY 1 (eL aM l0) (by kernel_rfl) (by kernel_rfl) ?_
  refine bA ?_
  refine bG [(1, (.rp (eL aM l0)))] ?_
  refine bO aD 2 [(2, (.fn (.func 66) [] [(.rp (eL aM l0))]))] ?_
  refine bJ ?_
  obtain rfl := oI h0
  exact aG (lW (x := (.fn (.func 66) [] [(.rp (eL aM l0))])) (by kernel_rfl) (aO.refl _) ⟨rfl, hO.out⟩)

theorem DM {σ : Type} (I : σ → Gs → Prop) (yield0_b : Nat) (fY : σ → (List aB) → (List aI) → Option (σ × Bool)) (yield0_h : ∀ st a0 a1 st2 r, fY st a0 a1 = some (st2, r) → DG Try.prog (yv yield0_b) I st [(eL aC a0), (eL aQ a1)] st2 (aE r)) (t1 : (List aL)) (sg0 : σ) (r : σ) (h0 : mP fY t1 sg0 = some r) : xA Try.prog 66 I sg0 [(yv yield0_b), (.rp (eL aM t1))] r (.tup []) := by
  intro H0 G0 hI hg
  refine HO aD Try.func66 (by kernel_rfl) (by kernel_rfl) (by kernel_rfl) ?_
  obtain ⟨G, hO, hI⟩ : ∃ G, aJ ⟨H0, List.map (fun p : Nat × dO => p.1) G0, G⟩ H0 [] ∧ I sg0 G := ⟨G0, aJ.GL hg, hI⟩
  clear hg
  unfold mP at h0
  refine aN ?_
  refine aU aD 1 ?_
  refine nY 1 (yv yield0_b) (by kernel_rfl) (by kernel_rfl) ?_
  refine iT ?_
  refine bP [0] [(2, (.rp (yv yield0_b)))] ?_
  refine aN ?_
  refine aN ?_
  refine aU aD 3 ?_
  refine bS 1 ?_
  obtain ⟨x1, hx2, h0⟩ := aX h0
  refine dW (GJ t1 _ hx2) hO ?_
  intro H hO
  refine bA ?_
  refine bP [] [(7, (aE (!x1)))] ?_
  refine bH h0 (fun h0 => ?_) (fun h0 => ?_)
  · refine bJ ?_
    obtain rfl := oI h0
    exact aG (aP (QM0 (.inr rfl) (rs := []) (xs := []) (x := (.tup [])) (by kernel_rfl) uZ (by kernel_rfl) ⟨rfl, G, hI, hO.CJ⟩))
  refine bI ?_
  refine bG [(1, (.rp (eL aM t1))), (2, (.rp (yv yield0_b)))] ?_
  refine aN ?_
  refine aU aD 2 ?_
  refine bS 1 ?_
  obtain ⟨x5, hx6, h0⟩ := aX h0
  refine dW (DS t1 _ hx6) hO ?_
  intro H hO
  refine iT ?_
  refine bP [1] [(9, (.fn (.func 91) [] [(.rp (eL aM x5))]))] ?_
  refine bY 0 ?_
  refine eU [(2, (.rp (yv yield0_b))), (9, (.fn (.func 91) [] [(.rp (eL aM x5))]))] ?_
  refine dU (fun T H => ∃ sg : σ, ∃ t9c0 : (List aL), ∃ G : Gs, Has T [(2, (.rp (yv yield0_b))), (9, (.fn (.func 91) [] [(.rp (eL aM t9c0))]))] ∧ aJ ⟨H0, List.map (fun p : Nat × dO => p.1) G0, G⟩ H [] ∧ I sg G ∧ nV fY sg t9c0 = some r) ?_ ⟨sg0, x5, G, .eq (by kernel_rfl), hO, hI, h0⟩
  clear hO hI h0
  rintro T H ⟨sg, t9c0, G, hT, hO, hI, h0⟩
  refine aY (l := [(2, (.rp (yv yield0_b))), (9, (.fn (.func 91) [] [(.rp (eL aM t9c0))]))]) hT ?_
  clear hT
  unfold nV at h0
  obtain ⟨o0, hl0, h0⟩ := aX h0
  refine EC (fid := 91) (ys := []) (cs := [(.rp (eL aM t9c0))]) #[10, 11] (fun (A : yG) (b lL : Nat) (st : (σ) ⊕ (σ)) (G' : Gs) => Sum.elim (fun (s : σ) => ∃ G : Gs, I s G ∧ G' = (lL, .raw (kV b A .ready none)) :: (up [] ++ G)) (fun (s : σ) => ∃ G : Gs, I s G ∧ G' = (lL, .raw (kV b A .done (some .ret))) :: (up [] ++ G)) st) (.inl sg) o0 (.tup []) (by kernel_rfl) (by kernel_rfl) (by kernel_rfl) hO (fun _ _ => ⟨G, hI, rfl⟩) ?_ ?_
  · intro b lL
    clear hO hI h0
    refine yJ _ b (fun st t10 t11 => rnd (fun (s : σ) => kA fY t9c0 s t10 t11) st) ?_ t9c0 _ _ hl0
    intro st t10 t11 out1 rr hr
    obtain ⟨s, rfl, h1, rfl⟩ := VQ hr
    clear hr
    intro Hr Gr hi hg
    obtain ⟨sg, rfl⟩ : ∃ x, x = s := ⟨_, rfl⟩
    dsimp only [Sum.elim_inl] at hi
    obtain ⟨G, hI, rfl⟩ := hi
    replace h1 : kA fY t9c0 sg t10 t11 = some out1 := h1
    unfold kA at h1
    obtain ⟨E1, hE, hO⟩ := zA hg
    refine zO (EG (hO.gm 0 _ rfl).2 (by kernel_rfl) (by kernel_rfl) ?_)
    refine eU [(2, (.rp (yv yield0_b))), (9, (.fn (.func 91) [] [(.rp (eL aM t9c0))])), (10, (eL aC t10)), (11, (eL aQ t11))] ?_
    refine aT aD 1 [9, 10] [(3, (eL aC t10))] ?_
    refine aU aD 1 ?_
    refine bA ?_
    refine iD [(2, (.rp (yv yield0_b))), (3, (eL aC t10)), (4, (eL aQ t11))] ?_
    refine aG (⟨rfl, rfl, (hO.gm 0 _ rfl).2, ?_⟩)
    intro o1 ho1
    replace hO := hO.vB o1
    refine bY 1 ?_
    refine aN ?_
    refine aU aD 5 ?_
    refine bS 3 ?_
    obtain ⟨x7, hx8, h1⟩ := aX h1
    refine WI (I := I) (yv yield0_b) [(eL aC t10), (eL aQ t11)] (aE x7.2) (by kernel_rfl) (by kernel_rfl) (yield0_h _ t10 t11 x7.1 x7.2 hx8) hO hI ?_
    intro G H hO hI
    refine bA ?_
    refine bG [(16, (aE (!x7.2)))] ?_
    refine bH h1 (fun h1 => ?_) (fun h1 => ?_)
    · refine bJ ?_
      refine iD [] ?_
      obtain rfl := oI h1
      exact aG (bD (⟨(nA hO hE ho1 .dead).1, rfl, _, ⟨G, hI, rfl⟩, (nA hO hE ho1 _).2⟩))
    refine bI ?_
    refine iD [] ?_
    obtain rfl := oI h1
    exact aG (aW (⟨(nA hO hE ho1 .dead).1, rfl, _, ⟨G, hI, rfl⟩, (nA hO hE ho1 _).2⟩))
  · intro b lD10 lL H' G' hi hO
    rcases o0 with s | s
    · dsimp only [Sum.elim_inl] at hi
      obtain ⟨G, hI, rfl⟩ := hi
      replace h0 : (some s) = some r := h0
      obtain ⟨hlL, hO⟩ := uY hO
      refine ⟨_, _, hlL, (by intro e; cases e), ?_⟩
      obtain rfl := oI h0
      have hD := (hO.gm 0 _ rfl).2
      replace hO := (hO.vB .dead).tZ
      exact aG (aW (QM1 (.inl rfl) hD (rs := []) (xs := []) (x := (.tup [])) (by kernel_rfl) uZ (by kernel_rfl) ⟨rfl, G, hI, hO.CJ⟩))
    · dsimp only [Sum.elim_inr] at hi
      obtain ⟨G, hI, rfl⟩ := hi
      replace h0 : (some s) = some r := h0
      obtain ⟨hlL, hO⟩ := uY hO
      refine ⟨_, _, hlL, (by intro e; cases e), ?_⟩
      refine bJ ?_
      obtain rfl := oI h0
      have hD := (hO.gm 0 _ rfl).2
      replace hO := (hO.vB .dead).tZ
      exact aG (bD (QM1 (.inr rfl) hD (rs := []) (xs := []) (x := (.tup [])) (by kernel_rfl) uZ (by kernel_rfl) ⟨rfl, G, hI, hO.CJ⟩))

theorem UQ (f0 : (List aI)) (t1 : Int) (r : Int) (h0 : wK f0 t1 = some r) : dN Try.prog 40 [(eL aQ f0), (eI t1)] (eI r) := by
  intro H0
  refine dG Try.func40 ?_
  have hO := aJ.start H0
  unfold wK at h0
  refine aT aD 1 [] [] ?_
  refine aN ?_
  refine aN ?_
  refine aU aD 3 ?_
  refine bS 1 ?_
  obtain ⟨x1, hx2, h0⟩ := aX h0
  refine dW (xD f0 _ hx2) hO ?_
  intro H hO
  refine bA ?_
  refine bP [] [(10, (aE (!x1)))] ?_
  refine bH h0 (fun h0 => ?_) (fun h0 => ?_)
  · refine bO aD 1 [(4, (eI (0 : Int)))] ?_
    refine bJ ?_
    obtain rfl := oI h0
    exact aG (aP (Q_r hO))
  refine bI ?_
  refine bG [(0, (eL aQ f0)), (1, (eI t1))] ?_
  refine aT aD 1 [] [(5, (eI (0 : Int)))] ?_
  refine dS (fun T H => ∃ v5 : Int, Has T [(5, (eI v5))] ∧ aJ ⟨H0, [], []⟩ H [] ∧ sV v5 = some r) ?_ ?_
  · clear hO h0
    rintro T H ⟨v5, hT, hO, h0⟩
    refine aY hT ?_
    clear hT
    unfold sV at h0
    refine bO aD 2 [(4, (eI v5))] ?_
    refine bJ ?_
    obtain rfl := oI h0
    exact aG (Q_r hO)
  refine aT aD 3 [0] [(11, (eL aQ f0)), (12, (eI (lN f0))), (13, (eI (0 : Int)))] ?_
  refine bY 0 ?_
  refine eU [(1, (eI t1)), (5, (eI (0 : Int))), (11, (eL aQ f0)), (12, (eI (lN f0))), (13, (eI (0 : Int)))] ?_
  refine dU (fun T H => ∃ v5 : Int, ∃ t11 : (List aI), ∃ t12 : Int, ∃ t13 : Int, Has T [(1, (eI t1)), (5, (eI v5)), (11, (eL aQ t11)), (12, (eI t12)), (13, (eI t13))] ∧ aJ ⟨H0, [], []⟩ H [] ∧ xB t1 v5 t11 t12 t13 = some r) ?_ ⟨(0 : Int), f0, (lN f0), (0 : Int), .eq (by kernel_rfl), hO, h0⟩
  clear hO h0
  rintro T H ⟨v5, t11, t12, t13, hT, hO, h0⟩
  refine aY hT ?_
  clear hT
  unfold xB at h0
  obtain ⟨rr0, hl0, h0⟩ := aX h0
  refine cS (by kernel_rfl) (fun (s : Int × Int) T H => Has T [(1, (eI t1)), (5, (eI s.1)), (11, (eL aQ t11)), (12, (eI t12)), (13, (eI s.2))] ∧ aJ ⟨H0, [], []⟩ H []) hl0 ⟨.eq (by kernel_rfl), hO⟩ ?_
  clear hO
  rintro k0 s out1 T H ⟨hT, hO⟩ h1 ho0
  obtain ⟨v5, t13⟩ := s
  replace h1 : lY t1 t11 t12 v5 t13 = some out1 := h1
  try dsimp only at hT
  refine aY hT ?_
  clear hT
  unfold lY at h1
  refine aT aD 1 [] [(14, (aE (decide (t13 < t12))))] ?_
  refine aN ?_
  refine bH h1 (fun h1 => ?_) (fun h1 => ?_)
  · refine bI ?_
    refine bG [(1, (eI t1)), (5, (eI v5)), (11, (eL aQ t11)), (12, (eI t12)), (13, (eI t13))] ?_
    refine aN ?_
    refine bY 1 ?_
    refine aN ?_
    refine aU aD 4 ?_
    obtain ⟨c6, h1⟩ := aV h1
    refine pN 2 [0 ≤ t13 ∧ t13 < (lN t11)] ⟨c6, trivial⟩ ?_
    refine sD 2 (aQ (aI.mk 0 0)) (by kernel_rfl) (by kernel_rfl) hO ?_
    intro lo7 H hO
    refine rQ 0 lo7 2 0 (aQ (aI.mk 0 0)) (aQ (gD t11 t13)) [(aQ (aI.mk 0 0))] [(lo7, 2, [(aQ (gD t11 t13))])] hO rfl (by kernel_rfl) ?_
    intro H hO
    refine iT ?_
    refine bP [] [(7, (.lp lo7 0 0))] ?_
    refine aN ?_
    refine aN ?_
    refine aU aD 4 ?_
    refine bS 1 ?_
    refine uM 0 lo7 2 0 (aQ (gD t11 t13)) (eI ((gD t11 t13).At)) [(aQ (gD t11 t13))] hO rfl ?_
    refine bA ?_
    refine bP [] [(20, (aE (decide (t1 < ((gD t11 t13).At)))))] ?_
    refine bH h1 (fun h1 => ?_) (fun h1 => ?_)
    · refine fA 0 ?_
      replace hO := hO.pick (L' := []) [] (by decide) (by kernel_rfl)
      obtain rfl := oI h1
      obtain rfl : _ = rr0 := ho0
      replace h0 : sV v5 = some r := h0
      exact aG (aS (qZ (by kernel_rfl) (aS (aS (bN (aF (⟨rfl, _, .eq (by kernel_rfl), hO, h0⟩)))))))
    refine bI ?_
    refine bG [(1, (eI t1)), (5, (eI v5)), (7, (.lp lo7 0 0)), (11, (eL aQ t11)), (12, (eI t12)), (13, (eI t13))] ?_
    refine aU aD 5 ?_
    refine bS 2 ?_
    refine uM 0 lo7 2 0 (aQ (gD t11 t13)) (eI ((gD t11 t13).Net)) [(aQ (gD t11 t13))] hO rfl ?_
    refine bA ?_
    refine iD [(1, (eI t1)), (5, (eI (wR (v5 + ((gD t11 t13).Net))))), (11, (eL aQ t11)), (12, (eI t12)), (13, (eI t13))] ?_
    replace hO := hO.pick (L' := []) [] (by decide) (by kernel_rfl)
    refine aG (aW (aF (?_)))
    refine aU aD 2 ?_
    refine bA ?_
    exact aG (aF (⟨rfl, _, (oI h1).symm, .eq (by kernel_rfl), hO⟩))
  refine fA 0 ?_
  obtain rfl := oI h1
  obtain rfl : _ = rr0 := ho0
  replace h0 : sV v5 = some r := h0
  exact aG (aS (aS (bN (aF (⟨rfl, _, .eq (by kernel_rfl), hO, h0⟩)))))

theorem uC (s0 : (List aB)) (r : (List aB)) (h0 : gK s0 = some r) : yW Try.prog 41 [(eL aC s0)] (fun lo => (.msl 3 lo 0 (List.length r))) 3 (List.map aC r) := by
  intro H0
  refine dG Try.func41 ?_
  have hO := aJ.start H0
  unfold gK at h0
  refine aT aD 1 [] [] ?_
  refine aN ?_
  refine aN ?_
  refine aU aD 2 ?_
  refine bS 1 ?_
  refine aAr false (List.length s0) (fun i => aC (List.getD s0 i default)) (by kernel_rfl) (by kernel_rfl) ?_
  intro b1 hn2
  refine iT ?_
  refine bP [] [(4, (aE b1))] ?_
  refine lQ (b1) (fun hc3 => ?_) (fun hc3 => ?_)
  · replace h0 : some ([] : List aB) = some r := by
      have hl := List.eq_nil_of_length_eq_zero (hn2 hc3)
      rw [hl] at h0
      exact (aV h0).2
    refine bO aD 1 [(2, (.sl true 0 (fun _ => .bad)))] ?_
    refine bJ ?_
    refine iD [(2, (.sl true 0 (fun _ => .bad)))] ?_
    refine ZU (el := (fun _ => .bad)) 0 2 3 hO (by kernel_rfl) ?_
    intro lo4 H5 hO
    obtain rfl := oI h0
    exact aG (aP (lW (x := (.msl 3 lo4 0 (List.length ([] : List aB)))) (by kernel_rfl) (aO.refl _) ⟨lo4, rfl, hO⟩))
  · refine bI ?_
    refine bG [(0, (eL aC s0))] ?_
    refine aN ?_
    refine aU aD 4 ?_
    refine lV (xs := []) (k := 3) (by kernel_rfl) (by kernel_rfl) ?_
    refine bS 2 ?_
    obtain ⟨c7, h0⟩ := aV h0
    refine PF (e := aC) s0 (fun _ => .bad) 3 32 (eL aC s0) (fun lo6 => [(lo6, 3, List.map aC s0)]) (by kernel_rfl) (by kernel_rfl) hO (OQ (fun _ => by kernel_rfl)) c7 (fun _ => by kernel_rfl) ?_
    intro lo6 H hO
    refine bA ?_
    refine bG [(2, (.msl 3 lo6 0 (List.length s0)))] ?_
    refine bJ ?_
    obtain rfl := oI h0
    exact aG (lW (x := (.msl 3 lo6 0 (List.length s0))) (by kernel_rfl) (aO.refl _) ⟨lo6, rfl, hO⟩)

theorem HC (t0 : Int) (t1 : (List bU)) (r : (List dB)) (h0 : pG t0 t1 = some r) : dN Try.prog 39 [(eI t0), (.rp (eL bV t1))] (eL fK r) := by
  intro H0
  refine dG Try.func39 ?_
  have hO := aJ.start H0
  unfold pG at h0
  refine aT aD 1 [] [] ?_
  refine aN ?_
  refine aU aD 2 ?_
  refine lV (xs := []) (k := 2) (by kernel_rfl) (by kernel_rfl) ?_
  refine bA ?_
  refine bP [] [(4, (.sl true 0 (fun _ => .bad)))] ?_
  refine dS (fun T H => ∃ out4 : List dB, ∃ lo1 : Nat, Has T [(4, (.msl 2 lo1 0 (List.length out4)))] ∧ aJ ⟨H0, [], []⟩ H [(lo1, 2, List.map fK out4)] ∧ rK out4 = some r) ?_ ?_
  · clear hO h0
    rintro T H ⟨out4, lo1, hT, hO, h0⟩
    refine aY hT ?_
    clear hT
    unfold rK at h0
    refine bO aD 2 [(3, (.msl 2 lo1 0 (List.length out4)))] ?_
    refine bJ ?_
    refine iD [(3, (.msl 2 lo1 0 (List.length out4)))] ?_
    refine sE (en := fK) out4 0 0 3 2 lo1 (List.length out4) hO (by kernel_rfl) (by kernel_rfl) (by kernel_rfl) (L' := []) (by kernel_rfl) ?_
    intro H2 hO
    obtain rfl := oI h0
    exact aG (Q_r hO)
  refine aT aD 3 [1] [(9, (eL bV t1)), (10, (eI (lN t1))), (11, (eI (0 : Int)))] ?_
  refine bY 0 ?_
  refine eU [(0, (eI t0)), (4, (.sl true 0 (fun _ => .bad))), (9, (eL bV t1)), (10, (eI (lN t1))), (11, (eI (0 : Int)))] ?_
  refine zZ (el := (fun _ => .bad)) 1 4 2 hO (by kernel_rfl) ?_
  intro lo21 H22 hO
  refine dU (fun T H => ∃ out4 : List dB, ∃ t9 : (List bU), ∃ t10 : Int, ∃ t11 : Int, ∃ lo4 : Nat, Has T [(0, (eI t0)), (4, (.msl 2 lo4 0 (List.length out4))), (9, (eL bV t9)), (10, (eI t10)), (11, (eI t11))] ∧ aJ ⟨H0, [], []⟩ H [(lo4, 2, List.map fK out4)] ∧ rH t0 out4 t9 t10 t11 = some r) ?_ ⟨([] : List dB), t1, (lN t1), (0 : Int), lo21, .eq (by kernel_rfl), hO, h0⟩
  clear hO h0
  rintro T H ⟨out4, t9, t10, t11, lo4, hT, hO, h0⟩
  refine aY hT ?_
  clear hT
  unfold rH at h0
  obtain ⟨rr0, hl0, h0⟩ := aX h0
  refine cS (by kernel_rfl) (fun (s : List dB × Int) T H => ∃ lo4 : Nat, Has T [(0, (eI t0)), (4, (.msl 2 lo4 0 (List.length s.1))), (9, (eL bV t9)), (10, (eI t10)), (11, (eI s.2))] ∧ aJ ⟨H0, [], []⟩ H [(lo4, 2, List.map fK s.1)]) hl0 ⟨lo4, .eq (by kernel_rfl), hO⟩ ?_
  clear hO
  rintro k0 s out1 T H ⟨lo4, hT, hO⟩ h1 ho0
  obtain ⟨out4, t11⟩ := s
  replace h1 : kZ t0 t9 t10 out4 t11 = some out1 := h1
  try dsimp only at hT
  refine aY hT ?_
  clear hT
  unfold kZ at h1
  refine aT aD 1 [] [(12, (aE (decide (t11 < t10))))] ?_
  refine aN ?_
  refine bH h1 (fun h1 => ?_) (fun h1 => ?_)
  · refine bI ?_
    refine bG [(0, (eI t0)), (4, (.msl 2 lo4 0 (List.length out4))), (9, (eL bV t9)), (10, (eI t10)), (11, (eI t11))] ?_
    refine dS (fun T H => ∃ out4 : List dB, ∃ lo6 : Nat, Has T [(0, (eI t0)), (4, (.msl 2 lo6 0 (List.length out4))), (9, (eL bV t9)), (10, (eI t10)), (11, (eI t11))] ∧ aJ ⟨H0, [], []⟩ H [(lo6, 2, List.map fK out4)] ∧ mF t0 out4 t9 t10 t11 = some out1) ?_ ?_
    · clear hO h1
      rintro T H ⟨out4, lo6, hT, hO, h1⟩
      refine aY hT ?_
      clear hT
      unfold mF at h1
      refine aU aD 2 ?_
      refine bA ?_
      exact aG (aF (⟨rfl, _, (oI h1).symm, _, .eq (by kernel_rfl), hO⟩))
    refine bY 1 ?_
    refine aN ?_
    refine aU aD 4 ?_
    obtain ⟨c7, h1⟩ := aV h1
    refine pN 2 [0 ≤ t11 ∧ t11 < (lN t9)] ⟨c7, trivial⟩ ?_
    refine AE 2 (.agg [(.sl true 0 (fun _ => .bad)), (.sl true 0 (fun _ => .bad))]) (bV (bU.mk ([]) ([]))) (by kernel_rfl) (by kernel_rfl) (by kernel_rfl) (UN (xs := [(.sl true 0 (fun _ => .bad)), (.sl true 0 (fun _ => .bad))]) (ys := [(eL aC ([])), (eL aQ ([]))]) ⟨lT, lT, trivial⟩) (by kernel_rfl) (by kernel_rfl) hO ?_
    intro lo8 H hO
    refine rQ 1 lo8 2 0 (bV (bU.mk ([]) ([]))) (bV (gD t9 t11)) [(bV (bU.mk ([]) ([])))] [(lo4, 2, List.map fK out4), (lo8, 2, [(bV (gD t9 t11))])] hO rfl (by kernel_rfl) ?_
    intro H hO
    refine iT ?_
    refine bP [] [(6, (.lp lo8 0 0))] ?_
    refine aN ?_
    refine aU aD 5 ?_
    refine bS 1 ?_
    refine uM 1 lo8 2 0 (bV (gD t9 t11)) (eL aQ ((gD t9 t11).jumps)) [(bV (gD t9 t11))] hO rfl ?_
    refine bS 3 ?_
    obtain ⟨x9, hx10, h1⟩ := aX h1
    refine dW (UQ ((gD t9 t11).jumps) t0 _ hx10) hO ?_
    intro H hO
    refine bA ?_
    refine bP [] [(7, (eI x9))] ?_
    refine aT aD 2 [] [(20, (aE (decide ((0 : Int) < x9))))] ?_
    refine bH h1 (fun h1 => ?_) (fun h1 => ?_)
    · refine aU aD 9 ?_
      refine bS 2 ?_
      refine uM 1 lo8 2 0 (bV (gD t9 t11)) (eL aC ((gD t9 t11).row)) [(bV (gD t9 t11))] hO rfl ?_
      obtain ⟨x16, hx17, h1⟩ := aX h1
      refine XY (L' := fun lo18 => [(lo4, 2, List.map fK out4), (lo8, 2, [(bV (gD t9 t11))]), (lo18, 3, List.map aC x16)]) 3 (List.map aC x16) 41 [(eL aC ((gD t9 t11).row))] (fun lo18 => (.msl 3 lo18 0 (List.length x16))) (by kernel_rfl) (by kernel_rfl) (uC ((gD t9 t11).row) _ hx17) hO (fun _ => by kernel_rfl) ?_
      intro lo18 H hO
      refine bS 5 ?_
      refine IN (e := aC) x16 2 24 3 lo18 (List.length x16) [(lo4, 2, List.map fK out4), (lo8, 2, [(bV (gD t9 t11))])] (by kernel_rfl) hO (by kernel_rfl) (by kernel_rfl) (by kernel_rfl) (by kernel_rfl) ?_
      intro H hO
      refine bS 6 ?_
      refine lV (xs := [(fK (dB.mk x16 x9))]) (k := 2) (by kernel_rfl) (by kernel_rfl) ?_
      obtain ⟨c20, h1⟩ := aV h1
      refine qU (e := fK) out4 ([dB.mk x16 x9]) 0 lo4 2 32 (iC [(fK (dB.mk x16 x9))]) (fun lo19 => [(lo19, 2, List.map fK (out4 ++ ([dB.mk x16 x9]))), (lo8, 2, [(bV (gD t9 t11))])]) (by kernel_rfl) (by kernel_rfl) hO (by kernel_rfl) (by kernel_rfl) c20 (fun _ => by kernel_rfl) ?_
      intro lo19 H hO
      refine bA ?_
      replace hO := hO.pick (L' := [(lo19, 2, List.map fK (out4 ++ ([dB.mk x16 x9])))]) [0] (by decide) (by kernel_rfl)
      exact aG (aW (aF (⟨rfl, _, _, .eq (by kernel_rfl), hO, h1⟩)))
    refine bI ?_
    replace hO := hO.pick (L' := [(lo4, 2, List.map fK out4)]) [0] (by decide) (by kernel_rfl)
    exact aG (aW (aF (⟨rfl, _, _, .eq (by kernel_rfl), hO, h1⟩)))
  refine fA 0 ?_
  obtain rfl := oI h1
  obtain rfl : _ = rr0 := ho0
  replace h0 : rK out4 = some r := h0
  exact aG (aS (aS (bN (aF (⟨rfl, _, _, .eq (by kernel_rfl), hO, h0⟩)))))

theorem MW (l0 : (List aL)) (cC : Int) (r : ((List cM) × Int)) (h0 : rN l0 cC = some r) : dN Try.prog 14 [(eL aM l0), (eI cC)] (.tup [(eL eK r.1), (eI r.2)]) := by
  intro H0
  refine HO aD Try.func14 (by kernel_rfl) (by kernel_rfl) (by kernel_rfl) ?_
  have hO := aJ.start H0
  unfold rN at h0
  refine aT aD 2 [] [] ?_
  refine aN ?_
  refine aU aD 8 ?_
  refine bS 2 ?_
  obtain ⟨x1, hx2, h0⟩ := aX h0
  refine dW (zL l0 cC _ hx2) hO ?_
  intro H hO
  refine bA ?_
  refine bP [1] [(6, (eL (eI) x1.1)), (7, (eI x1.2))] ?_
  refine aN ?_
  refine aT aD 2 [] [(24, (aE (!decide (x1.2 = (0 : Int)))))] ?_
  refine bH h0 (fun h0 => ?_) (fun h0 => ?_)
  · refine bO aD 3 [(4, (.sl true 0 (fun _ => .bad))), (5, (eI x1.2))] ?_
    refine bJ ?_
    refine cV (l := [(4, (eL eK ([]))), (5, (eI x1.2))]) ⟨[(4, (.sl true 0 (fun _ => .bad))), (5, (eI x1.2))], by kernel_rfl, rfl, ⟨lT, aO.refl _, trivial⟩⟩ ?_
    obtain rfl := oI h0
    exact aG (aP (QM0 (.inr rfl) (rs := [.tmp 4, .tmp 5]) (xs := [(eL eK ([])), (eI x1.2)]) (x := (.tup [(eL eK ([])), (eI x1.2)])) (by kernel_rfl) (zT (x := (eL eK ([]))) (by kernel_rfl) (zT (x := (eI x1.2)) (by kernel_rfl) uZ)) (by kernel_rfl) ⟨rfl, hO.out⟩))
  refine bI ?_
  refine bG [(0, (eL aM l0)), (6, (eL (eI) x1.1))] ?_
  refine aN ?_
  refine aU aD 3 ?_
  refine lV (xs := []) (k := 2) (by kernel_rfl) (by kernel_rfl) ?_
  refine AE 1 (.sl true 0 (fun _ => .bad)) (eL bV ([])) (by kernel_rfl) (by kernel_rfl) (by kernel_rfl) (lT) (by kernel_rfl) (by kernel_rfl) hO ?_
  intro lo5 H hO
  refine aAf 26 2 (fun _ => .bad) (by kernel_rfl) hO (by kernel_rfl) ?_
  intro lo6 H hO
  refine rQ 0 lo5 1 0 (eL bV ([])) (.msl 2 lo6 0 (List.length ([] : List bU))) [(eL bV ([]))] [(lo5, 1, [(.msl 2 lo6 0 (List.length ([] : List bU)))]), (lo6, 2, List.map bV ([] : List bU))] hO rfl (by kernel_rfl) ?_
  intro H hO
  refine iT ?_
  refine bP [] [(8, (.lp lo5 0 0))] ?_
  refine aN ?_
  refine aN ?_
  refine aU aD 2 ?_
  refine bS 1 ?_
  obtain ⟨x7, hx8, h0⟩ := aX h0
  refine dW (JL l0 _ hx8) hO ?_
  intro H hO
  refine iT ?_
  refine bP [0] [(28, (.fn (.func 66) [] [(.rp (eL aM x7))]))] ?_
  refine bY 0 ?_
  refine eU [(6, (eL (eI) x1.1)), (8, (.lp lo5 0 0)), (28, (.fn (.func 66) [] [(.rp (eL aM x7))]))] ?_
  refine dU (fun T H => ∃ dX : (List Int), ∃ all8 : List bU, ∃ sI : (List aL), ∃ lo9 : Nat, Has T [(6, (eL (eI) dX)), (8, (.lp lo5 0 0)), (28, (.fn (.func 66) [] [(.rp (eL aM sI))]))] ∧ aJ ⟨H0, [], []⟩ H [(lo5, 1, [(.msl 2 lo9 0 (List.length all8))]), (lo9, 2, List.map bV all8)] ∧ tQ dX all8 sI = some r) ?_ ⟨x1.1, ([] : List bU), x7, lo6, .eq (by kernel_rfl), hO, h0⟩
  clear hO h0
  rintro T H ⟨dX, all8, sI, lo9, hT, hO, h0⟩
  refine aY (l := [(6, (eL (eI) dX)), (8, (.lp lo5 0 0)), (28, (.fn (.func 66) [] [(.rp (eL aM sI))]))]) hT ?_
  clear hT
  unfold tQ at h0
  obtain ⟨o0, hl0, h0⟩ := aX h0
  refine EC (fid := 66) (ys := []) (cs := [(.rp (eL aM sI))]) #[29, 30] (fun (A : yG) (b lL : Nat) (st : (List bU) ⊕ (List bU)) (G' : Gs) => Sum.elim (fun (s : List bU) => ∃ lo9 : Nat, G' = (lL, .raw (kV b A .ready none)) :: (up [(lo5, 1, [(.msl 2 lo9 0 (List.length s))]), (lo9, 2, List.map bV s)] ++ [])) (fun (s : List bU) => False) st) (.inl all8) o0 (.tup []) (by kernel_rfl) (by kernel_rfl) (by kernel_rfl) hO (fun _ _ => ⟨lo9, rfl⟩) ?_ ?_
  · intro b lL
    clear hO h0
    refine DM _ b (fun st t29 t30 => rnd (fun (s : List bU) => lJ dX sI s t29 t30) st) ?_ sI _ _ hl0
    intro st t29 t30 out1 rr hr
    obtain ⟨s, rfl, h1, rfl⟩ := VQ hr
    clear hr
    intro Hr Gr hi hg
    obtain ⟨all8, rfl⟩ : ∃ x, x = s := ⟨_, rfl⟩
    dsimp only [Sum.elim_inl] at hi
    obtain ⟨lo9, rfl⟩ := hi
    replace h1 : lJ dX sI all8 t29 t30 = some out1 := h1
    unfold lJ at h1
    obtain ⟨E1, hE, hO⟩ := zA hg
    refine zO (EG (hO.gm 0 _ rfl).2 (by kernel_rfl) (by kernel_rfl) ?_)
    refine eU [(6, (eL (eI) dX)), (8, (.lp lo5 0 0)), (28, (.fn (.func 66) [] [(.rp (eL aM sI))])), (29, (eL aC t29)), (30, (eL aQ t30))] ?_
    refine aT aD 1 [6, 28, 29] [(9, (eL aC t29))] ?_
    refine aU aD 1 ?_
    refine bA ?_
    refine iD [(8, (.lp lo5 0 0)), (9, (eL aC t29)), (10, (eL aQ t30))] ?_
    refine aG (⟨rfl, rfl, (hO.gm 0 _ rfl).2, ?_⟩)
    intro o1 ho1
    replace hO := hO.vB o1
    refine bY 1 ?_
    refine aU aD 7 ?_
    refine uM 0 lo5 1 0 (.msl 2 lo9 0 (List.length all8)) (.msl 2 lo9 0 (List.length all8)) [(.msl 2 lo9 0 (List.length all8))] hO rfl ?_
    refine bS 4 ?_
    refine lV (xs := [(bV (bU.mk t29 t30))]) (k := 2) (by kernel_rfl) (by kernel_rfl) ?_
    obtain ⟨c11, h1⟩ := aV h1
    refine qU (e := bV) all8 ([bU.mk t29 t30]) 1 lo9 2 48 (iC [(bV (bU.mk t29 t30))]) (fun lo10 => [(lo5, 1, [(.msl 2 lo9 0 (List.length all8))]), (lo10, 2, List.map bV (all8 ++ ([bU.mk t29 t30])))]) (by kernel_rfl) (by kernel_rfl) hO (by kernel_rfl) (by kernel_rfl) c11 (fun _ => by kernel_rfl) ?_
    intro lo10 H hO
    refine rQ 0 lo5 1 0 (.msl 2 lo9 0 (List.length all8)) (.msl 2 lo10 0 (List.length (all8 ++ ([bU.mk t29 t30])))) [(.msl 2 lo9 0 (List.length all8))] [(lo5, 1, [(.msl 2 lo10 0 (List.length (all8 ++ ([bU.mk t29 t30]))))]), (lo10, 2, List.map bV (all8 ++ ([bU.mk t29 t30])))] hO rfl (by kernel_rfl) ?_
    intro H hO
    refine iT ?_
    refine iD [(8, (.lp lo5 0 0))] ?_
    obtain rfl := oI h1
    exact aG (aW (⟨(nA hO hE ho1 .dead).1, rfl, _, ⟨lo10, rfl⟩, (nA hO hE ho1 _).2⟩))
  · intro b lD12 lL H' G' hi hO
    rcases o0 with s | s
    · dsimp only [Sum.elim_inl] at hi
      obtain ⟨lo9, rfl⟩ := hi
      replace h0 : (qB dX s ([] : List cM) dX (lN dX) (0 : Int)) = some r := h0
      obtain ⟨hlL, hO⟩ := uY hO
      refine ⟨_, _, hlL, (by intro e; cases e), ?_⟩
      refine iD [(6, (eL (eI) dX)), (8, (.lp lo5 0 0))] ?_
      refine aG (aW (aF (?_)))
      refine aN ?_
      refine QI (e := bV) s 0 1 1 2 lo5 lo9 (List.length s) [(lo5, 1, [(eL bV s)])] hO (by kernel_rfl) (by kernel_rfl) (by kernel_rfl) (.inr (by decide)) (by kernel_rfl) ?_
      intro H hO
      refine eU [(6, (eL (eI) dX)), (8, (.lp lo5 0 0))] ?_
      refine SW 1 0 8 1 lo5 (eL bV s) [] hO (by kernel_rfl) (by kernel_rfl) (by kernel_rfl) ?_
      intro H hO
      refine aU aD 2 ?_
      refine bA ?_
      refine bP [8] [(11, (.fn (.func 39) [] [(.rp (eL bV s))]))] ?_
      refine aN ?_
      refine aU aD 2 ?_
      refine lV (xs := []) (k := 3) (by kernel_rfl) (by kernel_rfl) ?_
      refine bA ?_
      refine bP [] [(12, (.sl true 0 (fun _ => .bad)))] ?_
      refine dS (fun T H => ∃ dV : List cM, ∃ lo13 : Nat, Has T [(12, (.msl 3 lo13 0 (List.length dV)))] ∧ aJ ⟨H0, [], (lD12, .raw uG) :: []⟩ H [(lo13, 3, List.map eK dV)] ∧ tS dV = some r) ?_ ?_
      · clear hO h0
        rintro T H ⟨dV, lo13, hT, hO, h0⟩
        refine aY hT ?_
        clear hT
        unfold tS at h0
        refine bO aD 3 [(4, (.msl 3 lo13 0 (List.length dV))), (5, (eI (0 : Int)))] ?_
        refine bJ ?_
        refine iD [(4, (.msl 3 lo13 0 (List.length dV))), (5, (eI (0 : Int)))] ?_
        refine sE (en := eK) dV 0 0 4 3 lo13 (List.length dV) hO (by kernel_rfl) (by kernel_rfl) (by kernel_rfl) (L' := []) (by kernel_rfl) ?_
        intro H14 hO
        obtain rfl := oI h0
        have hD := (hO.gm 0 _ rfl).2
        replace hO := (hO.vB .dead).tZ
        exact aG (QM1 (.inr rfl) hD (rs := [.tmp 4, .tmp 5]) (xs := [(eL eK dV), (eI (0 : Int))]) (x := (.tup [(eL eK dV), (eI (0 : Int))])) (by kernel_rfl) (zT (x := (eL eK dV)) (by kernel_rfl) (zT (x := (eI (0 : Int))) (by kernel_rfl) uZ)) (by kernel_rfl) ⟨rfl, hO.out⟩)
      refine aT aD 3 [] [(39, (eL (eI) dX)), (40, (eI (lN dX))), (41, (eI (0 : Int)))] ?_
      refine bY 2 ?_
      refine eU [(6, (eL (eI) dX)), (11, (.fn (.func 39) [] [(.rp (eL bV s))])), (12, (.sl true 0 (fun _ => .bad))), (39, (eL (eI) dX)), (40, (eI (lN dX))), (41, (eI (0 : Int)))] ?_
      refine zZ (el := (fun _ => .bad)) 2 12 3 hO (by kernel_rfl) ?_
      intro lo30 H31 hO
      refine dU (fun T H => ∃ fH : (List bU), ∃ dV : List cM, ∃ t39 : (List Int), ∃ t40 : Int, ∃ t41 : Int, ∃ lo16 : Nat, Has T [(6, (eL (eI) dX)), (11, (.fn (.func 39) [] [(.rp (eL bV fH))])), (12, (.msl 3 lo16 0 (List.length dV))), (39, (eL (eI) t39)), (40, (eI t40)), (41, (eI t41))] ∧ aJ ⟨H0, [], (lD12, .raw uG) :: []⟩ H [(lo16, 3, List.map eK dV)] ∧ qB dX fH dV t39 t40 t41 = some r) ?_ ⟨s, ([] : List cM), dX, (lN dX), (0 : Int), lo30, .eq (by kernel_rfl), hO, h0⟩
      clear hO h0
      rintro T H ⟨fH, dV, t39, t40, t41, lo16, hT, hO, h0⟩
      refine aY hT ?_
      clear hT
      unfold qB at h0
      obtain ⟨rr0, hl0, h0⟩ := aX h0
      refine cS (by kernel_rfl) (fun (s : List cM × Int) T H => ∃ lo16 : Nat, Has T [(6, (eL (eI) dX)), (11, (.fn (.func 39) [] [(.rp (eL bV fH))])), (12, (.msl 3 lo16 0 (List.length s.1))), (39, (eL (eI) t39)), (40, (eI t40)), (41, (eI s.2))] ∧ aJ ⟨H0, [], (lD12, .raw uG) :: []⟩ H [(lo16, 3, List.map eK s.1)]) hl0 ⟨lo16, .eq (by kernel_rfl), hO⟩ ?_
      clear hO
      rintro k0 s out1 T H ⟨lo16, hT, hO⟩ h1 ho0
      obtain ⟨dV, t41⟩ := s
      replace h1 : lM dX fH t39 t40 dV t41 = some out1 := h1
      try dsimp only at hT
      refine aY hT ?_
      clear hT
      unfold lM at h1
      refine aT aD 1 [] [(42, (aE (decide (t41 < t40))))] ?_
      refine aN ?_
      refine bH h1 (fun h1 => ?_) (fun h1 => ?_)
      · refine bI ?_
        refine bG [(6, (eL (eI) dX)), (11, (.fn (.func 39) [] [(.rp (eL bV fH))])), (12, (.msl 3 lo16 0 (List.length dV))), (39, (eL (eI) t39)), (40, (eI t40)), (41, (eI t41))] ?_
        refine dS (fun T H => ∃ dV : List cM, ∃ lo18 : Nat, Has T [(6, (eL (eI) dX)), (11, (.fn (.func 39) [] [(.rp (eL bV fH))])), (12, (.msl 3 lo18 0 (List.length dV))), (39, (eL (eI) t39)), (40, (eI t40)), (41, (eI t41))] ∧ aJ ⟨H0, [], (lD12, .raw uG) :: []⟩ H [(lo18, 3, List.map eK dV)] ∧ qO dX fH dV t39 t40 t41 = some out1) ?_ ?_
        · clear hO h1
          rintro T H ⟨dV, lo18, hT, hO, h1⟩
          refine aY hT ?_
          clear hT
          unfold qO at h1
          refine aU aD 2 ?_
          refine bA ?_
          exact aG (aF (⟨rfl, _, (oI h1).symm, _, .eq (by kernel_rfl), hO⟩))
        refine bY 3 ?_
        refine aN ?_
        refine aU aD 5 ?_
        obtain ⟨c19, h1⟩ := aV h1
        refine mU [0 ≤ t41 ∧ t41 < (lN t39)] ⟨c19, trivial⟩ ?_
        refine bP [] [(13, (eI t41)), (14, (eI (gD t39 t41)))] ?_
        refine aN ?_
        refine aU aD 4 ?_
        refine bS 2 ?_
        obtain ⟨x20, hx21, h1⟩ := aX h1
        refine dW (HC (gD t39 t41) fH _ hx21) hO ?_
        intro H hO
        refine bA ?_
        refine bP [] [(15, (eL fK x20))] ?_
        refine aN ?_
        refine aT aD 3 [] [(51, (aE (decide ((lN x20) = (0 : Int)))))] ?_
        refine bH h1 (fun h1 => ?_) (fun h1 => ?_)
        · refine fA 3 ?_
          exact aG (aS (bN (aF (⟨rfl, _, _, .eq (by kernel_rfl), hO, h1⟩))))
        refine bI ?_
        refine bG [(6, (eL (eI) dX)), (11, (.fn (.func 39) [] [(.rp (eL bV fH))])), (12, (.msl 3 lo16 0 (List.length dV))), (13, (eI t41)), (14, (eI (gD t39 t41))), (15, (eL fK x20)), (39, (eL (eI) t39)), (40, (eI t40)), (41, (eI t41))] ?_
        refine aN ?_
        refine aT aD 3 [] [(54, (aE (decide ((lN dV) = (1024 : Int)))))] ?_
        refine bH h1 (fun h1 => ?_) (fun h1 => ?_)
        · refine aN ?_
          refine aU aD 2 ?_
          refine bA ?_
          refine iD [(4, (.sl true 0 (fun _ => .bad))), (5, (eI (7 : Int)))] ?_
          replace hO := hO.pick (L' := []) [] (by decide) (by kernel_rfl)
          refine aG (aF (?_))
          refine bJ ?_
          refine cV (l := [(4, (eL eK ([]))), (5, (eI (7 : Int)))]) ⟨[(4, (.sl true 0 (fun _ => .bad))), (5, (eI (7 : Int)))], by kernel_rfl, rfl, ⟨lT, aO.refl _, trivial⟩⟩ ?_
          obtain rfl := oI h1
          obtain rfl : _ = rr0 := ho0
          replace h0 : some ([], (7 : Int)) = some r := h0
          obtain rfl := oI h0
          have hD := (hO.gm 0 _ rfl).2
          replace hO := (hO.vB .dead).tZ
          exact aG (aP (bD (aP (aP (bD (aP (QM1 (.inr rfl) hD (rs := [.tmp 4, .tmp 5]) (xs := [(eL eK ([])), (eI (7 : Int))]) (x := (.tup [(eL eK ([])), (eI (7 : Int))])) (by kernel_rfl) (zT (x := (eL eK ([]))) (by kernel_rfl) (zT (x := (eI (7 : Int))) (by kernel_rfl) uZ)) (by kernel_rfl) ⟨rfl, hO.out⟩)))))))
        refine bI ?_
        refine bG [(6, (eL (eI) dX)), (11, (.fn (.func 39) [] [(.rp (eL bV fH))])), (12, (.msl 3 lo16 0 (List.length dV))), (13, (eI t41)), (14, (eI (gD t39 t41))), (15, (eL fK x20)), (39, (eL (eI) t39)), (40, (eI t40)), (41, (eI t41))] ?_
        refine aT aD 1 [] [(16, (eI (1125899906842624 : Int)))] ?_
        refine dS (fun T H => ∃ dV : List cM, ∃ t14 : Int, ∃ pI : (List dB), ∃ uQ : Int, ∃ lo25 : Nat, Has T [(6, (eL (eI) dX)), (11, (.fn (.func 39) [] [(.rp (eL bV fH))])), (12, (.msl 3 lo25 0 (List.length dV))), (14, (eI t14)), (15, (eL fK pI)), (16, (eI uQ)), (39, (eL (eI) t39)), (40, (eI t40)), (41, (eI t41))] ∧ aJ ⟨H0, [], (lD12, .raw uG) :: []⟩ H [(lo25, 3, List.map eK dV)] ∧ qF dX fH dV t14 pI uQ t39 t40 t41 = some out1) ?_ ?_
        · clear hO h1
          rintro T H ⟨dV, t14, pI, uQ, lo25, hT, hO, h1⟩
          refine aY hT ?_
          clear hT
          unfold qF at h1
          refine aU aD 9 ?_
          refine bS 6 ?_
          refine lV (xs := [(eK (cM.mk (jK.mk t14 uQ) pI))]) (k := 3) (by kernel_rfl) (by kernel_rfl) ?_
          obtain ⟨c27, h1⟩ := aV h1
          refine qU (e := eK) dV ([cM.mk (jK.mk t14 uQ) pI]) 0 lo25 3 40 (iC [(eK (cM.mk (jK.mk t14 uQ) pI))]) (fun lo26 => [(lo26, 3, List.map eK (dV ++ ([cM.mk (jK.mk t14 uQ) pI])))]) (by kernel_rfl) (by kernel_rfl) hO (by kernel_rfl) (by kernel_rfl) c27 (fun _ => by kernel_rfl) ?_
          intro lo26 H hO
          refine bA ?_
          exact aG (aW (aF (⟨rfl, _, _, .eq (by kernel_rfl), hO, h1⟩)))
        refine aT aD 5 [] [(59, (aE (decide ((wR (t41 + (1 : Int))) < (lN dX)))))] ?_
        refine bH h1 (fun h1 => ?_) (fun h1 => ?_)
        · refine aU aD 6 ?_
          obtain ⟨c29, h1⟩ := aV h1
          refine mU [0 ≤ (wR (t41 + (1 : Int))) ∧ (wR (t41 + (1 : Int))) < (lN dX)] ⟨c29, trivial⟩ ?_
          exact aG (aF (⟨rfl, _, _, _, _, _, .eq (by kernel_rfl), hO, h1⟩))
        refine bI ?_
        exact aG (aF (⟨rfl, _, _, _, _, _, .eq (by kernel_rfl), hO, h1⟩))
      refine fA 2 ?_
      obtain rfl := oI h1
      obtain rfl : _ = rr0 := ho0
      replace h0 : tS dV = some r := h0
      exact aG (aS (aS (bN (aF (⟨rfl, _, _, .eq (by kernel_rfl), hO, h0⟩)))))
    · exact hi.elim

theorem BQ  (r : Bool) (h0 : oX  = some r) : dN Try.prog 11 [] (aE r) := by
  intro H0
  refine dG Try.func11 ?_
  have hO := aJ.start H0
  unfold oX at h0
  refine bO aD 1 [] ?_
  refine aN ?_
  refine aU aD 3 ?_
  refine bS 1 ?_
  refine lV (xs := [(aC (aB.mk (1 : Int) (1 : Int) ByteArray.empty))]) (k := 3) (by kernel_rfl) (by kernel_rfl) ?_
  refine bA ?_
  refine cV (l := [(1, (eL aC ([aB.mk (1 : Int) (1 : Int) ByteArray.empty])))]) ⟨[(1, (iC [(aC (aB.mk (1 : Int) (1 : Int) ByteArray.empty))]))], by kernel_rfl, rfl, ⟨CI (l := [aB.mk (1 : Int) (1 : Int) ByteArray.empty]), trivial⟩⟩ ?_
  refine aG (aF (?_))
  refine aN ?_
  refine aU aD 3 ?_
  refine bS 1 ?_
  refine lV (xs := [(aC (aB.mk (1 : Int) (2 : Int) ByteArray.empty))]) (k := 3) (by kernel_rfl) (by kernel_rfl) ?_
  refine bA ?_
  refine cV (l := [(1, (eL aC ([aB.mk (1 : Int) (1 : Int) ByteArray.empty]))), (2, (eL aC ([aB.mk (1 : Int) (2 : Int) ByteArray.empty])))]) ⟨[(1, (eL aC ([aB.mk (1 : Int) (1 : Int) ByteArray.empty]))), (2, (iC [(aC (aB.mk (1 : Int) (2 : Int) ByteArray.empty))]))], by kernel_rfl, rfl, ⟨aO.refl _, CI (l := [aB.mk (1 : Int) (2 : Int) ByteArray.empty]), trivial⟩⟩ ?_
  refine aG (aF (?_))
  refine aN ?_
  refine aU aD 10 ?_
  refine bS 8 ?_
  refine lV (xs := [(aM (aL.mk ([aB.mk (1 : Int) (1 : Int) ByteArray.empty]) (2 : Int) (1 : Int))), (aM (aL.mk ([aB.mk (1 : Int) (1 : Int) ByteArray.empty]) (9 : Int) (-1 : Int))), (aM (aL.mk ([aB.mk (1 : Int) (2 : Int) ByteArray.empty]) (5 : Int) (1 : Int))), (aM (aL.mk ([aB.mk (1 : Int) (2 : Int) ByteArray.empty]) (7 : Int) (-1 : Int)))]) (k := 3) (by kernel_rfl) (by kernel_rfl) ?_
  refine bA ?_
  refine cV (l := [(3, (eL aM ([aL.mk ([aB.mk (1 : Int) (1 : Int) ByteArray.empty]) (2 : Int) (1 : Int), aL.mk ([aB.mk (1 : Int) (1 : Int) ByteArray.empty]) (9 : Int) (-1 : Int), aL.mk ([aB.mk (1 : Int) (2 : Int) ByteArray.empty]) (5 : Int) (1 : Int), aL.mk ([aB.mk (1 : Int) (2 : Int) ByteArray.empty]) (7 : Int) (-1 : Int)])))]) ⟨[(3, (iC [(aM (aL.mk ([aB.mk (1 : Int) (1 : Int) ByteArray.empty]) (2 : Int) (1 : Int))), (aM (aL.mk ([aB.mk (1 : Int) (1 : Int) ByteArray.empty]) (9 : Int) (-1 : Int))), (aM (aL.mk ([aB.mk (1 : Int) (2 : Int) ByteArray.empty]) (5 : Int) (1 : Int))), (aM (aL.mk ([aB.mk (1 : Int) (2 : Int) ByteArray.empty]) (7 : Int) (-1 : Int)))]))], by kernel_rfl, rfl, ⟨CI (l := [aL.mk ([aB.mk (1 : Int) (1 : Int) ByteArray.empty]) (2 : Int) (1 : Int), aL.mk ([aB.mk (1 : Int) (1 : Int) ByteArray.empty]) (9 : Int) (-1 : Int), aL.mk ([aB.mk (1 : Int) (2 : Int) ByteArray.empty]) (5 : Int) (1 : Int), aL.mk ([aB.mk (1 : Int) (2 : Int) ByteArray.empty]) (7 : Int) (-1 : Int)]), trivial⟩⟩ ?_
  refine aG (aF (?_))
  refine aN ?_
  refine aU aD 7 ?_
  refine bS 1 ?_
  obtain ⟨x1, hx2, h0⟩ := aX h0
  refine dW (zL ([aL.mk ([aB.mk (1 : Int) (1 : Int) ByteArray.empty]) (2 : Int) (1 : Int), aL.mk ([aB.mk (1 : Int) (1 : Int) ByteArray.empty]) (9 : Int) (-1 : Int), aL.mk ([aB.mk (1 : Int) (2 : Int) ByteArray.empty]) (5 : Int) (1 : Int), aL.mk ([aB.mk (1 : Int) (2 : Int) ByteArray.empty]) (7 : Int) (-1 : Int)]) (0 : Int) _ hx2) hO ?_
  intro H hO
  refine bA ?_
  refine bP [] [(4, (eL (eI) x1.1)), (5, (eI x1.2))] ?_
  refine aN ?_
  refine aU aD 7 ?_
  refine bS 1 ?_
  obtain ⟨x4, hx5, h0⟩ := aX h0
  refine dW (MW ([aL.mk ([aB.mk (1 : Int) (1 : Int) ByteArray.empty]) (2 : Int) (1 : Int), aL.mk ([aB.mk (1 : Int) (1 : Int) ByteArray.empty]) (9 : Int) (-1 : Int), aL.mk ([aB.mk (1 : Int) (2 : Int) ByteArray.empty]) (5 : Int) (1 : Int), aL.mk ([aB.mk (1 : Int) (2 : Int) ByteArray.empty]) (7 : Int) (-1 : Int)]) (0 : Int) _ hx5) hO ?_
  intro H hO
  refine bA ?_
  refine bP [3] [(6, (eL eK x4.1)), (7, (eI x4.2))] ?_
  refine aN ?_
  refine aU aD 39 ?_
  obtain ⟨c7, h0⟩ := aV h0
  obtain ⟨c8, h0⟩ := aV h0
  obtain ⟨c9, h0⟩ := aV h0
  refine mU [(((((decide (x1.2 = (0 : Int))) && (decide (x4.2 = (0 : Int)))) && (decide ((lN x1.1) = (5 : Int))))) = true → 0 ≤ (2 : Int) ∧ (2 : Int) < (lN x1.1)), (((((((decide (x1.2 = (0 : Int))) && (decide (x4.2 = (0 : Int)))) && (decide ((lN x1.1) = (5 : Int)))) && (decide ((gD x1.1 (2 : Int)) = (5 : Int)))) && (decide ((lN x4.1) = (3 : Int))))) = true → 0 ≤ (1 : Int) ∧ (1 : Int) < (lN x4.1)), ((((((((decide (x1.2 = (0 : Int))) && (decide (x4.2 = (0 : Int)))) && (decide ((lN x1.1) = (5 : Int)))) && (decide ((gD x1.1 (2 : Int)) = (5 : Int)))) && (decide ((lN x4.1) = (3 : Int)))) && ((decide ((((gD x4.1 (1 : Int)).Span).From) = ((jK.mk (5 : Int) (7 : Int)).From))) && ((decide ((((gD x4.1 (1 : Int)).Span).To) = ((jK.mk (5 : Int) (7 : Int)).To))) && true)))) = true → 0 ≤ (1 : Int) ∧ (1 : Int) < (lN x4.1))] ⟨c7, c8, c9, trivial⟩ ?_
  refine bG [(0, (aE (((((((decide (x1.2 = (0 : Int))) && (decide (x4.2 = (0 : Int)))) && (decide ((lN x1.1) = (5 : Int)))) && (decide ((gD x1.1 (2 : Int)) = (5 : Int)))) && (decide ((lN x4.1) = (3 : Int)))) && ((decide ((((gD x4.1 (1 : Int)).Span).From) = ((jK.mk (5 : Int) (7 : Int)).From))) && ((decide ((((gD x4.1 (1 : Int)).Span).To) = ((jK.mk (5 : Int) (7 : Int)).To))) && true))) && (decide ((lN ((gD x4.1 (1 : Int)).Rows)) = (2 : Int))))))] ?_
  refine bJ ?_
  obtain rfl := oI h0
  exact aG (Q_r hO)

theorem zN (v0 : aB) (r : Bool) (h0 : oD v0 = some r) : dN Try.prog 89 [(aC v0)] (aE r) := by
  intro H0
  refine dG Try.func89 ?_
  have hO := aJ.start H0
  unfold oD at h0
  refine aN ?_
  refine aU aD 2 ?_
  refine nY 3 (aC v0) (by kernel_rfl) (by kernel_rfl) ?_
  refine bA ?_
  refine bG [(1, (.rp (aC v0)))] ?_
  refine aN ?_
  refine aT aD 3 [] [(5, (aE (decide (v0.Kind = (1 : Int)))))] ?_
  refine bH h0 (fun h0 => ?_) (fun h0 => ?_)
  · refine bO aD 4 [(2, (aE (lX v0.Text (⟨#[]⟩ : ByteArray))))] ?_
    refine bJ ?_
    obtain rfl := oI h0
    exact aG (aP (Q_r hO))
  refine bI ?_
  refine bG [(1, (.rp (aC v0)))] ?_
  refine bO aD 15 [(2, (aE (((decide (v0.Kind = (2 : Int))) && (decide (v0.Num = (0 : Int)))) && (decide (((ByteArray.size v0.Text : Nat) : Int) ≤ (64 : Int))))))] ?_
  refine bJ ?_
  obtain rfl := oI h0
  exact aG (Q_r hO)

theorem zD (r0 : (List aB)) (r : Bool) (h0 : oG r0 = some r) : dN Try.prog 62 [(eL aC r0)] (aE r) := by
  intro H0
  refine dG Try.func62 ?_
  have hO := aJ.start H0
  unfold oG at h0
  refine aT aD 1 [] [] ?_
  refine dS (fun T H => Has T [(0, (eL aC r0))] ∧ aJ ⟨H0, [], []⟩ H [] ∧ oW r0 = some r) ?_ ?_
  · clear hO h0
    rintro T H ⟨hT, hO, h0⟩
    refine aY hT ?_
    clear hT
    unfold oW at h0
    refine bO aD 4 [(2, (aE (decide ((lN r0) ≤ (8 : Int)))))] ?_
    refine bJ ?_
    obtain rfl := oI h0
    exact aG (Q_r hO)
  refine aT aD 1 [] [(3, (eI (0 : Int)))] ?_
  refine bY 0 ?_
  refine eU [(0, (eL aC r0)), (3, (eI (0 : Int)))] ?_
  refine dU (fun T H => ∃ i3 : Int, Has T [(0, (eL aC r0)), (3, (eI i3))] ∧ aJ ⟨H0, [], []⟩ H [] ∧ vA r0 i3 = some r) ?_ ⟨(0 : Int), .eq (by kernel_rfl), hO, h0⟩
  clear hO h0
  rintro T H ⟨i3, hT, hO, h0⟩
  refine aY hT ?_
  clear hT
  unfold vA at h0
  obtain ⟨rr0, hl0, h0⟩ := aX h0
  refine cS (by kernel_rfl) (fun (s : Int) T H => Has T [(0, (eL aC r0)), (3, (eI s))] ∧ aJ ⟨H0, [], []⟩ H []) hl0 ⟨.eq (by kernel_rfl), hO⟩ ?_
  clear hO
  rintro k0 s out1 T H ⟨hT, hO⟩ h1 ho0
  obtain ⟨i3, rfl⟩ : ∃ x, x = s := ⟨_, rfl⟩
  replace h1 : nJ r0 i3 = some out1 := h1
  refine aY hT ?_
  clear hT
  unfold nJ at h1
  refine aN ?_
  refine aT aD 8 [] [(11, (aE ((decide (i3 < (lN r0))) && (decide (i3 < (9 : Int))))))] ?_
  refine bH h1 (fun h1 => ?_) (fun h1 => ?_)
  · refine bI ?_
    refine bG [(0, (eL aC r0)), (3, (eI i3))] ?_
    refine aN ?_
    refine bY 1 ?_
    refine aN ?_
    refine aU aD 6 ?_
    obtain ⟨c2, h1⟩ := aV h1
    refine pN 4 [0 ≤ i3 ∧ i3 < (lN r0)] ⟨c2, trivial⟩ ?_
    obtain ⟨x3, hx4, h1⟩ := aX h1
    refine dW (zN (gD r0 i3) _ hx4) hO ?_
    intro H hO
    refine bA ?_
    refine bP [] [(19, (aE (!x3)))] ?_
    refine bH h1 (fun h1 => ?_) (fun h1 => ?_)
    · refine bO aD 1 [(2, (aE false))] ?_
      refine bJ ?_
      obtain rfl := oI h1
      obtain rfl : _ = rr0 := ho0
      replace h0 : some false = some r := h0
      obtain rfl := oI h0
      exact aG (bD (aP (aP (bD (aP (Q_r hO))))))
    refine bI ?_
    refine iD [(0, (eL aC r0)), (3, (eI i3))] ?_
    refine aG (aW (aF (?_)))
    refine aU aD 3 ?_
    refine bA ?_
    exact aG (aF (⟨rfl, _, (oI h1).symm, .eq (by kernel_rfl), hO⟩))
  refine fA 0 ?_
  obtain rfl := oI h1
  obtain rfl : _ = rr0 := ho0
  replace h0 : oW r0 = some r := h0
  exact aG (aS (aS (bN (aF (⟨rfl, .eq (by kernel_rfl), hO, h0⟩)))))

theorem DR (f0 : (List aI)) (r : Bool) (h0 : oC f0 = some r) : dN Try.prog 63 [(eL aQ f0)] (aE r) := by
  intro H0
  refine dG Try.func63 ?_
  have hO := aJ.start H0
  unfold oC at h0
  refine aT aD 1 [] [] ?_
  refine aN ?_
  refine aT aD 3 [] [(6, (aE (decide ((1024 : Int) < (lN f0)))))] ?_
  refine bH h0 (fun h0 => ?_) (fun h0 => ?_)
  · refine bO aD 1 [(2, (aE false))] ?_
    refine bJ ?_
    obtain rfl := oI h0
    exact aG (aP (Q_r hO))
  refine bI ?_
  refine bG [(0, (eL aQ f0))] ?_
  refine dS (fun T H => Has T [] ∧ aJ ⟨H0, [], []⟩ H [] ∧ rY  = some r) ?_ ?_
  · clear hO h0
    rintro T H ⟨hT, hO, h0⟩
    refine aY hT ?_
    clear hT
    unfold rY at h0
    refine bO aD 1 [(2, (aE true))] ?_
    refine bJ ?_
    obtain rfl := oI h0
    exact aG (Q_r hO)
  refine aT aD 1 [] [(3, (eI (0 : Int)))] ?_
  refine bY 0 ?_
  refine eU [(0, (eL aQ f0)), (3, (eI (0 : Int)))] ?_
  refine dU (fun T H => ∃ i3 : Int, Has T [(0, (eL aQ f0)), (3, (eI i3))] ∧ aJ ⟨H0, [], []⟩ H [] ∧ uR f0 i3 = some r) ?_ ⟨(0 : Int), .eq (by kernel_rfl), hO, h0⟩
  clear hO h0
  rintro T H ⟨i3, hT, hO, h0⟩
  refine aY hT ?_
  clear hT
  unfold uR at h0
  obtain ⟨rr0, hl0, h0⟩ := aX h0
  refine cS (by kernel_rfl) (fun (s : Int) T H => Has T [(0, (eL aQ f0)), (3, (eI s))] ∧ aJ ⟨H0, [], []⟩ H []) hl0 ⟨.eq (by kernel_rfl), hO⟩ ?_
  clear hO
  rintro k0 s out1 T H ⟨hT, hO⟩ h1 ho0
  obtain ⟨i3, rfl⟩ : ∃ x, x = s := ⟨_, rfl⟩
  replace h1 : kK f0 i3 = some out1 := h1
  refine aY hT ?_
  clear hT
  unfold kK at h1
  refine aN ?_
  refine aT aD 4 [] [(10, (aE (decide (i3 < (lN f0)))))] ?_
  refine bH h1 (fun h1 => ?_) (fun h1 => ?_)
  · refine bI ?_
    refine bG [(0, (eL aQ f0)), (3, (eI i3))] ?_
    refine aN ?_
    refine bY 1 ?_
    refine aN ?_
    refine aN ?_
    refine aU aD 38 ?_
    obtain ⟨c3, h1⟩ := aV h1
    obtain ⟨c4, h1⟩ := aV h1
    obtain ⟨c5, h1⟩ := aV h1
    obtain ⟨c6, h1⟩ := aV h1
    obtain ⟨c7, h1⟩ := aV h1
    refine mU [0 ≤ i3 ∧ i3 < (lN f0), (((!(decide (((gD f0 i3).At) < (-1 : Int))))) = true → 0 ≤ i3 ∧ i3 < (lN f0)), (((!((decide (((gD f0 i3).At) < (-1 : Int))) || (decide ((1125899906842624 : Int) ≤ ((gD f0 i3).At)))))) = true → 0 ≤ i3 ∧ i3 < (lN f0)), (((!(((decide (((gD f0 i3).At) < (-1 : Int))) || (decide ((1125899906842624 : Int) ≤ ((gD f0 i3).At)))) || (decide (((gD f0 i3).Net) = (0 : Int)))))) = true → 0 ≤ i3 ∧ i3 < (lN f0)), (((!((((decide (((gD f0 i3).At) < (-1 : Int))) || (decide ((1125899906842624 : Int) ≤ ((gD f0 i3).At)))) || (decide (((gD f0 i3).Net) = (0 : Int)))) || (decide ((1048576 : Int) < ((gD f0 i3).Net)))))) = true → 0 ≤ i3 ∧ i3 < (lN f0))] ⟨c3, c4, c5, c6, c7, trivial⟩ ?_
    refine bP [] [(50, (aE (((((decide (((gD f0 i3).At) < (-1 : Int))) || (decide ((1125899906842624 : Int) ≤ ((gD f0 i3).At)))) || (decide (((gD f0 i3).Net) = (0 : Int)))) || (decide ((1048576 : Int) < ((gD f0 i3).Net)))) || (decide (((gD f0 i3).Net) < (-1048576 : Int))))))] ?_
    refine bH h1 (fun h1 => ?_) (fun h1 => ?_)
    · refine bO aD 1 [(2, (aE false))] ?_
      refine bJ ?_
      obtain rfl := oI h1
      obtain rfl : _ = rr0 := ho0
      replace h0 : some false = some r := h0
      obtain rfl := oI h0
      exact aG (aP (bD (aP (aP (bD (aP (Q_r hO)))))))
    refine bI ?_
    refine bG [(0, (eL aQ f0)), (3, (eI i3))] ?_
    refine aN ?_
    obtain ⟨c9, h1⟩ := aV h1
    obtain ⟨c10, h1⟩ := aV h1
    refine fF (fG [58, 64]) aD 16 ?_
    refine mT (K := fun T H => Has (lift T) [(0, (eL aQ f0)), (3, (eI i3)), (66, (aE ((decide ((0 : Int) < i3)) && (decide (((gD f0 i3).At) ≤ ((gD f0 (wR (i3 - (1 : Int)))).At))))))] ∧ aJ ⟨H0, [], []⟩ H []) ?_ ?_
    · refine mX 3 ?_
      refine lB (t := 53) (e := decide ((0 : Int) < i3)) (by kernel_rfl) (fun hg11 => ?_) (fun hg11 => ?_)
      · refine xC (Ds := [0 ≤ i3 ∧ i3 < (lN f0), 0 ≤ (wR (i3 - (1 : Int))) ∧ (wR (i3 - (1 : Int))) < (lN f0)]) (by kernel_rfl) ⟨(c9 hg11), (c10 hg11), trivial⟩ ?_
        exact ⟨⟨[(0, (eL aQ f0)), (3, (eI i3)), (66, (aE (decide (((gD f0 i3).At) ≤ ((gD f0 (wR (i3 - (1 : Int)))).At)))))], by kernel_rfl, rfl, ⟨aO.refl _, aO.refl _, aO.eq (congrArg aE (jD hg11 rfl).symm), trivial⟩⟩, hO⟩
      refine jB ?_
      exact ⟨⟨[(0, (eL aQ f0)), (3, (eI i3)), (66, (aE false))], by kernel_rfl, rfl, ⟨aO.refl _, aO.refl _, aO.eq (congrArg aE (jD hg11 rfl).symm), trivial⟩⟩, hO⟩
    · rintro T H ⟨hT, hO⟩
      refine cV hT ?_
      clear hT
      refine aG (aF ?_)
      refine bH h1 (fun h1 => ?_) (fun h1 => ?_)
      · refine bO aD 1 [(2, (aE false))] ?_
        refine bJ ?_
        obtain rfl := oI h1
        obtain rfl : _ = rr0 := ho0
        replace h0 : some false = some r := h0
        obtain rfl := oI h0
        exact aG (bD (aP (aP (bD (aP (Q_r hO))))))
      refine bI ?_
      refine iD [(0, (eL aQ f0)), (3, (eI i3))] ?_
      refine aG (aW (aF (?_)))
      refine aU aD 3 ?_
      refine bA ?_
      exact aG (aF (⟨rfl, _, (oI h1).symm, .eq (by kernel_rfl), hO⟩))
  refine fA 0 ?_
  obtain rfl := oI h1
  obtain rfl : _ = rr0 := ho0
  replace h0 : rY  = some r := h0
  exact aG (aS (aS (bN (aF (⟨rfl, .eq (by kernel_rfl), hO, h0⟩)))))

theorem GY (a0 : aB) (b1 : aB) (r : Int) (h0 : nW a0 b1 = some r) : dN Try.prog 90 [(aC a0), (aC b1)] (eI r) := by
  intro H0
  refine dG Try.func90 ?_
  have hO := aJ.start H0
  unfold nW at h0
  refine aN ?_
  refine aU aD 3 ?_
  refine nY 3 (aC a0) (by kernel_rfl) (by kernel_rfl) ?_
  refine nY 3 (aC b1) (by kernel_rfl) (by kernel_rfl) ?_
  refine bA ?_
  refine bG [(2, (.rp (aC a0))), (3, (.rp (aC b1)))] ?_
  refine aN ?_
  refine aN ?_
  refine aU aD 8 ?_
  refine bS 1 ?_
  obtain ⟨x1, hx2, h0⟩ := aX h0
  refine dW (zN a0 _ hx2) hO ?_
  intro H hO
  refine bS 5 ?_
  obtain ⟨x4, hx5, h0⟩ := aX h0
  refine rA [(9, false)] 89 [(aC b1)] (aE x4) (!(!x1)) (by kernel_rfl) (by kernel_rfl) (by kernel_rfl) (fun hb6 => (zN b1 _ (kE hx5 hb6))) hO ?_
  intro H hO
  refine bA ?_
  refine bP [] [(13, (aE ((!x1) || (!x4))))] ?_
  refine bH h0 (fun h0 => ?_) (fun h0 => ?_)
  · refine bO aD 1 [(4, (eI (0 : Int)))] ?_
    refine bJ ?_
    obtain rfl := oI h0
    exact aG (aP (Q_r hO))
  refine bI ?_
  refine bG [(2, (.rp (aC a0))), (3, (.rp (aC b1)))] ?_
  refine aN ?_
  refine aT aD 5 [] [(18, (aE (!decide (a0.Kind = b1.Kind))))] ?_
  refine bH h0 (fun h0 => ?_) (fun h0 => ?_)
  · refine aN ?_
    refine bO aD 3 [(21, (aE (decide (a0.Kind = (1 : Int)))))] ?_
    refine bH h0 (fun h0 => ?_) (fun h0 => ?_)
    · refine bO aD 1 [(4, (eI (-1 : Int)))] ?_
      refine bJ ?_
      obtain rfl := oI h0
      exact aG (aP (aP (Q_r hO)))
    refine bI ?_
    refine bG [] ?_
    refine bO aD 1 [(4, (eI (1 : Int)))] ?_
    refine bJ ?_
    obtain rfl := oI h0
    exact aG (aP (Q_r hO))
  refine bI ?_
  refine bG [(2, (.rp (aC a0))), (3, (.rp (aC b1)))] ?_
  refine aN ?_
  refine aT aD 5 [] [(26, (aE (!decide (a0.Num = b1.Num))))] ?_
  refine bH h0 (fun h0 => ?_) (fun h0 => ?_)
  · refine aN ?_
    refine bO aD 5 [(31, (aE (decide (a0.Num < b1.Num))))] ?_
    refine bH h0 (fun h0 => ?_) (fun h0 => ?_)
    · refine bO aD 1 [(4, (eI (-1 : Int)))] ?_
      refine bJ ?_
      obtain rfl := oI h0
      exact aG (aP (aP (Q_r hO)))
    refine bI ?_
    refine bG [] ?_
    refine bO aD 1 [(4, (eI (1 : Int)))] ?_
    refine bJ ?_
    obtain rfl := oI h0
    exact aG (aP (Q_r hO))
  refine bI ?_
  refine bG [(2, (.rp (aC a0))), (3, (.rp (aC b1)))] ?_
  refine dS (fun T H => ∃ a2 : aB, ∃ b3 : aB, Has T [(2, (.rp (aC a2))), (3, (.rp (aC b3)))] ∧ aJ ⟨H0, [], []⟩ H [] ∧ nH a2 b3 = some r) ?_ ?_
  · clear hO h0
    rintro T H ⟨a2, b3, hT, hO, h0⟩
    refine aY hT ?_
    clear hT
    unfold nH at h0
    refine aN ?_
    refine aT aD 7 [] [(70, (aE (!decide (((ByteArray.size a2.Text : Nat) : Int) = ((ByteArray.size b3.Text : Nat) : Int)))))] ?_
    refine bH h0 (fun h0 => ?_) (fun h0 => ?_)
    · refine aN ?_
      refine bO aD 7 [(77, (aE (decide (((ByteArray.size a2.Text : Nat) : Int) < ((ByteArray.size b3.Text : Nat) : Int)))))] ?_
      refine bH h0 (fun h0 => ?_) (fun h0 => ?_)
      · refine bO aD 1 [(4, (eI (-1 : Int)))] ?_
        refine bJ ?_
        obtain rfl := oI h0
        exact aG (aP (aP (Q_r hO)))
      refine bI ?_
      refine bG [] ?_
      refine bO aD 1 [(4, (eI (1 : Int)))] ?_
      refine bJ ?_
      obtain rfl := oI h0
      exact aG (aP (Q_r hO))
    refine bI ?_
    refine bG [] ?_
    refine bO aD 1 [(4, (eI (0 : Int)))] ?_
    refine bJ ?_
    obtain rfl := oI h0
    exact aG (Q_r hO)
  refine aT aD 1 [] [(5, (eI (0 : Int)))] ?_
  refine bY 0 ?_
  refine eU [(2, (.rp (aC a0))), (3, (.rp (aC b1))), (5, (eI (0 : Int)))] ?_
  refine dU (fun T H => ∃ a2 : aB, ∃ b3 : aB, ∃ i5 : Int, Has T [(2, (.rp (aC a2))), (3, (.rp (aC b3))), (5, (eI i5))] ∧ aJ ⟨H0, [], []⟩ H [] ∧ pM a2 b3 i5 = some r) ?_ ⟨a0, b1, (0 : Int), .eq (by kernel_rfl), hO, h0⟩
  clear hO h0
  rintro T H ⟨a2, b3, i5, hT, hO, h0⟩
  refine aY hT ?_
  clear hT
  unfold pM at h0
  obtain ⟨rr0, hl0, h0⟩ := aX h0
  refine cS (by kernel_rfl) (fun (s : Int) T H => Has T [(2, (.rp (aC a2))), (3, (.rp (aC b3))), (5, (eI s))] ∧ aJ ⟨H0, [], []⟩ H []) hl0 ⟨.eq (by kernel_rfl), hO⟩ ?_
  clear hO
  rintro k0 s out1 T H ⟨hT, hO⟩ h1 ho0
  obtain ⟨i5, rfl⟩ : ∃ x, x = s := ⟨_, rfl⟩
  replace h1 : iA a2 b3 i5 = some out1 := h1
  refine aY hT ?_
  clear hT
  unfold iA at h1
  refine aN ?_
  refine aT aD 12 [] [(43, (aE ((decide (i5 < ((ByteArray.size a2.Text : Nat) : Int))) && (decide (i5 < ((ByteArray.size b3.Text : Nat) : Int))))))] ?_
  refine bH h1 (fun h1 => ?_) (fun h1 => ?_)
  · refine bI ?_
    refine bG [(2, (.rp (aC a2))), (3, (.rp (aC b3))), (5, (eI i5))] ?_
    refine aN ?_
    refine bY 1 ?_
    refine aN ?_
    refine fF (fG [47, 51]) aD 9 ?_
    obtain ⟨c15, h1⟩ := aV h1
    obtain ⟨c16, h1⟩ := aV h1
    refine xC (Ds := [0 ≤ i5 ∧ i5 < ((ByteArray.size a2.Text : Nat) : Int), 0 ≤ i5 ∧ i5 < ((ByteArray.size b3.Text : Nat) : Int)]) (by kernel_rfl) ⟨c15, c16, trivial⟩ ?_
    refine bP [] [(54, (aE (!decide ((bt a2.Text i5) = (bt b3.Text i5)))))] ?_
    refine bH h1 (fun h1 => ?_) (fun h1 => ?_)
    · refine aN ?_
      refine aN ?_
      refine fF (fG [56, 60]) aD 9 ?_
      obtain ⟨c18, h1⟩ := aV h1
      obtain ⟨c19, h1⟩ := aV h1
      refine xC (Ds := [0 ≤ i5 ∧ i5 < ((ByteArray.size a2.Text : Nat) : Int), 0 ≤ i5 ∧ i5 < ((ByteArray.size b3.Text : Nat) : Int)]) (by kernel_rfl) ⟨c18, c19, trivial⟩ ?_
      refine bG [(63, (aE (decide ((bt a2.Text i5) < (bt b3.Text i5)))))] ?_
      refine bH h1 (fun h1 => ?_) (fun h1 => ?_)
      · refine bO aD 1 [(4, (eI (-1 : Int)))] ?_
        refine bJ ?_
        obtain rfl := oI h1
        obtain rfl : _ = rr0 := ho0
        replace h0 : some (-1 : Int) = some r := h0
        obtain rfl := oI h0
        exact aG (aP (bD (aP (aP (bD (aP (Q_r hO)))))))
      refine bI ?_
      refine bG [] ?_
      refine bO aD 1 [(4, (eI (1 : Int)))] ?_
      refine bJ ?_
      obtain rfl := oI h1
      obtain rfl : _ = rr0 := ho0
      replace h0 : some (1 : Int) = some r := h0
      obtain rfl := oI h0
      exact aG (bD (aP (aP (bD (aP (Q_r hO))))))
    refine bI ?_
    refine iD [(2, (.rp (aC a2))), (3, (.rp (aC b3))), (5, (eI i5))] ?_
    refine aG (aW (aF (?_)))
    refine aU aD 3 ?_
    refine bA ?_
    exact aG (aF (⟨rfl, _, (oI h1).symm, .eq (by kernel_rfl), hO⟩))
  refine fA 0 ?_
  obtain rfl := oI h1
  obtain rfl : _ = rr0 := ho0
  replace h0 : nH a2 b3 = some r := h0
  exact aG (aS (aS (bN (aF (⟨rfl, _, _, .eq (by kernel_rfl), hO, h0⟩)))))

theorem yX (a0 : (List aB)) (b1 : (List aB)) (r : Int) (h0 : mE a0 b1 = some r) : dN Try.prog 64 [(eL aC a0), (eL aC b1)] (eI r) := by
  intro H0
  refine dG Try.func64 ?_
  have hO := aJ.start H0
  unfold mE at h0
  refine aT aD 1 [] [] ?_
  refine aN ?_
  refine aN ?_
  refine aU aD 8 ?_
  refine bS 1 ?_
  obtain ⟨x1, hx2, h0⟩ := aX h0
  refine dW (zD a0 _ hx2) hO ?_
  intro H hO
  refine bS 5 ?_
  obtain ⟨x4, hx5, h0⟩ := aX h0
  refine rA [(10, false)] 62 [(eL aC b1)] (aE x4) (!(!x1)) (by kernel_rfl) (by kernel_rfl) (by kernel_rfl) (fun hb6 => (zD b1 _ (kE hx5 hb6))) hO ?_
  intro H hO
  refine bA ?_
  refine bP [] [(14, (aE ((!x1) || (!x4))))] ?_
  refine bH h0 (fun h0 => ?_) (fun h0 => ?_)
  · refine bO aD 1 [(4, (eI (0 : Int)))] ?_
    refine bJ ?_
    obtain rfl := oI h0
    exact aG (aP (Q_r hO))
  refine bI ?_
  refine bG [(0, (eL aC a0)), (1, (eL aC b1))] ?_
  refine dS (fun T H => Has T [(0, (eL aC a0)), (1, (eL aC b1))] ∧ aJ ⟨H0, [], []⟩ H [] ∧ nF a0 b1 = some r) ?_ ?_
  · clear hO h0
    rintro T H ⟨hT, hO, h0⟩
    refine aY hT ?_
    clear hT
    unfold nF at h0
    refine aN ?_
    refine aT aD 5 [] [(43, (aE (decide ((lN a0) < (lN b1)))))] ?_
    refine bH h0 (fun h0 => ?_) (fun h0 => ?_)
    · refine bO aD 1 [(4, (eI (-1 : Int)))] ?_
      refine bJ ?_
      obtain rfl := oI h0
      exact aG (aP (Q_r hO))
    refine bI ?_
    refine bG [(0, (eL aC a0)), (1, (eL aC b1))] ?_
    refine aN ?_
    refine bO aD 5 [(48, (aE (decide ((lN b1) < (lN a0)))))] ?_
    refine bH h0 (fun h0 => ?_) (fun h0 => ?_)
    · refine bO aD 1 [(4, (eI (1 : Int)))] ?_
      refine bJ ?_
      obtain rfl := oI h0
      exact aG (aP (Q_r hO))
    refine bI ?_
    refine bG [] ?_
    refine bO aD 1 [(4, (eI (0 : Int)))] ?_
    refine bJ ?_
    obtain rfl := oI h0
    exact aG (Q_r hO)
  refine aT aD 1 [] [(5, (eI (0 : Int)))] ?_
  refine bY 0 ?_
  refine eU [(0, (eL aC a0)), (1, (eL aC b1)), (5, (eI (0 : Int)))] ?_
  refine dU (fun T H => ∃ i5 : Int, Has T [(0, (eL aC a0)), (1, (eL aC b1)), (5, (eI i5))] ∧ aJ ⟨H0, [], []⟩ H [] ∧ pP a0 b1 i5 = some r) ?_ ⟨(0 : Int), .eq (by kernel_rfl), hO, h0⟩
  clear hO h0
  rintro T H ⟨i5, hT, hO, h0⟩
  refine aY hT ?_
  clear hT
  unfold pP at h0
  obtain ⟨rr0, hl0, h0⟩ := aX h0
  refine cS (by kernel_rfl) (fun (s : Int) T H => Has T [(0, (eL aC a0)), (1, (eL aC b1)), (5, (eI s))] ∧ aJ ⟨H0, [], []⟩ H []) hl0 ⟨.eq (by kernel_rfl), hO⟩ ?_
  clear hO
  rintro k0 s out1 T H ⟨hT, hO⟩ h1 ho0
  obtain ⟨i5, rfl⟩ : ∃ x, x = s := ⟨_, rfl⟩
  replace h1 : iF a0 b1 i5 = some out1 := h1
  refine aY hT ?_
  clear hT
  unfold iF at h1
  refine aN ?_
  refine aT aD 10 [] [(24, (aE ((decide (i5 < (lN a0))) && (decide (i5 < (lN b1))))))] ?_
  refine bH h1 (fun h1 => ?_) (fun h1 => ?_)
  · refine bI ?_
    refine bG [(0, (eL aC a0)), (1, (eL aC b1)), (5, (eI i5))] ?_
    refine aN ?_
    refine bY 1 ?_
    refine aN ?_
    refine fF (fG [30, 34, 35]) aD 10 ?_
    obtain ⟨c11, h1⟩ := aV h1
    obtain ⟨c12, h1⟩ := aV h1
    refine cD 8 [0 ≤ i5 ∧ i5 < (lN a0), 0 ≤ i5 ∧ i5 < (lN b1)] ⟨c11, c12, trivial⟩ ?_
    obtain ⟨x13, hx14, h1⟩ := aX h1
    refine CO (GY (gD a0 i5) (gD b1 i5) _ hx14) hO ?_
    intro H hO
    refine jB ?_
    refine bP [] [(6, (eI x13))] ?_
    refine aT aD 2 [] [(37, (aE (!decide (x13 = (0 : Int)))))] ?_
    refine bH h1 (fun h1 => ?_) (fun h1 => ?_)
    · refine bO aD 2 [(4, (eI x13))] ?_
      refine bJ ?_
      obtain rfl := oI h1
      obtain rfl : _ = rr0 := ho0
      replace h0 : some x13 = some r := h0
      obtain rfl := oI h0
      exact aG (bD (aP (aP (bD (aP (Q_r hO))))))
    refine bI ?_
    refine iD [(0, (eL aC a0)), (1, (eL aC b1)), (5, (eI i5))] ?_
    refine aG (aW (aF (?_)))
    refine aU aD 3 ?_
    refine bA ?_
    exact aG (aF (⟨rfl, _, (oI h1).symm, .eq (by kernel_rfl), hO⟩))
  refine fA 0 ?_
  obtain rfl := oI h1
  obtain rfl : _ = rr0 := ho0
  replace h0 : nF a0 b1 = some r := h0
  exact aG (aS (aS (bN (aF (⟨rfl, .eq (by kernel_rfl), hO, h0⟩)))))

theorem BX (a0 : (List aB)) (b1 : (List aB)) (r : Bool) (h0 : oP a0 b1 = some r) : dN Try.prog 42 [(eL aC a0), (eL aC b1)] (aE r) := by
  intro H0
  refine dG Try.func42 ?_
  have hO := aJ.start H0
  unfold oP at h0
  refine aT aD 1 [] [] ?_
  refine aN ?_
  refine aT aD 5 [] [(10, (aE (!decide ((lN a0) = (lN b1)))))] ?_
  refine bH h0 (fun h0 => ?_) (fun h0 => ?_)
  · refine bO aD 1 [(4, (aE false))] ?_
    refine bJ ?_
    obtain rfl := oI h0
    exact aG (aP (Q_r hO))
  refine bI ?_
  refine bG [(0, (eL aC a0)), (1, (eL aC b1))] ?_
  refine dS (fun T H => Has T [] ∧ aJ ⟨H0, [], []⟩ H [] ∧ qE  = some r) ?_ ?_
  · clear hO h0
    rintro T H ⟨hT, hO, h0⟩
    refine aY hT ?_
    clear hT
    unfold qE at h0
    refine bO aD 1 [(4, (aE true))] ?_
    refine bJ ?_
    obtain rfl := oI h0
    exact aG (Q_r hO)
  refine aT aD 1 [] [(5, (eI (0 : Int)))] ?_
  refine bY 0 ?_
  refine eU [(0, (eL aC a0)), (1, (eL aC b1)), (5, (eI (0 : Int)))] ?_
  refine dU (fun T H => ∃ i5 : Int, Has T [(0, (eL aC a0)), (1, (eL aC b1)), (5, (eI i5))] ∧ aJ ⟨H0, [], []⟩ H [] ∧ uA a0 b1 i5 = some r) ?_ ⟨(0 : Int), .eq (by kernel_rfl), hO, h0⟩
  clear hO h0
  rintro T H ⟨i5, hT, hO, h0⟩
  refine aY hT ?_
  clear hT
  unfold uA at h0
  obtain ⟨rr0, hl0, h0⟩ := aX h0
  refine cS (by kernel_rfl) (fun (s : Int) T H => Has T [(0, (eL aC a0)), (1, (eL aC b1)), (5, (eI s))] ∧ aJ ⟨H0, [], []⟩ H []) hl0 ⟨.eq (by kernel_rfl), hO⟩ ?_
  clear hO
  rintro k0 s out1 T H ⟨hT, hO⟩ h1 ho0
  obtain ⟨i5, rfl⟩ : ∃ x, x = s := ⟨_, rfl⟩
  replace h1 : nR a0 b1 i5 = some out1 := h1
  refine aY hT ?_
  clear hT
  unfold nR at h1
  refine aN ?_
  refine aT aD 4 [] [(14, (aE (decide (i5 < (lN a0)))))] ?_
  refine bH h1 (fun h1 => ?_) (fun h1 => ?_)
  · refine bI ?_
    refine bG [(0, (eL aC a0)), (1, (eL aC b1)), (5, (eI i5))] ?_
    refine aN ?_
    refine bY 1 ?_
    refine aN ?_
    refine fF (fG [20, 24]) aD 9 ?_
    obtain ⟨c3, h1⟩ := aV h1
    obtain ⟨c4, h1⟩ := aV h1
    refine xC (Ds := [0 ≤ i5 ∧ i5 < (lN a0), 0 ≤ i5 ∧ i5 < (lN b1)]) (by kernel_rfl) ⟨c3, c4, trivial⟩ ?_
    refine bP [] [(25, (aE (!((decide (((gD a0 i5).Kind) = ((gD b1 i5).Kind))) && ((decide (((gD a0 i5).Num) = ((gD b1 i5).Num))) && ((lX ((gD a0 i5).Text) ((gD b1 i5).Text)) && true))))))] ?_
    refine bH h1 (fun h1 => ?_) (fun h1 => ?_)
    · refine bO aD 1 [(4, (aE false))] ?_
      refine bJ ?_
      obtain rfl := oI h1
      obtain rfl : _ = rr0 := ho0
      replace h0 : some false = some r := h0
      obtain rfl := oI h0
      exact aG (bD (aP (aP (bD (aP (Q_r hO))))))
    refine bI ?_
    refine iD [(0, (eL aC a0)), (1, (eL aC b1)), (5, (eI i5))] ?_
    refine aG (aW (aF (?_)))
    refine aU aD 3 ?_
    refine bA ?_
    exact aG (aF (⟨rfl, _, (oI h1).symm, .eq (by kernel_rfl), hO⟩))
  refine fA 0 ?_
  obtain rfl := oI h1
  obtain rfl : _ = rr0 := ho0
  replace h0 : qE  = some r := h0
  exact aG (aS (aS (bN (aF (⟨rfl, .eq (by kernel_rfl), hO, h0⟩)))))

theorem CS (l0 : (List aL)) (r : (List (List aB))) (h0 : oT l0 = some r) : dN Try.prog 43 [(eL aM l0)] (eL (eL aC) r) := by
  intro H0
  refine dG Try.func43 ?_
  have hO := aJ.start H0
  unfold oT at h0
  refine aT aD 1 [] [] ?_
  refine aN ?_
  refine aU aD 2 ?_
  refine lV (xs := []) (k := 1) (by kernel_rfl) (by kernel_rfl) ?_
  refine bA ?_
  refine bP [] [(3, (.sl true 0 (fun _ => .bad)))] ?_
  refine dS (fun T H => ∃ bC : List (List aB), ∃ lo1 : Nat, Has T [(3, (.msl 1 lo1 0 (List.length bC)))] ∧ aJ ⟨H0, [], []⟩ H [(lo1, 1, List.map (eL aC) bC)] ∧ tN bC = some r) ?_ ?_
  · clear hO h0
    rintro T H ⟨bC, lo1, hT, hO, h0⟩
    refine aY hT ?_
    clear hT
    unfold tN at h0
    refine bO aD 2 [(2, (.msl 1 lo1 0 (List.length bC)))] ?_
    refine bJ ?_
    refine iD [(2, (.msl 1 lo1 0 (List.length bC)))] ?_
    refine sE (en := (eL aC)) bC 0 0 2 1 lo1 (List.length bC) hO (by kernel_rfl) (by kernel_rfl) (by kernel_rfl) (L' := []) (by kernel_rfl) ?_
    intro H2 hO
    obtain rfl := oI h0
    exact aG (Q_r hO)
  refine aT aD 1 [] [(4, (eI (0 : Int)))] ?_
  refine bY 0 ?_
  refine eU [(0, (eL aM l0)), (3, (.sl true 0 (fun _ => .bad))), (4, (eI (0 : Int)))] ?_
  refine zZ (el := (fun _ => .bad)) 1 3 1 hO (by kernel_rfl) ?_
  intro lo31 H32 hO
  refine dU (fun T H => ∃ bC : List (List aB), ∃ i4 : Int, ∃ lo4 : Nat, Has T [(0, (eL aM l0)), (3, (.msl 1 lo4 0 (List.length bC))), (4, (eI i4))] ∧ aJ ⟨H0, [], []⟩ H [(lo4, 1, List.map (eL aC) bC)] ∧ tY l0 bC i4 = some r) ?_ ⟨([] : List (List aB)), (0 : Int), lo31, .eq (by kernel_rfl), hO, h0⟩
  clear hO h0
  rintro T H ⟨bC, i4, lo4, hT, hO, h0⟩
  refine aY hT ?_
  clear hT
  unfold tY at h0
  obtain ⟨rr0, hl0, h0⟩ := aX h0
  refine cS (by kernel_rfl) (fun (s : List (List aB) × Int) T H => ∃ lo4 : Nat, Has T [(0, (eL aM l0)), (3, (.msl 1 lo4 0 (List.length s.1))), (4, (eI s.2))] ∧ aJ ⟨H0, [], []⟩ H [(lo4, 1, List.map (eL aC) s.1)]) hl0 ⟨lo4, .eq (by kernel_rfl), hO⟩ ?_
  clear hO
  rintro k0 s out1 T H ⟨lo4, hT, hO⟩ h1 ho0
  obtain ⟨bC, i4⟩ := s
  replace h1 : lH l0 bC i4 = some out1 := h1
  try dsimp only at hT
  refine aY hT ?_
  clear hT
  unfold lH at h1
  refine aN ?_
  refine aT aD 4 [] [(11, (aE (decide (i4 < (lN l0)))))] ?_
  refine bH h1 (fun h1 => ?_) (fun h1 => ?_)
  · refine bI ?_
    refine bG [(0, (eL aM l0)), (3, (.msl 1 lo4 0 (List.length bC))), (4, (eI i4))] ?_
    refine dS (fun T H => ∃ bC : List (List aB), ∃ lo6 : Nat, Has T [(0, (eL aM l0)), (3, (.msl 1 lo6 0 (List.length bC))), (4, (eI i4))] ∧ aJ ⟨H0, [], []⟩ H [(lo6, 1, List.map (eL aC) bC)] ∧ qI l0 bC i4 = some out1) ?_ ?_
    · clear hO h1
      rintro T H ⟨bC, lo6, hT, hO, h1⟩
      refine aY hT ?_
      clear hT
      unfold qI at h1
      refine aU aD 3 ?_
      refine bA ?_
      exact aG (aF (⟨rfl, _, (oI h1).symm, _, .eq (by kernel_rfl), hO⟩))
    refine bY 1 ?_
    refine aT aD 1 [] [(5, (eI (0 : Int)))] ?_
    refine dS (fun T H => ∃ bC : List (List aB), ∃ at5 : Int, ∃ lo7 : Nat, Has T [(0, (eL aM l0)), (3, (.msl 1 lo7 0 (List.length bC))), (4, (eI i4)), (5, (eI at5))] ∧ aJ ⟨H0, [], []⟩ H [(lo7, 1, List.map (eL aC) bC)] ∧ qN l0 bC i4 at5 = some out1) ?_ ?_
    · clear hO h1
      rintro T H ⟨bC, at5, lo7, hT, hO, h1⟩
      refine aY hT ?_
      clear hT
      unfold qN at h1
      refine aN ?_
      refine aN ?_
      obtain ⟨c8, h1⟩ := aV h1
      obtain ⟨c9, h1⟩ := aV h1
      obtain ⟨x10, hx11, h1⟩ := aX h1
      refine fF (fG [46]) aD 16 ?_
      refine mT (K := fun T H => Has (lift T) [(0, (eL aM l0)), (3, (.msl 1 lo7 0 (List.length bC))), (4, (eI i4)), (5, (eI at5)), (48, (aE ((decide (at5 < (lN bC))) && x10)))] ∧ aJ ⟨H0, [], []⟩ H [(lo7, 1, List.map (eL aC) bC)]) ?_ ?_
      · refine mX 5 ?_
        refine lB (t := 37) (e := decide (at5 < (lN bC))) (by kernel_rfl) (fun hg12 => ?_) (fun hg12 => ?_)
        · refine cD 8 [0 ≤ at5 ∧ at5 < (lN bC)] ⟨(c8 hg12), trivial⟩ ?_
          refine iY 0 lo7 1 (0 + Int.toNat at5) (eL aC (gD bC at5)) (eL aC (gD bC at5)) (List.map (eL aC) bC) (by kernel_rfl) (by kernel_rfl) (by kernel_rfl) hO (by kernel_rfl) (bX (c8 hg12)) ?_
          refine cD 14 [0 ≤ i4 ∧ i4 < (lN l0)] ⟨(c9 hg12), trivial⟩ ?_
          refine mJ 42 [(eL aC (gD bC at5)), (eL aC ((gD l0 i4).Row))] (aE x10) (by kernel_rfl) (by kernel_rfl) (BX (gD bC at5) ((gD l0 i4).Row) _ (kE hx11 hg12)) hO ?_
          intro H hO
          refine jB ?_
          exact ⟨⟨[(0, (eL aM l0)), (3, (.msl 1 lo7 0 (List.length bC))), (4, (eI i4)), (5, (eI at5)), (48, (aE x10))], by kernel_rfl, rfl, ⟨aO.refl _, aO.refl _, aO.refl _, aO.refl _, aO.eq (congrArg aE (jD hg12 rfl).symm), trivial⟩⟩, hO⟩
        refine jB ?_
        exact ⟨⟨[(0, (eL aM l0)), (3, (.msl 1 lo7 0 (List.length bC))), (4, (eI i4)), (5, (eI at5)), (48, (aE false))], by kernel_rfl, rfl, ⟨aO.refl _, aO.refl _, aO.refl _, aO.refl _, aO.eq (congrArg aE (jD hg12 rfl).symm), trivial⟩⟩, hO⟩
      · rintro T H ⟨hT, hO⟩
        refine cV hT ?_
        clear hT
        refine aG (aF ?_)
        refine bH h1 (fun h1 => ?_) (fun h1 => ?_)
        · refine fA 1 ?_
          exact aG (aS (bN (aF (⟨rfl, _, _, .eq (by kernel_rfl), hO, h1⟩))))
        refine bI ?_
        refine bG [(0, (eL aM l0)), (3, (.msl 1 lo7 0 (List.length bC))), (4, (eI i4)), (5, (eI at5))] ?_
        refine aN ?_
        refine aU aD 6 ?_
        refine lV (xs := []) (k := 1) (by kernel_rfl) (by kernel_rfl) ?_
        obtain ⟨c14, h1⟩ := aV h1
        refine pN 4 [0 ≤ at5 ∧ at5 ≤ (lN bC)] ⟨c14, trivial⟩ ?_
        obtain ⟨c16, h1⟩ := aV h1
        refine PF (e := (eL aC)) (List.take (Int.toNat at5) bC) (fun _ => .bad) 1 24 (.msl 1 lo7 0 (Int.toNat at5)) (fun lo15 => [(lo7, 1, List.map (eL aC) bC), (lo15, 1, List.map (eL aC) (List.take (Int.toNat at5) bC))]) (by kernel_rfl) (by kernel_rfl) hO (LP hO 0 (by kernel_rfl) (Int.toNat_le.2 (And.right c14))) c16 (fun _ => by kernel_rfl) ?_
        intro lo15 H hO
        refine bA ?_
        refine bP [] [(6, (.msl 1 lo15 0 (List.length (List.take (Int.toNat at5) bC))))] ?_
        refine aN ?_
        refine aU aD 9 ?_
        obtain ⟨c17, h1⟩ := aV h1
        refine pN 6 [0 ≤ i4 ∧ i4 < (lN l0)] ⟨c17, trivial⟩ ?_
        refine lV (xs := [(eL aC ((gD l0 i4).Row))]) (k := 1) (by kernel_rfl) (by kernel_rfl) ?_
        obtain ⟨c19, h1⟩ := aV h1
        refine qU (e := (eL aC)) (List.take (Int.toNat at5) bC) ([(gD l0 i4).Row]) 1 lo15 1 24 (iC [(eL aC ((gD l0 i4).Row))]) (fun lo18 => [(lo7, 1, List.map (eL aC) bC), (lo18, 1, List.map (eL aC) ((List.take (Int.toNat at5) bC) ++ ([(gD l0 i4).Row])))]) (by kernel_rfl) (by kernel_rfl) hO (by kernel_rfl) (by kernel_rfl) c19 (fun _ => by kernel_rfl) ?_
        intro lo18 H hO
        refine bA ?_
        refine bP [6] [(6, (.msl 1 lo18 0 (List.length ((List.take (Int.toNat at5) bC) ++ ([(gD l0 i4).Row])))))] ?_
        refine aU aD 6 ?_
        obtain ⟨c20, h1⟩ := aV h1
        refine pN 4 [0 ≤ at5 ∧ at5 ≤ (lN bC)] ⟨c20, trivial⟩ ?_
        obtain ⟨c22, h1⟩ := aV h1
        refine qU (e := (eL aC)) ((List.take (Int.toNat at5) bC) ++ ([(gD l0 i4).Row])) (List.drop (Int.toNat at5) bC) 1 lo18 1 24 (.msl 1 lo7 (0 + Int.toNat at5) (List.length bC - Int.toNat at5)) (fun lo21 => [(lo7, 1, List.map (eL aC) bC), (lo21, 1, List.map (eL aC) (((List.take (Int.toNat at5) bC) ++ ([(gD l0 i4).Row])) ++ (List.drop (Int.toNat at5) bC)))]) (by kernel_rfl) (by kernel_rfl) hO (by kernel_rfl) (LU hO 0 (by kernel_rfl) rfl (Int.toNat_le.2 (And.right c20))) c22 (fun _ => by kernel_rfl) ?_
        intro lo21 H hO
        refine bA ?_
        replace hO := hO.pick (L' := [(lo21, 1, List.map (eL aC) (((List.take (Int.toNat at5) bC) ++ ([(gD l0 i4).Row])) ++ (List.drop (Int.toNat at5) bC)))]) [1] (by decide) (by kernel_rfl)
        exact aG (aW (aF (⟨rfl, _, _, .eq (by kernel_rfl), hO, h1⟩)))
    refine bY 2 ?_
    refine eU [(0, (eL aM l0)), (3, (.msl 1 lo4 0 (List.length bC))), (4, (eI i4)), (5, (eI (0 : Int)))] ?_
    refine dU (fun T H => ∃ bC : List (List aB), ∃ at5 : Int, ∃ lo24 : Nat, Has T [(0, (eL aM l0)), (3, (.msl 1 lo24 0 (List.length bC))), (4, (eI i4)), (5, (eI at5))] ∧ aJ ⟨H0, [], []⟩ H [(lo24, 1, List.map (eL aC) bC)] ∧ tU l0 bC i4 at5 = some out1) ?_ ⟨bC, (0 : Int), lo4, .eq (by kernel_rfl), hO, h1⟩
    clear hO h1
    rintro T H ⟨bC, at5, lo24, hT, hO, h1⟩
    refine aY hT ?_
    clear hT
    unfold tU at h1
    obtain ⟨rr1, hl1, h1⟩ := aX h1
    refine cS (by kernel_rfl) (fun (s : List (List aB) × Int) T H => ∃ lo24 : Nat, Has T [(0, (eL aM l0)), (3, (.msl 1 lo24 0 (List.length s.1))), (4, (eI i4)), (5, (eI s.2))] ∧ aJ ⟨H0, [], []⟩ H [(lo24, 1, List.map (eL aC) s.1)]) hl1 ⟨lo24, .eq (by kernel_rfl), hO⟩ ?_
    clear hO
    rintro k1 s out2 T H ⟨lo24, hT, hO⟩ h2 ho1
    obtain ⟨bC, at5⟩ := s
    replace h2 : kM l0 i4 bC at5 = some out2 := h2
    try dsimp only at hT
    refine aY hT ?_
    clear hT
    unfold kM at h2
    refine aN ?_
    refine aN ?_
    obtain ⟨c25, h2⟩ := aV h2
    obtain ⟨c26, h2⟩ := aV h2
    obtain ⟨x27, hx28, h2⟩ := aX h2
    refine fF (fG [27]) aD 17 ?_
    refine mT (K := fun T H => Has (lift T) [(0, (eL aM l0)), (3, (.msl 1 lo24 0 (List.length bC))), (4, (eI i4)), (5, (eI at5)), (30, (aE ((decide (at5 < (lN bC))) && (decide (x27 < (0 : Int))))))] ∧ aJ ⟨H0, [], []⟩ H [(lo24, 1, List.map (eL aC) bC)]) ?_ ?_
    · refine mX 5 ?_
      refine lB (t := 18) (e := decide (at5 < (lN bC))) (by kernel_rfl) (fun hg29 => ?_) (fun hg29 => ?_)
      · refine cD 8 [0 ≤ at5 ∧ at5 < (lN bC)] ⟨(c25 hg29), trivial⟩ ?_
        refine iY 0 lo24 1 (0 + Int.toNat at5) (eL aC (gD bC at5)) (eL aC (gD bC at5)) (List.map (eL aC) bC) (by kernel_rfl) (by kernel_rfl) (by kernel_rfl) hO (by kernel_rfl) (bX (c25 hg29)) ?_
        refine cD 14 [0 ≤ i4 ∧ i4 < (lN l0)] ⟨(c26 hg29), trivial⟩ ?_
        refine mJ 64 [(eL aC (gD bC at5)), (eL aC ((gD l0 i4).Row))] (eI x27) (by kernel_rfl) (by kernel_rfl) (yX (gD bC at5) ((gD l0 i4).Row) _ (kE hx28 hg29)) hO ?_
        intro H hO
        refine jB ?_
        exact ⟨⟨[(0, (eL aM l0)), (3, (.msl 1 lo24 0 (List.length bC))), (4, (eI i4)), (5, (eI at5)), (30, (aE (decide (x27 < (0 : Int)))))], by kernel_rfl, rfl, ⟨aO.refl _, aO.refl _, aO.refl _, aO.refl _, aO.eq (congrArg aE (jD hg29 rfl).symm), trivial⟩⟩, hO⟩
      refine jB ?_
      exact ⟨⟨[(0, (eL aM l0)), (3, (.msl 1 lo24 0 (List.length bC))), (4, (eI i4)), (5, (eI at5)), (30, (aE false))], by kernel_rfl, rfl, ⟨aO.refl _, aO.refl _, aO.refl _, aO.refl _, aO.eq (congrArg aE (jD hg29 rfl).symm), trivial⟩⟩, hO⟩
    · rintro T H ⟨hT, hO⟩
      refine cV hT ?_
      clear hT
      refine aG (aF ?_)
      refine bH h2 (fun h2 => ?_) (fun h2 => ?_)
      · refine bI ?_
        refine bG [(0, (eL aM l0)), (3, (.msl 1 lo24 0 (List.length bC))), (4, (eI i4)), (5, (eI at5))] ?_
        refine bY 3 ?_
        refine aU aD 3 ?_
        refine bA ?_
        exact aG (aW (aF (⟨rfl, _, (oI h2).symm, _, .eq (by kernel_rfl), hO⟩)))
      refine fA 2 ?_
      obtain rfl := oI h2
      obtain rfl : _ = rr1 := ho1
      replace h1 : qN l0 bC i4 at5 = some out1 := h1
      exact aG (aS (aS (bN (aF (⟨rfl, _, _, _, .eq (by kernel_rfl), hO, h1⟩)))))
  refine fA 0 ?_
  obtain rfl := oI h1
  obtain rfl : _ = rr0 := ho0
  replace h0 : tN bC = some r := h0
  exact aG (aS (aS (bN (aF (⟨rfl, _, _, .eq (by kernel_rfl), hO, h0⟩)))))

theorem BB (l0 : (List aL)) (r1 : (List aB)) (r : (List aI)) (h0 : nP l0 r1 = some r) : dN Try.prog 45 [(eL aM l0), (eL aC r1)] (eL aQ r) := by
  intro H0
  refine dG Try.func45 ?_
  have hO := aJ.start H0
  unfold nP at h0
  refine aT aD 1 [] [] ?_
  refine aN ?_
  refine aU aD 2 ?_
  refine lV (xs := []) (k := 2) (by kernel_rfl) (by kernel_rfl) ?_
  refine bA ?_
  refine bP [] [(5, (.sl true 0 (fun _ => .bad)))] ?_
  refine dS (fun T H => ∃ f5 : List aI, ∃ lo1 : Nat, Has T [(5, (.msl 2 lo1 0 (List.length f5)))] ∧ aJ ⟨H0, [], []⟩ H [(lo1, 2, List.map aQ f5)] ∧ sW f5 = some r) ?_ ?_
  · clear hO h0
    rintro T H ⟨f5, lo1, hT, hO, h0⟩
    refine aY hT ?_
    clear hT
    unfold sW at h0
    refine bO aD 2 [(4, (.msl 2 lo1 0 (List.length f5)))] ?_
    refine bJ ?_
    refine iD [(4, (.msl 2 lo1 0 (List.length f5)))] ?_
    refine sE (en := aQ) f5 0 0 4 2 lo1 (List.length f5) hO (by kernel_rfl) (by kernel_rfl) (by kernel_rfl) (L' := []) (by kernel_rfl) ?_
    intro H2 hO
    obtain rfl := oI h0
    exact aG (Q_r hO)
  refine aT aD 1 [] [(6, (eI (0 : Int)))] ?_
  refine bY 0 ?_
  refine eU [(0, (eL aM l0)), (1, (eL aC r1)), (5, (.sl true 0 (fun _ => .bad))), (6, (eI (0 : Int)))] ?_
  refine zZ (el := (fun _ => .bad)) 2 5 2 hO (by kernel_rfl) ?_
  intro lo16 H17 hO
  refine dU (fun T H => ∃ f5 : List aI, ∃ i6 : Int, ∃ lo4 : Nat, Has T [(0, (eL aM l0)), (1, (eL aC r1)), (5, (.msl 2 lo4 0 (List.length f5))), (6, (eI i6))] ∧ aJ ⟨H0, [], []⟩ H [(lo4, 2, List.map aQ f5)] ∧ sP l0 r1 f5 i6 = some r) ?_ ⟨([] : List aI), (0 : Int), lo16, .eq (by kernel_rfl), hO, h0⟩
  clear hO h0
  rintro T H ⟨f5, i6, lo4, hT, hO, h0⟩
  refine aY hT ?_
  clear hT
  unfold sP at h0
  obtain ⟨rr0, hl0, h0⟩ := aX h0
  refine cS (by kernel_rfl) (fun (s : List aI × Int) T H => ∃ lo4 : Nat, Has T [(0, (eL aM l0)), (1, (eL aC r1)), (5, (.msl 2 lo4 0 (List.length s.1))), (6, (eI s.2))] ∧ aJ ⟨H0, [], []⟩ H [(lo4, 2, List.map aQ s.1)]) hl0 ⟨lo4, .eq (by kernel_rfl), hO⟩ ?_
  clear hO
  rintro k0 s out1 T H ⟨lo4, hT, hO⟩ h1 ho0
  obtain ⟨f5, i6⟩ := s
  replace h1 : kS l0 r1 f5 i6 = some out1 := h1
  try dsimp only at hT
  refine aY hT ?_
  clear hT
  unfold kS at h1
  refine aN ?_
  refine aT aD 4 [] [(11, (aE (decide (i6 < (lN l0)))))] ?_
  refine bH h1 (fun h1 => ?_) (fun h1 => ?_)
  · refine bI ?_
    refine bG [(0, (eL aM l0)), (1, (eL aC r1)), (5, (.msl 2 lo4 0 (List.length f5))), (6, (eI i6))] ?_
    refine dS (fun T H => ∃ f5 : List aI, ∃ lo6 : Nat, Has T [(0, (eL aM l0)), (1, (eL aC r1)), (5, (.msl 2 lo6 0 (List.length f5))), (6, (eI i6))] ∧ aJ ⟨H0, [], []⟩ H [(lo6, 2, List.map aQ f5)] ∧ pJ l0 r1 f5 i6 = some out1) ?_ ?_
    · clear hO h1
      rintro T H ⟨f5, lo6, hT, hO, h1⟩
      refine aY hT ?_
      clear hT
      unfold pJ at h1
      refine aU aD 3 ?_
      refine bA ?_
      exact aG (aF (⟨rfl, _, (oI h1).symm, _, .eq (by kernel_rfl), hO⟩))
    refine bY 1 ?_
    refine aN ?_
    refine aU aD 7 ?_
    obtain ⟨c7, h1⟩ := aV h1
    refine pN 6 [0 ≤ i6 ∧ i6 < (lN l0)] ⟨c7, trivial⟩ ?_
    obtain ⟨x8, hx9, h1⟩ := aX h1
    refine dW (BX ((gD l0 i6).Row) r1 _ hx9) hO ?_
    intro H hO
    refine iT ?_
    refine bP [] [(20, (aE x8))] ?_
    refine bH h1 (fun h1 => ?_) (fun h1 => ?_)
    · refine fF (fG [26, 31, 33]) aD 15 ?_
      obtain ⟨c12, h1⟩ := aV h1
      obtain ⟨c13, h1⟩ := aV h1
      refine cD 12 [0 ≤ i6 ∧ i6 < (lN l0), 0 ≤ i6 ∧ i6 < (lN l0)] ⟨c12, c13, trivial⟩ ?_
      refine XA (xs := [(aQ (aI.mk ((gD l0 i6).At) ((gD l0 i6).Net)))]) (k := 2) (by kernel_rfl) (by kernel_rfl) ?_
      obtain ⟨c15, h1⟩ := aV h1
      refine OV (e := aQ) f5 ([aI.mk ((gD l0 i6).At) ((gD l0 i6).Net)]) 0 lo4 2 16 (iC [(aQ (aI.mk ((gD l0 i6).At) ((gD l0 i6).Net)))]) (fun lo14 => [(lo14, 2, List.map aQ (f5 ++ ([aI.mk ((gD l0 i6).At) ((gD l0 i6).Net)])))]) (by kernel_rfl) (by kernel_rfl) hO (by kernel_rfl) (by kernel_rfl) c15 (fun _ => by kernel_rfl) ?_
      intro lo14 H hO
      refine jB ?_
      exact aG (aW (aF (⟨rfl, _, _, .eq (by kernel_rfl), hO, h1⟩)))
    refine bI ?_
    exact aG (aW (aF (⟨rfl, _, _, .eq (by kernel_rfl), hO, h1⟩)))
  refine fA 0 ?_
  obtain rfl := oI h1
  obtain rfl : _ = rr0 := ho0
  replace h0 : sW f5 = some r := h0
  exact aG (aS (aS (bN (aF (⟨rfl, _, _, .eq (by kernel_rfl), hO, h0⟩)))))

theorem DP (l0 : (List aL)) (r : Bool) (h0 : qY l0 = some r) : dN Try.prog 34 [(eL aM l0)] (aE r) := by
  intro H0
  refine dG Try.func34 ?_
  have hO := aJ.start H0
  unfold qY at h0
  refine aT aD 1 [] [] ?_
  refine aN ?_
  refine aT aD 3 [] [(9, (aE (decide ((4096 : Int) < (lN l0)))))] ?_
  refine bH h0 (fun h0 => ?_) (fun h0 => ?_)
  · refine bO aD 1 [(2, (aE false))] ?_
    refine bJ ?_
    obtain rfl := oI h0
    exact aG (aP (Q_r hO))
  refine bI ?_
  refine bG [(0, (eL aM l0))] ?_
  refine dS (fun T H => Has T [(0, (eL aM l0))] ∧ aJ ⟨H0, [], []⟩ H [] ∧ rZ l0 = some r) ?_ ?_
  · clear hO h0
    rintro T H ⟨hT, hO, h0⟩
    refine aY hT ?_
    clear hT
    unfold rZ at h0
    refine aN ?_
    refine aU aD 3 ?_
    refine bS 1 ?_
    obtain ⟨x2, hx3, h0⟩ := aX h0
    refine dW (CS l0 _ hx3) hO ?_
    intro H hO
    refine bA ?_
    refine bP [] [(5, (eL (eL aC) x2))] ?_
    refine dS (fun T H => Has T [] ∧ aJ ⟨H0, [], []⟩ H [] ∧ vH  = some r) ?_ ?_
    · clear hO h0
      rintro T H ⟨hT, hO, h0⟩
      refine aY hT ?_
      clear hT
      unfold vH at h0
      refine bO aD 1 [(2, (aE true))] ?_
      refine bJ ?_
      obtain rfl := oI h0
      exact aG (Q_r hO)
    refine aT aD 1 [] [(6, (eI (0 : Int)))] ?_
    refine bY 2 ?_
    refine eU [(0, (eL aM l0)), (5, (eL (eL aC) x2)), (6, (eI (0 : Int)))] ?_
    refine dU (fun T H => ∃ oL : (List (List aB)), ∃ i6 : Int, Has T [(0, (eL aM l0)), (5, (eL (eL aC) oL)), (6, (eI i6))] ∧ aJ ⟨H0, [], []⟩ H [] ∧ uW l0 oL i6 = some r) ?_ ⟨x2, (0 : Int), .eq (by kernel_rfl), hO, h0⟩
    clear hO h0
    rintro T H ⟨oL, i6, hT, hO, h0⟩
    refine aY hT ?_
    clear hT
    unfold uW at h0
    obtain ⟨rr0, hl0, h0⟩ := aX h0
    refine cS (by kernel_rfl) (fun (s : Int) T H => Has T [(0, (eL aM l0)), (5, (eL (eL aC) oL)), (6, (eI s))] ∧ aJ ⟨H0, [], []⟩ H []) hl0 ⟨.eq (by kernel_rfl), hO⟩ ?_
    clear hO
    rintro k0 s out1 T H ⟨hT, hO⟩ h1 ho0
    obtain ⟨i6, rfl⟩ : ∃ x, x = s := ⟨_, rfl⟩
    replace h1 : nG l0 oL i6 = some out1 := h1
    refine aY hT ?_
    clear hT
    unfold nG at h1
    refine aN ?_
    refine aT aD 4 [] [(78, (aE (decide (i6 < (lN oL)))))] ?_
    refine bH h1 (fun h1 => ?_) (fun h1 => ?_)
    · refine bI ?_
      refine bG [(0, (eL aM l0)), (5, (eL (eL aC) oL)), (6, (eI i6))] ?_
      refine aN ?_
      refine bY 3 ?_
      refine aN ?_
      refine aU aD 8 ?_
      obtain ⟨c6, h1⟩ := aV h1
      refine pN 5 [0 ≤ i6 ∧ i6 < (lN oL)] ⟨c6, trivial⟩ ?_
      obtain ⟨x7, hx8, h1⟩ := aX h1
      refine dW (BB l0 (gD oL i6) _ hx8) hO ?_
      intro H hO
      refine bA ?_
      refine bP [] [(88, (aE (decide ((1024 : Int) < (lN x7)))))] ?_
      refine bH h1 (fun h1 => ?_) (fun h1 => ?_)
      · refine bO aD 1 [(2, (aE false))] ?_
        refine bJ ?_
        obtain rfl := oI h1
        obtain rfl : _ = rr0 := ho0
        replace h0 : some false = some r := h0
        obtain rfl := oI h0
        exact aG (bD (aP (aP (bD (aP (Q_r hO))))))
      refine bI ?_
      refine iD [(0, (eL aM l0)), (5, (eL (eL aC) oL)), (6, (eI i6))] ?_
      refine aG (aW (aF (?_)))
      refine aU aD 3 ?_
      refine bA ?_
      exact aG (aF (⟨rfl, _, (oI h1).symm, .eq (by kernel_rfl), hO⟩))
    refine fA 2 ?_
    obtain rfl := oI h1
    obtain rfl : _ = rr0 := ho0
    replace h0 : vH  = some r := h0
    exact aG (aS (aS (bN (aF (⟨rfl, .eq (by kernel_rfl), hO, h0⟩)))))
  refine aT aD 1 [] [(3, (eI (0 : Int)))] ?_
  refine bY 0 ?_
  refine eU [(0, (eL aM l0)), (3, (eI (0 : Int)))] ?_
  refine dU (fun T H => ∃ i3 : Int, Has T [(0, (eL aM l0)), (3, (eI i3))] ∧ aJ ⟨H0, [], []⟩ H [] ∧ uL l0 i3 = some r) ?_ ⟨(0 : Int), .eq (by kernel_rfl), hO, h0⟩
  clear hO h0
  rintro T H ⟨i3, hT, hO, h0⟩
  refine aY hT ?_
  clear hT
  unfold uL at h0
  obtain ⟨rr0, hl0, h0⟩ := aX h0
  refine cS (by kernel_rfl) (fun (s : Int) T H => Has T [(0, (eL aM l0)), (3, (eI s))] ∧ aJ ⟨H0, [], []⟩ H []) hl0 ⟨.eq (by kernel_rfl), hO⟩ ?_
  clear hO
  rintro k0 s out1 T H ⟨hT, hO⟩ h1 ho0
  obtain ⟨i3, rfl⟩ : ∃ x, x = s := ⟨_, rfl⟩
  replace h1 : mD l0 i3 = some out1 := h1
  refine aY hT ?_
  clear hT
  unfold mD at h1
  refine aN ?_
  refine aT aD 4 [] [(13, (aE (decide (i3 < (lN l0)))))] ?_
  refine bH h1 (fun h1 => ?_) (fun h1 => ?_)
  · refine bI ?_
    refine bG [(0, (eL aM l0)), (3, (eI i3))] ?_
    refine dS (fun T H => Has T [(0, (eL aM l0)), (3, (eI i3))] ∧ aJ ⟨H0, [], []⟩ H [] ∧ oY l0 i3 = some out1) ?_ ?_
    · clear hO h1
      rintro T H ⟨hT, hO, h1⟩
      refine aY hT ?_
      clear hT
      unfold oY at h1
      refine aU aD 3 ?_
      refine bA ?_
      exact aG (aF (⟨rfl, _, (oI h1).symm, .eq (by kernel_rfl), hO⟩))
    refine bY 1 ?_
    refine aN ?_
    refine aN ?_
    obtain ⟨c12, h1⟩ := aV h1
    obtain ⟨x13, hx14, h1⟩ := aX h1
    obtain ⟨c15, h1⟩ := aV h1
    obtain ⟨c16, h1⟩ := aV h1
    obtain ⟨x17, hx18, h1⟩ := aX h1
    refine fF (fG [20, 28, 33]) aD 23 ?_
    refine mT (K := fun T H => Has (lift T) [(0, (eL aM l0)), (3, (eI i3)), (38, (aE ((!x13) || (!x17))))] ∧ aJ ⟨H0, [], []⟩ H []) ?_ ?_
    · refine cD 5 [0 ≤ i3 ∧ i3 < (lN l0)] ⟨c12, trivial⟩ ?_
      refine mJ 62 [(eL aC ((gD l0 i3).Row))] (aE x13) (by kernel_rfl) (by kernel_rfl) (zD ((gD l0 i3).Row) _ hx14) hO ?_
      intro H hO
      refine mX 8 ?_
      refine lB (t := 23) (e := !x13) (by kernel_rfl) (fun hg19 => ?_) (fun hg19 => ?_)
      · refine jB ?_
        exact ⟨⟨[(0, (eL aM l0)), (3, (eI i3)), (38, (aE true))], by kernel_rfl, rfl, ⟨aO.refl _, aO.refl _, aO.eq (congrArg aE (KW hg19 rfl).symm), trivial⟩⟩, hO⟩
      refine cD 19 [0 ≤ i3 ∧ i3 < (lN l0), 0 ≤ i3 ∧ i3 < (lN l0)] ⟨(c15 (GB hg19)), (c16 (GB hg19)), trivial⟩ ?_
      refine ZN (xs := [(aQ (aI.mk ((gD l0 i3).At) ((gD l0 i3).Net)))]) (by kernel_rfl) (by kernel_rfl) ?_
      refine mJ 63 [(iC [(aQ (aI.mk ((gD l0 i3).At) ((gD l0 i3).Net)))])] (aE x17) (by kernel_rfl) (by kernel_rfl) (dN.sub (DR ([aI.mk ((gD l0 i3).At) ((gD l0 i3).Net)]) _ (kE hx18 (GB hg19))) ⟨CI (l := [aI.mk ((gD l0 i3).At) ((gD l0 i3).Net)]), trivial⟩) hO ?_
      intro H hO
      refine jB ?_
      exact ⟨⟨[(0, (eL aM l0)), (3, (eI i3)), (38, (aE (!x17)))], by kernel_rfl, rfl, ⟨aO.refl _, aO.refl _, aO.eq (congrArg aE (KW hg19 rfl).symm), trivial⟩⟩, hO⟩
    · rintro T H ⟨hT, hO⟩
      refine cV hT ?_
      clear hT
      refine aG (aF ?_)
      refine bH h1 (fun h1 => ?_) (fun h1 => ?_)
      · refine bO aD 1 [(2, (aE false))] ?_
        refine bJ ?_
        obtain rfl := oI h1
        obtain rfl : _ = rr0 := ho0
        replace h0 : some false = some r := h0
        obtain rfl := oI h0
        exact aG (aP (bD (aP (aP (bD (aP (Q_r hO)))))))
      refine bI ?_
      refine bG [(0, (eL aM l0)), (3, (eI i3))] ?_
      refine aN ?_
      refine aT aD 2 [] [(40, (aE (decide (i3 = (0 : Int)))))] ?_
      refine bH h1 (fun h1 => ?_) (fun h1 => ?_)
      · refine fA 1 ?_
        exact aG (aS (bN (aF (⟨rfl, .eq (by kernel_rfl), hO, h1⟩))))
      refine bI ?_
      refine bG [(0, (eL aM l0)), (3, (eI i3))] ?_
      refine aN ?_
      refine fF (fG [46, 51, 52]) aD 13 ?_
      obtain ⟨c22, h1⟩ := aV h1
      obtain ⟨c23, h1⟩ := aV h1
      refine cD 11 [0 ≤ (wR (i3 - (1 : Int))) ∧ (wR (i3 - (1 : Int))) < (lN l0), 0 ≤ i3 ∧ i3 < (lN l0)] ⟨c22, c23, trivial⟩ ?_
      obtain ⟨x24, hx25, h1⟩ := aX h1
      refine CO (yX ((gD l0 (wR (i3 - (1 : Int)))).Row) ((gD l0 i3).Row) _ hx25) hO ?_
      intro H hO
      refine jB ?_
      refine bP [] [(4, (eI x24))] ?_
      refine aN ?_
      obtain ⟨c27, h1⟩ := aV h1
      obtain ⟨c28, h1⟩ := aV h1
      refine fF (fG [64, 69]) aD 20 ?_
      refine mT (K := fun T H => Has (lift T) [(0, (eL aM l0)), (3, (eI i3)), (72, (aE ((decide ((0 : Int) < x24)) || ((decide (x24 = (0 : Int))) && (decide (((gD l0 i3).At) ≤ ((gD l0 (wR (i3 - (1 : Int)))).At)))))))] ∧ aJ ⟨H0, [], []⟩ H []) ?_ ?_
      · refine mX 3 ?_
        refine lB (t := 55) (e := decide ((0 : Int) < x24)) (by kernel_rfl) (fun hg29 => ?_) (fun hg29 => ?_)
        · refine jB ?_
          exact ⟨⟨[(0, (eL aM l0)), (3, (eI i3)), (72, (aE true))], by kernel_rfl, rfl, ⟨aO.refl _, aO.refl _, aO.eq (congrArg aE (KW hg29 rfl).symm), trivial⟩⟩, hO⟩
        refine mX 6 ?_
        refine lB (t := 58) (e := decide (x24 = (0 : Int))) (by kernel_rfl) (fun hg30 => ?_) (fun hg30 => ?_)
        · refine xC (Ds := [0 ≤ (wR (i3 - (1 : Int))) ∧ (wR (i3 - (1 : Int))) < (lN l0), 0 ≤ i3 ∧ i3 < (lN l0)]) (by kernel_rfl) ⟨(c27 (jD hg30 (GB hg29))), (c28 (jD hg30 (GB hg29))), trivial⟩ ?_
          exact ⟨⟨[(0, (eL aM l0)), (3, (eI i3)), (72, (aE (decide (((gD l0 i3).At) ≤ ((gD l0 (wR (i3 - (1 : Int)))).At)))))], by kernel_rfl, rfl, ⟨aO.refl _, aO.refl _, aO.eq (congrArg aE (KW hg29 (jD hg30 rfl)).symm), trivial⟩⟩, hO⟩
        refine jB ?_
        exact ⟨⟨[(0, (eL aM l0)), (3, (eI i3)), (72, (aE false))], by kernel_rfl, rfl, ⟨aO.refl _, aO.refl _, aO.eq (congrArg aE (KW hg29 (jD hg30 rfl)).symm), trivial⟩⟩, hO⟩
      · rintro T H ⟨hT, hO⟩
        refine cV hT ?_
        clear hT
        refine aG (aF ?_)
        refine bH h1 (fun h1 => ?_) (fun h1 => ?_)
        · refine bO aD 1 [(2, (aE false))] ?_
          refine bJ ?_
          obtain rfl := oI h1
          obtain rfl : _ = rr0 := ho0
          replace h0 : some false = some r := h0
          obtain rfl := oI h0
          exact aG (bD (aP (aP (bD (aP (Q_r hO))))))
        refine bI ?_
        exact aG (aW (aF (⟨rfl, .eq (by kernel_rfl), hO, h1⟩)))
  refine fA 0 ?_
  obtain rfl := oI h1
  obtain rfl : _ = rr0 := ho0
  replace h0 : rZ l0 = some r := h0
  exact aG (aS (aS (bN (aF (⟨rfl, .eq (by kernel_rfl), hO, h0⟩)))))

theorem wO (f0 : (List aI)) (t1 : Int) (r : Int) (h0 : lG f0 t1 = some r) : dN Try.prog 44 [(eL aQ f0), (eI t1)] (eI r) := by
  intro H0
  refine dG Try.func44 ?_
  have hO := aJ.start H0
  unfold lG at h0
  refine aT aD 1 [] [] ?_
  refine aT aD 1 [] [(5, (eI (0 : Int)))] ?_
  refine dS (fun T H => ∃ v5 : Int, Has T [(5, (eI v5))] ∧ aJ ⟨H0, [], []⟩ H [] ∧ oS v5 = some r) ?_ ?_
  · clear hO h0
    rintro T H ⟨v5, hT, hO, h0⟩
    refine aY hT ?_
    clear hT
    unfold oS at h0
    refine bO aD 2 [(4, (eI v5))] ?_
    refine bJ ?_
    obtain rfl := oI h0
    exact aG (Q_r hO)
  refine aT aD 1 [] [(6, (eI (0 : Int)))] ?_
  refine bY 0 ?_
  refine eU [(0, (eL aQ f0)), (1, (eI t1)), (5, (eI (0 : Int))), (6, (eI (0 : Int)))] ?_
  refine dU (fun T H => ∃ v5 : Int, ∃ i6 : Int, Has T [(0, (eL aQ f0)), (1, (eI t1)), (5, (eI v5)), (6, (eI i6))] ∧ aJ ⟨H0, [], []⟩ H [] ∧ sN f0 t1 v5 i6 = some r) ?_ ⟨(0 : Int), (0 : Int), .eq (by kernel_rfl), hO, h0⟩
  clear hO h0
  rintro T H ⟨v5, i6, hT, hO, h0⟩
  refine aY hT ?_
  clear hT
  unfold sN at h0
  obtain ⟨rr0, hl0, h0⟩ := aX h0
  refine cS (by kernel_rfl) (fun (s : Int × Int) T H => Has T [(0, (eL aQ f0)), (1, (eI t1)), (5, (eI s.1)), (6, (eI s.2))] ∧ aJ ⟨H0, [], []⟩ H []) hl0 ⟨.eq (by kernel_rfl), hO⟩ ?_
  clear hO
  rintro k0 s out1 T H ⟨hT, hO⟩ h1 ho0
  obtain ⟨v5, i6⟩ := s
  replace h1 : jF f0 t1 v5 i6 = some out1 := h1
  try dsimp only at hT
  refine aY hT ?_
  clear hT
  unfold jF at h1
  refine aN ?_
  refine aT aD 4 [] [(10, (aE (decide (i6 < (lN f0)))))] ?_
  refine bH h1 (fun h1 => ?_) (fun h1 => ?_)
  · refine bI ?_
    refine bG [(0, (eL aQ f0)), (1, (eI t1)), (5, (eI v5)), (6, (eI i6))] ?_
    refine dS (fun T H => ∃ v5 : Int, Has T [(0, (eL aQ f0)), (1, (eI t1)), (5, (eI v5)), (6, (eI i6))] ∧ aJ ⟨H0, [], []⟩ H [] ∧ nB f0 t1 v5 i6 = some out1) ?_ ?_
    · clear hO h1
      rintro T H ⟨v5, hT, hO, h1⟩
      refine aY hT ?_
      clear hT
      unfold nB at h1
      refine aU aD 3 ?_
      refine bA ?_
      exact aG (aF (⟨rfl, _, (oI h1).symm, .eq (by kernel_rfl), hO⟩))
    refine bY 1 ?_
    refine aN ?_
    refine aU aD 7 ?_
    obtain ⟨c2, h1⟩ := aV h1
    refine mU [0 ≤ i6 ∧ i6 < (lN f0)] ⟨c2, trivial⟩ ?_
    refine bP [] [(19, (aE (decide (((gD f0 i6).At) ≤ t1))))] ?_
    refine bH h1 (fun h1 => ?_) (fun h1 => ?_)
    · refine aU aD 8 ?_
      obtain ⟨c4, h1⟩ := aV h1
      refine mU [0 ≤ i6 ∧ i6 < (lN f0)] ⟨c4, trivial⟩ ?_
      exact aG (aW (aF (⟨rfl, _, .eq (by kernel_rfl), hO, h1⟩)))
    refine bI ?_
    exact aG (aW (aF (⟨rfl, _, .eq (by kernel_rfl), hO, h1⟩)))
  refine fA 0 ?_
  obtain rfl := oI h1
  obtain rfl : _ = rr0 := ho0
  replace h0 : oS v5 = some r := h0
  exact aG (aS (aS (bN (aF (⟨rfl, _, .eq (by kernel_rfl), hO, h0⟩)))))

theorem JR (f0 : (List aI)) (r : Int) (h0 : qM f0 = some r) : dN Try.prog 65 [(eL aQ f0)] (eI r) := by
  intro H0
  refine dG Try.func65 ?_
  have hO := aJ.start H0
  unfold qM at h0
  refine aT aD 1 [] [] ?_
  refine aN ?_
  refine aN ?_
  refine aU aD 3 ?_
  refine bS 1 ?_
  obtain ⟨x1, hx2, h0⟩ := aX h0
  refine dW (DR f0 _ hx2) hO ?_
  intro H hO
  refine bA ?_
  refine bP [] [(7, (aE (!x1)))] ?_
  refine bH h0 (fun h0 => ?_) (fun h0 => ?_)
  · refine bO aD 1 [(2, (eI (0 : Int)))] ?_
    refine bJ ?_
    obtain rfl := oI h0
    exact aG (aP (Q_r hO))
  refine bI ?_
  refine bG [(0, (eL aQ f0))] ?_
  refine aN ?_
  refine aU aD 3 ?_
  refine bS 1 ?_
  obtain ⟨x5, hx6, h0⟩ := aX h0
  refine dW (wO f0 (-1 : Int) _ hx6) hO ?_
  intro H hO
  refine bA ?_
  refine bP [] [(3, (eI x5))] ?_
  refine dS (fun T H => ∃ m3 : Int, Has T [(3, (eI m3))] ∧ aJ ⟨H0, [], []⟩ H [] ∧ pE m3 = some r) ?_ ?_
  · clear hO h0
    rintro T H ⟨m3, hT, hO, h0⟩
    refine aY hT ?_
    clear hT
    unfold pE at h0
    refine bO aD 2 [(2, (eI m3))] ?_
    refine bJ ?_
    obtain rfl := oI h0
    exact aG (Q_r hO)
  refine aT aD 1 [] [(4, (eI (0 : Int)))] ?_
  refine bY 0 ?_
  refine eU [(0, (eL aQ f0)), (3, (eI x5)), (4, (eI (0 : Int)))] ?_
  refine dU (fun T H => ∃ m3 : Int, ∃ i4 : Int, Has T [(0, (eL aQ f0)), (3, (eI m3)), (4, (eI i4))] ∧ aJ ⟨H0, [], []⟩ H [] ∧ sQ f0 m3 i4 = some r) ?_ ⟨x5, (0 : Int), .eq (by kernel_rfl), hO, h0⟩
  clear hO h0
  rintro T H ⟨m3, i4, hT, hO, h0⟩
  refine aY hT ?_
  clear hT
  unfold sQ at h0
  obtain ⟨rr0, hl0, h0⟩ := aX h0
  refine cS (by kernel_rfl) (fun (s : Int × Int) T H => Has T [(0, (eL aQ f0)), (3, (eI s.1)), (4, (eI s.2))] ∧ aJ ⟨H0, [], []⟩ H []) hl0 ⟨.eq (by kernel_rfl), hO⟩ ?_
  clear hO
  rintro k0 s out1 T H ⟨hT, hO⟩ h1 ho0
  obtain ⟨m3, i4⟩ := s
  replace h1 : kT f0 m3 i4 = some out1 := h1
  try dsimp only at hT
  refine aY hT ?_
  clear hT
  unfold kT at h1
  refine aN ?_
  refine aT aD 4 [] [(13, (aE (decide (i4 < (lN f0)))))] ?_
  refine bH h1 (fun h1 => ?_) (fun h1 => ?_)
  · refine bI ?_
    refine bG [(0, (eL aQ f0)), (3, (eI m3)), (4, (eI i4))] ?_
    refine dS (fun T H => ∃ m3 : Int, Has T [(0, (eL aQ f0)), (3, (eI m3)), (4, (eI i4))] ∧ aJ ⟨H0, [], []⟩ H [] ∧ oU f0 m3 i4 = some out1) ?_ ?_
    · clear hO h1
      rintro T H ⟨m3, hT, hO, h1⟩
      refine aY hT ?_
      clear hT
      unfold oU at h1
      refine aU aD 3 ?_
      refine bA ?_
      exact aG (aF (⟨rfl, _, (oI h1).symm, .eq (by kernel_rfl), hO⟩))
    refine bY 1 ?_
    refine aN ?_
    refine aU aD 9 ?_
    obtain ⟨c9, h1⟩ := aV h1
    refine pN 6 [0 ≤ i4 ∧ i4 < (lN f0)] ⟨c9, trivial⟩ ?_
    obtain ⟨x10, hx11, h1⟩ := aX h1
    refine dW (wO f0 ((gD f0 i4).At) _ hx11) hO ?_
    intro H hO
    refine bA ?_
    refine bP [] [(24, (aE (decide (x10 < m3))))] ?_
    refine bH h1 (fun h1 => ?_) (fun h1 => ?_)
    · refine aU aD 8 ?_
      obtain ⟨c14, h1⟩ := aV h1
      refine pN 6 [0 ≤ i4 ∧ i4 < (lN f0)] ⟨c14, trivial⟩ ?_
      obtain ⟨x15, hx16, h1⟩ := aX h1
      refine dW (wO f0 ((gD f0 i4).At) _ hx16) hO ?_
      intro H hO
      refine bA ?_
      exact aG (aW (aF (⟨rfl, _, .eq (by kernel_rfl), hO, h1⟩)))
    refine bI ?_
    exact aG (aW (aF (⟨rfl, _, .eq (by kernel_rfl), hO, h1⟩)))
  refine fA 0 ?_
  obtain rfl := oI h1
  obtain rfl : _ = rr0 := ho0
  replace h0 : pE m3 = some r := h0
  exact aG (aS (aS (bN (aF (⟨rfl, _, .eq (by kernel_rfl), hO, h0⟩)))))

theorem JP (l0 : (List aL)) (r : Bool) (h0 : qC l0 = some r) : dN Try.prog 35 [(eL aM l0)] (aE r) := by
  intro H0
  refine dG Try.func35 ?_
  have hO := aJ.start H0
  unfold qC at h0
  refine aT aD 1 [] [] ?_
  refine aN ?_
  refine aN ?_
  refine aU aD 3 ?_
  refine bS 1 ?_
  obtain ⟨x1, hx2, h0⟩ := aX h0
  refine dW (DP l0 _ hx2) hO ?_
  intro H hO
  refine bA ?_
  refine bP [] [(7, (aE (!x1)))] ?_
  refine bH h0 (fun h0 => ?_) (fun h0 => ?_)
  · refine bO aD 1 [(2, (aE false))] ?_
    refine bJ ?_
    obtain rfl := oI h0
    exact aG (aP (Q_r hO))
  refine bI ?_
  refine bG [(0, (eL aM l0))] ?_
  refine aN ?_
  refine aU aD 3 ?_
  refine bS 1 ?_
  obtain ⟨x5, hx6, h0⟩ := aX h0
  refine dW (CS l0 _ hx6) hO ?_
  intro H hO
  refine bA ?_
  refine bP [] [(3, (eL (eL aC) x5))] ?_
  refine dS (fun T H => Has T [] ∧ aJ ⟨H0, [], []⟩ H [] ∧ sU  = some r) ?_ ?_
  · clear hO h0
    rintro T H ⟨hT, hO, h0⟩
    refine aY hT ?_
    clear hT
    unfold sU at h0
    refine bO aD 1 [(2, (aE true))] ?_
    refine bJ ?_
    obtain rfl := oI h0
    exact aG (Q_r hO)
  refine aT aD 1 [] [(4, (eI (0 : Int)))] ?_
  refine bY 0 ?_
  refine eU [(0, (eL aM l0)), (3, (eL (eL aC) x5)), (4, (eI (0 : Int)))] ?_
  refine dU (fun T H => ∃ bC : (List (List aB)), ∃ i4 : Int, Has T [(0, (eL aM l0)), (3, (eL (eL aC) bC)), (4, (eI i4))] ∧ aJ ⟨H0, [], []⟩ H [] ∧ sO l0 bC i4 = some r) ?_ ⟨x5, (0 : Int), .eq (by kernel_rfl), hO, h0⟩
  clear hO h0
  rintro T H ⟨bC, i4, hT, hO, h0⟩
  refine aY hT ?_
  clear hT
  unfold sO at h0
  obtain ⟨rr0, hl0, h0⟩ := aX h0
  refine cS (by kernel_rfl) (fun (s : Int) T H => Has T [(0, (eL aM l0)), (3, (eL (eL aC) bC)), (4, (eI s))] ∧ aJ ⟨H0, [], []⟩ H []) hl0 ⟨.eq (by kernel_rfl), hO⟩ ?_
  clear hO
  rintro k0 s out1 T H ⟨hT, hO⟩ h1 ho0
  obtain ⟨i4, rfl⟩ : ∃ x, x = s := ⟨_, rfl⟩
  replace h1 : lS l0 bC i4 = some out1 := h1
  refine aY hT ?_
  clear hT
  unfold lS at h1
  refine aN ?_
  refine aT aD 4 [] [(13, (aE (decide (i4 < (lN bC)))))] ?_
  refine bH h1 (fun h1 => ?_) (fun h1 => ?_)
  · refine bI ?_
    refine bG [(0, (eL aM l0)), (3, (eL (eL aC) bC)), (4, (eI i4))] ?_
    refine aN ?_
    refine bY 1 ?_
    refine aN ?_
    refine aU aD 8 ?_
    obtain ⟨c9, h1⟩ := aV h1
    refine pN 5 [0 ≤ i4 ∧ i4 < (lN bC)] ⟨c9, trivial⟩ ?_
    obtain ⟨x10, hx11, h1⟩ := aX h1
    refine dW (BB l0 (gD bC i4) _ hx11) hO ?_
    intro H hO
    obtain ⟨x13, hx14, h1⟩ := aX h1
    refine dW (JR x10 _ hx14) hO ?_
    intro H hO
    refine bA ?_
    refine bP [] [(23, (aE (decide (x13 < (0 : Int)))))] ?_
    refine bH h1 (fun h1 => ?_) (fun h1 => ?_)
    · refine bO aD 1 [(2, (aE false))] ?_
      refine bJ ?_
      obtain rfl := oI h1
      obtain rfl : _ = rr0 := ho0
      replace h0 : some false = some r := h0
      obtain rfl := oI h0
      exact aG (bD (aP (aP (bD (aP (Q_r hO))))))
    refine bI ?_
    refine iD [(0, (eL aM l0)), (3, (eL (eL aC) bC)), (4, (eI i4))] ?_
    refine aG (aW (aF (?_)))
    refine aU aD 3 ?_
    refine bA ?_
    exact aG (aF (⟨rfl, _, (oI h1).symm, .eq (by kernel_rfl), hO⟩))
  refine fA 0 ?_
  obtain rfl := oI h1
  obtain rfl : _ = rr0 := ho0
  replace h0 : sU  = some r := h0
  exact aG (aS (aS (bN (aF (⟨rfl, .eq (by kernel_rfl), hO, h0⟩)))))

theorem LA (t0 : Int) (r : Bool) (h0 : vF t0 = some r) : dN Try.prog 36 [(eI t0)] (aE r) := by
  intro H0
  refine dG Try.func36 ?_
  have hO := aJ.start H0
  unfold vF at h0
  refine aT aD 1 [] [] ?_
  refine bO aD 7 [(2, (aE ((decide ((0 : Int) ≤ t0)) && (decide (t0 ≤ (1125899906842624 : Int))))))] ?_
  refine bJ ?_
  obtain rfl := oI h0
  exact aG (Q_r hO)

theorem MX (l0 : (List Int)) (t1 : Int) (r : (List Int)) (h0 : rV l0 t1 = some r) : dN Try.prog 37 [(eL (eI) l0), (eI t1)] (eL (eI) r) := by
  intro H0
  refine dG Try.func37 ?_
  have hO := aJ.start H0
  unfold rV at h0
  refine aT aD 1 [] [] ?_
  refine aN ?_
  refine aU aD 2 ?_
  refine lV (xs := []) (k := 1) (by kernel_rfl) (by kernel_rfl) ?_
  refine bA ?_
  refine bP [] [(5, (.sl true 0 (fun _ => .bad)))] ?_
  refine aT aD 1 [] [(6, (aE false))] ?_
  refine dS (fun T H => ∃ out5 : List Int, ∃ put6 : Bool, ∃ lo1 : Nat, Has T [(1, (eI t1)), (5, (.msl 1 lo1 0 (List.length out5))), (6, (aE put6))] ∧ aJ ⟨H0, [], []⟩ H [(lo1, 1, List.map (eI) out5)] ∧ nT t1 out5 put6 = some r) ?_ ?_
  · clear hO h0
    rintro T H ⟨out5, put6, lo1, hT, hO, h0⟩
    refine aY hT ?_
    clear hT
    unfold nT at h0
    refine dS (fun T H => ∃ out5 : List Int, ∃ lo2 : Nat, Has T [(5, (.msl 1 lo2 0 (List.length out5)))] ∧ aJ ⟨H0, [], []⟩ H [(lo2, 1, List.map (eI) out5)] ∧ nO out5 = some r) ?_ ?_
    · clear hO h0
      rintro T H ⟨out5, lo2, hT, hO, h0⟩
      refine aY hT ?_
      clear hT
      unfold nO at h0
      refine bO aD 2 [(4, (.msl 1 lo2 0 (List.length out5)))] ?_
      refine bJ ?_
      refine iD [(4, (.msl 1 lo2 0 (List.length out5)))] ?_
      refine sE (en := (eI)) out5 0 0 4 1 lo2 (List.length out5) hO (by kernel_rfl) (by kernel_rfl) (by kernel_rfl) (L' := []) (by kernel_rfl) ?_
      intro H3 hO
      obtain rfl := oI h0
      exact aG (Q_r hO)
    refine aT aD 2 [6] [(44, (aE (!put6)))] ?_
    refine bH h0 (fun h0 => ?_) (fun h0 => ?_)
    · refine aU aD 5 ?_
      refine bS 2 ?_
      refine lV (xs := [(eI t1)]) (k := 1) (by kernel_rfl) (by kernel_rfl) ?_
      obtain ⟨c6, h0⟩ := aV h0
      refine qU (e := (eI)) out5 ([t1]) 0 lo1 1 8 (iC [(eI t1)]) (fun lo5 => [(lo5, 1, List.map (eI) (out5 ++ ([t1])))]) (by kernel_rfl) (by kernel_rfl) hO (by kernel_rfl) (by kernel_rfl) c6 (fun _ => by kernel_rfl) ?_
      intro lo5 H hO
      refine bA ?_
      exact aG (aF (⟨rfl, _, _, .eq (by kernel_rfl), hO, h0⟩))
    refine bI ?_
    exact aG (aF (⟨rfl, _, _, .eq (by kernel_rfl), hO, h0⟩))
  refine aT aD 1 [] [(7, (eI (0 : Int)))] ?_
  refine bY 0 ?_
  refine eU [(0, (eL (eI) l0)), (1, (eI t1)), (5, (.sl true 0 (fun _ => .bad))), (6, (aE false)), (7, (eI (0 : Int)))] ?_
  refine zZ (el := (fun _ => .bad)) 2 5 1 hO (by kernel_rfl) ?_
  intro lo20 H21 hO
  refine dU (fun T H => ∃ out5 : List Int, ∃ put6 : Bool, ∃ i7 : Int, ∃ lo8 : Nat, Has T [(0, (eL (eI) l0)), (1, (eI t1)), (5, (.msl 1 lo8 0 (List.length out5))), (6, (aE put6)), (7, (eI i7))] ∧ aJ ⟨H0, [], []⟩ H [(lo8, 1, List.map (eI) out5)] ∧ tX l0 t1 out5 put6 i7 = some r) ?_ ⟨([] : List Int), false, (0 : Int), lo20, .eq (by kernel_rfl), hO, h0⟩
  clear hO h0
  rintro T H ⟨out5, put6, i7, lo8, hT, hO, h0⟩
  refine aY hT ?_
  clear hT
  unfold tX at h0
  obtain ⟨rr0, hl0, h0⟩ := aX h0
  refine cS (by kernel_rfl) (fun (s : List Int × Bool × Int) T H => ∃ lo8 : Nat, Has T [(0, (eL (eI) l0)), (1, (eI t1)), (5, (.msl 1 lo8 0 (List.length s.1))), (6, (aE s.2.1)), (7, (eI s.2.2))] ∧ aJ ⟨H0, [], []⟩ H [(lo8, 1, List.map (eI) s.1)]) hl0 ⟨lo8, .eq (by kernel_rfl), hO⟩ ?_
  clear hO
  rintro k0 s out1 T H ⟨lo8, hT, hO⟩ h1 ho0
  obtain ⟨out5, put6, i7⟩ := s
  replace h1 : iS l0 t1 out5 put6 i7 = some out1 := h1
  try dsimp only at hT
  refine aY hT ?_
  clear hT
  unfold iS at h1
  refine aN ?_
  refine aT aD 4 [] [(12, (aE (decide (i7 < (lN l0)))))] ?_
  refine bH h1 (fun h1 => ?_) (fun h1 => ?_)
  · refine bI ?_
    refine bG [(0, (eL (eI) l0)), (1, (eI t1)), (5, (.msl 1 lo8 0 (List.length out5))), (6, (aE put6)), (7, (eI i7))] ?_
    refine aN ?_
    refine bY 1 ?_
    refine aN ?_
    refine aN ?_
    refine aU aD 6 ?_
    obtain ⟨c10, h1⟩ := aV h1
    refine mU [0 ≤ i7 ∧ i7 < (lN l0)] ⟨c10, trivial⟩ ?_
    refine bP [] [(20, (aE (decide ((gD l0 i7) = t1))))] ?_
    refine bH h1 (fun h1 => ?_) (fun h1 => ?_)
    · refine aN ?_
      refine aU aD 2 ?_
      refine bA ?_
      refine iD [(4, (eL (eI) l0))] ?_
      replace hO := hO.pick (L' := []) [] (by decide) (by kernel_rfl)
      refine aG (aF (?_))
      refine bJ ?_
      obtain rfl := oI h1
      obtain rfl : _ = rr0 := ho0
      replace h0 : some l0 = some r := h0
      obtain rfl := oI h0
      exact aG (aP (bD (aP (aP (bD (aP (Q_r hO)))))))
    refine bI ?_
    refine bG [(0, (eL (eI) l0)), (1, (eI t1)), (5, (.msl 1 lo8 0 (List.length out5))), (6, (aE put6)), (7, (eI i7))] ?_
    refine dS (fun T H => ∃ out5 : List Int, ∃ put6 : Bool, ∃ lo12 : Nat, Has T [(0, (eL (eI) l0)), (1, (eI t1)), (5, (.msl 1 lo12 0 (List.length out5))), (6, (aE put6)), (7, (eI i7))] ∧ aJ ⟨H0, [], []⟩ H [(lo12, 1, List.map (eI) out5)] ∧ qH l0 t1 out5 put6 i7 = some out1) ?_ ?_
    · clear hO h1
      rintro T H ⟨out5, put6, lo12, hT, hO, h1⟩
      refine aY hT ?_
      clear hT
      unfold qH at h1
      refine aU aD 8 ?_
      obtain ⟨c13, h1⟩ := aV h1
      refine pN 5 [0 ≤ i7 ∧ i7 < (lN l0)] ⟨c13, trivial⟩ ?_
      refine lV (xs := [(eI (gD l0 i7))]) (k := 1) (by kernel_rfl) (by kernel_rfl) ?_
      obtain ⟨c15, h1⟩ := aV h1
      refine qU (e := (eI)) out5 ([gD l0 i7]) 0 lo12 1 8 (iC [(eI (gD l0 i7))]) (fun lo14 => [(lo14, 1, List.map (eI) (out5 ++ ([gD l0 i7])))]) (by kernel_rfl) (by kernel_rfl) hO (by kernel_rfl) (by kernel_rfl) c15 (fun _ => by kernel_rfl) ?_
      intro lo14 H hO
      refine bA ?_
      refine iD [(0, (eL (eI) l0)), (1, (eI t1)), (5, (.msl 1 lo14 0 (List.length (out5 ++ ([gD l0 i7]))))), (6, (aE put6)), (7, (eI i7))] ?_
      refine aG (aW (aF (?_)))
      refine aU aD 3 ?_
      refine bA ?_
      exact aG (aF (⟨rfl, _, (oI h1).symm, _, .eq (by kernel_rfl), hO⟩))
    refine aN ?_
    refine aU aD 10 ?_
    obtain ⟨c16, h1⟩ := aV h1
    refine mU [0 ≤ i7 ∧ i7 < (lN l0)] ⟨c16, trivial⟩ ?_
    refine bP [] [(31, (aE ((decide (t1 < (gD l0 i7))) && (!put6))))] ?_
    refine bH h1 (fun h1 => ?_) (fun h1 => ?_)
    · refine aN ?_
      refine aU aD 5 ?_
      refine bS 2 ?_
      refine lV (xs := [(eI t1)]) (k := 1) (by kernel_rfl) (by kernel_rfl) ?_
      obtain ⟨c19, h1⟩ := aV h1
      refine qU (e := (eI)) out5 ([t1]) 0 lo8 1 8 (iC [(eI t1)]) (fun lo18 => [(lo18, 1, List.map (eI) (out5 ++ ([t1])))]) (by kernel_rfl) (by kernel_rfl) hO (by kernel_rfl) (by kernel_rfl) c19 (fun _ => by kernel_rfl) ?_
      intro lo18 H hO
      refine bA ?_
      refine bP [5, 6, 31] [(5, (.msl 1 lo18 0 (List.length (out5 ++ ([t1])))))] ?_
      refine aU aD 1 ?_
      refine bA ?_
      exact aG (aF (⟨rfl, _, _, _, .eq (by kernel_rfl), hO, h1⟩))
    refine bI ?_
    exact aG (aF (⟨rfl, _, _, _, .eq (by kernel_rfl), hO, h1⟩))
  refine fA 0 ?_
  obtain rfl := oI h1
  obtain rfl : _ = rr0 := ho0
  replace h0 : nT t1 out5 put6 = some r := h0
  exact aG (aS (aS (bN (aF (⟨rfl, _, _, _, .eq (by kernel_rfl), hO, h0⟩)))))

theorem MP (l0 : (List aL)) (cC : Int) (r : ((List Int) × Int)) (h0 : rS l0 cC = some r) : dN Try.prog 13 [(eL aM l0), (eI cC)] (.tup [(eL (eI) r.1), (eI r.2)]) := by
  intro H0
  refine dG Try.func13 ?_
  have hO := aJ.start H0
  unfold rS at h0
  refine aT aD 2 [] [] ?_
  refine aN ?_
  refine aN ?_
  refine aU aD 3 ?_
  refine bS 1 ?_
  obtain ⟨x1, hx2, h0⟩ := aX h0
  refine dW (DP l0 _ hx2) hO ?_
  intro H hO
  refine bA ?_
  refine bP [] [(10, (aE (!x1)))] ?_
  refine bH h0 (fun h0 => ?_) (fun h0 => ?_)
  · refine bO aD 2 [(4, (.sl true 0 (fun _ => .bad))), (5, (eI (2 : Int)))] ?_
    refine bJ ?_
    refine cV (l := [(4, (eL (eI) ([]))), (5, (eI (2 : Int)))]) ⟨[(4, (.sl true 0 (fun _ => .bad))), (5, (eI (2 : Int)))], by kernel_rfl, rfl, ⟨lT, aO.refl _, trivial⟩⟩ ?_
    obtain rfl := oI h0
    exact aG (aP (Q_r hO))
  refine bI ?_
  refine bG [(0, (eL aM l0)), (1, (eI cC))] ?_
  refine aN ?_
  refine aN ?_
  refine aU aD 3 ?_
  refine bS 1 ?_
  obtain ⟨x5, hx6, h0⟩ := aX h0
  refine dW (JP l0 _ hx6) hO ?_
  intro H hO
  refine bA ?_
  refine bP [] [(13, (aE (!x5)))] ?_
  refine bH h0 (fun h0 => ?_) (fun h0 => ?_)
  · refine bO aD 2 [(4, (.sl true 0 (fun _ => .bad))), (5, (eI (20 : Int)))] ?_
    refine bJ ?_
    refine cV (l := [(4, (eL (eI) ([]))), (5, (eI (20 : Int)))]) ⟨[(4, (.sl true 0 (fun _ => .bad))), (5, (eI (20 : Int)))], by kernel_rfl, rfl, ⟨lT, aO.refl _, trivial⟩⟩ ?_
    obtain rfl := oI h0
    exact aG (aP (Q_r hO))
  refine bI ?_
  refine bG [(0, (eL aM l0)), (1, (eI cC))] ?_
  refine aN ?_
  refine aN ?_
  refine aU aD 3 ?_
  refine bS 1 ?_
  obtain ⟨x9, hx10, h0⟩ := aX h0
  refine dW (LA cC _ hx10) hO ?_
  intro H hO
  refine bA ?_
  refine bP [] [(16, (aE (!x9)))] ?_
  refine bH h0 (fun h0 => ?_) (fun h0 => ?_)
  · refine bO aD 2 [(4, (.sl true 0 (fun _ => .bad))), (5, (eI (13 : Int)))] ?_
    refine bJ ?_
    refine cV (l := [(4, (eL (eI) ([]))), (5, (eI (13 : Int)))]) ⟨[(4, (.sl true 0 (fun _ => .bad))), (5, (eI (13 : Int)))], by kernel_rfl, rfl, ⟨lT, aO.refl _, trivial⟩⟩ ?_
    obtain rfl := oI h0
    exact aG (aP (Q_r hO))
  refine bI ?_
  refine bG [(0, (eL aM l0)), (1, (eI cC))] ?_
  refine aN ?_
  refine aT aD 2 [] [(18, (aE (decide (cC = (1125899906842624 : Int)))))] ?_
  refine bH h0 (fun h0 => ?_) (fun h0 => ?_)
  · refine bO aD 2 [(4, (.sl true 0 (fun _ => .bad))), (5, (eI (0 : Int)))] ?_
    refine bJ ?_
    refine cV (l := [(4, (eL (eI) ([]))), (5, (eI (0 : Int)))]) ⟨[(4, (.sl true 0 (fun _ => .bad))), (5, (eI (0 : Int)))], by kernel_rfl, rfl, ⟨lT, aO.refl _, trivial⟩⟩ ?_
    obtain rfl := oI h0
    exact aG (aP (Q_r hO))
  refine bI ?_
  refine bG [(0, (eL aM l0)), (1, (eI cC))] ?_
  refine aN ?_
  refine aU aD 3 ?_
  refine bS 1 ?_
  refine lV (xs := [(eI cC)]) (k := 1) (by kernel_rfl) (by kernel_rfl) ?_
  refine bA ?_
  refine cV (l := [(0, (eL aM l0)), (1, (eI cC)), (6, (eL (eI) ([cC])))]) ⟨[(0, (eL aM l0)), (1, (eI cC)), (6, (iC [(eI cC)]))], by kernel_rfl, rfl, ⟨aO.refl _, aO.refl _, CI (l := [cC]), trivial⟩⟩ ?_
  refine aG (aF (?_))
  refine dS (fun T H => ∃ out6 : (List Int), Has T [(6, (eL (eI) out6))] ∧ aJ ⟨H0, [], []⟩ H [] ∧ tR out6 = some r) ?_ ?_
  · clear hO h0
    rintro T H ⟨out6, hT, hO, h0⟩
    refine aY hT ?_
    clear hT
    unfold tR at h0
    refine bO aD 3 [(4, (eL (eI) out6)), (5, (eI (0 : Int)))] ?_
    refine bJ ?_
    obtain rfl := oI h0
    exact aG (Q_r hO)
  refine aT aD 1 [] [(7, (eI (0 : Int)))] ?_
  refine bY 0 ?_
  refine eU [(0, (eL aM l0)), (1, (eI cC)), (6, (eL (eI) ([cC]))), (7, (eI (0 : Int)))] ?_
  refine dU (fun T H => ∃ out6 : (List Int), ∃ i7 : Int, Has T [(0, (eL aM l0)), (1, (eI cC)), (6, (eL (eI) out6)), (7, (eI i7))] ∧ aJ ⟨H0, [], []⟩ H [] ∧ tV l0 cC out6 i7 = some r) ?_ ⟨[cC], (0 : Int), .eq (by kernel_rfl), hO, h0⟩
  clear hO h0
  rintro T H ⟨out6, i7, hT, hO, h0⟩
  refine aY hT ?_
  clear hT
  unfold tV at h0
  obtain ⟨rr0, hl0, h0⟩ := aX h0
  refine cS (by kernel_rfl) (fun (s : (List Int) × Int) T H => Has T [(0, (eL aM l0)), (1, (eI cC)), (6, (eL (eI) s.1)), (7, (eI s.2))] ∧ aJ ⟨H0, [], []⟩ H []) hl0 ⟨.eq (by kernel_rfl), hO⟩ ?_
  clear hO
  rintro k0 s out1 T H ⟨hT, hO⟩ h1 ho0
  obtain ⟨out6, i7⟩ := s
  replace h1 : lF l0 cC out6 i7 = some out1 := h1
  try dsimp only at hT
  refine aY hT ?_
  clear hT
  unfold lF at h1
  refine aN ?_
  refine aT aD 4 [] [(24, (aE (decide (i7 < (lN l0)))))] ?_
  refine bH h1 (fun h1 => ?_) (fun h1 => ?_)
  · refine bI ?_
    refine bG [(0, (eL aM l0)), (1, (eI cC)), (6, (eL (eI) out6)), (7, (eI i7))] ?_
    refine dS (fun T H => ∃ out6 : (List Int), Has T [(0, (eL aM l0)), (1, (eI cC)), (6, (eL (eI) out6)), (7, (eI i7))] ∧ aJ ⟨H0, [], []⟩ H [] ∧ nU l0 cC out6 i7 = some out1) ?_ ?_
    · clear hO h1
      rintro T H ⟨out6, hT, hO, h1⟩
      refine aY hT ?_
      clear hT
      unfold nU at h1
      refine aU aD 3 ?_
      refine bA ?_
      exact aG (aF (⟨rfl, _, (oI h1).symm, .eq (by kernel_rfl), hO⟩))
    refine bY 1 ?_
    refine aN ?_
    refine aU aD 7 ?_
    obtain ⟨c15, h1⟩ := aV h1
    refine mU [0 ≤ i7 ∧ i7 < (lN l0)] ⟨c15, trivial⟩ ?_
    refine bP [] [(33, (aE (decide (cC < ((gD l0 i7).At)))))] ?_
    refine bH h1 (fun h1 => ?_) (fun h1 => ?_)
    · refine aU aD 8 ?_
      obtain ⟨c17, h1⟩ := aV h1
      refine pN 6 [0 ≤ i7 ∧ i7 < (lN l0)] ⟨c17, trivial⟩ ?_
      obtain ⟨x18, hx19, h1⟩ := aX h1
      refine dW (MX out6 ((gD l0 i7).At) _ hx19) hO ?_
      intro H hO
      refine bA ?_
      exact aG (aW (aF (⟨rfl, _, .eq (by kernel_rfl), hO, h1⟩)))
    refine bI ?_
    exact aG (aW (aF (⟨rfl, _, .eq (by kernel_rfl), hO, h1⟩)))
  refine fA 0 ?_
  obtain rfl := oI h1
  obtain rfl : _ = rr0 := ho0
  replace h0 : tR out6 = some r := h0
  exact aG (aS (aS (bN (aF (⟨rfl, _, .eq (by kernel_rfl), hO, h0⟩)))))

theorem ET (l0 : (List aL)) (cC : Int) (r : Bool) (h0 : pX l0 cC = some r) : dN Try.prog 3 [(eL aM l0), (eI cC)] (aE r) := by
  intro H0
  refine dG Try.func3 ?_
  have hO := aJ.start H0
  unfold pX at h0
  refine aT aD 1 [] [] ?_
  refine aN ?_
  refine aN ?_
  refine aU aD 3 ?_
  refine bS 1 ?_
  obtain ⟨x1, hx2, h0⟩ := aX h0
  refine dW (NX l0 _ hx2) hO ?_
  intro H hO
  refine bA ?_
  refine bP [] [(12, (aE (!x1)))] ?_
  refine bH h0 (fun h0 => ?_) (fun h0 => ?_)
  · refine aN ?_
    refine aU aD 2 ?_
    obtain ⟨x5, hx6, h0⟩ := aX h0
    refine dW (BQ  _ hx6) hO ?_
    intro H hO
    refine bA ?_
    refine bG [(4, (aE x5))] ?_
    refine bJ ?_
    obtain rfl := oI h0
    exact aG (aP (Q_r hO))
  refine bI ?_
  refine bG [(0, (eL aM l0)), (1, (eI cC))] ?_
  refine aN ?_
  refine aU aD 8 ?_
  refine bS 2 ?_
  obtain ⟨x8, hx9, h0⟩ := aX h0
  refine dW (zL l0 cC _ hx9) hO ?_
  intro H hO
  refine bA ?_
  refine bP [] [(5, (eL (eI) x8.1)), (6, (eI x8.2))] ?_
  refine aN ?_
  refine aU aD 8 ?_
  refine bS 2 ?_
  obtain ⟨x11, hx12, h0⟩ := aX h0
  refine dW (MP l0 cC _ hx12) hO ?_
  intro H hO
  refine bA ?_
  refine bP [0, 1] [(7, (eL (eI) x11.1)), (8, (eI x11.2))] ?_
  refine aN ?_
  refine aT aD 10 [6, 8] [(35, (aE ((!decide (x8.2 = x11.2)) || (!decide ((lN x8.1) = (lN x11.1))))))] ?_
  refine bH h0 (fun h0 => ?_) (fun h0 => ?_)
  · refine bO aD 1 [(4, (aE false))] ?_
    refine bJ ?_
    obtain rfl := oI h0
    exact aG (aP (Q_r hO))
  refine bI ?_
  refine bG [(5, (eL (eI) x8.1)), (7, (eL (eI) x11.1))] ?_
  refine dS (fun T H => Has T [] ∧ aJ ⟨H0, [], []⟩ H [] ∧ mO  = some r) ?_ ?_
  · clear hO h0
    rintro T H ⟨hT, hO, h0⟩
    refine aY hT ?_
    clear hT
    unfold mO at h0
    refine aN ?_
    refine aU aD 2 ?_
    obtain ⟨x15, hx16, h0⟩ := aX h0
    refine dW (BQ  _ hx16) hO ?_
    intro H hO
    refine bA ?_
    refine bG [(4, (aE x15))] ?_
    refine bJ ?_
    obtain rfl := oI h0
    exact aG (Q_r hO)
  refine aT aD 1 [] [(9, (eI (0 : Int)))] ?_
  refine bY 0 ?_
  refine eU [(5, (eL (eI) x8.1)), (7, (eL (eI) x11.1)), (9, (eI (0 : Int)))] ?_
  refine dU (fun T H => ∃ a5 : (List Int), ∃ b7 : (List Int), ∃ i9 : Int, Has T [(5, (eL (eI) a5)), (7, (eL (eI) b7)), (9, (eI i9))] ∧ aJ ⟨H0, [], []⟩ H [] ∧ oK a5 b7 i9 = some r) ?_ ⟨x8.1, x11.1, (0 : Int), .eq (by kernel_rfl), hO, h0⟩
  clear hO h0
  rintro T H ⟨a5, b7, i9, hT, hO, h0⟩
  refine aY hT ?_
  clear hT
  unfold oK at h0
  obtain ⟨rr0, hl0, h0⟩ := aX h0
  refine cS (by kernel_rfl) (fun (s : Int) T H => Has T [(5, (eL (eI) a5)), (7, (eL (eI) b7)), (9, (eI s))] ∧ aJ ⟨H0, [], []⟩ H []) hl0 ⟨.eq (by kernel_rfl), hO⟩ ?_
  clear hO
  rintro k0 s out1 T H ⟨hT, hO⟩ h1 ho0
  obtain ⟨i9, rfl⟩ : ∃ x, x = s := ⟨_, rfl⟩
  replace h1 : lC a5 b7 i9 = some out1 := h1
  refine aY hT ?_
  clear hT
  unfold lC at h1
  refine aN ?_
  refine aT aD 4 [] [(39, (aE (decide (i9 < (lN a5)))))] ?_
  refine bH h1 (fun h1 => ?_) (fun h1 => ?_)
  · refine bI ?_
    refine bG [(5, (eL (eI) a5)), (7, (eL (eI) b7)), (9, (eI i9))] ?_
    refine aN ?_
    refine bY 1 ?_
    refine aN ?_
    refine fF (fG [45, 49]) aD 9 ?_
    obtain ⟨c19, h1⟩ := aV h1
    obtain ⟨c20, h1⟩ := aV h1
    refine xC (Ds := [0 ≤ i9 ∧ i9 < (lN a5), 0 ≤ i9 ∧ i9 < (lN b7)]) (by kernel_rfl) ⟨c19, c20, trivial⟩ ?_
    refine bP [] [(50, (aE (!decide ((gD a5 i9) = (gD b7 i9)))))] ?_
    refine bH h1 (fun h1 => ?_) (fun h1 => ?_)
    · refine bO aD 1 [(4, (aE false))] ?_
      refine bJ ?_
      obtain rfl := oI h1
      obtain rfl : _ = rr0 := ho0
      replace h0 : some false = some r := h0
      obtain rfl := oI h0
      exact aG (bD (aP (aP (bD (aP (Q_r hO))))))
    refine bI ?_
    refine iD [(5, (eL (eI) a5)), (7, (eL (eI) b7)), (9, (eI i9))] ?_
    refine aG (aW (aF (?_)))
    refine aU aD 3 ?_
    refine bA ?_
    exact aG (aF (⟨rfl, _, (oI h1).symm, .eq (by kernel_rfl), hO⟩))
  refine fA 0 ?_
  obtain rfl := oI h1
  obtain rfl : _ = rr0 := ho0
  replace h0 : mO  = some r := h0
  exact aG (aS (aS (bN (aF (⟨rfl, .eq (by kernel_rfl), hO, h0⟩)))))

end Go.Abs
namespace Go.Abs
open Go Go.RowKit Go.Proofs
theorem CP {H : Type} {enc : TypeId × Value → H} {w : World} : vE enc Try.prog w 53 aC xY :=
  CK Try.underlying53 (by kernel_rfl) (qS (c' := DU) (ok' := xY) (fun (a : Int) (b : Int × ByteArray × Unit) => (aB.mk a b.1 b.2.1 : aB)) (by kernel_rfl) (yY Try.underlying51) (qS (c' := fun (b : Int × ByteArray × Unit) => (V.cells (cQ .i64 b.1) ++ (V.cells (vU b.2.1) ++ []))) (ok' := fun b => (wT b.1 ∧ ((fun s => s.size ≤ maxLen) b.2.1 ∧ True))) (fun a b => (a, b)) (by kernel_rfl) (yY Try.underlying3) (qS (c' := fun (b : ByteArray × Unit) => (V.cells (vU b.1) ++ [])) (ok' := fun b => ((fun s => s.size ≤ maxLen) b.1 ∧ True)) (fun a b => (a, b)) (by kernel_rfl) (MM Try.underlying9) (FJ ()) (fun _ _ => rfl) (fun _ _ h1 h2 => ⟨h1, h2⟩)) (fun _ _ => rfl) (fun _ _ h1 h2 => ⟨h1, h2⟩)) (fun _ _ => rfl) (fun _ _ h1 h2 => ⟨h1, h2⟩))

theorem DK {H : Type} {enc : TypeId × Value → H} {w : World} : vE enc Try.prog w 57 aM tE :=
  CK Try.underlying57 (by kernel_rfl) (qS (c' := GP) (ok' := tE) (fun (a : (List aB)) (b : Int × Int × Unit) => (aL.mk a b.1 b.2.1 : aL)) (by kernel_rfl) (OB Try.underlying55 (by decide +kernel) (fun _ => by kernel_rfl) (fun _ => rfl) CP (by kernel_rfl)) (qS (c' := fun (b : Int × Int × Unit) => (V.cells (cQ .i64 b.1) ++ (V.cells (cQ .i64 b.2.1) ++ []))) (ok' := fun b => (wT b.1 ∧ (wT b.2.1 ∧ True))) (fun a b => (a, b)) (by kernel_rfl) (yY Try.underlying3) (qS (c' := fun (b : Int × Unit) => (V.cells (cQ .i64 b.1) ++ [])) (ok' := fun b => (wT b.1 ∧ True)) (fun a b => (a, b)) (by kernel_rfl) (yY Try.underlying3) (FJ ()) (fun _ _ => rfl) (fun _ _ h1 h2 => ⟨h1, h2⟩)) (fun _ _ => rfl) (fun _ _ h1 h2 => ⟨h1, h2⟩)) (fun _ _ => rfl) (fun _ _ h1 h2 => ⟨h1, h2⟩))

end Go.Abs
namespace Go.Abs
open Go
theorem gM {n : Int} (h1 : -9223372036854775808 ≤ n) (h2 : n ≤ 9223372036854775807) : IntKind.i64.wrap n = n := by
  simp only [IntKind.wrap, IntKind.bits, IntKind.signed]
  simp
  split <;> omega

def rE {α st R : Type} (step : st → α → Option (st ⊕ R)) (fin : st → R) : st → List α → Option R
  | s, [] => some (fin s)
  | s, a :: r => match step s a with
    | some (.inl s') => rE step fin s' r
    | some (.inr x) => some x
    | none => none

theorem FG {α st R : Type} {step : st → α → Option (st ⊕ R)} {fin : st → R} {s s' : st} {a : α} {r : List α} (h : step s a = some (.inl s')) : rE step fin s (a :: r) = rE step fin s' r := by
  simp only [rE, h]

theorem GQ {α st R : Type} {step : st → α → Option (st ⊕ R)} {fin : st → R} {s : st} {x : R} {a : α} {r : List α} (h : step s a = some (.inr x)) : rE step fin s (a :: r) = some x := by
  simp only [rE, h]

theorem PA {α S st R : Type} {body : S → Option (S ⊕ R)} {l : List α} (mk : st → Int → S) (step : st → α → Option (st ⊕ R)) (fin : st → R)
    (hn : ∀ (i : Nat) a s, l[i]? = some a → (∀ s', step s a = some (.inl s') → body (mk s i) = some (.inl (mk s' ((i + 1 : Nat) : Int)))) ∧ (∀ x, step s a = some (.inr x) → body (mk s i) = some (.inr x)))
    (he : ∀ s, body (mk s (l.length : Nat)) = some (.inr (fin s))) : ∀ (m k : Nat) (s : st) (r : R), l.length - k = m → k ≤ l.length → rE step fin s (l.drop k) = some r → lp body (mk s k) = some r
  | 0, k, s, r, hm, hk, h => by
    have : k = l.length := by omega
    subst this
    rw [List.drop_length] at h
    simp only [rE, Option.some.injEq] at h
    subst h
    exact cN (he s)
  | m + 1, k, s, r, hm, hk, h => by
    have hlt : k < l.length := by omega
    have hd : l.drop k = l[k] :: l.drop (k + 1) := List.drop_eq_getElem_cons hlt
    rw [hd] at h
    simp only [rE] at h
    obtain ⟨h1, h2⟩ := hn k l[k] s (List.getElem?_eq_getElem hlt)
    split at h
    · rename_i s' hs
      rw [fE (h1 s' hs)]
      exact PA mk step fin hn he m (k + 1) s' r (by omega) (by omega) h
    · rename_i x hs
      simp at h; subst h
      exact cN (h2 x hs)
    · cases h

theorem LX {α S st R : Type} {body : S → Option (S ⊕ R)} {l : List α} (mk : st → Int → S) (step : st → α → Option (st ⊕ R)) (fin : st → R)
    (hn : ∀ (i : Nat) a s, l[i]? = some a → (∀ s', step s a = some (.inl s') → body (mk s i) = some (.inl (mk s' ((i + 1 : Nat) : Int)))) ∧ (∀ x, step s a = some (.inr x) → body (mk s i) = some (.inr x)))
    (he : ∀ s, body (mk s (l.length : Nat)) = some (.inr (fin s))) {s : st} {r : R} (h : rE step fin s l = some r) : lp body (mk s 0) = some r :=
  PA mk step fin hn he _ 0 s r rfl (Nat.zero_le _) (by simpa using h)

theorem idx {α : Type} [Inhabited α] {l : List α} {i : Nat} {a : α} (h : l[i]? = some a) (hl : l.length < 4611686018427387904) :
    decide ((i : Int) < ((l.length : Nat) : Int)) = true ∧ (0 ≤ (i : Int) ∧ (i : Int) < ((l.length : Nat) : Int)) ∧ l.getD (Int.toNat (i : Int)) default = a ∧ IntKind.i64.wrap ((i : Int) + 1) = ((i + 1 : Nat) : Int) := by
  have hlt : i < l.length := (List.getElem?_eq_some_iff.1 h).1
  refine ⟨by simpa using hlt, ⟨by omega, by omega⟩, ?_, ?_⟩
  · rw [Int.toNat_natCast, List.getD_eq_getElem?_getD, h]; rfl
  · rw [gM (by omega) (by omega)]; omega

theorem iJ {n : Nat} : decide (((n : Nat) : Int) < ((n : Nat) : Int)) = false := by simp

theorem aAx {α : Type} {j : α} {r : List α} : (0 : Int) ≤ 0 ∧ (0 : Int) < ((List.length (j :: r) : Nat) : Int) := ⟨by omega, by simp⟩

theorem ZB {α : Type} [Inhabited α] {j : α} {r : List α} : List.getD (j :: r) (Int.toNat (0 : Int)) default = j := rfl

end Go.Abs
namespace Go.Abs
open Go
theorem drop_cons {α : Type} {l r : List α} {a : α} {k : Nat} (h : l.drop k = a :: r) : l[k]? = some a ∧ l.drop (k + 1) = r := by
  have hk : k < l.length := by
    apply Classical.byContradiction; intro hn
    rw [List.drop_eq_nil_of_le (by omega)] at h; cases h
  rw [List.drop_eq_getElem_cons hk] at h
  obtain ⟨h1, h2⟩ := List.cons.inj h
  exact ⟨by rw [List.getElem?_eq_getElem hk, h1], h2⟩

theorem TZ {α S st R : Type} {body : S → Option (S ⊕ R)} {l : List α} (mk : st → Int → S) (G : st → List α → R) (Inv : st → List α → Prop)
    (hn : ∀ (i : Nat) a r s, l[i]? = some a → Inv s (a :: r) → (∃ s', body (mk s i) = some (.inl (mk s' ((i + 1 : Nat) : Int))) ∧ Inv s' r ∧ G s' r = G s (a :: r)) ∨ body (mk s i) = some (.inr (G s (a :: r))))
    (he : ∀ s, Inv s [] → body (mk s (l.length : Nat)) = some (.inr (G s []))) : ∀ (r : List α) (k : Nat) (s : st), l.drop k = r → k ≤ l.length → Inv s r → lp body (mk s k) = some (G s r)
  | [], k, s, hd, hk, hi => by
    have : k = l.length := by
      have := congrArg List.length hd
      simp only [List.length_drop, List.length_nil] at this; omega
    subst this
    exact cN (he s hi)
  | a :: r, k, s, hd, hk, hi => by
    obtain ⟨h1, h2⟩ := drop_cons hd
    have hlt : k < l.length := (List.getElem?_eq_some_iff.1 h1).1
    rcases hn k a r s h1 hi with ⟨s', hb, hi', hg⟩ | hb
    · rw [fE hb, TZ mk G Inv hn he r (k + 1) s' h2 (by omega) hi', hg]
    · exact cN hb

theorem qR {α S st R : Type} {body : S → Option (S ⊕ R)} {l : List α} (mk : st → Int → S) (G : st → List α → R) (Inv : st → List α → Prop) (s : st)
    (hn : ∀ (i : Nat) a r s, l[i]? = some a → Inv s (a :: r) → (∃ s', body (mk s i) = some (.inl (mk s' ((i + 1 : Nat) : Int))) ∧ Inv s' r ∧ G s' r = G s (a :: r)) ∨ body (mk s i) = some (.inr (G s (a :: r))))
    (he : ∀ s, Inv s [] → body (mk s (l.length : Nat)) = some (.inr (G s []))) (hi : Inv s l) : lp body (mk s 0) = some (G s l) :=
  TZ mk G Inv hn he l 0 s rfl (Nat.zero_le _) hi

theorem CN {α S R : Type} {body : S → Option (S ⊕ R)} {l : List α} (mk : Int → S) (bad : α → Bool) (x y : R)
    (hn : ∀ (i : Nat) a, l[i]? = some a → body (mk i) = some (if bad a then .inr x else .inl (mk ((i + 1 : Nat) : Int))))
    (he : body (mk (l.length : Nat)) = some (.inr y)) : lp body (mk 0) = some (if l.any bad then x else y) := by
  refine qR (st := Unit) (fun _ i => mk i) (fun _ r => if r.any bad then x else y) (fun _ _ => True) () ?_ ?_ trivial
  · intro i a r s ha _
    have hb := hn i a ha
    cases h : bad a
    · left; refine ⟨(), ?_, trivial, ?_⟩
      · simpa [h] using hb
      · simp [List.any_cons, h]
    · right; simpa [h, List.any_cons] using hb
  · intro _ _; simpa using he

end Go.Abs
namespace Go.Abs
open Go
variable {α : Type} [Inhabited α]
structure Cmp {β : Type} (ok : β → Prop) (le : β → β → Prop) (cmp : β → β → Option Int) : Prop where
  ans : ∀ x y, ok x → ok y → ∃ v, cmp x y = some v ∧ (v < 0 ↔ ¬ le y x)
  trans : ∀ x y z, ok x → ok y → ok z → le x y → le y z → le x z
  total : ∀ x y, ok x → ok y → le x y ∨ le y x

abbrev Srt {β : Type} (le : β → β → Prop) (l : List β) : Prop := l.Pairwise le

abbrev Oks {β : Type} (ok : β → Prop) (l : List β) : Prop := ∀ x ∈ l, ok x

section ins
variable {ok : α → Prop} {le : α → α → Prop} {cmp : α → α → Option Int}
end ins
end Go.Abs
namespace Go.Abs
open Go
variable {α : Type} [Inhabited α]
section sym
variable {ok : α → Prop} {le : α → α → Prop} {cmp : α → α → Option Int}
theorem Cmp.refl {β : Type} {ok : β → Prop} {le : β → β → Prop} {cmp : β → β → Option Int} (C : Cmp ok le cmp) {x : β} (h : ok x) : le x x := by rcases C.total x x h h with h | h <;> exact h

end sym
end Go.Abs
namespace Go.Abs
open Go
variable {α : Type} [Inhabited α] {ok : α → Prop} {le : α → α → Prop} {cmp : α → α → Option Int}
inductive HW {β : Type} (le : β → β → Prop) (n : Nat) : List β → Prop
  | last {l : List β} : l.length ≤ n → Srt le l → HW le n l
  | cons {x l : List β} : x.length = n → Srt le x → HW le n l → HW le n (x ++ l)

theorem HW.split {β : Type} {le : β → β → Prop} {n : Nat} {l : List β} (h : HW le n l) (hl : n < l.length) : ∃ x r, l = x ++ r ∧ x.length = n ∧ Srt le x ∧ HW le n r := by
  cases h with
  | last h' _ => omega
  | cons hx hs hr => exact ⟨_, _, rfl, hx, hs, hr⟩

theorem Oks.perm {β : Type} {ok : β → Prop} {l l' : List β} (h : Oks ok l) (hp : l'.Perm l) : Oks ok l' := fun x hx => h x (hp.mem_iff.1 hx)

end Go.Abs
namespace Go.Abs
open Go
structure aAv where
  Row : (List aB)
  Span : jK
  deriving Inhabited, DecidableEq

structure aAw where
  Kind : Int
  Input : Int
  Edges : (List aL)
  At : Int
  deriving Inhabited, DecidableEq

end Go.Abs
namespace Go.Abs
open Go
def CZ (n : Int) : Bool := decide (n ≤ 1048576) && decide (-1048576 ≤ n)

theorem YS (n : Int) : wC n = some (CZ n) := rfl

def nE (last : Int) (j : aI) : Bool := decide (j.At ≤ last) || decide (1125899906842624 ≤ j.At) || decide (j.Net = 0) || !CZ j.Net

def chk (last : Int) : List aI → Bool
  | [] => true
  | j :: r => !nE last j && chk j.At r

def kB (f : List aI) : Bool := decide (f.length ≤ 1024) && chk (-2) f

theorem LS {f : List aI} {i : Nat} {a : aI} {last : Int} (ha : f[i]? = some a) (hl : f.length < 4611686018427387904) :
    kX f (f.length : Nat) last i = some (if nE last a then .inr (.inr false) else .inl (a.At, ((i + 1 : Nat) : Int))) := by
  obtain ⟨d1, d2, d3, d4⟩ := idx ha hl
  simp only [kX, d1, cond_true, aK d2, d3, d4, YS]
  unfold nE
  cases h : (decide (a.At ≤ last) || decide (1125899906842624 ≤ a.At) || decide (a.Net = 0)) <;> cases h2 : CZ a.Net <;> simp [dF]

theorem KI : ∀ (f : List aI) (last : Int), rE (fun last (j : aI) => some (if nE last j then .inr (.inr false) else .inl j.At)) (fun _ => (.inl () : Unit ⊕ Bool)) last f = some (if chk last f then .inl () else .inr false)
  | [], last => by simp [rE, chk]
  | j :: r, last => by
    cases h : nE last j
    · rw [FG (s' := j.At) (by simp [h])]
      rw [KI r j.At]
      simp [chk, h]
    · rw [GQ (x := .inr false) (by simp [h])]
      simp [chk, h]

theorem GH (f : List aI) : mY f = some (kB f) := by
  unfold mY kB
  by_cases hl : f.length ≤ 1024
  · have h1 : decide ((1024 : Int) < ((f.length : Nat) : Int)) = false := by simp; omega
    rw [h1, cond_false]
    unfold wB
    have key := LX (l := f) (body := fun s : Int × Int => kX f (f.length : Nat) s.1 s.2) (fun last i => (last, i)) _ _
      (fun i a s ha => by
        constructor
        · intro s' hs
          show kX f (f.length : Nat) s i = _
          rw [LS ha (by omega)]
          split at hs <;> simp_all
        · intro x hs
          show kX f (f.length : Nat) s i = _
          rw [LS ha (by omega)]
          split at hs <;> simp_all)
      (fun s => by show kX f (f.length : Nat) s (f.length : Nat) = _; simp only [kX, iJ, cond_false]) (KI f (-2))
    rw [key]
    cases h : chk (-2) f <;> simp [tF, hl]
  · have h1 : decide ((1024 : Int) < ((f.length : Nat) : Int)) = true := by simp; omega
    rw [h1, cond_true]
    simp [hl]

theorem kO {last : Int} {j : aI} : nE last j = false ↔ last < j.At ∧ j.At < 1125899906842624 ∧ j.Net ≠ 0 ∧ j.Net ≤ 1048576 ∧ -1048576 ≤ j.Net := by
  simp [nE, CZ]
  omega

def rC (last : Int) : List aI → Prop
  | [] => True
  | j :: r => (last < j.At ∧ j.At < 1125899906842624 ∧ j.Net ≠ 0 ∧ j.Net ≤ 1048576 ∧ -1048576 ≤ j.Net) ∧ rC j.At r

theorem PG : ∀ {f : List aI} {last : Int}, chk last f = true ↔ rC last f
  | [], last => by simp [chk, rC]
  | j :: r, last => by simp [chk, rC, kO, PG]

theorem oZ {f : List aI} : kB f = true ↔ f.length ≤ 1024 ∧ rC (-2) f := by simp [kB, PG]

theorem rC.above : ∀ {f : List aI} {last : Int}, rC last f → ∀ j ∈ f, last < j.At ∧ j.At < 1125899906842624 ∧ j.Net ≠ 0 ∧ j.Net ≤ 1048576 ∧ -1048576 ≤ j.Net
  | [], _, _, j, hj => by simp at hj
  | a :: r, last, h, j, hj => by
    rcases List.mem_cons.1 hj with rfl | hj
    · exact h.1
    · have := h.2.above j hj
      have h1 := h.1.1
      exact ⟨by omega, this.2⟩

def val (f : List aI) (t : Int) : Int := (f.map fun j => if j.At ≤ t then j.Net else 0).sum

theorem OW (t : Int) : val [] t = 0 := rfl

theorem kF (j : aI) (r : List aI) (t : Int) : val (j :: r) t = (if j.At ≤ t then j.Net else 0) + val r t := by simp [val]

theorem yK {f : List aI} {t : Int} (h : ∀ j ∈ f, t < j.At) : val f t = 0 := by
  induction f with
  | nil => rfl
  | cons j r ih =>
    rw [kF, ih (fun k hk => h k (List.mem_cons_of_mem _ hk))]
    have := h j (List.mem_cons_self ..)
    rw [if_neg (by omega)]; rfl

theorem OF {f : List aI} {i : Nat} {a : aI} {t v : Int} (ha : f[i]? = some a) (hl : f.length < 4611686018427387904) :
    lY t f (f.length : Nat) v i = some (if t < a.At then .inr v else .inl (IntKind.i64.wrap (v + a.Net), ((i + 1 : Nat) : Int))) := by
  obtain ⟨d1, d2, d3, d4⟩ := idx ha hl
  simp only [lY, d1, cond_true, aK d2, d3, d4]
  by_cases h : t < a.At <;> simp [h]

theorem XJ {t : Int} (f : List aI) : ∀ (last v : Int), rC last f → v ≤ 1048576 * (2048 - f.length) → -(1048576 * (2048 - f.length)) ≤ v → f.length ≤ 1024 →
    rE (fun v (j : aI) => some (if t < j.At then .inr v else .inl (IntKind.i64.wrap (v + j.Net)))) (fun v => (v : Int)) v f = some (v + val f t) := by
  induction f with
  | nil => intro last v _ _ _ _; simp [rE, val]
  | cons j r ih =>
    intro last v h h1 h2 hl
    simp only [List.length_cons] at h1 h2 hl
    by_cases hj : t < j.At
    · rw [GQ (x := v) (by simp [hj])]
      rw [yK (fun k hk => by
        rcases List.mem_cons.1 hk with rfl | hk
        · exact hj
        · have := (h.2.above k hk).1; omega)]
      simp
    · have hj1 := h.1
      have hw : IntKind.i64.wrap (v + j.Net) = v + j.Net := gM (by omega) (by omega)
      rw [FG (s' := v + j.Net) (by simp [hj, hw])]
      rw [ih j.At (v + j.Net) h.2 (by omega) (by omega) (by omega), kF, if_pos (by omega)]
      congr 1
      omega

theorem WY (f : List aI) (t : Int) : wK f t = some (if kB f then val f t else 0) := by
  unfold wK
  rw [GH]
  simp only [Option.bind_some]
  cases h : kB f
  · simp
  · obtain ⟨hl, hr⟩ := oZ.1 h
    simp only [Bool.not_true, cond_false, if_true]
    unfold xB
    have key := LX (l := f) (body := fun s : Int × Int => lY t f (f.length : Nat) s.1 s.2) (fun v i => (v, i)) _ _
      (fun i a s ha => by
        constructor
        · intro s' hs
          show lY t f (f.length : Nat) s i = _
          rw [OF ha (by omega)]
          split at hs <;> simp_all
        · intro x hs
          show lY t f (f.length : Nat) s i = _
          rw [OF ha (by omega)]
          split at hs <;> simp_all)
      (fun s => by show lY t f (f.length : Nat) s (f.length : Nat) = _; simp only [lY, iJ, cond_false]) (XJ (t := t) f (-2) 0 hr (by omega) (by omega) hl)
    rw [key]
    simp [sV]

end Go.Abs
namespace Go.Abs
open Go
section both
variable {op : Int → Int → Option Int} {f g r : List aI} {out : List aI} {a b was t : Int} {j : aI}
end both
def emit (p v was : Int) : List aI := if v = was then [] else [⟨p, v - was⟩]

def WW (was : Int) : List (Int × Int) → List aI
  | [] => []
  | x :: r => emit x.1 x.2 was ++ WW x.2 r

def merge (f g : List aI) (a b : Int) : List (Int × Int × Int) :=
  match f, g with
  | [], [] => []
  | j :: f, [] => (j.At, a + j.Net, b) :: merge f [] (a + j.Net) b
  | [], k :: g => (k.At, a, b + k.Net) :: merge [] g a (b + k.Net)
  | j :: f, k :: g =>
    if j.At < k.At then (j.At, a + j.Net, b) :: merge f (k :: g) (a + j.Net) b
    else if k.At < j.At then (k.At, a, b + k.Net) :: merge (j :: f) g a (b + k.Net)
    else (j.At, a + j.Net, b + k.Net) :: merge f g (a + j.Net) (b + k.Net)

termination_by f.length + g.length
end Go.Abs
namespace Go.Abs
open Go
def comb (OP : Int → Int → Int) (f g : List aI) : List aI := WW 0 ((merge f g 0 0).map fun x => (x.1, OP x.2.1 x.2.2))

def told (f : List aI) : List aI × Int := if kB f then (f, 0) else ([], 7)

def two (OP : Int → Int → Int) (f g : List aI) : List aI × Int := if kB f && kB g then told (comb OP f g) else ([], 2)

end Go.Abs
namespace Go.Abs
open Go
theorem rC.xW {l t : Int} {f : List aI} (h : rC l f) (ht : t ≤ l) : val f t = 0 := yK fun j hj => by have := (h.above j hj).1; omega

end Go.Abs
namespace Go.Abs
open Go
def tI (f : List aI) : Nat → Int
  | 0 => -2
  | k + 1 => (f.getD k default).At

theorem NO {f : List aI} {i : Nat} {a : aI} {last : Int} (ha : f[i]? = some a) (hl : f.length ≤ 1024) (hlast : last = tI f i) (hp : -2 ≤ last) (hp' : 0 < i → -1 ≤ last) :
    kK f i = some (if nE last a then .inr (.inr false) else .inl ((i + 1 : Nat) : Int)) := by
  obtain ⟨d1, d2, d3, d4⟩ := idx ha (by omega)
  have hlt : i < f.length := (List.getElem?_eq_some_iff.1 ha).1
  simp only [kK, d1, cond_true, d3, d4]
  rw [aK d2, aK (fun _ => d2), aK (fun _ => d2), aK (fun _ => d2), aK (fun _ => d2), aK (fun _ => d2)]
  cases i with
  | zero =>
    rw [aK (fun h => by simp at h)]
    have hm2 : last = -2 := hlast
    subst hm2
    by_cases hb : nE (-2) a = true
    · rw [if_pos hb]
      have hx : (((((decide (a.At < -1)) || (decide (1125899906842624 ≤ a.At))) || (decide (a.Net = 0))) || (decide (1048576 < a.Net))) || (decide (a.Net < -1048576))) = true := by
        simp [nE, CZ] at hb ⊢; omega
      rw [hx, cond_true]
    · have hb' : nE (-2) a = false := by simpa using hb
      rw [if_neg hb]
      rw [kO] at hb'
      have hx : (((((decide (a.At < -1)) || (decide (1125899906842624 ≤ a.At))) || (decide (a.Net = 0))) || (decide (1048576 < a.Net))) || (decide (a.Net < -1048576))) = false := by
        simp; omega
      rw [hx, cond_false]
      simp
  | succ k =>
    have hw : IntKind.i64.wrap (((k + 1 : Nat) : Int) - 1) = (k : Int) := by rw [gM (by omega) (by omega)]; omega
    have hg : List.getD f (Int.toNat (k : Int)) default = f.getD k default := by rw [Int.toNat_natCast]
    rw [hw, hg, aK (fun _ => ⟨by omega, by omega⟩)]
    have hpos : decide ((0 : Int) < ((k + 1 : Nat) : Int)) = true := by simp
    have hp1 := hp' (by omega)
    have hl2 : (f.getD k default).At = last := hlast.symm
    rw [hpos, Bool.true_and, hl2]
    by_cases hb : nE last a = true
    · rw [if_pos hb]
      by_cases hx : (((((decide (a.At < -1)) || (decide (1125899906842624 ≤ a.At))) || (decide (a.Net = 0))) || (decide (1048576 < a.Net))) || (decide (a.Net < -1048576))) = true
      · rw [hx, cond_true]
      · have hx' : (((((decide (a.At < -1)) || (decide (1125899906842624 ≤ a.At))) || (decide (a.Net = 0))) || (decide (1048576 < a.Net))) || (decide (a.Net < -1048576))) = false := by simpa using hx
        have hy : decide (a.At ≤ last) = true := by
          simp [nE, CZ] at hb hx' ⊢; omega
        rw [hx', cond_false, hy, cond_true]
    · have hb' : nE last a = false := by simpa using hb
      rw [if_neg hb]
      rw [kO] at hb'
      have hx : (((((decide (a.At < -1)) || (decide (1125899906842624 ≤ a.At))) || (decide (a.Net = 0))) || (decide (1048576 < a.Net))) || (decide (a.Net < -1048576))) = false := by
        simp; omega
      have hy : decide (a.At ≤ last) = false := by simp; omega
      rw [hx, cond_false, hy, cond_false]

theorem JE {f : List aI} (hl : f.length ≤ 1024) : ∀ (m k : Nat), f.length - k = m → k ≤ f.length → -2 ≤ tI f k → (0 < k → -1 ≤ tI f k) → lp (fun s => kK f s) (k : Int) = some (if chk (tI f k) (f.drop k) = true then .inl () else .inr false)
  | 0, k, hm, hk, _, _ => by
    have : k = f.length := by omega
    subst this
    rw [List.drop_length]
    refine cN ?_
    show kK f _ = _
    simp [kK, chk]
  | m + 1, k, hm, hk, hp, hp' => by
    have h1 : k < f.length := by omega
    have hb := NO (List.getElem?_eq_getElem h1) hl rfl hp hp'
    have e1 : f.drop k = f[k] :: f.drop (k + 1) := List.drop_eq_getElem_cons h1
    have hpa : tI f (k + 1) = f[k].At := by simp [tI, List.getD_eq_getElem?_getD, h1]
    rw [e1]
    by_cases h : nE (tI f k) f[k] = true
    · rw [if_pos h] at hb
      rw [cN (show (fun s => kK f s) (k : Int) = _ from hb)]
      simp [chk, h]
    · rw [if_neg h] at hb
      have h' : nE (tI f k) f[k] = false := by simpa using h
      have := kO.1 h'
      rw [fE (show (fun s => kK f s) (k : Int) = _ from hb), JE hl m (k + 1) (by omega) (by omega) (by rw [hpa]; omega) (fun _ => by rw [hpa]; omega), hpa]
      simp [chk, h']

theorem IW (f : List aI) : oC f = some (kB f) := by
  unfold oC kB
  by_cases hl : f.length ≤ 1024
  · have h1 : decide ((1024 : Int) < ((f.length : Nat) : Int)) = false := by simp; omega
    rw [h1, cond_false]
    unfold uR
    have := JE hl f.length 0 rfl (Nat.zero_le _) (by simp [tI]) (by omega)
    simp only [Int.natCast_zero, List.drop_zero, tI] at this
    rw [this]
    cases h : chk (-2) f <;> simp [rY, hl]
  · have h1 : decide ((1024 : Int) < ((f.length : Nat) : Int)) = true := by simp; omega
    rw [h1, cond_true]
    simp [hl]

end Go.Abs
namespace Go.Abs
open Go
def ZP (f : List aI) : Int := (f.map aI.Net).sum

def WT (t : Int) : List aI → List aI
  | [] => []
  | j :: r => if t ≤ j.At then [] else j :: WT t r

def aft (t : Int) : List aI → List aI
  | [] => []
  | j :: r => if t ≤ j.At then j :: r else aft t r

end Go.Abs
namespace Go.Abs
open Go
def aAs (t : Int) (f : List aI) : List aI := (if ZP (WT t f) = 0 then [] else [⟨-1, ZP (WT t f)⟩]) ++ aft t f

def rest (f : List aI) (t : Int) : List aI × Int :=
  if kB f then (if 1125899906842624 ≤ t then ([], 0) else if t ≤ -1 then (f, 0) else told (aAs t f)) else ([], 2)

end Go.Abs
namespace Go.Abs
open Go
def Up (last : Int) : List aI → Prop
  | [] => True
  | j :: r => (last < j.At ∧ j.At < 1125899906842624 ∧ j.Net ≠ 0) ∧ Up j.At r

theorem Up.above : ∀ {f : List aI} {last : Int}, Up last f → ∀ j ∈ f, last < j.At ∧ j.At < 1125899906842624 ∧ j.Net ≠ 0
  | [], _, _, j, hj => by simp at hj
  | a :: r, last, h, j, hj => by
    rcases List.mem_cons.1 hj with rfl | hj
    · exact h.1
    · have := h.2.above j hj
      have h1 := h.1.1
      exact ⟨by omega, this.2⟩

theorem Up.xW {l t : Int} {f : List aI} (h : Up l f) (ht : t ≤ l) : val f t = 0 := yK fun j hj => by have := (h.above j hj).1; omega

theorem Up.weaken {a b : Int} {f : List aI} (h : Up b f) (hab : a ≤ b) : Up a f := by
  cases f with
  | nil => trivial
  | cons j r => exact ⟨⟨by have := h.1.1; omega, h.1.2⟩, h.2⟩

theorem rC.up : ∀ {f : List aI} {last : Int}, rC last f → Up last f
  | [], _, _ => trivial
  | _ :: _, _, h => ⟨⟨h.1.1, h.1.2.1, h.1.2.2.1⟩, h.2.up⟩

theorem Up.ext : ∀ {f g : List aI} {last : Int}, Up last f → Up last g → (∀ t, last < t → t < 1125899906842624 → val f t = val g t) → f = g
  | [], [], _, _, _, _ => rfl
  | j :: r, [], last, hf, _, h => by
    have := h j.At hf.1.1 hf.1.2.1
    rw [kF, if_pos (Int.le_refl _), hf.2.xW (Int.le_refl _), OW] at this
    exact absurd (by omega) hf.1.2.2
  | [], k :: s, last, _, hg, h => by
    have := h k.At hg.1.1 hg.1.2.1
    rw [kF, if_pos (Int.le_refl _), hg.2.xW (Int.le_refl _), OW] at this
    exact absurd (by omega) hg.1.2.2
  | j :: r, k :: s, last, hf, hg, h => by
    have h1 := h j.At hf.1.1 hf.1.2.1
    have h2 := h k.At hg.1.1 hg.1.2.1
    rw [kF, if_pos (Int.le_refl _), hf.2.xW (Int.le_refl _), kF] at h1
    rw [kF, kF k, if_pos (Int.le_refl _), hg.2.xW (Int.le_refl _)] at h2
    have n1 := hf.1.2.2
    have n2 := hg.1.2.2
    have he : j.At = k.At := by
      rcases Int.lt_trichotomy j.At k.At with h3 | h3 | h3
      · rw [if_neg (by omega), hg.2.xW (by omega)] at h1; omega
      · exact h3
      · rw [if_neg (by omega), hf.2.xW (by omega)] at h2; omega
    rw [if_pos (by omega), hg.2.xW (by omega)] at h1
    have hj : j = k := by
      obtain ⟨a, b⟩ := j; obtain ⟨c, d⟩ := k
      simp only at he h1
      simp only [Int.add_zero] at h1
      rw [he, h1]
    subst hj
    rw [hf.2.ext hg.2 (fun t ht ht' => by
      have := h t (by have := hf.1.1; omega) ht'
      rw [kF, kF] at this; omega)]

def Inc (last : Int) : List Int → Prop
  | [] => True
  | p :: r => (last < p ∧ p < 1125899906842624) ∧ Inc p r

theorem Inc.above : ∀ {ps : List Int} {last : Int}, Inc last ps → ∀ p ∈ ps, last < p ∧ p < 1125899906842624
  | [], _, _, j, hj => by simp at hj
  | a :: r, last, h, j, hj => by
    rcases List.mem_cons.1 hj with rfl | hj
    · exact h.1
    · have := h.2.above j hj
      have h1 := h.1.1
      exact ⟨by omega, this.2⟩

end Go.Abs
namespace Go.Abs
open Go
theorem NS {f : List aI} (t : Int) (hb : ∀ j ∈ f, j.Net ≤ 1048576 ∧ -1048576 ≤ j.Net) (hl : f.length ≤ 1099511627776) : lG f t = some (val f t) := by
  unfold lG sN
  rw [qR (l := f) (body := fun s : Int × Int => jF f t s.1 s.2) (fun v i => (v, i)) (fun v r => v + val r t)
    (fun v r => (∀ j ∈ r, j.Net ≤ 1048576 ∧ -1048576 ≤ j.Net) ∧ r.length ≤ 1099511627776 ∧ v ≤ 1048576 * (1099511627776 - r.length) ∧ -(1048576 * (1099511627776 - r.length)) ≤ v) 0 ?_ ?_ ?_]
  · simp [oS]
  · intro i a r v ha ⟨h1, h2, h3, h4⟩
    obtain ⟨d1, d2, d3, d4⟩ := idx ha (by omega)
    have hj := h1 a (List.mem_cons_self ..)
    simp only [List.length_cons] at h2 h3 h4
    left
    by_cases h : a.At ≤ t
    · refine ⟨v + a.Net, ?_, ⟨fun j hj => h1 j (List.mem_cons_of_mem _ hj), by omega, by omega, by omega⟩, ?_⟩
      · show jF f t v i = _
        have hw : IntKind.i64.wrap (v + a.Net) = v + a.Net := gM (by omega) (by omega)
        simp only [jF, nB, d1, cond_true, aK d2, d3, d4, h, decide_true, hw]
      · show v + a.Net + val r t = v + val (a :: r) t
        rw [kF, if_pos h]; omega
    · refine ⟨v, ?_, ⟨fun j hj => h1 j (List.mem_cons_of_mem _ hj), by omega, by omega, by omega⟩, ?_⟩
      · show jF f t v i = _
        simp only [jF, nB, d1, cond_true, aK d2, d3, d4, h, decide_false, cond_false]
      · show v + val r t = v + val (a :: r) t
        rw [kF, if_neg h]; omega
  · intro s _
    show jF f t s (f.length : Nat) = _
    simp only [jF, iJ, cond_false]
    simp [val]
  · exact ⟨hb, hl, by omega, by omega⟩

theorem KT {f : List aI} (h : kB f = true) : ∀ j ∈ f, j.Net ≤ 1048576 ∧ -1048576 ≤ j.Net := fun j hj => by have := (oZ.1 h).2.above j hj; omega

theorem CQ {f : List aI} (h : kB f = true) (t : Int) : lG f t = some (val f t) :=
  NS t (KT h) (by have := (oZ.1 h).1; omega)

def lZ (t : Int) : List Int → List Int
  | [] => [t]
  | p :: r => if p = t then p :: r else if t < p then t :: p :: r else p :: lZ t r

theorem CA {t : Int} : ∀ {ps : List Int} {last : Int}, Inc last ps → last < t → t < 1125899906842624 → Inc last (lZ t ps)
  | [], last, _, h1, h2 => ⟨⟨h1, h2⟩, trivial⟩
  | p :: r, last, h, h1, h2 => by
    unfold lZ
    split
    · exact h
    · split
      · rename_i h3 h4
        exact ⟨⟨h1, h2⟩, ⟨h4, h.1.2⟩, h.2⟩
      · exact ⟨h.1, CA h.2 (by omega) h2⟩

theorem BK {t : Int} : ∀ {ps : List Int}, (lZ t ps).length ≤ ps.length + 1
  | [] => by simp [lZ]
  | p :: r => by
    unfold lZ
    split
    · simp
    · split
      · simp
      · simp only [List.length_cons]; have := BK (t := t) (ps := r); omega

theorem BU {t : Int} : ∀ {ps : List Int}, (∀ x ∈ ps, x < t) → lZ t ps = ps ++ [t]
  | [], _ => rfl
  | p :: r, h => by
    have := h p (List.mem_cons_self ..)
    unfold lZ
    rw [if_neg (by omega), if_neg (by omega), BU (fun x hx => h x (List.mem_cons_of_mem _ hx))]; rfl

theorem AI {t : Int} : ∀ {ps : List Int} {last : Int}, Inc last ps → t ∈ ps → lZ t ps = ps
  | [], _, _, h => by simp at h
  | p :: r, last, hi, h => by
    unfold lZ
    split
    · rfl
    · rename_i hp
      rcases List.mem_cons.1 h with h | h
      · exact absurd h.symm hp
      · have := (hi.2.above t h).1
        rw [if_neg (by omega), AI hi.2 h]

theorem UF {l out : List Int} {t a : Int} {put : Bool} {i : Nat} (ha : l[i]? = some a) (hl : l.length ≤ 1099511627776) (ho : out.length ≤ 2199023255552) :
    iS l t out put i = some (if a = t then .inr (.inr l) else if t < a ∧ put = false then .inl (out ++ [t] ++ [a], true, ((i + 1 : Nat) : Int)) else .inl (out ++ [a], put, ((i + 1 : Nat) : Int))) := by
  obtain ⟨d1, d2, d3, d4⟩ := idx ha (by omega)
  simp only [iS, qH, d1, cond_true, aK d2, d3, d4]
  by_cases h1 : a = t
  · simp [h1]
  · rw [decide_eq_false h1, cond_false, if_neg h1]
    by_cases h2 : t < a
    · cases put
      · simp only [h2, decide_true, Bool.not_false, Bool.and_self, cond_true, and_self, if_true]
        rw [aK (by simp only [List.length_cons, List.length_nil]; omega), aK (by simp only [List.length_append, List.length_cons, List.length_nil]; omega)]
      · simp only [h2, decide_true, Bool.not_true, Bool.and_false, cond_false, and_false, if_false, reduceCtorEq]
        rw [aK (by simp only [List.length_cons, List.length_nil]; omega)]
    · simp only [h2, decide_false, Bool.false_and, cond_false, false_and, if_false]
      rw [aK (by simp only [List.length_cons, List.length_nil]; omega)]

theorem YB {l : List Int} {last t : Int} (hi : Inc last l) (hl : l.length ≤ 1099511627776) : rV l t = some (lZ t l) := by
  unfold rV tX
  rw [qR (l := l) (body := fun s : List Int × Bool × Int => iS l t s.1 s.2.1 s.2.2) (fun (s : List Int × Bool) i => (s.1, s.2, i))
    (fun s r => if s.2 then .inl (s.1 ++ r, true) else if t ∈ r then .inr l else if (∃ x ∈ r, t < x) then .inl (s.1 ++ lZ t r, true) else .inl (s.1 ++ r, false))
    (fun s r => (∃ m, Inc m r) ∧ (s.2 = true → ∀ x ∈ r, t < x) ∧ r.length ≤ 1099511627776 ∧ s.1.length + r.length ≤ 1099511627777 + (if s.2 then 1 else 0)) ([], false) ?_ ?_ ?_]
  · simp only [Bool.false_eq_true, if_false, List.nil_append, Option.bind_some]
    by_cases h1 : t ∈ l
    · simp [h1, AI hi h1]
    · simp only [h1, if_false]
      by_cases h2 : ∃ x ∈ l, t < x
      · simp only [h2, if_true]
        simp [nT, nO]
      · simp only [h2, if_false]
        have : ∀ x ∈ l, x < t := fun x hx => by
          have h3 : ¬ t < x := fun h => h2 ⟨x, hx, h⟩
          have h4 : x ≠ t := fun h => h1 (h ▸ hx)
          omega
        rw [BU this]
        simp only [Sum.elim_inl, nT, nO, Bool.not_false, cond_true]
        rw [aK (by simp only [List.length_cons, List.length_nil]; omega)]
  · rintro i a r ⟨out, put⟩ ha ⟨⟨m, hm⟩, h1, h2, h3⟩
    simp only [List.length_cons] at h2 h3
    have hb := UF (t := t) (put := put) (out := out) ha hl (by split at h3 <;> omega)
    have hab : ∀ x ∈ r, a < x := fun x hx => (hm.2.above x hx).1
    cases put
    · by_cases e : a = t
      · right
        show iS l t out false i = _
        rw [hb]; simp [e]
      · left
        by_cases e2 : t < a
        · have hnt : t ∉ a :: r := fun h => by
            rcases List.mem_cons.1 h with h | h
            · exact e h.symm
            · have := hab t h; omega
          refine ⟨(out ++ [t] ++ [a], true), ?_, ⟨⟨a, hm.2⟩, fun _ x hx => by have := hab x hx; omega, by omega, by simp only [List.length_append, List.length_cons, List.length_nil, Bool.false_eq_true, if_false, if_true] at h3 ⊢; omega⟩, ?_⟩
          · show iS l t out false i = _
            rw [hb]; simp [e, e2]
          · have hex : ∃ x ∈ a :: r, t < x := ⟨a, List.mem_cons_self .., e2⟩
            simp only [if_true, Bool.false_eq_true, if_false, hnt, hex]
            simp [lZ, e, e2]
        · refine ⟨(out ++ [a], false), ?_, ⟨⟨a, hm.2⟩, fun h => absurd h (by simp), by omega, by simp only [List.length_append, List.length_cons, List.length_nil, Bool.false_eq_true, if_false] at h3 ⊢; omega⟩, ?_⟩
          · show iS l t out false i = _
            rw [hb]; simp [e, e2]
          · have i1 : (t ∈ a :: r) ↔ t ∈ r := by simp only [List.mem_cons]; constructor; (intro h; rcases h with h | h; exact absurd h.symm e; exact h); exact Or.inr
            have i2 : (∃ x ∈ a :: r, t < x) ↔ (∃ x ∈ r, t < x) := by
              constructor
              · rintro ⟨x, hx, hx'⟩
                rcases List.mem_cons.1 hx with rfl | hx
                · exact absurd hx' e2
                · exact ⟨x, hx, hx'⟩
              · rintro ⟨x, hx, hx'⟩; exact ⟨x, List.mem_cons_of_mem _ hx, hx'⟩
            simp only [Bool.false_eq_true, if_false, i1, i2]
            simp [lZ, e, e2]
    · left
      have ht := h1 rfl a (List.mem_cons_self ..)
      refine ⟨(out ++ [a], true), ?_, ⟨⟨a, hm.2⟩, fun _ x hx => h1 rfl x (List.mem_cons_of_mem _ hx), by omega, by simp only [List.length_append, List.length_cons, List.length_nil, if_true] at h3 ⊢; omega⟩, ?_⟩
      · show iS l t out true i = _
        have : a ≠ t := by omega
        rw [hb]; simp [this]
      · simp
  · rintro ⟨out, put⟩ _
    show iS l t out put (l.length : Nat) = _
    simp only [iS, iJ, cond_false]
    cases put <;> simp
  · exact ⟨⟨last, hi⟩, fun h => absurd h (by simp), hl, by simp only [List.length_nil]; simp; omega⟩

end Go.Abs
namespace Go.Abs
open Go
def mn (a b : Int) : Int := if b < a then b else a

def parts (v : Int) : List aI → List Int
  | [] => []
  | j :: r => (v + j.Net) :: parts (v + j.Net) r

def sB (f : List aI) : Int := (f.map fun j => val f j.At).foldl mn (val f (-1))

theorem parts_eq : ∀ {f : List aI} {l v : Int}, rC l f → parts v f = f.map fun j => v + val f j.At
  | [], _, _, _ => rfl
  | j :: r, l, v, h => by
    simp only [parts, List.map_cons]
    rw [parts_eq h.2, kF, if_pos (Int.le_refl _), h.2.xW (Int.le_refl _), Int.add_zero]
    congr 1
    apply List.map_congr_left
    intro k hk
    have := (h.2.above k hk).1
    rw [kF, if_pos (by omega)]; omega

theorem TV {j : aI} {r : List aI} (h : rC (-2) (j :: r)) : val (j :: r) (-1) = if j.At = -1 then j.Net else 0 := by
  have := h.1.1
  by_cases e : j.At = -1
  · rw [if_pos e, kF, if_pos (by omega), h.2.xW (by omega)]; omega
  · rw [if_neg e, yK]
    intro k hk
    rcases List.mem_cons.1 hk with rfl | hk
    · omega
    · have := (h.2.above k hk).1; omega

theorem GZ {f : List aI} (hf : kB f = true) (m : Int) (hm : -1125899906842624 ≤ m ∧ m ≤ 1125899906842624) : qG 0 m f (f.length : Nat) 0 = some ((f.map fun j => val f j.At).foldl mn m) := by
  obtain ⟨hl, hr⟩ := oZ.1 hf
  unfold qG
  rw [qR (l := f) (body := fun s : Int × Int × Int => lI f (f.length : Nat) s.1 s.2.1 s.2.2) (fun (s : Int × Int) i => (s.1, s.2, i)) (fun s r => (parts s.1 r).foldl mn s.2)
    (fun s r => (∀ j ∈ r, j.Net ≤ 1048576 ∧ -1048576 ≤ j.Net) ∧ r.length ≤ 1024 ∧ s.1 ≤ 1048576 * (1024 - r.length) ∧ -(1048576 * (1024 - r.length)) ≤ s.1) (0, m) ?_ ?_ ?_]
  · simp only [Option.bind_some, pZ, parts_eq hr, Int.zero_add]
  · rintro i a r ⟨v, m⟩ ha ⟨h1, h2, h3, h4⟩
    obtain ⟨d1, d2, d3, d4⟩ := idx ha (by omega)
    have hj := h1 a (List.mem_cons_self ..)
    simp only [List.length_cons] at h2 h3 h4
    have hw : IntKind.i64.wrap (v + a.Net) = v + a.Net := gM (by omega) (by omega)
    left
    refine ⟨(v + a.Net, mn m (v + a.Net)), ?_, ⟨fun j hj => h1 j (List.mem_cons_of_mem _ hj), by omega, by simp only; omega, by simp only; omega⟩, rfl⟩
    show lI f (f.length : Nat) v m i = _
    simp only [lI, d1, cond_true, aK d2, d3, d4, hw, mn]
  · rintro ⟨v, m⟩ _
    show lI f (f.length : Nat) v m (f.length : Nat) = _
    simp only [lI, iJ, cond_false, parts, List.foldl_nil]
  · exact ⟨KT hf, hl, by simp only; omega, by simp only; omega⟩

theorem WB (f : List aI) : sC f = some (if kB f then sB f else 0) := by
  unfold sC
  rw [GH]
  cases h : kB f
  · simp
  · cases f with
    | nil => simp [sB, val]
    | cons j r =>
      obtain ⟨hl, hr⟩ := oZ.1 h
      have hne : decide (((List.length (j :: r) : Nat) : Int) = 0) = false := by simp; omega
      simp only [Option.bind_some, Bool.not_true, Bool.false_or, hne, cond_false, aK aAx, ZB, if_true]
      have hj := hr.1
      unfold sB
      rw [TV hr]
      by_cases e : j.At = -1
      · simp only [e, decide_true, cond_true, if_true, nQ]
        exact GZ h j.Net (by omega)
      · simp only [e, decide_false, cond_false, if_false, nQ]
        exact GZ h 0 (by omega)

theorem NH (f : List aI) : qM f = some (if kB f then sB f else 0) := by
  unfold qM
  rw [IW]
  cases h : kB f
  · simp
  · obtain ⟨hl, hr⟩ := oZ.1 h
    simp only [Option.bind_some, Bool.not_true, cond_false, CQ h, if_true, sQ]
    rw [qR (l := f) (body := fun s : Int × Int => kT f s.1 s.2) (fun m i => (m, i)) (fun m r => (r.map fun j => val f j.At).foldl mn m) (fun _ _ => True) (val f (-1)) ?_ ?_ trivial]
    · simp [pE, sB]
    · rintro i a r m ha _
      obtain ⟨d1, d2, d3, d4⟩ := idx ha (by omega)
      left
      refine ⟨mn m (val f a.At), ?_, trivial, rfl⟩
      show kT f m i = _
      simp only [kT, oU, d1, cond_true, aK d2, d3, d4, CQ h, Option.bind_some, mn]
      by_cases e : val f a.At < m <;> simp [e]
    · intro m _
      show kT f m (f.length : Nat) = _
      simp only [kT, iJ, cond_false, List.map_nil, List.foldl_nil]

theorem YJ : kB [] = true := by decide

end Go.Abs
namespace Go.Abs
open Go
theorem w1 : IntKind.i64.wrap (0 + 1) = 1 := by rw [gM] <;> omega

theorem w2 : IntKind.i64.wrap (1 + 1) = 2 := by rw [gM] <;> omega

theorem w3 : IntKind.i64.wrap (1 - 1) = 0 := by rw [gM] <;> omega

theorem v0 : IntKind.i64.wrap 0 = 0 := by rw [gM] <;> omega

theorem v1 : IntKind.i64.wrap 1 = 1 := by rw [gM] <;> omega

theorem v2 : IntKind.i64.wrap 2 = 2 := by rw [gM] <;> omega

theorem v3 : IntKind.i64.wrap (-1) = -1 := by rw [gM] <;> omega

end Go.Abs
namespace Go.Abs
open Go
variable {α : Type} [Inhabited α]
noncomputable def nC (f1 : α → Option Bool) (s0 : (List α)) (t7 : Int) (t8 : Int) : Option ((Int) ⊕ (Unit ⊕ Int)) :=
  cond (decide (t8 < t7))
  (aZ (0 ≤ t8 ∧ t8 < ((List.length s0 : Nat) : Int)) <|
  (f1 (List.getD s0 (Int.toNat t8) default)).bind fun x2 =>
  cond x2
  (some (.inr (.inr t8)))
  (some (.inl (IntKind.i64.wrap (t8 + (1 : Int))))))
  (some (.inr (.inl ())))

theorem KQ {l : List α} {f : α → Option Bool} {g : α → Bool} (hl : l.length ≤ 1099511627776) (hf : ∀ x ∈ l, f x = some (g x)) : ∀ (r : List α) (k : Nat), l.drop k = r → k ≤ l.length →
    ∃ x, lp (fun s => nC f l (l.length : Nat) s) (k : Int) = some x ∧ ((x = .inl () ∧ r.any g = false) ∨ (∃ i : Nat, x = .inr (i : Int) ∧ k ≤ i ∧ i < l.length ∧ r.any g = true ∧ g (l.getD i default) = true ∧ ∀ j, k ≤ j → j < i → g (l.getD j default) = false))
  | [], k, hd, hk => by
    have : k = l.length := by
      have := congrArg List.length hd
      simp only [List.length_drop, List.length_nil] at this; omega
    subst this
    refine ⟨.inl (), cN ?_, Or.inl ⟨rfl, rfl⟩⟩
    show nC f l _ _ = _
    simp only [nC, iJ, cond_false]
  | a :: r, k, hd, hk => by
    obtain ⟨h1, h2⟩ := drop_cons hd
    have hlt : k < l.length := (List.getElem?_eq_some_iff.1 h1).1
    obtain ⟨d1, d2, d3, d4⟩ := idx h1 (by omega)
    have hga : l.getD k default = a := by rw [Int.toNat_natCast] at d3; exact d3
    have hb : (fun s => nC f l (l.length : Nat) s) (k : Int) = some (if g a then .inr (.inr (k : Int)) else .inl ((k + 1 : Nat) : Int)) := by
      show nC f l _ _ = _
      simp only [nC, d1, cond_true, aK d2, d3, d4, hf a (List.mem_of_getElem? h1), Option.bind_some]
      cases g a <;> simp
    cases hg : g a
    · rw [hg] at hb
      obtain ⟨x, e, hx⟩ := KQ hl hf r (k + 1) h2 (by omega)
      refine ⟨x, by rw [fE hb]; exact e, ?_⟩
      rcases hx with ⟨rfl, h⟩ | ⟨i, rfl, h3, h4, h5, h6, h7⟩
      · exact Or.inl ⟨rfl, by simp [hg, h]⟩
      · refine Or.inr ⟨i, rfl, by omega, h4, by simp [h5], h6, fun j hj hj' => ?_⟩
        by_cases e : j = k
        · subst e; rw [hga, hg]
        · exact h7 j (by omega) hj'
    · rw [hg] at hb
      exact ⟨.inr (k : Int), cN hb, Or.inr ⟨k, rfl, Nat.le_refl _, hlt, by simp [hg], by rw [hga, hg], fun j h h' => by omega⟩⟩

end Go.Abs
namespace Go.Abs
open Go
theorem HZ (x y : ByteArray) : lX x y = decide (x = y) := by
  unfold lX
  rw [ByteArray.toList_eq, ByteArray.toList_eq]
  by_cases h : x = y
  · simp [h]
  · have : x.data.toList ≠ y.data.toList := by
      intro he
      apply h
      cases x; cases y
      congr 1
      exact Array.toList_inj.1 he
    have h2 : (x.data.toList == y.data.toList) = false := by simpa using this
    rw [h2]; simp [h]

theorem veq (a b : aB) : ((decide (a.Kind = b.Kind)) && ((decide (a.Num = b.Num)) && ((lX a.Text b.Text) && true))) = decide (a = b) := by
  rw [HZ]
  obtain ⟨a1, a2, a3⟩ := a
  obtain ⟨b1, b2, b3⟩ := b
  by_cases h1 : a1 = b1 <;> by_cases h2 : a2 = b2 <;> by_cases h3 : a3 = b3 <;> simp [h1, h2, h3]

def zM (v : aB) : Bool := decide (v.Kind = 1) && lX v.Text (⟨#[]⟩ : ByteArray)

def yI (v : aB) : Bool := ((decide (v.Kind = 2)) && (decide (v.Num = 0))) && (decide (((ByteArray.size v.Text : Nat) : Int) ≤ 64))

def pO (v : aB) : Bool := zM v || yI v

def jJ (r : List aB) : Bool := decide (r.length ≤ 8) && r.all pO

theorem of_eq (v : aB) : kN v = some (if zM v then (.k_number v.Num, true) else if yI v then (.k_words v.Text, true) else (.none_, false)) := by
  unfold kN zM yI
  cases (decide (v.Kind = 1) && lX v.Text (⟨#[]⟩ : ByteArray)) <;> cases (((decide (v.Kind = 2)) && (decide (v.Num = 0))) && (decide (((ByteArray.size v.Text : Nat) : Int) ≤ 64))) <;> rfl

theorem YU (v : aB) : tC v = some (pO v) := by
  unfold tC pO
  rw [of_eq]
  cases zM v <;> cases yI v <;> rfl

theorem FD (v : aB) : oD v = some (pO v) := by
  unfold oD pO zM yI
  by_cases h : v.Kind = 1
  · simp [h]
  · simp [h]

theorem KO {l : List aB} {f : aB → Option Bool} {g : aB → Bool} (hl : l.length ≤ 1099511627776) (hf : ∀ x ∈ l, f x = some (g x)) : eS l f = some (l.any g) := by
  unfold eS gX gT
  obtain ⟨x, e, hx⟩ := KQ hl hf l 0 rfl (Nat.zero_le _)
  have e' : lp (fun s => gS f l (l.length : Nat) s) 0 = some x := e
  rw [e']
  rcases hx with ⟨rfl, h⟩ | ⟨i, rfl, _, _, h, _⟩
  · simp [eY, h]
  · simp [h]

theorem HL (r : List aB) : sF r = some (jJ r) := by
  unfold sF jJ
  by_cases h : r.length ≤ 8
  · have h1 : decide ((8 : Int) < ((r.length : Nat) : Int)) = false := by simp; omega
    rw [h1, cond_false, KO (g := fun v => !pO v) (by omega) (fun x _ => by simp [tM, YU])]
    simp only [Option.bind_some, h, decide_true, Bool.true_and]
    congr 1
    rw [List.all_eq_not_any_not]
  · have h1 : decide ((8 : Int) < ((r.length : Nat) : Int)) = true := by simp; omega
    rw [h1, cond_true]
    simp [h]

theorem AQ (r : List aB) (hl : r.length ≤ 1099511627776 * 16) : oG r = some (jJ r) := by
  unfold oG vA
  have hl9 : (r.take 9).length ≤ 9 := by simp; omega
  rw [CN (l := r.take 9) (fun i => i) (fun v => !pO v) (.inr false) (.inl ()) ?_ ?_]
  · unfold jJ
    by_cases h : r.length ≤ 8
    · have ht : r.take 9 = r := List.take_of_length_le (by omega)
      rw [ht, List.all_eq_not_any_not]
      cases h1 : (r.any fun v => !pO v)
      · have : ((r.length : Nat) : Int) ≤ 8 := by omega
        simp [oW, this, h]
      · simp
    · cases h1 : ((r.take 9).any fun v => !pO v)
      · have : ¬ ((r.length : Nat) : Int) ≤ 8 := by omega
        simp [oW, this, h]
      · simp [h]
  · intro i a ha
    have hi : i < (r.take 9).length := (List.getElem?_eq_some_iff.1 ha).1
    have hi2 : i < r.length := by simp at hi; omega
    have ha2 : r[i]? = some a := by
      rw [List.getElem?_take] at ha
      split at ha
      · exact ha
      · cases ha
    obtain ⟨d1, d2, d3, d4⟩ := idx ha2 (by omega)
    have h9 : decide ((i : Int) < 9) = true := by simp; omega
    show nJ r i = _
    simp only [nJ, d1, h9, Bool.and_self, cond_true, aK d2, d3, d4, FD, Option.bind_some]
    cases pO a <;> simp
  · show nJ r _ = _
    have : ((decide ((((r.take 9).length : Nat) : Int) < ((r.length : Nat) : Int))) && (decide ((((r.take 9).length : Nat) : Int) < 9))) = false := by
      rw [Bool.and_eq_false_iff]
      by_cases h : r.length ≤ 8
      · left; simp; omega
      · right; simp; omega
    simp only [nJ, this, cond_false]

theorem PZ {α : Type} [DecidableEq α] {f g : List α} {body : Int → Option (Int ⊕ (Unit ⊕ Bool))} (he : f.length = g.length)
    (hb : ∀ (i : Nat) a b, f[i]? = some a → g[i]? = some b → body i = some (if a = b then .inl ((i + 1 : Nat) : Int) else .inr (.inr false)))
    (hend : body (f.length : Nat) = some (.inr (.inl ()))) : ∀ (m k : Nat), f.length - k = m → k ≤ f.length → lp body (k : Int) = some (if f.drop k = g.drop k then .inl () else .inr false)
  | 0, k, hm, hk => by
    have : k = f.length := by omega
    subst this
    rw [List.drop_length, he, List.drop_length, if_pos rfl]
    rw [← he]
    exact cN hend
  | m + 1, k, hm, hk => by
    have h1 : k < f.length := by omega
    have h2 : k < g.length := by omega
    have hbk := hb k _ _ (List.getElem?_eq_getElem h1) (List.getElem?_eq_getElem h2)
    have e1 : f.drop k = f[k] :: f.drop (k + 1) := List.drop_eq_getElem_cons h1
    have e2 : g.drop k = g[k] :: g.drop (k + 1) := List.drop_eq_getElem_cons h2
    have hiff : (f.drop k = g.drop k) ↔ (f[k] = g[k] ∧ f.drop (k + 1) = g.drop (k + 1)) := by rw [e1, e2, List.cons.injEq]
    by_cases h : f[k] = g[k]
    · rw [if_pos h] at hbk
      rw [fE hbk, PZ he hb hend m (k + 1) (by omega) (by omega)]
      simp only [hiff, h, true_and]
    · rw [if_neg h] at hbk
      rw [cN hbk]
      simp only [hiff, h, false_and, if_false]

theorem SA {α : Type} {f g : List α} (h : f.length ≠ g.length) : (!decide (((f.length : Nat) : Int) = ((g.length : Nat) : Int))) = true := by simp; omega

theorem TE {α : Type} {f g : List α} (h : f.length = g.length) : (!decide (((f.length : Nat) : Int) = ((g.length : Nat) : Int))) = false := by simp [h]

theorem PX (a b : List aB) (hl : a.length ≤ 17592186044416) : uT a b = some (decide (a = b)) := by
  unfold uT jA
  by_cases he : a.length = b.length
  · rw [TE he, cond_false]
    unfold iV
    have := PZ (f := a) (g := b) (body := fun s => eT a b (a.length : Nat) s) he ?_ ?_ a.length 0 rfl (Nat.zero_le _)
    · simp only [Int.natCast_zero, List.drop_zero] at this
      rw [this]
      by_cases h : a = b <;> simp [h, fW]
    · intro i x y hx hy
      obtain ⟨d1, d2, d3, d4⟩ := idx hx (by omega)
      obtain ⟨_, e2, e3, _⟩ := idx hy (by omega)
      simp only [eT, d1, cond_true, aK d2, aK e2, d3, e3, d4, veq]
      by_cases h : x = y <;> simp [h]
    · simp only [eT, iJ, cond_false]
  · rw [SA he, cond_true]
    have : a ≠ b := fun h => he (by rw [h])
    simp [this]

theorem BE (a b : List aB) (hl : a.length ≤ 17592186044416) : oP a b = some (decide (a = b)) := by
  unfold oP
  by_cases he : a.length = b.length
  · rw [TE he, cond_false]
    unfold uA
    have := PZ (f := a) (g := b) (body := fun s => nR a b s) he ?_ ?_ a.length 0 rfl (Nat.zero_le _)
    · simp only [Int.natCast_zero, List.drop_zero] at this
      rw [this]
      by_cases h : a = b <;> simp [h, qE]
    · intro i x y hx hy
      obtain ⟨d1, d2, d3, d4⟩ := idx hx (by omega)
      obtain ⟨_, e2, e3, _⟩ := idx hy (by omega)
      simp only [nR, d1, cond_true, aK d2, aK e2, d3, e3, d4, veq]
      by_cases h : x = y <;> simp [h]
    · simp only [nR, iJ, cond_false]
  · rw [SA he, cond_true]
    have : a ≠ b := fun h => he (by rw [h])
    simp [this]

structure BI {α : Type} (c : α → α → Int) : Prop where
  eq : ∀ a b, c a b = 0 ↔ a = b
  anti : ∀ a b, c a b < 0 ↔ 0 < c b a
  trans : ∀ a b d, c a b < 0 → c b d < 0 → c a d < 0

def mB (x y : Int) : Int := if x < y then -1 else if y < x then 1 else 0

theorem xP : BI mB where
  eq a b := by unfold mB; (repeat' split) <;> omega
  anti a b := by unfold mB; (repeat' split) <;> omega
  trans a b d := by unfold mB; (repeat' split) <;> omega

def gW {α : Type} [DecidableEq α] (c : α → α → Int) : List α → List α → Int
  | [], [] => 0
  | [], _ :: _ => -1
  | _ :: _, [] => 1
  | a :: r, b :: s => if a = b then gW c r s else c a b

theorem BI.list {α : Type} [DecidableEq α] {c : α → α → Int} (h : BI c) : BI (gW c) where
  eq := by
    intro a
    induction a with
    | nil => intro b; cases b <;> simp [gW]
    | cons x r ih =>
      intro b
      cases b with
      | nil => simp [gW]
      | cons y s =>
        unfold gW
        split
        · rename_i e; subst e; rw [ih]; simp
        · rename_i e
          have := h.eq x y
          constructor
          · intro h0; exact absurd (this.1 h0) e
          · intro h0; cases h0; exact absurd rfl e
  anti := by
    intro a
    induction a with
    | nil => intro b; cases b <;> simp [gW]
    | cons x r ih =>
      intro b
      cases b with
      | nil => simp [gW]
      | cons y s =>
        unfold gW
        by_cases e : x = y
        · subst e; simp only [if_true]; exact ih s
        · rw [if_neg e, if_neg (fun e' => e e'.symm)]; exact h.anti x y
  trans := by
    intro a
    induction a with
    | nil =>
      intro b d
      cases b <;> cases d <;> simp [gW]
    | cons x r ih =>
      intro b d
      cases b with
      | nil => simp [gW]
      | cons y s =>
        cases d with
        | nil => simp [gW]
        | cons z t =>
          unfold gW
          by_cases e1 : x = y
          · subst e1
            rw [if_pos rfl]
            by_cases e2 : x = z
            · subst e2; rw [if_pos rfl, if_pos rfl]; exact ih s t
            · rw [if_neg e2, if_neg e2]; exact fun _ h => h
          · rw [if_neg e1]
            by_cases e2 : y = z
            · have hz : ¬ x = z := fun e => e1 (e.trans e2.symm)
              intro h _
              rw [if_neg hz, ← e2]; exact h
            · rw [if_neg e2]
              intro h1 h2
              by_cases e3 : x = z
              · subst e3
                have h3 := (h.anti x y).1 h1
                omega
              · rw [if_neg e3]; exact h.trans x y z h1 h2

def wN (a b : UInt8) : Int := if a < b then -1 else if b < a then 1 else 0

theorem EK : BI wN where
  eq a b := by
    unfold wN
    constructor
    · intro h
      split at h
      · cases h
      · split at h
        · cases h
        · rename_i h1 h2
          rw [UInt8.lt_iff_toNat_lt] at h1 h2
          exact UInt8.toNat_inj.1 (by omega)
    · rintro rfl
      have : ¬ a < a := by rw [UInt8.lt_iff_toNat_lt]; omega
      simp [this]
  anti a b := by
    unfold wN
    simp only [UInt8.lt_iff_toNat_lt]
    (repeat' split) <;> omega
  trans a b d := by
    unfold wN
    simp only [UInt8.lt_iff_toNat_lt]
    (repeat' split) <;> omega

theorem yM : ∀ (a b : List UInt8), Go.Lib.compareBytes a b = gW wN a b
  | [], [] => rfl
  | [], _ :: _ => rfl
  | _ :: _, [] => rfl
  | a :: r, b :: s => by
    unfold Go.Lib.compareBytes gW
    rw [yM r s]
    by_cases e : a = b
    · subst e
      have : ¬ a < a := by rw [UInt8.lt_iff_toNat_lt]; omega
      simp [this]
    · rw [if_neg e]
      unfold wN
      have : ¬ (¬ a < b ∧ ¬ b < a) := by
        rintro ⟨h1, h2⟩
        rw [UInt8.lt_iff_toNat_lt] at h1 h2
        exact e (UInt8.toNat_inj.1 (by omega))
      by_cases h1 : a < b
      · simp [h1]
      · have h2 : b < a := Classical.byContradiction fun h2 => this ⟨h1, h2⟩
        simp [h1, h2]

def HM (a b : ByteArray) : Int := gW wN a.data.toList b.data.toList

theorem YO (a b : ByteArray) : HK a b = HM a b := yM _ _

theorem data_inj {x y : ByteArray} (h : x.data.toList = y.data.toList) : x = y := by
  cases x; cases y
  congr 1
  exact Array.toList_inj.1 h

theorem AU : BI HM where
  eq a b := by unfold HM; rw [(EK.list).eq]; exact ⟨data_inj, fun h => by rw [h]⟩
  anti a b := (EK.list).anti _ _
  trans a b d := (EK.list).trans _ _ _

def uF (a b : aB) : Int := if a.Kind = b.Kind then (if a.Num = b.Num then HM a.Text b.Text else mB a.Num b.Num) else mB a.Kind b.Kind

theorem AB : BI uF where
  eq a b := by
    obtain ⟨a1, a2, a3⟩ := a
    obtain ⟨b1, b2, b3⟩ := b
    unfold uF
    simp only [aB.mk.injEq]
    by_cases h1 : a1 = b1
    · by_cases h2 : a2 = b2
      · simp [h1, h2, AU.eq]
      · simp [h1, h2, xP.eq]
    · simp [h1, xP.eq]
  anti a b := by
    unfold uF
    by_cases h1 : a.Kind = b.Kind
    · rw [if_pos h1, if_pos h1.symm]
      by_cases h2 : a.Num = b.Num
      · rw [if_pos h2, if_pos h2.symm]; exact AU.anti _ _
      · rw [if_neg h2, if_neg (fun h => h2 h.symm)]; exact xP.anti _ _
    · rw [if_neg h1, if_neg (fun h => h1 h.symm)]; exact xP.anti _ _
  trans a b d := by
    unfold uF
    intro h1 h2
    have lt : ∀ {x y : Int}, mB x y < 0 → x < y := fun {x y} h => by unfold mB at h; split at h <;> (try split at h) <;> omega
    have mk : ∀ {x y : Int}, x < y → mB x y < 0 := fun {x y} h => by unfold mB; rw [if_pos h]; omega
    by_cases e1 : a.Kind = b.Kind
    · rw [if_pos e1] at h1
      by_cases e2 : b.Kind = d.Kind
      · rw [if_pos e2] at h2
        rw [if_pos (e1.trans e2)]
        by_cases f1 : a.Num = b.Num
        · rw [if_pos f1] at h1
          by_cases f2 : b.Num = d.Num
          · rw [if_pos f2] at h2
            rw [if_pos (f1.trans f2)]
            exact AU.trans _ _ _ h1 h2
          · rw [if_neg f2] at h2
            rw [f1, if_neg f2]; exact h2
        · rw [if_neg f1] at h1
          have g1 := lt h1
          by_cases f2 : b.Num = d.Num
          · rw [← f2, if_neg f1]; exact h1
          · rw [if_neg f2] at h2
            have g2 := lt h2
            rw [if_neg (by omega)]
            exact mk (by omega)
      · rw [if_neg e2] at h2
        rw [e1, if_neg e2]; exact h2
    · rw [if_neg e1] at h1
      have g1 := lt h1
      by_cases e2 : b.Kind = d.Kind
      · rw [← e2, if_neg e1]; exact h1
      · rw [if_neg e2] at h2
        have g2 := lt h2
        rw [if_neg (by omega)]
        exact mk (by omega)

def hY (a b : List aB) : Int := gW uF a b

theorem pL : BI hY := AB.list

end Go.Abs
namespace Go.Abs
open Go
theorem SX (x y : Int) : mQ x y = some (mB x y) := by
  unfold mQ kI mB
  by_cases h1 : x < y
  · simp [h1]
  · by_cases h2 : y < x <;> simp [h1, h2]

theorem SF (x y : Int) : fN x y = some (mB x y) := by
  unfold fN jZ mB
  by_cases h1 : x < y
  · simp [h1]
  · by_cases h2 : y < x <;> simp [h1, h2]

theorem xL {v : aB} (h : zM v = true) : v.Kind = 1 ∧ v.Text = (⟨#[]⟩ : ByteArray) := by
  simp only [zM, HZ, Bool.and_eq_true, decide_eq_true_eq] at h; exact h

theorem vZ {v : aB} (h : yI v = true) : v.Kind = 2 ∧ v.Num = 0 ∧ v.Text.size ≤ 64 := by
  simp only [yI, Bool.and_eq_true, decide_eq_true_eq] at h; exact ⟨h.1.1, h.1.2, by omega⟩

theorem DE {v : aB} (h : pO v = true) : zM v = true ∨ (zM v = false ∧ yI v = true) := by
  unfold pO at h
  cases hn : zM v
  · rw [hn] at h; exact .inr ⟨rfl, by simpa using h⟩
  · exact .inl rfl

theorem TB (a : ByteArray) : HM a a = 0 := (AU.eq a a).2 rfl

theorem yS (a : Int) : mB a a = 0 := (xP.eq a a).2 rfl

theorem TC {a b : aB} (ha : pO a = true) (hb : pO b = true) : oA a b = some (uF a b) := by
  unfold oA
  simp only [of_eq, Option.bind_some]
  rcases DE ha with h1 | ⟨h1, h1'⟩ <;> rcases DE hb with h2 | ⟨h2, h2'⟩
  · obtain ⟨k1, t1⟩ := xL h1
    obtain ⟨k2, t2⟩ := xL h2
    simp only [h1, h2, if_true, Bool.not_true, Bool.or_self, cond_false, SF, Option.bind_some]
    unfold uF
    rw [k1, k2, t1, t2, if_pos rfl, TB]
    by_cases hn : a.Num = b.Num
    · rw [if_pos hn, hn, yS]
    · rw [if_neg hn]
  · obtain ⟨k1, t1⟩ := xL h1
    obtain ⟨k2, n2, _⟩ := vZ h2'
    simp only [h1, h2, h2', if_true, Bool.false_eq_true, if_false, Bool.not_true, Bool.or_self, cond_false]
    unfold uF
    rw [k1, k2]; rfl
  · obtain ⟨k1, n1, _⟩ := vZ h1'
    obtain ⟨k2, t2⟩ := xL h2
    simp only [h1, h1', h2, if_true, Bool.false_eq_true, if_false, Bool.not_true, Bool.or_self, cond_false]
    unfold uF
    rw [k1, k2]; rfl
  · obtain ⟨k1, n1, _⟩ := vZ h1'
    obtain ⟨k2, n2, _⟩ := vZ h2'
    simp only [h1, h1', h2, h2', if_true, Bool.false_eq_true, if_false, Bool.not_true, Bool.or_self, cond_false]
    unfold uF lE iZ
    rw [k1, k2, n1, n2, if_pos rfl, if_pos rfl]
    simp [YO]

theorem vP {r : List aB} (h : jJ r = true) : r.length ≤ 8 ∧ ∀ v ∈ r, pO v = true := by
  simp only [jJ, Bool.and_eq_true, decide_eq_true_eq, List.all_eq_true] at h; exact h

theorem LJ {a b : List aB} {k : Nat} (hk : k = a.length ∨ k = b.length) (h1 : k ≤ a.length) (h2 : k ≤ b.length) : hY (a.drop k) (b.drop k) = mB a.length b.length := by
  rcases hk with rfl | rfl
  · rw [List.drop_length]
    by_cases h : a.length = b.length
    · rw [h, List.drop_length, yS]; rfl
    · rw [List.drop_eq_getElem_cons (by omega)]
      show (-1 : Int) = _
      unfold mB; rw [if_pos (by omega)]
  · rw [List.drop_length]
    by_cases h : a.length = b.length
    · rw [← h, List.drop_length, yS]; rfl
    · rw [List.drop_eq_getElem_cons (by omega)]
      show (1 : Int) = _
      unfold mB; rw [if_neg (by omega), if_pos (by omega)]

theorem OH {a b : List aB} (hl : a.length ≤ 8) (hlb : b.length ≤ 8) (n : Nat) (hn : n = min a.length b.length) : ∀ (m k : Nat), n - k = m → k ≤ n →
    ∃ x, lp (fun s : Int × Int => cB (fun st y0 => (jI y0 st b).bind fun o => some (o.2, o.1)) (a.take n) (n : Nat) s.1 s.2) ((k : Int) - 1, (k : Int)) = some x ∧
      ((∃ sg, x = .inl sg ∧ hY (a.drop k) (b.drop k) = mB a.length b.length) ∨
        (∃ i : Nat, x = .inr ((i : Int), (i : Int)) ∧ i < a.length ∧ i < b.length ∧ hY (a.drop k) (b.drop k) = uF (a.getD i default) (b.getD i default)))
  | 0, k, hm, hk => by
    have : k = n := by omega
    subst this
    refine ⟨.inl ((k : Int) - 1), cN ?_, .inl ⟨_, rfl, LJ (by omega) (by omega) (by omega)⟩⟩
    show cB _ _ _ _ _ = _
    simp only [cB, iJ, cond_false]
  | m + 1, k, hm, hk => by
    have h1 : k < a.length := by omega
    have h2 : k < b.length := by omega
    have ht : (a.take n)[k]? = some a[k] := by
      rw [List.getElem?_take_of_lt (by omega)]; exact List.getElem?_eq_getElem h1
    obtain ⟨d1, d2, d3, d4⟩ := idx ht (by simp; omega)
    have hlt : (a.take n).length = n := by simp; omega
    rw [hlt] at d1 d2
    obtain ⟨_, e2, e3, _⟩ := idx (List.getElem?_eq_getElem h2) (by omega)
    have hw : IntKind.i64.wrap ((k : Int) - 1 + 1) = (k : Int) := by rw [gM (by omega) (by omega)]; omega
    have hb : (fun s : Int × Int => cB (fun st y0 => (jI y0 st b).bind fun o => some (o.2, o.1)) (a.take n) (n : Nat) s.1 s.2) ((k : Int) - 1, (k : Int)) =
        some (if a[k] = b[k] then .inl ((k : Int), ((k + 1 : Nat) : Int)) else .inr (.inr ((k : Int), (k : Int)))) := by
      show cB _ _ _ _ _ = _
      simp only [cB, d1, cond_true, hlt, aK d2, d3, d4, jI, hw, aK e2, e3, veq, Option.bind_some]
      by_cases h : a[k] = b[k] <;> simp [h]
    have ea : a.drop k = a[k] :: a.drop (k + 1) := List.drop_eq_getElem_cons h1
    have eb : b.drop k = b[k] :: b.drop (k + 1) := List.drop_eq_getElem_cons h2
    by_cases h : a[k] = b[k]
    · rw [if_pos h] at hb
      obtain ⟨x, e, hx⟩ := OH hl hlb n hn m (k + 1) (by omega) (by omega)
      have hc : hY (a.drop k) (b.drop k) = hY (a.drop (k + 1)) (b.drop (k + 1)) := by
        rw [ea, eb]; unfold hY; rw [gW, if_pos h]
      refine ⟨x, ?_, by rw [hc]; exact hx⟩
      rw [fE hb]
      rw [show ((k + 1 : Nat) : Int) - 1 = (k : Int) by omega] at e
      exact e
    · rw [if_neg h] at hb
      refine ⟨_, cN hb, .inr ⟨k, rfl, h1, h2, ?_⟩⟩
      rw [ea, eb]; unfold hY; rw [gW, if_neg h]
      simp [List.getD_eq_getElem?_getD, h1, h2]

theorem UA (a b : List aB) : qK a b = some (if jJ a && jJ b then hY a b else 0) := by
  unfold qK
  rw [HL]
  simp only [Option.bind_some]
  cases ha : jJ a
  · simp [dF]
  · simp only [Bool.not_true, Bool.not_false, dF, cond_true, HL, Option.bind_some, Bool.false_or]
    cases hb : jJ b
    · simp
    · obtain ⟨la, ma⟩ := vP ha
      obtain ⟨lb, mb⟩ := vP hb
      have hif : (if ((List.length b : Nat) : Int) < ((List.length a : Nat) : Int) then ((List.length b : Nat) : Int) else ((List.length a : Nat) : Int)) = ((min a.length b.length : Nat) : Int) := by split <;> omega
      have hlt : (a.take (min a.length b.length)).length = min a.length b.length := by rw [List.length_take]; omega
      simp only [Bool.not_true, cond_false, hif, Int.toNat_natCast, rF, Option.bind_some, gL, gI, hlt, Bool.and_self, if_true]
      rw [aK ⟨by omega, by omega⟩]
      obtain ⟨x, e, hx⟩ := OH (a := a) (b := b) la lb _ rfl _ 0 rfl (Nat.zero_le _)
      have e' : lp (fun s : Int × Int => cB (fun st y0 => (jI y0 st b).bind fun o => some (o.2, o.1)) (a.take (min a.length b.length)) (min a.length b.length : Nat) s.1 s.2) ((-1 : Int), (0 : Int)) = some x := e
      rw [e']
      simp only [List.drop_zero] at hx
      rcases hx with ⟨sg, rfl, h⟩ | ⟨i, rfl, h1, h2, h⟩
      · simp [eR, SX, h]
      · have hi : decide ((i : Int) < 0) = false := by simp
        simp only [Option.bind_some, Sum.elim_inr, hi, cond_false, Int.toNat_natCast]
        rw [aK ⟨by omega, by omega⟩, aK ⟨by omega, by omega⟩]
        have g1 : a.getD i default ∈ a := by simp [List.getD_eq_getElem?_getD, h1]
        have g2 : b.getD i default ∈ b := by simp [List.getD_eq_getElem?_getD, h2]
        rw [TC (ma _ g1) (mb _ g2), h]
        simp only [Option.bind_some]

theorem XH {s : ByteArray} {i : Nat} (h : i < s.data.toList.length) : bt s (i : Int) = ((s.data.toList[i]).toNat : Int) := by
  have h' : i < s.data.size := by simpa using h
  unfold bt
  simp only [Int.toNat_natCast, Array.getElem_toList]
  rw [Array.getD_eq_getD_getElem?, Array.getElem?_eq_getElem h']
  rfl

theorem KS {a b : aB} (ha : a.Text.size ≤ 64) (hb : b.Text.size ≤ 64) : ∀ (m k : Nat), min a.Text.size b.Text.size - k = m → k ≤ min a.Text.size b.Text.size →
    ∃ x, lp (fun s => iA a b s) (k : Int) = some x ∧
      ((x = .inl () ∧ gW wN (a.Text.data.toList.drop k) (b.Text.data.toList.drop k) = mB a.Text.size b.Text.size) ∨ (∃ v, x = .inr v ∧ gW wN (a.Text.data.toList.drop k) (b.Text.data.toList.drop k) = v))
  | 0, k, hm, hk => by
    have hsa : a.Text.data.toList.length = a.Text.size := by rw [Array.length_toList]; rfl
    have hsb : b.Text.data.toList.length = b.Text.size := by rw [Array.length_toList]; rfl
    refine ⟨.inl (), cN ?_, .inl ⟨rfl, ?_⟩⟩
    · show iA a b _ = _
      have : ((decide ((k : Int) < ((ByteArray.size a.Text : Nat) : Int))) && (decide ((k : Int) < ((ByteArray.size b.Text : Nat) : Int)))) = false := by
        rw [Bool.and_eq_false_iff]
        simp only [decide_eq_false_iff_not]
        omega
      simp only [iA, this, cond_false]
    · by_cases h1 : a.Text.size ≤ k
      · rw [List.drop_eq_nil_of_le (by omega)]
        by_cases h2 : b.Text.size ≤ k
        · rw [List.drop_eq_nil_of_le (by omega)]
          have : a.Text.size = b.Text.size := by omega
          rw [this, yS]; rfl
        · rw [List.drop_eq_getElem_cons (by omega)]
          show (-1 : Int) = _
          unfold mB; rw [if_pos (by omega)]
      · have h2 : b.Text.size ≤ k := by omega
        rw [@List.drop_eq_nil_of_le _ b.Text.data.toList k (by omega), List.drop_eq_getElem_cons (by omega)]
        show (1 : Int) = _
        unfold mB; rw [if_neg (by omega), if_pos (by omega)]
  | m + 1, k, hm, hk => by
    have hsa : a.Text.data.toList.length = a.Text.size := by rw [Array.length_toList]; rfl
    have hsb : b.Text.data.toList.length = b.Text.size := by rw [Array.length_toList]; rfl
    have h1 : k < a.Text.data.toList.length := by omega
    have h2 : k < b.Text.data.toList.length := by omega
    have c1 : decide ((k : Int) < ((ByteArray.size a.Text : Nat) : Int)) = true := by simp; omega
    have c2 : decide ((k : Int) < ((ByteArray.size b.Text : Nat) : Int)) = true := by simp; omega
    have p1 : 0 ≤ (k : Int) ∧ (k : Int) < ((ByteArray.size a.Text : Nat) : Int) := ⟨by omega, by omega⟩
    have p2 : 0 ≤ (k : Int) ∧ (k : Int) < ((ByteArray.size b.Text : Nat) : Int) := ⟨by omega, by omega⟩
    have hw : IntKind.i64.wrap ((k : Int) + 1) = ((k + 1 : Nat) : Int) := by rw [gM (by omega) (by omega)]; omega
    have ea := List.drop_eq_getElem_cons h1
    have eb := List.drop_eq_getElem_cons h2
    have hb' : iA a b (k : Int) = some (if a.Text.data.toList[k] = b.Text.data.toList[k] then .inl ((k + 1 : Nat) : Int) else .inr (.inr (wN a.Text.data.toList[k] b.Text.data.toList[k]))) := by
      simp only [iA, c1, c2, Bool.and_self, cond_true, aK p1, aK p2, XH h1, XH h2, hw]
      generalize a.Text.data.toList[k] = x
      generalize b.Text.data.toList[k] = y
      by_cases e : x = y
      · subst e; simp
      · have e' : ¬ ((x.toNat : Int) = (y.toNat : Int)) := fun h => e (UInt8.toNat_inj.1 (by omega))
        simp only [e', decide_false, Bool.not_false, cond_true, if_neg e]
        unfold wN
        simp only [UInt8.lt_iff_toNat_lt]
        by_cases l : x.toNat < y.toNat
        · have : ((x.toNat : Int) < (y.toNat : Int)) := by omega
          simp [l]
        · have l2 : y.toNat < x.toNat := by
            rcases Nat.lt_or_ge y.toNat x.toNat with h | h
            · exact h
            · exact absurd (UInt8.toNat_inj.1 (by omega)) e
          simp [l, l2]
    by_cases e : a.Text.data.toList[k] = b.Text.data.toList[k]
    · rw [if_pos e] at hb'
      obtain ⟨x, hx1, hx2⟩ := KS ha hb m (k + 1) (by omega) (by omega)
      refine ⟨x, by rw [fE (show (fun s => iA a b s) (k : Int) = _ from hb')]; exact hx1, ?_⟩
      rw [ea, eb, gW, if_pos e]; exact hx2
    · rw [if_neg e] at hb'
      refine ⟨_, cN (show (fun s => iA a b s) (k : Int) = _ from hb'), .inr ⟨_, rfl, ?_⟩⟩
      rw [ea, eb, gW, if_neg e]

theorem IL {v : aB} (h : pO v = true) : v.Text.size ≤ 64 := by
  rcases DE h with h | ⟨_, h⟩
  · rw [(xL h).2]; decide
  · exact (vZ h).2.2

theorem IZ {v : aB} (h : pO v = true) : v.Kind = 1 ∨ v.Kind = 2 := by
  rcases DE h with h | ⟨_, h⟩
  · exact .inl (xL h).1
  · exact .inr (vZ h).1

theorem LH {a b : aB} (ha : pO a = true) (hb : pO b = true) : nW a b = some (uF a b) := by
  unfold nW
  simp only [FD, ha, hb, Option.bind_some, Bool.not_true, Bool.not_false, dF, cond_true, Bool.or_self, cond_false]
  unfold uF
  by_cases hk : a.Kind = b.Kind
  · rw [if_pos hk]
    by_cases hn : a.Num = b.Num
    · rw [if_pos hn]
      simp only [hk, hn, decide_true, Bool.not_true, cond_false, pM]
      obtain ⟨x, e, hx⟩ := KS (IL ha) (IL hb) _ 0 rfl (Nat.zero_le _)
      simp only [Int.natCast_zero, List.drop_zero] at e hx
      rw [e]
      have ht : HM a.Text b.Text = gW wN a.Text.data.toList b.Text.data.toList := rfl
      rcases hx with ⟨rfl, h⟩ | ⟨v, rfl, h⟩
      · rw [ht, h]
        simp only [Option.bind_some, Sum.elim_inl, nH]
        unfold mB
        by_cases h1 : a.Text.size = b.Text.size
        · have h1' : ((a.Text.size : Nat) : Int) = ((b.Text.size : Nat) : Int) := by omega
          simp [h1']
        · have h1' : ¬ ((a.Text.size : Nat) : Int) = ((b.Text.size : Nat) : Int) := by omega
          by_cases h2 : ((a.Text.size : Nat) : Int) < ((b.Text.size : Nat) : Int)
          · simp only [h1', h2, decide_false, decide_true, Bool.not_false, cond_true, if_true]
          · have h3 : ((b.Text.size : Nat) : Int) < ((a.Text.size : Nat) : Int) := by omega
            simp only [h1', h2, h3, decide_false, Bool.not_false, cond_true, cond_false, if_true, if_false]
      · rw [ht, h]; rfl
    · rw [if_neg hn]
      simp only [hk, hn, decide_true, decide_false, Bool.not_true, Bool.not_false, cond_false, cond_true]
      unfold mB
      by_cases h1 : a.Num < b.Num
      · simp [h1]
      · have h2 : b.Num < a.Num := by omega
        simp [h1, h2]
  · rw [if_neg hk]
    simp only [hk, decide_false, Bool.not_false, cond_true]
    rcases IZ ha with h1 | h1 <;> rcases IZ hb with h2 | h2
    · exact absurd (h1.trans h2.symm) hk
    · rw [h1, h2]; rfl
    · rw [h1, h2]; rfl
    · exact absurd (h1.trans h2.symm) hk

theorem IV {a b : List aB} (ha : jJ a = true) (hb : jJ b = true) : ∀ (m k : Nat), min a.length b.length - k = m → k ≤ min a.length b.length →
    ∃ x, lp (fun s => iF a b s) (k : Int) = some x ∧ ((x = .inl () ∧ hY (a.drop k) (b.drop k) = mB a.length b.length) ∨ (∃ v, x = .inr v ∧ hY (a.drop k) (b.drop k) = v))
  | 0, k, hm, hk => by
    refine ⟨.inl (), cN ?_, .inl ⟨rfl, LJ (by omega) (by omega) (by omega)⟩⟩
    show iF a b _ = _
    have : ((decide ((k : Int) < ((a.length : Nat) : Int))) && (decide ((k : Int) < ((b.length : Nat) : Int)))) = false := by
      rw [Bool.and_eq_false_iff]
      simp only [decide_eq_false_iff_not]
      omega
    simp only [iF, this, cond_false]
  | m + 1, k, hm, hk => by
    obtain ⟨la, ma⟩ := vP ha
    obtain ⟨lb, mb⟩ := vP hb
    have h1 : k < a.length := by omega
    have h2 : k < b.length := by omega
    obtain ⟨d1, d2, d3, d4⟩ := idx (List.getElem?_eq_getElem h1) (by omega)
    obtain ⟨e1, e2, e3, _⟩ := idx (List.getElem?_eq_getElem h2) (by omega)
    have ea := List.drop_eq_getElem_cons h1
    have eb := List.drop_eq_getElem_cons h2
    have hb' : iF a b (k : Int) = some (if a[k] = b[k] then .inl ((k + 1 : Nat) : Int) else .inr (.inr (uF a[k] b[k]))) := by
      simp only [iF, d1, e1, Bool.and_self, cond_true, aK d2, aK e2, d3, e3, d4, LH (ma _ (List.getElem_mem h1)) (mb _ (List.getElem_mem h2)), Option.bind_some]
      by_cases h : a[k] = b[k]
      · have := (AB.eq a[k] b[k]).2 h
        simp [h, (AB.eq b[k] b[k]).2 rfl]
      · have : ¬ uF a[k] b[k] = 0 := fun h' => h ((AB.eq _ _).1 h')
        simp [h, this]
    by_cases h : a[k] = b[k]
    · rw [if_pos h] at hb'
      obtain ⟨x, hx1, hx2⟩ := IV ha hb m (k + 1) (by omega) (by omega)
      refine ⟨x, by rw [fE (show (fun s => iF a b s) (k : Int) = _ from hb')]; exact hx1, ?_⟩
      have hc : hY (a.drop k) (b.drop k) = hY (a.drop (k + 1)) (b.drop (k + 1)) := by
        rw [ea, eb]; unfold hY; rw [gW, if_pos h]
      rw [hc]; exact hx2
    · rw [if_neg h] at hb'
      refine ⟨_, cN (show (fun s => iF a b s) (k : Int) = _ from hb'), .inr ⟨_, rfl, ?_⟩⟩
      rw [ea, eb]; unfold hY; rw [gW, if_neg h]

theorem BJ (a b : List aB) (hla : a.length ≤ 17592186044416) (hlb : b.length ≤ 17592186044416) : mE a b = some (if jJ a && jJ b then hY a b else 0) := by
  unfold mE
  rw [AQ a (by omega)]
  simp only [Option.bind_some]
  cases ha : jJ a
  · simp [dF]
  · simp only [Bool.not_true, Bool.not_false, dF, cond_true, AQ b (by omega), Option.bind_some, Bool.false_or]
    cases hb : jJ b
    · simp
    · simp only [Bool.not_true, cond_false, pP, Bool.and_self, if_true]
      obtain ⟨x, e, hx⟩ := IV ha hb _ 0 rfl (Nat.zero_le _)
      simp only [Int.natCast_zero, List.drop_zero] at e hx
      rw [e]
      rcases hx with ⟨rfl, h⟩ | ⟨v, rfl, h⟩
      · rw [h]
        simp only [Option.bind_some, Sum.elim_inl, nF]
        unfold mB
        by_cases h1 : a.length < b.length
        · simp [h1]
        · by_cases h2 : b.length < a.length <;> simp [h1, h2]
      · rw [h]; rfl

end Go.Abs
namespace Go.Abs
open Go
def jE (e : aL) : aI := ⟨e.At, e.Net⟩

def gA (r : List aB) (f : List aI) : List aL → List (List aB × List aI)
  | [] => [(r, f)]
  | e :: l => if e.Row = r then gA r (f ++ [jE e]) l else (r, f) :: gA e.Row [jE e] l

def groups : List aL → List (List aB × List aI)
  | [] => []
  | e :: l => gA e.Row [jE e] l

def itG {σ : Type} (y : σ → List aB → List aI → Option (σ × Bool)) : List (List aB × List aI) → σ → Option σ
  | [], s => some s
  | g :: gs, s => (y s g.1 g.2).bind fun x => if x.2 then itG y gs x.1 else some x.1

def okL (l : List aL) : Prop := l.length ≤ 3518437208783 ∧ ∀ e ∈ l, e.Row.length ≤ 4398046510976

theorem RI {r : List aB} (h : r.length ≤ 4398046510976) : uX r = some r := by
  unfold uX
  rw [aK ⟨by omega, by omega, by omega⟩, aK (by simp only [List.length_nil, Nat.zero_add]; omega)]
  rfl

theorem GK {σ : Type} {y : σ → List aB → List aI → Option (σ × Bool)} {l : List aL} (hl : okL l) (row : List aB) (sg : σ) : ∀ (r : List aL) (k : Nat) (f : List aI), l.drop k = r → k ≤ l.length → f.length ≤ k →
    ∃ k' f', k ≤ k' ∧ k' ≤ l.length ∧ f'.length ≤ k' ∧ lp (fun s : σ × Int × List aI => jC y l row s.1 s.2.1 s.2.2) (sg, (k : Int), f) = some (sg, ((k' : Nat) : Int), f') ∧
      gA row f r = (row, f') :: groups (l.drop k') ∧ (∀ e r', r = e :: r' → e.Row = row → k < k')
  | [], k, f, hd, hk, hf => by
    have : k = l.length := by
      have := congrArg List.length hd
      simp only [List.length_drop, List.length_nil] at this; omega
    subst this
    refine ⟨l.length, f, Nat.le_refl _, Nat.le_refl _, hf, cN ?_, by simp [gA, groups], fun e r' h => by cases h⟩
    show jC _ _ _ _ _ _ = _
    simp only [jC, iJ, dF, cond_false, Option.bind_some, Bool.false_and]
    exact aK (fun h => by cases h)
  | a :: r, k, f, hd, hk, hf => by
    obtain ⟨h1, h2⟩ := drop_cons hd
    have hlt : k < l.length := (List.getElem?_eq_some_iff.1 h1).1
    obtain ⟨hll, hlr⟩ := hl
    obtain ⟨d1, d2, d3, d4⟩ := idx h1 (by omega)
    have har := hlr a (List.mem_of_getElem? h1)
    have hb : (fun s : σ × Int × List aI => jC y l row s.1 s.2.1 s.2.2) (sg, (k : Int), f) = some (if a.Row = row then .inl (sg, ((k + 1 : Nat) : Int), f ++ [jE a]) else .inr (sg, (k : Int), f)) := by
      show jC _ _ _ _ _ _ = _
      simp only [jC, d1, d3, d4, dF, cond_true, PX a.Row row (by omega), Option.bind_some, Bool.true_and]
      rw [aK (fun _ => d2)]
      by_cases e : a.Row = row
      · simp only [e, decide_true, cond_true, if_true]
        rw [aK d2, aK d2, aK (by simp only [List.length_cons, List.length_nil]; omega)]
        rfl
      · simp [e]
    by_cases e : a.Row = row
    · rw [if_pos e] at hb
      obtain ⟨k', f', g1, g2, g3, g4, g5, _⟩ := GK ⟨hll, hlr⟩ row sg r (k + 1) (f ++ [jE a]) h2 (by omega) (by simp; omega) (y := y)
      refine ⟨k', f', by omega, g2, g3, by rw [fE hb]; exact g4, by simp [gA, e, g5], fun _ _ _ _ => by omega⟩
    · rw [if_neg e] at hb
      refine ⟨k, f, Nat.le_refl _, hk, hf, cN hb, ?_, fun b r' h hr => by cases h; exact absurd hr e⟩
      rw [hd]; simp [gA, e, groups]

end Go.Abs
