/- What the law SnapParts stands on: the framework, the given functions as plain functions, their walks, and the plain laws; part 4. -/
import Derived.Test.YtfhaegpflbcmgaaSnapPartsZ3
set_option linter.unusedSimpArgs false
set_option linter.unusedVariables false
namespace Go.Abs
open Go Go.RowKit Go.Proofs
theorem wN (lo0p : Nat) (aA : (List Int)) (a1 : Int) (b2 : Int) (cL : Int) (r : ((Int × Bool) × List Int)) (h0 : fV aA a1 b2 cL = some r) : mJ Try.prog 86 lo0p 1 (List.map (eI) aA) (List.map (eI) r.2) [(.msl 1 lo0p 0 (List.length aA)), (eI a1), (eI b2), (eI cL)] (.tup [(eI r.1.1), (aE r.1.2)]) := by
  intro H0 hl0
  refine dG Try.func86 ?_
  have hO := aJ.sW hl0
  clear hl0
  obtain ⟨N0, hN0⟩ : ∃ n, n = List.length aA := ⟨_, rfl⟩
  have hN : List.length aA = N0 := hN0.symm
  unfold fV at h0
  refine aT aD 2 [] [] ?_
  refine aN ?_
  refine fD (fC []) aD 16 ?_
  obtain ⟨c1, h0⟩ := aU h0
  refine cH 7 [0 ≤ cL ∧ cL < (lN aA)] ⟨c1, trivial⟩ ?_
  refine gY 0 lo0p 1 (0 + Int.toNat cL) (eI (gD aA cL)) (eI (gD aA cL)) (List.map (eI) aA) hO (cD c1) ?_
  obtain ⟨c2, h0⟩ := aU h0
  refine cH 11 [0 ≤ a1 ∧ a1 < (lN aA)] ⟨c2, trivial⟩ ?_
  refine gY 0 lo0p 1 (0 + Int.toNat a1) (eI (gD aA a1)) (eI (gD aA a1)) (List.map (eI) aA) hO (cD c2) ?_
  obtain ⟨c3, h0⟩ := aU h0
  refine cH 13 [0 ≤ a1 ∧ a1 < (lN aA)] ⟨c3, trivial⟩ ?_
  refine kG 0 lo0p 1 (0 + Int.toNat a1) (eI (gD aA a1)) (eI (gD aA cL)) (List.map (eI) aA) [(lo0p, 1, List.map (eI) (List.set aA (Int.toNat a1) (gD aA cL)))] hO (cD c3) (by simp only [List.set, gV]) ?_
  intro H hO
  replace hN : List.length (List.set aA (Int.toNat a1) (gD aA cL)) = N0 := by simpa using hN
  obtain ⟨c4, h0⟩ := aU h0
  refine cH 15 [0 ≤ cL ∧ cL < (lN aA)] ⟨c4, trivial⟩ ?_
  refine kG 0 lo0p 1 (0 + Int.toNat cL) (eI (gD (List.set aA (Int.toNat a1) (gD aA cL)) cL)) (eI (gD aA a1)) (List.map (eI) (List.set aA (Int.toNat a1) (gD aA cL))) [(lo0p, 1, List.map (eI) (List.set (List.set aA (Int.toNat a1) (gD aA cL)) (Int.toNat cL) (gD aA a1)))] hO (mF c4 (by simp [])) (by simp only [List.set, gV]) ?_
  intro H hO
  replace hN : List.length (List.set (List.set aA (Int.toNat a1) (gD aA cL)) (Int.toNat cL) (gD aA a1)) = N0 := by simpa using hN
  refine mR (by kernel_rfl) ?_
  refine cX (l := [(0, (.msl 1 lo0p 0 (List.length (List.set (List.set aA (Int.toNat a1) (gD aA cL)) (Int.toNat cL) (gD aA a1))))), (1, (eI a1)), (2, (eI b2))]) ⟨[(0, (.msl 1 lo0p 0 (List.length aA))), (1, (eI a1)), (2, (eI b2))], by kernel_rfl, rfl, ⟨aO.eq (by simp []), aO.refl _, aO.refl _, trivial⟩⟩ ?_
  refine aG (aF (?_))
  refine aT aD 6 [2] [(10, (eI (wR (a1 + (1 : Int))))), (11, (eI (wR (b2 - (1 : Int)))))] ?_
  refine dN (fun T H => ∃ aA : List Int, ∃ i10 : Int, ∃ j11 : Int, Has T [(0, (.msl 1 lo0p 0 (List.length aA))), (1, (eI a1)), (10, (eI i10)), (11, (eI j11))] ∧ aJ ⟨H0, [lo0p], []⟩ H [(lo0p, 1, List.map (eI) aA)] ∧ List.length aA = N0 ∧ iC aA a1 i10 j11 = some r) ?_ ?_
  · clear hO hN h0
    rintro T H ⟨aA, i10, j11, hT, hO, hN, h0⟩
    refine aY hT ?_
    clear hT
    unfold iC at h0
    refine dN (fun T H => ∃ aA : List Int, ∃ j11 : Int, Has T [(0, (.msl 1 lo0p 0 (List.length aA))), (1, (eI a1)), (10, (eI i10)), (11, (eI j11))] ∧ aJ ⟨H0, [lo0p], []⟩ H [(lo0p, 1, List.map (eI) aA)] ∧ List.length aA = N0 ∧ eO aA a1 i10 j11 = some r) ?_ ?_
    · clear hO hN h0
      rintro T H ⟨aA, j11, hT, hO, hN, h0⟩
      refine aY hT ?_
      clear hT
      unfold eO at h0
      refine aN ?_
      refine aT aD 3 [] [(65, (aE (decide (j11 < i10))))] ?_
      refine bF h0 (fun h0 => ?_) (fun h0 => ?_)
      · refine aN ?_
        refine fD (fC []) aD 16 ?_
        obtain ⟨c6, h0⟩ := aU h0
        refine cH 7 [0 ≤ a1 ∧ a1 < (lN aA)] ⟨c6, trivial⟩ ?_
        refine gY 0 lo0p 1 (0 + Int.toNat a1) (eI (gD aA a1)) (eI (gD aA a1)) (List.map (eI) aA) hO (cD c6) ?_
        obtain ⟨c7, h0⟩ := aU h0
        refine cH 11 [0 ≤ j11 ∧ j11 < (lN aA)] ⟨c7, trivial⟩ ?_
        refine gY 0 lo0p 1 (0 + Int.toNat j11) (eI (gD aA j11)) (eI (gD aA j11)) (List.map (eI) aA) hO (cD c7) ?_
        obtain ⟨c8, h0⟩ := aU h0
        refine cH 13 [0 ≤ j11 ∧ j11 < (lN aA)] ⟨c8, trivial⟩ ?_
        refine kG 0 lo0p 1 (0 + Int.toNat j11) (eI (gD aA j11)) (eI (gD aA a1)) (List.map (eI) aA) [(lo0p, 1, List.map (eI) (List.set aA (Int.toNat j11) (gD aA a1)))] hO (cD c8) (by simp only [List.set, gV]) ?_
        intro H hO
        replace hN : List.length (List.set aA (Int.toNat j11) (gD aA a1)) = N0 := by simpa using hN
        obtain ⟨c9, h0⟩ := aU h0
        refine cH 15 [0 ≤ a1 ∧ a1 < (lN aA)] ⟨c9, trivial⟩ ?_
        refine kG 0 lo0p 1 (0 + Int.toNat a1) (eI (gD (List.set aA (Int.toNat j11) (gD aA a1)) a1)) (eI (gD aA j11)) (List.map (eI) (List.set aA (Int.toNat j11) (gD aA a1))) [(lo0p, 1, List.map (eI) (List.set (List.set aA (Int.toNat j11) (gD aA a1)) (Int.toNat a1) (gD aA j11)))] hO (mF c9 (by simp [])) (by simp only [List.set, gV]) ?_
        intro H hO
        replace hN : List.length (List.set (List.set aA (Int.toNat j11) (gD aA a1)) (Int.toNat a1) (gD aA j11)) = N0 := by simpa using hN
        refine mR (by kernel_rfl) ?_
        refine cX (l := [(0, (.msl 1 lo0p 0 (List.length (List.set (List.set aA (Int.toNat j11) (gD aA a1)) (Int.toNat a1) (gD aA j11))))), (11, (eI j11))]) ⟨[(0, (.msl 1 lo0p 0 (List.length aA))), (11, (eI j11))], by kernel_rfl, rfl, ⟨aO.eq (by simp []), aO.refl _, trivial⟩⟩ ?_
        refine aG (aF (?_))
        refine aT aD 3 [11] [(8, (eI j11)), (9, (aE true))] ?_
        refine bK ?_
        obtain rfl := oI h0
        exact aG (aP (mK (x := (.tup [(eI j11), (aE true)])) (by kernel_rfl) (aO.refl _) ⟨rfl, hO.ext, hO.at 0 (by kernel_rfl), by simp only [List.length_map]; exact hN.trans hN0⟩))
      refine bG ?_
      refine bI [(0, (.msl 1 lo0p 0 (List.length aA))), (1, (eI a1)), (10, (eI i10)), (11, (eI j11))] ?_
      refine aN ?_
      refine fD (fC []) aD 16 ?_
      obtain ⟨c10, h0⟩ := aU h0
      refine cH 7 [0 ≤ j11 ∧ j11 < (lN aA)] ⟨c10, trivial⟩ ?_
      refine gY 0 lo0p 1 (0 + Int.toNat j11) (eI (gD aA j11)) (eI (gD aA j11)) (List.map (eI) aA) hO (cD c10) ?_
      obtain ⟨c11, h0⟩ := aU h0
      refine cH 11 [0 ≤ i10 ∧ i10 < (lN aA)] ⟨c11, trivial⟩ ?_
      refine gY 0 lo0p 1 (0 + Int.toNat i10) (eI (gD aA i10)) (eI (gD aA i10)) (List.map (eI) aA) hO (cD c11) ?_
      obtain ⟨c12, h0⟩ := aU h0
      refine cH 13 [0 ≤ i10 ∧ i10 < (lN aA)] ⟨c12, trivial⟩ ?_
      refine kG 0 lo0p 1 (0 + Int.toNat i10) (eI (gD aA i10)) (eI (gD aA j11)) (List.map (eI) aA) [(lo0p, 1, List.map (eI) (List.set aA (Int.toNat i10) (gD aA j11)))] hO (cD c12) (by simp only [List.set, gV]) ?_
      intro H hO
      replace hN : List.length (List.set aA (Int.toNat i10) (gD aA j11)) = N0 := by simpa using hN
      obtain ⟨c13, h0⟩ := aU h0
      refine cH 15 [0 ≤ j11 ∧ j11 < (lN aA)] ⟨c13, trivial⟩ ?_
      refine kG 0 lo0p 1 (0 + Int.toNat j11) (eI (gD (List.set aA (Int.toNat i10) (gD aA j11)) j11)) (eI (gD aA i10)) (List.map (eI) (List.set aA (Int.toNat i10) (gD aA j11))) [(lo0p, 1, List.map (eI) (List.set (List.set aA (Int.toNat i10) (gD aA j11)) (Int.toNat j11) (gD aA i10)))] hO (mF c13 (by simp [])) (by simp only [List.set, gV]) ?_
      intro H hO
      replace hN : List.length (List.set (List.set aA (Int.toNat i10) (gD aA j11)) (Int.toNat j11) (gD aA i10)) = N0 := by simpa using hN
      refine mR (by kernel_rfl) ?_
      refine cX (l := [(0, (.msl 1 lo0p 0 (List.length (List.set (List.set aA (Int.toNat i10) (gD aA j11)) (Int.toNat j11) (gD aA i10))))), (1, (eI a1)), (10, (eI i10)), (11, (eI j11))]) ⟨[(0, (.msl 1 lo0p 0 (List.length aA))), (1, (eI a1)), (10, (eI i10)), (11, (eI j11))], by kernel_rfl, rfl, ⟨aO.eq (by simp []), aO.refl _, aO.refl _, aO.refl _, trivial⟩⟩ ?_
      refine aG (aF (?_))
      refine aT aD 3 [10] [(10, (eI (wR (i10 + (1 : Int)))))] ?_
      refine aT aD 3 [11] [(11, (eI (wR (j11 - (1 : Int)))))] ?_
      refine dN (fun T H => ∃ aA : List Int, ∃ j11 : Int, Has T [(0, (.msl 1 lo0p 0 (List.length aA))), (1, (eI a1)), (11, (eI j11))] ∧ aJ ⟨H0, [lo0p], []⟩ H [(lo0p, 1, List.map (eI) aA)] ∧ List.length aA = N0 ∧ iA aA a1 j11 = some r) ?_ ?_
      · clear hO hN h0
        rintro T H ⟨aA, j11, hT, hO, hN, h0⟩
        refine aY hT ?_
        clear hT
        unfold iA at h0
        refine aN ?_
        refine fD (fC []) aD 16 ?_
        obtain ⟨c14, h0⟩ := aU h0
        refine cH 7 [0 ≤ a1 ∧ a1 < (lN aA)] ⟨c14, trivial⟩ ?_
        refine gY 0 lo0p 1 (0 + Int.toNat a1) (eI (gD aA a1)) (eI (gD aA a1)) (List.map (eI) aA) hO (cD c14) ?_
        obtain ⟨c15, h0⟩ := aU h0
        refine cH 11 [0 ≤ j11 ∧ j11 < (lN aA)] ⟨c15, trivial⟩ ?_
        refine gY 0 lo0p 1 (0 + Int.toNat j11) (eI (gD aA j11)) (eI (gD aA j11)) (List.map (eI) aA) hO (cD c15) ?_
        obtain ⟨c16, h0⟩ := aU h0
        refine cH 13 [0 ≤ j11 ∧ j11 < (lN aA)] ⟨c16, trivial⟩ ?_
        refine kG 0 lo0p 1 (0 + Int.toNat j11) (eI (gD aA j11)) (eI (gD aA a1)) (List.map (eI) aA) [(lo0p, 1, List.map (eI) (List.set aA (Int.toNat j11) (gD aA a1)))] hO (cD c16) (by simp only [List.set, gV]) ?_
        intro H hO
        replace hN : List.length (List.set aA (Int.toNat j11) (gD aA a1)) = N0 := by simpa using hN
        obtain ⟨c17, h0⟩ := aU h0
        refine cH 15 [0 ≤ a1 ∧ a1 < (lN aA)] ⟨c17, trivial⟩ ?_
        refine kG 0 lo0p 1 (0 + Int.toNat a1) (eI (gD (List.set aA (Int.toNat j11) (gD aA a1)) a1)) (eI (gD aA j11)) (List.map (eI) (List.set aA (Int.toNat j11) (gD aA a1))) [(lo0p, 1, List.map (eI) (List.set (List.set aA (Int.toNat j11) (gD aA a1)) (Int.toNat a1) (gD aA j11)))] hO (mF c17 (by simp [])) (by simp only [List.set, gV]) ?_
        intro H hO
        replace hN : List.length (List.set (List.set aA (Int.toNat j11) (gD aA a1)) (Int.toNat a1) (gD aA j11)) = N0 := by simpa using hN
        refine mR (by kernel_rfl) ?_
        refine cX (l := [(0, (.msl 1 lo0p 0 (List.length (List.set (List.set aA (Int.toNat j11) (gD aA a1)) (Int.toNat a1) (gD aA j11))))), (11, (eI j11))]) ⟨[(0, (.msl 1 lo0p 0 (List.length aA))), (11, (eI j11))], by kernel_rfl, rfl, ⟨aO.eq (by simp []), aO.refl _, trivial⟩⟩ ?_
        refine aG (aF (?_))
        refine aT aD 3 [11] [(8, (eI j11)), (9, (aE false))] ?_
        refine bK ?_
        obtain rfl := oI h0
        exact aG (mK (x := (.tup [(eI j11), (aE false)])) (by kernel_rfl) (aO.refl _) ⟨rfl, hO.ext, hO.at 0 (by kernel_rfl), by simp only [List.length_map]; exact hN.trans hN0⟩)
      refine cA 4 ?_
      refine eU [(0, (.msl 1 lo0p 0 (List.length (List.set (List.set aA (Int.toNat i10) (gD aA j11)) (Int.toNat j11) (gD aA i10))))), (1, (eI a1)), (10, (eI (wR (i10 + (1 : Int))))), (11, (eI (wR (j11 - (1 : Int)))))] ?_
      refine dS (fun T H => ∃ aA : List Int, ∃ i10 : Int, ∃ j11 : Int, Has T [(0, (.msl 1 lo0p 0 (List.length aA))), (1, (eI a1)), (10, (eI i10)), (11, (eI j11))] ∧ aJ ⟨H0, [lo0p], []⟩ H [(lo0p, 1, List.map (eI) aA)] ∧ List.length aA = N0 ∧ jS aA a1 i10 j11 = some r) ?_ ⟨List.set (List.set aA (Int.toNat i10) (gD aA j11)) (Int.toNat j11) (gD aA i10), wR (i10 + (1 : Int)), wR (j11 - (1 : Int)), .eq (by kernel_rfl), hO, hN, h0⟩
      clear hO hN h0
      rintro T H ⟨aA, i10, j11, hT, hO, hN, h0⟩
      refine aY hT ?_
      clear hT
      unfold jS at h0
      obtain ⟨rr0, hl0, h0⟩ := aX h0
      refine cS (by kernel_rfl) (fun (s : List Int × Int × Int) T H => Has T [(0, (.msl 1 lo0p 0 (List.length s.1))), (1, (eI a1)), (10, (eI s.2.1)), (11, (eI s.2.2))] ∧ aJ ⟨H0, [lo0p], []⟩ H [(lo0p, 1, List.map (eI) s.1)] ∧ List.length s.1 = N0) hl0 ⟨.eq (by kernel_rfl), hO, hN⟩ ?_
      clear hO hN
      rintro k0 s out1 T H ⟨hT, hO, hN⟩ h1 ho0
      obtain ⟨aA, i10, j11⟩ := s
      replace h1 : dH a1 aA i10 j11 = some out1 := h1
      try dsimp only at hT
      refine aY hT ?_
      clear hT
      unfold dH at h1
      refine cA 5 ?_
      refine dN (fun T H => ∃ aA : List Int, ∃ i10 : Int, Has T [(0, (.msl 1 lo0p 0 (List.length aA))), (1, (eI a1)), (10, (eI i10)), (11, (eI j11))] ∧ aJ ⟨H0, [lo0p], []⟩ H [(lo0p, 1, List.map (eI) aA)] ∧ List.length aA = N0 ∧ iD aA a1 i10 j11 = some out1) ?_ ?_
      · clear hO hN h1
        rintro T H ⟨aA, i10, hT, hO, hN, h1⟩
        refine aY hT ?_
        clear hT
        unfold iD at h1
        refine dN (fun T H => ∃ aA : List Int, ∃ j11 : Int, Has T [(0, (.msl 1 lo0p 0 (List.length aA))), (1, (eI a1)), (10, (eI i10)), (11, (eI j11))] ∧ aJ ⟨H0, [lo0p], []⟩ H [(lo0p, 1, List.map (eI) aA)] ∧ List.length aA = N0 ∧ eP aA a1 i10 j11 = some out1) ?_ ?_
        · clear hO hN h1
          rintro T H ⟨aA, j11, hT, hO, hN, h1⟩
          refine aY hT ?_
          clear hT
          unfold eP at h1
          refine aN ?_
          refine aT aD 3 [] [(134, (aE (decide (j11 < i10))))] ?_
          refine bF h1 (fun h1 => ?_) (fun h1 => ?_)
          · refine eX 4 ?_
            obtain rfl := oI h1
            obtain rfl : _ = rr0 := ho0
            replace h0 : iA aA a1 j11 = some r := h0
            exact aG (aR (rP (by kernel_rfl) (aR (bQ (aF (⟨rfl, _, _, .eq (by kernel_rfl), hO, hN, h0⟩))))))
          refine bG ?_
          refine bI [(0, (.msl 1 lo0p 0 (List.length aA))), (1, (eI a1)), (10, (eI i10)), (11, (eI j11))] ?_
          refine aN ?_
          refine fD (fC []) aD 16 ?_
          obtain ⟨c19, h1⟩ := aU h1
          refine cH 7 [0 ≤ j11 ∧ j11 < (lN aA)] ⟨c19, trivial⟩ ?_
          refine gY 0 lo0p 1 (0 + Int.toNat j11) (eI (gD aA j11)) (eI (gD aA j11)) (List.map (eI) aA) hO (cD c19) ?_
          obtain ⟨c20, h1⟩ := aU h1
          refine cH 11 [0 ≤ i10 ∧ i10 < (lN aA)] ⟨c20, trivial⟩ ?_
          refine gY 0 lo0p 1 (0 + Int.toNat i10) (eI (gD aA i10)) (eI (gD aA i10)) (List.map (eI) aA) hO (cD c20) ?_
          obtain ⟨c21, h1⟩ := aU h1
          refine cH 13 [0 ≤ i10 ∧ i10 < (lN aA)] ⟨c21, trivial⟩ ?_
          refine kG 0 lo0p 1 (0 + Int.toNat i10) (eI (gD aA i10)) (eI (gD aA j11)) (List.map (eI) aA) [(lo0p, 1, List.map (eI) (List.set aA (Int.toNat i10) (gD aA j11)))] hO (cD c21) (by simp only [List.set, gV]) ?_
          intro H hO
          replace hN : List.length (List.set aA (Int.toNat i10) (gD aA j11)) = N0 := by simpa using hN
          obtain ⟨c22, h1⟩ := aU h1
          refine cH 15 [0 ≤ j11 ∧ j11 < (lN aA)] ⟨c22, trivial⟩ ?_
          refine kG 0 lo0p 1 (0 + Int.toNat j11) (eI (gD (List.set aA (Int.toNat i10) (gD aA j11)) j11)) (eI (gD aA i10)) (List.map (eI) (List.set aA (Int.toNat i10) (gD aA j11))) [(lo0p, 1, List.map (eI) (List.set (List.set aA (Int.toNat i10) (gD aA j11)) (Int.toNat j11) (gD aA i10)))] hO (mF c22 (by simp [])) (by simp only [List.set, gV]) ?_
          intro H hO
          replace hN : List.length (List.set (List.set aA (Int.toNat i10) (gD aA j11)) (Int.toNat j11) (gD aA i10)) = N0 := by simpa using hN
          refine mR (by kernel_rfl) ?_
          refine cX (l := [(0, (.msl 1 lo0p 0 (List.length (List.set (List.set aA (Int.toNat i10) (gD aA j11)) (Int.toNat j11) (gD aA i10))))), (1, (eI a1)), (10, (eI i10)), (11, (eI j11))]) ⟨[(0, (.msl 1 lo0p 0 (List.length aA))), (1, (eI a1)), (10, (eI i10)), (11, (eI j11))], by kernel_rfl, rfl, ⟨aO.eq (by simp []), aO.refl _, aO.refl _, aO.refl _, trivial⟩⟩ ?_
          refine aG (aF (?_))
          refine aT aD 3 [10] [(10, (eI (wR (i10 + (1 : Int)))))] ?_
          refine aV aD 3 ?_
          refine bB ?_
          exact aG (aW (aF (⟨rfl, _, (oI h1).symm, .eq (by kernel_rfl), hO, hN⟩)))
        refine cA 8 ?_
        refine eU [(0, (.msl 1 lo0p 0 (List.length aA))), (1, (eI a1)), (10, (eI i10)), (11, (eI j11))] ?_
        refine dS (fun T H => ∃ aA : List Int, ∃ j11 : Int, Has T [(0, (.msl 1 lo0p 0 (List.length aA))), (1, (eI a1)), (10, (eI i10)), (11, (eI j11))] ∧ aJ ⟨H0, [lo0p], []⟩ H [(lo0p, 1, List.map (eI) aA)] ∧ List.length aA = N0 ∧ jP aA a1 i10 j11 = some out1) ?_ ⟨aA, j11, .eq (by kernel_rfl), hO, hN, h1⟩
        clear hO hN h1
        rintro T H ⟨aA, j11, hT, hO, hN, h1⟩
        refine aY hT ?_
        clear hT
        unfold jP at h1
        obtain ⟨rr1, hl1, h1⟩ := aX h1
        refine cS (by kernel_rfl) (fun (s : List Int × Int) T H => Has T [(0, (.msl 1 lo0p 0 (List.length s.1))), (1, (eI a1)), (10, (eI i10)), (11, (eI s.2))] ∧ aJ ⟨H0, [lo0p], []⟩ H [(lo0p, 1, List.map (eI) s.1)] ∧ List.length s.1 = N0) hl1 ⟨.eq (by kernel_rfl), hO, hN⟩ ?_
        clear hO hN
        rintro k1 s out2 T H ⟨hT, hO, hN⟩ h2 ho1
        obtain ⟨aA, j11⟩ := s
        replace h2 : eN a1 i10 aA j11 = some out2 := h2
        try dsimp only at hT
        refine aY hT ?_
        clear hT
        unfold eN at h2
        refine aN ?_
        refine aN ?_
        obtain ⟨c23, h2⟩ := aU h2
        obtain ⟨c24, h2⟩ := aU h2
        obtain ⟨x25, hx26, h2⟩ := aX h2
        refine fD (fC []) aD 15 ?_
        refine lZ (K := fun T H => Has (lift T) [(0, (.msl 1 lo0p 0 (List.length aA))), (1, (eI a1)), (10, (eI i10)), (11, (eI j11)), (129, (aE ((decide (i10 ≤ j11)) && (!x25))))] ∧ aJ ⟨H0, [lo0p], []⟩ H [(lo0p, 1, List.map (eI) aA)]) ?_ ?_
        · refine mZ 4 ?_
          refine kP (t := 118) (e := decide (i10 ≤ j11)) (by kernel_rfl) (fun hg27 => ?_) (fun hg27 => ?_)
          · refine cH 7 [0 ≤ j11 ∧ j11 < (lN aA)] ⟨(c23 hg27), trivial⟩ ?_
            refine jA 0 lo0p 1 (0 + Int.toNat j11) (eI (gD aA j11)) (eI (gD aA j11)) (List.map (eI) aA) (by kernel_rfl) (by kernel_rfl) (by kernel_rfl) hO (by kernel_rfl) (cD (c23 hg27)) ?_
            refine cH 11 [0 ≤ a1 ∧ a1 < (lN aA)] ⟨(c24 hg27), trivial⟩ ?_
            refine jA 0 lo0p 1 (0 + Int.toNat a1) (eI (gD aA a1)) (eI (gD aA a1)) (List.map (eI) aA) (by kernel_rfl) (by kernel_rfl) (by kernel_rfl) hO (by kernel_rfl) (cD (c24 hg27)) ?_
            refine lO 70 [(eI (gD aA j11)), (eI (gD aA a1))] (aE x25) (by kernel_rfl) (by kernel_rfl) (fO (gD aA j11) (gD aA a1) _ (jG hx26 hg27)) hO ?_
            intro H hO
            refine iF ?_
            exact ⟨⟨[(0, (.msl 1 lo0p 0 (List.length aA))), (1, (eI a1)), (10, (eI i10)), (11, (eI j11)), (129, (aE (!x25)))], by kernel_rfl, rfl, ⟨aO.refl _, aO.refl _, aO.refl _, aO.refl _, aO.eq (congrArg aE (jH hg27 rfl).symm), trivial⟩⟩, hO⟩
          refine iF ?_
          exact ⟨⟨[(0, (.msl 1 lo0p 0 (List.length aA))), (1, (eI a1)), (10, (eI i10)), (11, (eI j11)), (129, (aE false))], by kernel_rfl, rfl, ⟨aO.refl _, aO.refl _, aO.refl _, aO.refl _, aO.eq (congrArg aE (jH hg27 rfl).symm), trivial⟩⟩, hO⟩
        · rintro T H ⟨hT, hO⟩
          refine cX hT ?_
          clear hT
          refine aG (aF ?_)
          refine bF h2 (fun h2 => ?_) (fun h2 => ?_)
          · refine bG ?_
            refine bI [(0, (.msl 1 lo0p 0 (List.length aA))), (1, (eI a1)), (10, (eI i10)), (11, (eI j11))] ?_
            refine cA 9 ?_
            refine aV aD 3 ?_
            refine bB ?_
            exact aG (aW (aF (⟨rfl, _, (oI h2).symm, .eq (by kernel_rfl), hO, hN⟩)))
          refine eX 8 ?_
          obtain rfl := oI h2
          obtain rfl : _ = rr1 := ho1
          replace h1 : eP aA a1 i10 j11 = some out1 := h1
          exact aG (aR (aR (bQ (aF (⟨rfl, _, _, .eq (by kernel_rfl), hO, hN, h1⟩)))))
      refine cA 6 ?_
      refine eU [(0, (.msl 1 lo0p 0 (List.length aA))), (1, (eI a1)), (10, (eI i10)), (11, (eI j11))] ?_
      refine dS (fun T H => ∃ aA : List Int, ∃ i10 : Int, Has T [(0, (.msl 1 lo0p 0 (List.length aA))), (1, (eI a1)), (10, (eI i10)), (11, (eI j11))] ∧ aJ ⟨H0, [lo0p], []⟩ H [(lo0p, 1, List.map (eI) aA)] ∧ List.length aA = N0 ∧ jU aA a1 i10 j11 = some out1) ?_ ⟨aA, i10, .eq (by kernel_rfl), hO, hN, h1⟩
      clear hO hN h1
      rintro T H ⟨aA, i10, hT, hO, hN, h1⟩
      refine aY hT ?_
      clear hT
      unfold jU at h1
      obtain ⟨rr1, hl1, h1⟩ := aX h1
      refine cS (by kernel_rfl) (fun (s : List Int × Int) T H => Has T [(0, (.msl 1 lo0p 0 (List.length s.1))), (1, (eI a1)), (10, (eI s.2)), (11, (eI j11))] ∧ aJ ⟨H0, [lo0p], []⟩ H [(lo0p, 1, List.map (eI) s.1)] ∧ List.length s.1 = N0) hl1 ⟨.eq (by kernel_rfl), hO, hN⟩ ?_
      clear hO hN
      rintro k1 s out2 T H ⟨hT, hO, hN⟩ h2 ho1
      obtain ⟨aA, i10⟩ := s
      replace h2 : eJ a1 j11 aA i10 = some out2 := h2
      try dsimp only at hT
      refine aY hT ?_
      clear hT
      unfold eJ at h2
      refine aN ?_
      refine aN ?_
      obtain ⟨c29, h2⟩ := aU h2
      obtain ⟨c30, h2⟩ := aU h2
      obtain ⟨x31, hx32, h2⟩ := aX h2
      refine fD (fC []) aD 14 ?_
      refine lZ (K := fun T H => Has (lift T) [(0, (.msl 1 lo0p 0 (List.length aA))), (1, (eI a1)), (10, (eI i10)), (11, (eI j11)), (112, (aE ((decide (i10 ≤ j11)) && x31)))] ∧ aJ ⟨H0, [lo0p], []⟩ H [(lo0p, 1, List.map (eI) aA)]) ?_ ?_
      · refine mZ 4 ?_
        refine kP (t := 102) (e := decide (i10 ≤ j11)) (by kernel_rfl) (fun hg33 => ?_) (fun hg33 => ?_)
        · refine cH 7 [0 ≤ i10 ∧ i10 < (lN aA)] ⟨(c29 hg33), trivial⟩ ?_
          refine jA 0 lo0p 1 (0 + Int.toNat i10) (eI (gD aA i10)) (eI (gD aA i10)) (List.map (eI) aA) (by kernel_rfl) (by kernel_rfl) (by kernel_rfl) hO (by kernel_rfl) (cD (c29 hg33)) ?_
          refine cH 11 [0 ≤ a1 ∧ a1 < (lN aA)] ⟨(c30 hg33), trivial⟩ ?_
          refine jA 0 lo0p 1 (0 + Int.toNat a1) (eI (gD aA a1)) (eI (gD aA a1)) (List.map (eI) aA) (by kernel_rfl) (by kernel_rfl) (by kernel_rfl) hO (by kernel_rfl) (cD (c30 hg33)) ?_
          refine lO 70 [(eI (gD aA i10)), (eI (gD aA a1))] (aE x31) (by kernel_rfl) (by kernel_rfl) (fO (gD aA i10) (gD aA a1) _ (jG hx32 hg33)) hO ?_
          intro H hO
          refine iF ?_
          exact ⟨⟨[(0, (.msl 1 lo0p 0 (List.length aA))), (1, (eI a1)), (10, (eI i10)), (11, (eI j11)), (112, (aE x31))], by kernel_rfl, rfl, ⟨aO.refl _, aO.refl _, aO.refl _, aO.refl _, aO.eq (congrArg aE (jH hg33 rfl).symm), trivial⟩⟩, hO⟩
        refine iF ?_
        exact ⟨⟨[(0, (.msl 1 lo0p 0 (List.length aA))), (1, (eI a1)), (10, (eI i10)), (11, (eI j11)), (112, (aE false))], by kernel_rfl, rfl, ⟨aO.refl _, aO.refl _, aO.refl _, aO.refl _, aO.eq (congrArg aE (jH hg33 rfl).symm), trivial⟩⟩, hO⟩
      · rintro T H ⟨hT, hO⟩
        refine cX hT ?_
        clear hT
        refine aG (aF ?_)
        refine bF h2 (fun h2 => ?_) (fun h2 => ?_)
        · refine bG ?_
          refine bI [(0, (.msl 1 lo0p 0 (List.length aA))), (1, (eI a1)), (10, (eI i10)), (11, (eI j11))] ?_
          refine cA 7 ?_
          refine aV aD 3 ?_
          refine bB ?_
          exact aG (aW (aF (⟨rfl, _, (oI h2).symm, .eq (by kernel_rfl), hO, hN⟩)))
        refine eX 6 ?_
        obtain rfl := oI h2
        obtain rfl : _ = rr1 := ho1
        replace h1 : iD aA a1 i10 j11 = some out1 := h1
        exact aG (aR (aR (bQ (aF (⟨rfl, _, _, .eq (by kernel_rfl), hO, hN, h1⟩)))))
    refine cA 2 ?_
    refine eU [(0, (.msl 1 lo0p 0 (List.length aA))), (1, (eI a1)), (10, (eI i10)), (11, (eI j11))] ?_
    refine dS (fun T H => ∃ aA : List Int, ∃ j11 : Int, Has T [(0, (.msl 1 lo0p 0 (List.length aA))), (1, (eI a1)), (10, (eI i10)), (11, (eI j11))] ∧ aJ ⟨H0, [lo0p], []⟩ H [(lo0p, 1, List.map (eI) aA)] ∧ List.length aA = N0 ∧ jR aA a1 i10 j11 = some r) ?_ ⟨aA, j11, .eq (by kernel_rfl), hO, hN, h0⟩
    clear hO hN h0
    rintro T H ⟨aA, j11, hT, hO, hN, h0⟩
    refine aY hT ?_
    clear hT
    unfold jR at h0
    obtain ⟨rr0, hl0, h0⟩ := aX h0
    refine cS (by kernel_rfl) (fun (s : List Int × Int) T H => Has T [(0, (.msl 1 lo0p 0 (List.length s.1))), (1, (eI a1)), (10, (eI i10)), (11, (eI s.2))] ∧ aJ ⟨H0, [lo0p], []⟩ H [(lo0p, 1, List.map (eI) s.1)] ∧ List.length s.1 = N0) hl0 ⟨.eq (by kernel_rfl), hO, hN⟩ ?_
    clear hO hN
    rintro k0 s out1 T H ⟨hT, hO, hN⟩ h1 ho0
    obtain ⟨aA, j11⟩ := s
    replace h1 : eM a1 i10 aA j11 = some out1 := h1
    try dsimp only at hT
    refine aY hT ?_
    clear hT
    unfold eM at h1
    refine aN ?_
    refine aN ?_
    obtain ⟨c35, h1⟩ := aU h1
    obtain ⟨c36, h1⟩ := aU h1
    obtain ⟨x37, hx38, h1⟩ := aX h1
    refine fD (fC []) aD 15 ?_
    refine lZ (K := fun T H => Has (lift T) [(0, (.msl 1 lo0p 0 (List.length aA))), (1, (eI a1)), (10, (eI i10)), (11, (eI j11)), (60, (aE ((decide (i10 ≤ j11)) && (!x37))))] ∧ aJ ⟨H0, [lo0p], []⟩ H [(lo0p, 1, List.map (eI) aA)]) ?_ ?_
    · refine mZ 4 ?_
      refine kP (t := 49) (e := decide (i10 ≤ j11)) (by kernel_rfl) (fun hg39 => ?_) (fun hg39 => ?_)
      · refine cH 7 [0 ≤ j11 ∧ j11 < (lN aA)] ⟨(c35 hg39), trivial⟩ ?_
        refine jA 0 lo0p 1 (0 + Int.toNat j11) (eI (gD aA j11)) (eI (gD aA j11)) (List.map (eI) aA) (by kernel_rfl) (by kernel_rfl) (by kernel_rfl) hO (by kernel_rfl) (cD (c35 hg39)) ?_
        refine cH 11 [0 ≤ a1 ∧ a1 < (lN aA)] ⟨(c36 hg39), trivial⟩ ?_
        refine jA 0 lo0p 1 (0 + Int.toNat a1) (eI (gD aA a1)) (eI (gD aA a1)) (List.map (eI) aA) (by kernel_rfl) (by kernel_rfl) (by kernel_rfl) hO (by kernel_rfl) (cD (c36 hg39)) ?_
        refine lO 70 [(eI (gD aA j11)), (eI (gD aA a1))] (aE x37) (by kernel_rfl) (by kernel_rfl) (fO (gD aA j11) (gD aA a1) _ (jG hx38 hg39)) hO ?_
        intro H hO
        refine iF ?_
        exact ⟨⟨[(0, (.msl 1 lo0p 0 (List.length aA))), (1, (eI a1)), (10, (eI i10)), (11, (eI j11)), (60, (aE (!x37)))], by kernel_rfl, rfl, ⟨aO.refl _, aO.refl _, aO.refl _, aO.refl _, aO.eq (congrArg aE (jH hg39 rfl).symm), trivial⟩⟩, hO⟩
      refine iF ?_
      exact ⟨⟨[(0, (.msl 1 lo0p 0 (List.length aA))), (1, (eI a1)), (10, (eI i10)), (11, (eI j11)), (60, (aE false))], by kernel_rfl, rfl, ⟨aO.refl _, aO.refl _, aO.refl _, aO.refl _, aO.eq (congrArg aE (jH hg39 rfl).symm), trivial⟩⟩, hO⟩
    · rintro T H ⟨hT, hO⟩
      refine cX hT ?_
      clear hT
      refine aG (aF ?_)
      refine bF h1 (fun h1 => ?_) (fun h1 => ?_)
      · refine bG ?_
        refine bI [(0, (.msl 1 lo0p 0 (List.length aA))), (1, (eI a1)), (10, (eI i10)), (11, (eI j11))] ?_
        refine cA 3 ?_
        refine aV aD 3 ?_
        refine bB ?_
        exact aG (aW (aF (⟨rfl, _, (oI h1).symm, .eq (by kernel_rfl), hO, hN⟩)))
      refine eX 2 ?_
      obtain rfl := oI h1
      obtain rfl : _ = rr0 := ho0
      replace h0 : eO aA a1 i10 j11 = some r := h0
      exact aG (aR (aR (bQ (aF (⟨rfl, _, _, .eq (by kernel_rfl), hO, hN, h0⟩)))))
  refine cA 0 ?_
  refine eU [(0, (.msl 1 lo0p 0 (List.length (List.set (List.set aA (Int.toNat a1) (gD aA cL)) (Int.toNat cL) (gD aA a1))))), (1, (eI a1)), (10, (eI (wR (a1 + (1 : Int))))), (11, (eI (wR (b2 - (1 : Int)))))] ?_
  refine dS (fun T H => ∃ aA : List Int, ∃ i10 : Int, ∃ j11 : Int, Has T [(0, (.msl 1 lo0p 0 (List.length aA))), (1, (eI a1)), (10, (eI i10)), (11, (eI j11))] ∧ aJ ⟨H0, [lo0p], []⟩ H [(lo0p, 1, List.map (eI) aA)] ∧ List.length aA = N0 ∧ fI aA a1 i10 j11 = some r) ?_ ⟨List.set (List.set aA (Int.toNat a1) (gD aA cL)) (Int.toNat cL) (gD aA a1), wR (a1 + (1 : Int)), wR (b2 - (1 : Int)), .eq (by kernel_rfl), hO, hN, h0⟩
  clear hO hN h0
  rintro T H ⟨aA, i10, j11, hT, hO, hN, h0⟩
  refine aY hT ?_
  clear hT
  unfold fI at h0
  obtain ⟨rr0, hl0, h0⟩ := aX h0
  refine cS (by kernel_rfl) (fun (s : List Int × Int) T H => Has T [(0, (.msl 1 lo0p 0 (List.length s.1))), (1, (eI a1)), (10, (eI s.2)), (11, (eI j11))] ∧ aJ ⟨H0, [lo0p], []⟩ H [(lo0p, 1, List.map (eI) s.1)] ∧ List.length s.1 = N0) hl0 ⟨.eq (by kernel_rfl), hO, hN⟩ ?_
  clear hO hN
  rintro k0 s out1 T H ⟨hT, hO, hN⟩ h1 ho0
  obtain ⟨aA, i10⟩ := s
  replace h1 : eD a1 j11 aA i10 = some out1 := h1
  try dsimp only at hT
  refine aY hT ?_
  clear hT
  unfold eD at h1
  refine aN ?_
  refine aN ?_
  obtain ⟨c41, h1⟩ := aU h1
  obtain ⟨c42, h1⟩ := aU h1
  obtain ⟨x43, hx44, h1⟩ := aX h1
  refine fD (fC []) aD 14 ?_
  refine lZ (K := fun T H => Has (lift T) [(0, (.msl 1 lo0p 0 (List.length aA))), (1, (eI a1)), (10, (eI i10)), (11, (eI j11)), (43, (aE ((decide (i10 ≤ j11)) && x43)))] ∧ aJ ⟨H0, [lo0p], []⟩ H [(lo0p, 1, List.map (eI) aA)]) ?_ ?_
  · refine mZ 4 ?_
    refine kP (t := 33) (e := decide (i10 ≤ j11)) (by kernel_rfl) (fun hg45 => ?_) (fun hg45 => ?_)
    · refine cH 7 [0 ≤ i10 ∧ i10 < (lN aA)] ⟨(c41 hg45), trivial⟩ ?_
      refine jA 0 lo0p 1 (0 + Int.toNat i10) (eI (gD aA i10)) (eI (gD aA i10)) (List.map (eI) aA) (by kernel_rfl) (by kernel_rfl) (by kernel_rfl) hO (by kernel_rfl) (cD (c41 hg45)) ?_
      refine cH 11 [0 ≤ a1 ∧ a1 < (lN aA)] ⟨(c42 hg45), trivial⟩ ?_
      refine jA 0 lo0p 1 (0 + Int.toNat a1) (eI (gD aA a1)) (eI (gD aA a1)) (List.map (eI) aA) (by kernel_rfl) (by kernel_rfl) (by kernel_rfl) hO (by kernel_rfl) (cD (c42 hg45)) ?_
      refine lO 70 [(eI (gD aA i10)), (eI (gD aA a1))] (aE x43) (by kernel_rfl) (by kernel_rfl) (fO (gD aA i10) (gD aA a1) _ (jG hx44 hg45)) hO ?_
      intro H hO
      refine iF ?_
      exact ⟨⟨[(0, (.msl 1 lo0p 0 (List.length aA))), (1, (eI a1)), (10, (eI i10)), (11, (eI j11)), (43, (aE x43))], by kernel_rfl, rfl, ⟨aO.refl _, aO.refl _, aO.refl _, aO.refl _, aO.eq (congrArg aE (jH hg45 rfl).symm), trivial⟩⟩, hO⟩
    refine iF ?_
    exact ⟨⟨[(0, (.msl 1 lo0p 0 (List.length aA))), (1, (eI a1)), (10, (eI i10)), (11, (eI j11)), (43, (aE false))], by kernel_rfl, rfl, ⟨aO.refl _, aO.refl _, aO.refl _, aO.refl _, aO.eq (congrArg aE (jH hg45 rfl).symm), trivial⟩⟩, hO⟩
  · rintro T H ⟨hT, hO⟩
    refine cX hT ?_
    clear hT
    refine aG (aF ?_)
    refine bF h1 (fun h1 => ?_) (fun h1 => ?_)
    · refine bG ?_
      refine bI [(0, (.msl 1 lo0p 0 (List.length aA))), (1, (eI a1)), (10, (eI i10)), (11, (eI j11))] ?_
      refine cA 1 ?_
      refine aV aD 3 ?_
      refine bB ?_
      exact aG (aW (aF (⟨rfl, _, (oI h1).symm, .eq (by kernel_rfl), hO, hN⟩)))
    refine eX 0 ?_
    obtain rfl := oI h1
    obtain rfl : _ = rr0 := ho0
    replace h0 : iC aA a1 i10 j11 = some r := h0
    exact aG (aR (aR (bQ (aF (⟨rfl, _, _, _, .eq (by kernel_rfl), hO, hN, h0⟩)))))

end Go.Abs
namespace Go.Abs
open Go Go.RowKit Go.Proofs
theorem vB  (rec : (List Int) → Int → Int → Int → Option (List Int)) (ih : ∀ (lo0p : Nat) (aA : (List Int)) (a1 : Int) (b2 : Int) (cC : Int) (r : List Int), rec aA a1 b2 cC = some r → mJ Try.prog 60 lo0p 1 (List.map (eI) aA) (List.map (eI) r) [(.msl 1 lo0p 0 (List.length aA)), (eI a1), (eI b2), (eI cC)] (.tup [])) (lo0p : Nat) (aA : (List Int)) (a1 : Int) (b2 : Int) (cC : Int) (r : List Int) (h0 : fN rec aA a1 b2 cC = some r) : mJ Try.prog 60 lo0p 1 (List.map (eI) aA) (List.map (eI) r) [(.msl 1 lo0p 0 (List.length aA)), (eI a1), (eI b2), (eI cC)] (.tup []) := by
  intro H0 hl0
  refine dG Try.func60 ?_
  have hO := aJ.sW hl0
  clear hl0
  obtain ⟨N0, hN0⟩ : ∃ n, n = List.length aA := ⟨_, rfl⟩
  have hN : List.length aA = N0 := hN0.symm
  unfold fN at h0
  refine aT aD 1 [] [(8, (aE true))] ?_
  refine aT aD 1 [] [(9, (aE true))] ?_
  refine cA 0 ?_
  refine eU [(0, (.msl 1 lo0p 0 (List.length aA))), (1, (eI a1)), (2, (eI b2)), (3, (eI cC)), (8, (aE true)), (9, (aE true))] ?_
  refine dS (fun T H => ∃ aA : List Int, ∃ a1 : Int, ∃ b2 : Int, ∃ cC : Int, ∃ bW : Bool, ∃ bN : Bool, Has T [(0, (.msl 1 lo0p 0 (List.length aA))), (1, (eI a1)), (2, (eI b2)), (3, (eI cC)), (8, (aE bW)), (9, (aE bN))] ∧ aJ ⟨H0, [lo0p], []⟩ H [(lo0p, 1, List.map (eI) aA)] ∧ List.length aA = N0 ∧ kF rec aA a1 b2 cC bW bN = some r) ?_ ⟨aA, a1, b2, cC, true, true, .eq (by kernel_rfl), hO, hN, h0⟩
  clear hO hN h0
  rintro T H ⟨aA, a1, b2, cC, bW, bN, hT, hO, hN, h0⟩
  refine aY hT ?_
  clear hT
  unfold kF at h0
  obtain ⟨rr0, hl0, h0⟩ := aX h0
  refine cS (by kernel_rfl) (fun (s : List Int × Int × Int × Int × Bool × Bool) T H => Has T [(0, (.msl 1 lo0p 0 (List.length s.1))), (1, (eI s.2.1)), (2, (eI s.2.2.1)), (3, (eI s.2.2.2.1)), (8, (aE s.2.2.2.2.1)), (9, (aE s.2.2.2.2.2))] ∧ aJ ⟨H0, [lo0p], []⟩ H [(lo0p, 1, List.map (eI) s.1)] ∧ List.length s.1 = N0) hl0 ⟨.eq (by kernel_rfl), hO, hN⟩ ?_
  clear hO hN
  rintro k0 s out1 T H ⟨hT, hO, hN⟩ h1 ho0
  obtain ⟨aA, a1, b2, cC, bW, bN⟩ := s
  replace h1 : eC rec aA a1 b2 cC bW bN = some out1 := h1
  try dsimp only at hT
  refine aY hT ?_
  clear hT
  unfold eC at h1
  refine cA 1 ?_
  refine aT aD 4 [] [(10, (eI (wR (b2 - a1))))] ?_
  refine aN ?_
  refine aT aD 2 [] [(23, (aE (decide ((wR (b2 - a1)) ≤ (12 : Int)))))] ?_
  refine bF h1 (fun h1 => ?_) (fun h1 => ?_)
  · refine aN ?_
    refine aV aD 4 ?_
    refine bU 3 ?_
    obtain ⟨x2, hx3, h1⟩ := aX h1
    refine wS [(lo0p, 1, List.map (eI) x2)] 0 (tW lo0p aA a1 b2 _ hx3) hO ?_
    intro H hO hl4
    simp only [List.length_map] at hl4
    replace hN := hl4.trans hN
    refine iP ?_
    refine cX (l := [(0, (.msl 1 lo0p 0 (List.length x2)))]) ⟨[(0, (.msl 1 lo0p 0 (List.length aA)))], by kernel_rfl, rfl, ⟨aO.eq (by simp [hl4]), trivial⟩⟩ ?_
    refine aG (aF (?_))
    refine bK ?_
    obtain rfl := oI h1
    obtain rfl : _ = rr0 := ho0
    replace h0 : some x2 = some r := h0
    obtain rfl := oI h0
    exact aG (aP (bE (aP (bE (mK (x := (.tup [])) (by kernel_rfl) (aO.refl _) ⟨rfl, hO.ext, hO.at 0 (by kernel_rfl), by simp only [List.length_map]; exact hN.trans hN0⟩)))))
  refine bG ?_
  refine bI [(0, (.msl 1 lo0p 0 (List.length aA))), (1, (eI a1)), (2, (eI b2)), (3, (eI cC)), (8, (aE bW)), (9, (aE bN)), (10, (eI (wR (b2 - a1))))] ?_
  refine aN ?_
  refine aT aD 2 [] [(29, (aE (decide (cC = (0 : Int)))))] ?_
  refine bF h1 (fun h1 => ?_) (fun h1 => ?_)
  · refine aN ?_
    refine aV aD 4 ?_
    refine bU 3 ?_
    obtain ⟨x6, hx7, h1⟩ := aX h1
    refine wS [(lo0p, 1, List.map (eI) x6)] 0 (wY lo0p aA a1 b2 _ hx7) hO ?_
    intro H hO hl8
    simp only [List.length_map] at hl8
    replace hN := hl8.trans hN
    refine iP ?_
    refine cX (l := [(0, (.msl 1 lo0p 0 (List.length x6)))]) ⟨[(0, (.msl 1 lo0p 0 (List.length aA)))], by kernel_rfl, rfl, ⟨aO.eq (by simp [hl8]), trivial⟩⟩ ?_
    refine aG (aF (?_))
    refine bK ?_
    obtain rfl := oI h1
    obtain rfl : _ = rr0 := ho0
    replace h0 : some x6 = some r := h0
    obtain rfl := oI h0
    exact aG (aP (bE (aP (bE (mK (x := (.tup [])) (by kernel_rfl) (aO.refl _) ⟨rfl, hO.ext, hO.at 0 (by kernel_rfl), by simp only [List.length_map]; exact hN.trans hN0⟩)))))
  refine bG ?_
  refine bI [(0, (.msl 1 lo0p 0 (List.length aA))), (1, (eI a1)), (2, (eI b2)), (3, (eI cC)), (8, (aE bW)), (9, (aE bN)), (10, (eI (wR (b2 - a1))))] ?_
  refine dN (fun T H => ∃ aA : List Int, ∃ cC : Int, ∃ dU : Int, Has T [(0, (.msl 1 lo0p 0 (List.length aA))), (1, (eI a1)), (2, (eI b2)), (3, (eI cC)), (8, (aE bW)), (9, (aE bN)), (10, (eI dU))] ∧ aJ ⟨H0, [lo0p], []⟩ H [(lo0p, 1, List.map (eI) aA)] ∧ List.length aA = N0 ∧ gG rec aA a1 b2 cC bW bN dU = some out1) ?_ ?_
  · clear hO hN h1
    rintro T H ⟨aA, cC, dU, hT, hO, hN, h1⟩
    refine aY hT ?_
    clear hT
    unfold gG at h1
    refine aN ?_
    refine aV aD 9 ?_
    refine bU 3 ?_
    obtain ⟨x9, hx10, h1⟩ := aX h1
    refine AL [] [0] (vE lo0p aA a1 b2 _ hx10) hO ?_
    intro r11 L12 H hP13 hO
    obtain ⟨rfl, rfl⟩ := hP13
    replace hO : aJ ⟨H0, [lo0p], []⟩ H [(lo0p, 1, List.map (eI) aA)] := hO
    refine bB ?_
    refine bT [] [(11, (eI x9.1)), (12, (eI x9.2))] ?_
    refine dN (fun T H => ∃ aA : List Int, ∃ fM : Int, ∃ AS : Int, Has T [(0, (.msl 1 lo0p 0 (List.length aA))), (1, (eI a1)), (2, (eI b2)), (3, (eI cC)), (8, (aE bW)), (9, (aE bN)), (10, (eI dU)), (11, (eI fM)), (12, (eI AS))] ∧ aJ ⟨H0, [lo0p], []⟩ H [(lo0p, 1, List.map (eI) aA)] ∧ List.length aA = N0 ∧ gJ rec aA a1 b2 cC bW bN dU fM AS = some out1) ?_ ?_
    · clear hO hN h1
      rintro T H ⟨aA, fM, AS, hT, hO, hN, h1⟩
      refine aY hT ?_
      clear hT
      unfold gJ at h1
      refine dN (fun T H => ∃ aA : List Int, Has T [(0, (.msl 1 lo0p 0 (List.length aA))), (1, (eI a1)), (2, (eI b2)), (3, (eI cC)), (8, (aE bW)), (9, (aE bN)), (10, (eI dU)), (11, (eI fM))] ∧ aJ ⟨H0, [lo0p], []⟩ H [(lo0p, 1, List.map (eI) aA)] ∧ List.length aA = N0 ∧ gI rec aA a1 b2 cC bW bN dU fM = some out1) ?_ ?_
      · clear hO hN h1
        rintro T H ⟨aA, hT, hO, hN, h1⟩
        refine aY hT ?_
        clear hT
        unfold gI at h1
        refine aN ?_
        refine aN ?_
        obtain ⟨c14, h1⟩ := aU h1
        obtain ⟨c15, h1⟩ := aU h1
        obtain ⟨x16, hx17, h1⟩ := aX h1
        refine fD (fC []) aD 15 ?_
        refine lZ (K := fun T H => Has (lift T) [(0, (.msl 1 lo0p 0 (List.length aA))), (1, (eI a1)), (2, (eI b2)), (3, (eI cC)), (8, (aE bW)), (9, (aE bN)), (10, (eI dU)), (11, (eI fM)), (87, (aE ((decide ((0 : Int) < a1)) && (!x16))))] ∧ aJ ⟨H0, [lo0p], []⟩ H [(lo0p, 1, List.map (eI) aA)]) ?_ ?_
        · refine mZ 3 ?_
          refine kP (t := 75) (e := decide ((0 : Int) < a1)) (by kernel_rfl) (fun hg18 => ?_) (fun hg18 => ?_)
          · refine cH 7 [0 ≤ (wR (a1 - (1 : Int))) ∧ (wR (a1 - (1 : Int))) < (lN aA)] ⟨(c14 hg18), trivial⟩ ?_
            refine jA 0 lo0p 1 (0 + Int.toNat (wR (a1 - (1 : Int)))) (eI (gD aA (wR (a1 - (1 : Int))))) (eI (gD aA (wR (a1 - (1 : Int))))) (List.map (eI) aA) (by kernel_rfl) (by kernel_rfl) (by kernel_rfl) hO (by kernel_rfl) (cD (c14 hg18)) ?_
            refine cH 11 [0 ≤ fM ∧ fM < (lN aA)] ⟨(c15 hg18), trivial⟩ ?_
            refine jA 0 lo0p 1 (0 + Int.toNat fM) (eI (gD aA fM)) (eI (gD aA fM)) (List.map (eI) aA) (by kernel_rfl) (by kernel_rfl) (by kernel_rfl) hO (by kernel_rfl) (cD (c15 hg18)) ?_
            refine lO 70 [(eI (gD aA (wR (a1 - (1 : Int))))), (eI (gD aA fM))] (aE x16) (by kernel_rfl) (by kernel_rfl) (fO (gD aA (wR (a1 - (1 : Int)))) (gD aA fM) _ (jG hx17 hg18)) hO ?_
            intro H hO
            refine iF ?_
            exact ⟨⟨[(0, (.msl 1 lo0p 0 (List.length aA))), (1, (eI a1)), (2, (eI b2)), (3, (eI cC)), (8, (aE bW)), (9, (aE bN)), (10, (eI dU)), (11, (eI fM)), (87, (aE (!x16)))], by kernel_rfl, rfl, ⟨aO.refl _, aO.refl _, aO.refl _, aO.refl _, aO.refl _, aO.refl _, aO.refl _, aO.refl _, aO.eq (congrArg aE (jH hg18 rfl).symm), trivial⟩⟩, hO⟩
          refine iF ?_
          exact ⟨⟨[(0, (.msl 1 lo0p 0 (List.length aA))), (1, (eI a1)), (2, (eI b2)), (3, (eI cC)), (8, (aE bW)), (9, (aE bN)), (10, (eI dU)), (11, (eI fM)), (87, (aE false))], by kernel_rfl, rfl, ⟨aO.refl _, aO.refl _, aO.refl _, aO.refl _, aO.refl _, aO.refl _, aO.refl _, aO.refl _, aO.eq (congrArg aE (jH hg18 rfl).symm), trivial⟩⟩, hO⟩
        · rintro T H ⟨hT, hO⟩
          refine cX hT ?_
          clear hT
          refine aG (aF ?_)
          refine bF h1 (fun h1 => ?_) (fun h1 => ?_)
          · refine aN ?_
            refine aV aD 6 ?_
            refine bU 4 ?_
            obtain ⟨x20, hx21, h1⟩ := aX h1
            refine wS [(lo0p, 1, List.map (eI) x20.2)] 0 (tS lo0p aA a1 b2 fM _ hx21) hO ?_
            intro H hO hl22
            simp only [List.length_map] at hl22
            replace hN := hl22.trans hN
            refine bB ?_
            refine cX (l := [(0, (.msl 1 lo0p 0 (List.length x20.2))), (2, (eI b2)), (3, (eI cC)), (8, (aE bW)), (9, (aE bN)), (13, (eI x20.1))]) ⟨[(0, (.msl 1 lo0p 0 (List.length aA))), (2, (eI b2)), (3, (eI cC)), (8, (aE bW)), (9, (aE bN)), (13, (eI x20.1))], by kernel_rfl, rfl, ⟨aO.eq (by simp [hl22]), aO.refl _, aO.refl _, aO.refl _, aO.refl _, aO.refl _, trivial⟩⟩ ?_
            refine aG (aF (?_))
            refine aT aD 2 [13] [(1, (eI x20.1))] ?_
            refine eX 1 ?_
            exact aG (aR (bQ (aF (⟨rfl, _, (oI h1).symm, .eq (by kernel_rfl), hO, hN⟩))))
          refine bG ?_
          refine bI [(0, (.msl 1 lo0p 0 (List.length aA))), (1, (eI a1)), (2, (eI b2)), (3, (eI cC)), (10, (eI dU)), (11, (eI fM))] ?_
          refine aN ?_
          refine aV aD 10 ?_
          refine bU 4 ?_
          obtain ⟨x23, hx24, h1⟩ := aX h1
          refine wS [(lo0p, 1, List.map (eI) x23.2)] 0 (wN lo0p aA a1 b2 fM _ hx24) hO ?_
          intro H hO hl25
          simp only [List.length_map] at hl25
          replace hN := hl25.trans hN
          refine bB ?_
          refine cX (l := [(0, (.msl 1 lo0p 0 (List.length x23.2))), (1, (eI a1)), (2, (eI b2)), (3, (eI cC)), (10, (eI dU)), (14, (eI x23.1.1)), (15, (aE x23.1.2))]) ⟨[(0, (.msl 1 lo0p 0 (List.length aA))), (1, (eI a1)), (2, (eI b2)), (3, (eI cC)), (10, (eI dU)), (14, (eI x23.1.1)), (15, (aE x23.1.2))], by kernel_rfl, rfl, ⟨aO.eq (by simp [hl25]), aO.refl _, aO.refl _, aO.refl _, aO.refl _, aO.refl _, aO.refl _, trivial⟩⟩ ?_
          refine aG (aF (?_))
          refine aT aD 2 [15] [(9, (aE x23.1.2))] ?_
          refine aT aD 8 [] [(16, (eI (wR (x23.1.1 - a1)))), (17, (eI (wR (b2 - x23.1.1))))] ?_
          refine aN ?_
          refine aV aD 3 ?_
          obtain ⟨c26, h1⟩ := aU h1
          refine nF [(8 : Int) ≠ 0] ⟨c26, trivial⟩ ?_
          refine bT [10] [(18, (eI (wR (Int.tdiv dU (8 : Int)))))] ?_
          refine aT aD 3 [] [(113, (aE (decide ((wR (x23.1.1 - a1)) < (wR (b2 - x23.1.1))))))] ?_
          refine bF h1 (fun h1 => ?_) (fun h1 => ?_)
          · refine bS aD 4 [(0, (.msl 1 lo0p 0 (List.length x23.2))), (1, (eI a1)), (2, (eI b2)), (3, (eI cC)), (8, (aE (decide ((wR (Int.tdiv dU (8 : Int))) ≤ (wR (x23.1.1 - a1)))))), (9, (aE x23.1.2)), (14, (eI x23.1.1))] ?_
            refine aN ?_
            refine aV aD 5 ?_
            refine bU 4 ?_
            obtain ⟨x28, hx29, h1⟩ := aX h1
            refine wS [(lo0p, 1, List.map (eI) x28)] 0 (ih lo0p x23.2 a1 x23.1.1 cC _ hx29) hO ?_
            intro H hO hl30
            simp only [List.length_map] at hl30
            replace hN := hl30.trans hN
            refine iP ?_
            refine cX (l := [(0, (.msl 1 lo0p 0 (List.length x28))), (2, (eI b2)), (3, (eI cC)), (8, (aE (decide ((wR (Int.tdiv dU (8 : Int))) ≤ (wR (x23.1.1 - a1)))))), (9, (aE x23.1.2)), (14, (eI x23.1.1))]) ⟨[(0, (.msl 1 lo0p 0 (List.length x23.2))), (2, (eI b2)), (3, (eI cC)), (8, (aE (decide ((wR (Int.tdiv dU (8 : Int))) ≤ (wR (x23.1.1 - a1)))))), (9, (aE x23.1.2)), (14, (eI x23.1.1))], by kernel_rfl, rfl, ⟨aO.eq (by simp [hl30]), aO.refl _, aO.refl _, aO.refl _, aO.refl _, aO.refl _, trivial⟩⟩ ?_
            refine aG (aF (?_))
            refine aV aD 3 ?_
            refine bB ?_
            exact aG (aW (aF (⟨rfl, _, (oI h1).symm, .eq (by kernel_rfl), hO, hN⟩)))
          refine bS aD 4 [(0, (.msl 1 lo0p 0 (List.length x23.2))), (1, (eI a1)), (2, (eI b2)), (3, (eI cC)), (8, (aE (decide ((wR (Int.tdiv dU (8 : Int))) ≤ (wR (b2 - x23.1.1)))))), (9, (aE x23.1.2)), (14, (eI x23.1.1))] ?_
          refine aN ?_
          refine aV aD 6 ?_
          refine bU 5 ?_
          obtain ⟨x31, hx32, h1⟩ := aX h1
          refine wS [(lo0p, 1, List.map (eI) x31)] 0 (ih lo0p x23.2 (wR (x23.1.1 + (1 : Int))) b2 cC _ hx32) hO ?_
          intro H hO hl33
          simp only [List.length_map] at hl33
          replace hN := hl33.trans hN
          refine iP ?_
          refine cX (l := [(0, (.msl 1 lo0p 0 (List.length x31))), (1, (eI a1)), (3, (eI cC)), (8, (aE (decide ((wR (Int.tdiv dU (8 : Int))) ≤ (wR (b2 - x23.1.1)))))), (9, (aE x23.1.2)), (14, (eI x23.1.1))]) ⟨[(0, (.msl 1 lo0p 0 (List.length x23.2))), (1, (eI a1)), (3, (eI cC)), (8, (aE (decide ((wR (Int.tdiv dU (8 : Int))) ≤ (wR (b2 - x23.1.1)))))), (9, (aE x23.1.2)), (14, (eI x23.1.1))], by kernel_rfl, rfl, ⟨aO.eq (by simp [hl33]), aO.refl _, aO.refl _, aO.refl _, aO.refl _, aO.refl _, trivial⟩⟩ ?_
          refine aG (aF (?_))
          refine aV aD 2 ?_
          refine bB ?_
          exact aG (aW (aF (⟨rfl, _, (oI h1).symm, .eq (by kernel_rfl), hO, hN⟩)))
      refine aT aD 8 [12] [(68, (aE ((bW && bN) && (decide (AS = (1 : Int))))))] ?_
      refine bF h1 (fun h1 => ?_) (fun h1 => ?_)
      · refine aN ?_
        refine aV aD 4 ?_
        refine bU 3 ?_
        obtain ⟨x35, hx36, h1⟩ := aX h1
        refine wS [(lo0p, 1, List.map (eI) x35.2)] 0 (qI lo0p aA a1 b2 _ hx36) hO ?_
        intro H hO hl37
        simp only [List.length_map] at hl37
        replace hN := hl37.trans hN
        refine iP ?_
        refine cX (l := [(0, (.msl 1 lo0p 0 (List.length x35.2))), (1, (eI a1)), (2, (eI b2)), (3, (eI cC)), (8, (aE bW)), (9, (aE bN)), (10, (eI dU)), (11, (eI fM)), (72, (aE x35.1))]) ⟨[(0, (.msl 1 lo0p 0 (List.length aA))), (1, (eI a1)), (2, (eI b2)), (3, (eI cC)), (8, (aE bW)), (9, (aE bN)), (10, (eI dU)), (11, (eI fM)), (72, (aE x35.1))], by kernel_rfl, rfl, ⟨aO.eq (by simp [hl37]), aO.refl _, aO.refl _, aO.refl _, aO.refl _, aO.refl _, aO.refl _, aO.refl _, aO.refl _, trivial⟩⟩ ?_
        refine aG (aF (?_))
        refine bF h1 (fun h1 => ?_) (fun h1 => ?_)
        · refine bK ?_
          obtain rfl := oI h1
          obtain rfl : _ = rr0 := ho0
          replace h0 : some x35.2 = some r := h0
          obtain rfl := oI h0
          exact aG (aP (bE (aP (bE (mK (x := (.tup [])) (by kernel_rfl) (aO.refl _) ⟨rfl, hO.ext, hO.at 0 (by kernel_rfl), by simp only [List.length_map]; exact hN.trans hN0⟩)))))
        refine bG ?_
        exact aG (aF (⟨rfl, _, .eq (by kernel_rfl), hO, hN, h1⟩))
      refine bG ?_
      exact aG (aF (⟨rfl, _, .eq (by kernel_rfl), hO, hN, h1⟩))
    refine aT aD 2 [] [(50, (aE (decide (x9.2 = (2 : Int)))))] ?_
    refine bF h1 (fun h1 => ?_) (fun h1 => ?_)
    · refine aN ?_
      refine aV aD 4 ?_
      refine bU 3 ?_
      obtain ⟨x40, hx41, h1⟩ := aX h1
      refine wS [(lo0p, 1, List.map (eI) x40)] 0 (uZ lo0p aA a1 b2 _ hx41) hO ?_
      intro H hO hl42
      simp only [List.length_map] at hl42
      replace hN := hl42.trans hN
      refine iP ?_
      refine cX (l := [(0, (.msl 1 lo0p 0 (List.length x40))), (1, (eI a1)), (2, (eI b2)), (3, (eI cC)), (8, (aE bW)), (9, (aE bN)), (10, (eI dU)), (11, (eI x9.1))]) ⟨[(0, (.msl 1 lo0p 0 (List.length aA))), (1, (eI a1)), (2, (eI b2)), (3, (eI cC)), (8, (aE bW)), (9, (aE bN)), (10, (eI dU)), (11, (eI x9.1))], by kernel_rfl, rfl, ⟨aO.eq (by simp [hl42]), aO.refl _, aO.refl _, aO.refl _, aO.refl _, aO.refl _, aO.refl _, aO.refl _, trivial⟩⟩ ?_
      refine aG (aF (?_))
      refine aT aD 7 [11] [(11, (eI (wR ((wR (b2 - (1 : Int))) - (wR (x9.1 - a1))))))] ?_
      refine aV aD 1 ?_
      refine bB ?_
      exact aG (aF (⟨rfl, _, _, _, .eq (by kernel_rfl), hO, hN, h1⟩))
    refine bG ?_
    exact aG (aF (⟨rfl, _, _, _, .eq (by kernel_rfl), hO, hN, h1⟩))
  refine aT aD 2 [] [(35, (aE (!bW)))] ?_
  refine bF h1 (fun h1 => ?_) (fun h1 => ?_)
  · refine aN ?_
    refine aV aD 4 ?_
    refine bU 3 ?_
    obtain ⟨x44, hx45, h1⟩ := aX h1
    refine wS [(lo0p, 1, List.map (eI) x44)] 0 (uA lo0p aA a1 b2 _ hx45) hO ?_
    intro H hO hl46
    simp only [List.length_map] at hl46
    replace hN := hl46.trans hN
    refine iP ?_
    refine cX (l := [(0, (.msl 1 lo0p 0 (List.length x44))), (1, (eI a1)), (2, (eI b2)), (3, (eI cC)), (8, (aE bW)), (9, (aE bN)), (10, (eI (wR (b2 - a1))))]) ⟨[(0, (.msl 1 lo0p 0 (List.length aA))), (1, (eI a1)), (2, (eI b2)), (3, (eI cC)), (8, (aE bW)), (9, (aE bN)), (10, (eI (wR (b2 - a1))))], by kernel_rfl, rfl, ⟨aO.eq (by simp [hl46]), aO.refl _, aO.refl _, aO.refl _, aO.refl _, aO.refl _, aO.refl _, trivial⟩⟩ ?_
    refine aG (aF (?_))
    refine aV aD 3 ?_
    refine bB ?_
    exact aG (aF (⟨rfl, _, _, _, .eq (by kernel_rfl), hO, hN, h1⟩))
  refine bG ?_
  exact aG (aF (⟨rfl, _, _, _, .eq (by kernel_rfl), hO, hN, h1⟩))

theorem oO  : ∀ (k : Nat) (lo0p : Nat) (aA : (List Int)) (a1 : Int) (b2 : Int) (cC : Int) (r : List Int), dD k aA a1 b2 cC = some r → mJ Try.prog 60 lo0p 1 (List.map (eI) aA) (List.map (eI) r) [(.msl 1 lo0p 0 (List.length aA)), (eI a1), (eI b2), (eI cC)] (.tup [])
  | 0, _, _, _, _, _, _, h => by cases h
  | k + 1, lo0p, aA, a1, b2, cC, r, h => vB  _ (oO  k) lo0p aA a1 b2 cC r h

theorem xL (lo0p : Nat) (aA : (List Int)) (a1 : Int) (b2 : Int) (cC : Int) (r : List Int) (h0 : iZ aA a1 b2 cC = some r) : mJ Try.prog 60 lo0p 1 (List.map (eI) aA) (List.map (eI) r) [(.msl 1 lo0p 0 (List.length aA)), (eI a1), (eI b2), (eI cC)] (.tup []) := by
  obtain ⟨k, hk⟩ := KL h0
  exact oO  k lo0p aA a1 b2 cC r hk

theorem AT (lo0p : Nat) (x0 : (List Int)) (r : List Int) (h0 : jV x0 = some r) : mJ Try.prog 33 lo0p 1 (List.map (eI) x0) (List.map (eI) r) [(.msl 1 lo0p 0 (List.length x0))] (.tup []) := by
  intro H0 hl0
  refine dG Try.func33 ?_
  have hO := aJ.sW hl0
  clear hl0
  obtain ⟨N0, hN0⟩ : ∃ n, n = List.length x0 := ⟨_, rfl⟩
  have hN : List.length x0 = N0 := hN0.symm
  unfold jV at h0
  refine aT aD 3 [] [(2, (eI (lN x0)))] ?_
  refine aV aD 6 ?_
  refine bU 4 ?_
  obtain ⟨x1, hx2, h0⟩ := aX h0
  refine dR (zP (IntKind.u64.wrap (lN x0)) _ hx2) hO ?_
  intro H hO
  obtain ⟨x4, hx5, h0⟩ := aX h0
  refine wS [(lo0p, 1, List.map (eI) x4)] 0 (xL lo0p x0 (0 : Int) (lN x0) x1 _ hx5) hO ?_
  intro H hO hl6
  simp only [List.length_map] at hl6
  replace hN := hl6.trans hN
  refine iP ?_
  refine cX (l := [(0, (.msl 1 lo0p 0 (List.length x4)))]) ⟨[(0, (.msl 1 lo0p 0 (List.length x0)))], by kernel_rfl, rfl, ⟨aO.eq (by simp [hl6]), trivial⟩⟩ ?_
  obtain rfl := oI h0
  exact aG (zK (x := (.tup [])) (by kernel_rfl) (aO.refl _) ⟨rfl, hO.ext, hO.at 0 (by kernel_rfl), by simp only [List.length_map]; exact hN.trans hN0⟩)

theorem FD (l0 : (List aK)) (cE : Int) (r : ((List Int) × Int)) (h0 : rK l0 cE = some r) : dL Try.prog 12 [(eL aM l0), (eI cE)] (.tup [(eL (eI) r.1), (eI r.2)]) := by
  intro H0
  refine dG Try.func12 ?_
  have hO := aJ.start H0
  unfold rK at h0
  refine aT aD 2 [] [] ?_
  refine aN ?_
  refine cA 0 ?_
  refine aN ?_
  refine aV aD 4 ?_
  refine bU 1 ?_
  obtain ⟨x1, hx2, h0⟩ := aX h0
  refine dR (IK l0 _ hx2) hO ?_
  intro H hO
  refine bB ?_
  refine bT [] [(11, (aE (!x1)))] ?_
  refine bF h0 (fun h0 => ?_) (fun h0 => ?_)
  · refine bS aD 2 [(4, (.sl true 0 (fun _ => .bad))), (5, (eI (2 : Int)))] ?_
    refine bK ?_
    refine cX (l := [(4, (eL (eI) ([]))), (5, (eI (2 : Int)))]) ⟨[(4, (.sl true 0 (fun _ => .bad))), (5, (eI (2 : Int)))], by kernel_rfl, rfl, ⟨kM, aO.refl _, trivial⟩⟩ ?_
    obtain rfl := oI h0
    exact aG (bE (aP (Q_r hO)))
  refine aN ?_
  refine aV aD 4 ?_
  refine bU 1 ?_
  obtain ⟨x5, hx6, h0⟩ := aX h0
  refine dR (MR l0 _ hx6) hO ?_
  intro H hO
  refine bB ?_
  refine bT [11] [(15, (aE (!x5)))] ?_
  refine bF h0 (fun h0 => ?_) (fun h0 => ?_)
  · refine bS aD 2 [(4, (.sl true 0 (fun _ => .bad))), (5, (eI (20 : Int)))] ?_
    refine bK ?_
    refine cX (l := [(4, (eL (eI) ([]))), (5, (eI (20 : Int)))]) ⟨[(4, (.sl true 0 (fun _ => .bad))), (5, (eI (20 : Int)))], by kernel_rfl, rfl, ⟨kM, aO.refl _, trivial⟩⟩ ?_
    obtain rfl := oI h0
    exact aG (bE (aP (Q_r hO)))
  refine aT aD 7 [15] [(19, (aE ((decide (cE < (0 : Int))) || (decide ((1125899906842624 : Int) < cE)))))] ?_
  refine bF h0 (fun h0 => ?_) (fun h0 => ?_)
  · refine bS aD 2 [(4, (.sl true 0 (fun _ => .bad))), (5, (eI (13 : Int)))] ?_
    refine bK ?_
    refine cX (l := [(4, (eL (eI) ([]))), (5, (eI (13 : Int)))]) ⟨[(4, (.sl true 0 (fun _ => .bad))), (5, (eI (13 : Int)))], by kernel_rfl, rfl, ⟨kM, aO.refl _, trivial⟩⟩ ?_
    obtain rfl := oI h0
    exact aG (bE (aP (Q_r hO)))
  refine bS aD 3 [(0, (eL aM l0)), (1, (eI cE)), (26, (aE (decide (cE = (1125899906842624 : Int)))))] ?_
  refine bF h0 (fun h0 => ?_) (fun h0 => ?_)
  · refine bS aD 2 [(4, (.sl true 0 (fun _ => .bad))), (5, (eI (0 : Int)))] ?_
    refine bK ?_
    refine cX (l := [(4, (eL (eI) ([]))), (5, (eI (0 : Int)))]) ⟨[(4, (.sl true 0 (fun _ => .bad))), (5, (eI (0 : Int)))], by kernel_rfl, rfl, ⟨kM, aO.refl _, trivial⟩⟩ ?_
    obtain rfl := oI h0
    exact aG (bE (aP (Q_r hO)))
  refine bG ?_
  refine gO [(0, (eL aM l0)), (1, (eI cE))] ?_
  refine aG (aW (aF (?_)))
  refine aN ?_
  refine aV aD 5 ?_
  refine TY (β := Int) (eI) (t := 58) hO ?_
  intro lm11 H hO
  refine bU 2 ?_
  refine OB (f := (eI)) (mty := 58) cE (1 : Int) hO ?_
  intro H hO
  refine bB ?_
  refine bT [] [(6, (.mp lm11))] ?_
  refine dN (fun T H => ∃ jN : (List (Int × Int)), Has T [(6, (.mp lm11))] ∧ aJ ⟨H0, [], (lm11, BP (eI) jN) :: []⟩ H [] ∧ sK jN = some r) ?_ ?_
  · clear hO h0
    rintro T H ⟨jN, hT, hO, h0⟩
    refine aY hT ?_
    clear hT
    unfold sK at h0
    refine aN ?_
    refine aV aD 4 ?_
    refine bU 1 ?_
    refine XX (mty := 58) hO ?_
    obtain ⟨c13, h0⟩ := aU h0
    refine QB 1 8 (lN jN) (by kernel_rfl) (by kernel_rfl) c13 hO ?_
    intro lo14 H hO
    refine bB ?_
    refine bI [(6, (.mp lm11)), (9, (.msl 1 lo14 0 (List.length ([] : List Int))))] ?_
    refine dN (fun T H => ∃ out9 : List Int, ∃ lo15 : Nat, Has T [(9, (.msl 1 lo15 0 (List.length out9)))] ∧ aJ ⟨H0, [], []⟩ H [(lo15, 1, List.map (eI) out9)] ∧ vN out9 = some r) ?_ ?_
    · clear hO h0
      rintro T H ⟨out9, lo15, hT, hO, h0⟩
      refine aY hT ?_
      clear hT
      unfold vN at h0
      refine aN ?_
      refine aV aD 2 ?_
      refine bU 1 ?_
      obtain ⟨x16, hx17, h0⟩ := aX h0
      refine wS [(lo15, 1, List.map (eI) x16)] 0 (AT lo15 out9 _ hx17) hO ?_
      intro H hO hl18
      simp only [List.length_map] at hl18
      refine iP ?_
      refine cX (l := [(9, (.msl 1 lo15 0 (List.length x16)))]) ⟨[(9, (.msl 1 lo15 0 (List.length out9)))], by kernel_rfl, rfl, ⟨aO.eq (by simp [hl18]), trivial⟩⟩ ?_
      refine aG (aF (?_))
      refine bS aD 3 [(4, (.msl 1 lo15 0 (List.length x16))), (5, (eI (0 : Int)))] ?_
      refine bK ?_
      refine gO [(4, (.msl 1 lo15 0 (List.length x16))), (5, (eI (0 : Int)))] ?_
      refine oQ (en := (eI)) x16 0 0 4 1 lo15 (List.length x16) hO (by kernel_rfl) (by kernel_rfl) (by kernel_rfl) (L' := []) (by kernel_rfl) ?_
      intro H19 hO
      obtain rfl := oI h0
      exact aG (Q_r hO)
    refine aN ?_
    refine aV aD 2 ?_
    refine bU 1 ?_
    refine RR (mty := 58) hO ?_
    intro li20 bs21 ck22 H hmb YX hO
    refine iP ?_
    refine bT [6] [(50, (.lp li20 0 0))] ?_
    refine cA 3 ?_
    refine eU [(9, (.msl 1 lo14 0 (List.length ([] : List Int)))), (50, (.lp li20 0 0))] ?_
    refine dS (fun T H => ∃ out9 : List Int, ∃ t50 : (List (Int × Int)), ∃ lo24 : Nat, Has T [(9, (.msl 1 lo24 0 (List.length out9))), (50, (.lp li20 0 0))] ∧ aJ ⟨H0, [], (li20, FN li20 lm11 ck22 []) :: (lm11, DH (eI) t50 bs21 ck22) :: []⟩ H [(lo24, 1, List.map (eI) out9)] ∧ List.length bs21 = List.length t50 ∧ vG out9 t50 = some r) ?_ ⟨([] : List Int), jN, lo14, .eq (by kernel_rfl), hO, hmb, h0⟩
    clear hO hmb h0
    rintro T H ⟨out9, t50, lo24, hT, hO, hmb, h0⟩
    refine aY hT ?_
    clear hT
    unfold vG at h0
    refine VH (by kernel_rfl) (fun (s : List Int) (seen : List Nat) T H => ∃ lo24 : Nat, Has T [(9, (.msl 1 lo24 0 (List.length s))), (50, (.lp li20 0 0))] ∧ aJ ⟨H0, [], (li20, FN li20 lm11 ck22 seen) :: (lm11, DH (eI) t50 bs21 ck22) :: []⟩ H [(lo24, 1, List.map (eI) s)]) hmb h0 ⟨lo24, .eq (by kernel_rfl), hO⟩ ?_
    clear hO h0
    rintro seen rem s T H ⟨lo24, hT, hO⟩ hleft hall
    obtain ⟨out9, rfl⟩ : ∃ x, x = s := ⟨_, rfl⟩
    refine aY (l := [(9, (.msl 1 lo24 0 (List.length out9))), (50, (.lp li20 0 0))]) hT ?_
    clear hT
    refine aN ?_
    refine aV aD 2 ?_
    refine WJ hmb YX hleft hall hO (fun h0 => ?_) (fun mk mv bq rest out1 H h1 hlt hleft hall hat hO => ?_)
    · clear hall hleft
      replace h0 : wB t50 out9 = some r := h0
      unfold wB at h0
      refine bB ?_
      refine bT [] [(52, (aE false))] ?_
      refine aN ?_
      refine mA (false) (fun hc25 => ?_) (fun hc25 => ?_)
      · cases hc25
      · refine eX 3 ?_
        replace hO := hO.uK.uK
        exact aG (aR (aR (bQ (aF (⟨rfl, _, _, .eq (by kernel_rfl), hO, h0⟩)))))
    replace h1 : pS t50 out9 mk mv = some out1 := h1
    unfold pS at h1
    refine bB ?_
    refine bT [] [(52, (aE true))] ?_
    refine aN ?_
    refine mA (true) (fun hc26 => ?_) (fun hc26 => ?_)
    · refine bG ?_
      refine bI [(9, (.msl 1 lo24 0 (List.length out9))), (50, (.lp li20 0 0))] ?_
      refine cA 4 ?_
      refine aN ?_
      refine aV aD 3 ?_
      refine SM hat hO ?_
      refine bB ?_
      refine bT [] [(10, (eI mk))] ?_
      refine aV aD 5 ?_
      refine bU 2 ?_
      refine kU (xs := [(eI mk)]) (k := 1) (by kernel_rfl) (by kernel_rfl) ?_
      obtain ⟨c28, h1⟩ := aU h1
      refine oH (e := (eI)) out9 ([mk]) 0 lo24 1 8 (gQ [(eI mk)]) (fun lo27 => [(lo27, 1, List.map (eI) (out9 ++ ([mk])))]) (by kernel_rfl) (by kernel_rfl) hO (by kernel_rfl) (by kernel_rfl) c28 (fun _ => by kernel_rfl) ?_
      intro lo27 H hO
      refine bB ?_
      obtain rfl := oI h1
      exact aG (aW (aF (⟨rfl, _, _, _, hlt, hleft, hall, lo27, .eq (by kernel_rfl), hO⟩)))
    · cases hc26
  refine aT aD 3 [0] [(32, (eL aM l0)), (33, (eI (lN l0))), (34, (eI (0 : Int)))] ?_
  refine cA 1 ?_
  refine eU [(1, (eI cE)), (6, (.mp lm11)), (32, (eL aM l0)), (33, (eI (lN l0))), (34, (eI (0 : Int)))] ?_
  refine dS (fun T H => ∃ jN : (List (Int × Int)), ∃ t32 : (List aK), ∃ t33 : Int, ∃ t34 : Int, Has T [(1, (eI cE)), (6, (.mp lm11)), (32, (eL aM t32)), (33, (eI t33)), (34, (eI t34))] ∧ aJ ⟨H0, [], (lm11, BP (eI) jN) :: []⟩ H [] ∧ wH cE jN t32 t33 t34 = some r) ?_ ⟨qH ([] : (List (Int × Int))) cE (1 : Int), l0, (lN l0), (0 : Int), .eq (by kernel_rfl), hO, h0⟩
  clear hO h0
  rintro T H ⟨jN, t32, t33, t34, hT, hO, h0⟩
  refine aY hT ?_
  clear hT
  unfold wH at h0
  obtain ⟨rr0, hl0, h0⟩ := aX h0
  refine cS (by kernel_rfl) (fun (s : (List (Int × Int)) × Int) T H => Has T [(1, (eI cE)), (6, (.mp lm11)), (32, (eL aM t32)), (33, (eI t33)), (34, (eI s.2))] ∧ aJ ⟨H0, [], (lm11, BP (eI) s.1) :: []⟩ H []) hl0 ⟨.eq (by kernel_rfl), hO⟩ ?_
  clear hO
  rintro k0 s out1 T H ⟨hT, hO⟩ h1 ho0
  obtain ⟨jN, t34⟩ := s
  replace h1 : mN cE t32 t33 jN t34 = some out1 := h1
  try dsimp only at hT
  refine aY hT ?_
  clear hT
  unfold mN at h1
  refine aT aD 1 [] [(35, (aE (decide (t34 < t33))))] ?_
  refine aN ?_
  refine bF h1 (fun h1 => ?_) (fun h1 => ?_)
  · refine bG ?_
    refine bI [(1, (eI cE)), (6, (.mp lm11)), (32, (eL aM t32)), (33, (eI t33)), (34, (eI t34))] ?_
    refine dN (fun T H => ∃ jN : (List (Int × Int)), Has T [(1, (eI cE)), (6, (.mp lm11)), (32, (eL aM t32)), (33, (eI t33)), (34, (eI t34))] ∧ aJ ⟨H0, [], (lm11, BP (eI) jN) :: []⟩ H [] ∧ pM cE jN t32 t33 t34 = some out1) ?_ ?_
    · clear hO h1
      rintro T H ⟨jN, hT, hO, h1⟩
      refine aY hT ?_
      clear hT
      unfold pM at h1
      refine aV aD 2 ?_
      refine bB ?_
      exact aG (aF (⟨rfl, _, (oI h1).symm, .eq (by kernel_rfl), hO⟩))
    refine cA 2 ?_
    refine aN ?_
    refine aV aD 4 ?_
    obtain ⟨c30, h1⟩ := aU h1
    refine oA 2 [0 ≤ t34 ∧ t34 < (lN t32)] ⟨c30, trivial⟩ ?_
    refine CC 3 (.agg [(.sl true 0 (fun _ => .bad)), (eI 0), (eI 0)]) (aM (aK.mk ([]) 0 0)) (by kernel_rfl) (by kernel_rfl) (by kernel_rfl) (MA (xs := [(.sl true 0 (fun _ => .bad)), (eI 0), (eI 0)]) (ys := [(eL aC ([])), (eI 0), (eI 0)]) ⟨kM, aO.refl _, aO.refl _, trivial⟩) (by kernel_rfl) (by kernel_rfl) hO ?_
    intro lo31 H hO
    refine rW 0 lo31 3 0 (aM (aK.mk ([]) 0 0)) (aM (gD t32 t34)) [(aM (aK.mk ([]) 0 0))] [(lo31, 3, [(aM (gD t32 t34))])] hO rfl (by kernel_rfl) ?_
    intro H hO
    refine iP ?_
    refine bT [] [(8, (.lp lo31 0 0))] ?_
    refine aN ?_
    refine aV aD 4 ?_
    refine bU 1 ?_
    refine tT 0 lo31 3 0 (aM (gD t32 t34)) (eI ((gD t32 t34).At)) [(aM (gD t32 t34))] hO rfl ?_
    refine bB ?_
    refine bT [] [(41, (aE (decide (cE < ((gD t32 t34).At)))))] ?_
    refine bF h1 (fun h1 => ?_) (fun h1 => ?_)
    · refine aV aD 4 ?_
      refine bU 2 ?_
      refine tT 0 lo31 3 0 (aM (gD t32 t34)) (eI ((gD t32 t34).At)) [(aM (gD t32 t34))] hO rfl ?_
      refine OB (f := (eI)) (mty := 58) ((gD t32 t34).At) (1 : Int) hO ?_
      intro H hO
      refine iP ?_
      replace hO := hO.pick (L' := []) [] (by decide) (by kernel_rfl)
      exact aG (aW (aF (⟨rfl, _, .eq (by kernel_rfl), hO, h1⟩)))
    refine bG ?_
    replace hO := hO.pick (L' := []) [] (by decide) (by kernel_rfl)
    exact aG (aW (aF (⟨rfl, _, .eq (by kernel_rfl), hO, h1⟩)))
  refine eX 1 ?_
  obtain rfl := oI h1
  obtain rfl : _ = rr0 := ho0
  replace h0 : sK jN = some r := h0
  exact aG (aR (aR (bQ (aF (⟨rfl, _, .eq (by kernel_rfl), hO, h0⟩)))))

theorem KW (l0 : (List aK)) (r : (List aK)) (h0 : uJ l0 = some r) : dL Try.prog 38 [(eL aM l0)] (.fn (.func 66) [] [(.rp (eL aM r))]) := by
  intro H0
  refine dG Try.func38 ?_
  have hO := aJ.start H0
  unfold uJ at h0
  refine aN ?_
  refine aV aD 2 ?_
  refine oM 1 (eL aM l0) (by kernel_rfl) (by kernel_rfl) ?_
  refine bB ?_
  refine bI [(1, (.rp (eL aM l0)))] ?_
  refine bS aD 2 [(2, (.fn (.func 66) [] [(.rp (eL aM l0))]))] ?_
  refine bK ?_
  obtain rfl := oI h0
  exact aG (mK (x := (.fn (.func 66) [] [(.rp (eL aM l0))])) (by kernel_rfl) (aO.refl _) ⟨rfl, hO.out⟩)

theorem ER {σ : Type} (I : σ → Gs → Prop) (yield0_b : Nat) (fZ : σ → (List aB) → (List aI) → Option (σ × Bool)) (yield0_h : ∀ st a0 a1 st2 r, fZ st a0 a1 = some (st2, r) → EJ Try.prog (yv yield0_b) I st [(eL aC a0), (eL aQ a1)] st2 (aE r)) (t1 : (List aK)) (sg0 : σ) (r : σ) (h0 : nB fZ t1 sg0 = some r) : yB Try.prog 66 I sg0 [(yv yield0_b), (.rp (eL aM t1))] r (.tup []) := by
  intro H0 G0 hI hg
  refine IZ aD Try.func66 (by kernel_rfl) (by kernel_rfl) (by kernel_rfl) ?_
  obtain ⟨G, hO, hI⟩ : ∃ G, aJ ⟨H0, List.map (fun p : Nat × dW => p.1) G0, G⟩ H0 [] ∧ I sg0 G := ⟨G0, aJ.HP hg, hI⟩
  clear hg
  unfold nB at h0
  refine aN ?_
  refine aV aD 1 ?_
  refine oM 1 (yv yield0_b) (by kernel_rfl) (by kernel_rfl) ?_
  refine iP ?_
  refine bT [0] [(2, (.rp (yv yield0_b)))] ?_
  refine aN ?_
  refine aN ?_
  refine aV aD 3 ?_
  refine bU 1 ?_
  obtain ⟨x1, hx2, h0⟩ := aX h0
  refine dR (IK t1 _ hx2) hO ?_
  intro H hO
  refine bB ?_
  refine bT [] [(7, (aE (!x1)))] ?_
  refine bF h0 (fun h0 => ?_) (fun h0 => ?_)
  · refine bK ?_
    obtain rfl := oI h0
    exact aG (aP (QM0 (.inr rfl) (rs := []) (xs := []) (x := (.tup [])) (by kernel_rfl) vT (by kernel_rfl) ⟨rfl, G, hI, hO.CL⟩))
  refine bG ?_
  refine bI [(1, (.rp (eL aM t1))), (2, (.rp (yv yield0_b)))] ?_
  refine aN ?_
  refine aV aD 2 ?_
  refine bU 1 ?_
  obtain ⟨x5, hx6, h0⟩ := aX h0
  refine dR (FE t1 _ hx6) hO ?_
  intro H hO
  refine iP ?_
  refine bT [1] [(9, (.fn (.func 91) [] [(.rp (eL aM x5))]))] ?_
  refine cA 0 ?_
  refine eU [(2, (.rp (yv yield0_b))), (9, (.fn (.func 91) [] [(.rp (eL aM x5))]))] ?_
  refine dS (fun T H => ∃ sg : σ, ∃ t9c0 : (List aK), ∃ G : Gs, Has T [(2, (.rp (yv yield0_b))), (9, (.fn (.func 91) [] [(.rp (eL aM t9c0))]))] ∧ aJ ⟨H0, List.map (fun p : Nat × dW => p.1) G0, G⟩ H [] ∧ I sg G ∧ oN fZ sg t9c0 = some r) ?_ ⟨sg0, x5, G, .eq (by kernel_rfl), hO, hI, h0⟩
  clear hO hI h0
  rintro T H ⟨sg, t9c0, G, hT, hO, hI, h0⟩
  refine aY (l := [(2, (.rp (yv yield0_b))), (9, (.fn (.func 91) [] [(.rp (eL aM t9c0))]))]) hT ?_
  clear hT
  unfold oN at h0
  obtain ⟨o0, hl0, h0⟩ := aX h0
  refine GB (fid := 91) (ys := []) (cs := [(.rp (eL aM t9c0))]) #[10, 11] (fun (A : AD) (b lL : Nat) (st : (σ) ⊕ (σ)) (G' : Gs) => Sum.elim (fun (s : σ) => ∃ G : Gs, I s G ∧ G' = (lL, .raw (lG b A .ready none)) :: (up [] ++ G)) (fun (s : σ) => ∃ G : Gs, I s G ∧ G' = (lL, .raw (lG b A .done (some .ret))) :: (up [] ++ G)) st) (.inl sg) o0 (.tup []) (by kernel_rfl) (by kernel_rfl) (by kernel_rfl) hO (fun _ _ => ⟨G, hI, rfl⟩) ?_ ?_
  · intro b lL
    clear hO hI h0
    refine zW _ b (fun st t10 t11 => rnd (fun (s : σ) => kC fZ t9c0 s t10 t11) st) ?_ t9c0 _ _ hl0
    intro st t10 t11 out1 rr hr
    obtain ⟨s, rfl, h1, rfl⟩ := WS hr
    clear hr
    intro Hr Gr hi hg
    obtain ⟨sg, rfl⟩ : ∃ x, x = s := ⟨_, rfl⟩
    dsimp only [Sum.elim_inl] at hi
    obtain ⟨G, hI, rfl⟩ := hi
    replace h1 : kC fZ t9c0 sg t10 t11 = some out1 := h1
    unfold kC at h1
    obtain ⟨E1, hE, hO⟩ := AI hg
    refine AF (GD (hO.gm 0 _ rfl).2 (by kernel_rfl) (by kernel_rfl) ?_)
    refine eU [(2, (.rp (yv yield0_b))), (9, (.fn (.func 91) [] [(.rp (eL aM t9c0))])), (10, (eL aC t10)), (11, (eL aQ t11))] ?_
    refine aT aD 1 [9, 10] [(3, (eL aC t10))] ?_
    refine aV aD 1 ?_
    refine bB ?_
    refine gO [(2, (.rp (yv yield0_b))), (3, (eL aC t10)), (4, (eL aQ t11))] ?_
    refine aG (⟨rfl, rfl, (hO.gm 0 _ rfl).2, ?_⟩)
    intro o1 ho1
    replace hO := hO.wL o1
    refine cA 1 ?_
    refine aN ?_
    refine aV aD 5 ?_
    refine bU 3 ?_
    obtain ⟨x7, hx8, h1⟩ := aX h1
    refine WY (I := I) (yv yield0_b) [(eL aC t10), (eL aQ t11)] (aE x7.2) (by kernel_rfl) (by kernel_rfl) (yield0_h _ t10 t11 x7.1 x7.2 hx8) hO hI ?_
    intro G H hO hI
    refine bB ?_
    refine bI [(16, (aE (!x7.2)))] ?_
    refine bF h1 (fun h1 => ?_) (fun h1 => ?_)
    · refine bK ?_
      refine gO [] ?_
      obtain rfl := oI h1
      exact aG (bE (⟨(nG hO hE ho1 .dead).1, rfl, _, ⟨G, hI, rfl⟩, (nG hO hE ho1 _).2⟩))
    refine bG ?_
    refine gO [] ?_
    obtain rfl := oI h1
    exact aG (aW (⟨(nG hO hE ho1 .dead).1, rfl, _, ⟨G, hI, rfl⟩, (nG hO hE ho1 _).2⟩))
  · intro b lD10 lL H' G' hi hO
    rcases o0 with s | s
    · dsimp only [Sum.elim_inl] at hi
      obtain ⟨G, hI, rfl⟩ := hi
      replace h0 : (some s) = some r := h0
      obtain ⟨hlL, hO⟩ := wJ hO
      refine ⟨_, _, hlL, (by intro e; cases e), ?_⟩
      obtain rfl := oI h0
      have hD := (hO.gm 0 _ rfl).2
      replace hO := (hO.wL .dead).uK
      exact aG (aW (QM1 (.inl rfl) hD (rs := []) (xs := []) (x := (.tup [])) (by kernel_rfl) vT (by kernel_rfl) ⟨rfl, G, hI, hO.CL⟩))
    · dsimp only [Sum.elim_inr] at hi
      obtain ⟨G, hI, rfl⟩ := hi
      replace h0 : (some s) = some r := h0
      obtain ⟨hlL, hO⟩ := wJ hO
      refine ⟨_, _, hlL, (by intro e; cases e), ?_⟩
      refine bK ?_
      obtain rfl := oI h0
      have hD := (hO.gm 0 _ rfl).2
      replace hO := (hO.wL .dead).uK
      exact aG (bE (QM1 (.inr rfl) hD (rs := []) (xs := []) (x := (.tup [])) (by kernel_rfl) vT (by kernel_rfl) ⟨rfl, G, hI, hO.CL⟩))

theorem UF (f0 : (List aI)) (t1 : Int) (r : Int) (h0 : xK f0 t1 = some r) : dL Try.prog 40 [(eL aQ f0), (eI t1)] (eI r) := by
  intro H0
  refine dG Try.func40 ?_
  have hO := aJ.start H0
  unfold xK at h0
  refine aT aD 1 [] [] ?_
  refine aN ?_
  refine aN ?_
  refine aV aD 3 ?_
  refine bU 1 ?_
  obtain ⟨x1, hx2, h0⟩ := aX h0
  refine dR (xZ f0 _ hx2) hO ?_
  intro H hO
  refine bB ?_
  refine bT [] [(10, (aE (!x1)))] ?_
  refine bF h0 (fun h0 => ?_) (fun h0 => ?_)
  · refine bS aD 1 [(4, (eI (0 : Int)))] ?_
    refine bK ?_
    obtain rfl := oI h0
    exact aG (aP (Q_r hO))
  refine bG ?_
  refine bI [(0, (eL aQ f0)), (1, (eI t1))] ?_
  refine aT aD 1 [] [(5, (eI (0 : Int)))] ?_
  refine dN (fun T H => ∃ v5 : Int, Has T [(5, (eI v5))] ∧ aJ ⟨H0, [], []⟩ H [] ∧ tG v5 = some r) ?_ ?_
  · clear hO h0
    rintro T H ⟨v5, hT, hO, h0⟩
    refine aY hT ?_
    clear hT
    unfold tG at h0
    refine bS aD 2 [(4, (eI v5))] ?_
    refine bK ?_
    obtain rfl := oI h0
    exact aG (Q_r hO)
  refine aT aD 3 [0] [(11, (eL aQ f0)), (12, (eI (lN f0))), (13, (eI (0 : Int)))] ?_
  refine cA 0 ?_
  refine eU [(1, (eI t1)), (5, (eI (0 : Int))), (11, (eL aQ f0)), (12, (eI (lN f0))), (13, (eI (0 : Int)))] ?_
  refine dS (fun T H => ∃ v5 : Int, ∃ t11 : (List aI), ∃ t12 : Int, ∃ t13 : Int, Has T [(1, (eI t1)), (5, (eI v5)), (11, (eL aQ t11)), (12, (eI t12)), (13, (eI t13))] ∧ aJ ⟨H0, [], []⟩ H [] ∧ yD t1 v5 t11 t12 t13 = some r) ?_ ⟨(0 : Int), f0, (lN f0), (0 : Int), .eq (by kernel_rfl), hO, h0⟩
  clear hO h0
  rintro T H ⟨v5, t11, t12, t13, hT, hO, h0⟩
  refine aY hT ?_
  clear hT
  unfold yD at h0
  obtain ⟨rr0, hl0, h0⟩ := aX h0
  refine cS (by kernel_rfl) (fun (s : Int × Int) T H => Has T [(1, (eI t1)), (5, (eI s.1)), (11, (eL aQ t11)), (12, (eI t12)), (13, (eI s.2))] ∧ aJ ⟨H0, [], []⟩ H []) hl0 ⟨.eq (by kernel_rfl), hO⟩ ?_
  clear hO
  rintro k0 s out1 T H ⟨hT, hO⟩ h1 ho0
  obtain ⟨v5, t13⟩ := s
  replace h1 : mL t1 t11 t12 v5 t13 = some out1 := h1
  try dsimp only at hT
  refine aY hT ?_
  clear hT
  unfold mL at h1
  refine aT aD 1 [] [(14, (aE (decide (t13 < t12))))] ?_
  refine aN ?_
  refine bF h1 (fun h1 => ?_) (fun h1 => ?_)
  · refine bG ?_
    refine bI [(1, (eI t1)), (5, (eI v5)), (11, (eL aQ t11)), (12, (eI t12)), (13, (eI t13))] ?_
    refine aN ?_
    refine cA 1 ?_
    refine aN ?_
    refine aV aD 4 ?_
    obtain ⟨c6, h1⟩ := aU h1
    refine oA 2 [0 ≤ t13 ∧ t13 < (lN t11)] ⟨c6, trivial⟩ ?_
    refine sF 2 (aQ (aI.mk 0 0)) (by kernel_rfl) (by kernel_rfl) hO ?_
    intro lo7 H hO
    refine rW 0 lo7 2 0 (aQ (aI.mk 0 0)) (aQ (gD t11 t13)) [(aQ (aI.mk 0 0))] [(lo7, 2, [(aQ (gD t11 t13))])] hO rfl (by kernel_rfl) ?_
    intro H hO
    refine iP ?_
    refine bT [] [(7, (.lp lo7 0 0))] ?_
    refine aN ?_
    refine aN ?_
    refine aV aD 4 ?_
    refine bU 1 ?_
    refine tT 0 lo7 2 0 (aQ (gD t11 t13)) (eI ((gD t11 t13).At)) [(aQ (gD t11 t13))] hO rfl ?_
    refine bB ?_
    refine bT [] [(20, (aE (decide (t1 < ((gD t11 t13).At)))))] ?_
    refine bF h1 (fun h1 => ?_) (fun h1 => ?_)
    · refine eX 0 ?_
      replace hO := hO.pick (L' := []) [] (by decide) (by kernel_rfl)
      obtain rfl := oI h1
      obtain rfl : _ = rr0 := ho0
      replace h0 : tG v5 = some r := h0
      exact aG (aR (rP (by kernel_rfl) (aR (aR (bQ (aF (⟨rfl, _, .eq (by kernel_rfl), hO, h0⟩)))))))
    refine bG ?_
    refine bI [(1, (eI t1)), (5, (eI v5)), (7, (.lp lo7 0 0)), (11, (eL aQ t11)), (12, (eI t12)), (13, (eI t13))] ?_
    refine aV aD 5 ?_
    refine bU 2 ?_
    refine tT 0 lo7 2 0 (aQ (gD t11 t13)) (eI ((gD t11 t13).Net)) [(aQ (gD t11 t13))] hO rfl ?_
    refine bB ?_
    refine gO [(1, (eI t1)), (5, (eI (wR (v5 + ((gD t11 t13).Net))))), (11, (eL aQ t11)), (12, (eI t12)), (13, (eI t13))] ?_
    replace hO := hO.pick (L' := []) [] (by decide) (by kernel_rfl)
    refine aG (aW (aF (?_)))
    refine aV aD 2 ?_
    refine bB ?_
    exact aG (aF (⟨rfl, _, (oI h1).symm, .eq (by kernel_rfl), hO⟩))
  refine eX 0 ?_
  obtain rfl := oI h1
  obtain rfl : _ = rr0 := ho0
  replace h0 : tG v5 = some r := h0
  exact aG (aR (aR (bQ (aF (⟨rfl, _, .eq (by kernel_rfl), hO, h0⟩)))))

theorem uX (s0 : (List aB)) (r : (List aB)) (h0 : gM s0 = some r) : zT Try.prog 41 [(eL aC s0)] (fun lo => (.msl 3 lo 0 (List.length r))) 3 (List.map aC r) := by
  intro H0
  refine dG Try.func41 ?_
  have hO := aJ.start H0
  unfold gM at h0
  refine aT aD 1 [] [] ?_
  refine aN ?_
  refine aN ?_
  refine aV aD 2 ?_
  refine bU 1 ?_
  refine aA2 false (List.length s0) (fun i => aC (List.getD s0 i default)) (by kernel_rfl) (by kernel_rfl) ?_
  intro b1 hn2
  refine iP ?_
  refine bT [] [(4, (aE b1))] ?_
  refine mA (b1) (fun hc3 => ?_) (fun hc3 => ?_)
  · replace h0 : some ([] : List aB) = some r := by
      have hl := List.eq_nil_of_length_eq_zero (hn2 hc3)
      rw [hl] at h0
      exact (aU h0).2
    refine bS aD 1 [(2, (.sl true 0 (fun _ => .bad)))] ?_
    refine bK ?_
    refine gO [(2, (.sl true 0 (fun _ => .bad)))] ?_
    refine aAx (el := (fun _ => .bad)) 0 2 3 hO (by kernel_rfl) ?_
    intro lo4 H5 hO
    obtain rfl := oI h0
    exact aG (aP (mK (x := (.msl 3 lo4 0 (List.length ([] : List aB)))) (by kernel_rfl) (aO.refl _) ⟨lo4, rfl, hO⟩))
  · refine bG ?_
    refine bI [(0, (eL aC s0))] ?_
    refine aN ?_
    refine aV aD 4 ?_
    refine kU (xs := []) (k := 3) (by kernel_rfl) (by kernel_rfl) ?_
    refine bU 2 ?_
    obtain ⟨c7, h0⟩ := aU h0
    refine RH (e := aC) s0 (fun _ => .bad) 3 32 (eL aC s0) (fun lo6 => [(lo6, 3, List.map aC s0)]) (by kernel_rfl) (by kernel_rfl) hO (QL (fun _ => by kernel_rfl)) c7 (fun _ => by kernel_rfl) ?_
    intro lo6 H hO
    refine bB ?_
    refine bI [(2, (.msl 3 lo6 0 (List.length s0)))] ?_
    refine bK ?_
    obtain rfl := oI h0
    exact aG (mK (x := (.msl 3 lo6 0 (List.length s0))) (by kernel_rfl) (aO.refl _) ⟨lo6, rfl, hO⟩)

theorem JH (t0 : Int) (t1 : (List bY)) (r : (List bM)) (h0 : qC t0 t1 = some r) : dL Try.prog 39 [(eI t0), (.rp (eL cB t1))] (eL bR r) := by
  intro H0
  refine dG Try.func39 ?_
  have hO := aJ.start H0
  unfold qC at h0
  refine aT aD 1 [] [] ?_
  refine aN ?_
  refine aV aD 2 ?_
  refine kU (xs := []) (k := 2) (by kernel_rfl) (by kernel_rfl) ?_
  refine bB ?_
  refine bT [] [(4, (.sl true 0 (fun _ => .bad)))] ?_
  refine dN (fun T H => ∃ out4 : List bM, ∃ lo1 : Nat, Has T [(4, (.msl 2 lo1 0 (List.length out4)))] ∧ aJ ⟨H0, [], []⟩ H [(lo1, 2, List.map bR out4)] ∧ sE out4 = some r) ?_ ?_
  · clear hO h0
    rintro T H ⟨out4, lo1, hT, hO, h0⟩
    refine aY hT ?_
    clear hT
    unfold sE at h0
    refine bS aD 2 [(3, (.msl 2 lo1 0 (List.length out4)))] ?_
    refine bK ?_
    refine gO [(3, (.msl 2 lo1 0 (List.length out4)))] ?_
    refine oQ (en := bR) out4 0 0 3 2 lo1 (List.length out4) hO (by kernel_rfl) (by kernel_rfl) (by kernel_rfl) (L' := []) (by kernel_rfl) ?_
    intro H2 hO
    obtain rfl := oI h0
    exact aG (Q_r hO)
  refine aT aD 3 [1] [(9, (eL cB t1)), (10, (eI (lN t1))), (11, (eI (0 : Int)))] ?_
  refine cA 0 ?_
  refine eU [(0, (eI t0)), (4, (.sl true 0 (fun _ => .bad))), (9, (eL cB t1)), (10, (eI (lN t1))), (11, (eI (0 : Int)))] ?_
  refine xN (el := (fun _ => .bad)) 1 4 2 hO (by kernel_rfl) ?_
  intro lo21 H22 hO
  refine dS (fun T H => ∃ out4 : List bM, ∃ t9 : (List bY), ∃ t10 : Int, ∃ t11 : Int, ∃ lo4 : Nat, Has T [(0, (eI t0)), (4, (.msl 2 lo4 0 (List.length out4))), (9, (eL cB t9)), (10, (eI t10)), (11, (eI t11))] ∧ aJ ⟨H0, [], []⟩ H [(lo4, 2, List.map bR out4)] ∧ sD t0 out4 t9 t10 t11 = some r) ?_ ⟨([] : List bM), t1, (lN t1), (0 : Int), lo21, .eq (by kernel_rfl), hO, h0⟩
  clear hO h0
  rintro T H ⟨out4, t9, t10, t11, lo4, hT, hO, h0⟩
  refine aY hT ?_
  clear hT
  unfold sD at h0
  obtain ⟨rr0, hl0, h0⟩ := aX h0
  refine cS (by kernel_rfl) (fun (s : List bM × Int) T H => ∃ lo4 : Nat, Has T [(0, (eI t0)), (4, (.msl 2 lo4 0 (List.length s.1))), (9, (eL cB t9)), (10, (eI t10)), (11, (eI s.2))] ∧ aJ ⟨H0, [], []⟩ H [(lo4, 2, List.map bR s.1)]) hl0 ⟨lo4, .eq (by kernel_rfl), hO⟩ ?_
  clear hO
  rintro k0 s out1 T H ⟨lo4, hT, hO⟩ h1 ho0
  obtain ⟨out4, t11⟩ := s
  replace h1 : lJ t0 t9 t10 out4 t11 = some out1 := h1
  try dsimp only at hT
  refine aY hT ?_
  clear hT
  unfold lJ at h1
  refine aT aD 1 [] [(12, (aE (decide (t11 < t10))))] ?_
  refine aN ?_
  refine bF h1 (fun h1 => ?_) (fun h1 => ?_)
  · refine bG ?_
    refine bI [(0, (eI t0)), (4, (.msl 2 lo4 0 (List.length out4))), (9, (eL cB t9)), (10, (eI t10)), (11, (eI t11))] ?_
    refine dN (fun T H => ∃ out4 : List bM, ∃ lo6 : Nat, Has T [(0, (eI t0)), (4, (.msl 2 lo6 0 (List.length out4))), (9, (eL cB t9)), (10, (eI t10)), (11, (eI t11))] ∧ aJ ⟨H0, [], []⟩ H [(lo6, 2, List.map bR out4)] ∧ mU t0 out4 t9 t10 t11 = some out1) ?_ ?_
    · clear hO h1
      rintro T H ⟨out4, lo6, hT, hO, h1⟩
      refine aY hT ?_
      clear hT
      unfold mU at h1
      refine aV aD 2 ?_
      refine bB ?_
      exact aG (aF (⟨rfl, _, (oI h1).symm, _, .eq (by kernel_rfl), hO⟩))
    refine cA 1 ?_
    refine aN ?_
    refine aV aD 4 ?_
    obtain ⟨c7, h1⟩ := aU h1
    refine oA 2 [0 ≤ t11 ∧ t11 < (lN t9)] ⟨c7, trivial⟩ ?_
    refine CC 2 (.agg [(.sl true 0 (fun _ => .bad)), (.sl true 0 (fun _ => .bad))]) (cB (bY.mk ([]) ([]))) (by kernel_rfl) (by kernel_rfl) (by kernel_rfl) (MA (xs := [(.sl true 0 (fun _ => .bad)), (.sl true 0 (fun _ => .bad))]) (ys := [(eL aC ([])), (eL aQ ([]))]) ⟨kM, kM, trivial⟩) (by kernel_rfl) (by kernel_rfl) hO ?_
    intro lo8 H hO
    refine rW 1 lo8 2 0 (cB (bY.mk ([]) ([]))) (cB (gD t9 t11)) [(cB (bY.mk ([]) ([])))] [(lo4, 2, List.map bR out4), (lo8, 2, [(cB (gD t9 t11))])] hO rfl (by kernel_rfl) ?_
    intro H hO
    refine iP ?_
    refine bT [] [(6, (.lp lo8 0 0))] ?_
    refine aN ?_
    refine aV aD 5 ?_
    refine bU 1 ?_
    refine tT 1 lo8 2 0 (cB (gD t9 t11)) (eL aQ ((gD t9 t11).jumps)) [(cB (gD t9 t11))] hO rfl ?_
    refine bU 3 ?_
    obtain ⟨x9, hx10, h1⟩ := aX h1
    refine dR (UF ((gD t9 t11).jumps) t0 _ hx10) hO ?_
    intro H hO
    refine bB ?_
    refine bT [] [(7, (eI x9))] ?_
    refine aT aD 2 [] [(20, (aE (decide ((0 : Int) < x9))))] ?_
    refine bF h1 (fun h1 => ?_) (fun h1 => ?_)
    · refine aV aD 9 ?_
      refine bU 2 ?_
      refine tT 1 lo8 2 0 (cB (gD t9 t11)) (eL aC ((gD t9 t11).row)) [(cB (gD t9 t11))] hO rfl ?_
      obtain ⟨x16, hx17, h1⟩ := aX h1
      refine ZV (L' := fun lo18 => [(lo4, 2, List.map bR out4), (lo8, 2, [(cB (gD t9 t11))]), (lo18, 3, List.map aC x16)]) 3 (List.map aC x16) 41 [(eL aC ((gD t9 t11).row))] (fun lo18 => (.msl 3 lo18 0 (List.length x16))) (by kernel_rfl) (by kernel_rfl) (uX ((gD t9 t11).row) _ hx17) hO (fun _ => by kernel_rfl) ?_
      intro lo18 H hO
      refine bU 5 ?_
      refine KH (e := aC) x16 2 24 3 lo18 (List.length x16) [(lo4, 2, List.map bR out4), (lo8, 2, [(cB (gD t9 t11))])] (by kernel_rfl) hO (by kernel_rfl) (by kernel_rfl) (by kernel_rfl) (by kernel_rfl) ?_
      intro H hO
      refine bU 6 ?_
      refine kU (xs := [(bR (bM.mk x16 x9))]) (k := 2) (by kernel_rfl) (by kernel_rfl) ?_
      obtain ⟨c20, h1⟩ := aU h1
      refine oH (e := bR) out4 ([bM.mk x16 x9]) 0 lo4 2 32 (gQ [(bR (bM.mk x16 x9))]) (fun lo19 => [(lo19, 2, List.map bR (out4 ++ ([bM.mk x16 x9]))), (lo8, 2, [(cB (gD t9 t11))])]) (by kernel_rfl) (by kernel_rfl) hO (by kernel_rfl) (by kernel_rfl) c20 (fun _ => by kernel_rfl) ?_
      intro lo19 H hO
      refine bB ?_
      replace hO := hO.pick (L' := [(lo19, 2, List.map bR (out4 ++ ([bM.mk x16 x9])))]) [0] (by decide) (by kernel_rfl)
      exact aG (aW (aF (⟨rfl, _, _, .eq (by kernel_rfl), hO, h1⟩)))
    refine bG ?_
    replace hO := hO.pick (L' := [(lo4, 2, List.map bR out4)]) [0] (by decide) (by kernel_rfl)
    exact aG (aW (aF (⟨rfl, _, _, .eq (by kernel_rfl), hO, h1⟩)))
  refine eX 0 ?_
  obtain rfl := oI h1
  obtain rfl : _ = rr0 := ho0
  replace h0 : sE out4 = some r := h0
  exact aG (aR (aR (bQ (aF (⟨rfl, _, _, .eq (by kernel_rfl), hO, h0⟩)))))

theorem CK (l0 : (List aK)) (cE : Int) (r : ((List bC) × Int)) (h0 : pP l0 cE = some r) : dL Try.prog 14 [(eL aM l0), (eI cE)] (.tup [(eL bA r.1), (eI r.2)]) := by
  intro H0
  refine IZ aD Try.func14 (by kernel_rfl) (by kernel_rfl) (by kernel_rfl) ?_
  have hO := aJ.start H0
  unfold pP at h0
  refine aT aD 2 [] [] ?_
  refine aN ?_
  refine aV aD 8 ?_
  refine bU 2 ?_
  obtain ⟨x1, hx2, h0⟩ := aX h0
  refine dR (FD l0 cE _ hx2) hO ?_
  intro H hO
  refine bB ?_
  refine bT [1] [(6, (eL (eI) x1.1)), (7, (eI x1.2))] ?_
  refine aN ?_
  refine aT aD 2 [] [(24, (aE (!decide (x1.2 = (0 : Int)))))] ?_
  refine bF h0 (fun h0 => ?_) (fun h0 => ?_)
  · refine bS aD 3 [(4, (.sl true 0 (fun _ => .bad))), (5, (eI x1.2))] ?_
    refine bK ?_
    refine cX (l := [(4, (eL bA ([]))), (5, (eI x1.2))]) ⟨[(4, (.sl true 0 (fun _ => .bad))), (5, (eI x1.2))], by kernel_rfl, rfl, ⟨kM, aO.refl _, trivial⟩⟩ ?_
    obtain rfl := oI h0
    exact aG (aP (QM0 (.inr rfl) (rs := [.tmp 4, .tmp 5]) (xs := [(eL bA ([])), (eI x1.2)]) (x := (.tup [(eL bA ([])), (eI x1.2)])) (by kernel_rfl) (AW (x := (eL bA ([]))) (by kernel_rfl) (AW (x := (eI x1.2)) (by kernel_rfl) vT)) (by kernel_rfl) ⟨rfl, hO.out⟩))
  refine bG ?_
  refine bI [(0, (eL aM l0)), (6, (eL (eI) x1.1))] ?_
  refine aN ?_
  refine aV aD 3 ?_
  refine kU (xs := []) (k := 2) (by kernel_rfl) (by kernel_rfl) ?_
  refine CC 1 (.sl true 0 (fun _ => .bad)) (eL cB ([])) (by kernel_rfl) (by kernel_rfl) (by kernel_rfl) (kM) (by kernel_rfl) (by kernel_rfl) hO ?_
  intro lo5 H hO
  refine aAR 26 2 (fun _ => .bad) (by kernel_rfl) hO (by kernel_rfl) ?_
  intro lo6 H hO
  refine rW 0 lo5 1 0 (eL cB ([])) (.msl 2 lo6 0 (List.length ([] : List bY))) [(eL cB ([]))] [(lo5, 1, [(.msl 2 lo6 0 (List.length ([] : List bY)))]), (lo6, 2, List.map cB ([] : List bY))] hO rfl (by kernel_rfl) ?_
  intro H hO
  refine iP ?_
  refine bT [] [(8, (.lp lo5 0 0))] ?_
  refine aN ?_
  refine aN ?_
  refine aV aD 2 ?_
  refine bU 1 ?_
  obtain ⟨x7, hx8, h0⟩ := aX h0
  refine dR (KW l0 _ hx8) hO ?_
  intro H hO
  refine iP ?_
  refine bT [0] [(28, (.fn (.func 66) [] [(.rp (eL aM x7))]))] ?_
  refine cA 0 ?_
  refine eU [(6, (eL (eI) x1.1)), (8, (.lp lo5 0 0)), (28, (.fn (.func 66) [] [(.rp (eL aM x7))]))] ?_
  refine dS (fun T H => ∃ bZ : (List Int), ∃ all8 : List bY, ∃ tK : (List aK), ∃ lo9 : Nat, Has T [(6, (eL (eI) bZ)), (8, (.lp lo5 0 0)), (28, (.fn (.func 66) [] [(.rp (eL aM tK))]))] ∧ aJ ⟨H0, [], []⟩ H [(lo5, 1, [(.msl 2 lo9 0 (List.length all8))]), (lo9, 2, List.map cB all8)] ∧ uN bZ all8 tK = some r) ?_ ⟨x1.1, ([] : List bY), x7, lo6, .eq (by kernel_rfl), hO, h0⟩
  clear hO h0
  rintro T H ⟨bZ, all8, tK, lo9, hT, hO, h0⟩
  refine aY (l := [(6, (eL (eI) bZ)), (8, (.lp lo5 0 0)), (28, (.fn (.func 66) [] [(.rp (eL aM tK))]))]) hT ?_
  clear hT
  unfold uN at h0
  obtain ⟨o0, hl0, h0⟩ := aX h0
  refine GB (fid := 66) (ys := []) (cs := [(.rp (eL aM tK))]) #[29, 30] (fun (A : AD) (b lL : Nat) (st : (List bY) ⊕ (List bY)) (G' : Gs) => Sum.elim (fun (s : List bY) => ∃ lo9 : Nat, G' = (lL, .raw (lG b A .ready none)) :: (up [(lo5, 1, [(.msl 2 lo9 0 (List.length s))]), (lo9, 2, List.map cB s)] ++ [])) (fun (s : List bY) => False) st) (.inl all8) o0 (.tup []) (by kernel_rfl) (by kernel_rfl) (by kernel_rfl) hO (fun _ _ => ⟨lo9, rfl⟩) ?_ ?_
  · intro b lL
    clear hO h0
    refine ER _ b (fun st t29 t30 => rnd (fun (s : List bY) => lU bZ tK s t29 t30) st) ?_ tK _ _ hl0
    intro st t29 t30 out1 rr hr
    obtain ⟨s, rfl, h1, rfl⟩ := WS hr
    clear hr
    intro Hr Gr hi hg
    obtain ⟨all8, rfl⟩ : ∃ x, x = s := ⟨_, rfl⟩
    dsimp only [Sum.elim_inl] at hi
    obtain ⟨lo9, rfl⟩ := hi
    replace h1 : lU bZ tK all8 t29 t30 = some out1 := h1
    unfold lU at h1
    obtain ⟨E1, hE, hO⟩ := AI hg
    refine AF (GD (hO.gm 0 _ rfl).2 (by kernel_rfl) (by kernel_rfl) ?_)
    refine eU [(6, (eL (eI) bZ)), (8, (.lp lo5 0 0)), (28, (.fn (.func 66) [] [(.rp (eL aM tK))])), (29, (eL aC t29)), (30, (eL aQ t30))] ?_
    refine aT aD 1 [6, 28, 29] [(9, (eL aC t29))] ?_
    refine aV aD 1 ?_
    refine bB ?_
    refine gO [(8, (.lp lo5 0 0)), (9, (eL aC t29)), (10, (eL aQ t30))] ?_
    refine aG (⟨rfl, rfl, (hO.gm 0 _ rfl).2, ?_⟩)
    intro o1 ho1
    replace hO := hO.wL o1
    refine cA 1 ?_
    refine aV aD 7 ?_
    refine tT 0 lo5 1 0 (.msl 2 lo9 0 (List.length all8)) (.msl 2 lo9 0 (List.length all8)) [(.msl 2 lo9 0 (List.length all8))] hO rfl ?_
    refine bU 4 ?_
    refine kU (xs := [(cB (bY.mk t29 t30))]) (k := 2) (by kernel_rfl) (by kernel_rfl) ?_
    obtain ⟨c11, h1⟩ := aU h1
    refine oH (e := cB) all8 ([bY.mk t29 t30]) 1 lo9 2 48 (gQ [(cB (bY.mk t29 t30))]) (fun lo10 => [(lo5, 1, [(.msl 2 lo9 0 (List.length all8))]), (lo10, 2, List.map cB (all8 ++ ([bY.mk t29 t30])))]) (by kernel_rfl) (by kernel_rfl) hO (by kernel_rfl) (by kernel_rfl) c11 (fun _ => by kernel_rfl) ?_
    intro lo10 H hO
    refine rW 0 lo5 1 0 (.msl 2 lo9 0 (List.length all8)) (.msl 2 lo10 0 (List.length (all8 ++ ([bY.mk t29 t30])))) [(.msl 2 lo9 0 (List.length all8))] [(lo5, 1, [(.msl 2 lo10 0 (List.length (all8 ++ ([bY.mk t29 t30]))))]), (lo10, 2, List.map cB (all8 ++ ([bY.mk t29 t30])))] hO rfl (by kernel_rfl) ?_
    intro H hO
    refine iP ?_
    refine gO [(8, (.lp lo5 0 0))] ?_
    obtain rfl := oI h1
    exact aG (aW (⟨(nG hO hE ho1 .dead).1, rfl, _, ⟨lo10, rfl⟩, (nG hO hE ho1 _).2⟩))
  · intro b lD12 lL H' G' hi hO
    rcases o0 with s | s
    · dsimp only [Sum.elim_inl] at hi
      obtain ⟨lo9, rfl⟩ := hi
      replace h0 : (qP bZ s ([] : List bC) bZ (lN bZ) (0 : Int)) = some r := h0
      obtain ⟨hlL, hO⟩ := wJ hO
      refine ⟨_, _, hlL, (by intro e; cases e), ?_⟩
      refine gO [(6, (eL (eI) bZ)), (8, (.lp lo5 0 0))] ?_
      refine aG (aW (aF (?_)))
      refine aN ?_
      refine SH (e := cB) s 0 1 1 2 lo5 lo9 (List.length s) [(lo5, 1, [(eL cB s)])] hO (by kernel_rfl) (by kernel_rfl) (by kernel_rfl) (.inr (by decide)) (by kernel_rfl) ?_
      intro H hO
      refine eU [(6, (eL (eI) bZ)), (8, (.lp lo5 0 0))] ?_
      refine UI 1 0 8 1 lo5 (eL cB s) [] hO (by kernel_rfl) (by kernel_rfl) (by kernel_rfl) ?_
      intro H hO
      refine aV aD 2 ?_
      refine bB ?_
      refine bT [8] [(11, (.fn (.func 39) [] [(.rp (eL cB s))]))] ?_
      refine aN ?_
      refine aV aD 2 ?_
      refine kU (xs := []) (k := 3) (by kernel_rfl) (by kernel_rfl) ?_
      refine bB ?_
      refine bT [] [(12, (.sl true 0 (fun _ => .bad)))] ?_
      refine dN (fun T H => ∃ eA : List bC, ∃ lo13 : Nat, Has T [(12, (.msl 3 lo13 0 (List.length eA)))] ∧ aJ ⟨H0, [], (lD12, .raw uW) :: []⟩ H [(lo13, 3, List.map bA eA)] ∧ uM eA = some r) ?_ ?_
      · clear hO h0
        rintro T H ⟨eA, lo13, hT, hO, h0⟩
        refine aY hT ?_
        clear hT
        unfold uM at h0
        refine bS aD 3 [(4, (.msl 3 lo13 0 (List.length eA))), (5, (eI (0 : Int)))] ?_
        refine bK ?_
        refine gO [(4, (.msl 3 lo13 0 (List.length eA))), (5, (eI (0 : Int)))] ?_
        refine oQ (en := bA) eA 0 0 4 3 lo13 (List.length eA) hO (by kernel_rfl) (by kernel_rfl) (by kernel_rfl) (L' := []) (by kernel_rfl) ?_
        intro H14 hO
        obtain rfl := oI h0
        have hD := (hO.gm 0 _ rfl).2
        replace hO := (hO.wL .dead).uK
        exact aG (QM1 (.inr rfl) hD (rs := [.tmp 4, .tmp 5]) (xs := [(eL bA eA), (eI (0 : Int))]) (x := (.tup [(eL bA eA), (eI (0 : Int))])) (by kernel_rfl) (AW (x := (eL bA eA)) (by kernel_rfl) (AW (x := (eI (0 : Int))) (by kernel_rfl) vT)) (by kernel_rfl) ⟨rfl, hO.out⟩)
      refine aT aD 3 [] [(39, (eL (eI) bZ)), (40, (eI (lN bZ))), (41, (eI (0 : Int)))] ?_
      refine cA 2 ?_
      refine eU [(6, (eL (eI) bZ)), (11, (.fn (.func 39) [] [(.rp (eL cB s))])), (12, (.sl true 0 (fun _ => .bad))), (39, (eL (eI) bZ)), (40, (eI (lN bZ))), (41, (eI (0 : Int)))] ?_
      refine xN (el := (fun _ => .bad)) 2 12 3 hO (by kernel_rfl) ?_
      intro lo30 H31 hO
      refine dS (fun T H => ∃ fJ : (List bY), ∃ eA : List bC, ∃ t39 : (List Int), ∃ t40 : Int, ∃ t41 : Int, ∃ lo16 : Nat, Has T [(6, (eL (eI) bZ)), (11, (.fn (.func 39) [] [(.rp (eL cB fJ))])), (12, (.msl 3 lo16 0 (List.length eA))), (39, (eL (eI) t39)), (40, (eI t40)), (41, (eI t41))] ∧ aJ ⟨H0, [], (lD12, .raw uW) :: []⟩ H [(lo16, 3, List.map bA eA)] ∧ qP bZ fJ eA t39 t40 t41 = some r) ?_ ⟨s, ([] : List bC), bZ, (lN bZ), (0 : Int), lo30, .eq (by kernel_rfl), hO, h0⟩
      clear hO h0
      rintro T H ⟨fJ, eA, t39, t40, t41, lo16, hT, hO, h0⟩
      refine aY hT ?_
      clear hT
      unfold qP at h0
      obtain ⟨rr0, hl0, h0⟩ := aX h0
      refine cS (by kernel_rfl) (fun (s : List bC × Int) T H => ∃ lo16 : Nat, Has T [(6, (eL (eI) bZ)), (11, (.fn (.func 39) [] [(.rp (eL cB fJ))])), (12, (.msl 3 lo16 0 (List.length s.1))), (39, (eL (eI) t39)), (40, (eI t40)), (41, (eI s.2))] ∧ aJ ⟨H0, [], (lD12, .raw uW) :: []⟩ H [(lo16, 3, List.map bA s.1)]) hl0 ⟨lo16, .eq (by kernel_rfl), hO⟩ ?_
      clear hO
      rintro k0 s out1 T H ⟨lo16, hT, hO⟩ h1 ho0
      obtain ⟨eA, t41⟩ := s
      replace h1 : lV bZ fJ t39 t40 eA t41 = some out1 := h1
      try dsimp only at hT
      refine aY hT ?_
      clear hT
      unfold lV at h1
      refine aT aD 1 [] [(42, (aE (decide (t41 < t40))))] ?_
      refine aN ?_
      refine bF h1 (fun h1 => ?_) (fun h1 => ?_)
      · refine bG ?_
        refine bI [(6, (eL (eI) bZ)), (11, (.fn (.func 39) [] [(.rp (eL cB fJ))])), (12, (.msl 3 lo16 0 (List.length eA))), (39, (eL (eI) t39)), (40, (eI t40)), (41, (eI t41))] ?_
        refine dN (fun T H => ∃ eA : List bC, ∃ lo18 : Nat, Has T [(6, (eL (eI) bZ)), (11, (.fn (.func 39) [] [(.rp (eL cB fJ))])), (12, (.msl 3 lo18 0 (List.length eA))), (39, (eL (eI) t39)), (40, (eI t40)), (41, (eI t41))] ∧ aJ ⟨H0, [], (lD12, .raw uW) :: []⟩ H [(lo18, 3, List.map bA eA)] ∧ qR bZ fJ eA t39 t40 t41 = some out1) ?_ ?_
        · clear hO h1
          rintro T H ⟨eA, lo18, hT, hO, h1⟩
          refine aY hT ?_
          clear hT
          unfold qR at h1
          refine aV aD 2 ?_
          refine bB ?_
          exact aG (aF (⟨rfl, _, (oI h1).symm, _, .eq (by kernel_rfl), hO⟩))
        refine cA 3 ?_
        refine aN ?_
        refine aV aD 5 ?_
        obtain ⟨c19, h1⟩ := aU h1
        refine nF [0 ≤ t41 ∧ t41 < (lN t39)] ⟨c19, trivial⟩ ?_
        refine bT [] [(13, (eI t41)), (14, (eI (gD t39 t41)))] ?_
        refine aN ?_
        refine aV aD 4 ?_
        refine bU 2 ?_
        obtain ⟨x20, hx21, h1⟩ := aX h1
        refine dR (JH (gD t39 t41) fJ _ hx21) hO ?_
        intro H hO
        refine bB ?_
        refine bT [] [(15, (eL bR x20))] ?_
        refine aN ?_
        refine aT aD 3 [] [(51, (aE (decide ((lN x20) = (0 : Int)))))] ?_
        refine bF h1 (fun h1 => ?_) (fun h1 => ?_)
        · refine eX 3 ?_
          exact aG (aR (bQ (aF (⟨rfl, _, _, .eq (by kernel_rfl), hO, h1⟩))))
        refine bG ?_
        refine bI [(6, (eL (eI) bZ)), (11, (.fn (.func 39) [] [(.rp (eL cB fJ))])), (12, (.msl 3 lo16 0 (List.length eA))), (13, (eI t41)), (14, (eI (gD t39 t41))), (15, (eL bR x20)), (39, (eL (eI) t39)), (40, (eI t40)), (41, (eI t41))] ?_
        refine aN ?_
        refine aT aD 3 [] [(54, (aE (decide ((lN eA) = (1024 : Int)))))] ?_
        refine bF h1 (fun h1 => ?_) (fun h1 => ?_)
        · refine aN ?_
          refine aV aD 2 ?_
          refine bB ?_
          refine gO [(4, (.sl true 0 (fun _ => .bad))), (5, (eI (7 : Int)))] ?_
          replace hO := hO.pick (L' := []) [] (by decide) (by kernel_rfl)
          refine aG (aF (?_))
          refine bK ?_
          refine cX (l := [(4, (eL bA ([]))), (5, (eI (7 : Int)))]) ⟨[(4, (.sl true 0 (fun _ => .bad))), (5, (eI (7 : Int)))], by kernel_rfl, rfl, ⟨kM, aO.refl _, trivial⟩⟩ ?_
          obtain rfl := oI h1
          obtain rfl : _ = rr0 := ho0
          replace h0 : some ([], (7 : Int)) = some r := h0
          obtain rfl := oI h0
          have hD := (hO.gm 0 _ rfl).2
          replace hO := (hO.wL .dead).uK
          exact aG (aP (bE (aP (aP (bE (aP (QM1 (.inr rfl) hD (rs := [.tmp 4, .tmp 5]) (xs := [(eL bA ([])), (eI (7 : Int))]) (x := (.tup [(eL bA ([])), (eI (7 : Int))])) (by kernel_rfl) (AW (x := (eL bA ([]))) (by kernel_rfl) (AW (x := (eI (7 : Int))) (by kernel_rfl) vT)) (by kernel_rfl) ⟨rfl, hO.out⟩)))))))
        refine bG ?_
        refine bI [(6, (eL (eI) bZ)), (11, (.fn (.func 39) [] [(.rp (eL cB fJ))])), (12, (.msl 3 lo16 0 (List.length eA))), (13, (eI t41)), (14, (eI (gD t39 t41))), (15, (eL bR x20)), (39, (eL (eI) t39)), (40, (eI t40)), (41, (eI t41))] ?_
        refine aT aD 1 [] [(16, (eI (1125899906842624 : Int)))] ?_
        refine dN (fun T H => ∃ eA : List bC, ∃ t14 : Int, ∃ pI : (List bM), ∃ wI : Int, ∃ lo25 : Nat, Has T [(6, (eL (eI) bZ)), (11, (.fn (.func 39) [] [(.rp (eL cB fJ))])), (12, (.msl 3 lo25 0 (List.length eA))), (14, (eI t14)), (15, (eL bR pI)), (16, (eI wI)), (39, (eL (eI) t39)), (40, (eI t40)), (41, (eI t41))] ∧ aJ ⟨H0, [], (lD12, .raw uW) :: []⟩ H [(lo25, 3, List.map bA eA)] ∧ qT bZ fJ eA t14 pI wI t39 t40 t41 = some out1) ?_ ?_
        · clear hO h1
          rintro T H ⟨eA, t14, pI, wI, lo25, hT, hO, h1⟩
          refine aY hT ?_
          clear hT
          unfold qT at h1
          refine aV aD 9 ?_
          refine bU 6 ?_
          refine kU (xs := [(bA (bC.mk (dK.mk t14 wI) pI))]) (k := 3) (by kernel_rfl) (by kernel_rfl) ?_
          obtain ⟨c27, h1⟩ := aU h1
          refine oH (e := bA) eA ([bC.mk (dK.mk t14 wI) pI]) 0 lo25 3 40 (gQ [(bA (bC.mk (dK.mk t14 wI) pI))]) (fun lo26 => [(lo26, 3, List.map bA (eA ++ ([bC.mk (dK.mk t14 wI) pI])))]) (by kernel_rfl) (by kernel_rfl) hO (by kernel_rfl) (by kernel_rfl) c27 (fun _ => by kernel_rfl) ?_
          intro lo26 H hO
          refine bB ?_
          exact aG (aW (aF (⟨rfl, _, _, .eq (by kernel_rfl), hO, h1⟩)))
        refine aT aD 5 [] [(59, (aE (decide ((wR (t41 + (1 : Int))) < (lN bZ)))))] ?_
        refine bF h1 (fun h1 => ?_) (fun h1 => ?_)
        · refine aV aD 6 ?_
          obtain ⟨c29, h1⟩ := aU h1
          refine nF [0 ≤ (wR (t41 + (1 : Int))) ∧ (wR (t41 + (1 : Int))) < (lN bZ)] ⟨c29, trivial⟩ ?_
          exact aG (aF (⟨rfl, _, _, _, _, _, .eq (by kernel_rfl), hO, h1⟩))
        refine bG ?_
        exact aG (aF (⟨rfl, _, _, _, _, _, .eq (by kernel_rfl), hO, h1⟩))
      refine eX 2 ?_
      obtain rfl := oI h1
      obtain rfl : _ = rr0 := ho0
      replace h0 : uM eA = some r := h0
      exact aG (aR (aR (bQ (aF (⟨rfl, _, _, .eq (by kernel_rfl), hO, h0⟩)))))
    · exact hi.elim

theorem DC  (r : Bool) (h0 : pQ  = some r) : dL Try.prog 11 [] (aE r) := by
  intro H0
  refine dG Try.func11 ?_
  have hO := aJ.start H0
  unfold pQ at h0
  refine bS aD 1 [] ?_
  refine aN ?_
  refine aV aD 3 ?_
  refine bU 1 ?_
  refine kU (xs := [(aC (aB.mk (1 : Int) (1 : Int) ByteArray.empty))]) (k := 3) (by kernel_rfl) (by kernel_rfl) ?_
  refine bB ?_
  refine cX (l := [(1, (eL aC ([aB.mk (1 : Int) (1 : Int) ByteArray.empty])))]) ⟨[(1, (gQ [(aC (aB.mk (1 : Int) (1 : Int) ByteArray.empty))]))], by kernel_rfl, rfl, ⟨CQ (l := [aB.mk (1 : Int) (1 : Int) ByteArray.empty]), trivial⟩⟩ ?_
  refine aG (aF (?_))
  refine aN ?_
  refine aV aD 3 ?_
  refine bU 1 ?_
  refine kU (xs := [(aC (aB.mk (1 : Int) (2 : Int) ByteArray.empty))]) (k := 3) (by kernel_rfl) (by kernel_rfl) ?_
  refine bB ?_
  refine cX (l := [(1, (eL aC ([aB.mk (1 : Int) (1 : Int) ByteArray.empty]))), (2, (eL aC ([aB.mk (1 : Int) (2 : Int) ByteArray.empty])))]) ⟨[(1, (eL aC ([aB.mk (1 : Int) (1 : Int) ByteArray.empty]))), (2, (gQ [(aC (aB.mk (1 : Int) (2 : Int) ByteArray.empty))]))], by kernel_rfl, rfl, ⟨aO.refl _, CQ (l := [aB.mk (1 : Int) (2 : Int) ByteArray.empty]), trivial⟩⟩ ?_
  refine aG (aF (?_))
  refine aN ?_
  refine aV aD 10 ?_
  refine bU 8 ?_
  refine kU (xs := [(aM (aK.mk ([aB.mk (1 : Int) (1 : Int) ByteArray.empty]) (2 : Int) (1 : Int))), (aM (aK.mk ([aB.mk (1 : Int) (1 : Int) ByteArray.empty]) (9 : Int) (-1 : Int))), (aM (aK.mk ([aB.mk (1 : Int) (2 : Int) ByteArray.empty]) (5 : Int) (1 : Int))), (aM (aK.mk ([aB.mk (1 : Int) (2 : Int) ByteArray.empty]) (7 : Int) (-1 : Int)))]) (k := 3) (by kernel_rfl) (by kernel_rfl) ?_
  refine bB ?_
  refine cX (l := [(3, (eL aM ([aK.mk ([aB.mk (1 : Int) (1 : Int) ByteArray.empty]) (2 : Int) (1 : Int), aK.mk ([aB.mk (1 : Int) (1 : Int) ByteArray.empty]) (9 : Int) (-1 : Int), aK.mk ([aB.mk (1 : Int) (2 : Int) ByteArray.empty]) (5 : Int) (1 : Int), aK.mk ([aB.mk (1 : Int) (2 : Int) ByteArray.empty]) (7 : Int) (-1 : Int)])))]) ⟨[(3, (gQ [(aM (aK.mk ([aB.mk (1 : Int) (1 : Int) ByteArray.empty]) (2 : Int) (1 : Int))), (aM (aK.mk ([aB.mk (1 : Int) (1 : Int) ByteArray.empty]) (9 : Int) (-1 : Int))), (aM (aK.mk ([aB.mk (1 : Int) (2 : Int) ByteArray.empty]) (5 : Int) (1 : Int))), (aM (aK.mk ([aB.mk (1 : Int) (2 : Int) ByteArray.empty]) (7 : Int) (-1 : Int)))]))], by kernel_rfl, rfl, ⟨CQ (l := [aK.mk ([aB.mk (1 : Int) (1 : Int) ByteArray.empty]) (2 : Int) (1 : Int), aK.mk ([aB.mk (1 : Int) (1 : Int) ByteArray.empty]) (9 : Int) (-1 : Int), aK.mk ([aB.mk (1 : Int) (2 : Int) ByteArray.empty]) (5 : Int) (1 : Int), aK.mk ([aB.mk (1 : Int) (2 : Int) ByteArray.empty]) (7 : Int) (-1 : Int)]), trivial⟩⟩ ?_
  refine aG (aF (?_))
  refine aN ?_
  refine aV aD 7 ?_
  refine bU 1 ?_
  obtain ⟨x1, hx2, h0⟩ := aX h0
  refine dR (FD ([aK.mk ([aB.mk (1 : Int) (1 : Int) ByteArray.empty]) (2 : Int) (1 : Int), aK.mk ([aB.mk (1 : Int) (1 : Int) ByteArray.empty]) (9 : Int) (-1 : Int), aK.mk ([aB.mk (1 : Int) (2 : Int) ByteArray.empty]) (5 : Int) (1 : Int), aK.mk ([aB.mk (1 : Int) (2 : Int) ByteArray.empty]) (7 : Int) (-1 : Int)]) (0 : Int) _ hx2) hO ?_
  intro H hO
  refine bB ?_
  refine bT [] [(4, (eL (eI) x1.1)), (5, (eI x1.2))] ?_
  refine aN ?_
  refine aV aD 7 ?_
  refine bU 1 ?_
  obtain ⟨x4, hx5, h0⟩ := aX h0
  refine dR (CK ([aK.mk ([aB.mk (1 : Int) (1 : Int) ByteArray.empty]) (2 : Int) (1 : Int), aK.mk ([aB.mk (1 : Int) (1 : Int) ByteArray.empty]) (9 : Int) (-1 : Int), aK.mk ([aB.mk (1 : Int) (2 : Int) ByteArray.empty]) (5 : Int) (1 : Int), aK.mk ([aB.mk (1 : Int) (2 : Int) ByteArray.empty]) (7 : Int) (-1 : Int)]) (0 : Int) _ hx5) hO ?_
  intro H hO
  refine bB ?_
  refine bT [3] [(6, (eL bA x4.1)), (7, (eI x4.2))] ?_
  refine aN ?_
  refine aV aD 39 ?_
  obtain ⟨c7, h0⟩ := aU h0
  obtain ⟨c8, h0⟩ := aU h0
  obtain ⟨c9, h0⟩ := aU h0
  refine nF [(((((decide (x1.2 = (0 : Int))) && (decide (x4.2 = (0 : Int)))) && (decide ((lN x1.1) = (5 : Int))))) = true → 0 ≤ (2 : Int) ∧ (2 : Int) < (lN x1.1)), (((((((decide (x1.2 = (0 : Int))) && (decide (x4.2 = (0 : Int)))) && (decide ((lN x1.1) = (5 : Int)))) && (decide ((gD x1.1 (2 : Int)) = (5 : Int)))) && (decide ((lN x4.1) = (3 : Int))))) = true → 0 ≤ (1 : Int) ∧ (1 : Int) < (lN x4.1)), ((((((((decide (x1.2 = (0 : Int))) && (decide (x4.2 = (0 : Int)))) && (decide ((lN x1.1) = (5 : Int)))) && (decide ((gD x1.1 (2 : Int)) = (5 : Int)))) && (decide ((lN x4.1) = (3 : Int)))) && ((decide ((((gD x4.1 (1 : Int)).Span).From) = ((dK.mk (5 : Int) (7 : Int)).From))) && ((decide ((((gD x4.1 (1 : Int)).Span).To) = ((dK.mk (5 : Int) (7 : Int)).To))) && true)))) = true → 0 ≤ (1 : Int) ∧ (1 : Int) < (lN x4.1))] ⟨c7, c8, c9, trivial⟩ ?_
  refine bI [(0, (aE (((((((decide (x1.2 = (0 : Int))) && (decide (x4.2 = (0 : Int)))) && (decide ((lN x1.1) = (5 : Int)))) && (decide ((gD x1.1 (2 : Int)) = (5 : Int)))) && (decide ((lN x4.1) = (3 : Int)))) && ((decide ((((gD x4.1 (1 : Int)).Span).From) = ((dK.mk (5 : Int) (7 : Int)).From))) && ((decide ((((gD x4.1 (1 : Int)).Span).To) = ((dK.mk (5 : Int) (7 : Int)).To))) && true))) && (decide ((lN ((gD x4.1 (1 : Int)).Rows)) = (2 : Int))))))] ?_
  refine bK ?_
  obtain rfl := oI h0
  exact aG (Q_r hO)

theorem AG (v0 : aB) (r : Bool) (h0 : oV v0 = some r) : dL Try.prog 89 [(aC v0)] (aE r) := by
  intro H0
  refine dG Try.func89 ?_
  have hO := aJ.start H0
  unfold oV at h0
  refine aN ?_
  refine aV aD 2 ?_
  refine oM 3 (aC v0) (by kernel_rfl) (by kernel_rfl) ?_
  refine bB ?_
  refine bI [(1, (.rp (aC v0)))] ?_
  refine aN ?_
  refine aT aD 3 [] [(5, (aE (decide (v0.Kind = (1 : Int)))))] ?_
  refine bF h0 (fun h0 => ?_) (fun h0 => ?_)
  · refine bS aD 4 [(2, (aE (mI v0.Text (⟨#[]⟩ : ByteArray))))] ?_
    refine bK ?_
    obtain rfl := oI h0
    exact aG (aP (Q_r hO))
  refine bG ?_
  refine bI [(1, (.rp (aC v0)))] ?_
  refine bS aD 15 [(2, (aE (((decide (v0.Kind = (2 : Int))) && (decide (v0.Num = (0 : Int)))) && (decide (((ByteArray.size v0.Text : Nat) : Int) ≤ (64 : Int))))))] ?_
  refine bK ?_
  obtain rfl := oI h0
  exact aG (Q_r hO)

theorem AE (r0 : (List aB)) (r : Bool) (h0 : oS r0 = some r) : dL Try.prog 62 [(eL aC r0)] (aE r) := by
  intro H0
  refine dG Try.func62 ?_
  have hO := aJ.start H0
  unfold oS at h0
  refine aT aD 1 [] [] ?_
  refine dN (fun T H => Has T [(0, (eL aC r0))] ∧ aJ ⟨H0, [], []⟩ H [] ∧ pW r0 = some r) ?_ ?_
  · clear hO h0
    rintro T H ⟨hT, hO, h0⟩
    refine aY hT ?_
    clear hT
    unfold pW at h0
    refine bS aD 4 [(2, (aE (decide ((lN r0) ≤ (8 : Int)))))] ?_
    refine bK ?_
    obtain rfl := oI h0
    exact aG (Q_r hO)
  refine aT aD 1 [] [(3, (eI (0 : Int)))] ?_
  refine cA 0 ?_
  refine eU [(0, (eL aC r0)), (3, (eI (0 : Int)))] ?_
  refine dS (fun T H => ∃ i3 : Int, Has T [(0, (eL aC r0)), (3, (eI i3))] ∧ aJ ⟨H0, [], []⟩ H [] ∧ wK r0 i3 = some r) ?_ ⟨(0 : Int), .eq (by kernel_rfl), hO, h0⟩
  clear hO h0
  rintro T H ⟨i3, hT, hO, h0⟩
  refine aY hT ?_
  clear hT
  unfold wK at h0
  obtain ⟨rr0, hl0, h0⟩ := aX h0
  refine cS (by kernel_rfl) (fun (s : Int) T H => Has T [(0, (eL aC r0)), (3, (eI s))] ∧ aJ ⟨H0, [], []⟩ H []) hl0 ⟨.eq (by kernel_rfl), hO⟩ ?_
  clear hO
  rintro k0 s out1 T H ⟨hT, hO⟩ h1 ho0
  obtain ⟨i3, rfl⟩ : ∃ x, x = s := ⟨_, rfl⟩
  replace h1 : nP r0 i3 = some out1 := h1
  refine aY hT ?_
  clear hT
  unfold nP at h1
  refine aN ?_
  refine aT aD 8 [] [(11, (aE ((decide (i3 < (lN r0))) && (decide (i3 < (9 : Int))))))] ?_
  refine bF h1 (fun h1 => ?_) (fun h1 => ?_)
  · refine bG ?_
    refine bI [(0, (eL aC r0)), (3, (eI i3))] ?_
    refine aN ?_
    refine cA 1 ?_
    refine aN ?_
    refine aV aD 6 ?_
    obtain ⟨c2, h1⟩ := aU h1
    refine oA 4 [0 ≤ i3 ∧ i3 < (lN r0)] ⟨c2, trivial⟩ ?_
    obtain ⟨x3, hx4, h1⟩ := aX h1
    refine dR (AG (gD r0 i3) _ hx4) hO ?_
    intro H hO
    refine bB ?_
    refine bT [] [(19, (aE (!x3)))] ?_
    refine bF h1 (fun h1 => ?_) (fun h1 => ?_)
    · refine bS aD 1 [(2, (aE false))] ?_
      refine bK ?_
      obtain rfl := oI h1
      obtain rfl : _ = rr0 := ho0
      replace h0 : some false = some r := h0
      obtain rfl := oI h0
      exact aG (bE (aP (aP (bE (aP (Q_r hO))))))
    refine bG ?_
    refine gO [(0, (eL aC r0)), (3, (eI i3))] ?_
    refine aG (aW (aF (?_)))
    refine aV aD 3 ?_
    refine bB ?_
    exact aG (aF (⟨rfl, _, (oI h1).symm, .eq (by kernel_rfl), hO⟩))
  refine eX 0 ?_
  obtain rfl := oI h1
  obtain rfl : _ = rr0 := ho0
  replace h0 : pW r0 = some r := h0
  exact aG (aR (aR (bQ (aF (⟨rfl, .eq (by kernel_rfl), hO, h0⟩)))))

theorem FI (f0 : (List aI)) (r : Bool) (h0 : oW f0 = some r) : dL Try.prog 63 [(eL aQ f0)] (aE r) := by
  intro H0
  refine dG Try.func63 ?_
  have hO := aJ.start H0
  unfold oW at h0
  refine aT aD 1 [] [] ?_
  refine aN ?_
  refine aT aD 3 [] [(6, (aE (decide ((1024 : Int) < (lN f0)))))] ?_
  refine bF h0 (fun h0 => ?_) (fun h0 => ?_)
  · refine bS aD 1 [(2, (aE false))] ?_
    refine bK ?_
    obtain rfl := oI h0
    exact aG (aP (Q_r hO))
  refine bG ?_
  refine bI [(0, (eL aQ f0))] ?_
  refine dN (fun T H => Has T [] ∧ aJ ⟨H0, [], []⟩ H [] ∧ sS  = some r) ?_ ?_
  · clear hO h0
    rintro T H ⟨hT, hO, h0⟩
    refine aY hT ?_
    clear hT
    unfold sS at h0
    refine bS aD 1 [(2, (aE true))] ?_
    refine bK ?_
    obtain rfl := oI h0
    exact aG (Q_r hO)
  refine aT aD 1 [] [(3, (eI (0 : Int)))] ?_
  refine cA 0 ?_
  refine eU [(0, (eL aQ f0)), (3, (eI (0 : Int)))] ?_
  refine dS (fun T H => ∃ i3 : Int, Has T [(0, (eL aQ f0)), (3, (eI i3))] ∧ aJ ⟨H0, [], []⟩ H [] ∧ vX f0 i3 = some r) ?_ ⟨(0 : Int), .eq (by kernel_rfl), hO, h0⟩
  clear hO h0
  rintro T H ⟨i3, hT, hO, h0⟩
  refine aY hT ?_
  clear hT
  unfold vX at h0
  obtain ⟨rr0, hl0, h0⟩ := aX h0
  refine cS (by kernel_rfl) (fun (s : Int) T H => Has T [(0, (eL aQ f0)), (3, (eI s))] ∧ aJ ⟨H0, [], []⟩ H []) hl0 ⟨.eq (by kernel_rfl), hO⟩ ?_
  clear hO
  rintro k0 s out1 T H ⟨hT, hO⟩ h1 ho0
  obtain ⟨i3, rfl⟩ : ∃ x, x = s := ⟨_, rfl⟩
  replace h1 : kR f0 i3 = some out1 := h1
  refine aY hT ?_
  clear hT
  unfold kR at h1
  refine aN ?_
  refine aT aD 4 [] [(10, (aE (decide (i3 < (lN f0)))))] ?_
  refine bF h1 (fun h1 => ?_) (fun h1 => ?_)
  · refine bG ?_
    refine bI [(0, (eL aQ f0)), (3, (eI i3))] ?_
    refine aN ?_
    refine cA 1 ?_
    refine aN ?_
    refine aN ?_
    refine aV aD 38 ?_
    obtain ⟨c3, h1⟩ := aU h1
    obtain ⟨c4, h1⟩ := aU h1
    obtain ⟨c5, h1⟩ := aU h1
    obtain ⟨c6, h1⟩ := aU h1
    obtain ⟨c7, h1⟩ := aU h1
    refine nF [0 ≤ i3 ∧ i3 < (lN f0), (((!(decide (((gD f0 i3).At) < (-1 : Int))))) = true → 0 ≤ i3 ∧ i3 < (lN f0)), (((!((decide (((gD f0 i3).At) < (-1 : Int))) || (decide ((1125899906842624 : Int) ≤ ((gD f0 i3).At)))))) = true → 0 ≤ i3 ∧ i3 < (lN f0)), (((!(((decide (((gD f0 i3).At) < (-1 : Int))) || (decide ((1125899906842624 : Int) ≤ ((gD f0 i3).At)))) || (decide (((gD f0 i3).Net) = (0 : Int)))))) = true → 0 ≤ i3 ∧ i3 < (lN f0)), (((!((((decide (((gD f0 i3).At) < (-1 : Int))) || (decide ((1125899906842624 : Int) ≤ ((gD f0 i3).At)))) || (decide (((gD f0 i3).Net) = (0 : Int)))) || (decide ((1048576 : Int) < ((gD f0 i3).Net)))))) = true → 0 ≤ i3 ∧ i3 < (lN f0))] ⟨c3, c4, c5, c6, c7, trivial⟩ ?_
    refine bT [] [(50, (aE (((((decide (((gD f0 i3).At) < (-1 : Int))) || (decide ((1125899906842624 : Int) ≤ ((gD f0 i3).At)))) || (decide (((gD f0 i3).Net) = (0 : Int)))) || (decide ((1048576 : Int) < ((gD f0 i3).Net)))) || (decide (((gD f0 i3).Net) < (-1048576 : Int))))))] ?_
    refine bF h1 (fun h1 => ?_) (fun h1 => ?_)
    · refine bS aD 1 [(2, (aE false))] ?_
      refine bK ?_
      obtain rfl := oI h1
      obtain rfl : _ = rr0 := ho0
      replace h0 : some false = some r := h0
      obtain rfl := oI h0
      exact aG (aP (bE (aP (aP (bE (aP (Q_r hO)))))))
    refine bG ?_
    refine bI [(0, (eL aQ f0)), (3, (eI i3))] ?_
    refine aN ?_
    obtain ⟨c9, h1⟩ := aU h1
    obtain ⟨c10, h1⟩ := aU h1
    refine fD (fC [58, 64]) aD 16 ?_
    refine lZ (K := fun T H => Has (lift T) [(0, (eL aQ f0)), (3, (eI i3)), (66, (aE ((decide ((0 : Int) < i3)) && (decide (((gD f0 i3).At) ≤ ((gD f0 (wR (i3 - (1 : Int)))).At))))))] ∧ aJ ⟨H0, [], []⟩ H []) ?_ ?_
    · refine mZ 3 ?_
      refine kP (t := 53) (e := decide ((0 : Int) < i3)) (by kernel_rfl) (fun hg11 => ?_) (fun hg11 => ?_)
      · refine zJ (Ds := [0 ≤ i3 ∧ i3 < (lN f0), 0 ≤ (wR (i3 - (1 : Int))) ∧ (wR (i3 - (1 : Int))) < (lN f0)]) (by kernel_rfl) ⟨(c9 hg11), (c10 hg11), trivial⟩ ?_
        exact ⟨⟨[(0, (eL aQ f0)), (3, (eI i3)), (66, (aE (decide (((gD f0 i3).At) ≤ ((gD f0 (wR (i3 - (1 : Int)))).At)))))], by kernel_rfl, rfl, ⟨aO.refl _, aO.refl _, aO.eq (congrArg aE (jH hg11 rfl).symm), trivial⟩⟩, hO⟩
      refine iF ?_
      exact ⟨⟨[(0, (eL aQ f0)), (3, (eI i3)), (66, (aE false))], by kernel_rfl, rfl, ⟨aO.refl _, aO.refl _, aO.eq (congrArg aE (jH hg11 rfl).symm), trivial⟩⟩, hO⟩
    · rintro T H ⟨hT, hO⟩
      refine cX hT ?_
      clear hT
      refine aG (aF ?_)
      refine bF h1 (fun h1 => ?_) (fun h1 => ?_)
      · refine bS aD 1 [(2, (aE false))] ?_
        refine bK ?_
        obtain rfl := oI h1
        obtain rfl : _ = rr0 := ho0
        replace h0 : some false = some r := h0
        obtain rfl := oI h0
        exact aG (bE (aP (aP (bE (aP (Q_r hO))))))
      refine bG ?_
      refine gO [(0, (eL aQ f0)), (3, (eI i3))] ?_
      refine aG (aW (aF (?_)))
      refine aV aD 3 ?_
      refine bB ?_
      exact aG (aF (⟨rfl, _, (oI h1).symm, .eq (by kernel_rfl), hO⟩))
  refine eX 0 ?_
  obtain rfl := oI h1
  obtain rfl : _ = rr0 := ho0
  replace h0 : sS  = some r := h0
  exact aG (aR (aR (bQ (aF (⟨rfl, .eq (by kernel_rfl), hO, h0⟩)))))

theorem HJ (a0 : aB) (b1 : aB) (r : Int) (h0 : oP a0 b1 = some r) : dL Try.prog 90 [(aC a0), (aC b1)] (eI r) := by
  intro H0
  refine dG Try.func90 ?_
  have hO := aJ.start H0
  unfold oP at h0
  refine aN ?_
  refine aV aD 3 ?_
  refine oM 3 (aC a0) (by kernel_rfl) (by kernel_rfl) ?_
  refine oM 3 (aC b1) (by kernel_rfl) (by kernel_rfl) ?_
  refine bB ?_
  refine bI [(2, (.rp (aC a0))), (3, (.rp (aC b1)))] ?_
  refine aN ?_
  refine aN ?_
  refine aV aD 8 ?_
  refine bU 1 ?_
  obtain ⟨x1, hx2, h0⟩ := aX h0
  refine dR (AG a0 _ hx2) hO ?_
  intro H hO
  refine bU 5 ?_
  obtain ⟨x4, hx5, h0⟩ := aX h0
  refine pR [(9, false)] 89 [(aC b1)] (aE x4) (!(!x1)) (by kernel_rfl) (by kernel_rfl) (by kernel_rfl) (fun hb6 => (AG b1 _ (jG hx5 hb6))) hO ?_
  intro H hO
  refine bB ?_
  refine bT [] [(13, (aE ((!x1) || (!x4))))] ?_
  refine bF h0 (fun h0 => ?_) (fun h0 => ?_)
  · refine bS aD 1 [(4, (eI (0 : Int)))] ?_
    refine bK ?_
    obtain rfl := oI h0
    exact aG (aP (Q_r hO))
  refine bG ?_
  refine bI [(2, (.rp (aC a0))), (3, (.rp (aC b1)))] ?_
  refine aN ?_
  refine aT aD 5 [] [(18, (aE (!decide (a0.Kind = b1.Kind))))] ?_
  refine bF h0 (fun h0 => ?_) (fun h0 => ?_)
  · refine aN ?_
    refine bS aD 3 [(21, (aE (decide (a0.Kind = (1 : Int)))))] ?_
    refine bF h0 (fun h0 => ?_) (fun h0 => ?_)
    · refine bS aD 1 [(4, (eI (-1 : Int)))] ?_
      refine bK ?_
      obtain rfl := oI h0
      exact aG (aP (aP (Q_r hO)))
    refine bG ?_
    refine bI [] ?_
    refine bS aD 1 [(4, (eI (1 : Int)))] ?_
    refine bK ?_
    obtain rfl := oI h0
    exact aG (aP (Q_r hO))
  refine bG ?_
  refine bI [(2, (.rp (aC a0))), (3, (.rp (aC b1)))] ?_
  refine aN ?_
  refine aT aD 5 [] [(26, (aE (!decide (a0.Num = b1.Num))))] ?_
  refine bF h0 (fun h0 => ?_) (fun h0 => ?_)
  · refine aN ?_
    refine bS aD 5 [(31, (aE (decide (a0.Num < b1.Num))))] ?_
    refine bF h0 (fun h0 => ?_) (fun h0 => ?_)
    · refine bS aD 1 [(4, (eI (-1 : Int)))] ?_
      refine bK ?_
      obtain rfl := oI h0
      exact aG (aP (aP (Q_r hO)))
    refine bG ?_
    refine bI [] ?_
    refine bS aD 1 [(4, (eI (1 : Int)))] ?_
    refine bK ?_
    obtain rfl := oI h0
    exact aG (aP (Q_r hO))
  refine bG ?_
  refine bI [(2, (.rp (aC a0))), (3, (.rp (aC b1)))] ?_
  refine dN (fun T H => ∃ a2 : aB, ∃ b3 : aB, Has T [(2, (.rp (aC a2))), (3, (.rp (aC b3)))] ∧ aJ ⟨H0, [], []⟩ H [] ∧ nR a2 b3 = some r) ?_ ?_
  · clear hO h0
    rintro T H ⟨a2, b3, hT, hO, h0⟩
    refine aY hT ?_
    clear hT
    unfold nR at h0
    refine aN ?_
    refine aT aD 7 [] [(70, (aE (!decide (((ByteArray.size a2.Text : Nat) : Int) = ((ByteArray.size b3.Text : Nat) : Int)))))] ?_
    refine bF h0 (fun h0 => ?_) (fun h0 => ?_)
    · refine aN ?_
      refine bS aD 7 [(77, (aE (decide (((ByteArray.size a2.Text : Nat) : Int) < ((ByteArray.size b3.Text : Nat) : Int)))))] ?_
      refine bF h0 (fun h0 => ?_) (fun h0 => ?_)
      · refine bS aD 1 [(4, (eI (-1 : Int)))] ?_
        refine bK ?_
        obtain rfl := oI h0
        exact aG (aP (aP (Q_r hO)))
      refine bG ?_
      refine bI [] ?_
      refine bS aD 1 [(4, (eI (1 : Int)))] ?_
      refine bK ?_
      obtain rfl := oI h0
      exact aG (aP (Q_r hO))
    refine bG ?_
    refine bI [] ?_
    refine bS aD 1 [(4, (eI (0 : Int)))] ?_
    refine bK ?_
    obtain rfl := oI h0
    exact aG (Q_r hO)
  refine aT aD 1 [] [(5, (eI (0 : Int)))] ?_
  refine cA 0 ?_
  refine eU [(2, (.rp (aC a0))), (3, (.rp (aC b1))), (5, (eI (0 : Int)))] ?_
  refine dS (fun T H => ∃ a2 : aB, ∃ b3 : aB, ∃ i5 : Int, Has T [(2, (.rp (aC a2))), (3, (.rp (aC b3))), (5, (eI i5))] ∧ aJ ⟨H0, [], []⟩ H [] ∧ qN a2 b3 i5 = some r) ?_ ⟨a0, b1, (0 : Int), .eq (by kernel_rfl), hO, h0⟩
  clear hO h0
  rintro T H ⟨a2, b3, i5, hT, hO, h0⟩
  refine aY hT ?_
  clear hT
  unfold qN at h0
  obtain ⟨rr0, hl0, h0⟩ := aX h0
  refine cS (by kernel_rfl) (fun (s : Int) T H => Has T [(2, (.rp (aC a2))), (3, (.rp (aC b3))), (5, (eI s))] ∧ aJ ⟨H0, [], []⟩ H []) hl0 ⟨.eq (by kernel_rfl), hO⟩ ?_
  clear hO
  rintro k0 s out1 T H ⟨hT, hO⟩ h1 ho0
  obtain ⟨i5, rfl⟩ : ∃ x, x = s := ⟨_, rfl⟩
  replace h1 : iH a2 b3 i5 = some out1 := h1
  refine aY hT ?_
  clear hT
  unfold iH at h1
  refine aN ?_
  refine aT aD 12 [] [(43, (aE ((decide (i5 < ((ByteArray.size a2.Text : Nat) : Int))) && (decide (i5 < ((ByteArray.size b3.Text : Nat) : Int))))))] ?_
  refine bF h1 (fun h1 => ?_) (fun h1 => ?_)
  · refine bG ?_
    refine bI [(2, (.rp (aC a2))), (3, (.rp (aC b3))), (5, (eI i5))] ?_
    refine aN ?_
    refine cA 1 ?_
    refine aN ?_
    refine fD (fC [47, 51]) aD 9 ?_
    obtain ⟨c15, h1⟩ := aU h1
    obtain ⟨c16, h1⟩ := aU h1
    refine zJ (Ds := [0 ≤ i5 ∧ i5 < ((ByteArray.size a2.Text : Nat) : Int), 0 ≤ i5 ∧ i5 < ((ByteArray.size b3.Text : Nat) : Int)]) (by kernel_rfl) ⟨c15, c16, trivial⟩ ?_
    refine bT [] [(54, (aE (!decide ((bt a2.Text i5) = (bt b3.Text i5)))))] ?_
    refine bF h1 (fun h1 => ?_) (fun h1 => ?_)
    · refine aN ?_
      refine aN ?_
      refine fD (fC [56, 60]) aD 9 ?_
      obtain ⟨c18, h1⟩ := aU h1
      obtain ⟨c19, h1⟩ := aU h1
      refine zJ (Ds := [0 ≤ i5 ∧ i5 < ((ByteArray.size a2.Text : Nat) : Int), 0 ≤ i5 ∧ i5 < ((ByteArray.size b3.Text : Nat) : Int)]) (by kernel_rfl) ⟨c18, c19, trivial⟩ ?_
      refine bI [(63, (aE (decide ((bt a2.Text i5) < (bt b3.Text i5)))))] ?_
      refine bF h1 (fun h1 => ?_) (fun h1 => ?_)
      · refine bS aD 1 [(4, (eI (-1 : Int)))] ?_
        refine bK ?_
        obtain rfl := oI h1
        obtain rfl : _ = rr0 := ho0
        replace h0 : some (-1 : Int) = some r := h0
        obtain rfl := oI h0
        exact aG (aP (bE (aP (aP (bE (aP (Q_r hO)))))))
      refine bG ?_
      refine bI [] ?_
      refine bS aD 1 [(4, (eI (1 : Int)))] ?_
      refine bK ?_
      obtain rfl := oI h1
      obtain rfl : _ = rr0 := ho0
      replace h0 : some (1 : Int) = some r := h0
      obtain rfl := oI h0
      exact aG (bE (aP (aP (bE (aP (Q_r hO))))))
    refine bG ?_
    refine gO [(2, (.rp (aC a2))), (3, (.rp (aC b3))), (5, (eI i5))] ?_
    refine aG (aW (aF (?_)))
    refine aV aD 3 ?_
    refine bB ?_
    exact aG (aF (⟨rfl, _, (oI h1).symm, .eq (by kernel_rfl), hO⟩))
  refine eX 0 ?_
  obtain rfl := oI h1
  obtain rfl : _ = rr0 := ho0
  replace h0 : nR a2 b3 = some r := h0
  exact aG (aR (aR (bQ (aF (⟨rfl, _, _, .eq (by kernel_rfl), hO, h0⟩)))))

theorem zH (a0 : (List aB)) (b1 : (List aB)) (r : Int) (h0 : mS a0 b1 = some r) : dL Try.prog 64 [(eL aC a0), (eL aC b1)] (eI r) := by
  intro H0
  refine dG Try.func64 ?_
  have hO := aJ.start H0
  unfold mS at h0
  refine aT aD 1 [] [] ?_
  refine aN ?_
  refine aN ?_
  refine aV aD 8 ?_
  refine bU 1 ?_
  obtain ⟨x1, hx2, h0⟩ := aX h0
  refine dR (AE a0 _ hx2) hO ?_
  intro H hO
  refine bU 5 ?_
  obtain ⟨x4, hx5, h0⟩ := aX h0
  refine pR [(10, false)] 62 [(eL aC b1)] (aE x4) (!(!x1)) (by kernel_rfl) (by kernel_rfl) (by kernel_rfl) (fun hb6 => (AE b1 _ (jG hx5 hb6))) hO ?_
  intro H hO
  refine bB ?_
  refine bT [] [(14, (aE ((!x1) || (!x4))))] ?_
  refine bF h0 (fun h0 => ?_) (fun h0 => ?_)
  · refine bS aD 1 [(4, (eI (0 : Int)))] ?_
    refine bK ?_
    obtain rfl := oI h0
    exact aG (aP (Q_r hO))
  refine bG ?_
  refine bI [(0, (eL aC a0)), (1, (eL aC b1))] ?_
  refine dN (fun T H => Has T [(0, (eL aC a0)), (1, (eL aC b1))] ∧ aJ ⟨H0, [], []⟩ H [] ∧ nM a0 b1 = some r) ?_ ?_
  · clear hO h0
    rintro T H ⟨hT, hO, h0⟩
    refine aY hT ?_
    clear hT
    unfold nM at h0
    refine aN ?_
    refine aT aD 5 [] [(43, (aE (decide ((lN a0) < (lN b1)))))] ?_
    refine bF h0 (fun h0 => ?_) (fun h0 => ?_)
    · refine bS aD 1 [(4, (eI (-1 : Int)))] ?_
      refine bK ?_
      obtain rfl := oI h0
      exact aG (aP (Q_r hO))
    refine bG ?_
    refine bI [(0, (eL aC a0)), (1, (eL aC b1))] ?_
    refine aN ?_
    refine bS aD 5 [(48, (aE (decide ((lN b1) < (lN a0)))))] ?_
    refine bF h0 (fun h0 => ?_) (fun h0 => ?_)
    · refine bS aD 1 [(4, (eI (1 : Int)))] ?_
      refine bK ?_
      obtain rfl := oI h0
      exact aG (aP (Q_r hO))
    refine bG ?_
    refine bI [] ?_
    refine bS aD 1 [(4, (eI (0 : Int)))] ?_
    refine bK ?_
    obtain rfl := oI h0
    exact aG (Q_r hO)
  refine aT aD 1 [] [(5, (eI (0 : Int)))] ?_
  refine cA 0 ?_
  refine eU [(0, (eL aC a0)), (1, (eL aC b1)), (5, (eI (0 : Int)))] ?_
  refine dS (fun T H => ∃ i5 : Int, Has T [(0, (eL aC a0)), (1, (eL aC b1)), (5, (eI i5))] ∧ aJ ⟨H0, [], []⟩ H [] ∧ qG a0 b1 i5 = some r) ?_ ⟨(0 : Int), .eq (by kernel_rfl), hO, h0⟩
  clear hO h0
  rintro T H ⟨i5, hT, hO, h0⟩
  refine aY hT ?_
  clear hT
  unfold qG at h0
  obtain ⟨rr0, hl0, h0⟩ := aX h0
  refine cS (by kernel_rfl) (fun (s : Int) T H => Has T [(0, (eL aC a0)), (1, (eL aC b1)), (5, (eI s))] ∧ aJ ⟨H0, [], []⟩ H []) hl0 ⟨.eq (by kernel_rfl), hO⟩ ?_
  clear hO
  rintro k0 s out1 T H ⟨hT, hO⟩ h1 ho0
  obtain ⟨i5, rfl⟩ : ∃ x, x = s := ⟨_, rfl⟩
  replace h1 : iG a0 b1 i5 = some out1 := h1
  refine aY hT ?_
  clear hT
  unfold iG at h1
  refine aN ?_
  refine aT aD 10 [] [(24, (aE ((decide (i5 < (lN a0))) && (decide (i5 < (lN b1))))))] ?_
  refine bF h1 (fun h1 => ?_) (fun h1 => ?_)
  · refine bG ?_
    refine bI [(0, (eL aC a0)), (1, (eL aC b1)), (5, (eI i5))] ?_
    refine aN ?_
    refine cA 1 ?_
    refine aN ?_
    refine fD (fC [30, 34, 35]) aD 10 ?_
    obtain ⟨c11, h1⟩ := aU h1
    obtain ⟨c12, h1⟩ := aU h1
    refine cH 8 [0 ≤ i5 ∧ i5 < (lN a0), 0 ≤ i5 ∧ i5 < (lN b1)] ⟨c11, c12, trivial⟩ ?_
    obtain ⟨x13, hx14, h1⟩ := aX h1
    refine CE (HJ (gD a0 i5) (gD b1 i5) _ hx14) hO ?_
    intro H hO
    refine iF ?_
    refine bT [] [(6, (eI x13))] ?_
    refine aT aD 2 [] [(37, (aE (!decide (x13 = (0 : Int)))))] ?_
    refine bF h1 (fun h1 => ?_) (fun h1 => ?_)
    · refine bS aD 2 [(4, (eI x13))] ?_
      refine bK ?_
      obtain rfl := oI h1
      obtain rfl : _ = rr0 := ho0
      replace h0 : some x13 = some r := h0
      obtain rfl := oI h0
      exact aG (bE (aP (aP (bE (aP (Q_r hO))))))
    refine bG ?_
    refine gO [(0, (eL aC a0)), (1, (eL aC b1)), (5, (eI i5))] ?_
    refine aG (aW (aF (?_)))
    refine aV aD 3 ?_
    refine bB ?_
    exact aG (aF (⟨rfl, _, (oI h1).symm, .eq (by kernel_rfl), hO⟩))
  refine eX 0 ?_
  obtain rfl := oI h1
  obtain rfl : _ = rr0 := ho0
  replace h0 : nM a0 b1 = some r := h0
  exact aG (aR (aR (bQ (aF (⟨rfl, .eq (by kernel_rfl), hO, h0⟩)))))

theorem yU (a0 : (List aB)) (b1 : (List aB)) (r : Bool) (h0 : nT a0 b1 = some r) : dL Try.prog 42 [(eL aC a0), (eL aC b1)] (aE r) := by
  intro H0
  refine dG Try.func42 ?_
  have hO := aJ.start H0
  unfold nT at h0
  refine aT aD 1 [] [] ?_
  refine aN ?_
  refine aT aD 5 [] [(10, (aE (!decide ((lN a0) = (lN b1)))))] ?_
  refine bF h0 (fun h0 => ?_) (fun h0 => ?_)
  · refine bS aD 1 [(4, (aE false))] ?_
    refine bK ?_
    obtain rfl := oI h0
    exact aG (aP (Q_r hO))
  refine bG ?_
  refine bI [(0, (eL aC a0)), (1, (eL aC b1))] ?_
  refine dN (fun T H => Has T [] ∧ aJ ⟨H0, [], []⟩ H [] ∧ qS  = some r) ?_ ?_
  · clear hO h0
    rintro T H ⟨hT, hO, h0⟩
    refine aY hT ?_
    clear hT
    unfold qS at h0
    refine bS aD 1 [(4, (aE true))] ?_
    refine bK ?_
    obtain rfl := oI h0
    exact aG (Q_r hO)
  refine aT aD 1 [] [(5, (eI (0 : Int)))] ?_
  refine cA 0 ?_
  refine eU [(0, (eL aC a0)), (1, (eL aC b1)), (5, (eI (0 : Int)))] ?_
  refine dS (fun T H => ∃ i5 : Int, Has T [(0, (eL aC a0)), (1, (eL aC b1)), (5, (eI i5))] ∧ aJ ⟨H0, [], []⟩ H [] ∧ uR a0 b1 i5 = some r) ?_ ⟨(0 : Int), .eq (by kernel_rfl), hO, h0⟩
  clear hO h0
  rintro T H ⟨i5, hT, hO, h0⟩
  refine aY hT ?_
  clear hT
  unfold uR at h0
  obtain ⟨rr0, hl0, h0⟩ := aX h0
  refine cS (by kernel_rfl) (fun (s : Int) T H => Has T [(0, (eL aC a0)), (1, (eL aC b1)), (5, (eI s))] ∧ aJ ⟨H0, [], []⟩ H []) hl0 ⟨.eq (by kernel_rfl), hO⟩ ?_
  clear hO
  rintro k0 s out1 T H ⟨hT, hO⟩ h1 ho0
  obtain ⟨i5, rfl⟩ : ∃ x, x = s := ⟨_, rfl⟩
  replace h1 : oE a0 b1 i5 = some out1 := h1
  refine aY hT ?_
  clear hT
  unfold oE at h1
  refine aN ?_
  refine aT aD 4 [] [(14, (aE (decide (i5 < (lN a0)))))] ?_
  refine bF h1 (fun h1 => ?_) (fun h1 => ?_)
  · refine bG ?_
    refine bI [(0, (eL aC a0)), (1, (eL aC b1)), (5, (eI i5))] ?_
    refine aN ?_
    refine cA 1 ?_
    refine aN ?_
    refine fD (fC [20, 24]) aD 9 ?_
    obtain ⟨c3, h1⟩ := aU h1
    obtain ⟨c4, h1⟩ := aU h1
    refine zJ (Ds := [0 ≤ i5 ∧ i5 < (lN a0), 0 ≤ i5 ∧ i5 < (lN b1)]) (by kernel_rfl) ⟨c3, c4, trivial⟩ ?_
    refine bT [] [(25, (aE (!((decide (((gD a0 i5).Kind) = ((gD b1 i5).Kind))) && ((decide (((gD a0 i5).Num) = ((gD b1 i5).Num))) && ((mI ((gD a0 i5).Text) ((gD b1 i5).Text)) && true))))))] ?_
    refine bF h1 (fun h1 => ?_) (fun h1 => ?_)
    · refine bS aD 1 [(4, (aE false))] ?_
      refine bK ?_
      obtain rfl := oI h1
      obtain rfl : _ = rr0 := ho0
      replace h0 : some false = some r := h0
      obtain rfl := oI h0
      exact aG (bE (aP (aP (bE (aP (Q_r hO))))))
    refine bG ?_
    refine gO [(0, (eL aC a0)), (1, (eL aC b1)), (5, (eI i5))] ?_
    refine aG (aW (aF (?_)))
    refine aV aD 3 ?_
    refine bB ?_
    exact aG (aF (⟨rfl, _, (oI h1).symm, .eq (by kernel_rfl), hO⟩))
  refine eX 0 ?_
  obtain rfl := oI h1
  obtain rfl : _ = rr0 := ho0
  replace h0 : qS  = some r := h0
  exact aG (aR (aR (bQ (aF (⟨rfl, .eq (by kernel_rfl), hO, h0⟩)))))

theorem yZ (l0 : (List aK)) (r : (List (List aB))) (h0 : nU l0 = some r) : dL Try.prog 43 [(eL aM l0)] (eL (eL aC) r) := by
  intro H0
  refine dG Try.func43 ?_
  have hO := aJ.start H0
  unfold nU at h0
  refine aT aD 1 [] [] ?_
  refine aN ?_
  refine aV aD 2 ?_
  refine kU (xs := []) (k := 1) (by kernel_rfl) (by kernel_rfl) ?_
  refine bB ?_
  refine bT [] [(3, (.sl true 0 (fun _ => .bad)))] ?_
  refine dN (fun T H => ∃ bH : List (List aB), ∃ lo1 : Nat, Has T [(3, (.msl 1 lo1 0 (List.length bH)))] ∧ aJ ⟨H0, [], []⟩ H [(lo1, 1, List.map (eL aC) bH)] ∧ uQ bH = some r) ?_ ?_
  · clear hO h0
    rintro T H ⟨bH, lo1, hT, hO, h0⟩
    refine aY hT ?_
    clear hT
    unfold uQ at h0
    refine bS aD 2 [(2, (.msl 1 lo1 0 (List.length bH)))] ?_
    refine bK ?_
    refine gO [(2, (.msl 1 lo1 0 (List.length bH)))] ?_
    refine oQ (en := (eL aC)) bH 0 0 2 1 lo1 (List.length bH) hO (by kernel_rfl) (by kernel_rfl) (by kernel_rfl) (L' := []) (by kernel_rfl) ?_
    intro H2 hO
    obtain rfl := oI h0
    exact aG (Q_r hO)
  refine aT aD 1 [] [(4, (eI (0 : Int)))] ?_
  refine cA 0 ?_
  refine eU [(0, (eL aM l0)), (3, (.sl true 0 (fun _ => .bad))), (4, (eI (0 : Int)))] ?_
  refine xN (el := (fun _ => .bad)) 1 3 1 hO (by kernel_rfl) ?_
  intro lo31 H32 hO
  refine dS (fun T H => ∃ bH : List (List aB), ∃ i4 : Int, ∃ lo4 : Nat, Has T [(0, (eL aM l0)), (3, (.msl 1 lo4 0 (List.length bH))), (4, (eI i4))] ∧ aJ ⟨H0, [], []⟩ H [(lo4, 1, List.map (eL aC) bH)] ∧ uO l0 bH i4 = some r) ?_ ⟨([] : List (List aB)), (0 : Int), lo31, .eq (by kernel_rfl), hO, h0⟩
  clear hO h0
  rintro T H ⟨bH, i4, lo4, hT, hO, h0⟩
  refine aY hT ?_
  clear hT
  unfold uO at h0
  obtain ⟨rr0, hl0, h0⟩ := aX h0
  refine cS (by kernel_rfl) (fun (s : List (List aB) × Int) T H => ∃ lo4 : Nat, Has T [(0, (eL aM l0)), (3, (.msl 1 lo4 0 (List.length s.1))), (4, (eI s.2))] ∧ aJ ⟨H0, [], []⟩ H [(lo4, 1, List.map (eL aC) s.1)]) hl0 ⟨lo4, .eq (by kernel_rfl), hO⟩ ?_
  clear hO
  rintro k0 s out1 T H ⟨lo4, hT, hO⟩ h1 ho0
  obtain ⟨bH, i4⟩ := s
  replace h1 : lQ l0 bH i4 = some out1 := h1
  try dsimp only at hT
  refine aY hT ?_
  clear hT
  unfold lQ at h1
  refine aN ?_
  refine aT aD 4 [] [(11, (aE (decide (i4 < (lN l0)))))] ?_
  refine bF h1 (fun h1 => ?_) (fun h1 => ?_)
  · refine bG ?_
    refine bI [(0, (eL aM l0)), (3, (.msl 1 lo4 0 (List.length bH))), (4, (eI i4))] ?_
    refine dN (fun T H => ∃ bH : List (List aB), ∃ lo6 : Nat, Has T [(0, (eL aM l0)), (3, (.msl 1 lo6 0 (List.length bH))), (4, (eI i4))] ∧ aJ ⟨H0, [], []⟩ H [(lo6, 1, List.map (eL aC) bH)] ∧ rH l0 bH i4 = some out1) ?_ ?_
    · clear hO h1
      rintro T H ⟨bH, lo6, hT, hO, h1⟩
      refine aY hT ?_
      clear hT
      unfold rH at h1
      refine aV aD 3 ?_
      refine bB ?_
      exact aG (aF (⟨rfl, _, (oI h1).symm, _, .eq (by kernel_rfl), hO⟩))
    refine cA 1 ?_
    refine aT aD 1 [] [(5, (eI (0 : Int)))] ?_
    refine dN (fun T H => ∃ bH : List (List aB), ∃ at5 : Int, ∃ lo7 : Nat, Has T [(0, (eL aM l0)), (3, (.msl 1 lo7 0 (List.length bH))), (4, (eI i4)), (5, (eI at5))] ∧ aJ ⟨H0, [], []⟩ H [(lo7, 1, List.map (eL aC) bH)] ∧ qU l0 bH i4 at5 = some out1) ?_ ?_
    · clear hO h1
      rintro T H ⟨bH, at5, lo7, hT, hO, h1⟩
      refine aY hT ?_
      clear hT
      unfold qU at h1
      refine aN ?_
      refine aN ?_
      obtain ⟨c8, h1⟩ := aU h1
      obtain ⟨c9, h1⟩ := aU h1
      obtain ⟨x10, hx11, h1⟩ := aX h1
      refine fD (fC [46]) aD 16 ?_
      refine lZ (K := fun T H => Has (lift T) [(0, (eL aM l0)), (3, (.msl 1 lo7 0 (List.length bH))), (4, (eI i4)), (5, (eI at5)), (48, (aE ((decide (at5 < (lN bH))) && x10)))] ∧ aJ ⟨H0, [], []⟩ H [(lo7, 1, List.map (eL aC) bH)]) ?_ ?_
      · refine mZ 5 ?_
        refine kP (t := 37) (e := decide (at5 < (lN bH))) (by kernel_rfl) (fun hg12 => ?_) (fun hg12 => ?_)
        · refine cH 8 [0 ≤ at5 ∧ at5 < (lN bH)] ⟨(c8 hg12), trivial⟩ ?_
          refine jA 0 lo7 1 (0 + Int.toNat at5) (eL aC (gD bH at5)) (eL aC (gD bH at5)) (List.map (eL aC) bH) (by kernel_rfl) (by kernel_rfl) (by kernel_rfl) hO (by kernel_rfl) (cD (c8 hg12)) ?_
          refine cH 14 [0 ≤ i4 ∧ i4 < (lN l0)] ⟨(c9 hg12), trivial⟩ ?_
          refine lO 42 [(eL aC (gD bH at5)), (eL aC ((gD l0 i4).Row))] (aE x10) (by kernel_rfl) (by kernel_rfl) (yU (gD bH at5) ((gD l0 i4).Row) _ (jG hx11 hg12)) hO ?_
          intro H hO
          refine iF ?_
          exact ⟨⟨[(0, (eL aM l0)), (3, (.msl 1 lo7 0 (List.length bH))), (4, (eI i4)), (5, (eI at5)), (48, (aE x10))], by kernel_rfl, rfl, ⟨aO.refl _, aO.refl _, aO.refl _, aO.refl _, aO.eq (congrArg aE (jH hg12 rfl).symm), trivial⟩⟩, hO⟩
        refine iF ?_
        exact ⟨⟨[(0, (eL aM l0)), (3, (.msl 1 lo7 0 (List.length bH))), (4, (eI i4)), (5, (eI at5)), (48, (aE false))], by kernel_rfl, rfl, ⟨aO.refl _, aO.refl _, aO.refl _, aO.refl _, aO.eq (congrArg aE (jH hg12 rfl).symm), trivial⟩⟩, hO⟩
      · rintro T H ⟨hT, hO⟩
        refine cX hT ?_
        clear hT
        refine aG (aF ?_)
        refine bF h1 (fun h1 => ?_) (fun h1 => ?_)
        · refine eX 1 ?_
          exact aG (aR (bQ (aF (⟨rfl, _, _, .eq (by kernel_rfl), hO, h1⟩))))
        refine bG ?_
        refine bI [(0, (eL aM l0)), (3, (.msl 1 lo7 0 (List.length bH))), (4, (eI i4)), (5, (eI at5))] ?_
        refine aN ?_
        refine aV aD 6 ?_
        refine kU (xs := []) (k := 1) (by kernel_rfl) (by kernel_rfl) ?_
        obtain ⟨c14, h1⟩ := aU h1
        refine oA 4 [0 ≤ at5 ∧ at5 ≤ (lN bH)] ⟨c14, trivial⟩ ?_
        obtain ⟨c16, h1⟩ := aU h1
        refine RH (e := (eL aC)) (List.take (Int.toNat at5) bH) (fun _ => .bad) 1 24 (.msl 1 lo7 0 (Int.toNat at5)) (fun lo15 => [(lo7, 1, List.map (eL aC) bH), (lo15, 1, List.map (eL aC) (List.take (Int.toNat at5) bH))]) (by kernel_rfl) (by kernel_rfl) hO (MH hO 0 (by kernel_rfl) (Int.toNat_le.2 (And.right c14))) c16 (fun _ => by kernel_rfl) ?_
        intro lo15 H hO
        refine bB ?_
        refine bT [] [(6, (.msl 1 lo15 0 (List.length (List.take (Int.toNat at5) bH))))] ?_
        refine aN ?_
        refine aV aD 9 ?_
        obtain ⟨c17, h1⟩ := aU h1
        refine oA 6 [0 ≤ i4 ∧ i4 < (lN l0)] ⟨c17, trivial⟩ ?_
        refine kU (xs := [(eL aC ((gD l0 i4).Row))]) (k := 1) (by kernel_rfl) (by kernel_rfl) ?_
        obtain ⟨c19, h1⟩ := aU h1
        refine oH (e := (eL aC)) (List.take (Int.toNat at5) bH) ([(gD l0 i4).Row]) 1 lo15 1 24 (gQ [(eL aC ((gD l0 i4).Row))]) (fun lo18 => [(lo7, 1, List.map (eL aC) bH), (lo18, 1, List.map (eL aC) ((List.take (Int.toNat at5) bH) ++ ([(gD l0 i4).Row])))]) (by kernel_rfl) (by kernel_rfl) hO (by kernel_rfl) (by kernel_rfl) c19 (fun _ => by kernel_rfl) ?_
        intro lo18 H hO
        refine bB ?_
        refine bT [6] [(6, (.msl 1 lo18 0 (List.length ((List.take (Int.toNat at5) bH) ++ ([(gD l0 i4).Row])))))] ?_
        refine aV aD 6 ?_
        obtain ⟨c20, h1⟩ := aU h1
        refine oA 4 [0 ≤ at5 ∧ at5 ≤ (lN bH)] ⟨c20, trivial⟩ ?_
        obtain ⟨c22, h1⟩ := aU h1
        refine oH (e := (eL aC)) ((List.take (Int.toNat at5) bH) ++ ([(gD l0 i4).Row])) (List.drop (Int.toNat at5) bH) 1 lo18 1 24 (.msl 1 lo7 (0 + Int.toNat at5) (List.length bH - Int.toNat at5)) (fun lo21 => [(lo7, 1, List.map (eL aC) bH), (lo21, 1, List.map (eL aC) (((List.take (Int.toNat at5) bH) ++ ([(gD l0 i4).Row])) ++ (List.drop (Int.toNat at5) bH)))]) (by kernel_rfl) (by kernel_rfl) hO (by kernel_rfl) (OM hO 0 (by kernel_rfl) rfl (Int.toNat_le.2 (And.right c20))) c22 (fun _ => by kernel_rfl) ?_
        intro lo21 H hO
        refine bB ?_
        replace hO := hO.pick (L' := [(lo21, 1, List.map (eL aC) (((List.take (Int.toNat at5) bH) ++ ([(gD l0 i4).Row])) ++ (List.drop (Int.toNat at5) bH)))]) [1] (by decide) (by kernel_rfl)
        exact aG (aW (aF (⟨rfl, _, _, .eq (by kernel_rfl), hO, h1⟩)))
    refine cA 2 ?_
    refine eU [(0, (eL aM l0)), (3, (.msl 1 lo4 0 (List.length bH))), (4, (eI i4)), (5, (eI (0 : Int)))] ?_
    refine dS (fun T H => ∃ bH : List (List aB), ∃ at5 : Int, ∃ lo24 : Nat, Has T [(0, (eL aM l0)), (3, (.msl 1 lo24 0 (List.length bH))), (4, (eI i4)), (5, (eI at5))] ∧ aJ ⟨H0, [], []⟩ H [(lo24, 1, List.map (eL aC) bH)] ∧ uF l0 bH i4 at5 = some out1) ?_ ⟨bH, (0 : Int), lo4, .eq (by kernel_rfl), hO, h1⟩
    clear hO h1
    rintro T H ⟨bH, at5, lo24, hT, hO, h1⟩
    refine aY hT ?_
    clear hT
    unfold uF at h1
    obtain ⟨rr1, hl1, h1⟩ := aX h1
    refine cS (by kernel_rfl) (fun (s : List (List aB) × Int) T H => ∃ lo24 : Nat, Has T [(0, (eL aM l0)), (3, (.msl 1 lo24 0 (List.length s.1))), (4, (eI i4)), (5, (eI s.2))] ∧ aJ ⟨H0, [], []⟩ H [(lo24, 1, List.map (eL aC) s.1)]) hl1 ⟨lo24, .eq (by kernel_rfl), hO⟩ ?_
    clear hO
    rintro k1 s out2 T H ⟨lo24, hT, hO⟩ h2 ho1
    obtain ⟨bH, at5⟩ := s
    replace h2 : kW l0 i4 bH at5 = some out2 := h2
    try dsimp only at hT
    refine aY hT ?_
    clear hT
    unfold kW at h2
    refine aN ?_
    refine aN ?_
    obtain ⟨c25, h2⟩ := aU h2
    obtain ⟨c26, h2⟩ := aU h2
    obtain ⟨x27, hx28, h2⟩ := aX h2
    refine fD (fC [27]) aD 17 ?_
    refine lZ (K := fun T H => Has (lift T) [(0, (eL aM l0)), (3, (.msl 1 lo24 0 (List.length bH))), (4, (eI i4)), (5, (eI at5)), (30, (aE ((decide (at5 < (lN bH))) && (decide (x27 < (0 : Int))))))] ∧ aJ ⟨H0, [], []⟩ H [(lo24, 1, List.map (eL aC) bH)]) ?_ ?_
    · refine mZ 5 ?_
      refine kP (t := 18) (e := decide (at5 < (lN bH))) (by kernel_rfl) (fun hg29 => ?_) (fun hg29 => ?_)
      · refine cH 8 [0 ≤ at5 ∧ at5 < (lN bH)] ⟨(c25 hg29), trivial⟩ ?_
        refine jA 0 lo24 1 (0 + Int.toNat at5) (eL aC (gD bH at5)) (eL aC (gD bH at5)) (List.map (eL aC) bH) (by kernel_rfl) (by kernel_rfl) (by kernel_rfl) hO (by kernel_rfl) (cD (c25 hg29)) ?_
        refine cH 14 [0 ≤ i4 ∧ i4 < (lN l0)] ⟨(c26 hg29), trivial⟩ ?_
        refine lO 64 [(eL aC (gD bH at5)), (eL aC ((gD l0 i4).Row))] (eI x27) (by kernel_rfl) (by kernel_rfl) (zH (gD bH at5) ((gD l0 i4).Row) _ (jG hx28 hg29)) hO ?_
        intro H hO
        refine iF ?_
        exact ⟨⟨[(0, (eL aM l0)), (3, (.msl 1 lo24 0 (List.length bH))), (4, (eI i4)), (5, (eI at5)), (30, (aE (decide (x27 < (0 : Int)))))], by kernel_rfl, rfl, ⟨aO.refl _, aO.refl _, aO.refl _, aO.refl _, aO.eq (congrArg aE (jH hg29 rfl).symm), trivial⟩⟩, hO⟩
      refine iF ?_
      exact ⟨⟨[(0, (eL aM l0)), (3, (.msl 1 lo24 0 (List.length bH))), (4, (eI i4)), (5, (eI at5)), (30, (aE false))], by kernel_rfl, rfl, ⟨aO.refl _, aO.refl _, aO.refl _, aO.refl _, aO.eq (congrArg aE (jH hg29 rfl).symm), trivial⟩⟩, hO⟩
    · rintro T H ⟨hT, hO⟩
      refine cX hT ?_
      clear hT
      refine aG (aF ?_)
      refine bF h2 (fun h2 => ?_) (fun h2 => ?_)
      · refine bG ?_
        refine bI [(0, (eL aM l0)), (3, (.msl 1 lo24 0 (List.length bH))), (4, (eI i4)), (5, (eI at5))] ?_
        refine cA 3 ?_
        refine aV aD 3 ?_
        refine bB ?_
        exact aG (aW (aF (⟨rfl, _, (oI h2).symm, _, .eq (by kernel_rfl), hO⟩)))
      refine eX 2 ?_
      obtain rfl := oI h2
      obtain rfl : _ = rr1 := ho1
      replace h1 : qU l0 bH i4 at5 = some out1 := h1
      exact aG (aR (aR (bQ (aF (⟨rfl, _, _, _, .eq (by kernel_rfl), hO, h1⟩)))))
  refine eX 0 ?_
  obtain rfl := oI h1
  obtain rfl : _ = rr0 := ho0
  replace h0 : uQ bH = some r := h0
  exact aG (aR (aR (bQ (aF (⟨rfl, _, _, .eq (by kernel_rfl), hO, h0⟩)))))

theorem xQ (l0 : (List aK)) (r1 : (List aB)) (r : (List aI)) (h0 : mY l0 r1 = some r) : dL Try.prog 45 [(eL aM l0), (eL aC r1)] (eL aQ r) := by
  intro H0
  refine dG Try.func45 ?_
  have hO := aJ.start H0
  unfold mY at h0
  refine aT aD 1 [] [] ?_
  refine aN ?_
  refine aV aD 2 ?_
  refine kU (xs := []) (k := 2) (by kernel_rfl) (by kernel_rfl) ?_
  refine bB ?_
  refine bT [] [(5, (.sl true 0 (fun _ => .bad)))] ?_
  refine dN (fun T H => ∃ f5 : List aI, ∃ lo1 : Nat, Has T [(5, (.msl 2 lo1 0 (List.length f5)))] ∧ aJ ⟨H0, [], []⟩ H [(lo1, 2, List.map aQ f5)] ∧ tO f5 = some r) ?_ ?_
  · clear hO h0
    rintro T H ⟨f5, lo1, hT, hO, h0⟩
    refine aY hT ?_
    clear hT
    unfold tO at h0
    refine bS aD 2 [(4, (.msl 2 lo1 0 (List.length f5)))] ?_
    refine bK ?_
    refine gO [(4, (.msl 2 lo1 0 (List.length f5)))] ?_
    refine oQ (en := aQ) f5 0 0 4 2 lo1 (List.length f5) hO (by kernel_rfl) (by kernel_rfl) (by kernel_rfl) (L' := []) (by kernel_rfl) ?_
    intro H2 hO
    obtain rfl := oI h0
    exact aG (Q_r hO)
  refine aT aD 1 [] [(6, (eI (0 : Int)))] ?_
  refine cA 0 ?_
  refine eU [(0, (eL aM l0)), (1, (eL aC r1)), (5, (.sl true 0 (fun _ => .bad))), (6, (eI (0 : Int)))] ?_
  refine xN (el := (fun _ => .bad)) 2 5 2 hO (by kernel_rfl) ?_
  intro lo16 H17 hO
  refine dS (fun T H => ∃ f5 : List aI, ∃ i6 : Int, ∃ lo4 : Nat, Has T [(0, (eL aM l0)), (1, (eL aC r1)), (5, (.msl 2 lo4 0 (List.length f5))), (6, (eI i6))] ∧ aJ ⟨H0, [], []⟩ H [(lo4, 2, List.map aQ f5)] ∧ tM l0 r1 f5 i6 = some r) ?_ ⟨([] : List aI), (0 : Int), lo16, .eq (by kernel_rfl), hO, h0⟩
  clear hO h0
  rintro T H ⟨f5, i6, lo4, hT, hO, h0⟩
  refine aY hT ?_
  clear hT
  unfold tM at h0
  obtain ⟨rr0, hl0, h0⟩ := aX h0
  refine cS (by kernel_rfl) (fun (s : List aI × Int) T H => ∃ lo4 : Nat, Has T [(0, (eL aM l0)), (1, (eL aC r1)), (5, (.msl 2 lo4 0 (List.length s.1))), (6, (eI s.2))] ∧ aJ ⟨H0, [], []⟩ H [(lo4, 2, List.map aQ s.1)]) hl0 ⟨lo4, .eq (by kernel_rfl), hO⟩ ?_
  clear hO
  rintro k0 s out1 T H ⟨lo4, hT, hO⟩ h1 ho0
  obtain ⟨f5, i6⟩ := s
  replace h1 : lA l0 r1 f5 i6 = some out1 := h1
  try dsimp only at hT
  refine aY hT ?_
  clear hT
  unfold lA at h1
  refine aN ?_
  refine aT aD 4 [] [(11, (aE (decide (i6 < (lN l0)))))] ?_
  refine bF h1 (fun h1 => ?_) (fun h1 => ?_)
  · refine bG ?_
    refine bI [(0, (eL aM l0)), (1, (eL aC r1)), (5, (.msl 2 lo4 0 (List.length f5))), (6, (eI i6))] ?_
    refine dN (fun T H => ∃ f5 : List aI, ∃ lo6 : Nat, Has T [(0, (eL aM l0)), (1, (eL aC r1)), (5, (.msl 2 lo6 0 (List.length f5))), (6, (eI i6))] ∧ aJ ⟨H0, [], []⟩ H [(lo6, 2, List.map aQ f5)] ∧ qB l0 r1 f5 i6 = some out1) ?_ ?_
    · clear hO h1
      rintro T H ⟨f5, lo6, hT, hO, h1⟩
      refine aY hT ?_
      clear hT
      unfold qB at h1
      refine aV aD 3 ?_
      refine bB ?_
      exact aG (aF (⟨rfl, _, (oI h1).symm, _, .eq (by kernel_rfl), hO⟩))
    refine cA 1 ?_
    refine aN ?_
    refine aV aD 7 ?_
    obtain ⟨c7, h1⟩ := aU h1
    refine oA 6 [0 ≤ i6 ∧ i6 < (lN l0)] ⟨c7, trivial⟩ ?_
    obtain ⟨x8, hx9, h1⟩ := aX h1
    refine dR (yU ((gD l0 i6).Row) r1 _ hx9) hO ?_
    intro H hO
    refine iP ?_
    refine bT [] [(20, (aE x8))] ?_
    refine bF h1 (fun h1 => ?_) (fun h1 => ?_)
    · refine fD (fC [26, 31, 33]) aD 15 ?_
      obtain ⟨c12, h1⟩ := aU h1
      obtain ⟨c13, h1⟩ := aU h1
      refine cH 12 [0 ≤ i6 ∧ i6 < (lN l0), 0 ≤ i6 ∧ i6 < (lN l0)] ⟨c12, c13, trivial⟩ ?_
      refine YV (xs := [(aQ (aI.mk ((gD l0 i6).At) ((gD l0 i6).Net)))]) (k := 2) (by kernel_rfl) (by kernel_rfl) ?_
      obtain ⟨c15, h1⟩ := aU h1
      refine QX (e := aQ) f5 ([aI.mk ((gD l0 i6).At) ((gD l0 i6).Net)]) 0 lo4 2 16 (gQ [(aQ (aI.mk ((gD l0 i6).At) ((gD l0 i6).Net)))]) (fun lo14 => [(lo14, 2, List.map aQ (f5 ++ ([aI.mk ((gD l0 i6).At) ((gD l0 i6).Net)])))]) (by kernel_rfl) (by kernel_rfl) hO (by kernel_rfl) (by kernel_rfl) c15 (fun _ => by kernel_rfl) ?_
      intro lo14 H hO
      refine iF ?_
      exact aG (aW (aF (⟨rfl, _, _, .eq (by kernel_rfl), hO, h1⟩)))
    refine bG ?_
    exact aG (aW (aF (⟨rfl, _, _, .eq (by kernel_rfl), hO, h1⟩)))
  refine eX 0 ?_
  obtain rfl := oI h1
  obtain rfl : _ = rr0 := ho0
  replace h0 : tO f5 = some r := h0
  exact aG (aR (aR (bQ (aF (⟨rfl, _, _, .eq (by kernel_rfl), hO, h0⟩)))))

theorem EX (l0 : (List aK)) (r : Bool) (h0 : rN l0 = some r) : dL Try.prog 34 [(eL aM l0)] (aE r) := by
  intro H0
  refine dG Try.func34 ?_
  have hO := aJ.start H0
  unfold rN at h0
  refine aT aD 1 [] [] ?_
  refine aN ?_
  refine aT aD 3 [] [(9, (aE (decide ((4096 : Int) < (lN l0)))))] ?_
  refine bF h0 (fun h0 => ?_) (fun h0 => ?_)
  · refine bS aD 1 [(2, (aE false))] ?_
    refine bK ?_
    obtain rfl := oI h0
    exact aG (aP (Q_r hO))
  refine bG ?_
  refine bI [(0, (eL aM l0))] ?_
  refine dN (fun T H => Has T [(0, (eL aM l0))] ∧ aJ ⟨H0, [], []⟩ H [] ∧ sR l0 = some r) ?_ ?_
  · clear hO h0
    rintro T H ⟨hT, hO, h0⟩
    refine aY hT ?_
    clear hT
    unfold sR at h0
    refine aN ?_
    refine aV aD 3 ?_
    refine bU 1 ?_
    obtain ⟨x2, hx3, h0⟩ := aX h0
    refine dR (yZ l0 _ hx3) hO ?_
    intro H hO
    refine bB ?_
    refine bT [] [(5, (eL (eL aC) x2))] ?_
    refine dN (fun T H => Has T [] ∧ aJ ⟨H0, [], []⟩ H [] ∧ vZ  = some r) ?_ ?_
    · clear hO h0
      rintro T H ⟨hT, hO, h0⟩
      refine aY hT ?_
      clear hT
      unfold vZ at h0
      refine bS aD 1 [(2, (aE true))] ?_
      refine bK ?_
      obtain rfl := oI h0
      exact aG (Q_r hO)
    refine aT aD 1 [] [(6, (eI (0 : Int)))] ?_
    refine cA 2 ?_
    refine eU [(0, (eL aM l0)), (5, (eL (eL aC) x2)), (6, (eI (0 : Int)))] ?_
    refine dS (fun T H => ∃ oY : (List (List aB)), ∃ i6 : Int, Has T [(0, (eL aM l0)), (5, (eL (eL aC) oY)), (6, (eI i6))] ∧ aJ ⟨H0, [], []⟩ H [] ∧ wG l0 oY i6 = some r) ?_ ⟨x2, (0 : Int), .eq (by kernel_rfl), hO, h0⟩
    clear hO h0
    rintro T H ⟨oY, i6, hT, hO, h0⟩
    refine aY hT ?_
    clear hT
    unfold wG at h0
    obtain ⟨rr0, hl0, h0⟩ := aX h0
    refine cS (by kernel_rfl) (fun (s : Int) T H => Has T [(0, (eL aM l0)), (5, (eL (eL aC) oY)), (6, (eI s))] ∧ aJ ⟨H0, [], []⟩ H []) hl0 ⟨.eq (by kernel_rfl), hO⟩ ?_
    clear hO
    rintro k0 s out1 T H ⟨hT, hO⟩ h1 ho0
    obtain ⟨i6, rfl⟩ : ∃ x, x = s := ⟨_, rfl⟩
    replace h1 : nQ l0 oY i6 = some out1 := h1
    refine aY hT ?_
    clear hT
    unfold nQ at h1
    refine aN ?_
    refine aT aD 4 [] [(78, (aE (decide (i6 < (lN oY)))))] ?_
    refine bF h1 (fun h1 => ?_) (fun h1 => ?_)
    · refine bG ?_
      refine bI [(0, (eL aM l0)), (5, (eL (eL aC) oY)), (6, (eI i6))] ?_
      refine aN ?_
      refine cA 3 ?_
      refine aN ?_
      refine aV aD 8 ?_
      obtain ⟨c6, h1⟩ := aU h1
      refine oA 5 [0 ≤ i6 ∧ i6 < (lN oY)] ⟨c6, trivial⟩ ?_
      obtain ⟨x7, hx8, h1⟩ := aX h1
      refine dR (xQ l0 (gD oY i6) _ hx8) hO ?_
      intro H hO
      refine bB ?_
      refine bT [] [(88, (aE (decide ((1024 : Int) < (lN x7)))))] ?_
      refine bF h1 (fun h1 => ?_) (fun h1 => ?_)
      · refine bS aD 1 [(2, (aE false))] ?_
        refine bK ?_
        obtain rfl := oI h1
        obtain rfl : _ = rr0 := ho0
        replace h0 : some false = some r := h0
        obtain rfl := oI h0
        exact aG (bE (aP (aP (bE (aP (Q_r hO))))))
      refine bG ?_
      refine gO [(0, (eL aM l0)), (5, (eL (eL aC) oY)), (6, (eI i6))] ?_
      refine aG (aW (aF (?_)))
      refine aV aD 3 ?_
      refine bB ?_
      exact aG (aF (⟨rfl, _, (oI h1).symm, .eq (by kernel_rfl), hO⟩))
    refine eX 2 ?_
    obtain rfl := oI h1
    obtain rfl : _ = rr0 := ho0
    replace h0 : vZ  = some r := h0
    exact aG (aR (aR (bQ (aF (⟨rfl, .eq (by kernel_rfl), hO, h0⟩)))))
  refine aT aD 1 [] [(3, (eI (0 : Int)))] ?_
  refine cA 0 ?_
  refine eU [(0, (eL aM l0)), (3, (eI (0 : Int)))] ?_
  refine dS (fun T H => ∃ i3 : Int, Has T [(0, (eL aM l0)), (3, (eI i3))] ∧ aJ ⟨H0, [], []⟩ H [] ∧ wD l0 i3 = some r) ?_ ⟨(0 : Int), .eq (by kernel_rfl), hO, h0⟩
  clear hO h0
  rintro T H ⟨i3, hT, hO, h0⟩
  refine aY hT ?_
  clear hT
  unfold wD at h0
  obtain ⟨rr0, hl0, h0⟩ := aX h0
  refine cS (by kernel_rfl) (fun (s : Int) T H => Has T [(0, (eL aM l0)), (3, (eI s))] ∧ aJ ⟨H0, [], []⟩ H []) hl0 ⟨.eq (by kernel_rfl), hO⟩ ?_
  clear hO
  rintro k0 s out1 T H ⟨hT, hO⟩ h1 ho0
  obtain ⟨i3, rfl⟩ : ∃ x, x = s := ⟨_, rfl⟩
  replace h1 : mO l0 i3 = some out1 := h1
  refine aY hT ?_
  clear hT
  unfold mO at h1
  refine aN ?_
  refine aT aD 4 [] [(13, (aE (decide (i3 < (lN l0)))))] ?_
  refine bF h1 (fun h1 => ?_) (fun h1 => ?_)
  · refine bG ?_
    refine bI [(0, (eL aM l0)), (3, (eI i3))] ?_
    refine dN (fun T H => Has T [(0, (eL aM l0)), (3, (eI i3))] ∧ aJ ⟨H0, [], []⟩ H [] ∧ pG l0 i3 = some out1) ?_ ?_
    · clear hO h1
      rintro T H ⟨hT, hO, h1⟩
      refine aY hT ?_
      clear hT
      unfold pG at h1
      refine aV aD 3 ?_
      refine bB ?_
      exact aG (aF (⟨rfl, _, (oI h1).symm, .eq (by kernel_rfl), hO⟩))
    refine cA 1 ?_
    refine aN ?_
    refine aN ?_
    obtain ⟨c12, h1⟩ := aU h1
    obtain ⟨x13, hx14, h1⟩ := aX h1
    obtain ⟨c15, h1⟩ := aU h1
    obtain ⟨c16, h1⟩ := aU h1
    obtain ⟨x17, hx18, h1⟩ := aX h1
    refine fD (fC [20, 28, 33]) aD 23 ?_
    refine lZ (K := fun T H => Has (lift T) [(0, (eL aM l0)), (3, (eI i3)), (38, (aE ((!x13) || (!x17))))] ∧ aJ ⟨H0, [], []⟩ H []) ?_ ?_
    · refine cH 5 [0 ≤ i3 ∧ i3 < (lN l0)] ⟨c12, trivial⟩ ?_
      refine lO 62 [(eL aC ((gD l0 i3).Row))] (aE x13) (by kernel_rfl) (by kernel_rfl) (AE ((gD l0 i3).Row) _ hx14) hO ?_
      intro H hO
      refine mZ 8 ?_
      refine kP (t := 23) (e := !x13) (by kernel_rfl) (fun hg19 => ?_) (fun hg19 => ?_)
      · refine iF ?_
        exact ⟨⟨[(0, (eL aM l0)), (3, (eI i3)), (38, (aE true))], by kernel_rfl, rfl, ⟨aO.refl _, aO.refl _, aO.eq (congrArg aE (BX hg19 rfl).symm), trivial⟩⟩, hO⟩
      refine cH 19 [0 ≤ i3 ∧ i3 < (lN l0), 0 ≤ i3 ∧ i3 < (lN l0)] ⟨(c15 (vQ hg19)), (c16 (vQ hg19)), trivial⟩ ?_
      refine aAJ (xs := [(aQ (aI.mk ((gD l0 i3).At) ((gD l0 i3).Net)))]) (by kernel_rfl) (by kernel_rfl) ?_
      refine lO 63 [(gQ [(aQ (aI.mk ((gD l0 i3).At) ((gD l0 i3).Net)))])] (aE x17) (by kernel_rfl) (by kernel_rfl) (dL.sub (FI ([aI.mk ((gD l0 i3).At) ((gD l0 i3).Net)]) _ (jG hx18 (vQ hg19))) ⟨CQ (l := [aI.mk ((gD l0 i3).At) ((gD l0 i3).Net)]), trivial⟩) hO ?_
      intro H hO
      refine iF ?_
      exact ⟨⟨[(0, (eL aM l0)), (3, (eI i3)), (38, (aE (!x17)))], by kernel_rfl, rfl, ⟨aO.refl _, aO.refl _, aO.eq (congrArg aE (BX hg19 rfl).symm), trivial⟩⟩, hO⟩
    · rintro T H ⟨hT, hO⟩
      refine cX hT ?_
      clear hT
      refine aG (aF ?_)
      refine bF h1 (fun h1 => ?_) (fun h1 => ?_)
      · refine bS aD 1 [(2, (aE false))] ?_
        refine bK ?_
        obtain rfl := oI h1
        obtain rfl : _ = rr0 := ho0
        replace h0 : some false = some r := h0
        obtain rfl := oI h0
        exact aG (aP (bE (aP (aP (bE (aP (Q_r hO)))))))
      refine bG ?_
      refine bI [(0, (eL aM l0)), (3, (eI i3))] ?_
      refine aN ?_
      refine aT aD 2 [] [(40, (aE (decide (i3 = (0 : Int)))))] ?_
      refine bF h1 (fun h1 => ?_) (fun h1 => ?_)
      · refine eX 1 ?_
        exact aG (aR (bQ (aF (⟨rfl, .eq (by kernel_rfl), hO, h1⟩))))
      refine bG ?_
      refine bI [(0, (eL aM l0)), (3, (eI i3))] ?_
      refine aN ?_
      refine fD (fC [46, 51, 52]) aD 13 ?_
      obtain ⟨c22, h1⟩ := aU h1
      obtain ⟨c23, h1⟩ := aU h1
      refine cH 11 [0 ≤ (wR (i3 - (1 : Int))) ∧ (wR (i3 - (1 : Int))) < (lN l0), 0 ≤ i3 ∧ i3 < (lN l0)] ⟨c22, c23, trivial⟩ ?_
      obtain ⟨x24, hx25, h1⟩ := aX h1
      refine CE (zH ((gD l0 (wR (i3 - (1 : Int)))).Row) ((gD l0 i3).Row) _ hx25) hO ?_
      intro H hO
      refine iF ?_
      refine bT [] [(4, (eI x24))] ?_
      refine aN ?_
      obtain ⟨c27, h1⟩ := aU h1
      obtain ⟨c28, h1⟩ := aU h1
      refine fD (fC [64, 69]) aD 20 ?_
      refine lZ (K := fun T H => Has (lift T) [(0, (eL aM l0)), (3, (eI i3)), (72, (aE ((decide ((0 : Int) < x24)) || ((decide (x24 = (0 : Int))) && (decide (((gD l0 i3).At) ≤ ((gD l0 (wR (i3 - (1 : Int)))).At)))))))] ∧ aJ ⟨H0, [], []⟩ H []) ?_ ?_
      · refine mZ 3 ?_
        refine kP (t := 55) (e := decide ((0 : Int) < x24)) (by kernel_rfl) (fun hg29 => ?_) (fun hg29 => ?_)
        · refine iF ?_
          exact ⟨⟨[(0, (eL aM l0)), (3, (eI i3)), (72, (aE true))], by kernel_rfl, rfl, ⟨aO.refl _, aO.refl _, aO.eq (congrArg aE (BX hg29 rfl).symm), trivial⟩⟩, hO⟩
        refine mZ 6 ?_
        refine kP (t := 58) (e := decide (x24 = (0 : Int))) (by kernel_rfl) (fun hg30 => ?_) (fun hg30 => ?_)
        · refine zJ (Ds := [0 ≤ (wR (i3 - (1 : Int))) ∧ (wR (i3 - (1 : Int))) < (lN l0), 0 ≤ i3 ∧ i3 < (lN l0)]) (by kernel_rfl) ⟨(c27 (jH hg30 (vQ hg29))), (c28 (jH hg30 (vQ hg29))), trivial⟩ ?_
          exact ⟨⟨[(0, (eL aM l0)), (3, (eI i3)), (72, (aE (decide (((gD l0 i3).At) ≤ ((gD l0 (wR (i3 - (1 : Int)))).At)))))], by kernel_rfl, rfl, ⟨aO.refl _, aO.refl _, aO.eq (congrArg aE (BX hg29 (jH hg30 rfl)).symm), trivial⟩⟩, hO⟩
        refine iF ?_
        exact ⟨⟨[(0, (eL aM l0)), (3, (eI i3)), (72, (aE false))], by kernel_rfl, rfl, ⟨aO.refl _, aO.refl _, aO.eq (congrArg aE (BX hg29 (jH hg30 rfl)).symm), trivial⟩⟩, hO⟩
      · rintro T H ⟨hT, hO⟩
        refine cX hT ?_
        clear hT
        refine aG (aF ?_)
        refine bF h1 (fun h1 => ?_) (fun h1 => ?_)
        · refine bS aD 1 [(2, (aE false))] ?_
          refine bK ?_
          obtain rfl := oI h1
          obtain rfl : _ = rr0 := ho0
          replace h0 : some false = some r := h0
          obtain rfl := oI h0
          exact aG (bE (aP (aP (bE (aP (Q_r hO))))))
        refine bG ?_
        exact aG (aW (aF (⟨rfl, .eq (by kernel_rfl), hO, h1⟩)))
  refine eX 0 ?_
  obtain rfl := oI h1
  obtain rfl : _ = rr0 := ho0
  replace h0 : sR l0 = some r := h0
  exact aG (aR (aR (bQ (aF (⟨rfl, .eq (by kernel_rfl), hO, h0⟩)))))

theorem uG (f0 : (List aI)) (t1 : Int) (r : Int) (h0 : kV f0 t1 = some r) : dL Try.prog 44 [(eL aQ f0), (eI t1)] (eI r) := by
  intro H0
  refine dG Try.func44 ?_
  have hO := aJ.start H0
  unfold kV at h0
  refine aT aD 1 [] [] ?_
  refine aT aD 1 [] [(5, (eI (0 : Int)))] ?_
  refine dN (fun T H => ∃ v5 : Int, Has T [(5, (eI v5))] ∧ aJ ⟨H0, [], []⟩ H [] ∧ pZ v5 = some r) ?_ ?_
  · clear hO h0
    rintro T H ⟨v5, hT, hO, h0⟩
    refine aY hT ?_
    clear hT
    unfold pZ at h0
    refine bS aD 2 [(4, (eI v5))] ?_
    refine bK ?_
    obtain rfl := oI h0
    exact aG (Q_r hO)
  refine aT aD 1 [] [(6, (eI (0 : Int)))] ?_
  refine cA 0 ?_
  refine eU [(0, (eL aQ f0)), (1, (eI t1)), (5, (eI (0 : Int))), (6, (eI (0 : Int)))] ?_
  refine dS (fun T H => ∃ v5 : Int, ∃ i6 : Int, Has T [(0, (eL aQ f0)), (1, (eI t1)), (5, (eI v5)), (6, (eI i6))] ∧ aJ ⟨H0, [], []⟩ H [] ∧ tN f0 t1 v5 i6 = some r) ?_ ⟨(0 : Int), (0 : Int), .eq (by kernel_rfl), hO, h0⟩
  clear hO h0
  rintro T H ⟨v5, i6, hT, hO, h0⟩
  refine aY hT ?_
  clear hT
  unfold tN at h0
  obtain ⟨rr0, hl0, h0⟩ := aX h0
  refine cS (by kernel_rfl) (fun (s : Int × Int) T H => Has T [(0, (eL aQ f0)), (1, (eI t1)), (5, (eI s.1)), (6, (eI s.2))] ∧ aJ ⟨H0, [], []⟩ H []) hl0 ⟨.eq (by kernel_rfl), hO⟩ ?_
  clear hO
  rintro k0 s out1 T H ⟨hT, hO⟩ h1 ho0
  obtain ⟨v5, i6⟩ := s
  replace h1 : jI f0 t1 v5 i6 = some out1 := h1
  try dsimp only at hT
  refine aY hT ?_
  clear hT
  unfold jI at h1
  refine aN ?_
  refine aT aD 4 [] [(10, (aE (decide (i6 < (lN f0)))))] ?_
  refine bF h1 (fun h1 => ?_) (fun h1 => ?_)
  · refine bG ?_
    refine bI [(0, (eL aQ f0)), (1, (eI t1)), (5, (eI v5)), (6, (eI i6))] ?_
    refine dN (fun T H => ∃ v5 : Int, Has T [(0, (eL aQ f0)), (1, (eI t1)), (5, (eI v5)), (6, (eI i6))] ∧ aJ ⟨H0, [], []⟩ H [] ∧ nK f0 t1 v5 i6 = some out1) ?_ ?_
    · clear hO h1
      rintro T H ⟨v5, hT, hO, h1⟩
      refine aY hT ?_
      clear hT
      unfold nK at h1
      refine aV aD 3 ?_
      refine bB ?_
      exact aG (aF (⟨rfl, _, (oI h1).symm, .eq (by kernel_rfl), hO⟩))
    refine cA 1 ?_
    refine aN ?_
    refine aV aD 7 ?_
    obtain ⟨c2, h1⟩ := aU h1
    refine nF [0 ≤ i6 ∧ i6 < (lN f0)] ⟨c2, trivial⟩ ?_
    refine bT [] [(19, (aE (decide (((gD f0 i6).At) ≤ t1))))] ?_
    refine bF h1 (fun h1 => ?_) (fun h1 => ?_)
    · refine aV aD 8 ?_
      obtain ⟨c4, h1⟩ := aU h1
      refine nF [0 ≤ i6 ∧ i6 < (lN f0)] ⟨c4, trivial⟩ ?_
      exact aG (aW (aF (⟨rfl, _, .eq (by kernel_rfl), hO, h1⟩)))
    refine bG ?_
    exact aG (aW (aF (⟨rfl, _, .eq (by kernel_rfl), hO, h1⟩)))
  refine eX 0 ?_
  obtain rfl := oI h1
  obtain rfl : _ = rr0 := ho0
  replace h0 : pZ v5 = some r := h0
  exact aG (aR (aR (bQ (aF (⟨rfl, _, .eq (by kernel_rfl), hO, h0⟩)))))

theorem KT (f0 : (List aI)) (r : Int) (h0 : qQ f0 = some r) : dL Try.prog 65 [(eL aQ f0)] (eI r) := by
  intro H0
  refine dG Try.func65 ?_
  have hO := aJ.start H0
  unfold qQ at h0
  refine aT aD 1 [] [] ?_
  refine aN ?_
  refine aN ?_
  refine aV aD 3 ?_
  refine bU 1 ?_
  obtain ⟨x1, hx2, h0⟩ := aX h0
  refine dR (FI f0 _ hx2) hO ?_
  intro H hO
  refine bB ?_
  refine bT [] [(7, (aE (!x1)))] ?_
  refine bF h0 (fun h0 => ?_) (fun h0 => ?_)
  · refine bS aD 1 [(2, (eI (0 : Int)))] ?_
    refine bK ?_
    obtain rfl := oI h0
    exact aG (aP (Q_r hO))
  refine bG ?_
  refine bI [(0, (eL aQ f0))] ?_
  refine aN ?_
  refine aV aD 3 ?_
  refine bU 1 ?_
  obtain ⟨x5, hx6, h0⟩ := aX h0
  refine dR (uG f0 (-1 : Int) _ hx6) hO ?_
  intro H hO
  refine bB ?_
  refine bT [] [(3, (eI x5))] ?_
  refine dN (fun T H => ∃ m3 : Int, Has T [(3, (eI m3))] ∧ aJ ⟨H0, [], []⟩ H [] ∧ pL m3 = some r) ?_ ?_
  · clear hO h0
    rintro T H ⟨m3, hT, hO, h0⟩
    refine aY hT ?_
    clear hT
    unfold pL at h0
    refine bS aD 2 [(2, (eI m3))] ?_
    refine bK ?_
    obtain rfl := oI h0
    exact aG (Q_r hO)
  refine aT aD 1 [] [(4, (eI (0 : Int)))] ?_
  refine cA 0 ?_
  refine eU [(0, (eL aQ f0)), (3, (eI x5)), (4, (eI (0 : Int)))] ?_
  refine dS (fun T H => ∃ m3 : Int, ∃ i4 : Int, Has T [(0, (eL aQ f0)), (3, (eI m3)), (4, (eI i4))] ∧ aJ ⟨H0, [], []⟩ H [] ∧ tJ f0 m3 i4 = some r) ?_ ⟨x5, (0 : Int), .eq (by kernel_rfl), hO, h0⟩
  clear hO h0
  rintro T H ⟨m3, i4, hT, hO, h0⟩
  refine aY hT ?_
  clear hT
  unfold tJ at h0
  obtain ⟨rr0, hl0, h0⟩ := aX h0
  refine cS (by kernel_rfl) (fun (s : Int × Int) T H => Has T [(0, (eL aQ f0)), (3, (eI s.1)), (4, (eI s.2))] ∧ aJ ⟨H0, [], []⟩ H []) hl0 ⟨.eq (by kernel_rfl), hO⟩ ?_
  clear hO
  rintro k0 s out1 T H ⟨hT, hO⟩ h1 ho0
  obtain ⟨m3, i4⟩ := s
  replace h1 : lE f0 m3 i4 = some out1 := h1
  try dsimp only at hT
  refine aY hT ?_
  clear hT
  unfold lE at h1
  refine aN ?_
  refine aT aD 4 [] [(13, (aE (decide (i4 < (lN f0)))))] ?_
  refine bF h1 (fun h1 => ?_) (fun h1 => ?_)
  · refine bG ?_
    refine bI [(0, (eL aQ f0)), (3, (eI m3)), (4, (eI i4))] ?_
    refine dN (fun T H => ∃ m3 : Int, Has T [(0, (eL aQ f0)), (3, (eI m3)), (4, (eI i4))] ∧ aJ ⟨H0, [], []⟩ H [] ∧ pX f0 m3 i4 = some out1) ?_ ?_
    · clear hO h1
      rintro T H ⟨m3, hT, hO, h1⟩
      refine aY hT ?_
      clear hT
      unfold pX at h1
      refine aV aD 3 ?_
      refine bB ?_
      exact aG (aF (⟨rfl, _, (oI h1).symm, .eq (by kernel_rfl), hO⟩))
    refine cA 1 ?_
    refine aN ?_
    refine aV aD 9 ?_
    obtain ⟨c9, h1⟩ := aU h1
    refine oA 6 [0 ≤ i4 ∧ i4 < (lN f0)] ⟨c9, trivial⟩ ?_
    obtain ⟨x10, hx11, h1⟩ := aX h1
    refine dR (uG f0 ((gD f0 i4).At) _ hx11) hO ?_
    intro H hO
    refine bB ?_
    refine bT [] [(24, (aE (decide (x10 < m3))))] ?_
    refine bF h1 (fun h1 => ?_) (fun h1 => ?_)
    · refine aV aD 8 ?_
      obtain ⟨c14, h1⟩ := aU h1
      refine oA 6 [0 ≤ i4 ∧ i4 < (lN f0)] ⟨c14, trivial⟩ ?_
      obtain ⟨x15, hx16, h1⟩ := aX h1
      refine dR (uG f0 ((gD f0 i4).At) _ hx16) hO ?_
      intro H hO
      refine bB ?_
      exact aG (aW (aF (⟨rfl, _, .eq (by kernel_rfl), hO, h1⟩)))
    refine bG ?_
    exact aG (aW (aF (⟨rfl, _, .eq (by kernel_rfl), hO, h1⟩)))
  refine eX 0 ?_
  obtain rfl := oI h1
  obtain rfl : _ = rr0 := ho0
  replace h0 : pL m3 = some r := h0
  exact aG (aR (aR (bQ (aF (⟨rfl, _, .eq (by kernel_rfl), hO, h0⟩)))))

theorem KR (l0 : (List aK)) (r : Bool) (h0 : rF l0 = some r) : dL Try.prog 35 [(eL aM l0)] (aE r) := by
  intro H0
  refine dG Try.func35 ?_
  have hO := aJ.start H0
  unfold rF at h0
  refine aT aD 1 [] [] ?_
  refine aN ?_
  refine aN ?_
  refine aV aD 3 ?_
  refine bU 1 ?_
  obtain ⟨x1, hx2, h0⟩ := aX h0
  refine dR (EX l0 _ hx2) hO ?_
  intro H hO
  refine bB ?_
  refine bT [] [(7, (aE (!x1)))] ?_
  refine bF h0 (fun h0 => ?_) (fun h0 => ?_)
  · refine bS aD 1 [(2, (aE false))] ?_
    refine bK ?_
    obtain rfl := oI h0
    exact aG (aP (Q_r hO))
  refine bG ?_
  refine bI [(0, (eL aM l0))] ?_
  refine aN ?_
  refine aV aD 3 ?_
  refine bU 1 ?_
  obtain ⟨x5, hx6, h0⟩ := aX h0
  refine dR (yZ l0 _ hx6) hO ?_
  intro H hO
  refine bB ?_
  refine bT [] [(3, (eL (eL aC) x5))] ?_
  refine dN (fun T H => Has T [] ∧ aJ ⟨H0, [], []⟩ H [] ∧ tD  = some r) ?_ ?_
  · clear hO h0
    rintro T H ⟨hT, hO, h0⟩
    refine aY hT ?_
    clear hT
    unfold tD at h0
    refine bS aD 1 [(2, (aE true))] ?_
    refine bK ?_
    obtain rfl := oI h0
    exact aG (Q_r hO)
  refine aT aD 1 [] [(4, (eI (0 : Int)))] ?_
  refine cA 0 ?_
  refine eU [(0, (eL aM l0)), (3, (eL (eL aC) x5)), (4, (eI (0 : Int)))] ?_
  refine dS (fun T H => ∃ bH : (List (List aB)), ∃ i4 : Int, Has T [(0, (eL aM l0)), (3, (eL (eL aC) bH)), (4, (eI i4))] ∧ aJ ⟨H0, [], []⟩ H [] ∧ tB l0 bH i4 = some r) ?_ ⟨x5, (0 : Int), .eq (by kernel_rfl), hO, h0⟩
  clear hO h0
  rintro T H ⟨bH, i4, hT, hO, h0⟩
  refine aY hT ?_
  clear hT
  unfold tB at h0
  obtain ⟨rr0, hl0, h0⟩ := aX h0
  refine cS (by kernel_rfl) (fun (s : Int) T H => Has T [(0, (eL aM l0)), (3, (eL (eL aC) bH)), (4, (eI s))] ∧ aJ ⟨H0, [], []⟩ H []) hl0 ⟨.eq (by kernel_rfl), hO⟩ ?_
  clear hO
  rintro k0 s out1 T H ⟨hT, hO⟩ h1 ho0
  obtain ⟨i4, rfl⟩ : ∃ x, x = s := ⟨_, rfl⟩
  replace h1 : mG l0 bH i4 = some out1 := h1
  refine aY hT ?_
  clear hT
  unfold mG at h1
  refine aN ?_
  refine aT aD 4 [] [(13, (aE (decide (i4 < (lN bH)))))] ?_
  refine bF h1 (fun h1 => ?_) (fun h1 => ?_)
  · refine bG ?_
    refine bI [(0, (eL aM l0)), (3, (eL (eL aC) bH)), (4, (eI i4))] ?_
    refine aN ?_
    refine cA 1 ?_
    refine aN ?_
    refine aV aD 8 ?_
    obtain ⟨c9, h1⟩ := aU h1
    refine oA 5 [0 ≤ i4 ∧ i4 < (lN bH)] ⟨c9, trivial⟩ ?_
    obtain ⟨x10, hx11, h1⟩ := aX h1
    refine dR (xQ l0 (gD bH i4) _ hx11) hO ?_
    intro H hO
    obtain ⟨x13, hx14, h1⟩ := aX h1
    refine dR (KT x10 _ hx14) hO ?_
    intro H hO
    refine bB ?_
    refine bT [] [(23, (aE (decide (x13 < (0 : Int)))))] ?_
    refine bF h1 (fun h1 => ?_) (fun h1 => ?_)
    · refine bS aD 1 [(2, (aE false))] ?_
      refine bK ?_
      obtain rfl := oI h1
      obtain rfl : _ = rr0 := ho0
      replace h0 : some false = some r := h0
      obtain rfl := oI h0
      exact aG (bE (aP (aP (bE (aP (Q_r hO))))))
    refine bG ?_
    refine gO [(0, (eL aM l0)), (3, (eL (eL aC) bH)), (4, (eI i4))] ?_
    refine aG (aW (aF (?_)))
    refine aV aD 3 ?_
    refine bB ?_
    exact aG (aF (⟨rfl, _, (oI h1).symm, .eq (by kernel_rfl), hO⟩))
  refine eX 0 ?_
  obtain rfl := oI h1
  obtain rfl : _ = rr0 := ho0
  replace h0 : tD  = some r := h0
  exact aG (aR (aR (bQ (aF (⟨rfl, .eq (by kernel_rfl), hO, h0⟩)))))

theorem LP (t0 : Int) (r : Bool) (h0 : vF t0 = some r) : dL Try.prog 36 [(eI t0)] (aE r) := by
  intro H0
  refine dG Try.func36 ?_
  have hO := aJ.start H0
  unfold vF at h0
  refine aT aD 1 [] [] ?_
  refine bS aD 7 [(2, (aE ((decide ((0 : Int) ≤ t0)) && (decide (t0 ≤ (1125899906842624 : Int))))))] ?_
  refine bK ?_
  obtain rfl := oI h0
  exact aG (Q_r hO)

theorem OC (l0 : (List Int)) (t1 : Int) (r : (List Int)) (h0 : sV l0 t1 = some r) : dL Try.prog 37 [(eL (eI) l0), (eI t1)] (eL (eI) r) := by
  intro H0
  refine dG Try.func37 ?_
  have hO := aJ.start H0
  unfold sV at h0
  refine aT aD 1 [] [] ?_
  refine aN ?_
  refine aV aD 2 ?_
  refine kU (xs := []) (k := 1) (by kernel_rfl) (by kernel_rfl) ?_
  refine bB ?_
  refine bT [] [(5, (.sl true 0 (fun _ => .bad)))] ?_
  refine aT aD 1 [] [(6, (aE false))] ?_
  refine dN (fun T H => ∃ out5 : List Int, ∃ put6 : Bool, ∃ lo1 : Nat, Has T [(1, (eI t1)), (5, (.msl 1 lo1 0 (List.length out5))), (6, (aE put6))] ∧ aJ ⟨H0, [], []⟩ H [(lo1, 1, List.map (eI) out5)] ∧ oC t1 out5 put6 = some r) ?_ ?_
  · clear hO h0
    rintro T H ⟨out5, put6, lo1, hT, hO, h0⟩
    refine aY hT ?_
    clear hT
    unfold oC at h0
    refine dN (fun T H => ∃ out5 : List Int, ∃ lo2 : Nat, Has T [(5, (.msl 1 lo2 0 (List.length out5)))] ∧ aJ ⟨H0, [], []⟩ H [(lo2, 1, List.map (eI) out5)] ∧ oF out5 = some r) ?_ ?_
    · clear hO h0
      rintro T H ⟨out5, lo2, hT, hO, h0⟩
      refine aY hT ?_
      clear hT
      unfold oF at h0
      refine bS aD 2 [(4, (.msl 1 lo2 0 (List.length out5)))] ?_
      refine bK ?_
      refine gO [(4, (.msl 1 lo2 0 (List.length out5)))] ?_
      refine oQ (en := (eI)) out5 0 0 4 1 lo2 (List.length out5) hO (by kernel_rfl) (by kernel_rfl) (by kernel_rfl) (L' := []) (by kernel_rfl) ?_
      intro H3 hO
      obtain rfl := oI h0
      exact aG (Q_r hO)
    refine aT aD 2 [6] [(44, (aE (!put6)))] ?_
    refine bF h0 (fun h0 => ?_) (fun h0 => ?_)
    · refine aV aD 5 ?_
      refine bU 2 ?_
      refine kU (xs := [(eI t1)]) (k := 1) (by kernel_rfl) (by kernel_rfl) ?_
      obtain ⟨c6, h0⟩ := aU h0
      refine oH (e := (eI)) out5 ([t1]) 0 lo1 1 8 (gQ [(eI t1)]) (fun lo5 => [(lo5, 1, List.map (eI) (out5 ++ ([t1])))]) (by kernel_rfl) (by kernel_rfl) hO (by kernel_rfl) (by kernel_rfl) c6 (fun _ => by kernel_rfl) ?_
      intro lo5 H hO
      refine bB ?_
      exact aG (aF (⟨rfl, _, _, .eq (by kernel_rfl), hO, h0⟩))
    refine bG ?_
    exact aG (aF (⟨rfl, _, _, .eq (by kernel_rfl), hO, h0⟩))
  refine aT aD 1 [] [(7, (eI (0 : Int)))] ?_
  refine cA 0 ?_
  refine eU [(0, (eL (eI) l0)), (1, (eI t1)), (5, (.sl true 0 (fun _ => .bad))), (6, (aE false)), (7, (eI (0 : Int)))] ?_
  refine xN (el := (fun _ => .bad)) 2 5 1 hO (by kernel_rfl) ?_
  intro lo20 H21 hO
  refine dS (fun T H => ∃ out5 : List Int, ∃ put6 : Bool, ∃ i7 : Int, ∃ lo8 : Nat, Has T [(0, (eL (eI) l0)), (1, (eI t1)), (5, (.msl 1 lo8 0 (List.length out5))), (6, (aE put6)), (7, (eI i7))] ∧ aJ ⟨H0, [], []⟩ H [(lo8, 1, List.map (eI) out5)] ∧ uS l0 t1 out5 put6 i7 = some r) ?_ ⟨([] : List Int), false, (0 : Int), lo20, .eq (by kernel_rfl), hO, h0⟩
  clear hO h0
  rintro T H ⟨out5, put6, i7, lo8, hT, hO, h0⟩
  refine aY hT ?_
  clear hT
  unfold uS at h0
  obtain ⟨rr0, hl0, h0⟩ := aX h0
  refine cS (by kernel_rfl) (fun (s : List Int × Bool × Int) T H => ∃ lo8 : Nat, Has T [(0, (eL (eI) l0)), (1, (eI t1)), (5, (.msl 1 lo8 0 (List.length s.1))), (6, (aE s.2.1)), (7, (eI s.2.2))] ∧ aJ ⟨H0, [], []⟩ H [(lo8, 1, List.map (eI) s.1)]) hl0 ⟨lo8, .eq (by kernel_rfl), hO⟩ ?_
  clear hO
  rintro k0 s out1 T H ⟨lo8, hT, hO⟩ h1 ho0
  obtain ⟨out5, put6, i7⟩ := s
  replace h1 : iV l0 t1 out5 put6 i7 = some out1 := h1
  try dsimp only at hT
  refine aY hT ?_
  clear hT
  unfold iV at h1
  refine aN ?_
  refine aT aD 4 [] [(12, (aE (decide (i7 < (lN l0)))))] ?_
  refine bF h1 (fun h1 => ?_) (fun h1 => ?_)
  · refine bG ?_
    refine bI [(0, (eL (eI) l0)), (1, (eI t1)), (5, (.msl 1 lo8 0 (List.length out5))), (6, (aE put6)), (7, (eI i7))] ?_
    refine aN ?_
    refine cA 1 ?_
    refine aN ?_
    refine aN ?_
    refine aV aD 6 ?_
    obtain ⟨c10, h1⟩ := aU h1
    refine nF [0 ≤ i7 ∧ i7 < (lN l0)] ⟨c10, trivial⟩ ?_
    refine bT [] [(20, (aE (decide ((gD l0 i7) = t1))))] ?_
    refine bF h1 (fun h1 => ?_) (fun h1 => ?_)
    · refine aN ?_
      refine aV aD 2 ?_
      refine bB ?_
      refine gO [(4, (eL (eI) l0))] ?_
      replace hO := hO.pick (L' := []) [] (by decide) (by kernel_rfl)
      refine aG (aF (?_))
      refine bK ?_
      obtain rfl := oI h1
      obtain rfl : _ = rr0 := ho0
      replace h0 : some l0 = some r := h0
      obtain rfl := oI h0
      exact aG (aP (bE (aP (aP (bE (aP (Q_r hO)))))))
    refine bG ?_
    refine bI [(0, (eL (eI) l0)), (1, (eI t1)), (5, (.msl 1 lo8 0 (List.length out5))), (6, (aE put6)), (7, (eI i7))] ?_
    refine dN (fun T H => ∃ out5 : List Int, ∃ put6 : Bool, ∃ lo12 : Nat, Has T [(0, (eL (eI) l0)), (1, (eI t1)), (5, (.msl 1 lo12 0 (List.length out5))), (6, (aE put6)), (7, (eI i7))] ∧ aJ ⟨H0, [], []⟩ H [(lo12, 1, List.map (eI) out5)] ∧ rG l0 t1 out5 put6 i7 = some out1) ?_ ?_
    · clear hO h1
      rintro T H ⟨out5, put6, lo12, hT, hO, h1⟩
      refine aY hT ?_
      clear hT
      unfold rG at h1
      refine aV aD 8 ?_
      obtain ⟨c13, h1⟩ := aU h1
      refine oA 5 [0 ≤ i7 ∧ i7 < (lN l0)] ⟨c13, trivial⟩ ?_
      refine kU (xs := [(eI (gD l0 i7))]) (k := 1) (by kernel_rfl) (by kernel_rfl) ?_
      obtain ⟨c15, h1⟩ := aU h1
      refine oH (e := (eI)) out5 ([gD l0 i7]) 0 lo12 1 8 (gQ [(eI (gD l0 i7))]) (fun lo14 => [(lo14, 1, List.map (eI) (out5 ++ ([gD l0 i7])))]) (by kernel_rfl) (by kernel_rfl) hO (by kernel_rfl) (by kernel_rfl) c15 (fun _ => by kernel_rfl) ?_
      intro lo14 H hO
      refine bB ?_
      refine gO [(0, (eL (eI) l0)), (1, (eI t1)), (5, (.msl 1 lo14 0 (List.length (out5 ++ ([gD l0 i7]))))), (6, (aE put6)), (7, (eI i7))] ?_
      refine aG (aW (aF (?_)))
      refine aV aD 3 ?_
      refine bB ?_
      exact aG (aF (⟨rfl, _, (oI h1).symm, _, .eq (by kernel_rfl), hO⟩))
    refine aN ?_
    refine aV aD 10 ?_
    obtain ⟨c16, h1⟩ := aU h1
    refine nF [0 ≤ i7 ∧ i7 < (lN l0)] ⟨c16, trivial⟩ ?_
    refine bT [] [(31, (aE ((decide (t1 < (gD l0 i7))) && (!put6))))] ?_
    refine bF h1 (fun h1 => ?_) (fun h1 => ?_)
    · refine aN ?_
      refine aV aD 5 ?_
      refine bU 2 ?_
      refine kU (xs := [(eI t1)]) (k := 1) (by kernel_rfl) (by kernel_rfl) ?_
      obtain ⟨c19, h1⟩ := aU h1
      refine oH (e := (eI)) out5 ([t1]) 0 lo8 1 8 (gQ [(eI t1)]) (fun lo18 => [(lo18, 1, List.map (eI) (out5 ++ ([t1])))]) (by kernel_rfl) (by kernel_rfl) hO (by kernel_rfl) (by kernel_rfl) c19 (fun _ => by kernel_rfl) ?_
      intro lo18 H hO
      refine bB ?_
      refine bT [5, 6, 31] [(5, (.msl 1 lo18 0 (List.length (out5 ++ ([t1])))))] ?_
      refine aV aD 1 ?_
      refine bB ?_
      exact aG (aF (⟨rfl, _, _, _, .eq (by kernel_rfl), hO, h1⟩))
    refine bG ?_
    exact aG (aF (⟨rfl, _, _, _, .eq (by kernel_rfl), hO, h1⟩))
  refine eX 0 ?_
  obtain rfl := oI h1
  obtain rfl : _ = rr0 := ho0
  replace h0 : oC t1 out5 put6 = some r := h0
  exact aG (aR (aR (bQ (aF (⟨rfl, _, _, _, .eq (by kernel_rfl), hO, h0⟩)))))

theorem LV (l0 : (List aK)) (cE : Int) (r : ((List Int) × Int)) (h0 : sM l0 cE = some r) : dL Try.prog 13 [(eL aM l0), (eI cE)] (.tup [(eL (eI) r.1), (eI r.2)]) := by
  intro H0
  refine dG Try.func13 ?_
  have hO := aJ.start H0
  unfold sM at h0
  refine aT aD 2 [] [] ?_
  refine aN ?_
  refine aN ?_
  refine aV aD 3 ?_
  refine bU 1 ?_
  obtain ⟨x1, hx2, h0⟩ := aX h0
  refine dR (EX l0 _ hx2) hO ?_
  intro H hO
  refine bB ?_
  refine bT [] [(10, (aE (!x1)))] ?_
  refine bF h0 (fun h0 => ?_) (fun h0 => ?_)
  · refine bS aD 2 [(4, (.sl true 0 (fun _ => .bad))), (5, (eI (2 : Int)))] ?_
    refine bK ?_
    refine cX (l := [(4, (eL (eI) ([]))), (5, (eI (2 : Int)))]) ⟨[(4, (.sl true 0 (fun _ => .bad))), (5, (eI (2 : Int)))], by kernel_rfl, rfl, ⟨kM, aO.refl _, trivial⟩⟩ ?_
    obtain rfl := oI h0
    exact aG (aP (Q_r hO))
  refine bG ?_
  refine bI [(0, (eL aM l0)), (1, (eI cE))] ?_
  refine aN ?_
  refine aN ?_
  refine aV aD 3 ?_
  refine bU 1 ?_
  obtain ⟨x5, hx6, h0⟩ := aX h0
  refine dR (KR l0 _ hx6) hO ?_
  intro H hO
  refine bB ?_
  refine bT [] [(13, (aE (!x5)))] ?_
  refine bF h0 (fun h0 => ?_) (fun h0 => ?_)
  · refine bS aD 2 [(4, (.sl true 0 (fun _ => .bad))), (5, (eI (20 : Int)))] ?_
    refine bK ?_
    refine cX (l := [(4, (eL (eI) ([]))), (5, (eI (20 : Int)))]) ⟨[(4, (.sl true 0 (fun _ => .bad))), (5, (eI (20 : Int)))], by kernel_rfl, rfl, ⟨kM, aO.refl _, trivial⟩⟩ ?_
    obtain rfl := oI h0
    exact aG (aP (Q_r hO))
  refine bG ?_
  refine bI [(0, (eL aM l0)), (1, (eI cE))] ?_
  refine aN ?_
  refine aN ?_
  refine aV aD 3 ?_
  refine bU 1 ?_
  obtain ⟨x9, hx10, h0⟩ := aX h0
  refine dR (LP cE _ hx10) hO ?_
  intro H hO
  refine bB ?_
  refine bT [] [(16, (aE (!x9)))] ?_
  refine bF h0 (fun h0 => ?_) (fun h0 => ?_)
  · refine bS aD 2 [(4, (.sl true 0 (fun _ => .bad))), (5, (eI (13 : Int)))] ?_
    refine bK ?_
    refine cX (l := [(4, (eL (eI) ([]))), (5, (eI (13 : Int)))]) ⟨[(4, (.sl true 0 (fun _ => .bad))), (5, (eI (13 : Int)))], by kernel_rfl, rfl, ⟨kM, aO.refl _, trivial⟩⟩ ?_
    obtain rfl := oI h0
    exact aG (aP (Q_r hO))
  refine bG ?_
  refine bI [(0, (eL aM l0)), (1, (eI cE))] ?_
  refine aN ?_
  refine aT aD 2 [] [(18, (aE (decide (cE = (1125899906842624 : Int)))))] ?_
  refine bF h0 (fun h0 => ?_) (fun h0 => ?_)
  · refine bS aD 2 [(4, (.sl true 0 (fun _ => .bad))), (5, (eI (0 : Int)))] ?_
    refine bK ?_
    refine cX (l := [(4, (eL (eI) ([]))), (5, (eI (0 : Int)))]) ⟨[(4, (.sl true 0 (fun _ => .bad))), (5, (eI (0 : Int)))], by kernel_rfl, rfl, ⟨kM, aO.refl _, trivial⟩⟩ ?_
    obtain rfl := oI h0
    exact aG (aP (Q_r hO))
  refine bG ?_
  refine bI [(0, (eL aM l0)), (1, (eI cE))] ?_
  refine aN ?_
  refine aV aD 3 ?_
  refine bU 1 ?_
  refine kU (xs := [(eI cE)]) (k := 1) (by kernel_rfl) (by kernel_rfl) ?_
  refine bB ?_
  refine cX (l := [(0, (eL aM l0)), (1, (eI cE)), (6, (eL (eI) ([cE])))]) ⟨[(0, (eL aM l0)), (1, (eI cE)), (6, (gQ [(eI cE)]))], by kernel_rfl, rfl, ⟨aO.refl _, aO.refl _, CQ (l := [cE]), trivial⟩⟩ ?_
  refine aG (aF (?_))
  refine dN (fun T H => ∃ out6 : (List Int), Has T [(6, (eL (eI) out6))] ∧ aJ ⟨H0, [], []⟩ H [] ∧ uL out6 = some r) ?_ ?_
  · clear hO h0
    rintro T H ⟨out6, hT, hO, h0⟩
    refine aY hT ?_
    clear hT
    unfold uL at h0
    refine bS aD 3 [(4, (eL (eI) out6)), (5, (eI (0 : Int)))] ?_
    refine bK ?_
    obtain rfl := oI h0
    exact aG (Q_r hO)
  refine aT aD 1 [] [(7, (eI (0 : Int)))] ?_
  refine cA 0 ?_
  refine eU [(0, (eL aM l0)), (1, (eI cE)), (6, (eL (eI) ([cE]))), (7, (eI (0 : Int)))] ?_
  refine dS (fun T H => ∃ out6 : (List Int), ∃ i7 : Int, Has T [(0, (eL aM l0)), (1, (eI cE)), (6, (eL (eI) out6)), (7, (eI i7))] ∧ aJ ⟨H0, [], []⟩ H [] ∧ uP l0 cE out6 i7 = some r) ?_ ⟨[cE], (0 : Int), .eq (by kernel_rfl), hO, h0⟩
  clear hO h0
  rintro T H ⟨out6, i7, hT, hO, h0⟩
  refine aY hT ?_
  clear hT
  unfold uP at h0
  obtain ⟨rr0, hl0, h0⟩ := aX h0
  refine cS (by kernel_rfl) (fun (s : (List Int) × Int) T H => Has T [(0, (eL aM l0)), (1, (eI cE)), (6, (eL (eI) s.1)), (7, (eI s.2))] ∧ aJ ⟨H0, [], []⟩ H []) hl0 ⟨.eq (by kernel_rfl), hO⟩ ?_
  clear hO
  rintro k0 s out1 T H ⟨hT, hO⟩ h1 ho0
  obtain ⟨out6, i7⟩ := s
  replace h1 : lR l0 cE out6 i7 = some out1 := h1
  try dsimp only at hT
  refine aY hT ?_
  clear hT
  unfold lR at h1
  refine aN ?_
  refine aT aD 4 [] [(24, (aE (decide (i7 < (lN l0)))))] ?_
  refine bF h1 (fun h1 => ?_) (fun h1 => ?_)
  · refine bG ?_
    refine bI [(0, (eL aM l0)), (1, (eI cE)), (6, (eL (eI) out6)), (7, (eI i7))] ?_
    refine dN (fun T H => ∃ out6 : (List Int), Has T [(0, (eL aM l0)), (1, (eI cE)), (6, (eL (eI) out6)), (7, (eI i7))] ∧ aJ ⟨H0, [], []⟩ H [] ∧ oG l0 cE out6 i7 = some out1) ?_ ?_
    · clear hO h1
      rintro T H ⟨out6, hT, hO, h1⟩
      refine aY hT ?_
      clear hT
      unfold oG at h1
      refine aV aD 3 ?_
      refine bB ?_
      exact aG (aF (⟨rfl, _, (oI h1).symm, .eq (by kernel_rfl), hO⟩))
    refine cA 1 ?_
    refine aN ?_
    refine aV aD 7 ?_
    obtain ⟨c15, h1⟩ := aU h1
    refine nF [0 ≤ i7 ∧ i7 < (lN l0)] ⟨c15, trivial⟩ ?_
    refine bT [] [(33, (aE (decide (cE < ((gD l0 i7).At)))))] ?_
    refine bF h1 (fun h1 => ?_) (fun h1 => ?_)
    · refine aV aD 8 ?_
      obtain ⟨c17, h1⟩ := aU h1
      refine oA 6 [0 ≤ i7 ∧ i7 < (lN l0)] ⟨c17, trivial⟩ ?_
      obtain ⟨x18, hx19, h1⟩ := aX h1
      refine dR (OC out6 ((gD l0 i7).At) _ hx19) hO ?_
      intro H hO
      refine bB ?_
      exact aG (aW (aF (⟨rfl, _, .eq (by kernel_rfl), hO, h1⟩)))
    refine bG ?_
    exact aG (aW (aF (⟨rfl, _, .eq (by kernel_rfl), hO, h1⟩)))
  refine eX 0 ?_
  obtain rfl := oI h1
  obtain rfl : _ = rr0 := ho0
  replace h0 : uL out6 = some r := h0
  exact aG (aR (aR (bQ (aF (⟨rfl, _, .eq (by kernel_rfl), hO, h0⟩)))))

theorem LA (l0 : (List aK)) (t1 : Int) (r : (List bM)) (h0 : rE l0 t1 = some r) : dL Try.prog 18 [(eL aM l0), (eI t1)] (eL bR r) := by
  intro H0
  refine dG Try.func18 ?_
  have hO := aJ.start H0
  unfold rE at h0
  refine aT aD 1 [] [] ?_
  refine aN ?_
  refine aV aD 2 ?_
  refine kU (xs := []) (k := 2) (by kernel_rfl) (by kernel_rfl) ?_
  refine bB ?_
  refine bT [] [(5, (.sl true 0 (fun _ => .bad)))] ?_
  refine aN ?_
  refine aV aD 3 ?_
  refine bU 1 ?_
  obtain ⟨x1, hx2, h0⟩ := aX h0
  refine dR (yZ l0 _ hx2) hO ?_
  intro H hO
  refine bB ?_
  refine bT [] [(6, (eL (eL aC) x1))] ?_
  refine dN (fun T H => ∃ out5 : List bM, ∃ lo4 : Nat, Has T [(5, (.msl 2 lo4 0 (List.length out5)))] ∧ aJ ⟨H0, [], []⟩ H [(lo4, 2, List.map bR out5)] ∧ tI out5 = some r) ?_ ?_
  · clear hO h0
    rintro T H ⟨out5, lo4, hT, hO, h0⟩
    refine aY hT ?_
    clear hT
    unfold tI at h0
    refine bS aD 2 [(4, (.msl 2 lo4 0 (List.length out5)))] ?_
    refine bK ?_
    refine gO [(4, (.msl 2 lo4 0 (List.length out5)))] ?_
    refine oQ (en := bR) out5 0 0 4 2 lo4 (List.length out5) hO (by kernel_rfl) (by kernel_rfl) (by kernel_rfl) (L' := []) (by kernel_rfl) ?_
    intro H5 hO
    obtain rfl := oI h0
    exact aG (Q_r hO)
  refine aT aD 1 [] [(7, (eI (0 : Int)))] ?_
  refine cA 0 ?_
  refine eU [(0, (eL aM l0)), (1, (eI t1)), (5, (.sl true 0 (fun _ => .bad))), (6, (eL (eL aC) x1)), (7, (eI (0 : Int)))] ?_
  refine xN (el := (fun _ => .bad)) 2 5 2 hO (by kernel_rfl) ?_
  intro lo21 H22 hO
  refine dS (fun T H => ∃ out5 : List bM, ∃ jQ : (List (List aB)), ∃ i7 : Int, ∃ lo7 : Nat, Has T [(0, (eL aM l0)), (1, (eI t1)), (5, (.msl 2 lo7 0 (List.length out5))), (6, (eL (eL aC) jQ)), (7, (eI i7))] ∧ aJ ⟨H0, [], []⟩ H [(lo7, 2, List.map bR out5)] ∧ tE l0 t1 out5 jQ i7 = some r) ?_ ⟨([] : List bM), x1, (0 : Int), lo21, .eq (by kernel_rfl), hO, h0⟩
  clear hO h0
  rintro T H ⟨out5, jQ, i7, lo7, hT, hO, h0⟩
  refine aY hT ?_
  clear hT
  unfold tE at h0
  obtain ⟨rr0, hl0, h0⟩ := aX h0
  refine cS (by kernel_rfl) (fun (s : List bM × Int) T H => ∃ lo7 : Nat, Has T [(0, (eL aM l0)), (1, (eI t1)), (5, (.msl 2 lo7 0 (List.length s.1))), (6, (eL (eL aC) jQ)), (7, (eI s.2))] ∧ aJ ⟨H0, [], []⟩ H [(lo7, 2, List.map bR s.1)]) hl0 ⟨lo7, .eq (by kernel_rfl), hO⟩ ?_
  clear hO
  rintro k0 s out1 T H ⟨lo7, hT, hO⟩ h1 ho0
  obtain ⟨out5, i7⟩ := s
  replace h1 : mD l0 t1 jQ out5 i7 = some out1 := h1
  try dsimp only at hT
  refine aY hT ?_
  clear hT
  unfold mD at h1
  refine aN ?_
  refine aT aD 4 [] [(15, (aE (decide (i7 < (lN jQ)))))] ?_
  refine bF h1 (fun h1 => ?_) (fun h1 => ?_)
  · refine bG ?_
    refine bI [(0, (eL aM l0)), (1, (eI t1)), (5, (.msl 2 lo7 0 (List.length out5))), (6, (eL (eL aC) jQ)), (7, (eI i7))] ?_
    refine dN (fun T H => ∃ out5 : List bM, ∃ lo9 : Nat, Has T [(0, (eL aM l0)), (1, (eI t1)), (5, (.msl 2 lo9 0 (List.length out5))), (6, (eL (eL aC) jQ)), (7, (eI i7))] ∧ aJ ⟨H0, [], []⟩ H [(lo9, 2, List.map bR out5)] ∧ nI l0 t1 out5 jQ i7 = some out1) ?_ ?_
    · clear hO h1
      rintro T H ⟨out5, lo9, hT, hO, h1⟩
      refine aY hT ?_
      clear hT
      unfold nI at h1
      refine aV aD 3 ?_
      refine bB ?_
      exact aG (aF (⟨rfl, _, (oI h1).symm, _, .eq (by kernel_rfl), hO⟩))
    refine cA 1 ?_
    refine aN ?_
    refine aV aD 9 ?_
    obtain ⟨c10, h1⟩ := aU h1
    refine oA 5 [0 ≤ i7 ∧ i7 < (lN jQ)] ⟨c10, trivial⟩ ?_
    obtain ⟨x11, hx12, h1⟩ := aX h1
    refine dR (xQ l0 (gD jQ i7) _ hx12) hO ?_
    intro H hO
    refine bU 7 ?_
    obtain ⟨x14, hx15, h1⟩ := aX h1
    refine dR (uG x11 t1 _ hx15) hO ?_
    intro H hO
    refine bB ?_
    refine bT [] [(8, (eI x14))] ?_
    refine aT aD 2 [] [(27, (aE (decide ((0 : Int) < x14))))] ?_
    refine bF h1 (fun h1 => ?_) (fun h1 => ?_)
    · refine aV aD 10 ?_
      obtain ⟨c18, h1⟩ := aU h1
      refine oA 7 [0 ≤ i7 ∧ i7 < (lN jQ)] ⟨c18, trivial⟩ ?_
      refine kU (xs := [(bR (bM.mk (gD jQ i7) x14))]) (k := 2) (by kernel_rfl) (by kernel_rfl) ?_
      obtain ⟨c20, h1⟩ := aU h1
      refine oH (e := bR) out5 ([bM.mk (gD jQ i7) x14]) 0 lo7 2 32 (gQ [(bR (bM.mk (gD jQ i7) x14))]) (fun lo19 => [(lo19, 2, List.map bR (out5 ++ ([bM.mk (gD jQ i7) x14])))]) (by kernel_rfl) (by kernel_rfl) hO (by kernel_rfl) (by kernel_rfl) c20 (fun _ => by kernel_rfl) ?_
      intro lo19 H hO
      refine bB ?_
      exact aG (aW (aF (⟨rfl, _, _, .eq (by kernel_rfl), hO, h1⟩)))
    refine bG ?_
    exact aG (aW (aF (⟨rfl, _, _, .eq (by kernel_rfl), hO, h1⟩)))
  refine eX 0 ?_
  obtain rfl := oI h1
  obtain rfl : _ = rr0 := ho0
  replace h0 : tI out5 = some r := h0
  exact aG (aR (aR (bQ (aF (⟨rfl, _, _, .eq (by kernel_rfl), hO, h0⟩)))))

theorem KY (l0 : (List aK)) (cE : Int) (r : ((List bC) × Int)) (h0 : qO l0 cE = some r) : dL Try.prog 15 [(eL aM l0), (eI cE)] (.tup [(eL bA r.1), (eI r.2)]) := by
  intro H0
  refine dG Try.func15 ?_
  have hO := aJ.start H0
  unfold qO at h0
  refine aT aD 2 [] [] ?_
  refine aN ?_
  refine aV aD 8 ?_
  refine bU 2 ?_
  obtain ⟨x1, hx2, h0⟩ := aX h0
  refine dR (LV l0 cE _ hx2) hO ?_
  intro H hO
  refine bB ?_
  refine bT [1] [(6, (eL (eI) x1.1)), (7, (eI x1.2))] ?_
  refine aN ?_
  refine aT aD 2 [] [(18, (aE (!decide (x1.2 = (0 : Int)))))] ?_
  refine bF h0 (fun h0 => ?_) (fun h0 => ?_)
  · refine bS aD 3 [(4, (.sl true 0 (fun _ => .bad))), (5, (eI x1.2))] ?_
    refine bK ?_
    refine cX (l := [(4, (eL bA ([]))), (5, (eI x1.2))]) ⟨[(4, (.sl true 0 (fun _ => .bad))), (5, (eI x1.2))], by kernel_rfl, rfl, ⟨kM, aO.refl _, trivial⟩⟩ ?_
    obtain rfl := oI h0
    exact aG (aP (Q_r hO))
  refine bG ?_
  refine bI [(0, (eL aM l0)), (6, (eL (eI) x1.1))] ?_
  refine aN ?_
  refine aV aD 2 ?_
  refine kU (xs := []) (k := 3) (by kernel_rfl) (by kernel_rfl) ?_
  refine bB ?_
  refine bT [] [(8, (.sl true 0 (fun _ => .bad)))] ?_
  refine dN (fun T H => ∃ out8 : List bC, ∃ lo5 : Nat, Has T [(8, (.msl 3 lo5 0 (List.length out8)))] ∧ aJ ⟨H0, [], []⟩ H [(lo5, 3, List.map bA out8)] ∧ qD out8 = some r) ?_ ?_
  · clear hO h0
    rintro T H ⟨out8, lo5, hT, hO, h0⟩
    refine aY hT ?_
    clear hT
    unfold qD at h0
    refine aN ?_
    refine aT aD 3 [] [(61, (aE (decide ((1024 : Int) < (lN out8)))))] ?_
    refine bF h0 (fun h0 => ?_) (fun h0 => ?_)
    · refine aN ?_
      refine aV aD 2 ?_
      refine bB ?_
      refine gO [(4, (.sl true 0 (fun _ => .bad))), (5, (eI (7 : Int)))] ?_
      replace hO := hO.pick (L' := []) [] (by decide) (by kernel_rfl)
      refine aG (aF (?_))
      refine bK ?_
      refine cX (l := [(4, (eL bA ([]))), (5, (eI (7 : Int)))]) ⟨[(4, (.sl true 0 (fun _ => .bad))), (5, (eI (7 : Int)))], by kernel_rfl, rfl, ⟨kM, aO.refl _, trivial⟩⟩ ?_
      obtain rfl := oI h0
      exact aG (aP (Q_r hO))
    refine bG ?_
    refine bI [(8, (.msl 3 lo5 0 (List.length out8)))] ?_
    refine bS aD 3 [(4, (.msl 3 lo5 0 (List.length out8))), (5, (eI (0 : Int)))] ?_
    refine bK ?_
    refine gO [(4, (.msl 3 lo5 0 (List.length out8))), (5, (eI (0 : Int)))] ?_
    refine oQ (en := bA) out8 0 0 4 3 lo5 (List.length out8) hO (by kernel_rfl) (by kernel_rfl) (by kernel_rfl) (L' := []) (by kernel_rfl) ?_
    intro H7 hO
    obtain rfl := oI h0
    exact aG (Q_r hO)
  refine aT aD 1 [] [(9, (eI (0 : Int)))] ?_
  refine cA 0 ?_
  refine eU [(0, (eL aM l0)), (6, (eL (eI) x1.1)), (8, (.sl true 0 (fun _ => .bad))), (9, (eI (0 : Int)))] ?_
  refine xN (el := (fun _ => .bad)) 2 8 3 hO (by kernel_rfl) ?_
  intro lo24 H25 hO
  refine dS (fun T H => ∃ bZ : (List Int), ∃ out8 : List bC, ∃ i9 : Int, ∃ lo9 : Nat, Has T [(0, (eL aM l0)), (6, (eL (eI) bZ)), (8, (.msl 3 lo9 0 (List.length out8))), (9, (eI i9))] ∧ aJ ⟨H0, [], []⟩ H [(lo9, 3, List.map bA out8)] ∧ tP l0 bZ out8 i9 = some r) ?_ ⟨x1.1, ([] : List bC), (0 : Int), lo24, .eq (by kernel_rfl), hO, h0⟩
  clear hO h0
  rintro T H ⟨bZ, out8, i9, lo9, hT, hO, h0⟩
  refine aY hT ?_
  clear hT
  unfold tP at h0
  obtain ⟨rr0, hl0, h0⟩ := aX h0
  refine cS (by kernel_rfl) (fun (s : List bC × Int) T H => ∃ lo9 : Nat, Has T [(0, (eL aM l0)), (6, (eL (eI) bZ)), (8, (.msl 3 lo9 0 (List.length s.1))), (9, (eI s.2))] ∧ aJ ⟨H0, [], []⟩ H [(lo9, 3, List.map bA s.1)]) hl0 ⟨lo9, .eq (by kernel_rfl), hO⟩ ?_
  clear hO
  rintro k0 s out1 T H ⟨lo9, hT, hO⟩ h1 ho0
  obtain ⟨out8, i9⟩ := s
  replace h1 : kZ l0 bZ out8 i9 = some out1 := h1
  try dsimp only at hT
  refine aY hT ?_
  clear hT
  unfold kZ at h1
  refine aN ?_
  refine aT aD 4 [] [(24, (aE (decide (i9 < (lN bZ)))))] ?_
  refine bF h1 (fun h1 => ?_) (fun h1 => ?_)
  · refine bG ?_
    refine bI [(0, (eL aM l0)), (6, (eL (eI) bZ)), (8, (.msl 3 lo9 0 (List.length out8))), (9, (eI i9))] ?_
    refine dN (fun T H => ∃ out8 : List bC, ∃ lo11 : Nat, Has T [(0, (eL aM l0)), (6, (eL (eI) bZ)), (8, (.msl 3 lo11 0 (List.length out8))), (9, (eI i9))] ∧ aJ ⟨H0, [], []⟩ H [(lo11, 3, List.map bA out8)] ∧ pJ l0 bZ out8 i9 = some out1) ?_ ?_
    · clear hO h1
      rintro T H ⟨out8, lo11, hT, hO, h1⟩
      refine aY hT ?_
      clear hT
      unfold pJ at h1
      refine aV aD 3 ?_
      refine bB ?_
      exact aG (aF (⟨rfl, _, (oI h1).symm, _, .eq (by kernel_rfl), hO⟩))
    refine cA 1 ?_
    refine aN ?_
    refine fD (fC [30, 36, 37, 10]) aD 14 ?_
    obtain ⟨c12, h1⟩ := aU h1
    obtain ⟨c13, h1⟩ := aU h1
    refine cH 10 [0 ≤ i9 ∧ i9 < (lN bZ), 0 ≤ i9 ∧ i9 < (lN bZ)] ⟨c12, c13, trivial⟩ ?_
    obtain ⟨x14, hx15, h1⟩ := aX h1
    refine CE (LA l0 (gD bZ i9) _ hx15) hO ?_
    intro H hO
    refine mZ 12 ?_
    refine XE 3 (.agg [(eI 0), (eI 0), (.sl true 0 (fun _ => .bad))]) (bA (bC.mk (dK.mk 0 0) ([]))) (MA (xs := [(eI 0), (eI 0), (.sl true 0 (fun _ => .bad))]) (ys := [(eI 0), (eI 0), (eL bR ([]))]) ⟨aO.refl _, aO.refl _, kM, trivial⟩) hO ?_
    intro lo17 H hO
    refine kG 1 lo17 3 0 (bA (bC.mk (dK.mk 0 0) ([]))) (bA (bC.mk (dK.mk (gD bZ i9) (1125899906842624 : Int)) x14)) [(bA (bC.mk (dK.mk 0 0) ([])))] [(lo9, 3, List.map bA out8), (lo17, 3, [(bA (bC.mk (dK.mk (gD bZ i9) (1125899906842624 : Int)) x14))])] hO rfl (by kernel_rfl) ?_
    intro H hO
    refine mR (by kernel_rfl) ?_
    refine bT [] [(10, (.lp lo17 0 0))] ?_
    refine dN (fun T H => ∃ out8 : List bC, ∃ p10 : bC, ∃ lo18 : Nat, Has T [(0, (eL aM l0)), (6, (eL (eI) bZ)), (8, (.msl 3 lo18 0 (List.length out8))), (9, (eI i9)), (10, (.lp lo17 0 0))] ∧ aJ ⟨H0, [], []⟩ H [(lo18, 3, List.map bA out8), (lo17, 3, [(bA p10)])] ∧ nL l0 bZ out8 i9 p10 = some out1) ?_ ?_
    · clear hO h1
      rintro T H ⟨out8, p10, lo18, hT, hO, h1⟩
      refine aY hT ?_
      clear hT
      unfold nL at h1
      refine aN ?_
      refine aV aD 4 ?_
      refine bU 1 ?_
      refine tT 1 lo17 3 0 (bA p10) (eL bR p10.Rows) [(bA p10)] hO rfl ?_
      refine bB ?_
      refine bT [] [(54, (aE (decide ((0 : Int) < (lN p10.Rows)))))] ?_
      refine bF h1 (fun h1 => ?_) (fun h1 => ?_)
      · refine aV aD 5 ?_
        refine bU 1 ?_
        refine tT 1 lo17 3 0 (bA p10) (bA p10) [(bA p10)] hO rfl ?_
        refine kU (xs := [(bA p10)]) (k := 3) (by kernel_rfl) (by kernel_rfl) ?_
        obtain ⟨c21, h1⟩ := aU h1
        refine oH (e := bA) out8 ([p10]) 0 lo18 3 40 (gQ [(bA p10)]) (fun lo20 => [(lo20, 3, List.map bA (out8 ++ ([p10]))), (lo17, 3, [(bA p10)])]) (by kernel_rfl) (by kernel_rfl) hO (by kernel_rfl) (by kernel_rfl) c21 (fun _ => by kernel_rfl) ?_
        intro lo20 H hO
        refine bB ?_
        replace hO := hO.pick (L' := [(lo20, 3, List.map bA (out8 ++ ([p10])))]) [0] (by decide) (by kernel_rfl)
        exact aG (aW (aF (⟨rfl, _, _, .eq (by kernel_rfl), hO, h1⟩)))
      refine bG ?_
      replace hO := hO.pick (L' := [(lo18, 3, List.map bA out8)]) [0] (by decide) (by kernel_rfl)
      exact aG (aW (aF (⟨rfl, _, _, .eq (by kernel_rfl), hO, h1⟩)))
    refine aT aD 5 [] [(43, (aE (decide ((wR (i9 + (1 : Int))) < (lN bZ)))))] ?_
    refine bF h1 (fun h1 => ?_) (fun h1 => ?_)
    · refine aV aD 8 ?_
      obtain ⟨c23, h1⟩ := aU h1
      refine oA 7 [0 ≤ (wR (i9 + (1 : Int))) ∧ (wR (i9 + (1 : Int))) < (lN bZ)] ⟨c23, trivial⟩ ?_
      refine rW 1 lo17 3 0 (bA (bC.mk (dK.mk (gD bZ i9) (1125899906842624 : Int)) x14)) (bA (bC.mk (dK.mk ((bC.mk (dK.mk (gD bZ i9) (1125899906842624 : Int)) x14).Span).From (gD bZ (wR (i9 + (1 : Int))))) (bC.mk (dK.mk (gD bZ i9) (1125899906842624 : Int)) x14).Rows)) [(bA (bC.mk (dK.mk (gD bZ i9) (1125899906842624 : Int)) x14))] [(lo9, 3, List.map bA out8), (lo17, 3, [(bA (bC.mk (dK.mk ((bC.mk (dK.mk (gD bZ i9) (1125899906842624 : Int)) x14).Span).From (gD bZ (wR (i9 + (1 : Int))))) (bC.mk (dK.mk (gD bZ i9) (1125899906842624 : Int)) x14).Rows))])] hO rfl (by kernel_rfl) ?_
      intro H hO
      refine iP ?_
      exact aG (aF (⟨rfl, _, _, _, .eq (by kernel_rfl), hO, h1⟩))
    refine bG ?_
    exact aG (aF (⟨rfl, _, _, _, .eq (by kernel_rfl), hO, h1⟩))
  refine eX 0 ?_
  obtain rfl := oI h1
  obtain rfl : _ = rr0 := ho0
  replace h0 : qD out8 = some r := h0
  exact aG (aR (aR (bQ (aF (⟨rfl, _, _, .eq (by kernel_rfl), hO, h0⟩)))))

theorem DG (a0 : (List bM)) (b1 : (List bM)) (r : Bool) (h0 : mQ a0 b1 = some r) : dL Try.prog 17 [(eL bR a0), (eL bR b1)] (aE r) := by
  intro H0
  refine dG Try.func17 ?_
  have hO := aJ.start H0
  unfold mQ at h0
  refine aT aD 1 [] [] ?_
  refine aN ?_
  refine aT aD 5 [] [(10, (aE (!decide ((lN a0) = (lN b1)))))] ?_
  refine bF h0 (fun h0 => ?_) (fun h0 => ?_)
  · refine bS aD 1 [(4, (aE false))] ?_
    refine bK ?_
    obtain rfl := oI h0
    exact aG (aP (Q_r hO))
  refine bG ?_
  refine bI [(0, (eL bR a0)), (1, (eL bR b1))] ?_
  refine dN (fun T H => Has T [] ∧ aJ ⟨H0, [], []⟩ H [] ∧ lX  = some r) ?_ ?_
  · clear hO h0
    rintro T H ⟨hT, hO, h0⟩
    refine aY hT ?_
    clear hT
    unfold lX at h0
    refine bS aD 1 [(4, (aE true))] ?_
    refine bK ?_
    obtain rfl := oI h0
    exact aG (Q_r hO)
  refine aT aD 1 [] [(5, (eI (0 : Int)))] ?_
  refine cA 0 ?_
  refine eU [(0, (eL bR a0)), (1, (eL bR b1)), (5, (eI (0 : Int)))] ?_
  refine dS (fun T H => ∃ i5 : Int, Has T [(0, (eL bR a0)), (1, (eL bR b1)), (5, (eI i5))] ∧ aJ ⟨H0, [], []⟩ H [] ∧ nX a0 b1 i5 = some r) ?_ ⟨(0 : Int), .eq (by kernel_rfl), hO, h0⟩
  clear hO h0
  rintro T H ⟨i5, hT, hO, h0⟩
  refine aY hT ?_
  clear hT
  unfold nX at h0
  obtain ⟨rr0, hl0, h0⟩ := aX h0
  refine cS (by kernel_rfl) (fun (s : Int) T H => Has T [(0, (eL bR a0)), (1, (eL bR b1)), (5, (eI s))] ∧ aJ ⟨H0, [], []⟩ H []) hl0 ⟨.eq (by kernel_rfl), hO⟩ ?_
  clear hO
  rintro k0 s out1 T H ⟨hT, hO⟩ h1 ho0
  obtain ⟨i5, rfl⟩ : ∃ x, x = s := ⟨_, rfl⟩
  replace h1 : kN a0 b1 i5 = some out1 := h1
  refine aY hT ?_
  clear hT
  unfold kN at h1
  refine aN ?_
  refine aT aD 4 [] [(14, (aE (decide (i5 < (lN a0)))))] ?_
  refine bF h1 (fun h1 => ?_) (fun h1 => ?_)
  · refine bG ?_
    refine bI [(0, (eL bR a0)), (1, (eL bR b1)), (5, (eI i5))] ?_
    refine aN ?_
    refine cA 1 ?_
    refine aN ?_
    obtain ⟨c3, h1⟩ := aU h1
    obtain ⟨c4, h1⟩ := aU h1
    obtain ⟨c5, h1⟩ := aU h1
    obtain ⟨c6, h1⟩ := aU h1
    obtain ⟨x7, hx8, h1⟩ := aX h1
    refine fD (fC [21, 26, 33, 38]) aD 25 ?_
    refine lZ (K := fun T H => Has (lift T) [(0, (eL bR a0)), (1, (eL bR b1)), (5, (eI i5)), (41, (aE ((!decide (((gD a0 i5).N) = ((gD b1 i5).N))) || (!x7))))] ∧ aJ ⟨H0, [], []⟩ H []) ?_ ?_
    · refine cH 12 [0 ≤ i5 ∧ i5 < (lN a0), 0 ≤ i5 ∧ i5 < (lN b1)] ⟨c3, c4, trivial⟩ ?_
      refine kP (t := 28) (e := !decide (((gD a0 i5).N) = ((gD b1 i5).N))) (by kernel_rfl) (fun hg9 => ?_) (fun hg9 => ?_)
      · refine iF ?_
        exact ⟨⟨[(0, (eL bR a0)), (1, (eL bR b1)), (5, (eI i5)), (41, (aE true))], by kernel_rfl, rfl, ⟨aO.refl _, aO.refl _, aO.refl _, aO.eq (congrArg aE (BX hg9 rfl).symm), trivial⟩⟩, hO⟩
      refine cH 22 [0 ≤ i5 ∧ i5 < (lN a0), 0 ≤ i5 ∧ i5 < (lN b1)] ⟨(c5 (vQ hg9)), (c6 (vQ hg9)), trivial⟩ ?_
      refine lO 42 [(eL aC ((gD a0 i5).Row)), (eL aC ((gD b1 i5).Row))] (aE x7) (by kernel_rfl) (by kernel_rfl) (yU ((gD a0 i5).Row) ((gD b1 i5).Row) _ (jG hx8 (vQ hg9))) hO ?_
      intro H hO
      refine iF ?_
      exact ⟨⟨[(0, (eL bR a0)), (1, (eL bR b1)), (5, (eI i5)), (41, (aE (!x7)))], by kernel_rfl, rfl, ⟨aO.refl _, aO.refl _, aO.refl _, aO.eq (congrArg aE (BX hg9 rfl).symm), trivial⟩⟩, hO⟩
    · rintro T H ⟨hT, hO⟩
      refine cX hT ?_
      clear hT
      refine aG (aF ?_)
      refine bF h1 (fun h1 => ?_) (fun h1 => ?_)
      · refine bS aD 1 [(4, (aE false))] ?_
        refine bK ?_
        obtain rfl := oI h1
        obtain rfl : _ = rr0 := ho0
        replace h0 : some false = some r := h0
        obtain rfl := oI h0
        exact aG (bE (aP (aP (bE (aP (Q_r hO))))))
      refine bG ?_
      refine gO [(0, (eL bR a0)), (1, (eL bR b1)), (5, (eI i5))] ?_
      refine aG (aW (aF (?_)))
      refine aV aD 3 ?_
      refine bB ?_
      exact aG (aF (⟨rfl, _, (oI h1).symm, .eq (by kernel_rfl), hO⟩))
  refine eX 0 ?_
  obtain rfl := oI h1
  obtain rfl : _ = rr0 := ho0
  replace h0 : lX  = some r := h0
  exact aG (aR (aR (bQ (aF (⟨rfl, .eq (by kernel_rfl), hO, h0⟩)))))

theorem MW (a0 : (List bC)) (b1 : (List bC)) (r : Bool) (h0 : sL a0 b1 = some r) : dL Try.prog 16 [(eL bA a0), (eL bA b1)] (aE r) := by
  intro H0
  refine dG Try.func16 ?_
  have hO := aJ.start H0
  unfold sL at h0
  refine aT aD 1 [] [] ?_
  refine aN ?_
  refine aT aD 5 [] [(10, (aE (!decide ((lN a0) = (lN b1)))))] ?_
  refine bF h0 (fun h0 => ?_) (fun h0 => ?_)
  · refine bS aD 1 [(4, (aE false))] ?_
    refine bK ?_
    obtain rfl := oI h0
    exact aG (aP (Q_r hO))
  refine bG ?_
  refine bI [(0, (eL bA a0)), (1, (eL bA b1))] ?_
  refine dN (fun T H => Has T [] ∧ aJ ⟨H0, [], []⟩ H [] ∧ rD  = some r) ?_ ?_
  · clear hO h0
    rintro T H ⟨hT, hO, h0⟩
    refine aY hT ?_
    clear hT
    unfold rD at h0
    refine bS aD 1 [(4, (aE true))] ?_
    refine bK ?_
    obtain rfl := oI h0
    exact aG (Q_r hO)
  refine aT aD 1 [] [(5, (eI (0 : Int)))] ?_
  refine cA 0 ?_
  refine eU [(0, (eL bA a0)), (1, (eL bA b1)), (5, (eI (0 : Int)))] ?_
  refine dS (fun T H => ∃ i5 : Int, Has T [(0, (eL bA a0)), (1, (eL bA b1)), (5, (eI i5))] ∧ aJ ⟨H0, [], []⟩ H [] ∧ uV a0 b1 i5 = some r) ?_ ⟨(0 : Int), .eq (by kernel_rfl), hO, h0⟩
  clear hO h0
  rintro T H ⟨i5, hT, hO, h0⟩
  refine aY hT ?_
  clear hT
  unfold uV at h0
  obtain ⟨rr0, hl0, h0⟩ := aX h0
  refine cS (by kernel_rfl) (fun (s : Int) T H => Has T [(0, (eL bA a0)), (1, (eL bA b1)), (5, (eI s))] ∧ aJ ⟨H0, [], []⟩ H []) hl0 ⟨.eq (by kernel_rfl), hO⟩ ?_
  clear hO
  rintro k0 s out1 T H ⟨hT, hO⟩ h1 ho0
  obtain ⟨i5, rfl⟩ : ∃ x, x = s := ⟨_, rfl⟩
  replace h1 : oD a0 b1 i5 = some out1 := h1
  refine aY hT ?_
  clear hT
  unfold oD at h1
  refine aN ?_
  refine aT aD 4 [] [(14, (aE (decide (i5 < (lN a0)))))] ?_
  refine bF h1 (fun h1 => ?_) (fun h1 => ?_)
  · refine bG ?_
    refine bI [(0, (eL bA a0)), (1, (eL bA b1)), (5, (eI i5))] ?_
    refine aN ?_
    refine cA 1 ?_
    refine aN ?_
    obtain ⟨c3, h1⟩ := aU h1
    obtain ⟨c4, h1⟩ := aU h1
    obtain ⟨c5, h1⟩ := aU h1
    obtain ⟨c6, h1⟩ := aU h1
    obtain ⟨x7, hx8, h1⟩ := aX h1
    refine fD (fC [21, 26, 33, 38]) aD 25 ?_
    refine lZ (K := fun T H => Has (lift T) [(0, (eL bA a0)), (1, (eL bA b1)), (5, (eI i5)), (41, (aE ((!((decide ((((gD a0 i5).Span).From) = (((gD b1 i5).Span).From))) && ((decide ((((gD a0 i5).Span).To) = (((gD b1 i5).Span).To))) && true))) || (!x7))))] ∧ aJ ⟨H0, [], []⟩ H []) ?_ ?_
    · refine cH 12 [0 ≤ i5 ∧ i5 < (lN a0), 0 ≤ i5 ∧ i5 < (lN b1)] ⟨c3, c4, trivial⟩ ?_
      refine kP (t := 28) (e := !((decide ((((gD a0 i5).Span).From) = (((gD b1 i5).Span).From))) && ((decide ((((gD a0 i5).Span).To) = (((gD b1 i5).Span).To))) && true))) (by kernel_rfl) (fun hg9 => ?_) (fun hg9 => ?_)
      · refine iF ?_
        exact ⟨⟨[(0, (eL bA a0)), (1, (eL bA b1)), (5, (eI i5)), (41, (aE true))], by kernel_rfl, rfl, ⟨aO.refl _, aO.refl _, aO.refl _, aO.eq (congrArg aE (BX hg9 rfl).symm), trivial⟩⟩, hO⟩
      refine cH 22 [0 ≤ i5 ∧ i5 < (lN a0), 0 ≤ i5 ∧ i5 < (lN b1)] ⟨(c5 (vQ hg9)), (c6 (vQ hg9)), trivial⟩ ?_
      refine lO 17 [(eL bR ((gD a0 i5).Rows)), (eL bR ((gD b1 i5).Rows))] (aE x7) (by kernel_rfl) (by kernel_rfl) (DG ((gD a0 i5).Rows) ((gD b1 i5).Rows) _ (jG hx8 (vQ hg9))) hO ?_
      intro H hO
      refine iF ?_
      exact ⟨⟨[(0, (eL bA a0)), (1, (eL bA b1)), (5, (eI i5)), (41, (aE (!x7)))], by kernel_rfl, rfl, ⟨aO.refl _, aO.refl _, aO.refl _, aO.eq (congrArg aE (BX hg9 rfl).symm), trivial⟩⟩, hO⟩
    · rintro T H ⟨hT, hO⟩
      refine cX hT ?_
      clear hT
      refine aG (aF ?_)
      refine bF h1 (fun h1 => ?_) (fun h1 => ?_)
      · refine bS aD 1 [(4, (aE false))] ?_
        refine bK ?_
        obtain rfl := oI h1
        obtain rfl : _ = rr0 := ho0
        replace h0 : some false = some r := h0
        obtain rfl := oI h0
        exact aG (bE (aP (aP (bE (aP (Q_r hO))))))
      refine bG ?_
      refine gO [(0, (eL bA a0)), (1, (eL bA b1)), (5, (eI i5))] ?_
      refine aG (aW (aF (?_)))
      refine aV aD 3 ?_
      refine bB ?_
      exact aG (aF (⟨rfl, _, (oI h1).symm, .eq (by kernel_rfl), hO⟩))
  refine eX 0 ?_
  obtain rfl := oI h1
  obtain rfl : _ = rr0 := ho0
  replace h0 : rD  = some r := h0
  exact aG (aR (aR (bQ (aF (⟨rfl, .eq (by kernel_rfl), hO, h0⟩)))))

theorem EO (l0 : (List aK)) (cE : Int) (r : Bool) (h0 : pE l0 cE = some r) : dL Try.prog 4 [(eL aM l0), (eI cE)] (aE r) := by
  intro H0
  refine dG Try.func4 ?_
  have hO := aJ.start H0
  unfold pE at h0
  refine aT aD 1 [] [] ?_
  refine aN ?_
  refine aN ?_
  refine aV aD 3 ?_
  refine bU 1 ?_
  obtain ⟨x1, hx2, h0⟩ := aX h0
  refine dR (OX l0 _ hx2) hO ?_
  intro H hO
  refine bB ?_
  refine bT [] [(11, (aE (!x1)))] ?_
  refine bF h0 (fun h0 => ?_) (fun h0 => ?_)
  · refine aN ?_
    refine aV aD 2 ?_
    obtain ⟨x5, hx6, h0⟩ := aX h0
    refine dR (DC  _ hx6) hO ?_
    intro H hO
    refine bB ?_
    refine bI [(4, (aE x5))] ?_
    refine bK ?_
    obtain rfl := oI h0
    exact aG (aP (Q_r hO))
  refine bG ?_
  refine bI [(0, (eL aM l0)), (1, (eI cE))] ?_
  refine aN ?_
  refine aV aD 8 ?_
  refine bU 2 ?_
  obtain ⟨x8, hx9, h0⟩ := aX h0
  refine dR (CK l0 cE _ hx9) hO ?_
  intro H hO
  refine bB ?_
  refine bT [] [(5, (eL bA x8.1)), (6, (eI x8.2))] ?_
  refine aN ?_
  refine aV aD 8 ?_
  refine bU 2 ?_
  obtain ⟨x11, hx12, h0⟩ := aX h0
  refine dR (KY l0 cE _ hx12) hO ?_
  intro H hO
  refine bB ?_
  refine bT [0, 1] [(7, (eL bA x11.1)), (8, (eI x11.2))] ?_
  refine aN ?_
  refine aV aD 12 ?_
  obtain ⟨x14, hx15, h0⟩ := aX h0
  refine dR (DC  _ hx15) hO ?_
  intro H hO
  refine bU 9 ?_
  obtain ⟨x17, hx18, h0⟩ := aX h0
  refine pR [(31, true)] 16 [(eL bA x8.1), (eL bA x11.1)] (aE x17) (x14 && (decide (x8.2 = x11.2))) (by kernel_rfl) (by kernel_rfl) (by kernel_rfl) (fun hb19 => (MW x8.1 x11.1 _ (jG hx18 hb19))) hO ?_
  intro H hO
  refine bB ?_
  refine bI [(4, (aE ((x14 && (decide (x8.2 = x11.2))) && x17)))] ?_
  refine bK ?_
  obtain rfl := oI h0
  exact aG (Q_r hO)

end Go.Abs
namespace Go.Abs
open Go Go.RowKit Go.Proofs
theorem EA {H : Type} {enc : TypeId × Value → H} {w : World} : vI enc Try.prog w 53 aC yP :=
  CZ Try.underlying53 (by kernel_rfl) (rO (c' := EV) (ok' := yP) (fun (a : Int) (b : Int × ByteArray × Unit) => (aB.mk a b.1 b.2.1 : aB)) (by kernel_rfl) (zI Try.underlying51) (rO (c' := fun (b : Int × ByteArray × Unit) => (V.cells (cV .i64 b.1) ++ (V.cells (wW b.2.1) ++ []))) (ok' := fun b => (xT b.1 ∧ ((fun s => s.size ≤ maxLen) b.2.1 ∧ True))) (fun a b => (a, b)) (by kernel_rfl) (zI Try.underlying3) (rO (c' := fun (b : ByteArray × Unit) => (V.cells (wW b.1) ++ [])) (ok' := fun b => ((fun s => s.size ≤ maxLen) b.1 ∧ True)) (fun a b => (a, b)) (by kernel_rfl) (MU Try.underlying9) (GM ()) (fun _ _ => rfl) (fun _ _ h1 h2 => ⟨h1, h2⟩)) (fun _ _ => rfl) (fun _ _ h1 h2 => ⟨h1, h2⟩)) (fun _ _ => rfl) (fun _ _ h1 h2 => ⟨h1, h2⟩))

theorem EU {H : Type} {enc : TypeId × Value → H} {w : World} : vI enc Try.prog w 57 aM tZ :=
  CZ Try.underlying57 (by kernel_rfl) (rO (c' := HT) (ok' := tZ) (fun (a : (List aB)) (b : Int × Int × Unit) => (aK.mk a b.1 b.2.1 : aK)) (by kernel_rfl) (PM Try.underlying55 (by decide +kernel) (fun _ => by kernel_rfl) (fun _ => rfl) EA (by kernel_rfl)) (rO (c' := fun (b : Int × Int × Unit) => (V.cells (cV .i64 b.1) ++ (V.cells (cV .i64 b.2.1) ++ []))) (ok' := fun b => (xT b.1 ∧ (xT b.2.1 ∧ True))) (fun a b => (a, b)) (by kernel_rfl) (zI Try.underlying3) (rO (c' := fun (b : Int × Unit) => (V.cells (cV .i64 b.1) ++ [])) (ok' := fun b => (xT b.1 ∧ True)) (fun a b => (a, b)) (by kernel_rfl) (zI Try.underlying3) (GM ()) (fun _ _ => rfl) (fun _ _ h1 h2 => ⟨h1, h2⟩)) (fun _ _ => rfl) (fun _ _ h1 h2 => ⟨h1, h2⟩)) (fun _ _ => rfl) (fun _ _ h1 h2 => ⟨h1, h2⟩))

end Go.Abs
namespace Go.Abs
open Go
theorem gS {n : Int} (h1 : -9223372036854775808 ≤ n) (h2 : n ≤ 9223372036854775807) : IntKind.i64.wrap n = n := by
  simp only [IntKind.wrap, IntKind.bits, IntKind.signed]
  simp
  split <;> omega

def sA {α st R : Type} (step : st → α → Option (st ⊕ R)) (fin : st → R) : st → List α → Option R
  | s, [] => some (fin s)
  | s, a :: r => match step s a with
    | some (.inl s') => sA step fin s' r
    | some (.inr x) => some x
    | none => none

theorem GX {α st R : Type} {step : st → α → Option (st ⊕ R)} {fin : st → R} {s s' : st} {a : α} {r : List α} (h : step s a = some (.inl s')) : sA step fin s (a :: r) = sA step fin s' r := by
  simp only [sA, h]

theorem HE {α st R : Type} {step : st → α → Option (st ⊕ R)} {fin : st → R} {s : st} {x : R} {a : α} {r : List α} (h : step s a = some (.inr x)) : sA step fin s (a :: r) = some x := by
  simp only [sA, h]

theorem QI {α S st R : Type} {body : S → Option (S ⊕ R)} {l : List α} (mk : st → Int → S) (step : st → α → Option (st ⊕ R)) (fin : st → R)
    (hn : ∀ (i : Nat) a s, l[i]? = some a → (∀ s', step s a = some (.inl s') → body (mk s i) = some (.inl (mk s' ((i + 1 : Nat) : Int)))) ∧ (∀ x, step s a = some (.inr x) → body (mk s i) = some (.inr x)))
    (he : ∀ s, body (mk s (l.length : Nat)) = some (.inr (fin s))) : ∀ (m k : Nat) (s : st) (r : R), l.length - k = m → k ≤ l.length → sA step fin s (l.drop k) = some r → lp body (mk s k) = some r
  | 0, k, s, r, hm, hk, h => by
    have : k = l.length := by omega
    subst this
    rw [List.drop_length] at h
    simp only [sA, Option.some.injEq] at h
    subst h
    exact cR (he s)
  | m + 1, k, s, r, hm, hk, h => by
    have hlt : k < l.length := by omega
    have hd : l.drop k = l[k] :: l.drop (k + 1) := List.drop_eq_getElem_cons hlt
    rw [hd] at h
    simp only [sA] at h
    obtain ⟨h1, h2⟩ := hn k l[k] s (List.getElem?_eq_getElem hlt)
    split at h
    · rename_i s' hs
      rw [eZ (h1 s' hs)]
      exact QI mk step fin hn he m (k + 1) s' r (by omega) (by omega) h
    · rename_i x hs
      simp at h; subst h
      exact cR (h2 x hs)
    · cases h

theorem NF {α S st R : Type} {body : S → Option (S ⊕ R)} {l : List α} (mk : st → Int → S) (step : st → α → Option (st ⊕ R)) (fin : st → R)
    (hn : ∀ (i : Nat) a s, l[i]? = some a → (∀ s', step s a = some (.inl s') → body (mk s i) = some (.inl (mk s' ((i + 1 : Nat) : Int)))) ∧ (∀ x, step s a = some (.inr x) → body (mk s i) = some (.inr x)))
    (he : ∀ s, body (mk s (l.length : Nat)) = some (.inr (fin s))) {s : st} {r : R} (h : sA step fin s l = some r) : lp body (mk s 0) = some r :=
  QI mk step fin hn he _ 0 s r rfl (Nat.zero_le _) (by simpa using h)

theorem idx {α : Type} [Inhabited α] {l : List α} {i : Nat} {a : α} (h : l[i]? = some a) (hl : l.length < 4611686018427387904) :
    decide ((i : Int) < ((l.length : Nat) : Int)) = true ∧ (0 ≤ (i : Int) ∧ (i : Int) < ((l.length : Nat) : Int)) ∧ l.getD (Int.toNat (i : Int)) default = a ∧ IntKind.i64.wrap ((i : Int) + 1) = ((i + 1 : Nat) : Int) := by
  have hlt : i < l.length := (List.getElem?_eq_some_iff.1 h).1
  refine ⟨by simpa using hlt, ⟨by omega, by omega⟩, ?_, ?_⟩
  · rw [Int.toNat_natCast, List.getD_eq_getElem?_getD, h]; rfl
  · rw [gS (by omega) (by omega)]; omega

theorem gH {n : Nat} : decide (((n : Nat) : Int) < ((n : Nat) : Int)) = false := by simp

theorem aA8 {α : Type} {j : α} {r : List α} : (0 : Int) ≤ 0 ∧ (0 : Int) < ((List.length (j :: r) : Nat) : Int) := ⟨by omega, by simp⟩

theorem aAm {α : Type} [Inhabited α] {j : α} {r : List α} : List.getD (j :: r) (Int.toNat (0 : Int)) default = j := rfl

end Go.Abs
namespace Go.Abs
open Go
theorem drop_cons {α : Type} {l r : List α} {a : α} {k : Nat} (h : l.drop k = a :: r) : l[k]? = some a ∧ l.drop (k + 1) = r := by
  have hk : k < l.length := by
    apply Classical.byContradiction; intro hn
    rw [List.drop_eq_nil_of_le (by omega)] at h; cases h
  rw [List.drop_eq_getElem_cons hk] at h
  obtain ⟨h1, h2⟩ := List.cons.inj h
  exact ⟨by rw [List.getElem?_eq_getElem hk, h1], h2⟩

theorem WB {α S st R : Type} {body : S → Option (S ⊕ R)} {l : List α} (mk : st → Int → S) (G : st → List α → R) (Inv : st → List α → Prop)
    (hn : ∀ (i : Nat) a r s, l[i]? = some a → Inv s (a :: r) → (∃ s', body (mk s i) = some (.inl (mk s' ((i + 1 : Nat) : Int))) ∧ Inv s' r ∧ G s' r = G s (a :: r)) ∨ body (mk s i) = some (.inr (G s (a :: r))))
    (he : ∀ s, Inv s [] → body (mk s (l.length : Nat)) = some (.inr (G s []))) : ∀ (r : List α) (k : Nat) (s : st), l.drop k = r → k ≤ l.length → Inv s r → lp body (mk s k) = some (G s r)
  | [], k, s, hd, hk, hi => by
    have : k = l.length := by
      have := congrArg List.length hd
      simp only [List.length_drop, List.length_nil] at this; omega
    subst this
    exact cR (he s hi)
  | a :: r, k, s, hd, hk, hi => by
    obtain ⟨h1, h2⟩ := drop_cons hd
    have hlt : k < l.length := (List.getElem?_eq_some_iff.1 h1).1
    rcases hn k a r s h1 hi with ⟨s', hb, hi', hg⟩ | hb
    · rw [eZ hb, WB mk G Inv hn he r (k + 1) s' h2 (by omega) hi', hg]
    · exact cR hb

theorem pV {α S st R : Type} {body : S → Option (S ⊕ R)} {l : List α} (mk : st → Int → S) (G : st → List α → R) (Inv : st → List α → Prop) (s : st)
    (hn : ∀ (i : Nat) a r s, l[i]? = some a → Inv s (a :: r) → (∃ s', body (mk s i) = some (.inl (mk s' ((i + 1 : Nat) : Int))) ∧ Inv s' r ∧ G s' r = G s (a :: r)) ∨ body (mk s i) = some (.inr (G s (a :: r))))
    (he : ∀ s, Inv s [] → body (mk s (l.length : Nat)) = some (.inr (G s []))) (hi : Inv s l) : lp body (mk s 0) = some (G s l) :=
  WB mk G Inv hn he l 0 s rfl (Nat.zero_le _) hi

theorem AR {α S R : Type} {body : S → Option (S ⊕ R)} {l : List α} (mk : Int → S) (bad : α → Bool) (x y : R)
    (hn : ∀ (i : Nat) a, l[i]? = some a → body (mk i) = some (if bad a then .inr x else .inl (mk ((i + 1 : Nat) : Int))))
    (he : body (mk (l.length : Nat)) = some (.inr y)) : lp body (mk 0) = some (if l.any bad then x else y) := by
  refine pV (st := Unit) (fun _ i => mk i) (fun _ r => if r.any bad then x else y) (fun _ _ => True) () ?_ ?_ trivial
  · intro i a r s ha _
    have hb := hn i a ha
    cases h : bad a
    · left; refine ⟨(), ?_, trivial, ?_⟩
      · simpa [h] using hb
      · simp [List.any_cons, h]
    · right; simpa [h, List.any_cons] using hb
  · intro _ _; simpa using he

end Go.Abs
namespace Go.Abs
open Go
variable {α : Type} [Inhabited α]
structure Cmp {β : Type} (ok : β → Prop) (le : β → β → Prop) (cmp : β → β → Option Int) : Prop where
  ans : ∀ x y, ok x → ok y → ∃ v, cmp x y = some v ∧ (v < 0 ↔ ¬ le y x)
  trans : ∀ x y z, ok x → ok y → ok z → le x y → le y z → le x z
  total : ∀ x y, ok x → ok y → le x y ∨ le y x

abbrev Srt {β : Type} (le : β → β → Prop) (l : List β) : Prop := l.Pairwise le

abbrev Oks {β : Type} (ok : β → Prop) (l : List β) : Prop := ∀ x ∈ l, ok x

section ins
variable {ok : α → Prop} {le : α → α → Prop} {cmp : α → α → Option Int}
end ins
end Go.Abs
namespace Go.Abs
open Go
variable {α : Type} [Inhabited α]
section sym
variable {ok : α → Prop} {le : α → α → Prop} {cmp : α → α → Option Int}
theorem Cmp.refl {β : Type} {ok : β → Prop} {le : β → β → Prop} {cmp : β → β → Option Int} (C : Cmp ok le cmp) {x : β} (h : ok x) : le x x := by rcases C.total x x h h with h | h <;> exact h

end sym
end Go.Abs
namespace Go.Abs
open Go
variable {α : Type} [Inhabited α] {ok : α → Prop} {le : α → α → Prop} {cmp : α → α → Option Int}
inductive IU {β : Type} (le : β → β → Prop) (n : Nat) : List β → Prop
  | last {l : List β} : l.length ≤ n → Srt le l → IU le n l
  | cons {x l : List β} : x.length = n → Srt le x → IU le n l → IU le n (x ++ l)

theorem IU.split {β : Type} {le : β → β → Prop} {n : Nat} {l : List β} (h : IU le n l) (hl : n < l.length) : ∃ x r, l = x ++ r ∧ x.length = n ∧ Srt le x ∧ IU le n r := by
  cases h with
  | last h' _ => omega
  | cons hx hs hr => exact ⟨_, _, rfl, hx, hs, hr⟩

theorem Oks.perm {β : Type} {ok : β → Prop} {l l' : List β} (h : Oks ok l) (hp : l'.Perm l) : Oks ok l' := fun x hx => h x (hp.mem_iff.1 hx)

end Go.Abs
namespace Go.Abs
open Go
structure aA7 where
  Row : (List aB)
  Span : dK
  deriving Inhabited, DecidableEq

structure aBb where
  Kind : Int
  Input : Int
  Edges : (List aK)
  At : Int
  deriving Inhabited, DecidableEq

end Go.Abs
namespace Go.Abs
open Go
def EL (n : Int) : Bool := decide (n ≤ 1048576) && decide (-1048576 ≤ n)

theorem aAd (n : Int) : xE n = some (EL n) := rfl

def nV (last : Int) (j : aI) : Bool := decide (j.At ≤ last) || decide (1125899906842624 ≤ j.At) || decide (j.Net = 0) || !EL j.Net

def chk (last : Int) : List aI → Bool
  | [] => true
  | j :: r => !nV last j && chk j.At r

def kA (f : List aI) : Bool := decide (f.length ≤ 1024) && chk (-2) f

theorem NG {f : List aI} {i : Nat} {a : aI} {last : Int} (ha : f[i]? = some a) (hl : f.length < 4611686018427387904) :
    lI f (f.length : Nat) last i = some (if nV last a then .inr (.inr false) else .inl (a.At, ((i + 1 : Nat) : Int))) := by
  obtain ⟨d1, d2, d3, d4⟩ := idx ha hl
  simp only [lI, d1, cond_true, aL d2, d3, d4, aAd]
  unfold nV
  cases h : (decide (a.At ≤ last) || decide (1125899906842624 ≤ a.At) || decide (a.Net = 0)) <;> cases h2 : EL a.Net <;> simp [dA]

theorem MB : ∀ (f : List aI) (last : Int), sA (fun last (j : aI) => some (if nV last j then .inr (.inr false) else .inl j.At)) (fun _ => (.inl () : Unit ⊕ Bool)) last f = some (if chk last f then .inl () else .inr false)
  | [], last => by simp [sA, chk]
  | j :: r, last => by
    cases h : nV last j
    · rw [GX (s' := j.At) (by simp [h])]
      rw [MB r j.At]
      simp [chk, h]
    · rw [HE (x := .inr false) (by simp [h])]
      simp [chk, h]

theorem GS (f : List aI) : nE f = some (kA f) := by
  unfold nE kA
  by_cases hl : f.length ≤ 1024
  · have h1 : decide ((1024 : Int) < ((f.length : Nat) : Int)) = false := by simp; omega
    rw [h1, cond_false]
    unfold xI
    have key := NF (l := f) (body := fun s : Int × Int => lI f (f.length : Nat) s.1 s.2) (fun last i => (last, i)) _ _
      (fun i a s ha => by
        constructor
        · intro s' hs
          show lI f (f.length : Nat) s i = _
          rw [NG ha (by omega)]
          split at hs <;> simp_all
        · intro x hs
          show lI f (f.length : Nat) s i = _
          rw [NG ha (by omega)]
          split at hs <;> simp_all)
      (fun s => by show lI f (f.length : Nat) s (f.length : Nat) = _; simp only [lI, gH, cond_false]) (MB f (-2))
    rw [key]
    cases h : chk (-2) f <;> simp [uB, hl]
  · have h1 : decide ((1024 : Int) < ((f.length : Nat) : Int)) = true := by simp; omega
    rw [h1, cond_true]
    simp [hl]

theorem kT {last : Int} {j : aI} : nV last j = false ↔ last < j.At ∧ j.At < 1125899906842624 ∧ j.Net ≠ 0 ∧ j.Net ≤ 1048576 ∧ -1048576 ≤ j.Net := by
  simp [nV, EL]
  omega

def rV (last : Int) : List aI → Prop
  | [] => True
  | j :: r => (last < j.At ∧ j.At < 1125899906842624 ∧ j.Net ≠ 0 ∧ j.Net ≤ 1048576 ∧ -1048576 ≤ j.Net) ∧ rV j.At r

theorem QU : ∀ {f : List aI} {last : Int}, chk last f = true ↔ rV last f
  | [], last => by simp [chk, rV]
  | j :: r, last => by simp [chk, rV, kT, QU]

theorem pT {f : List aI} : kA f = true ↔ f.length ≤ 1024 ∧ rV (-2) f := by simp [kA, QU]

theorem rV.above : ∀ {f : List aI} {last : Int}, rV last f → ∀ j ∈ f, last < j.At ∧ j.At < 1125899906842624 ∧ j.Net ≠ 0 ∧ j.Net ≤ 1048576 ∧ -1048576 ≤ j.Net
  | [], _, _, j, hj => by simp at hj
  | a :: r, last, h, j, hj => by
    rcases List.mem_cons.1 hj with rfl | hj
    · exact h.1
    · have := h.2.above j hj
      have h1 := h.1.1
      exact ⟨by omega, this.2⟩

def val (f : List aI) (t : Int) : Int := (f.map fun j => if j.At ≤ t then j.Net else 0).sum

theorem QH (t : Int) : val [] t = 0 := rfl

theorem kK (j : aI) (r : List aI) (t : Int) : val (j :: r) t = (if j.At ≤ t then j.Net else 0) + val r t := by simp [val]

theorem zU {f : List aI} {t : Int} (h : ∀ j ∈ f, t < j.At) : val f t = 0 := by
  induction f with
  | nil => rfl
  | cons j r ih =>
    rw [kK, ih (fun k hk => h k (List.mem_cons_of_mem _ hk))]
    have := h j (List.mem_cons_self ..)
    rw [if_neg (by omega)]; rfl

theorem QN {f : List aI} {i : Nat} {a : aI} {t v : Int} (ha : f[i]? = some a) (hl : f.length < 4611686018427387904) :
    mL t f (f.length : Nat) v i = some (if t < a.At then .inr v else .inl (IntKind.i64.wrap (v + a.Net), ((i + 1 : Nat) : Int))) := by
  obtain ⟨d1, d2, d3, d4⟩ := idx ha hl
  simp only [mL, d1, cond_true, aL d2, d3, d4]
  by_cases h : t < a.At <;> simp [h]

theorem ZP {t : Int} (f : List aI) : ∀ (last v : Int), rV last f → v ≤ 1048576 * (2048 - f.length) → -(1048576 * (2048 - f.length)) ≤ v → f.length ≤ 1024 →
    sA (fun v (j : aI) => some (if t < j.At then .inr v else .inl (IntKind.i64.wrap (v + j.Net)))) (fun v => (v : Int)) v f = some (v + val f t) := by
  induction f with
  | nil => intro last v _ _ _ _; simp [sA, val]
  | cons j r ih =>
    intro last v h h1 h2 hl
    simp only [List.length_cons] at h1 h2 hl
    by_cases hj : t < j.At
    · rw [HE (x := v) (by simp [hj])]
      rw [zU (fun k hk => by
        rcases List.mem_cons.1 hk with rfl | hk
        · exact hj
        · have := (h.2.above k hk).1; omega)]
      simp
    · have hj1 := h.1
      have hw : IntKind.i64.wrap (v + j.Net) = v + j.Net := gS (by omega) (by omega)
      rw [GX (s' := v + j.Net) (by simp [hj, hw])]
      rw [ih j.At (v + j.Net) h.2 (by omega) (by omega) (by omega), kK, if_pos (by omega)]
      congr 1
      omega

theorem YK (f : List aI) (t : Int) : xK f t = some (if kA f then val f t else 0) := by
  unfold xK
  rw [GS]
  simp only [Option.bind_some]
  cases h : kA f
  · simp
  · obtain ⟨hl, hr⟩ := pT.1 h
    simp only [Bool.not_true, cond_false, if_true]
    unfold yD
    have key := NF (l := f) (body := fun s : Int × Int => mL t f (f.length : Nat) s.1 s.2) (fun v i => (v, i)) _ _
      (fun i a s ha => by
        constructor
        · intro s' hs
          show mL t f (f.length : Nat) s i = _
          rw [QN ha (by omega)]
          split at hs <;> simp_all
        · intro x hs
          show mL t f (f.length : Nat) s i = _
          rw [QN ha (by omega)]
          split at hs <;> simp_all)
      (fun s => by show mL t f (f.length : Nat) s (f.length : Nat) = _; simp only [mL, gH, cond_false]) (ZP (t := t) f (-2) 0 hr (by omega) (by omega) hl)
    rw [key]
    simp [tG]

end Go.Abs
namespace Go.Abs
open Go
section both
variable {op : Int → Int → Option Int} {f g r : List aI} {out : List aI} {a b was t : Int} {j : aI}
end both
def emit (p v was : Int) : List aI := if v = was then [] else [⟨p, v - was⟩]

def YU (was : Int) : List (Int × Int) → List aI
  | [] => []
  | x :: r => emit x.1 x.2 was ++ YU x.2 r

def merge (f g : List aI) (a b : Int) : List (Int × Int × Int) :=
  match f, g with
  | [], [] => []
  | j :: f, [] => (j.At, a + j.Net, b) :: merge f [] (a + j.Net) b
  | [], k :: g => (k.At, a, b + k.Net) :: merge [] g a (b + k.Net)
  | j :: f, k :: g =>
    if j.At < k.At then (j.At, a + j.Net, b) :: merge f (k :: g) (a + j.Net) b
    else if k.At < j.At then (k.At, a, b + k.Net) :: merge (j :: f) g a (b + k.Net)
    else (j.At, a + j.Net, b + k.Net) :: merge f g (a + j.Net) (b + k.Net)

termination_by f.length + g.length
end Go.Abs
namespace Go.Abs
open Go
def comb (OP : Int → Int → Int) (f g : List aI) : List aI := YU 0 ((merge f g 0 0).map fun x => (x.1, OP x.2.1 x.2.2))

def told (f : List aI) : List aI × Int := if kA f then (f, 0) else ([], 7)

def two (OP : Int → Int → Int) (f g : List aI) : List aI × Int := if kA f && kA g then told (comb OP f g) else ([], 2)

end Go.Abs
namespace Go.Abs
open Go
theorem rV.yR {l t : Int} {f : List aI} (h : rV l f) (ht : t ≤ l) : val f t = 0 := zU fun j hj => by have := (h.above j hj).1; omega

end Go.Abs
namespace Go.Abs
open Go
def tV (f : List aI) : Nat → Int
  | 0 => -2
  | k + 1 => (f.getD k default).At

theorem PL {f : List aI} {i : Nat} {a : aI} {last : Int} (ha : f[i]? = some a) (hl : f.length ≤ 1024) (hlast : last = tV f i) (hp : -2 ≤ last) (hp' : 0 < i → -1 ≤ last) :
    kR f i = some (if nV last a then .inr (.inr false) else .inl ((i + 1 : Nat) : Int)) := by
  obtain ⟨d1, d2, d3, d4⟩ := idx ha (by omega)
  have hlt : i < f.length := (List.getElem?_eq_some_iff.1 ha).1
  simp only [kR, d1, cond_true, d3, d4]
  rw [aL d2, aL (fun _ => d2), aL (fun _ => d2), aL (fun _ => d2), aL (fun _ => d2), aL (fun _ => d2)]
  cases i with
  | zero =>
    rw [aL (fun h => by simp at h)]
    have hm2 : last = -2 := hlast
    subst hm2
    by_cases hb : nV (-2) a = true
    · rw [if_pos hb]
      have hx : (((((decide (a.At < -1)) || (decide (1125899906842624 ≤ a.At))) || (decide (a.Net = 0))) || (decide (1048576 < a.Net))) || (decide (a.Net < -1048576))) = true := by
        simp [nV, EL] at hb ⊢; omega
      rw [hx, cond_true]
    · have hb' : nV (-2) a = false := by simpa using hb
      rw [if_neg hb]
      rw [kT] at hb'
      have hx : (((((decide (a.At < -1)) || (decide (1125899906842624 ≤ a.At))) || (decide (a.Net = 0))) || (decide (1048576 < a.Net))) || (decide (a.Net < -1048576))) = false := by
        simp; omega
      rw [hx, cond_false]
      simp
  | succ k =>
    have hw : IntKind.i64.wrap (((k + 1 : Nat) : Int) - 1) = (k : Int) := by rw [gS (by omega) (by omega)]; omega
    have hg : List.getD f (Int.toNat (k : Int)) default = f.getD k default := by rw [Int.toNat_natCast]
    rw [hw, hg, aL (fun _ => ⟨by omega, by omega⟩)]
    have hpos : decide ((0 : Int) < ((k + 1 : Nat) : Int)) = true := by simp
    have hp1 := hp' (by omega)
    have hl2 : (f.getD k default).At = last := hlast.symm
    rw [hpos, Bool.true_and, hl2]
    by_cases hb : nV last a = true
    · rw [if_pos hb]
      by_cases hx : (((((decide (a.At < -1)) || (decide (1125899906842624 ≤ a.At))) || (decide (a.Net = 0))) || (decide (1048576 < a.Net))) || (decide (a.Net < -1048576))) = true
      · rw [hx, cond_true]
      · have hx' : (((((decide (a.At < -1)) || (decide (1125899906842624 ≤ a.At))) || (decide (a.Net = 0))) || (decide (1048576 < a.Net))) || (decide (a.Net < -1048576))) = false := by simpa using hx
        have hy : decide (a.At ≤ last) = true := by
          simp [nV, EL] at hb hx' ⊢; omega
        rw [hx', cond_false, hy, cond_true]
    · have hb' : nV last a = false := by simpa using hb
      rw [if_neg hb]
      rw [kT] at hb'
      have hx : (((((decide (a.At < -1)) || (decide (1125899906842624 ≤ a.At))) || (decide (a.Net = 0))) || (decide (1048576 < a.Net))) || (decide (a.Net < -1048576))) = false := by
        simp; omega
      have hy : decide (a.At ≤ last) = false := by simp; omega
      rw [hx, cond_false, hy, cond_false]

theorem KI {f : List aI} (hl : f.length ≤ 1024) : ∀ (m k : Nat), f.length - k = m → k ≤ f.length → -2 ≤ tV f k → (0 < k → -1 ≤ tV f k) → lp (fun s => kR f s) (k : Int) = some (if chk (tV f k) (f.drop k) = true then .inl () else .inr false)
  | 0, k, hm, hk, _, _ => by
    have : k = f.length := by omega
    subst this
    rw [List.drop_length]
    refine cR ?_
    show kR f _ = _
    simp [kR, chk]
  | m + 1, k, hm, hk, hp, hp' => by
    have h1 : k < f.length := by omega
    have hb := PL (List.getElem?_eq_getElem h1) hl rfl hp hp'
    have e1 : f.drop k = f[k] :: f.drop (k + 1) := List.drop_eq_getElem_cons h1
    have hpa : tV f (k + 1) = f[k].At := by simp [tV, List.getD_eq_getElem?_getD, h1]
    rw [e1]
    by_cases h : nV (tV f k) f[k] = true
    · rw [if_pos h] at hb
      rw [cR (show (fun s => kR f s) (k : Int) = _ from hb)]
      simp [chk, h]
    · rw [if_neg h] at hb
      have h' : nV (tV f k) f[k] = false := by simpa using h
      have := kT.1 h'
      rw [eZ (show (fun s => kR f s) (k : Int) = _ from hb), KI hl m (k + 1) (by omega) (by omega) (by rw [hpa]; omega) (fun _ => by rw [hpa]; omega), hpa]
      simp [chk, h']

theorem JZ (f : List aI) : oW f = some (kA f) := by
  unfold oW kA
  by_cases hl : f.length ≤ 1024
  · have h1 : decide ((1024 : Int) < ((f.length : Nat) : Int)) = false := by simp; omega
    rw [h1, cond_false]
    unfold vX
    have := KI hl f.length 0 rfl (Nat.zero_le _) (by simp [tV]) (by omega)
    simp only [Int.natCast_zero, List.drop_zero, tV] at this
    rw [this]
    cases h : chk (-2) f <;> simp [sS, hl]
  · have h1 : decide ((1024 : Int) < ((f.length : Nat) : Int)) = true := by simp; omega
    rw [h1, cond_true]
    simp [hl]

end Go.Abs
namespace Go.Abs
open Go
def aAD (f : List aI) : Int := (f.map aI.Net).sum

def XW (t : Int) : List aI → List aI
  | [] => []
  | j :: r => if t ≤ j.At then [] else j :: XW t r

def aft (t : Int) : List aI → List aI
  | [] => []
  | j :: r => if t ≤ j.At then j :: r else aft t r

end Go.Abs
namespace Go.Abs
open Go
def aAZ (t : Int) (f : List aI) : List aI := (if aAD (XW t f) = 0 then [] else [⟨-1, aAD (XW t f)⟩]) ++ aft t f

def rest (f : List aI) (t : Int) : List aI × Int :=
  if kA f then (if 1125899906842624 ≤ t then ([], 0) else if t ≤ -1 then (f, 0) else told (aAZ t f)) else ([], 2)

end Go.Abs
namespace Go.Abs
open Go
def Up (last : Int) : List aI → Prop
  | [] => True
  | j :: r => (last < j.At ∧ j.At < 1125899906842624 ∧ j.Net ≠ 0) ∧ Up j.At r

theorem Up.above : ∀ {f : List aI} {last : Int}, Up last f → ∀ j ∈ f, last < j.At ∧ j.At < 1125899906842624 ∧ j.Net ≠ 0
  | [], _, _, j, hj => by simp at hj
  | a :: r, last, h, j, hj => by
    rcases List.mem_cons.1 hj with rfl | hj
    · exact h.1
    · have := h.2.above j hj
      have h1 := h.1.1
      exact ⟨by omega, this.2⟩

theorem Up.yR {l t : Int} {f : List aI} (h : Up l f) (ht : t ≤ l) : val f t = 0 := zU fun j hj => by have := (h.above j hj).1; omega

theorem Up.weaken {a b : Int} {f : List aI} (h : Up b f) (hab : a ≤ b) : Up a f := by
  cases f with
  | nil => trivial
  | cons j r => exact ⟨⟨by have := h.1.1; omega, h.1.2⟩, h.2⟩

theorem rV.up : ∀ {f : List aI} {last : Int}, rV last f → Up last f
  | [], _, _ => trivial
  | _ :: _, _, h => ⟨⟨h.1.1, h.1.2.1, h.1.2.2.1⟩, h.2.up⟩

theorem Up.ext : ∀ {f g : List aI} {last : Int}, Up last f → Up last g → (∀ t, last < t → t < 1125899906842624 → val f t = val g t) → f = g
  | [], [], _, _, _, _ => rfl
  | j :: r, [], last, hf, _, h => by
    have := h j.At hf.1.1 hf.1.2.1
    rw [kK, if_pos (Int.le_refl _), hf.2.yR (Int.le_refl _), QH] at this
    exact absurd (by omega) hf.1.2.2
  | [], k :: s, last, _, hg, h => by
    have := h k.At hg.1.1 hg.1.2.1
    rw [kK, if_pos (Int.le_refl _), hg.2.yR (Int.le_refl _), QH] at this
    exact absurd (by omega) hg.1.2.2
  | j :: r, k :: s, last, hf, hg, h => by
    have h1 := h j.At hf.1.1 hf.1.2.1
    have h2 := h k.At hg.1.1 hg.1.2.1
    rw [kK, if_pos (Int.le_refl _), hf.2.yR (Int.le_refl _), kK] at h1
    rw [kK, kK k, if_pos (Int.le_refl _), hg.2.yR (Int.le_refl _)] at h2
    have n1 := hf.1.2.2
    have n2 := hg.1.2.2
    have he : j.At = k.At := by
      rcases Int.lt_trichotomy j.At k.At with h3 | h3 | h3
      · rw [if_neg (by omega), hg.2.yR (by omega)] at h1; omega
      · exact h3
      · rw [if_neg (by omega), hf.2.yR (by omega)] at h2; omega
    rw [if_pos (by omega), hg.2.yR (by omega)] at h1
    have hj : j = k := by
      obtain ⟨a, b⟩ := j; obtain ⟨c, d⟩ := k
      simp only at he h1
      simp only [Int.add_zero] at h1
      rw [he, h1]
    subst hj
    rw [hf.2.ext hg.2 (fun t ht ht' => by
      have := h t (by have := hf.1.1; omega) ht'
      rw [kK, kK] at this; omega)]

def Inc (last : Int) : List Int → Prop
  | [] => True
  | p :: r => (last < p ∧ p < 1125899906842624) ∧ Inc p r

theorem Inc.above : ∀ {ps : List Int} {last : Int}, Inc last ps → ∀ p ∈ ps, last < p ∧ p < 1125899906842624
  | [], _, _, j, hj => by simp at hj
  | a :: r, last, h, j, hj => by
    rcases List.mem_cons.1 hj with rfl | hj
    · exact h.1
    · have := h.2.above j hj
      have h1 := h.1.1
      exact ⟨by omega, this.2⟩

end Go.Abs
namespace Go.Abs
open Go
theorem OS {f : List aI} (t : Int) (hb : ∀ j ∈ f, j.Net ≤ 1048576 ∧ -1048576 ≤ j.Net) (hl : f.length ≤ 1099511627776) : kV f t = some (val f t) := by
  unfold kV tN
  rw [pV (l := f) (body := fun s : Int × Int => jI f t s.1 s.2) (fun v i => (v, i)) (fun v r => v + val r t)
    (fun v r => (∀ j ∈ r, j.Net ≤ 1048576 ∧ -1048576 ≤ j.Net) ∧ r.length ≤ 1099511627776 ∧ v ≤ 1048576 * (1099511627776 - r.length) ∧ -(1048576 * (1099511627776 - r.length)) ≤ v) 0 ?_ ?_ ?_]
  · simp [pZ]
  · intro i a r v ha ⟨h1, h2, h3, h4⟩
    obtain ⟨d1, d2, d3, d4⟩ := idx ha (by omega)
    have hj := h1 a (List.mem_cons_self ..)
    simp only [List.length_cons] at h2 h3 h4
    left
    by_cases h : a.At ≤ t
    · refine ⟨v + a.Net, ?_, ⟨fun j hj => h1 j (List.mem_cons_of_mem _ hj), by omega, by omega, by omega⟩, ?_⟩
      · show jI f t v i = _
        have hw : IntKind.i64.wrap (v + a.Net) = v + a.Net := gS (by omega) (by omega)
        simp only [jI, nK, d1, cond_true, aL d2, d3, d4, h, decide_true, hw]
      · show v + a.Net + val r t = v + val (a :: r) t
        rw [kK, if_pos h]; omega
    · refine ⟨v, ?_, ⟨fun j hj => h1 j (List.mem_cons_of_mem _ hj), by omega, by omega, by omega⟩, ?_⟩
      · show jI f t v i = _
        simp only [jI, nK, d1, cond_true, aL d2, d3, d4, h, decide_false, cond_false]
      · show v + val r t = v + val (a :: r) t
        rw [kK, if_neg h]; omega
  · intro s _
    show jI f t s (f.length : Nat) = _
    simp only [jI, gH, cond_false]
    simp [val]
  · exact ⟨hb, hl, by omega, by omega⟩

theorem NM {f : List aI} (h : kA f = true) : ∀ j ∈ f, j.Net ≤ 1048576 ∧ -1048576 ≤ j.Net := fun j hj => by have := (pT.1 h).2.above j hj; omega

theorem vJ {f : List aI} (h : kA f = true) (t : Int) : kV f t = some (val f t) :=
  OS t (NM h) (by have := (pT.1 h).1; omega)

def mM (t : Int) : List Int → List Int
  | [] => [t]
  | p :: r => if p = t then p :: r else if t < p then t :: p :: r else p :: mM t r

theorem DV {t : Int} : ∀ {ps : List Int} {last : Int}, Inc last ps → last < t → t < 1125899906842624 → Inc last (mM t ps)
  | [], last, _, h1, h2 => ⟨⟨h1, h2⟩, trivial⟩
  | p :: r, last, h, h1, h2 => by
    unfold mM
    split
    · exact h
    · split
      · rename_i h3 h4
        exact ⟨⟨h1, h2⟩, ⟨h4, h.1.2⟩, h.2⟩
      · exact ⟨h.1, DV h.2 (by omega) h2⟩

theorem DY {t : Int} : ∀ {ps : List Int}, (mM t ps).length ≤ ps.length + 1
  | [] => by simp [mM]
  | p :: r => by
    unfold mM
    split
    · simp
    · split
      · simp
      · simp only [List.length_cons]; have := DY (t := t) (ps := r); omega

theorem DT {t : Int} : ∀ {ps : List Int}, (∀ x ∈ ps, x < t) → mM t ps = ps ++ [t]
  | [], _ => rfl
  | p :: r, h => by
    have := h p (List.mem_cons_self ..)
    unfold mM
    rw [if_neg (by omega), if_neg (by omega), DT (fun x hx => h x (List.mem_cons_of_mem _ hx))]; rfl

theorem BO {t : Int} : ∀ {ps : List Int} {last : Int}, Inc last ps → t ∈ ps → mM t ps = ps
  | [], _, _, h => by simp at h
  | p :: r, last, hi, h => by
    unfold mM
    split
    · rfl
    · rename_i hp
      rcases List.mem_cons.1 h with h | h
      · exact absurd h.symm hp
      · have := (hi.2.above t h).1
        rw [if_neg (by omega), BO hi.2 h]

theorem VA {l out : List Int} {t a : Int} {put : Bool} {i : Nat} (ha : l[i]? = some a) (hl : l.length ≤ 1099511627776) (ho : out.length ≤ 2199023255552) :
    iV l t out put i = some (if a = t then .inr (.inr l) else if t < a ∧ put = false then .inl (out ++ [t] ++ [a], true, ((i + 1 : Nat) : Int)) else .inl (out ++ [a], put, ((i + 1 : Nat) : Int))) := by
  obtain ⟨d1, d2, d3, d4⟩ := idx ha (by omega)
  simp only [iV, rG, d1, cond_true, aL d2, d3, d4]
  by_cases h1 : a = t
  · simp [h1]
  · rw [decide_eq_false h1, cond_false, if_neg h1]
    by_cases h2 : t < a
    · cases put
      · simp only [h2, decide_true, Bool.not_false, Bool.and_self, cond_true, and_self, if_true]
        rw [aL (by simp only [List.length_cons, List.length_nil]; omega), aL (by simp only [List.length_append, List.length_cons, List.length_nil]; omega)]
      · simp only [h2, decide_true, Bool.not_true, Bool.and_false, cond_false, and_false, if_false, reduceCtorEq]
        rw [aL (by simp only [List.length_cons, List.length_nil]; omega)]
    · simp only [h2, decide_false, Bool.false_and, cond_false, false_and, if_false]
      rw [aL (by simp only [List.length_cons, List.length_nil]; omega)]

theorem ZB {l : List Int} {last t : Int} (hi : Inc last l) (hl : l.length ≤ 1099511627776) : sV l t = some (mM t l) := by
  unfold sV uS
  rw [pV (l := l) (body := fun s : List Int × Bool × Int => iV l t s.1 s.2.1 s.2.2) (fun (s : List Int × Bool) i => (s.1, s.2, i))
    (fun s r => if s.2 then .inl (s.1 ++ r, true) else if t ∈ r then .inr l else if (∃ x ∈ r, t < x) then .inl (s.1 ++ mM t r, true) else .inl (s.1 ++ r, false))
    (fun s r => (∃ m, Inc m r) ∧ (s.2 = true → ∀ x ∈ r, t < x) ∧ r.length ≤ 1099511627776 ∧ s.1.length + r.length ≤ 1099511627777 + (if s.2 then 1 else 0)) ([], false) ?_ ?_ ?_]
  · simp only [Bool.false_eq_true, if_false, List.nil_append, Option.bind_some]
    by_cases h1 : t ∈ l
    · simp [h1, BO hi h1]
    · simp only [h1, if_false]
      by_cases h2 : ∃ x ∈ l, t < x
      · simp only [h2, if_true]
        simp [oC, oF]
      · simp only [h2, if_false]
        have : ∀ x ∈ l, x < t := fun x hx => by
          have h3 : ¬ t < x := fun h => h2 ⟨x, hx, h⟩
          have h4 : x ≠ t := fun h => h1 (h ▸ hx)
          omega
        rw [DT this]
        simp only [Sum.elim_inl, oC, oF, Bool.not_false, cond_true]
        rw [aL (by simp only [List.length_cons, List.length_nil]; omega)]
  · rintro i a r ⟨out, put⟩ ha ⟨⟨m, hm⟩, h1, h2, h3⟩
    simp only [List.length_cons] at h2 h3
    have hb := VA (t := t) (put := put) (out := out) ha hl (by split at h3 <;> omega)
    have hab : ∀ x ∈ r, a < x := fun x hx => (hm.2.above x hx).1
    cases put
    · by_cases e : a = t
      · right
        show iV l t out false i = _
        rw [hb]; simp [e]
      · left
        by_cases e2 : t < a
        · have hnt : t ∉ a :: r := fun h => by
            rcases List.mem_cons.1 h with h | h
            · exact e h.symm
            · have := hab t h; omega
          refine ⟨(out ++ [t] ++ [a], true), ?_, ⟨⟨a, hm.2⟩, fun _ x hx => by have := hab x hx; omega, by omega, by simp only [List.length_append, List.length_cons, List.length_nil, Bool.false_eq_true, if_false, if_true] at h3 ⊢; omega⟩, ?_⟩
          · show iV l t out false i = _
            rw [hb]; simp [e, e2]
          · have hex : ∃ x ∈ a :: r, t < x := ⟨a, List.mem_cons_self .., e2⟩
            simp only [if_true, Bool.false_eq_true, if_false, hnt, hex]
            simp [mM, e, e2]
        · refine ⟨(out ++ [a], false), ?_, ⟨⟨a, hm.2⟩, fun h => absurd h (by simp), by omega, by simp only [List.length_append, List.length_cons, List.length_nil, Bool.false_eq_true, if_false] at h3 ⊢; omega⟩, ?_⟩
          · show iV l t out false i = _
            rw [hb]; simp [e, e2]
          · have i1 : (t ∈ a :: r) ↔ t ∈ r := by simp only [List.mem_cons]; constructor; (intro h; rcases h with h | h; exact absurd h.symm e; exact h); exact Or.inr
            have i2 : (∃ x ∈ a :: r, t < x) ↔ (∃ x ∈ r, t < x) := by
              constructor
              · rintro ⟨x, hx, hx'⟩
                rcases List.mem_cons.1 hx with rfl | hx
                · exact absurd hx' e2
                · exact ⟨x, hx, hx'⟩
              · rintro ⟨x, hx, hx'⟩; exact ⟨x, List.mem_cons_of_mem _ hx, hx'⟩
            simp only [Bool.false_eq_true, if_false, i1, i2]
            simp [mM, e, e2]
    · left
      have ht := h1 rfl a (List.mem_cons_self ..)
      refine ⟨(out ++ [a], true), ?_, ⟨⟨a, hm.2⟩, fun _ x hx => h1 rfl x (List.mem_cons_of_mem _ hx), by omega, by simp only [List.length_append, List.length_cons, List.length_nil, if_true] at h3 ⊢; omega⟩, ?_⟩
      · show iV l t out true i = _
        have : a ≠ t := by omega
        rw [hb]; simp [this]
      · simp
  · rintro ⟨out, put⟩ _
    show iV l t out put (l.length : Nat) = _
    simp only [iV, gH, cond_false]
    cases put <;> simp
  · exact ⟨⟨last, hi⟩, fun h => absurd h (by simp), hl, by simp only [List.length_nil]; simp; omega⟩

end Go.Abs
namespace Go.Abs
open Go
def mn (a b : Int) : Int := if b < a then b else a

def parts (v : Int) : List aI → List Int
  | [] => []
  | j :: r => (v + j.Net) :: parts (v + j.Net) r

def sX (f : List aI) : Int := (f.map fun j => val f j.At).foldl mn (val f (-1))

theorem parts_eq : ∀ {f : List aI} {l v : Int}, rV l f → parts v f = f.map fun j => v + val f j.At
  | [], _, _, _ => rfl
  | j :: r, l, v, h => by
    simp only [parts, List.map_cons]
    rw [parts_eq h.2, kK, if_pos (Int.le_refl _), h.2.yR (Int.le_refl _), Int.add_zero]
    congr 1
    apply List.map_congr_left
    intro k hk
    have := (h.2.above k hk).1
    rw [kK, if_pos (by omega)]; omega

theorem UE {j : aI} {r : List aI} (h : rV (-2) (j :: r)) : val (j :: r) (-1) = if j.At = -1 then j.Net else 0 := by
  have := h.1.1
  by_cases e : j.At = -1
  · rw [if_pos e, kK, if_pos (by omega), h.2.yR (by omega)]; omega
  · rw [if_neg e, zU]
    intro k hk
    rcases List.mem_cons.1 hk with rfl | hk
    · omega
    · have := (h.2.above k hk).1; omega

theorem IF {f : List aI} (hf : kA f = true) (m : Int) (hm : -1125899906842624 ≤ m ∧ m ≤ 1125899906842624) : rB 0 m f (f.length : Nat) 0 = some ((f.map fun j => val f j.At).foldl mn m) := by
  obtain ⟨hl, hr⟩ := pT.1 hf
  unfold rB
  rw [pV (l := f) (body := fun s : Int × Int × Int => lT f (f.length : Nat) s.1 s.2.1 s.2.2) (fun (s : Int × Int) i => (s.1, s.2, i)) (fun s r => (parts s.1 r).foldl mn s.2)
    (fun s r => (∀ j ∈ r, j.Net ≤ 1048576 ∧ -1048576 ≤ j.Net) ∧ r.length ≤ 1024 ∧ s.1 ≤ 1048576 * (1024 - r.length) ∧ -(1048576 * (1024 - r.length)) ≤ s.1) (0, m) ?_ ?_ ?_]
  · simp only [Option.bind_some, rA, parts_eq hr, Int.zero_add]
  · rintro i a r ⟨v, m⟩ ha ⟨h1, h2, h3, h4⟩
    obtain ⟨d1, d2, d3, d4⟩ := idx ha (by omega)
    have hj := h1 a (List.mem_cons_self ..)
    simp only [List.length_cons] at h2 h3 h4
    have hw : IntKind.i64.wrap (v + a.Net) = v + a.Net := gS (by omega) (by omega)
    left
    refine ⟨(v + a.Net, mn m (v + a.Net)), ?_, ⟨fun j hj => h1 j (List.mem_cons_of_mem _ hj), by omega, by simp only; omega, by simp only; omega⟩, rfl⟩
    show lT f (f.length : Nat) v m i = _
    simp only [lT, d1, cond_true, aL d2, d3, d4, hw, mn]
  · rintro ⟨v, m⟩ _
    show lT f (f.length : Nat) v m (f.length : Nat) = _
    simp only [lT, gH, cond_false, parts, List.foldl_nil]
  · exact ⟨NM hf, hl, by simp only; omega, by simp only; omega⟩

theorem XA (f : List aI) : sQ f = some (if kA f then sX f else 0) := by
  unfold sQ
  rw [GS]
  cases h : kA f
  · simp
  · cases f with
    | nil => simp [sX, val]
    | cons j r =>
      obtain ⟨hl, hr⟩ := pT.1 h
      have hne : decide (((List.length (j :: r) : Nat) : Int) = 0) = false := by simp; omega
      simp only [Option.bind_some, Bool.not_true, Bool.false_or, hne, cond_false, aL aA8, aAm, if_true]
      have hj := hr.1
      unfold sX
      rw [UE hr]
      by_cases e : j.At = -1
      · simp only [e, decide_true, cond_true, if_true, oB]
        exact IF h j.Net (by omega)
      · simp only [e, decide_false, cond_false, if_false, oB]
        exact IF h 0 (by omega)

theorem PF (f : List aI) : qQ f = some (if kA f then sX f else 0) := by
  unfold qQ
  rw [JZ]
  cases h : kA f
  · simp
  · obtain ⟨hl, hr⟩ := pT.1 h
    simp only [Option.bind_some, Bool.not_true, cond_false, vJ h, if_true, tJ]
    rw [pV (l := f) (body := fun s : Int × Int => lE f s.1 s.2) (fun m i => (m, i)) (fun m r => (r.map fun j => val f j.At).foldl mn m) (fun _ _ => True) (val f (-1)) ?_ ?_ trivial]
    · simp [pL, sX]
    · rintro i a r m ha _
      obtain ⟨d1, d2, d3, d4⟩ := idx ha (by omega)
      left
      refine ⟨mn m (val f a.At), ?_, trivial, rfl⟩
      show lE f m i = _
      simp only [lE, pX, d1, cond_true, aL d2, d3, d4, vJ h, Option.bind_some, mn]
      by_cases e : val f a.At < m <;> simp [e]
    · intro m _
      show lE f m (f.length : Nat) = _
      simp only [lE, gH, cond_false, List.map_nil, List.foldl_nil]

theorem aAe : kA [] = true := by decide

end Go.Abs
namespace Go.Abs
open Go
theorem w1 : IntKind.i64.wrap (0 + 1) = 1 := by rw [gS] <;> omega

theorem w2 : IntKind.i64.wrap (1 + 1) = 2 := by rw [gS] <;> omega

theorem w3 : IntKind.i64.wrap (1 - 1) = 0 := by rw [gS] <;> omega

theorem v0 : IntKind.i64.wrap 0 = 0 := by rw [gS] <;> omega

theorem v1 : IntKind.i64.wrap 1 = 1 := by rw [gS] <;> omega

theorem v2 : IntKind.i64.wrap 2 = 2 := by rw [gS] <;> omega

theorem v3 : IntKind.i64.wrap (-1) = -1 := by rw [gS] <;> omega

end Go.Abs
namespace Go.Abs
open Go
variable {α : Type} [Inhabited α]
noncomputable def nJ (f1 : α → Option Bool) (s0 : (List α)) (t7 : Int) (t8 : Int) : Option ((Int) ⊕ (Unit ⊕ Int)) :=
  cond (decide (t8 < t7))
  (aZ (0 ≤ t8 ∧ t8 < ((List.length s0 : Nat) : Int)) <|
  (f1 (List.getD s0 (Int.toNat t8) default)).bind fun x2 =>
  cond x2
  (some (.inr (.inr t8)))
  (some (.inl (IntKind.i64.wrap (t8 + (1 : Int))))))
  (some (.inr (.inl ())))

theorem OA {l : List α} {f : α → Option Bool} {g : α → Bool} (hl : l.length ≤ 1099511627776) (hf : ∀ x ∈ l, f x = some (g x)) : ∀ (r : List α) (k : Nat), l.drop k = r → k ≤ l.length →
    ∃ x, lp (fun s => nJ f l (l.length : Nat) s) (k : Int) = some x ∧ ((x = .inl () ∧ r.any g = false) ∨ (∃ i : Nat, x = .inr (i : Int) ∧ k ≤ i ∧ i < l.length ∧ r.any g = true ∧ g (l.getD i default) = true ∧ ∀ j, k ≤ j → j < i → g (l.getD j default) = false))
  | [], k, hd, hk => by
    have : k = l.length := by
      have := congrArg List.length hd
      simp only [List.length_drop, List.length_nil] at this; omega
    subst this
    refine ⟨.inl (), cR ?_, Or.inl ⟨rfl, rfl⟩⟩
    show nJ f l _ _ = _
    simp only [nJ, gH, cond_false]
  | a :: r, k, hd, hk => by
    obtain ⟨h1, h2⟩ := drop_cons hd
    have hlt : k < l.length := (List.getElem?_eq_some_iff.1 h1).1
    obtain ⟨d1, d2, d3, d4⟩ := idx h1 (by omega)
    have hga : l.getD k default = a := by rw [Int.toNat_natCast] at d3; exact d3
    have hb : (fun s => nJ f l (l.length : Nat) s) (k : Int) = some (if g a then .inr (.inr (k : Int)) else .inl ((k + 1 : Nat) : Int)) := by
      show nJ f l _ _ = _
      simp only [nJ, d1, cond_true, aL d2, d3, d4, hf a (List.mem_of_getElem? h1), Option.bind_some]
      cases g a <;> simp
    cases hg : g a
    · rw [hg] at hb
      obtain ⟨x, e, hx⟩ := OA hl hf r (k + 1) h2 (by omega)
      refine ⟨x, by rw [eZ hb]; exact e, ?_⟩
      rcases hx with ⟨rfl, h⟩ | ⟨i, rfl, h3, h4, h5, h6, h7⟩
      · exact Or.inl ⟨rfl, by simp [hg, h]⟩
      · refine Or.inr ⟨i, rfl, by omega, h4, by simp [h5], h6, fun j hj hj' => ?_⟩
        by_cases e : j = k
        · subst e; rw [hga, hg]
        · exact h7 j (by omega) hj'
    · rw [hg] at hb
      exact ⟨.inr (k : Int), cR hb, Or.inr ⟨k, rfl, Nat.le_refl _, hlt, by simp [hg], by rw [hga, hg], fun j h h' => by omega⟩⟩

end Go.Abs
namespace Go.Abs
open Go
theorem KJ (x y : ByteArray) : mI x y = decide (x = y) := by
  unfold mI
  rw [ByteArray.toList_eq, ByteArray.toList_eq]
  by_cases h : x = y
  · simp [h]
  · have : x.data.toList ≠ y.data.toList := by
      intro he
      apply h
      cases x; cases y
      congr 1
      exact Array.toList_inj.1 he
    have h2 : (x.data.toList == y.data.toList) = false := by simpa using this
    rw [h2]; simp [h]

theorem veq (a b : aB) : ((decide (a.Kind = b.Kind)) && ((decide (a.Num = b.Num)) && ((mI a.Text b.Text) && true))) = decide (a = b) := by
  rw [KJ]
  obtain ⟨a1, a2, a3⟩ := a
  obtain ⟨b1, b2, b3⟩ := b
  by_cases h1 : a1 = b1 <;> by_cases h2 : a2 = b2 <;> by_cases h3 : a3 = b3 <;> simp [h1, h2, h3]

def AH (v : aB) : Bool := decide (v.Kind = 1) && mI v.Text (⟨#[]⟩ : ByteArray)

def AA (v : aB) : Bool := ((decide (v.Kind = 2)) && (decide (v.Num = 0))) && (decide (((ByteArray.size v.Text : Nat) : Int) ≤ 64))

def qK (v : aB) : Bool := AH v || AA v

def jM (r : List aB) : Bool := decide (r.length ≤ 8) && r.all qK

theorem of_eq (v : aB) : kY v = some (if AH v then (.k_number v.Num, true) else if AA v then (.k_words v.Text, true) else (.none_, false)) := by
  unfold kY AH AA
  cases (decide (v.Kind = 1) && mI v.Text (⟨#[]⟩ : ByteArray)) <;> cases (((decide (v.Kind = 2)) && (decide (v.Num = 0))) && (decide (((ByteArray.size v.Text : Nat) : Int) ≤ 64))) <;> rfl

theorem ZT (v : aB) : uC v = some (qK v) := by
  unfold uC qK
  rw [of_eq]
  cases AH v <;> cases AA v <;> rfl

theorem II (v : aB) : oV v = some (qK v) := by
  unfold oV qK AH AA
  by_cases h : v.Kind = 1
  · simp [h]
  · simp [h]

theorem NQ {l : List aB} {f : aB → Option Bool} {g : aB → Bool} (hl : l.length ≤ 1099511627776) (hf : ∀ x ∈ l, f x = some (g x)) : eW l f = some (l.any g) := by
  unfold eW iB gX
  obtain ⟨x, e, hx⟩ := OA hl hf l 0 rfl (Nat.zero_le _)
  have e' : lp (fun s => gW f l (l.length : Nat) s) 0 = some x := e
  rw [e']
  rcases hx with ⟨rfl, h⟩ | ⟨i, rfl, _, _, h, _⟩
  · simp [fF, h]
  · simp [h]

theorem IY (r : List aB) : sJ r = some (jM r) := by
  unfold sJ jM
  by_cases h : r.length ≤ 8
  · have h1 : decide ((8 : Int) < ((r.length : Nat) : Int)) = false := by simp; omega
    rw [h1, cond_false, NQ (g := fun v => !qK v) (by omega) (fun x _ => by simp [tY, ZT])]
    simp only [Option.bind_some, h, decide_true, Bool.true_and]
    congr 1
    rw [List.all_eq_not_any_not]
  · have h1 : decide ((8 : Int) < ((r.length : Nat) : Int)) = true := by simp; omega
    rw [h1, cond_true]
    simp [h]

theorem BE (r : List aB) (hl : r.length ≤ 1099511627776 * 16) : oS r = some (jM r) := by
  unfold oS wK
  have hl9 : (r.take 9).length ≤ 9 := by simp; omega
  rw [AR (l := r.take 9) (fun i => i) (fun v => !qK v) (.inr false) (.inl ()) ?_ ?_]
  · unfold jM
    by_cases h : r.length ≤ 8
    · have ht : r.take 9 = r := List.take_of_length_le (by omega)
      rw [ht, List.all_eq_not_any_not]
      cases h1 : (r.any fun v => !qK v)
      · have : ((r.length : Nat) : Int) ≤ 8 := by omega
        simp [pW, this, h]
      · simp
    · cases h1 : ((r.take 9).any fun v => !qK v)
      · have : ¬ ((r.length : Nat) : Int) ≤ 8 := by omega
        simp [pW, this, h]
      · simp [h]
  · intro i a ha
    have hi : i < (r.take 9).length := (List.getElem?_eq_some_iff.1 ha).1
    have hi2 : i < r.length := by simp at hi; omega
    have ha2 : r[i]? = some a := by
      rw [List.getElem?_take] at ha
      split at ha
      · exact ha
      · cases ha
    obtain ⟨d1, d2, d3, d4⟩ := idx ha2 (by omega)
    have h9 : decide ((i : Int) < 9) = true := by simp; omega
    show nP r i = _
    simp only [nP, d1, h9, Bool.and_self, cond_true, aL d2, d3, d4, II, Option.bind_some]
    cases qK a <;> simp
  · show nP r _ = _
    have : ((decide ((((r.take 9).length : Nat) : Int) < ((r.length : Nat) : Int))) && (decide ((((r.take 9).length : Nat) : Int) < 9))) = false := by
      rw [Bool.and_eq_false_iff]
      by_cases h : r.length ≤ 8
      · left; simp; omega
      · right; simp; omega
    simp only [nP, this, cond_false]

theorem SO {α : Type} [DecidableEq α] {f g : List α} {body : Int → Option (Int ⊕ (Unit ⊕ Bool))} (he : f.length = g.length)
    (hb : ∀ (i : Nat) a b, f[i]? = some a → g[i]? = some b → body i = some (if a = b then .inl ((i + 1 : Nat) : Int) else .inr (.inr false)))
    (hend : body (f.length : Nat) = some (.inr (.inl ()))) : ∀ (m k : Nat), f.length - k = m → k ≤ f.length → lp body (k : Int) = some (if f.drop k = g.drop k then .inl () else .inr false)
  | 0, k, hm, hk => by
    have : k = f.length := by omega
    subst this
    rw [List.drop_length, he, List.drop_length, if_pos rfl]
    rw [← he]
    exact cR hend
  | m + 1, k, hm, hk => by
    have h1 : k < f.length := by omega
    have h2 : k < g.length := by omega
    have hbk := hb k _ _ (List.getElem?_eq_getElem h1) (List.getElem?_eq_getElem h2)
    have e1 : f.drop k = f[k] :: f.drop (k + 1) := List.drop_eq_getElem_cons h1
    have e2 : g.drop k = g[k] :: g.drop (k + 1) := List.drop_eq_getElem_cons h2
    have hiff : (f.drop k = g.drop k) ↔ (f[k] = g[k] ∧ f.drop (k + 1) = g.drop (k + 1)) := by rw [e1, e2, List.cons.injEq]
    by_cases h : f[k] = g[k]
    · rw [if_pos h] at hbk
      rw [eZ hbk, SO he hb hend m (k + 1) (by omega) (by omega)]
      simp only [hiff, h, true_and]
    · rw [if_neg h] at hbk
      rw [cR hbk]
      simp only [hiff, h, false_and, if_false]

theorem VU {α : Type} {f g : List α} (h : f.length ≠ g.length) : (!decide (((f.length : Nat) : Int) = ((g.length : Nat) : Int))) = true := by simp; omega

theorem GW {α : Type} {f g : List α} (h : f.length = g.length) : (!decide (((f.length : Nat) : Int) = ((g.length : Nat) : Int))) = false := by simp [h]

theorem RW (a b : List aB) (hl : a.length ≤ 17592186044416) : wA a b = some (decide (a = b)) := by
  unfold wA jD
  by_cases he : a.length = b.length
  · rw [GW he, cond_false]
    unfold iX
    have := SO (f := a) (g := b) (body := fun s => eY a b (a.length : Nat) s) he ?_ ?_ a.length 0 rfl (Nat.zero_le _)
    · simp only [Int.natCast_zero, List.drop_zero] at this
      rw [this]
      by_cases h : a = b <;> simp [h, fY]
    · intro i x y hx hy
      obtain ⟨d1, d2, d3, d4⟩ := idx hx (by omega)
      obtain ⟨_, e2, e3, _⟩ := idx hy (by omega)
      simp only [eY, d1, cond_true, aL d2, aL e2, d3, e3, d4, veq]
      by_cases h : x = y <;> simp [h]
    · simp only [eY, gH, cond_false]
  · rw [VU he, cond_true]
    have : a ≠ b := fun h => he (by rw [h])
    simp [this]

theorem xS (a b : List aB) (hl : a.length ≤ 17592186044416) : nT a b = some (decide (a = b)) := by
  unfold nT
  by_cases he : a.length = b.length
  · rw [GW he, cond_false]
    unfold uR
    have := SO (f := a) (g := b) (body := fun s => oE a b s) he ?_ ?_ a.length 0 rfl (Nat.zero_le _)
    · simp only [Int.natCast_zero, List.drop_zero] at this
      rw [this]
      by_cases h : a = b <;> simp [h, qS]
    · intro i x y hx hy
      obtain ⟨d1, d2, d3, d4⟩ := idx hx (by omega)
      obtain ⟨_, e2, e3, _⟩ := idx hy (by omega)
      simp only [oE, d1, cond_true, aL d2, aL e2, d3, e3, d4, veq]
      by_cases h : x = y <;> simp [h]
    · simp only [oE, gH, cond_false]
  · rw [VU he, cond_true]
    have : a ≠ b := fun h => he (by rw [h])
    simp [this]

structure DK {α : Type} (c : α → α → Int) : Prop where
  eq : ∀ a b, c a b = 0 ↔ a = b
  anti : ∀ a b, c a b < 0 ↔ 0 < c b a
  trans : ∀ a b d, c a b < 0 → c b d < 0 → c a d < 0

def mP (x y : Int) : Int := if x < y then -1 else if y < x then 1 else 0

theorem yX : DK mP where
  eq a b := by unfold mP; (repeat' split) <;> omega
  anti a b := by unfold mP; (repeat' split) <;> omega
  trans a b d := by unfold mP; (repeat' split) <;> omega

def hU {α : Type} [DecidableEq α] (c : α → α → Int) : List α → List α → Int
  | [], [] => 0
  | [], _ :: _ => -1
  | _ :: _, [] => 1
  | a :: r, b :: s => if a = b then hU c r s else c a b

theorem DK.list {α : Type} [DecidableEq α] {c : α → α → Int} (h : DK c) : DK (hU c) where
  eq := by
    intro a
    induction a with
    | nil => intro b; cases b <;> simp [hU]
    | cons x r ih =>
      intro b
      cases b with
      | nil => simp [hU]
      | cons y s =>
        unfold hU
        split
        · rename_i e; subst e; rw [ih]; simp
        · rename_i e
          have := h.eq x y
          constructor
          · intro h0; exact absurd (this.1 h0) e
          · intro h0; cases h0; exact absurd rfl e
  anti := by
    intro a
    induction a with
    | nil => intro b; cases b <;> simp [hU]
    | cons x r ih =>
      intro b
      cases b with
      | nil => simp [hU]
      | cons y s =>
        unfold hU
        by_cases e : x = y
        · subst e; simp only [if_true]; exact ih s
        · rw [if_neg e, if_neg (fun e' => e e'.symm)]; exact h.anti x y
  trans := by
    intro a
    induction a with
    | nil =>
      intro b d
      cases b <;> cases d <;> simp [hU]
    | cons x r ih =>
      intro b d
      cases b with
      | nil => simp [hU]
      | cons y s =>
        cases d with
        | nil => simp [hU]
        | cons z t =>
          unfold hU
          by_cases e1 : x = y
          · subst e1
            rw [if_pos rfl]
            by_cases e2 : x = z
            · subst e2; rw [if_pos rfl, if_pos rfl]; exact ih s t
            · rw [if_neg e2, if_neg e2]; exact fun _ h => h
          · rw [if_neg e1]
            by_cases e2 : y = z
            · have hz : ¬ x = z := fun e => e1 (e.trans e2.symm)
              intro h _
              rw [if_neg hz, ← e2]; exact h
            · rw [if_neg e2]
              intro h1 h2
              by_cases e3 : x = z
              · subst e3
                have h3 := (h.anti x y).1 h1
                omega
              · rw [if_neg e3]; exact h.trans x y z h1 h2

def xW (a b : UInt8) : Int := if a < b then -1 else if b < a then 1 else 0

theorem GA : DK xW where
  eq a b := by
    unfold xW
    constructor
    · intro h
      split at h
      · cases h
      · split at h
        · cases h
        · rename_i h1 h2
          rw [UInt8.lt_iff_toNat_lt] at h1 h2
          exact UInt8.toNat_inj.1 (by omega)
    · rintro rfl
      have : ¬ a < a := by rw [UInt8.lt_iff_toNat_lt]; omega
      simp [this]
  anti a b := by
    unfold xW
    simp only [UInt8.lt_iff_toNat_lt]
    (repeat' split) <;> omega
  trans a b d := by
    unfold xW
    simp only [UInt8.lt_iff_toNat_lt]
    (repeat' split) <;> omega

theorem zV : ∀ (a b : List UInt8), Go.Lib.compareBytes a b = hU xW a b
  | [], [] => rfl
  | [], _ :: _ => rfl
  | _ :: _, [] => rfl
  | a :: r, b :: s => by
    unfold Go.Lib.compareBytes hU
    rw [zV r s]
    by_cases e : a = b
    · subst e
      have : ¬ a < a := by rw [UInt8.lt_iff_toNat_lt]; omega
      simp [this]
    · rw [if_neg e]
      unfold xW
      have : ¬ (¬ a < b ∧ ¬ b < a) := by
        rintro ⟨h1, h2⟩
        rw [UInt8.lt_iff_toNat_lt] at h1 h2
        exact e (UInt8.toNat_inj.1 (by omega))
      by_cases h1 : a < b
      · simp [h1]
      · have h2 : b < a := Classical.byContradiction fun h2 => this ⟨h1, h2⟩
        simp [h1, h2]

def IM (a b : ByteArray) : Int := hU xW a.data.toList b.data.toList

theorem aAh (a b : ByteArray) : JE a b = IM a b := zV _ _

theorem data_inj {x y : ByteArray} (h : x.data.toList = y.data.toList) : x = y := by
  cases x; cases y
  congr 1
  exact Array.toList_inj.1 h

theorem BH : DK IM where
  eq a b := by unfold IM; rw [(GA.list).eq]; exact ⟨data_inj, fun h => by rw [h]⟩
  anti a b := (GA.list).anti _ _
  trans a b d := (GA.list).trans _ _ _

def vC (a b : aB) : Int := if a.Kind = b.Kind then (if a.Num = b.Num then IM a.Text b.Text else mP a.Num b.Num) else mP a.Kind b.Kind

theorem BB : DK vC where
  eq a b := by
    obtain ⟨a1, a2, a3⟩ := a
    obtain ⟨b1, b2, b3⟩ := b
    unfold vC
    simp only [aB.mk.injEq]
    by_cases h1 : a1 = b1
    · by_cases h2 : a2 = b2
      · simp [h1, h2, BH.eq]
      · simp [h1, h2, yX.eq]
    · simp [h1, yX.eq]
  anti a b := by
    unfold vC
    by_cases h1 : a.Kind = b.Kind
    · rw [if_pos h1, if_pos h1.symm]
      by_cases h2 : a.Num = b.Num
      · rw [if_pos h2, if_pos h2.symm]; exact BH.anti _ _
      · rw [if_neg h2, if_neg (fun h => h2 h.symm)]; exact yX.anti _ _
    · rw [if_neg h1, if_neg (fun h => h1 h.symm)]; exact yX.anti _ _
  trans a b d := by
    unfold vC
    intro h1 h2
    have lt : ∀ {x y : Int}, mP x y < 0 → x < y := fun {x y} h => by unfold mP at h; split at h <;> (try split at h) <;> omega
    have mk : ∀ {x y : Int}, x < y → mP x y < 0 := fun {x y} h => by unfold mP; rw [if_pos h]; omega
    by_cases e1 : a.Kind = b.Kind
    · rw [if_pos e1] at h1
      by_cases e2 : b.Kind = d.Kind
      · rw [if_pos e2] at h2
        rw [if_pos (e1.trans e2)]
        by_cases f1 : a.Num = b.Num
        · rw [if_pos f1] at h1
          by_cases f2 : b.Num = d.Num
          · rw [if_pos f2] at h2
            rw [if_pos (f1.trans f2)]
            exact BH.trans _ _ _ h1 h2
          · rw [if_neg f2] at h2
            rw [f1, if_neg f2]; exact h2
        · rw [if_neg f1] at h1
          have g1 := lt h1
          by_cases f2 : b.Num = d.Num
          · rw [← f2, if_neg f1]; exact h1
          · rw [if_neg f2] at h2
            have g2 := lt h2
            rw [if_neg (by omega)]
            exact mk (by omega)
      · rw [if_neg e2] at h2
        rw [e1, if_neg e2]; exact h2
    · rw [if_neg e1] at h1
      have g1 := lt h1
      by_cases e2 : b.Kind = d.Kind
      · rw [← e2, if_neg e1]; exact h1
      · rw [if_neg e2] at h2
        have g2 := lt h2
        rw [if_neg (by omega)]
        exact mk (by omega)

def hY (a b : List aB) : Int := hU vC a b

theorem oU : DK hY := BB.list

end Go.Abs
namespace Go.Abs
open Go
theorem UB (x y : Int) : nA x y = some (mP x y) := by
  unfold nA kL mP
  by_cases h1 : x < y
  · simp [h1]
  · by_cases h2 : y < x <;> simp [h1, h2]

theorem UM (x y : Int) : fQ x y = some (mP x y) := by
  unfold fQ jZ mP
  by_cases h1 : x < y
  · simp [h1]
  · by_cases h2 : y < x <;> simp [h1, h2]

theorem yN {v : aB} (h : AH v = true) : v.Kind = 1 ∧ v.Text = (⟨#[]⟩ : ByteArray) := by
  simp only [AH, KJ, Bool.and_eq_true, decide_eq_true_eq] at h; exact h

theorem wV {v : aB} (h : AA v = true) : v.Kind = 2 ∧ v.Num = 0 ∧ v.Text.size ≤ 64 := by
  simp only [AA, Bool.and_eq_true, decide_eq_true_eq] at h; exact ⟨h.1.1, h.1.2, by omega⟩

theorem EI {v : aB} (h : qK v = true) : AH v = true ∨ (AH v = false ∧ AA v = true) := by
  unfold qK at h
  cases hn : AH v
  · rw [hn] at h; exact .inr ⟨rfl, by simpa using h⟩
  · exact .inl rfl

theorem VO (a : ByteArray) : IM a a = 0 := (BH.eq a a).2 rfl

theorem zL (a : Int) : mP a a = 0 := (yX.eq a a).2 rfl

end Go.Abs
