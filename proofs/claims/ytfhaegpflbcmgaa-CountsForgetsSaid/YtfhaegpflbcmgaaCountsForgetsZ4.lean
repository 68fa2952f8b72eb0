/- What the law CountsForgets stands on: the framework, the given functions as plain functions, their walks, and the plain laws; part 4. -/
import Derived.Test.YtfhaegpflbcmgaaCountsForgetsZ3
set_option linter.unusedSimpArgs false
set_option linter.unusedVariables false
namespace Go.Abs
open Go Go.RowKit Go.Proofs
theorem uB (lo0p : Nat) (aA : (List Int)) (a1 : Int) (b2 : Int) (cF : Int) (r : ((Int × Bool) × List Int)) (h0 : fT aA a1 b2 cF = some r) : mJ Try.prog 86 lo0p 1 (List.map (eI) aA) (List.map (eI) r.2) [(.msl 1 lo0p 0 (List.length aA)), (eI a1), (eI b2), (eI cF)] (.tup [(eI r.1.1), (aF r.1.2)]) := by
  intro H0 hl0
  refine dG Try.func86 ?_
  have hO := aL.oR hl0
  clear hl0
  obtain ⟨N0, hN0⟩ : ∃ n, n = List.length aA := ⟨_, rfl⟩
  have hN : List.length aA = N0 := hN0.symm
  unfold fT at h0
  refine aS aD 2 [] [] ?_
  refine aO ?_
  refine fN (fK []) aD 16 ?_
  obtain ⟨c1, h0⟩ := aU h0
  refine cB 7 [0 ≤ cF ∧ cF < (lN aA)] ⟨c1, trivial⟩ ?_
  refine fD 0 lo0p 1 (0 + Int.toNat cF) (eI (gD aA cF)) (eI (gD aA cF)) (List.map (eI) aA) hO (bV c1) ?_
  obtain ⟨c2, h0⟩ := aU h0
  refine cB 11 [0 ≤ a1 ∧ a1 < (lN aA)] ⟨c2, trivial⟩ ?_
  refine fD 0 lo0p 1 (0 + Int.toNat a1) (eI (gD aA a1)) (eI (gD aA a1)) (List.map (eI) aA) hO (bV c2) ?_
  obtain ⟨c3, h0⟩ := aU h0
  refine cB 13 [0 ≤ a1 ∧ a1 < (lN aA)] ⟨c3, trivial⟩ ?_
  refine jR 0 lo0p 1 (0 + Int.toNat a1) (eI (gD aA a1)) (eI (gD aA cF)) (List.map (eI) aA) [(lo0p, 1, List.map (eI) (List.set aA (Int.toNat a1) (gD aA cF)))] hO (bV c3) (by simp only [List.set, fX]) ?_
  intro H hO
  replace hN : List.length (List.set aA (Int.toNat a1) (gD aA cF)) = N0 := by simpa using hN
  obtain ⟨c4, h0⟩ := aU h0
  refine cB 15 [0 ≤ cF ∧ cF < (lN aA)] ⟨c4, trivial⟩ ?_
  refine jR 0 lo0p 1 (0 + Int.toNat cF) (eI (gD (List.set aA (Int.toNat a1) (gD aA cF)) cF)) (eI (gD aA a1)) (List.map (eI) (List.set aA (Int.toNat a1) (gD aA cF))) [(lo0p, 1, List.map (eI) (List.set (List.set aA (Int.toNat a1) (gD aA cF)) (Int.toNat cF) (gD aA a1)))] hO (mH c4 (by simp [])) (by simp only [List.set, fX]) ?_
  intro H hO
  replace hN : List.length (List.set (List.set aA (Int.toNat a1) (gD aA cF)) (Int.toNat cF) (gD aA a1)) = N0 := by simpa using hN
  refine lW (by kernel_rfl) ?_
  refine cW (l := [(0, (.msl 1 lo0p 0 (List.length (List.set (List.set aA (Int.toNat a1) (gD aA cF)) (Int.toNat cF) (gD aA a1))))), (1, (eI a1)), (2, (eI b2))]) ⟨[(0, (.msl 1 lo0p 0 (List.length aA))), (1, (eI a1)), (2, (eI b2))], by kernel_rfl, rfl, ⟨aN.eq (by simp []), aN.refl _, aN.refl _, trivial⟩⟩ ?_
  refine aI (aH (?_))
  refine aS aD 6 [2] [(10, (eI (wR (a1 + (1 : Int))))), (11, (eI (wR (b2 - (1 : Int)))))] ?_
  refine iA (fun T H => ∃ aA : List Int, ∃ i10 : Int, ∃ j11 : Int, Has T [(0, (.msl 1 lo0p 0 (List.length aA))), (1, (eI a1)), (10, (eI i10)), (11, (eI j11))] ∧ aL ⟨H0, [lo0p], []⟩ H [(lo0p, 1, List.map (eI) aA)] ∧ List.length aA = N0 ∧ gY aA a1 i10 j11 = some r) ?_ ?_
  · clear hO hN h0
    rintro T H ⟨aA, i10, j11, hT, hO, hN, h0⟩
    refine bF hT ?_
    clear hT
    unfold gY at h0
    refine iA (fun T H => ∃ aA : List Int, ∃ j11 : Int, Has T [(0, (.msl 1 lo0p 0 (List.length aA))), (1, (eI a1)), (10, (eI i10)), (11, (eI j11))] ∧ aL ⟨H0, [lo0p], []⟩ H [(lo0p, 1, List.map (eI) aA)] ∧ List.length aA = N0 ∧ eA aA a1 i10 j11 = some r) ?_ ?_
    · clear hO hN h0
      rintro T H ⟨aA, j11, hT, hO, hN, h0⟩
      refine bF hT ?_
      clear hT
      unfold eA at h0
      refine aO ?_
      refine aS aD 3 [] [(65, (aF (decide (j11 < i10))))] ?_
      refine bN h0 (fun h0 => ?_) (fun h0 => ?_)
      · refine aO ?_
        refine fN (fK []) aD 16 ?_
        obtain ⟨c6, h0⟩ := aU h0
        refine cB 7 [0 ≤ a1 ∧ a1 < (lN aA)] ⟨c6, trivial⟩ ?_
        refine fD 0 lo0p 1 (0 + Int.toNat a1) (eI (gD aA a1)) (eI (gD aA a1)) (List.map (eI) aA) hO (bV c6) ?_
        obtain ⟨c7, h0⟩ := aU h0
        refine cB 11 [0 ≤ j11 ∧ j11 < (lN aA)] ⟨c7, trivial⟩ ?_
        refine fD 0 lo0p 1 (0 + Int.toNat j11) (eI (gD aA j11)) (eI (gD aA j11)) (List.map (eI) aA) hO (bV c7) ?_
        obtain ⟨c8, h0⟩ := aU h0
        refine cB 13 [0 ≤ j11 ∧ j11 < (lN aA)] ⟨c8, trivial⟩ ?_
        refine jR 0 lo0p 1 (0 + Int.toNat j11) (eI (gD aA j11)) (eI (gD aA a1)) (List.map (eI) aA) [(lo0p, 1, List.map (eI) (List.set aA (Int.toNat j11) (gD aA a1)))] hO (bV c8) (by simp only [List.set, fX]) ?_
        intro H hO
        replace hN : List.length (List.set aA (Int.toNat j11) (gD aA a1)) = N0 := by simpa using hN
        obtain ⟨c9, h0⟩ := aU h0
        refine cB 15 [0 ≤ a1 ∧ a1 < (lN aA)] ⟨c9, trivial⟩ ?_
        refine jR 0 lo0p 1 (0 + Int.toNat a1) (eI (gD (List.set aA (Int.toNat j11) (gD aA a1)) a1)) (eI (gD aA j11)) (List.map (eI) (List.set aA (Int.toNat j11) (gD aA a1))) [(lo0p, 1, List.map (eI) (List.set (List.set aA (Int.toNat j11) (gD aA a1)) (Int.toNat a1) (gD aA j11)))] hO (mH c9 (by simp [])) (by simp only [List.set, fX]) ?_
        intro H hO
        replace hN : List.length (List.set (List.set aA (Int.toNat j11) (gD aA a1)) (Int.toNat a1) (gD aA j11)) = N0 := by simpa using hN
        refine lW (by kernel_rfl) ?_
        refine cW (l := [(0, (.msl 1 lo0p 0 (List.length (List.set (List.set aA (Int.toNat j11) (gD aA a1)) (Int.toNat a1) (gD aA j11))))), (11, (eI j11))]) ⟨[(0, (.msl 1 lo0p 0 (List.length aA))), (11, (eI j11))], by kernel_rfl, rfl, ⟨aN.eq (by simp []), aN.refl _, trivial⟩⟩ ?_
        refine aI (aH (?_))
        refine aS aD 3 [11] [(8, (eI j11)), (9, (aF true))] ?_
        refine bJ ?_
        obtain rfl := oI h0
        exact aI (aR (jY (x := (.tup [(eI j11), (aF true)])) (by kernel_rfl) (aN.refl _) ⟨rfl, hO.ext, hO.at 0 (by kernel_rfl), by simp only [List.length_map]; exact hN.trans hN0⟩))
      refine bO ?_
      refine bH [(0, (.msl 1 lo0p 0 (List.length aA))), (1, (eI a1)), (10, (eI i10)), (11, (eI j11))] ?_
      refine aO ?_
      refine fN (fK []) aD 16 ?_
      obtain ⟨c10, h0⟩ := aU h0
      refine cB 7 [0 ≤ j11 ∧ j11 < (lN aA)] ⟨c10, trivial⟩ ?_
      refine fD 0 lo0p 1 (0 + Int.toNat j11) (eI (gD aA j11)) (eI (gD aA j11)) (List.map (eI) aA) hO (bV c10) ?_
      obtain ⟨c11, h0⟩ := aU h0
      refine cB 11 [0 ≤ i10 ∧ i10 < (lN aA)] ⟨c11, trivial⟩ ?_
      refine fD 0 lo0p 1 (0 + Int.toNat i10) (eI (gD aA i10)) (eI (gD aA i10)) (List.map (eI) aA) hO (bV c11) ?_
      obtain ⟨c12, h0⟩ := aU h0
      refine cB 13 [0 ≤ i10 ∧ i10 < (lN aA)] ⟨c12, trivial⟩ ?_
      refine jR 0 lo0p 1 (0 + Int.toNat i10) (eI (gD aA i10)) (eI (gD aA j11)) (List.map (eI) aA) [(lo0p, 1, List.map (eI) (List.set aA (Int.toNat i10) (gD aA j11)))] hO (bV c12) (by simp only [List.set, fX]) ?_
      intro H hO
      replace hN : List.length (List.set aA (Int.toNat i10) (gD aA j11)) = N0 := by simpa using hN
      obtain ⟨c13, h0⟩ := aU h0
      refine cB 15 [0 ≤ j11 ∧ j11 < (lN aA)] ⟨c13, trivial⟩ ?_
      refine jR 0 lo0p 1 (0 + Int.toNat j11) (eI (gD (List.set aA (Int.toNat i10) (gD aA j11)) j11)) (eI (gD aA i10)) (List.map (eI) (List.set aA (Int.toNat i10) (gD aA j11))) [(lo0p, 1, List.map (eI) (List.set (List.set aA (Int.toNat i10) (gD aA j11)) (Int.toNat j11) (gD aA i10)))] hO (mH c13 (by simp [])) (by simp only [List.set, fX]) ?_
      intro H hO
      replace hN : List.length (List.set (List.set aA (Int.toNat i10) (gD aA j11)) (Int.toNat j11) (gD aA i10)) = N0 := by simpa using hN
      refine lW (by kernel_rfl) ?_
      refine cW (l := [(0, (.msl 1 lo0p 0 (List.length (List.set (List.set aA (Int.toNat i10) (gD aA j11)) (Int.toNat j11) (gD aA i10))))), (1, (eI a1)), (10, (eI i10)), (11, (eI j11))]) ⟨[(0, (.msl 1 lo0p 0 (List.length aA))), (1, (eI a1)), (10, (eI i10)), (11, (eI j11))], by kernel_rfl, rfl, ⟨aN.eq (by simp []), aN.refl _, aN.refl _, aN.refl _, trivial⟩⟩ ?_
      refine aI (aH (?_))
      refine aS aD 3 [10] [(10, (eI (wR (i10 + (1 : Int)))))] ?_
      refine aS aD 3 [11] [(11, (eI (wR (j11 - (1 : Int)))))] ?_
      refine iA (fun T H => ∃ aA : List Int, ∃ j11 : Int, Has T [(0, (.msl 1 lo0p 0 (List.length aA))), (1, (eI a1)), (11, (eI j11))] ∧ aL ⟨H0, [lo0p], []⟩ H [(lo0p, 1, List.map (eI) aA)] ∧ List.length aA = N0 ∧ hM aA a1 j11 = some r) ?_ ?_
      · clear hO hN h0
        rintro T H ⟨aA, j11, hT, hO, hN, h0⟩
        refine bF hT ?_
        clear hT
        unfold hM at h0
        refine aO ?_
        refine fN (fK []) aD 16 ?_
        obtain ⟨c14, h0⟩ := aU h0
        refine cB 7 [0 ≤ a1 ∧ a1 < (lN aA)] ⟨c14, trivial⟩ ?_
        refine fD 0 lo0p 1 (0 + Int.toNat a1) (eI (gD aA a1)) (eI (gD aA a1)) (List.map (eI) aA) hO (bV c14) ?_
        obtain ⟨c15, h0⟩ := aU h0
        refine cB 11 [0 ≤ j11 ∧ j11 < (lN aA)] ⟨c15, trivial⟩ ?_
        refine fD 0 lo0p 1 (0 + Int.toNat j11) (eI (gD aA j11)) (eI (gD aA j11)) (List.map (eI) aA) hO (bV c15) ?_
        obtain ⟨c16, h0⟩ := aU h0
        refine cB 13 [0 ≤ j11 ∧ j11 < (lN aA)] ⟨c16, trivial⟩ ?_
        refine jR 0 lo0p 1 (0 + Int.toNat j11) (eI (gD aA j11)) (eI (gD aA a1)) (List.map (eI) aA) [(lo0p, 1, List.map (eI) (List.set aA (Int.toNat j11) (gD aA a1)))] hO (bV c16) (by simp only [List.set, fX]) ?_
        intro H hO
        replace hN : List.length (List.set aA (Int.toNat j11) (gD aA a1)) = N0 := by simpa using hN
        obtain ⟨c17, h0⟩ := aU h0
        refine cB 15 [0 ≤ a1 ∧ a1 < (lN aA)] ⟨c17, trivial⟩ ?_
        refine jR 0 lo0p 1 (0 + Int.toNat a1) (eI (gD (List.set aA (Int.toNat j11) (gD aA a1)) a1)) (eI (gD aA j11)) (List.map (eI) (List.set aA (Int.toNat j11) (gD aA a1))) [(lo0p, 1, List.map (eI) (List.set (List.set aA (Int.toNat j11) (gD aA a1)) (Int.toNat a1) (gD aA j11)))] hO (mH c17 (by simp [])) (by simp only [List.set, fX]) ?_
        intro H hO
        replace hN : List.length (List.set (List.set aA (Int.toNat j11) (gD aA a1)) (Int.toNat a1) (gD aA j11)) = N0 := by simpa using hN
        refine lW (by kernel_rfl) ?_
        refine cW (l := [(0, (.msl 1 lo0p 0 (List.length (List.set (List.set aA (Int.toNat j11) (gD aA a1)) (Int.toNat a1) (gD aA j11))))), (11, (eI j11))]) ⟨[(0, (.msl 1 lo0p 0 (List.length aA))), (11, (eI j11))], by kernel_rfl, rfl, ⟨aN.eq (by simp []), aN.refl _, trivial⟩⟩ ?_
        refine aI (aH (?_))
        refine aS aD 3 [11] [(8, (eI j11)), (9, (aF false))] ?_
        refine bJ ?_
        obtain rfl := oI h0
        exact aI (jY (x := (.tup [(eI j11), (aF false)])) (by kernel_rfl) (aN.refl _) ⟨rfl, hO.ext, hO.at 0 (by kernel_rfl), by simp only [List.length_map]; exact hN.trans hN0⟩)
      refine cG 4 ?_
      refine gR [(0, (.msl 1 lo0p 0 (List.length (List.set (List.set aA (Int.toNat i10) (gD aA j11)) (Int.toNat j11) (gD aA i10))))), (1, (eI a1)), (10, (eI (wR (i10 + (1 : Int))))), (11, (eI (wR (j11 - (1 : Int)))))] ?_
      refine fG (fun T H => ∃ aA : List Int, ∃ i10 : Int, ∃ j11 : Int, Has T [(0, (.msl 1 lo0p 0 (List.length aA))), (1, (eI a1)), (10, (eI i10)), (11, (eI j11))] ∧ aL ⟨H0, [lo0p], []⟩ H [(lo0p, 1, List.map (eI) aA)] ∧ List.length aA = N0 ∧ jJ aA a1 i10 j11 = some r) ?_ ⟨List.set (List.set aA (Int.toNat i10) (gD aA j11)) (Int.toNat j11) (gD aA i10), wR (i10 + (1 : Int)), wR (j11 - (1 : Int)), .eq (by kernel_rfl), hO, hN, h0⟩
      clear hO hN h0
      rintro T H ⟨aA, i10, j11, hT, hO, hN, h0⟩
      refine bF hT ?_
      clear hT
      unfold jJ at h0
      obtain ⟨rr0, hl0, h0⟩ := aV h0
      refine dN (by kernel_rfl) (fun (s : List Int × Int × Int) T H => Has T [(0, (.msl 1 lo0p 0 (List.length s.1))), (1, (eI a1)), (10, (eI s.2.1)), (11, (eI s.2.2))] ∧ aL ⟨H0, [lo0p], []⟩ H [(lo0p, 1, List.map (eI) s.1)] ∧ List.length s.1 = N0) hl0 ⟨.eq (by kernel_rfl), hO, hN⟩ ?_
      clear hO hN
      rintro k0 s out1 T H ⟨hT, hO, hN⟩ h1 ho0
      obtain ⟨aA, i10, j11⟩ := s
      replace h1 : cZ a1 aA i10 j11 = some out1 := h1
      try dsimp only at hT
      refine bF hT ?_
      clear hT
      unfold cZ at h1
      refine cG 5 ?_
      refine iA (fun T H => ∃ aA : List Int, ∃ i10 : Int, Has T [(0, (.msl 1 lo0p 0 (List.length aA))), (1, (eI a1)), (10, (eI i10)), (11, (eI j11))] ∧ aL ⟨H0, [lo0p], []⟩ H [(lo0p, 1, List.map (eI) aA)] ∧ List.length aA = N0 ∧ gX aA a1 i10 j11 = some out1) ?_ ?_
      · clear hO hN h1
        rintro T H ⟨aA, i10, hT, hO, hN, h1⟩
        refine bF hT ?_
        clear hT
        unfold gX at h1
        refine iA (fun T H => ∃ aA : List Int, ∃ j11 : Int, Has T [(0, (.msl 1 lo0p 0 (List.length aA))), (1, (eI a1)), (10, (eI i10)), (11, (eI j11))] ∧ aL ⟨H0, [lo0p], []⟩ H [(lo0p, 1, List.map (eI) aA)] ∧ List.length aA = N0 ∧ eC aA a1 i10 j11 = some out1) ?_ ?_
        · clear hO hN h1
          rintro T H ⟨aA, j11, hT, hO, hN, h1⟩
          refine bF hT ?_
          clear hT
          unfold eC at h1
          refine aO ?_
          refine aS aD 3 [] [(134, (aF (decide (j11 < i10))))] ?_
          refine bN h1 (fun h1 => ?_) (fun h1 => ?_)
          · refine iP 4 ?_
            obtain rfl := oI h1
            obtain rfl : _ = rr0 := ho0
            replace h0 : hM aA a1 j11 = some r := h0
            exact aI (aW (sB (by kernel_rfl) (aW (cC (aH (⟨rfl, _, _, .eq (by kernel_rfl), hO, hN, h0⟩))))))
          refine bO ?_
          refine bH [(0, (.msl 1 lo0p 0 (List.length aA))), (1, (eI a1)), (10, (eI i10)), (11, (eI j11))] ?_
          refine aO ?_
          refine fN (fK []) aD 16 ?_
          obtain ⟨c19, h1⟩ := aU h1
          refine cB 7 [0 ≤ j11 ∧ j11 < (lN aA)] ⟨c19, trivial⟩ ?_
          refine fD 0 lo0p 1 (0 + Int.toNat j11) (eI (gD aA j11)) (eI (gD aA j11)) (List.map (eI) aA) hO (bV c19) ?_
          obtain ⟨c20, h1⟩ := aU h1
          refine cB 11 [0 ≤ i10 ∧ i10 < (lN aA)] ⟨c20, trivial⟩ ?_
          refine fD 0 lo0p 1 (0 + Int.toNat i10) (eI (gD aA i10)) (eI (gD aA i10)) (List.map (eI) aA) hO (bV c20) ?_
          obtain ⟨c21, h1⟩ := aU h1
          refine cB 13 [0 ≤ i10 ∧ i10 < (lN aA)] ⟨c21, trivial⟩ ?_
          refine jR 0 lo0p 1 (0 + Int.toNat i10) (eI (gD aA i10)) (eI (gD aA j11)) (List.map (eI) aA) [(lo0p, 1, List.map (eI) (List.set aA (Int.toNat i10) (gD aA j11)))] hO (bV c21) (by simp only [List.set, fX]) ?_
          intro H hO
          replace hN : List.length (List.set aA (Int.toNat i10) (gD aA j11)) = N0 := by simpa using hN
          obtain ⟨c22, h1⟩ := aU h1
          refine cB 15 [0 ≤ j11 ∧ j11 < (lN aA)] ⟨c22, trivial⟩ ?_
          refine jR 0 lo0p 1 (0 + Int.toNat j11) (eI (gD (List.set aA (Int.toNat i10) (gD aA j11)) j11)) (eI (gD aA i10)) (List.map (eI) (List.set aA (Int.toNat i10) (gD aA j11))) [(lo0p, 1, List.map (eI) (List.set (List.set aA (Int.toNat i10) (gD aA j11)) (Int.toNat j11) (gD aA i10)))] hO (mH c22 (by simp [])) (by simp only [List.set, fX]) ?_
          intro H hO
          replace hN : List.length (List.set (List.set aA (Int.toNat i10) (gD aA j11)) (Int.toNat j11) (gD aA i10)) = N0 := by simpa using hN
          refine lW (by kernel_rfl) ?_
          refine cW (l := [(0, (.msl 1 lo0p 0 (List.length (List.set (List.set aA (Int.toNat i10) (gD aA j11)) (Int.toNat j11) (gD aA i10))))), (1, (eI a1)), (10, (eI i10)), (11, (eI j11))]) ⟨[(0, (.msl 1 lo0p 0 (List.length aA))), (1, (eI a1)), (10, (eI i10)), (11, (eI j11))], by kernel_rfl, rfl, ⟨aN.eq (by simp []), aN.refl _, aN.refl _, aN.refl _, trivial⟩⟩ ?_
          refine aI (aH (?_))
          refine aS aD 3 [10] [(10, (eI (wR (i10 + (1 : Int)))))] ?_
          refine aT aD 3 ?_
          refine bE ?_
          exact aI (aY (aH (⟨rfl, _, (oI h1).symm, .eq (by kernel_rfl), hO, hN⟩)))
        refine cG 8 ?_
        refine gR [(0, (.msl 1 lo0p 0 (List.length aA))), (1, (eI a1)), (10, (eI i10)), (11, (eI j11))] ?_
        refine fG (fun T H => ∃ aA : List Int, ∃ j11 : Int, Has T [(0, (.msl 1 lo0p 0 (List.length aA))), (1, (eI a1)), (10, (eI i10)), (11, (eI j11))] ∧ aL ⟨H0, [lo0p], []⟩ H [(lo0p, 1, List.map (eI) aA)] ∧ List.length aA = N0 ∧ jL aA a1 i10 j11 = some out1) ?_ ⟨aA, j11, .eq (by kernel_rfl), hO, hN, h1⟩
        clear hO hN h1
        rintro T H ⟨aA, j11, hT, hO, hN, h1⟩
        refine bF hT ?_
        clear hT
        unfold jL at h1
        obtain ⟨rr1, hl1, h1⟩ := aV h1
        refine dN (by kernel_rfl) (fun (s : List Int × Int) T H => Has T [(0, (.msl 1 lo0p 0 (List.length s.1))), (1, (eI a1)), (10, (eI i10)), (11, (eI s.2))] ∧ aL ⟨H0, [lo0p], []⟩ H [(lo0p, 1, List.map (eI) s.1)] ∧ List.length s.1 = N0) hl1 ⟨.eq (by kernel_rfl), hO, hN⟩ ?_
        clear hO hN
        rintro k1 s out2 T H ⟨hT, hO, hN⟩ h2 ho1
        obtain ⟨aA, j11⟩ := s
        replace h2 : eD a1 i10 aA j11 = some out2 := h2
        try dsimp only at hT
        refine bF hT ?_
        clear hT
        unfold eD at h2
        refine aO ?_
        refine aO ?_
        obtain ⟨c23, h2⟩ := aU h2
        obtain ⟨c24, h2⟩ := aU h2
        obtain ⟨x25, hx26, h2⟩ := aV h2
        refine fN (fK []) aD 15 ?_
        refine oF (K := fun T H => Has (lift T) [(0, (.msl 1 lo0p 0 (List.length aA))), (1, (eI a1)), (10, (eI i10)), (11, (eI j11)), (129, (aF ((decide (i10 ≤ j11)) && (!x25))))] ∧ aL ⟨H0, [lo0p], []⟩ H [(lo0p, 1, List.map (eI) aA)]) ?_ ?_
        · refine lH 4 ?_
          refine nE (t := 118) (e := decide (i10 ≤ j11)) (by kernel_rfl) (fun hg27 => ?_) (fun hg27 => ?_)
          · refine cB 7 [0 ≤ j11 ∧ j11 < (lN aA)] ⟨(c23 hg27), trivial⟩ ?_
            refine iQ 0 lo0p 1 (0 + Int.toNat j11) (eI (gD aA j11)) (eI (gD aA j11)) (List.map (eI) aA) (by kernel_rfl) (by kernel_rfl) (by kernel_rfl) hO (by kernel_rfl) (bV (c23 hg27)) ?_
            refine cB 11 [0 ≤ a1 ∧ a1 < (lN aA)] ⟨(c24 hg27), trivial⟩ ?_
            refine iQ 0 lo0p 1 (0 + Int.toNat a1) (eI (gD aA a1)) (eI (gD aA a1)) (List.map (eI) aA) (by kernel_rfl) (by kernel_rfl) (by kernel_rfl) hO (by kernel_rfl) (bV (c24 hg27)) ?_
            refine nD 70 [(eI (gD aA j11)), (eI (gD aA a1))] (aF x25) (by kernel_rfl) (by kernel_rfl) (eU (gD aA j11) (gD aA a1) _ (kA hx26 hg27)) hO ?_
            intro H hO
            refine jS ?_
            exact ⟨⟨[(0, (.msl 1 lo0p 0 (List.length aA))), (1, (eI a1)), (10, (eI i10)), (11, (eI j11)), (129, (aF (!x25)))], by kernel_rfl, rfl, ⟨aN.refl _, aN.refl _, aN.refl _, aN.refl _, aN.eq (congrArg aF (lX hg27 rfl).symm), trivial⟩⟩, hO⟩
          refine jS ?_
          exact ⟨⟨[(0, (.msl 1 lo0p 0 (List.length aA))), (1, (eI a1)), (10, (eI i10)), (11, (eI j11)), (129, (aF false))], by kernel_rfl, rfl, ⟨aN.refl _, aN.refl _, aN.refl _, aN.refl _, aN.eq (congrArg aF (lX hg27 rfl).symm), trivial⟩⟩, hO⟩
        · rintro T H ⟨hT, hO⟩
          refine cW hT ?_
          clear hT
          refine aI (aH ?_)
          refine bN h2 (fun h2 => ?_) (fun h2 => ?_)
          · refine bO ?_
            refine bH [(0, (.msl 1 lo0p 0 (List.length aA))), (1, (eI a1)), (10, (eI i10)), (11, (eI j11))] ?_
            refine cG 9 ?_
            refine aT aD 3 ?_
            refine bE ?_
            exact aI (aY (aH (⟨rfl, _, (oI h2).symm, .eq (by kernel_rfl), hO, hN⟩)))
          refine iP 8 ?_
          obtain rfl := oI h2
          obtain rfl : _ = rr1 := ho1
          replace h1 : eC aA a1 i10 j11 = some out1 := h1
          exact aI (aW (aW (cC (aH (⟨rfl, _, _, .eq (by kernel_rfl), hO, hN, h1⟩)))))
      refine cG 6 ?_
      refine gR [(0, (.msl 1 lo0p 0 (List.length aA))), (1, (eI a1)), (10, (eI i10)), (11, (eI j11))] ?_
      refine fG (fun T H => ∃ aA : List Int, ∃ i10 : Int, Has T [(0, (.msl 1 lo0p 0 (List.length aA))), (1, (eI a1)), (10, (eI i10)), (11, (eI j11))] ∧ aL ⟨H0, [lo0p], []⟩ H [(lo0p, 1, List.map (eI) aA)] ∧ List.length aA = N0 ∧ jI aA a1 i10 j11 = some out1) ?_ ⟨aA, i10, .eq (by kernel_rfl), hO, hN, h1⟩
      clear hO hN h1
      rintro T H ⟨aA, i10, hT, hO, hN, h1⟩
      refine bF hT ?_
      clear hT
      unfold jI at h1
      obtain ⟨rr1, hl1, h1⟩ := aV h1
      refine dN (by kernel_rfl) (fun (s : List Int × Int) T H => Has T [(0, (.msl 1 lo0p 0 (List.length s.1))), (1, (eI a1)), (10, (eI s.2)), (11, (eI j11))] ∧ aL ⟨H0, [lo0p], []⟩ H [(lo0p, 1, List.map (eI) s.1)] ∧ List.length s.1 = N0) hl1 ⟨.eq (by kernel_rfl), hO, hN⟩ ?_
      clear hO hN
      rintro k1 s out2 T H ⟨hT, hO, hN⟩ h2 ho1
      obtain ⟨aA, i10⟩ := s
      replace h2 : eG a1 j11 aA i10 = some out2 := h2
      try dsimp only at hT
      refine bF hT ?_
      clear hT
      unfold eG at h2
      refine aO ?_
      refine aO ?_
      obtain ⟨c29, h2⟩ := aU h2
      obtain ⟨c30, h2⟩ := aU h2
      obtain ⟨x31, hx32, h2⟩ := aV h2
      refine fN (fK []) aD 14 ?_
      refine oF (K := fun T H => Has (lift T) [(0, (.msl 1 lo0p 0 (List.length aA))), (1, (eI a1)), (10, (eI i10)), (11, (eI j11)), (112, (aF ((decide (i10 ≤ j11)) && x31)))] ∧ aL ⟨H0, [lo0p], []⟩ H [(lo0p, 1, List.map (eI) aA)]) ?_ ?_
      · refine lH 4 ?_
        refine nE (t := 102) (e := decide (i10 ≤ j11)) (by kernel_rfl) (fun hg33 => ?_) (fun hg33 => ?_)
        · refine cB 7 [0 ≤ i10 ∧ i10 < (lN aA)] ⟨(c29 hg33), trivial⟩ ?_
          refine iQ 0 lo0p 1 (0 + Int.toNat i10) (eI (gD aA i10)) (eI (gD aA i10)) (List.map (eI) aA) (by kernel_rfl) (by kernel_rfl) (by kernel_rfl) hO (by kernel_rfl) (bV (c29 hg33)) ?_
          refine cB 11 [0 ≤ a1 ∧ a1 < (lN aA)] ⟨(c30 hg33), trivial⟩ ?_
          refine iQ 0 lo0p 1 (0 + Int.toNat a1) (eI (gD aA a1)) (eI (gD aA a1)) (List.map (eI) aA) (by kernel_rfl) (by kernel_rfl) (by kernel_rfl) hO (by kernel_rfl) (bV (c30 hg33)) ?_
          refine nD 70 [(eI (gD aA i10)), (eI (gD aA a1))] (aF x31) (by kernel_rfl) (by kernel_rfl) (eU (gD aA i10) (gD aA a1) _ (kA hx32 hg33)) hO ?_
          intro H hO
          refine jS ?_
          exact ⟨⟨[(0, (.msl 1 lo0p 0 (List.length aA))), (1, (eI a1)), (10, (eI i10)), (11, (eI j11)), (112, (aF x31))], by kernel_rfl, rfl, ⟨aN.refl _, aN.refl _, aN.refl _, aN.refl _, aN.eq (congrArg aF (lX hg33 rfl).symm), trivial⟩⟩, hO⟩
        refine jS ?_
        exact ⟨⟨[(0, (.msl 1 lo0p 0 (List.length aA))), (1, (eI a1)), (10, (eI i10)), (11, (eI j11)), (112, (aF false))], by kernel_rfl, rfl, ⟨aN.refl _, aN.refl _, aN.refl _, aN.refl _, aN.eq (congrArg aF (lX hg33 rfl).symm), trivial⟩⟩, hO⟩
      · rintro T H ⟨hT, hO⟩
        refine cW hT ?_
        clear hT
        refine aI (aH ?_)
        refine bN h2 (fun h2 => ?_) (fun h2 => ?_)
        · refine bO ?_
          refine bH [(0, (.msl 1 lo0p 0 (List.length aA))), (1, (eI a1)), (10, (eI i10)), (11, (eI j11))] ?_
          refine cG 7 ?_
          refine aT aD 3 ?_
          refine bE ?_
          exact aI (aY (aH (⟨rfl, _, (oI h2).symm, .eq (by kernel_rfl), hO, hN⟩)))
        refine iP 6 ?_
        obtain rfl := oI h2
        obtain rfl : _ = rr1 := ho1
        replace h1 : gX aA a1 i10 j11 = some out1 := h1
        exact aI (aW (aW (cC (aH (⟨rfl, _, _, .eq (by kernel_rfl), hO, hN, h1⟩)))))
    refine cG 2 ?_
    refine gR [(0, (.msl 1 lo0p 0 (List.length aA))), (1, (eI a1)), (10, (eI i10)), (11, (eI j11))] ?_
    refine fG (fun T H => ∃ aA : List Int, ∃ j11 : Int, Has T [(0, (.msl 1 lo0p 0 (List.length aA))), (1, (eI a1)), (10, (eI i10)), (11, (eI j11))] ∧ aL ⟨H0, [lo0p], []⟩ H [(lo0p, 1, List.map (eI) aA)] ∧ List.length aA = N0 ∧ jK aA a1 i10 j11 = some r) ?_ ⟨aA, j11, .eq (by kernel_rfl), hO, hN, h0⟩
    clear hO hN h0
    rintro T H ⟨aA, j11, hT, hO, hN, h0⟩
    refine bF hT ?_
    clear hT
    unfold jK at h0
    obtain ⟨rr0, hl0, h0⟩ := aV h0
    refine dN (by kernel_rfl) (fun (s : List Int × Int) T H => Has T [(0, (.msl 1 lo0p 0 (List.length s.1))), (1, (eI a1)), (10, (eI i10)), (11, (eI s.2))] ∧ aL ⟨H0, [lo0p], []⟩ H [(lo0p, 1, List.map (eI) s.1)] ∧ List.length s.1 = N0) hl0 ⟨.eq (by kernel_rfl), hO, hN⟩ ?_
    clear hO hN
    rintro k0 s out1 T H ⟨hT, hO, hN⟩ h1 ho0
    obtain ⟨aA, j11⟩ := s
    replace h1 : eB a1 i10 aA j11 = some out1 := h1
    try dsimp only at hT
    refine bF hT ?_
    clear hT
    unfold eB at h1
    refine aO ?_
    refine aO ?_
    obtain ⟨c35, h1⟩ := aU h1
    obtain ⟨c36, h1⟩ := aU h1
    obtain ⟨x37, hx38, h1⟩ := aV h1
    refine fN (fK []) aD 15 ?_
    refine oF (K := fun T H => Has (lift T) [(0, (.msl 1 lo0p 0 (List.length aA))), (1, (eI a1)), (10, (eI i10)), (11, (eI j11)), (60, (aF ((decide (i10 ≤ j11)) && (!x37))))] ∧ aL ⟨H0, [lo0p], []⟩ H [(lo0p, 1, List.map (eI) aA)]) ?_ ?_
    · refine lH 4 ?_
      refine nE (t := 49) (e := decide (i10 ≤ j11)) (by kernel_rfl) (fun hg39 => ?_) (fun hg39 => ?_)
      · refine cB 7 [0 ≤ j11 ∧ j11 < (lN aA)] ⟨(c35 hg39), trivial⟩ ?_
        refine iQ 0 lo0p 1 (0 + Int.toNat j11) (eI (gD aA j11)) (eI (gD aA j11)) (List.map (eI) aA) (by kernel_rfl) (by kernel_rfl) (by kernel_rfl) hO (by kernel_rfl) (bV (c35 hg39)) ?_
        refine cB 11 [0 ≤ a1 ∧ a1 < (lN aA)] ⟨(c36 hg39), trivial⟩ ?_
        refine iQ 0 lo0p 1 (0 + Int.toNat a1) (eI (gD aA a1)) (eI (gD aA a1)) (List.map (eI) aA) (by kernel_rfl) (by kernel_rfl) (by kernel_rfl) hO (by kernel_rfl) (bV (c36 hg39)) ?_
        refine nD 70 [(eI (gD aA j11)), (eI (gD aA a1))] (aF x37) (by kernel_rfl) (by kernel_rfl) (eU (gD aA j11) (gD aA a1) _ (kA hx38 hg39)) hO ?_
        intro H hO
        refine jS ?_
        exact ⟨⟨[(0, (.msl 1 lo0p 0 (List.length aA))), (1, (eI a1)), (10, (eI i10)), (11, (eI j11)), (60, (aF (!x37)))], by kernel_rfl, rfl, ⟨aN.refl _, aN.refl _, aN.refl _, aN.refl _, aN.eq (congrArg aF (lX hg39 rfl).symm), trivial⟩⟩, hO⟩
      refine jS ?_
      exact ⟨⟨[(0, (.msl 1 lo0p 0 (List.length aA))), (1, (eI a1)), (10, (eI i10)), (11, (eI j11)), (60, (aF false))], by kernel_rfl, rfl, ⟨aN.refl _, aN.refl _, aN.refl _, aN.refl _, aN.eq (congrArg aF (lX hg39 rfl).symm), trivial⟩⟩, hO⟩
    · rintro T H ⟨hT, hO⟩
      refine cW hT ?_
      clear hT
      refine aI (aH ?_)
      refine bN h1 (fun h1 => ?_) (fun h1 => ?_)
      · refine bO ?_
        refine bH [(0, (.msl 1 lo0p 0 (List.length aA))), (1, (eI a1)), (10, (eI i10)), (11, (eI j11))] ?_
        refine cG 3 ?_
        refine aT aD 3 ?_
        refine bE ?_
        exact aI (aY (aH (⟨rfl, _, (oI h1).symm, .eq (by kernel_rfl), hO, hN⟩)))
      refine iP 2 ?_
      obtain rfl := oI h1
      obtain rfl : _ = rr0 := ho0
      replace h0 : eA aA a1 i10 j11 = some r := h0
      exact aI (aW (aW (cC (aH (⟨rfl, _, _, .eq (by kernel_rfl), hO, hN, h0⟩)))))
  refine cG 0 ?_
  refine gR [(0, (.msl 1 lo0p 0 (List.length (List.set (List.set aA (Int.toNat a1) (gD aA cF)) (Int.toNat cF) (gD aA a1))))), (1, (eI a1)), (10, (eI (wR (a1 + (1 : Int))))), (11, (eI (wR (b2 - (1 : Int)))))] ?_
  refine fG (fun T H => ∃ aA : List Int, ∃ i10 : Int, ∃ j11 : Int, Has T [(0, (.msl 1 lo0p 0 (List.length aA))), (1, (eI a1)), (10, (eI i10)), (11, (eI j11))] ∧ aL ⟨H0, [lo0p], []⟩ H [(lo0p, 1, List.map (eI) aA)] ∧ List.length aA = N0 ∧ fC aA a1 i10 j11 = some r) ?_ ⟨List.set (List.set aA (Int.toNat a1) (gD aA cF)) (Int.toNat cF) (gD aA a1), wR (a1 + (1 : Int)), wR (b2 - (1 : Int)), .eq (by kernel_rfl), hO, hN, h0⟩
  clear hO hN h0
  rintro T H ⟨aA, i10, j11, hT, hO, hN, h0⟩
  refine bF hT ?_
  clear hT
  unfold fC at h0
  obtain ⟨rr0, hl0, h0⟩ := aV h0
  refine dN (by kernel_rfl) (fun (s : List Int × Int) T H => Has T [(0, (.msl 1 lo0p 0 (List.length s.1))), (1, (eI a1)), (10, (eI s.2)), (11, (eI j11))] ∧ aL ⟨H0, [lo0p], []⟩ H [(lo0p, 1, List.map (eI) s.1)] ∧ List.length s.1 = N0) hl0 ⟨.eq (by kernel_rfl), hO, hN⟩ ?_
  clear hO hN
  rintro k0 s out1 T H ⟨hT, hO, hN⟩ h1 ho0
  obtain ⟨aA, i10⟩ := s
  replace h1 : dX a1 j11 aA i10 = some out1 := h1
  try dsimp only at hT
  refine bF hT ?_
  clear hT
  unfold dX at h1
  refine aO ?_
  refine aO ?_
  obtain ⟨c41, h1⟩ := aU h1
  obtain ⟨c42, h1⟩ := aU h1
  obtain ⟨x43, hx44, h1⟩ := aV h1
  refine fN (fK []) aD 14 ?_
  refine oF (K := fun T H => Has (lift T) [(0, (.msl 1 lo0p 0 (List.length aA))), (1, (eI a1)), (10, (eI i10)), (11, (eI j11)), (43, (aF ((decide (i10 ≤ j11)) && x43)))] ∧ aL ⟨H0, [lo0p], []⟩ H [(lo0p, 1, List.map (eI) aA)]) ?_ ?_
  · refine lH 4 ?_
    refine nE (t := 33) (e := decide (i10 ≤ j11)) (by kernel_rfl) (fun hg45 => ?_) (fun hg45 => ?_)
    · refine cB 7 [0 ≤ i10 ∧ i10 < (lN aA)] ⟨(c41 hg45), trivial⟩ ?_
      refine iQ 0 lo0p 1 (0 + Int.toNat i10) (eI (gD aA i10)) (eI (gD aA i10)) (List.map (eI) aA) (by kernel_rfl) (by kernel_rfl) (by kernel_rfl) hO (by kernel_rfl) (bV (c41 hg45)) ?_
      refine cB 11 [0 ≤ a1 ∧ a1 < (lN aA)] ⟨(c42 hg45), trivial⟩ ?_
      refine iQ 0 lo0p 1 (0 + Int.toNat a1) (eI (gD aA a1)) (eI (gD aA a1)) (List.map (eI) aA) (by kernel_rfl) (by kernel_rfl) (by kernel_rfl) hO (by kernel_rfl) (bV (c42 hg45)) ?_
      refine nD 70 [(eI (gD aA i10)), (eI (gD aA a1))] (aF x43) (by kernel_rfl) (by kernel_rfl) (eU (gD aA i10) (gD aA a1) _ (kA hx44 hg45)) hO ?_
      intro H hO
      refine jS ?_
      exact ⟨⟨[(0, (.msl 1 lo0p 0 (List.length aA))), (1, (eI a1)), (10, (eI i10)), (11, (eI j11)), (43, (aF x43))], by kernel_rfl, rfl, ⟨aN.refl _, aN.refl _, aN.refl _, aN.refl _, aN.eq (congrArg aF (lX hg45 rfl).symm), trivial⟩⟩, hO⟩
    refine jS ?_
    exact ⟨⟨[(0, (.msl 1 lo0p 0 (List.length aA))), (1, (eI a1)), (10, (eI i10)), (11, (eI j11)), (43, (aF false))], by kernel_rfl, rfl, ⟨aN.refl _, aN.refl _, aN.refl _, aN.refl _, aN.eq (congrArg aF (lX hg45 rfl).symm), trivial⟩⟩, hO⟩
  · rintro T H ⟨hT, hO⟩
    refine cW hT ?_
    clear hT
    refine aI (aH ?_)
    refine bN h1 (fun h1 => ?_) (fun h1 => ?_)
    · refine bO ?_
      refine bH [(0, (.msl 1 lo0p 0 (List.length aA))), (1, (eI a1)), (10, (eI i10)), (11, (eI j11))] ?_
      refine cG 1 ?_
      refine aT aD 3 ?_
      refine bE ?_
      exact aI (aY (aH (⟨rfl, _, (oI h1).symm, .eq (by kernel_rfl), hO, hN⟩)))
    refine iP 0 ?_
    obtain rfl := oI h1
    obtain rfl : _ = rr0 := ho0
    replace h0 : gY aA a1 i10 j11 = some r := h0
    exact aI (aW (aW (cC (aH (⟨rfl, _, _, _, .eq (by kernel_rfl), hO, hN, h0⟩)))))

theorem sX  (rec : (List Int) → Int → Int → Int → Option (List Int)) (ih : ∀ (lo0p : Nat) (aA : (List Int)) (a1 : Int) (b2 : Int) (bW : Int) (r : List Int), rec aA a1 b2 bW = some r → mJ Try.prog 60 lo0p 1 (List.map (eI) aA) (List.map (eI) r) [(.msl 1 lo0p 0 (List.length aA)), (eI a1), (eI b2), (eI bW)] (.tup [])) (lo0p : Nat) (aA : (List Int)) (a1 : Int) (b2 : Int) (bW : Int) (r : List Int) (h0 : fH rec aA a1 b2 bW = some r) : mJ Try.prog 60 lo0p 1 (List.map (eI) aA) (List.map (eI) r) [(.msl 1 lo0p 0 (List.length aA)), (eI a1), (eI b2), (eI bW)] (.tup []) := by
  intro H0 hl0
  refine dG Try.func60 ?_
  have hO := aL.oR hl0
  clear hl0
  obtain ⟨N0, hN0⟩ : ∃ n, n = List.length aA := ⟨_, rfl⟩
  have hN : List.length aA = N0 := hN0.symm
  unfold fH at h0
  refine aS aD 1 [] [(8, (aF true))] ?_
  refine aS aD 1 [] [(9, (aF true))] ?_
  refine cG 0 ?_
  refine gR [(0, (.msl 1 lo0p 0 (List.length aA))), (1, (eI a1)), (2, (eI b2)), (3, (eI bW)), (8, (aF true)), (9, (aF true))] ?_
  refine fG (fun T H => ∃ aA : List Int, ∃ a1 : Int, ∃ b2 : Int, ∃ bW : Int, ∃ bP : Bool, ∃ bG : Bool, Has T [(0, (.msl 1 lo0p 0 (List.length aA))), (1, (eI a1)), (2, (eI b2)), (3, (eI bW)), (8, (aF bP)), (9, (aF bG))] ∧ aL ⟨H0, [lo0p], []⟩ H [(lo0p, 1, List.map (eI) aA)] ∧ List.length aA = N0 ∧ kI rec aA a1 b2 bW bP bG = some r) ?_ ⟨aA, a1, b2, bW, true, true, .eq (by kernel_rfl), hO, hN, h0⟩
  clear hO hN h0
  rintro T H ⟨aA, a1, b2, bW, bP, bG, hT, hO, hN, h0⟩
  refine bF hT ?_
  clear hT
  unfold kI at h0
  obtain ⟨rr0, hl0, h0⟩ := aV h0
  refine dN (by kernel_rfl) (fun (s : List Int × Int × Int × Int × Bool × Bool) T H => Has T [(0, (.msl 1 lo0p 0 (List.length s.1))), (1, (eI s.2.1)), (2, (eI s.2.2.1)), (3, (eI s.2.2.2.1)), (8, (aF s.2.2.2.2.1)), (9, (aF s.2.2.2.2.2))] ∧ aL ⟨H0, [lo0p], []⟩ H [(lo0p, 1, List.map (eI) s.1)] ∧ List.length s.1 = N0) hl0 ⟨.eq (by kernel_rfl), hO, hN⟩ ?_
  clear hO hN
  rintro k0 s out1 T H ⟨hT, hO, hN⟩ h1 ho0
  obtain ⟨aA, a1, b2, bW, bP, bG⟩ := s
  replace h1 : dV rec aA a1 b2 bW bP bG = some out1 := h1
  try dsimp only at hT
  refine bF hT ?_
  clear hT
  unfold dV at h1
  refine cG 1 ?_
  refine aS aD 4 [] [(10, (eI (wR (b2 - a1))))] ?_
  refine aO ?_
  refine aS aD 2 [] [(23, (aF (decide ((wR (b2 - a1)) ≤ (12 : Int)))))] ?_
  refine bN h1 (fun h1 => ?_) (fun h1 => ?_)
  · refine aO ?_
    refine aT aD 4 ?_
    refine bR 3 ?_
    obtain ⟨x2, hx3, h1⟩ := aV h1
    refine uI [(lo0p, 1, List.map (eI) x2)] 0 (sD lo0p aA a1 b2 _ hx3) hO ?_
    intro H hO hl4
    simp only [List.length_map] at hl4
    replace hN := hl4.trans hN
    refine fM ?_
    refine cW (l := [(0, (.msl 1 lo0p 0 (List.length x2)))]) ⟨[(0, (.msl 1 lo0p 0 (List.length aA)))], by kernel_rfl, rfl, ⟨aN.eq (by simp [hl4]), trivial⟩⟩ ?_
    refine aI (aH (?_))
    refine bJ ?_
    obtain rfl := oI h1
    obtain rfl : _ = rr0 := ho0
    replace h0 : some x2 = some r := h0
    obtain rfl := oI h0
    exact aI (aR (bM (aR (bM (jY (x := (.tup [])) (by kernel_rfl) (aN.refl _) ⟨rfl, hO.ext, hO.at 0 (by kernel_rfl), by simp only [List.length_map]; exact hN.trans hN0⟩)))))
  refine bO ?_
  refine bH [(0, (.msl 1 lo0p 0 (List.length aA))), (1, (eI a1)), (2, (eI b2)), (3, (eI bW)), (8, (aF bP)), (9, (aF bG)), (10, (eI (wR (b2 - a1))))] ?_
  refine aO ?_
  refine aS aD 2 [] [(29, (aF (decide (bW = (0 : Int)))))] ?_
  refine bN h1 (fun h1 => ?_) (fun h1 => ?_)
  · refine aO ?_
    refine aT aD 4 ?_
    refine bR 3 ?_
    obtain ⟨x6, hx7, h1⟩ := aV h1
    refine uI [(lo0p, 1, List.map (eI) x6)] 0 (uN lo0p aA a1 b2 _ hx7) hO ?_
    intro H hO hl8
    simp only [List.length_map] at hl8
    replace hN := hl8.trans hN
    refine fM ?_
    refine cW (l := [(0, (.msl 1 lo0p 0 (List.length x6)))]) ⟨[(0, (.msl 1 lo0p 0 (List.length aA)))], by kernel_rfl, rfl, ⟨aN.eq (by simp [hl8]), trivial⟩⟩ ?_
    refine aI (aH (?_))
    refine bJ ?_
    obtain rfl := oI h1
    obtain rfl : _ = rr0 := ho0
    replace h0 : some x6 = some r := h0
    obtain rfl := oI h0
    exact aI (aR (bM (aR (bM (jY (x := (.tup [])) (by kernel_rfl) (aN.refl _) ⟨rfl, hO.ext, hO.at 0 (by kernel_rfl), by simp only [List.length_map]; exact hN.trans hN0⟩)))))
  refine bO ?_
  refine bH [(0, (.msl 1 lo0p 0 (List.length aA))), (1, (eI a1)), (2, (eI b2)), (3, (eI bW)), (8, (aF bP)), (9, (aF bG)), (10, (eI (wR (b2 - a1))))] ?_
  refine iA (fun T H => ∃ aA : List Int, ∃ bW : Int, ∃ dL : Int, Has T [(0, (.msl 1 lo0p 0 (List.length aA))), (1, (eI a1)), (2, (eI b2)), (3, (eI bW)), (8, (aF bP)), (9, (aF bG)), (10, (eI dL))] ∧ aL ⟨H0, [lo0p], []⟩ H [(lo0p, 1, List.map (eI) aA)] ∧ List.length aA = N0 ∧ gE rec aA a1 b2 bW bP bG dL = some out1) ?_ ?_
  · clear hO hN h1
    rintro T H ⟨aA, bW, dL, hT, hO, hN, h1⟩
    refine bF hT ?_
    clear hT
    unfold gE at h1
    refine aO ?_
    refine aT aD 9 ?_
    refine bR 3 ?_
    obtain ⟨x9, hx10, h1⟩ := aV h1
    refine yH [] [0] (tG lo0p aA a1 b2 _ hx10) hO ?_
    intro r11 L12 H hP13 hO
    obtain ⟨rfl, rfl⟩ := hP13
    replace hO : aL ⟨H0, [lo0p], []⟩ H [(lo0p, 1, List.map (eI) aA)] := hO
    refine bE ?_
    refine bX [] [(11, (eI x9.1)), (12, (eI x9.2))] ?_
    refine iA (fun T H => ∃ aA : List Int, ∃ fF : Int, ∃ yJ : Int, Has T [(0, (.msl 1 lo0p 0 (List.length aA))), (1, (eI a1)), (2, (eI b2)), (3, (eI bW)), (8, (aF bP)), (9, (aF bG)), (10, (eI dL)), (11, (eI fF)), (12, (eI yJ))] ∧ aL ⟨H0, [lo0p], []⟩ H [(lo0p, 1, List.map (eI) aA)] ∧ List.length aA = N0 ∧ fZ rec aA a1 b2 bW bP bG dL fF yJ = some out1) ?_ ?_
    · clear hO hN h1
      rintro T H ⟨aA, fF, yJ, hT, hO, hN, h1⟩
      refine bF hT ?_
      clear hT
      unfold fZ at h1
      refine iA (fun T H => ∃ aA : List Int, Has T [(0, (.msl 1 lo0p 0 (List.length aA))), (1, (eI a1)), (2, (eI b2)), (3, (eI bW)), (8, (aF bP)), (9, (aF bG)), (10, (eI dL)), (11, (eI fF))] ∧ aL ⟨H0, [lo0p], []⟩ H [(lo0p, 1, List.map (eI) aA)] ∧ List.length aA = N0 ∧ gC rec aA a1 b2 bW bP bG dL fF = some out1) ?_ ?_
      · clear hO hN h1
        rintro T H ⟨aA, hT, hO, hN, h1⟩
        refine bF hT ?_
        clear hT
        unfold gC at h1
        refine aO ?_
        refine aO ?_
        obtain ⟨c14, h1⟩ := aU h1
        obtain ⟨c15, h1⟩ := aU h1
        obtain ⟨x16, hx17, h1⟩ := aV h1
        refine fN (fK []) aD 15 ?_
        refine oF (K := fun T H => Has (lift T) [(0, (.msl 1 lo0p 0 (List.length aA))), (1, (eI a1)), (2, (eI b2)), (3, (eI bW)), (8, (aF bP)), (9, (aF bG)), (10, (eI dL)), (11, (eI fF)), (87, (aF ((decide ((0 : Int) < a1)) && (!x16))))] ∧ aL ⟨H0, [lo0p], []⟩ H [(lo0p, 1, List.map (eI) aA)]) ?_ ?_
        · refine lH 3 ?_
          refine nE (t := 75) (e := decide ((0 : Int) < a1)) (by kernel_rfl) (fun hg18 => ?_) (fun hg18 => ?_)
          · refine cB 7 [0 ≤ (wR (a1 - (1 : Int))) ∧ (wR (a1 - (1 : Int))) < (lN aA)] ⟨(c14 hg18), trivial⟩ ?_
            refine iQ 0 lo0p 1 (0 + Int.toNat (wR (a1 - (1 : Int)))) (eI (gD aA (wR (a1 - (1 : Int))))) (eI (gD aA (wR (a1 - (1 : Int))))) (List.map (eI) aA) (by kernel_rfl) (by kernel_rfl) (by kernel_rfl) hO (by kernel_rfl) (bV (c14 hg18)) ?_
            refine cB 11 [0 ≤ fF ∧ fF < (lN aA)] ⟨(c15 hg18), trivial⟩ ?_
            refine iQ 0 lo0p 1 (0 + Int.toNat fF) (eI (gD aA fF)) (eI (gD aA fF)) (List.map (eI) aA) (by kernel_rfl) (by kernel_rfl) (by kernel_rfl) hO (by kernel_rfl) (bV (c15 hg18)) ?_
            refine nD 70 [(eI (gD aA (wR (a1 - (1 : Int))))), (eI (gD aA fF))] (aF x16) (by kernel_rfl) (by kernel_rfl) (eU (gD aA (wR (a1 - (1 : Int)))) (gD aA fF) _ (kA hx17 hg18)) hO ?_
            intro H hO
            refine jS ?_
            exact ⟨⟨[(0, (.msl 1 lo0p 0 (List.length aA))), (1, (eI a1)), (2, (eI b2)), (3, (eI bW)), (8, (aF bP)), (9, (aF bG)), (10, (eI dL)), (11, (eI fF)), (87, (aF (!x16)))], by kernel_rfl, rfl, ⟨aN.refl _, aN.refl _, aN.refl _, aN.refl _, aN.refl _, aN.refl _, aN.refl _, aN.refl _, aN.eq (congrArg aF (lX hg18 rfl).symm), trivial⟩⟩, hO⟩
          refine jS ?_
          exact ⟨⟨[(0, (.msl 1 lo0p 0 (List.length aA))), (1, (eI a1)), (2, (eI b2)), (3, (eI bW)), (8, (aF bP)), (9, (aF bG)), (10, (eI dL)), (11, (eI fF)), (87, (aF false))], by kernel_rfl, rfl, ⟨aN.refl _, aN.refl _, aN.refl _, aN.refl _, aN.refl _, aN.refl _, aN.refl _, aN.refl _, aN.eq (congrArg aF (lX hg18 rfl).symm), trivial⟩⟩, hO⟩
        · rintro T H ⟨hT, hO⟩
          refine cW hT ?_
          clear hT
          refine aI (aH ?_)
          refine bN h1 (fun h1 => ?_) (fun h1 => ?_)
          · refine aO ?_
            refine aT aD 6 ?_
            refine bR 4 ?_
            obtain ⟨x20, hx21, h1⟩ := aV h1
            refine uI [(lo0p, 1, List.map (eI) x20.2)] 0 (sA lo0p aA a1 b2 fF _ hx21) hO ?_
            intro H hO hl22
            simp only [List.length_map] at hl22
            replace hN := hl22.trans hN
            refine bE ?_
            refine cW (l := [(0, (.msl 1 lo0p 0 (List.length x20.2))), (2, (eI b2)), (3, (eI bW)), (8, (aF bP)), (9, (aF bG)), (13, (eI x20.1))]) ⟨[(0, (.msl 1 lo0p 0 (List.length aA))), (2, (eI b2)), (3, (eI bW)), (8, (aF bP)), (9, (aF bG)), (13, (eI x20.1))], by kernel_rfl, rfl, ⟨aN.eq (by simp [hl22]), aN.refl _, aN.refl _, aN.refl _, aN.refl _, aN.refl _, trivial⟩⟩ ?_
            refine aI (aH (?_))
            refine aS aD 2 [13] [(1, (eI x20.1))] ?_
            refine iP 1 ?_
            exact aI (aW (cC (aH (⟨rfl, _, (oI h1).symm, .eq (by kernel_rfl), hO, hN⟩))))
          refine bO ?_
          refine bH [(0, (.msl 1 lo0p 0 (List.length aA))), (1, (eI a1)), (2, (eI b2)), (3, (eI bW)), (10, (eI dL)), (11, (eI fF))] ?_
          refine aO ?_
          refine aT aD 10 ?_
          refine bR 4 ?_
          obtain ⟨x23, hx24, h1⟩ := aV h1
          refine uI [(lo0p, 1, List.map (eI) x23.2)] 0 (uB lo0p aA a1 b2 fF _ hx24) hO ?_
          intro H hO hl25
          simp only [List.length_map] at hl25
          replace hN := hl25.trans hN
          refine bE ?_
          refine cW (l := [(0, (.msl 1 lo0p 0 (List.length x23.2))), (1, (eI a1)), (2, (eI b2)), (3, (eI bW)), (10, (eI dL)), (14, (eI x23.1.1)), (15, (aF x23.1.2))]) ⟨[(0, (.msl 1 lo0p 0 (List.length aA))), (1, (eI a1)), (2, (eI b2)), (3, (eI bW)), (10, (eI dL)), (14, (eI x23.1.1)), (15, (aF x23.1.2))], by kernel_rfl, rfl, ⟨aN.eq (by simp [hl25]), aN.refl _, aN.refl _, aN.refl _, aN.refl _, aN.refl _, aN.refl _, trivial⟩⟩ ?_
          refine aI (aH (?_))
          refine aS aD 2 [15] [(9, (aF x23.1.2))] ?_
          refine aS aD 8 [] [(16, (eI (wR (x23.1.1 - a1)))), (17, (eI (wR (b2 - x23.1.1))))] ?_
          refine aO ?_
          refine aT aD 3 ?_
          obtain ⟨c26, h1⟩ := aU h1
          refine mX [(8 : Int) ≠ 0] ⟨c26, trivial⟩ ?_
          refine bX [10] [(18, (eI (wR (Int.tdiv dL (8 : Int)))))] ?_
          refine aS aD 3 [] [(113, (aF (decide ((wR (x23.1.1 - a1)) < (wR (b2 - x23.1.1))))))] ?_
          refine bN h1 (fun h1 => ?_) (fun h1 => ?_)
          · refine cH aD 4 [(0, (.msl 1 lo0p 0 (List.length x23.2))), (1, (eI a1)), (2, (eI b2)), (3, (eI bW)), (8, (aF (decide ((wR (Int.tdiv dL (8 : Int))) ≤ (wR (x23.1.1 - a1)))))), (9, (aF x23.1.2)), (14, (eI x23.1.1))] ?_
            refine aO ?_
            refine aT aD 5 ?_
            refine bR 4 ?_
            obtain ⟨x28, hx29, h1⟩ := aV h1
            refine uI [(lo0p, 1, List.map (eI) x28)] 0 (ih lo0p x23.2 a1 x23.1.1 bW _ hx29) hO ?_
            intro H hO hl30
            simp only [List.length_map] at hl30
            replace hN := hl30.trans hN
            refine fM ?_
            refine cW (l := [(0, (.msl 1 lo0p 0 (List.length x28))), (2, (eI b2)), (3, (eI bW)), (8, (aF (decide ((wR (Int.tdiv dL (8 : Int))) ≤ (wR (x23.1.1 - a1)))))), (9, (aF x23.1.2)), (14, (eI x23.1.1))]) ⟨[(0, (.msl 1 lo0p 0 (List.length x23.2))), (2, (eI b2)), (3, (eI bW)), (8, (aF (decide ((wR (Int.tdiv dL (8 : Int))) ≤ (wR (x23.1.1 - a1)))))), (9, (aF x23.1.2)), (14, (eI x23.1.1))], by kernel_rfl, rfl, ⟨aN.eq (by simp [hl30]), aN.refl _, aN.refl _, aN.refl _, aN.refl _, aN.refl _, trivial⟩⟩ ?_
            refine aI (aH (?_))
            refine aT aD 3 ?_
            refine bE ?_
            exact aI (aY (aH (⟨rfl, _, (oI h1).symm, .eq (by kernel_rfl), hO, hN⟩)))
          refine cH aD 4 [(0, (.msl 1 lo0p 0 (List.length x23.2))), (1, (eI a1)), (2, (eI b2)), (3, (eI bW)), (8, (aF (decide ((wR (Int.tdiv dL (8 : Int))) ≤ (wR (b2 - x23.1.1)))))), (9, (aF x23.1.2)), (14, (eI x23.1.1))] ?_
          refine aO ?_
          refine aT aD 6 ?_
          refine bR 5 ?_
          obtain ⟨x31, hx32, h1⟩ := aV h1
          refine uI [(lo0p, 1, List.map (eI) x31)] 0 (ih lo0p x23.2 (wR (x23.1.1 + (1 : Int))) b2 bW _ hx32) hO ?_
          intro H hO hl33
          simp only [List.length_map] at hl33
          replace hN := hl33.trans hN
          refine fM ?_
          refine cW (l := [(0, (.msl 1 lo0p 0 (List.length x31))), (1, (eI a1)), (3, (eI bW)), (8, (aF (decide ((wR (Int.tdiv dL (8 : Int))) ≤ (wR (b2 - x23.1.1)))))), (9, (aF x23.1.2)), (14, (eI x23.1.1))]) ⟨[(0, (.msl 1 lo0p 0 (List.length x23.2))), (1, (eI a1)), (3, (eI bW)), (8, (aF (decide ((wR (Int.tdiv dL (8 : Int))) ≤ (wR (b2 - x23.1.1)))))), (9, (aF x23.1.2)), (14, (eI x23.1.1))], by kernel_rfl, rfl, ⟨aN.eq (by simp [hl33]), aN.refl _, aN.refl _, aN.refl _, aN.refl _, aN.refl _, trivial⟩⟩ ?_
          refine aI (aH (?_))
          refine aT aD 2 ?_
          refine bE ?_
          exact aI (aY (aH (⟨rfl, _, (oI h1).symm, .eq (by kernel_rfl), hO, hN⟩)))
      refine aS aD 8 [12] [(68, (aF ((bP && bG) && (decide (yJ = (1 : Int))))))] ?_
      refine bN h1 (fun h1 => ?_) (fun h1 => ?_)
      · refine aO ?_
        refine aT aD 4 ?_
        refine bR 3 ?_
        obtain ⟨x35, hx36, h1⟩ := aV h1
        refine uI [(lo0p, 1, List.map (eI) x35.2)] 0 (oY lo0p aA a1 b2 _ hx36) hO ?_
        intro H hO hl37
        simp only [List.length_map] at hl37
        replace hN := hl37.trans hN
        refine fM ?_
        refine cW (l := [(0, (.msl 1 lo0p 0 (List.length x35.2))), (1, (eI a1)), (2, (eI b2)), (3, (eI bW)), (8, (aF bP)), (9, (aF bG)), (10, (eI dL)), (11, (eI fF)), (72, (aF x35.1))]) ⟨[(0, (.msl 1 lo0p 0 (List.length aA))), (1, (eI a1)), (2, (eI b2)), (3, (eI bW)), (8, (aF bP)), (9, (aF bG)), (10, (eI dL)), (11, (eI fF)), (72, (aF x35.1))], by kernel_rfl, rfl, ⟨aN.eq (by simp [hl37]), aN.refl _, aN.refl _, aN.refl _, aN.refl _, aN.refl _, aN.refl _, aN.refl _, aN.refl _, trivial⟩⟩ ?_
        refine aI (aH (?_))
        refine bN h1 (fun h1 => ?_) (fun h1 => ?_)
        · refine bJ ?_
          obtain rfl := oI h1
          obtain rfl : _ = rr0 := ho0
          replace h0 : some x35.2 = some r := h0
          obtain rfl := oI h0
          exact aI (aR (bM (aR (bM (jY (x := (.tup [])) (by kernel_rfl) (aN.refl _) ⟨rfl, hO.ext, hO.at 0 (by kernel_rfl), by simp only [List.length_map]; exact hN.trans hN0⟩)))))
        refine bO ?_
        exact aI (aH (⟨rfl, _, .eq (by kernel_rfl), hO, hN, h1⟩))
      refine bO ?_
      exact aI (aH (⟨rfl, _, .eq (by kernel_rfl), hO, hN, h1⟩))
    refine aS aD 2 [] [(50, (aF (decide (x9.2 = (2 : Int)))))] ?_
    refine bN h1 (fun h1 => ?_) (fun h1 => ?_)
    · refine aO ?_
      refine aT aD 4 ?_
      refine bR 3 ?_
      obtain ⟨x40, hx41, h1⟩ := aV h1
      refine uI [(lo0p, 1, List.map (eI) x40)] 0 (tA lo0p aA a1 b2 _ hx41) hO ?_
      intro H hO hl42
      simp only [List.length_map] at hl42
      replace hN := hl42.trans hN
      refine fM ?_
      refine cW (l := [(0, (.msl 1 lo0p 0 (List.length x40))), (1, (eI a1)), (2, (eI b2)), (3, (eI bW)), (8, (aF bP)), (9, (aF bG)), (10, (eI dL)), (11, (eI x9.1))]) ⟨[(0, (.msl 1 lo0p 0 (List.length aA))), (1, (eI a1)), (2, (eI b2)), (3, (eI bW)), (8, (aF bP)), (9, (aF bG)), (10, (eI dL)), (11, (eI x9.1))], by kernel_rfl, rfl, ⟨aN.eq (by simp [hl42]), aN.refl _, aN.refl _, aN.refl _, aN.refl _, aN.refl _, aN.refl _, aN.refl _, trivial⟩⟩ ?_
      refine aI (aH (?_))
      refine aS aD 7 [11] [(11, (eI (wR ((wR (b2 - (1 : Int))) - (wR (x9.1 - a1))))))] ?_
      refine aT aD 1 ?_
      refine bE ?_
      exact aI (aH (⟨rfl, _, _, _, .eq (by kernel_rfl), hO, hN, h1⟩))
    refine bO ?_
    exact aI (aH (⟨rfl, _, _, _, .eq (by kernel_rfl), hO, hN, h1⟩))
  refine aS aD 2 [] [(35, (aF (!bP)))] ?_
  refine bN h1 (fun h1 => ?_) (fun h1 => ?_)
  · refine aO ?_
    refine aT aD 4 ?_
    refine bR 3 ?_
    obtain ⟨x44, hx45, h1⟩ := aV h1
    refine uI [(lo0p, 1, List.map (eI) x44)] 0 (sH lo0p aA a1 b2 _ hx45) hO ?_
    intro H hO hl46
    simp only [List.length_map] at hl46
    replace hN := hl46.trans hN
    refine fM ?_
    refine cW (l := [(0, (.msl 1 lo0p 0 (List.length x44))), (1, (eI a1)), (2, (eI b2)), (3, (eI bW)), (8, (aF bP)), (9, (aF bG)), (10, (eI (wR (b2 - a1))))]) ⟨[(0, (.msl 1 lo0p 0 (List.length aA))), (1, (eI a1)), (2, (eI b2)), (3, (eI bW)), (8, (aF bP)), (9, (aF bG)), (10, (eI (wR (b2 - a1))))], by kernel_rfl, rfl, ⟨aN.eq (by simp [hl46]), aN.refl _, aN.refl _, aN.refl _, aN.refl _, aN.refl _, aN.refl _, trivial⟩⟩ ?_
    refine aI (aH (?_))
    refine aT aD 3 ?_
    refine bE ?_
    exact aI (aH (⟨rfl, _, _, _, .eq (by kernel_rfl), hO, hN, h1⟩))
  refine bO ?_
  exact aI (aH (⟨rfl, _, _, _, .eq (by kernel_rfl), hO, hN, h1⟩))

theorem oD  : ∀ (k : Nat) (lo0p : Nat) (aA : (List Int)) (a1 : Int) (b2 : Int) (bW : Int) (r : List Int), cX k aA a1 b2 bW = some r → mJ Try.prog 60 lo0p 1 (List.map (eI) aA) (List.map (eI) r) [(.msl 1 lo0p 0 (List.length aA)), (eI a1), (eI b2), (eI bW)] (.tup [])
  | 0, _, _, _, _, _, _, h => by cases h
  | k + 1, lo0p, aA, a1, b2, bW, r, h => sX  _ (oD  k) lo0p aA a1 b2 bW r h

theorem vE (lo0p : Nat) (aA : (List Int)) (a1 : Int) (b2 : Int) (bW : Int) (r : List Int) (h0 : iV aA a1 b2 bW = some r) : mJ Try.prog 60 lo0p 1 (List.map (eI) aA) (List.map (eI) r) [(.msl 1 lo0p 0 (List.length aA)), (eI a1), (eI b2), (eI bW)] (.tup []) := by
  obtain ⟨k, hk⟩ := HH h0
  exact oD  k lo0p aA a1 b2 bW r hk

theorem yQ (lo0p : Nat) (x0 : (List Int)) (r : List Int) (h0 : jU x0 = some r) : mJ Try.prog 33 lo0p 1 (List.map (eI) x0) (List.map (eI) r) [(.msl 1 lo0p 0 (List.length x0))] (.tup []) := by
  intro H0 hl0
  refine dG Try.func33 ?_
  have hO := aL.oR hl0
  clear hl0
  obtain ⟨N0, hN0⟩ : ∃ n, n = List.length x0 := ⟨_, rfl⟩
  have hN : List.length x0 = N0 := hN0.symm
  unfold jU at h0
  refine aS aD 3 [] [(2, (eI (lN x0)))] ?_
  refine aT aD 6 ?_
  refine bR 4 ?_
  obtain ⟨x1, hx2, h0⟩ := aV h0
  refine dU (xR (IntKind.u64.wrap (lN x0)) _ hx2) hO ?_
  intro H hO
  obtain ⟨x4, hx5, h0⟩ := aV h0
  refine uI [(lo0p, 1, List.map (eI) x4)] 0 (vE lo0p x0 (0 : Int) (lN x0) x1 _ hx5) hO ?_
  intro H hO hl6
  simp only [List.length_map] at hl6
  replace hN := hl6.trans hN
  refine fM ?_
  refine cW (l := [(0, (.msl 1 lo0p 0 (List.length x4)))]) ⟨[(0, (.msl 1 lo0p 0 (List.length x0)))], by kernel_rfl, rfl, ⟨aN.eq (by simp [hl6]), trivial⟩⟩ ?_
  obtain rfl := oI h0
  exact aI (vX (x := (.tup [])) (by kernel_rfl) (aN.refl _) ⟨rfl, hO.ext, hO.at 0 (by kernel_rfl), by simp only [List.length_map]; exact hN.trans hN0⟩)

theorem wT (lo0p : Nat) (s0 : (List Int)) (r : (List Int)) (h0 : iS s0 = some r) : xU Try.prog 69 lo0p 1 (List.map (eI) s0) [(.msl 1 lo0p 0 (List.length s0))] (fun lo => .msl 1 lo 0 (List.length r)) (List.map (eI) r) := by
  intro H0 hl0
  refine dG Try.func69 ?_
  have hO := aL.oR hl0
  clear hl0
  unfold iS at h0
  refine aS aD 1 [] [] ?_
  refine aO ?_
  refine aS aD 3 [] [(8, (aF (decide ((lN s0) < (2 : Int)))))] ?_
  refine bN h0 (fun h0 => ?_) (fun h0 => ?_)
  · refine cH aD 2 [(2, (.msl 1 lo0p 0 (List.length s0)))] ?_
    refine bJ ?_
    obtain rfl := oI h0
    exact aI (aR (jY (x := (.msl 1 lo0p 0 (List.length s0))) (by kernel_rfl) (aN.refl _) ⟨lo0p, rfl, hO⟩))
  refine bO ?_
  refine bH [(0, (.msl 1 lo0p 0 (List.length s0)))] ?_
  refine iA (fun T H => ∃ s0 : List Int, ∃ lo2 : Nat, Has T [(0, (.msl 1 lo2 0 (List.length s0)))] ∧ aL ⟨H0, [lo0p], []⟩ H [(lo2, 1, List.map (eI) s0)] ∧ jM s0 = some r) ?_ ?_
  · clear hO h0
    rintro T H ⟨s0, lo2, hT, hO, h0⟩
    refine bF hT ?_
    clear hT
    unfold jM at h0
    refine cH aD 2 [(2, (.msl 1 lo2 0 (List.length s0)))] ?_
    refine bJ ?_
    obtain rfl := oI h0
    exact aI (jY (x := (.msl 1 lo2 0 (List.length s0))) (by kernel_rfl) (aN.refl _) ⟨lo2, rfl, hO⟩)
  refine aS aD 1 [] [(3, (eI (1 : Int)))] ?_
  refine cG 0 ?_
  refine gR [(0, (.msl 1 lo0p 0 (List.length s0))), (3, (eI (1 : Int)))] ?_
  refine fG (fun T H => ∃ s0 : List Int, ∃ k3 : Int, ∃ lo4 : Nat, Has T [(0, (.msl 1 lo4 0 (List.length s0))), (3, (eI k3))] ∧ aL ⟨H0, [lo0p], []⟩ H [(lo4, 1, List.map (eI) s0)] ∧ lB s0 k3 = some r) ?_ ⟨s0, (1 : Int), lo0p, .eq (by kernel_rfl), hO, h0⟩
  clear hO h0
  rintro T H ⟨s0, k3, lo4, hT, hO, h0⟩
  refine bF hT ?_
  clear hT
  unfold lB at h0
  obtain ⟨rr0, hl0, h0⟩ := aV h0
  refine dN (by kernel_rfl) (fun (s : List Int × Int) T H => ∃ lo4 : Nat, Has T [(0, (.msl 1 lo4 0 (List.length s.1))), (3, (eI s.2))] ∧ aL ⟨H0, [lo0p], []⟩ H [(lo4, 1, List.map (eI) s.1)]) hl0 ⟨lo4, .eq (by kernel_rfl), hO⟩ ?_
  clear hO
  rintro k0 s out1 T H ⟨lo4, hT, hO⟩ h1 ho0
  obtain ⟨s0, k3⟩ := s
  replace h1 : fU s0 k3 = some out1 := h1
  try dsimp only at hT
  refine bF hT ?_
  clear hT
  unfold fU at h1
  refine aO ?_
  refine aS aD 4 [] [(13, (aF (decide (k3 < (lN s0)))))] ?_
  refine bN h1 (fun h1 => ?_) (fun h1 => ?_)
  · refine bO ?_
    refine bH [(0, (.msl 1 lo4 0 (List.length s0))), (3, (eI k3))] ?_
    refine iA (fun T H => ∃ s0 : List Int, ∃ k3 : Int, ∃ lo6 : Nat, Has T [(0, (.msl 1 lo6 0 (List.length s0))), (3, (eI k3))] ∧ aL ⟨H0, [lo0p], []⟩ H [(lo6, 1, List.map (eI) s0)] ∧ lC s0 k3 = some out1) ?_ ?_
    · clear hO h1
      rintro T H ⟨s0, k3, lo6, hT, hO, h1⟩
      refine bF hT ?_
      clear hT
      unfold lC at h1
      refine aT aD 3 ?_
      refine bE ?_
      exact aI (aH (⟨rfl, _, (oI h1).symm, _, .eq (by kernel_rfl), hO⟩))
    refine cG 1 ?_
    refine aO ?_
    refine fN (fK []) aD 10 ?_
    obtain ⟨c7, h1⟩ := aU h1
    refine cB 3 [0 ≤ k3 ∧ k3 < (lN s0)] ⟨c7, trivial⟩ ?_
    refine fD 0 lo4 1 (0 + Int.toNat k3) (eI (gD s0 k3)) (eI (gD s0 k3)) (List.map (eI) s0) hO (bV c7) ?_
    obtain ⟨c8, h1⟩ := aU h1
    refine cB 8 [0 ≤ (wR (k3 - (1 : Int))) ∧ (wR (k3 - (1 : Int))) < (lN s0)] ⟨c8, trivial⟩ ?_
    refine fD 0 lo4 1 (0 + Int.toNat (wR (k3 - (1 : Int)))) (eI (gD s0 (wR (k3 - (1 : Int))))) (eI (gD s0 (wR (k3 - (1 : Int))))) (List.map (eI) s0) hO (bV c8) ?_
    refine jS ?_
    refine bX [] [(25, (aF (decide ((gD s0 k3) = (gD s0 (wR (k3 - (1 : Int))))))))] ?_
    refine bN h1 (fun h1 => ?_) (fun h1 => ?_)
    · refine aO ?_
      refine aT aD 4 ?_
      obtain ⟨c10, h1⟩ := aU h1
      refine mX [0 ≤ k3 ∧ k3 ≤ (lN s0)] ⟨c10, trivial⟩ ?_
      refine bX [25] [(4, (.msl 1 lo4 (0 + Int.toNat k3) (List.length s0 - Int.toNat k3)))] ?_
      refine iA (fun T H => ∃ s0 : List Int, ∃ k3 : Int, ∃ lo11 : Nat, Has T [(0, (.msl 1 lo11 0 (List.length s0))), (3, (eI k3))] ∧ aL ⟨H0, [lo0p], []⟩ H [(lo11, 1, List.map (eI) s0)] ∧ jH s0 k3 = some out1) ?_ ?_
      · clear hO h1
        rintro T H ⟨s0, k3, lo11, hT, hO, h1⟩
        refine bF hT ?_
        clear hT
        unfold jH at h1
        refine aO ?_
        refine aT aD 4 ?_
        obtain ⟨c12, h1⟩ := aU h1
        refine uC 3 [0 ≤ k3 ∧ k3 ≤ (lN s0)] ⟨c12, trivial⟩ ?_
        refine XQ (t := 25) (m := (0 + Int.toNat k3)) (nn := (List.length s0 - Int.toNat k3)) s0 0 lo11 [(lo11, 1, List.map (eI) (iZ (0 + Int.toNat k3) s0))] hO (by omega) ?_
        intro H hO
        refine fM ?_
        refine cW (l := [(0, (.msl 1 lo11 0 (List.length (iZ (0 + Int.toNat k3) s0)))), (3, (eI k3))]) ⟨[(0, (.msl 1 lo11 0 (List.length s0))), (3, (eI k3))], by kernel_rfl, rfl, ⟨aN.eq (by simp [clearL_len]), aN.refl _, trivial⟩⟩ ?_
        refine aI (aH (?_))
        refine aO ?_
        refine aT aD 4 ?_
        obtain ⟨c13, h1⟩ := aU h1
        obtain ⟨c14, h1⟩ := aU h1
        refine mX [0 ≤ k3 ∧ k3 ≤ (lN (iZ (0 + Int.toNat k3) s0))] ⟨c13, trivial⟩ ?_
        refine bH [(2, (.msl 1 lo11 0 (Int.toNat k3)))] ?_
        refine bJ ?_
        refine cW (l := [(2, (.msl 1 lo11 0 (List.length (List.take (Int.toNat k3) (iZ (0 + Int.toNat k3) s0)))))]) ⟨[(2, (.msl 1 lo11 0 (Int.toNat k3)))], by kernel_rfl, rfl, ⟨aN.eq (by rw [List.length_take, Nat.min_eq_left c14]), trivial⟩⟩ ?_
        refine ZH (en := (eI)) (iZ (0 + Int.toNat k3) s0) (Int.toNat k3) 0 1 lo11 [(lo11, 1, List.map (eI) (List.take (Int.toNat k3) (iZ (0 + Int.toNat k3) s0)))] hO (by kernel_rfl) (by kernel_rfl) ?_
        intro H hO
        obtain rfl := oI h1
        obtain rfl : _ = rr0 := ho0
        replace h0 : some (List.take (Int.toNat k3) (iZ (0 + Int.toNat k3) s0)) = some r := h0
        obtain rfl := oI h0
        exact aI (bM (aR (aR (bM (aR (jY (x := (.msl 1 lo11 0 (List.length (List.take (Int.toNat k3) (iZ (0 + Int.toNat k3) s0))))) (by kernel_rfl) (aN.refl _) ⟨lo11, rfl, hO⟩))))))
      refine aS aD 1 [] [(5, (eI (1 : Int)))] ?_
      refine cG 2 ?_
      refine gR [(0, (.msl 1 lo4 0 (List.length s0))), (3, (eI k3)), (4, (.msl 1 lo4 (0 + Int.toNat k3) (List.length s0 - Int.toNat k3))), (5, (eI (1 : Int)))] ?_
      refine fG (fun T H => ∃ s0 : List Int, ∃ k3 : Int, ∃ k25 : Int, ∃ s24o : Nat, ∃ s24n : Nat, ∃ lo16 : Nat, Has T [(0, (.msl 1 lo16 0 (List.length s0))), (3, (eI k3)), (4, (.msl 1 lo16 s24o s24n)), (5, (eI k25))] ∧ aL ⟨H0, [lo0p], []⟩ H [(lo16, 1, List.map (eI) s0)] ∧ lA s0 k3 k25 s24o s24n = some out1) ?_ ⟨s0, k3, (1 : Int), (0 + Int.toNat k3), (List.length s0 - Int.toNat k3), lo4, .eq (by kernel_rfl), hO, h1⟩
      clear hO h1
      rintro T H ⟨s0, k3, k25, s24o, s24n, lo16, hT, hO, h1⟩
      refine bF hT ?_
      clear hT
      unfold lA at h1
      obtain ⟨rr1, hl1, h1⟩ := aV h1
      refine dN (by kernel_rfl) (fun (s : List Int × Int × Int) T H => ∃ lo16 : Nat, Has T [(0, (.msl 1 lo16 0 (List.length s.1))), (3, (eI s.2.1)), (4, (.msl 1 lo16 s24o s24n)), (5, (eI s.2.2))] ∧ aL ⟨H0, [lo0p], []⟩ H [(lo16, 1, List.map (eI) s.1)]) hl1 ⟨lo16, .eq (by kernel_rfl), hO⟩ ?_
      clear hO
      rintro k1 s out2 T H ⟨lo16, hT, hO⟩ h2 ho1
      obtain ⟨s0, k3, k25⟩ := s
      replace h2 : eS s24o s24n s0 k3 k25 = some out2 := h2
      try dsimp only at hT
      refine bF hT ?_
      clear hT
      unfold eS at h2
      refine aO ?_
      refine aS aD 4 [] [(32, (aF (decide (k25 < ((s24n : Nat) : Int)))))] ?_
      refine bN h2 (fun h2 => ?_) (fun h2 => ?_)
      · refine bO ?_
        refine bH [(0, (.msl 1 lo16 0 (List.length s0))), (3, (eI k3)), (4, (.msl 1 lo16 s24o s24n)), (5, (eI k25))] ?_
        refine iA (fun T H => ∃ s0 : List Int, ∃ k3 : Int, ∃ lo18 : Nat, Has T [(0, (.msl 1 lo18 0 (List.length s0))), (3, (eI k3)), (4, (.msl 1 lo18 s24o s24n)), (5, (eI k25))] ∧ aL ⟨H0, [lo0p], []⟩ H [(lo18, 1, List.map (eI) s0)] ∧ iG s0 k3 k25 s24o s24n = some out2) ?_ ?_
        · clear hO h2
          rintro T H ⟨s0, k3, lo18, hT, hO, h2⟩
          refine bF hT ?_
          clear hT
          unfold iG at h2
          refine aT aD 3 ?_
          refine bE ?_
          exact aI (aH (⟨rfl, _, (oI h2).symm, _, .eq (by kernel_rfl), hO⟩))
        refine cG 3 ?_
        refine aO ?_
        refine fN (fK []) aD 10 ?_
        obtain ⟨c19, h2⟩ := aU h2
        obtain ⟨c20, h2⟩ := aU h2
        refine cB 3 [0 ≤ k25 ∧ k25 < ((s24n : Nat) : Int)] ⟨c19, trivial⟩ ?_
        refine fD 0 lo16 1 (s24o + Int.toNat k25) (eI (List.getD s0 (s24o + Int.toNat k25) default)) (eI (List.getD s0 (s24o + Int.toNat k25) default)) (List.map (eI) s0) hO (GA c20) ?_
        obtain ⟨c21, h2⟩ := aU h2
        obtain ⟨c22, h2⟩ := aU h2
        refine cB 8 [0 ≤ (wR (k25 - (1 : Int))) ∧ (wR (k25 - (1 : Int))) < ((s24n : Nat) : Int)] ⟨c21, trivial⟩ ?_
        refine fD 0 lo16 1 (s24o + Int.toNat (wR (k25 - (1 : Int)))) (eI (List.getD s0 (s24o + Int.toNat (wR (k25 - (1 : Int)))) default)) (eI (List.getD s0 (s24o + Int.toNat (wR (k25 - (1 : Int)))) default)) (List.map (eI) s0) hO (GA c22) ?_
        refine jS ?_
        refine bX [] [(44, (aF (!decide ((List.getD s0 (s24o + Int.toNat k25) default) = (List.getD s0 (s24o + Int.toNat (wR (k25 - (1 : Int)))) default)))))] ?_
        refine bN h2 (fun h2 => ?_) (fun h2 => ?_)
        · refine aO ?_
          refine aT aD 8 ?_
          obtain ⟨c24, h2⟩ := aU h2
          obtain ⟨c25, h2⟩ := aU h2
          refine uC 5 [0 ≤ k25 ∧ k25 < ((s24n : Nat) : Int)] ⟨c24, trivial⟩ ?_
          refine oT 0 lo16 1 (s24o + Int.toNat k25) (eI (List.getD s0 (s24o + Int.toNat k25) default)) (eI (List.getD s0 (s24o + Int.toNat k25) default)) (List.map (eI) s0) hO (GA c25) ?_
          obtain ⟨c26, h2⟩ := aU h2
          refine uC 7 [0 ≤ k3 ∧ k3 < (lN s0)] ⟨c26, trivial⟩ ?_
          refine lT 0 lo16 1 (0 + Int.toNat k3) (eI (gD s0 k3)) (eI (List.getD s0 (s24o + Int.toNat k25) default)) (List.map (eI) s0) [(lo16, 1, List.map (eI) (List.set s0 (Int.toNat k3) (List.getD s0 (s24o + Int.toNat k25) default)))] hO (bV c26) (by simp only [List.set, fX]) ?_
          intro H hO
          refine fM ?_
          refine cW (l := [(0, (.msl 1 lo16 0 (List.length (List.set s0 (Int.toNat k3) (List.getD s0 (s24o + Int.toNat k25) default))))), (3, (eI k3)), (4, (.msl 1 lo16 s24o s24n)), (5, (eI k25))]) ⟨[(0, (.msl 1 lo16 0 (List.length s0))), (3, (eI k3)), (4, (.msl 1 lo16 s24o s24n)), (5, (eI k25))], by kernel_rfl, rfl, ⟨aN.eq (by simp []), aN.refl _, aN.refl _, aN.refl _, trivial⟩⟩ ?_
          refine aI (aH (?_))
          refine aT aD 3 ?_
          refine bE ?_
          exact aI (aY (aH (⟨rfl, _, _, _, .eq (by kernel_rfl), hO, h2⟩)))
        refine bO ?_
        exact aI (aY (aH (⟨rfl, _, _, _, .eq (by kernel_rfl), hO, h2⟩)))
      refine iP 2 ?_
      obtain rfl := oI h2
      obtain rfl : _ = rr1 := ho1
      replace h1 : jH s0 k3 = some out1 := h1
      exact aI (aW (aW (cC (aH (⟨rfl, _, _, _, .eq (by kernel_rfl), hO, h1⟩)))))
    refine bO ?_
    exact aI (aY (aH (⟨rfl, _, _, _, .eq (by kernel_rfl), hO, h1⟩)))
  refine iP 0 ?_
  obtain rfl := oI h1
  obtain rfl : _ = rr0 := ho0
  replace h0 : jM s0 = some r := h0
  exact aI (aW (aW (cC (aH (⟨rfl, _, _, .eq (by kernel_rfl), hO, h0⟩)))))

theorem uA (l0 : (List aE)) (r : (List Int)) (h0 : lK l0 = some r) : dI Try.prog 47 [(eL aG l0)] (eL (eI) r) := by
  intro H0
  refine CC aD Try.func47 (by kernel_rfl) (by kernel_rfl) (by kernel_rfl) ?_
  have hO := aL.start H0
  unfold lK at h0
  refine aS aD 1 [] [] ?_
  refine aO ?_
  refine aT aD 3 ?_
  refine rX (xs := []) (k := 1) (by kernel_rfl) (by kernel_rfl) ?_
  refine rH 1 (.sl true 0 (fun _ => .bad)) (eL (eI) ([])) (by kernel_rfl) (by kernel_rfl) (by kernel_rfl) (kH) (by kernel_rfl) (by kernel_rfl) hO ?_
  intro lo1 H hO
  refine QT 5 1 (fun _ => .bad) (by kernel_rfl) hO (by kernel_rfl) ?_
  intro lo2 H hO
  refine lT 0 lo1 1 0 (eL (eI) ([])) (.msl 1 lo2 0 (List.length ([] : List Int))) [(eL (eI) ([]))] [(lo1, 1, [(.msl 1 lo2 0 (List.length ([] : List Int)))]), (lo2, 1, List.map (eI) ([] : List Int))] hO rfl (by kernel_rfl) ?_
  intro H hO
  refine fM ?_
  refine bX [] [(3, (.lp lo1 0 0))] ?_
  refine aO ?_
  refine aO ?_
  refine aT aD 2 ?_
  refine bR 1 ?_
  obtain ⟨x3, hx4, h0⟩ := aV h0
  refine dU (yT l0 _ hx4) hO ?_
  intro H hO
  refine fM ?_
  refine bX [0] [(7, (.fn (.func 94) [] [(.rp (eL aG x3))]))] ?_
  refine cG 0 ?_
  refine gR [(3, (.lp lo1 0 0)), (7, (.fn (.func 94) [] [(.rp (eL aG x3))]))] ?_
  refine fG (fun T H => ∃ out3 : List Int, ∃ t7c0 : (List aE), ∃ lo5 : Nat, Has T [(3, (.lp lo1 0 0)), (7, (.fn (.func 94) [] [(.rp (eL aG t7c0))]))] ∧ aL ⟨H0, [], []⟩ H [(lo1, 1, [(.msl 1 lo5 0 (List.length out3))]), (lo5, 1, List.map (eI) out3)] ∧ pE out3 t7c0 = some r) ?_ ⟨([] : List Int), x3, lo2, .eq (by kernel_rfl), hO, h0⟩
  clear hO h0
  rintro T H ⟨out3, t7c0, lo5, hT, hO, h0⟩
  refine bF (l := [(3, (.lp lo1 0 0)), (7, (.fn (.func 94) [] [(.rp (eL aG t7c0))]))]) hT ?_
  clear hT
  unfold pE at h0
  obtain ⟨o0, hl0, h0⟩ := aV h0
  refine zE (fid := 94) (ys := []) (cs := [(.rp (eL aG t7c0))]) #[8] (fun (A : wJ) (b lL : Nat) (st : (List Int) ⊕ (List Int)) (G' : Gs) => Sum.elim (fun (s : List Int) => ∃ lo5 : Nat, G' = (lL, .raw (kT b A .ready none)) :: (up [(lo1, 1, [(.msl 1 lo5 0 (List.length s))]), (lo5, 1, List.map (eI) s)] ++ [])) (fun (s : List Int) => False) st) (.inl out3) o0 (.tup []) (by kernel_rfl) (by kernel_rfl) (by kernel_rfl) hO (fun _ _ => ⟨lo5, rfl⟩) ?_ ?_
  · intro b lL
    clear hO h0
    refine vC _ b (fun st t8 => rnd (fun (s : List Int) => nG t7c0 s t8) st) ?_ t7c0 _ _ hl0
    intro st t8 out1 rr hr
    obtain ⟨s, rfl, h1, rfl⟩ := PL hr
    clear hr
    intro Hr Gr hi hg
    obtain ⟨out3, rfl⟩ : ∃ x, x = s := ⟨_, rfl⟩
    dsimp only [Sum.elim_inl] at hi
    obtain ⟨lo5, rfl⟩ := hi
    replace h1 : nG t7c0 out3 t8 = some out1 := h1
    unfold nG at h1
    obtain ⟨E1, hE, hO⟩ := uZ hg
    refine vB (zZ (hO.gm 0 _ rfl).2 (by kernel_rfl) (by kernel_rfl) ?_)
    refine gR [(3, (.lp lo1 0 0)), (7, (.fn (.func 94) [] [(.rp (eL aG t7c0))])), (8, (aG t8))] ?_
    refine aT aD 2 ?_
    refine rH 3 (.agg [(.sl true 0 (fun _ => .bad)), (eI 0), (eI 0)]) (aG (aE.mk ([]) 0 0)) (by kernel_rfl) (by kernel_rfl) (by kernel_rfl) (AH (xs := [(.sl true 0 (fun _ => .bad)), (eI 0), (eI 0)]) (ys := [(eL aK ([])), (eI 0), (eI 0)]) ⟨kH, aN.refl _, aN.refl _, trivial⟩) (by kernel_rfl) (by kernel_rfl) hO ?_
    intro lo6 H hO
    refine lT 2 lo6 3 0 (aG (aE.mk ([]) 0 0)) (aG t8) [(aG (aE.mk ([]) 0 0))] [(lo1, 1, [(.msl 1 lo5 0 (List.length out3))]), (lo5, 1, List.map (eI) out3), (lo6, 3, [(aG t8)])] hO rfl (by kernel_rfl) ?_
    intro H hO
    refine fM ?_
    refine gK [(3, (.lp lo1 0 0)), (4, (.lp lo6 0 0))] ?_
    refine aI (⟨rfl, rfl, (hO.gm 0 _ rfl).2, ?_⟩)
    intro o1 ho1
    replace hO := hO.vT o1
    refine cG 1 ?_
    refine aT aD 6 ?_
    refine oT 0 lo1 1 0 (.msl 1 lo5 0 (List.length out3)) (.msl 1 lo5 0 (List.length out3)) [(.msl 1 lo5 0 (List.length out3))] hO rfl ?_
    refine bR 2 ?_
    refine oT 2 lo6 3 0 (aG t8) (eI t8.At) [(aG t8)] hO rfl ?_
    refine rX (xs := [(eI t8.At)]) (k := 1) (by kernel_rfl) (by kernel_rfl) ?_
    obtain ⟨c8, h1⟩ := aU h1
    refine CB (e := (eI)) out3 ([t8.At]) 1 lo5 1 8 (lJ [(eI t8.At)]) (fun lo7 => [(lo1, 1, [(.msl 1 lo5 0 (List.length out3))]), (lo7, 1, List.map (eI) (out3 ++ ([t8.At]))), (lo6, 3, [(aG t8)])]) (by kernel_rfl) (by kernel_rfl) hO (by kernel_rfl) (by kernel_rfl) c8 (fun _ => by kernel_rfl) ?_
    intro lo7 H hO
    refine lT 0 lo1 1 0 (.msl 1 lo5 0 (List.length out3)) (.msl 1 lo7 0 (List.length (out3 ++ ([t8.At])))) [(.msl 1 lo5 0 (List.length out3))] [(lo1, 1, [(.msl 1 lo7 0 (List.length (out3 ++ ([t8.At]))))]), (lo7, 1, List.map (eI) (out3 ++ ([t8.At]))), (lo6, 3, [(aG t8)])] hO rfl (by kernel_rfl) ?_
    intro H hO
    refine fM ?_
    refine gK [(3, (.lp lo1 0 0))] ?_
    replace hO := hO.pick (L' := [(lo1, 1, [(.msl 1 lo7 0 (List.length (out3 ++ ([t8.At]))))]), (lo7, 1, List.map (eI) (out3 ++ ([t8.At])))]) [0, 1] (by decide) (by kernel_rfl)
    obtain rfl := oI h1
    exact aI (aY (⟨(iK hO hE ho1 .dead).1, rfl, _, ⟨lo7, rfl⟩, (iK hO hE ho1 _).2⟩))
  · intro b lD9 lL H' G' hi hO
    rcases o0 with s | s
    · dsimp only [Sum.elim_inl] at hi
      obtain ⟨lo5, rfl⟩ := hi
      replace h0 : ((jU s).bind fun x10 => (iS x10).bind fun x13 => some x13) = some r := h0
      obtain ⟨hlL, hO⟩ := rW hO
      refine ⟨_, _, hlL, (by intro e; cases e), ?_⟩
      refine gK [(3, (.lp lo1 0 0))] ?_
      refine aI (aY (aH (?_)))
      refine aO ?_
      refine aT aD 2 ?_
      refine oT 0 lo1 1 0 (.msl 1 lo5 0 (List.length s)) (.msl 1 lo5 0 (List.length s)) [(.msl 1 lo5 0 (List.length s))] hO rfl ?_
      obtain ⟨x10, hx11, h0⟩ := aV h0
      refine uI [(lo1, 1, [(.msl 1 lo5 0 (List.length s))]), (lo5, 1, List.map (eI) x10)] 1 (yQ lo5 s _ hx11) hO ?_
      intro H hO hl12
      simp only [List.length_map] at hl12
      refine fM ?_
      refine gK [(3, (.lp lo1 0 0))] ?_
      replace hO : aL ⟨H0, [], (lD9, .raw xC) :: []⟩ H [(lo1, 1, [(.msl 1 lo5 0 (List.length x10))]), (lo5, 1, List.map (eI) x10)] := by simpa only [List.length_set, hl12] using hO
      refine aI (aH (?_))
      refine aO ?_
      refine aT aD 3 ?_
      refine oT 0 lo1 1 0 (.msl 1 lo5 0 (List.length x10)) (.msl 1 lo5 0 (List.length x10)) [(.msl 1 lo5 0 (List.length x10))] hO rfl ?_
      obtain ⟨x13, hx14, h0⟩ := aV h0
      refine NC (L' := fun lo15 => [(lo1, 1, [(.msl 1 lo5 0 (List.length x10))]), (lo15, 1, List.map (eI) x13)]) 1 lo5 1 (List.map (eI) x10) (List.map (eI) x13) 69 [(.msl 1 lo5 0 (List.length x10))] (fun lo15 => (.msl 1 lo15 0 (List.length x13))) (by kernel_rfl) (by kernel_rfl) (wT lo5 x10 _ hx14) hO (by kernel_rfl) (fun _ => by kernel_rfl) ?_
      intro lo15 H hO
      refine bE ?_
      refine gK [(2, (.msl 1 lo15 0 (List.length x13)))] ?_
      replace hO := hO.pick (L' := [(lo15, 1, List.map (eI) x13)]) [1] (by decide) (by kernel_rfl)
      refine aI (aH (?_))
      refine bJ ?_
      refine gK [(2, (.msl 1 lo15 0 (List.length x13)))] ?_
      refine xL (en := (eI)) x13 0 0 2 1 lo15 (List.length x13) hO (by kernel_rfl) (by kernel_rfl) (by kernel_rfl) (L' := []) (by kernel_rfl) ?_
      intro H16 hO
      obtain rfl := oI h0
      have hD := (hO.gm 0 _ rfl).2
      replace hO := (hO.vT .dead).wA
      exact aI (QM1 (.inr rfl) hD (rs := [.tmp 2]) (xs := [(eL (eI) x13)]) (x := (eL (eI) x13)) (by kernel_rfl) (YK (x := (eL (eI) x13)) (by kernel_rfl) xF) (by kernel_rfl) ⟨rfl, hO.out⟩)
    · exact hi.elim

theorem EO (l0 : (List aE)) (r : ((List Int) × Int)) (h0 : oE l0 = some r) : dI Try.prog 21 [(eL aG l0)] (.tup [(eL (eI) r.1), (eI r.2)]) := by
  intro H0
  refine dG Try.func21 ?_
  have hO := aL.start H0
  unfold oE at h0
  refine aS aD 2 [] [] ?_
  refine aO ?_
  refine aO ?_
  refine aT aD 3 ?_
  refine bR 1 ?_
  obtain ⟨x1, hx2, h0⟩ := aV h0
  refine dU (xD l0 (1 : Int) _ hx2) hO ?_
  intro H hO
  refine bE ?_
  refine bX [] [(4, (eI x1))] ?_
  refine aS aD 2 [] [(8, (aF (!decide (x1 = (0 : Int)))))] ?_
  refine bN h0 (fun h0 => ?_) (fun h0 => ?_)
  · refine cH aD 3 [(2, (.sl true 0 (fun _ => .bad))), (3, (eI x1))] ?_
    refine bJ ?_
    refine cW (l := [(2, (eL (eI) ([]))), (3, (eI x1))]) ⟨[(2, (.sl true 0 (fun _ => .bad))), (3, (eI x1))], by kernel_rfl, rfl, ⟨kH, aN.refl _, trivial⟩⟩ ?_
    obtain rfl := oI h0
    exact aI (aR (Q_r hO))
  refine bO ?_
  refine bH [(0, (eL aG l0))] ?_
  refine aO ?_
  refine aT aD 4 ?_
  refine bR 1 ?_
  obtain ⟨x5, hx6, h0⟩ := aV h0
  refine dU (uA l0 _ hx6) hO ?_
  intro H hO
  refine bE ?_
  refine bH [(2, (eL (eI) x5)), (3, (eI (0 : Int)))] ?_
  refine bJ ?_
  obtain rfl := oI h0
  exact aI (Q_r hO)

theorem vH (x0 : Int) (r : Bool) (h0 : mN x0 = some r) : dI Try.prog 71 [(eI x0)] (aF r) := by
  intro H0
  refine dG Try.func71 ?_
  have hO := aL.start H0
  unfold mN at h0
  refine aS aD 1 [] [] ?_
  refine cH aD 4 [(2, (aF (!decide (x0 = x0))))] ?_
  refine bJ ?_
  obtain rfl := oI h0
  exact aI (Q_r hO)

theorem oJ (x0 : (List Int)) (eX : Int) (r : (Int × Bool)) (h0 : eO x0 eX = some r) : dI Try.prog 49 [(eL (eI) x0), (eI eX)] (.tup [(eI r.1), (aF r.2)]) := by
  intro H0
  refine dG Try.func49 ?_
  have hO := aL.start H0
  unfold eO at h0
  refine aS aD 2 [] [] ?_
  refine aS aD 3 [] [(6, (eI (lN x0)))] ?_
  refine aS aD 3 [] [(7, (eI (0 : Int))), (8, (eI (lN x0)))] ?_
  refine iA (fun T H => ∃ n6 : Int, ∃ i7 : Int, Has T [(0, (eL (eI) x0)), (1, (eI eX)), (6, (eI n6)), (7, (eI i7))] ∧ aL ⟨H0, [], []⟩ H [] ∧ hU x0 eX n6 i7 = some r) ?_ ?_
  · clear hO h0
    rintro T H ⟨n6, i7, hT, hO, h0⟩
    refine bF hT ?_
    clear hT
    unfold hU at h0
    refine aO ?_
    refine aT aD 25 ?_
    obtain ⟨c1, h0⟩ := aU h0
    obtain ⟨c2, h0⟩ := aU h0
    refine uC 16 [(((decide (i7 < n6))) = true → 0 ≤ i7 ∧ i7 < (lN x0)), (((!(decide ((gD x0 i7) = eX))) && (decide (i7 < n6))) = true → 0 ≤ i7 ∧ i7 < (lN x0))] ⟨c1, c2, trivial⟩ ?_
    obtain ⟨x3, hx4, h0⟩ := aV h0
    refine nY [(42, false), (35, true)] 71 [(eI (gD x0 i7))] (aF x3) ((!(decide ((gD x0 i7) = eX))) && (decide (i7 < n6))) (by kernel_rfl) (by kernel_rfl) (by kernel_rfl) (fun hb5 => (vH (gD x0 i7) _ (kA hx4 hb5))) hO ?_
    intro H hO
    refine bR 19 ?_
    obtain ⟨x6, hx7, h0⟩ := aV h0
    refine nY [(48, true), (42, false), (35, true)] 71 [(eI eX)] (aF x6) (x3 && ((!(decide ((gD x0 i7) = eX))) && (decide (i7 < n6)))) (by kernel_rfl) (by kernel_rfl) (by kernel_rfl) (fun hb8 => (vH eX _ (kA hx7 hb8))) hO ?_
    intro H hO
    refine bE ?_
    refine bH [(4, (eI i7)), (5, (aF ((decide (i7 < n6)) && ((decide ((gD x0 i7) = eX)) || (x3 && x6)))))] ?_
    refine bJ ?_
    obtain rfl := oI h0
    exact aI (Q_r hO)
  refine cG 0 ?_
  refine gR [(0, (eL (eI) x0)), (1, (eI eX)), (6, (eI (lN x0))), (7, (eI (0 : Int))), (8, (eI (lN x0)))] ?_
  refine fG (fun T H => ∃ n6 : Int, ∃ i7 : Int, ∃ j8 : Int, Has T [(0, (eL (eI) x0)), (1, (eI eX)), (6, (eI n6)), (7, (eI i7)), (8, (eI j8))] ∧ aL ⟨H0, [], []⟩ H [] ∧ jN x0 eX n6 i7 j8 = some r) ?_ ⟨(lN x0), (0 : Int), (lN x0), .eq (by kernel_rfl), hO, h0⟩
  clear hO h0
  rintro T H ⟨n6, i7, j8, hT, hO, h0⟩
  refine bF hT ?_
  clear hT
  unfold jN at h0
  obtain ⟨rr0, hl0, h0⟩ := aV h0
  refine dN (by kernel_rfl) (fun (s : Int × Int) T H => Has T [(0, (eL (eI) x0)), (1, (eI eX)), (6, (eI n6)), (7, (eI s.1)), (8, (eI s.2))] ∧ aL ⟨H0, [], []⟩ H []) hl0 ⟨.eq (by kernel_rfl), hO⟩ ?_
  clear hO
  rintro k0 s out1 T H ⟨hT, hO⟩ h1 ho0
  obtain ⟨i7, j8⟩ := s
  replace h1 : eE x0 eX n6 i7 j8 = some out1 := h1
  try dsimp only at hT
  refine bF hT ?_
  clear hT
  unfold eE at h1
  refine aO ?_
  refine aS aD 3 [] [(15, (aF (decide (i7 < j8))))] ?_
  refine bN h1 (fun h1 => ?_) (fun h1 => ?_)
  · refine bO ?_
    refine bH [(0, (eL (eI) x0)), (1, (eI eX)), (6, (eI n6)), (7, (eI i7)), (8, (eI j8))] ?_
    refine cG 1 ?_
    refine aO ?_
    refine aT aD 7 ?_
    obtain ⟨c10, h1⟩ := aU h1
    refine mX [0 ≤ (1 : Int)] ⟨c10, trivial⟩ ?_
    refine bX [] [(9, (eI (wR (Int.fdiv (IntKind.u64.wrap (wR (i7 + j8))) (2 ^ (min (Int.toNat (1 : Int)) 64))))))] ?_
    refine aO ?_
    refine aT aD 6 ?_
    obtain ⟨c11, h1⟩ := aU h1
    refine uC 5 [0 ≤ (wR (Int.fdiv (IntKind.u64.wrap (wR (i7 + j8))) (2 ^ (min (Int.toNat (1 : Int)) 64)))) ∧ (wR (Int.fdiv (IntKind.u64.wrap (wR (i7 + j8))) (2 ^ (min (Int.toNat (1 : Int)) 64)))) < (lN x0)] ⟨c11, trivial⟩ ?_
    obtain ⟨x12, hx13, h1⟩ := aV h1
    refine dU (eU (gD x0 (wR (Int.fdiv (IntKind.u64.wrap (wR (i7 + j8))) (2 ^ (min (Int.toNat (1 : Int)) 64))))) eX _ hx13) hO ?_
    intro H hO
    refine fM ?_
    refine bX [] [(27, (aF x12))] ?_
    refine bN h1 (fun h1 => ?_) (fun h1 => ?_)
    · refine aT aD 3 ?_
      refine bE ?_
      exact aI (aY (aH (⟨rfl, _, (oI h1).symm, .eq (by kernel_rfl), hO⟩)))
    refine aT aD 2 ?_
    refine bE ?_
    exact aI (aY (aH (⟨rfl, _, (oI h1).symm, .eq (by kernel_rfl), hO⟩)))
  refine iP 0 ?_
  obtain rfl := oI h1
  obtain rfl : _ = rr0 := ho0
  replace h0 : hU x0 eX n6 i7 = some r := h0
  exact aI (aW (aW (cC (aH (⟨rfl, _, _, .eq (by kernel_rfl), hO, h0⟩)))))

theorem vO (l0 : (List aE)) (n1 : Int) (t2 : Int) (r : (Int × Int)) (h0 : mS l0 n1 t2 = some r) : dI Try.prog 23 [(eL aG l0), (eI n1), (eI t2)] (.tup [(eI r.1), (eI r.2)]) := by
  intro H0
  refine dG Try.func23 ?_
  have hO := aL.start H0
  unfold mS at h0
  refine aS aD 2 [] [] ?_
  refine aO ?_
  refine aO ?_
  refine aT aD 4 ?_
  refine bR 2 ?_
  obtain ⟨x1, hx2, h0⟩ := aV h0
  refine dU (xD l0 n1 _ hx2) hO ?_
  intro H hO
  refine bE ?_
  refine bX [] [(8, (eI x1))] ?_
  refine aS aD 2 [] [(17, (aF (!decide (x1 = (0 : Int)))))] ?_
  refine bN h0 (fun h0 => ?_) (fun h0 => ?_)
  · refine cH aD 3 [(6, (eI (0 : Int))), (7, (eI x1))] ?_
    refine bJ ?_
    obtain rfl := oI h0
    exact aI (aR (Q_r hO))
  refine bO ?_
  refine bH [(0, (eL aG l0)), (1, (eI n1)), (2, (eI t2))] ?_
  refine aO ?_
  refine cG 0 ?_
  refine aS aD 7 [] [(19, (aF ((decide (t2 < (0 : Int))) || (decide ((1125899906842624 : Int) < t2)))))] ?_
  refine bN h0 (fun h0 => ?_) (fun h0 => ?_)
  · refine cH aD 2 [(6, (eI (0 : Int))), (7, (eI (13 : Int)))] ?_
    refine bJ ?_
    obtain rfl := oI h0
    exact aI (bM (aR (Q_r hO)))
  refine aS aD 3 [19] [(26, (aF (decide (t2 = (1125899906842624 : Int)))))] ?_
  refine bN h0 (fun h0 => ?_) (fun h0 => ?_)
  · refine cH aD 3 [(6, (eI t2)), (7, (eI (0 : Int)))] ?_
    refine bJ ?_
    obtain rfl := oI h0
    exact aI (bM (aR (Q_r hO)))
  refine bO ?_
  refine gK [(0, (eL aG l0)), (1, (eI n1)), (2, (eI t2))] ?_
  refine aI (aY (aH (?_)))
  refine aO ?_
  refine aT aD 3 ?_
  refine bR 1 ?_
  obtain ⟨x7, hx8, h0⟩ := aV h0
  refine dU (uA l0 _ hx8) hO ?_
  intro H hO
  refine bE ?_
  refine bX [0] [(9, (eL (eI) x7))] ?_
  refine aO ?_
  refine aT aD 8 ?_
  refine bR 2 ?_
  obtain ⟨x10, hx11, h0⟩ := aV h0
  refine dU (oJ x7 t2 _ hx11) hO ?_
  intro H hO
  refine bE ?_
  refine bX [] [(10, (eI x10.1))] ?_
  refine aS aD 6 [1] [(12, (eI (if (wR ((wR (x10.1 - n1)) + (1 : Int))) > (0 : Int) then (wR ((wR (x10.1 - n1)) + (1 : Int))) else (0 : Int))))] ?_
  refine aO ?_
  refine aS aD 3 [10] [(45, (aF (decide ((if (wR ((wR (x10.1 - n1)) + (1 : Int))) > (0 : Int) then (wR ((wR (x10.1 - n1)) + (1 : Int))) else (0 : Int)) = x10.1))))] ?_
  refine bN h0 (fun h0 => ?_) (fun h0 => ?_)
  · refine cH aD 3 [(6, (eI t2)), (7, (eI (0 : Int)))] ?_
    refine bJ ?_
    obtain rfl := oI h0
    exact aI (aR (Q_r hO))
  refine bO ?_
  refine bH [(9, (eL (eI) x7)), (12, (eI (if (wR ((wR (x10.1 - n1)) + (1 : Int))) > (0 : Int) then (wR ((wR (x10.1 - n1)) + (1 : Int))) else (0 : Int))))] ?_
  refine aO ?_
  refine aT aD 6 ?_
  obtain ⟨c14, h0⟩ := aU h0
  refine mX [0 ≤ (if (wR ((wR (x10.1 - n1)) + (1 : Int))) > (0 : Int) then (wR ((wR (x10.1 - n1)) + (1 : Int))) else (0 : Int)) ∧ (if (wR ((wR (x10.1 - n1)) + (1 : Int))) > (0 : Int) then (wR ((wR (x10.1 - n1)) + (1 : Int))) else (0 : Int)) < (lN x7)] ⟨c14, trivial⟩ ?_
  refine bH [(6, (eI (gD x7 (if (wR ((wR (x10.1 - n1)) + (1 : Int))) > (0 : Int) then (wR ((wR (x10.1 - n1)) + (1 : Int))) else (0 : Int))))), (7, (eI (0 : Int)))] ?_
  refine bJ ?_
  obtain rfl := oI h0
  exact aI (Q_r hO)

theorem sZ (s0 : (List aB)) (r : (List aB)) (h0 : gJ s0 = some r) : sQ Try.prog 41 [(eL aK s0)] (fun lo => (.msl 3 lo 0 (List.length r))) 3 (List.map aK r) := by
  intro H0
  refine dG Try.func41 ?_
  have hO := aL.start H0
  unfold gJ at h0
  refine aS aD 1 [] [] ?_
  refine aO ?_
  refine aO ?_
  refine aT aD 2 ?_
  refine bR 1 ?_
  refine WH false (List.length s0) (fun i => aK (List.getD s0 i default)) (by kernel_rfl) (by kernel_rfl) ?_
  intro b1 hn2
  refine fM ?_
  refine bX [] [(4, (aF b1))] ?_
  refine mM (b1) (fun hc3 => ?_) (fun hc3 => ?_)
  · replace h0 : some ([] : List aB) = some r := by
      have hl := List.eq_nil_of_length_eq_zero (hn2 hc3)
      rw [hl] at h0
      exact (aU h0).2
    refine cH aD 1 [(2, (.sl true 0 (fun _ => .bad)))] ?_
    refine bJ ?_
    refine gK [(2, (.sl true 0 (fun _ => .bad)))] ?_
    refine KW (el := (fun _ => .bad)) 0 2 3 hO (by kernel_rfl) ?_
    intro lo4 H5 hO
    obtain rfl := oI h0
    exact aI (aR (jY (x := (.msl 3 lo4 0 (List.length ([] : List aB)))) (by kernel_rfl) (aN.refl _) ⟨lo4, rfl, hO⟩))
  · refine bO ?_
    refine bH [(0, (eL aK s0))] ?_
    refine aO ?_
    refine aT aD 4 ?_
    refine rX (xs := []) (k := 3) (by kernel_rfl) (by kernel_rfl) ?_
    refine bR 2 ?_
    obtain ⟨c7, h0⟩ := aU h0
    refine GU (e := aK) s0 (fun _ => .bad) 3 32 (eL aK s0) (fun lo6 => [(lo6, 3, List.map aK s0)]) (by kernel_rfl) (by kernel_rfl) hO (GV (fun _ => by kernel_rfl)) c7 (fun _ => by kernel_rfl) ?_
    intro lo6 H hO
    refine bE ?_
    refine bH [(2, (.msl 3 lo6 0 (List.length s0)))] ?_
    refine bJ ?_
    obtain rfl := oI h0
    exact aI (jY (x := (.msl 3 lo6 0 (List.length s0))) (by kernel_rfl) (aN.refl _) ⟨lo6, rfl, hO⟩)

theorem FP (l0 : (List aE)) (run1 : (List Int)) (r : aX) (h0 : oB l0 run1 = some r) : dI Try.prog 50 [(eL aG l0), (eL (eI) run1)] (bA r) := by
  intro H0
  refine CC aD Try.func50 (by kernel_rfl) (by kernel_rfl) (by kernel_rfl) ?_
  have hO := aL.start H0
  unfold oB at h0
  refine aO ?_
  refine aT aD 1 ?_
  refine rH 3 (.agg [(eI 0), (eI 0), (.sl true 0 (fun _ => .bad))]) (bA (aX.mk (cS.mk 0 0) ([]))) (by kernel_rfl) (by kernel_rfl) (by kernel_rfl) (AH (xs := [(eI 0), (eI 0), (.sl true 0 (fun _ => .bad))]) (ys := [(eI 0), (eI 0), (eL bT ([]))]) ⟨aN.refl _, aN.refl _, kH, trivial⟩) (by kernel_rfl) (by kernel_rfl) hO ?_
  intro lo1 H hO
  refine fM ?_
  refine bX [] [(4, (.lp lo1 0 0))] ?_
  refine aO ?_
  refine fN (fK [10, 16, 5]) aD 14 ?_
  obtain ⟨c2, h0⟩ := aU h0
  obtain ⟨c3, h0⟩ := aU h0
  refine cB 12 [0 ≤ (0 : Int) ∧ (0 : Int) < (lN run1), 0 ≤ (wR ((lN run1) - (1 : Int))) ∧ (wR ((lN run1) - (1 : Int))) < (lN run1)] ⟨c2, c3, trivial⟩ ?_
  refine WD 3 (.agg [(eI 0), (eI 0), (.sl true 0 (fun _ => .bad))]) (bA (aX.mk (cS.mk 0 0) ([]))) (AH (xs := [(eI 0), (eI 0), (.sl true 0 (fun _ => .bad))]) (ys := [(eI 0), (eI 0), (eL bT ([]))]) ⟨aN.refl _, aN.refl _, kH, trivial⟩) hO ?_
  intro lo4 H hO
  refine jR 1 lo4 3 0 (bA (aX.mk (cS.mk 0 0) ([]))) (.agg [(eI ((cS.mk (gD run1 (0 : Int)) (wR ((gD run1 (wR ((lN run1) - (1 : Int)))) + (1 : Int)))).From)), (eI ((cS.mk (gD run1 (0 : Int)) (wR ((gD run1 (wR ((lN run1) - (1 : Int)))) + (1 : Int)))).To)), (.sl true 0 (fun _ => .bad))]) [(bA (aX.mk (cS.mk 0 0) ([])))] [(lo1, 3, [(bA (aX.mk (cS.mk 0 0) ([])))]), (lo4, 3, [(.agg [(eI ((cS.mk (gD run1 (0 : Int)) (wR ((gD run1 (wR ((lN run1) - (1 : Int)))) + (1 : Int)))).From)), (eI ((cS.mk (gD run1 (0 : Int)) (wR ((gD run1 (wR ((lN run1) - (1 : Int)))) + (1 : Int)))).To)), (.sl true 0 (fun _ => .bad))])])] hO rfl (by kernel_rfl) ?_
  intro H hO
  refine lW (by kernel_rfl) ?_
  refine YL 1 3 lo4 2 2 [(eI ((cS.mk (gD run1 (0 : Int)) (wR ((gD run1 (wR ((lN run1) - (1 : Int)))) + (1 : Int)))).From)), (eI ((cS.mk (gD run1 (0 : Int)) (wR ((gD run1 (wR ((lN run1) - (1 : Int)))) + (1 : Int)))).To)), (.sl true 0 (fun _ => .bad))] (fun _ => .bad) (fun lo5 => [(lo1, 3, [(bA (aX.mk (cS.mk 0 0) ([])))]), (lo4, 3, [(.agg [(eI ((aX.mk (cS.mk (gD run1 (0 : Int)) (wR ((gD run1 (wR ((lN run1) - (1 : Int)))) + (1 : Int)))) ([])).Span.From)), (eI ((aX.mk (cS.mk (gD run1 (0 : Int)) (wR ((gD run1 (wR ((lN run1) - (1 : Int)))) + (1 : Int)))) ([])).Span.To)), (.msl 2 lo5 0 (List.length ([] : List bU)))])]), (lo5, 2, List.map bT ([] : List bU))]) hO (by kernel_rfl) (by kernel_rfl) (fun _ => by kernel_rfl) ?_
  intro lo5 H hO
  refine bH [(0, (eL aG l0)), (4, (.lp lo1 0 0)), (5, (.lp lo4 0 0))] ?_
  refine aO ?_
  refine aO ?_
  refine aT aD 2 ?_
  refine bR 1 ?_
  obtain ⟨x6, hx7, h0⟩ := aV h0
  refine dU (yT l0 _ hx7) hO ?_
  intro H hO
  refine fM ?_
  refine bX [0] [(21, (.fn (.func 94) [] [(.rp (eL aG x6))]))] ?_
  refine cG 0 ?_
  refine gR [(4, (.lp lo1 0 0)), (5, (.lp lo4 0 0)), (21, (.fn (.func 94) [] [(.rp (eL aG x6))]))] ?_
  refine fG (fun T H => ∃ t4 : aX, ∃ p5 : aX, ∃ rU : (List aE), ∃ lo8 : Nat, Has T [(4, (.lp lo1 0 0)), (5, (.lp lo4 0 0)), (21, (.fn (.func 94) [] [(.rp (eL aG rU))]))] ∧ aL ⟨H0, [], []⟩ H [(lo1, 3, [(bA t4)]), (lo4, 3, [(.agg [(eI p5.Span.From), (eI p5.Span.To), (.msl 2 lo8 0 (List.length p5.Rows))])]), (lo8, 2, List.map bT p5.Rows)] ∧ pG t4 p5 rU = some r) ?_ ⟨(aX.mk (cS.mk 0 0) ([])), aX.mk (cS.mk (gD run1 (0 : Int)) (wR ((gD run1 (wR ((lN run1) - (1 : Int)))) + (1 : Int)))) ([]), x6, lo5, .eq (by kernel_rfl), hO, h0⟩
  clear hO h0
  rintro T H ⟨t4, p5, rU, lo8, hT, hO, h0⟩
  refine bF (l := [(4, (.lp lo1 0 0)), (5, (.lp lo4 0 0)), (21, (.fn (.func 94) [] [(.rp (eL aG rU))]))]) hT ?_
  clear hT
  unfold pG at h0
  obtain ⟨o0, hl0, h0⟩ := aV h0
  refine zE (fid := 94) (ys := []) (cs := [(.rp (eL aG rU))]) #[22] (fun (A : wJ) (b lL : Nat) (st : (aX × aX) ⊕ (aX × aX)) (G' : Gs) => Sum.elim (fun (s : aX × aX) => ∃ lo8 : Nat, G' = (lL, .raw (kT b A .ready none)) :: (up [(lo1, 3, [(bA s.1)]), (lo4, 3, [(.agg [(eI s.2.Span.From), (eI s.2.Span.To), (.msl 2 lo8 0 (List.length s.2.Rows))])]), (lo8, 2, List.map bT s.2.Rows)] ++ [])) (fun (s : aX × aX) => False) st) (.inl (t4, p5)) o0 (.tup []) (by kernel_rfl) (by kernel_rfl) (by kernel_rfl) hO (fun _ _ => ⟨lo8, rfl⟩) ?_ ?_
  · intro b lL
    clear hO h0
    refine vC _ b (fun st t22 => rnd (fun (s : aX × aX) => mD rU s.1 s.2 t22) st) ?_ rU _ _ hl0
    intro st t22 out1 rr hr
    obtain ⟨s, rfl, h1, rfl⟩ := PL hr
    clear hr
    intro Hr Gr hi hg
    obtain ⟨t4, p5⟩ := s
    dsimp only [Sum.elim_inl] at hi
    obtain ⟨lo8, rfl⟩ := hi
    replace h1 : mD rU t4 p5 t22 = some out1 := h1
    unfold mD at h1
    obtain ⟨E1, hE, hO⟩ := uZ hg
    refine vB (zZ (hO.gm 0 _ rfl).2 (by kernel_rfl) (by kernel_rfl) ?_)
    refine gR [(4, (.lp lo1 0 0)), (5, (.lp lo4 0 0)), (21, (.fn (.func 94) [] [(.rp (eL aG rU))])), (22, (aG t22))] ?_
    refine aT aD 2 ?_
    refine rH 3 (.agg [(.sl true 0 (fun _ => .bad)), (eI 0), (eI 0)]) (aG (aE.mk ([]) 0 0)) (by kernel_rfl) (by kernel_rfl) (by kernel_rfl) (AH (xs := [(.sl true 0 (fun _ => .bad)), (eI 0), (eI 0)]) (ys := [(eL aK ([])), (eI 0), (eI 0)]) ⟨kH, aN.refl _, aN.refl _, trivial⟩) (by kernel_rfl) (by kernel_rfl) hO ?_
    intro lo9 H hO
    refine lT 3 lo9 3 0 (aG (aE.mk ([]) 0 0)) (aG t22) [(aG (aE.mk ([]) 0 0))] [(lo1, 3, [(bA t4)]), (lo4, 3, [(.agg [(eI p5.Span.From), (eI p5.Span.To), (.msl 2 lo8 0 (List.length p5.Rows))])]), (lo8, 2, List.map bT p5.Rows), (lo9, 3, [(aG t22)])] hO rfl (by kernel_rfl) ?_
    intro H hO
    refine fM ?_
    refine gK [(4, (.lp lo1 0 0)), (5, (.lp lo4 0 0)), (6, (.lp lo9 0 0))] ?_
    refine aI (⟨rfl, rfl, (hO.gm 0 _ rfl).2, ?_⟩)
    intro o1 ho1
    replace hO := hO.vT o1
    refine cG 1 ?_
    refine aO ?_
    refine aO ?_
    refine aT aD 14 ?_
    refine bR 1 ?_
    refine oT 3 lo9 3 0 (aG t22) (eI t22.At) [(aG t22)] hO rfl ?_
    refine bR 4 ?_
    refine oT 1 lo4 3 0 (.agg [(eI p5.Span.From), (eI p5.Span.To), (.msl 2 lo8 0 (List.length p5.Rows))]) (eI p5.Span.From) [(.agg [(eI p5.Span.From), (eI p5.Span.To), (.msl 2 lo8 0 (List.length p5.Rows))])] hO rfl ?_
    refine bR 8 ?_
    refine qB [(29, false)] 3 lo9 3 0 (aG t22) (eI t22.At) [(aG t22)] (by kernel_rfl) (by kernel_rfl) hO (by kernel_rfl) (!(decide (t22.At < p5.Span.From))) (by kernel_rfl) (fun hb10 => rfl) ?_
    refine bR 11 ?_
    refine qB [(29, false)] 1 lo4 3 0 (.agg [(eI p5.Span.From), (eI p5.Span.To), (.msl 2 lo8 0 (List.length p5.Rows))]) (eI p5.Span.To) [(.agg [(eI p5.Span.From), (eI p5.Span.To), (.msl 2 lo8 0 (List.length p5.Rows))])] (by kernel_rfl) (by kernel_rfl) hO (by kernel_rfl) (!(decide (t22.At < p5.Span.From))) (by kernel_rfl) (fun _ => rfl) ?_
    refine bE ?_
    refine bX [] [(36, (aF ((decide (t22.At < p5.Span.From)) || (decide (p5.Span.To ≤ t22.At)))))] ?_
    refine bN h1 (fun h1 => ?_) (fun h1 => ?_)
    · refine iP 1 ?_
      refine gK [(4, (.lp lo1 0 0)), (5, (.lp lo4 0 0))] ?_
      replace hO := hO.pick (L' := [(lo1, 3, [(bA t4)]), (lo4, 3, [(.agg [(eI p5.Span.From), (eI p5.Span.To), (.msl 2 lo8 0 (List.length p5.Rows))])]), (lo8, 2, List.map bT p5.Rows)]) [0, 1, 2] (by decide) (by kernel_rfl)
      obtain rfl := oI h1
      exact aI (aW (cC (⟨(iK hO hE ho1 .dead).1, rfl, _, ⟨lo8, rfl⟩, (iK hO hE ho1 _).2⟩)))
    refine bO ?_
    refine bH [(4, (.lp lo1 0 0)), (5, (.lp lo4 0 0)), (6, (.lp lo9 0 0))] ?_
    refine aO ?_
    refine aT aD 5 ?_
    refine bR 1 ?_
    refine oT 1 lo4 3 0 (.agg [(eI p5.Span.From), (eI p5.Span.To), (.msl 2 lo8 0 (List.length p5.Rows))]) (.msl 2 lo8 0 (List.length p5.Rows)) [(.agg [(eI p5.Span.From), (eI p5.Span.To), (.msl 2 lo8 0 (List.length p5.Rows))])] hO rfl ?_
    refine bE ?_
    refine bX [] [(7, (eI (wR ((lN p5.Rows) - (1 : Int)))))] ?_
    refine aO ?_
    refine aO ?_
    obtain ⟨c12, h1⟩ := aU h1
    obtain ⟨x13, hx14, h1⟩ := aV h1
    refine fN (fK []) aD 13 ?_
    refine oF (K := fun T H => Has (lift T) [(4, (.lp lo1 0 0)), (5, (.lp lo4 0 0)), (6, (.lp lo9 0 0)), (7, (eI (wR ((lN p5.Rows) - (1 : Int))))), (53, (aF ((decide ((0 : Int) ≤ (wR ((lN p5.Rows) - (1 : Int))))) && x13)))] ∧ aL ⟨Hr, E1, (lL, o1) :: []⟩ H [(lo1, 3, [(bA t4)]), (lo4, 3, [(.agg [(eI p5.Span.From), (eI p5.Span.To), (.msl 2 lo8 0 (List.length p5.Rows))])]), (lo8, 2, List.map bT p5.Rows), (lo9, 3, [(aG t22)])]) ?_ ?_
    · refine lH 3 ?_
      refine nE (t := 43) (e := decide ((0 : Int) ≤ (wR ((lN p5.Rows) - (1 : Int))))) (by kernel_rfl) (fun hg15 => ?_) (fun hg15 => ?_)
      · refine lH 4 ?_
        refine iQ 1 lo4 3 0 (.agg [(eI p5.Span.From), (eI p5.Span.To), (.msl 2 lo8 0 (List.length p5.Rows))]) (.msl 2 lo8 0 (List.length p5.Rows)) [(.agg [(eI p5.Span.From), (eI p5.Span.To), (.msl 2 lo8 0 (List.length p5.Rows))])] (by kernel_rfl) (by kernel_rfl) (by kernel_rfl) hO (by kernel_rfl) rfl ?_
        refine cB 8 [0 ≤ (wR ((lN p5.Rows) - (1 : Int))) ∧ (wR ((lN p5.Rows) - (1 : Int))) < (lN p5.Rows)] ⟨(c12 hg15), trivial⟩ ?_
        refine iQ 2 lo8 2 (0 + Int.toNat (wR ((lN p5.Rows) - (1 : Int)))) (bT (gD p5.Rows (wR ((lN p5.Rows) - (1 : Int))))) (eL aK ((gD p5.Rows (wR ((lN p5.Rows) - (1 : Int)))).Row)) (List.map bT p5.Rows) (by kernel_rfl) (by kernel_rfl) (by kernel_rfl) hO (by kernel_rfl) (bV (c12 hg15)) ?_
        refine lH 10 ?_
        refine iQ 3 lo9 3 0 (aG t22) (eL aK t22.Row) [(aG t22)] (by kernel_rfl) (by kernel_rfl) (by kernel_rfl) hO (by kernel_rfl) rfl ?_
        refine nD 72 [(eL aK ((gD p5.Rows (wR ((lN p5.Rows) - (1 : Int)))).Row)), (eL aK t22.Row)] (aF x13) (by kernel_rfl) (by kernel_rfl) (nL ((gD p5.Rows (wR ((lN p5.Rows) - (1 : Int)))).Row) t22.Row _ (kA hx14 hg15)) hO ?_
        intro H hO
        refine jS ?_
        exact ⟨⟨[(4, (.lp lo1 0 0)), (5, (.lp lo4 0 0)), (6, (.lp lo9 0 0)), (7, (eI (wR ((lN p5.Rows) - (1 : Int))))), (53, (aF x13))], by kernel_rfl, rfl, ⟨aN.refl _, aN.refl _, aN.refl _, aN.refl _, aN.eq (congrArg aF (lX hg15 rfl).symm), trivial⟩⟩, hO⟩
      refine jS ?_
      exact ⟨⟨[(4, (.lp lo1 0 0)), (5, (.lp lo4 0 0)), (6, (.lp lo9 0 0)), (7, (eI (wR ((lN p5.Rows) - (1 : Int))))), (53, (aF false))], by kernel_rfl, rfl, ⟨aN.refl _, aN.refl _, aN.refl _, aN.refl _, aN.eq (congrArg aF (lX hg15 rfl).symm), trivial⟩⟩, hO⟩
    · rintro T H ⟨hT, hO⟩
      refine cW hT ?_
      clear hT
      refine aI (aH ?_)
      refine bN h1 (fun h1 => ?_) (fun h1 => ?_)
      · refine aO ?_
        refine fN (fK []) aD 12 ?_
        refine lH 1 ?_
        refine fD 1 lo4 3 0 (.agg [(eI p5.Span.From), (eI p5.Span.To), (.msl 2 lo8 0 (List.length p5.Rows))]) (.msl 2 lo8 0 (List.length p5.Rows)) [(.agg [(eI p5.Span.From), (eI p5.Span.To), (.msl 2 lo8 0 (List.length p5.Rows))])] hO rfl ?_
        obtain ⟨c17, h1⟩ := aU h1
        refine cB 5 [0 ≤ (wR ((lN p5.Rows) - (1 : Int))) ∧ (wR ((lN p5.Rows) - (1 : Int))) < (lN p5.Rows)] ⟨c17, trivial⟩ ?_
        refine fD 2 lo8 2 (0 + Int.toNat (wR ((lN p5.Rows) - (1 : Int)))) (bT (gD p5.Rows (wR ((lN p5.Rows) - (1 : Int))))) (eI ((gD p5.Rows (wR ((lN p5.Rows) - (1 : Int)))).N)) (List.map bT p5.Rows) hO (bV c17) ?_
        refine lH 7 ?_
        refine fD 3 lo9 3 0 (aG t22) (eI t22.Net) [(aG t22)] hO rfl ?_
        obtain ⟨c18, h1⟩ := aU h1
        refine cB 11 [0 ≤ (wR ((lN p5.Rows) - (1 : Int))) ∧ (wR ((lN p5.Rows) - (1 : Int))) < (lN p5.Rows)] ⟨c18, trivial⟩ ?_
        refine jR 2 lo8 2 (0 + Int.toNat (wR ((lN p5.Rows) - (1 : Int)))) (bT (gD p5.Rows (wR ((lN p5.Rows) - (1 : Int))))) (bT (bU.mk (gD p5.Rows (wR ((lN p5.Rows) - (1 : Int)))).Row (wR (((gD p5.Rows (wR ((lN p5.Rows) - (1 : Int)))).N) + t22.Net)))) (List.map bT p5.Rows) [(lo1, 3, [(bA t4)]), (lo4, 3, [(.agg [(eI p5.Span.From), (eI p5.Span.To), (.msl 2 lo8 0 (List.length p5.Rows))])]), (lo8, 2, List.map bT (List.set p5.Rows (Int.toNat (wR ((lN p5.Rows) - (1 : Int)))) (bU.mk (gD p5.Rows (wR ((lN p5.Rows) - (1 : Int)))).Row (wR (((gD p5.Rows (wR ((lN p5.Rows) - (1 : Int)))).N) + t22.Net))))), (lo9, 3, [(aG t22)])] hO (bV c18) (by simp only [List.set, fX]) ?_
        intro H hO
        refine lW (by kernel_rfl) ?_
        replace hO : aL ⟨Hr, E1, (lL, o1) :: []⟩ H [(lo1, 3, [(bA t4)]), (lo4, 3, [(.agg [(eI ((aX.mk p5.Span (List.set p5.Rows (Int.toNat (wR ((lN p5.Rows) - (1 : Int)))) (bU.mk (gD p5.Rows (wR ((lN p5.Rows) - (1 : Int)))).Row (wR (((gD p5.Rows (wR ((lN p5.Rows) - (1 : Int)))).N) + t22.Net))))).Span.From)), (eI ((aX.mk p5.Span (List.set p5.Rows (Int.toNat (wR ((lN p5.Rows) - (1 : Int)))) (bU.mk (gD p5.Rows (wR ((lN p5.Rows) - (1 : Int)))).Row (wR (((gD p5.Rows (wR ((lN p5.Rows) - (1 : Int)))).N) + t22.Net))))).Span.To)), (.msl 2 lo8 0 (List.length (List.set p5.Rows (Int.toNat (wR ((lN p5.Rows) - (1 : Int)))) (bU.mk (gD p5.Rows (wR ((lN p5.Rows) - (1 : Int)))).Row (wR (((gD p5.Rows (wR ((lN p5.Rows) - (1 : Int)))).N) + t22.Net))))))])]), (lo8, 2, List.map bT (List.set p5.Rows (Int.toNat (wR ((lN p5.Rows) - (1 : Int)))) (bU.mk (gD p5.Rows (wR ((lN p5.Rows) - (1 : Int)))).Row (wR (((gD p5.Rows (wR ((lN p5.Rows) - (1 : Int)))).N) + t22.Net))))), (lo9, 3, [(aG t22)])] := by simpa only [List.length_set] using hO
        replace hO := hO.pick (L' := [(lo1, 3, [(bA t4)]), (lo4, 3, [(.agg [(eI ((aX.mk p5.Span (List.set p5.Rows (Int.toNat (wR ((lN p5.Rows) - (1 : Int)))) (bU.mk (gD p5.Rows (wR ((lN p5.Rows) - (1 : Int)))).Row (wR (((gD p5.Rows (wR ((lN p5.Rows) - (1 : Int)))).N) + t22.Net))))).Span.From)), (eI ((aX.mk p5.Span (List.set p5.Rows (Int.toNat (wR ((lN p5.Rows) - (1 : Int)))) (bU.mk (gD p5.Rows (wR ((lN p5.Rows) - (1 : Int)))).Row (wR (((gD p5.Rows (wR ((lN p5.Rows) - (1 : Int)))).N) + t22.Net))))).Span.To)), (.msl 2 lo8 0 (List.length (List.set p5.Rows (Int.toNat (wR ((lN p5.Rows) - (1 : Int)))) (bU.mk (gD p5.Rows (wR ((lN p5.Rows) - (1 : Int)))).Row (wR (((gD p5.Rows (wR ((lN p5.Rows) - (1 : Int)))).N) + t22.Net))))))])]), (lo8, 2, List.map bT (List.set p5.Rows (Int.toNat (wR ((lN p5.Rows) - (1 : Int)))) (bU.mk (gD p5.Rows (wR ((lN p5.Rows) - (1 : Int)))).Row (wR (((gD p5.Rows (wR ((lN p5.Rows) - (1 : Int)))).N) + t22.Net)))))]) [0, 1, 2] (by decide) (by kernel_rfl)
        refine bX [6, 7, 53] [] ?_
        refine iP 1 ?_
        refine gK [(4, (.lp lo1 0 0)), (5, (.lp lo4 0 0))] ?_
        obtain rfl := oI h1
        exact aI (aW (cC (⟨(iK hO hE ho1 .dead).1, rfl, _, ⟨lo8, rfl⟩, (iK hO hE ho1 _).2⟩)))
      refine bO ?_
      refine bH [(4, (.lp lo1 0 0)), (5, (.lp lo4 0 0)), (6, (.lp lo9 0 0))] ?_
      refine HK 2 3 6 3 lo9 (aG t22) [(lo1, 3, [(bA t4)]), (lo4, 3, [(.agg [(eI p5.Span.From), (eI p5.Span.To), (.msl 2 lo8 0 (List.length p5.Rows))])]), (lo8, 2, List.map bT p5.Rows)] hO (by kernel_rfl) (by kernel_rfl) (by kernel_rfl) ?_
      intro H hO
      refine fN (fK [68, 69, 71, 73]) aD 12 ?_
      refine lH 1 ?_
      refine fD 1 lo4 3 0 (.agg [(eI p5.Span.From), (eI p5.Span.To), (.msl 2 lo8 0 (List.length p5.Rows))]) (.msl 2 lo8 0 (List.length p5.Rows)) [(.agg [(eI p5.Span.From), (eI p5.Span.To), (.msl 2 lo8 0 (List.length p5.Rows))])] hO rfl ?_
      refine lH 4 ?_
      obtain ⟨x19, hx20, h1⟩ := aV h1
      refine NN 41 [(eL aK t22.Row)] (eL aK x19) (by kernel_rfl) (by kernel_rfl) (sQ.frozen (sZ t22.Row _ hx20)) hO ?_
      intro H hO
      refine lH 8 ?_
      refine OW (xs := [(bT (bU.mk x19 t22.Net))]) (k := 2) (by kernel_rfl) (by kernel_rfl) ?_
      obtain ⟨c23, h1⟩ := aU h1
      refine FW (e := bT) p5.Rows ([bU.mk x19 t22.Net]) 2 lo8 2 32 (lJ [(bT (bU.mk x19 t22.Net))]) (fun lo22 => [(lo1, 3, [(bA t4)]), (lo4, 3, [(.agg [(eI p5.Span.From), (eI p5.Span.To), (.msl 2 lo8 0 (List.length p5.Rows))])]), (lo22, 2, List.map bT (p5.Rows ++ ([bU.mk x19 t22.Net])))]) (by kernel_rfl) (by kernel_rfl) hO (by kernel_rfl) (by kernel_rfl) c23 (fun _ => by kernel_rfl) ?_
      intro lo22 H hO
      refine lH 11 ?_
      refine jR 1 lo4 3 0 (.agg [(eI p5.Span.From), (eI p5.Span.To), (.msl 2 lo8 0 (List.length p5.Rows))]) (.agg [(eI ((aX.mk p5.Span (p5.Rows ++ ([bU.mk x19 t22.Net]))).Span.From)), (eI ((aX.mk p5.Span (p5.Rows ++ ([bU.mk x19 t22.Net]))).Span.To)), (.msl 2 lo22 0 (List.length (p5.Rows ++ ([bU.mk x19 t22.Net]))))]) [(.agg [(eI p5.Span.From), (eI p5.Span.To), (.msl 2 lo8 0 (List.length p5.Rows))])] [(lo1, 3, [(bA t4)]), (lo4, 3, [(.agg [(eI ((aX.mk p5.Span (p5.Rows ++ ([bU.mk x19 t22.Net]))).Span.From)), (eI ((aX.mk p5.Span (p5.Rows ++ ([bU.mk x19 t22.Net]))).Span.To)), (.msl 2 lo22 0 (List.length (p5.Rows ++ ([bU.mk x19 t22.Net]))))])]), (lo22, 2, List.map bT (p5.Rows ++ ([bU.mk x19 t22.Net])))] hO rfl (by kernel_rfl) ?_
      intro H hO
      refine lW (by kernel_rfl) ?_
      refine gK [(4, (.lp lo1 0 0)), (5, (.lp lo4 0 0))] ?_
      obtain rfl := oI h1
      exact aI (aY (⟨(iK hO hE ho1 .dead).1, rfl, _, ⟨lo22, rfl⟩, (iK hO hE ho1 _).2⟩))
  · intro b lD24 lL H' G' hi hO
    rcases o0 with s | s
    · dsimp only [Sum.elim_inl] at hi
      obtain ⟨lo8, rfl⟩ := hi
      replace h0 : (some s.2) = some r := h0
      obtain ⟨hlL, hO⟩ := rW hO
      refine ⟨_, _, hlL, (by intro e; cases e), ?_⟩
      refine gK [(4, (.lp lo1 0 0)), (5, (.lp lo4 0 0))] ?_
      refine aI (aY (aH (?_)))
      refine aO ?_
      refine MW (e := bT) s.2.Rows 1 2 3 2 lo4 lo8 (List.length s.2.Rows) 2 [(eI s.2.Span.From), (eI s.2.Span.To), (.msl 2 lo8 0 (List.length s.2.Rows))] [(lo1, 3, [(bA s.1)]), (lo4, 3, [(bA s.2)])] hO (by kernel_rfl) (by kernel_rfl) (by kernel_rfl) (by kernel_rfl) (by kernel_rfl) (by kernel_rfl) ?_
      intro H hO
      refine aT aD 2 ?_
      refine oT 1 lo4 3 0 (bA s.2) (bA s.2) [(bA s.2)] hO rfl ?_
      refine lT 0 lo1 3 0 (bA s.1) (bA s.2) [(bA s.1)] [(lo1, 3, [(bA s.2)]), (lo4, 3, [(bA s.2)])] hO rfl (by kernel_rfl) ?_
      intro H hO
      refine fM ?_
      refine gK [(4, (.lp lo1 0 0))] ?_
      replace hO := hO.pick (L' := [(lo1, 3, [(bA s.2)])]) [0] (by decide) (by kernel_rfl)
      refine aI (aH (?_))
      refine bJ ?_
      obtain rfl := oI h0
      have hD := (hO.gm 0 _ rfl).2
      replace hO := (hO.vT .dead).wA
      exact aI (QM1 (.inr rfl) hD (rs := [.cell 4 38]) (xs := [(bA s.2)]) (x := (bA s.2)) (by kernel_rfl) (tD (lo := lo1) (k := 3) (y := (bA s.2)) (x := (bA s.2)) 0 hO (by kernel_rfl) (by kernel_rfl) (by kernel_rfl) (by kernel_rfl) xF) (by kernel_rfl) ⟨rfl, hO.out⟩)
    · exact hi.elim

theorem uH (l0 : (List aE)) (n1 : Int) (tK : Int) (r : ((List aX) × Int)) (h0 : mI l0 n1 tK = some r) : dI Try.prog 25 [(eL aG l0), (eI n1), (eI tK)] (.tup [(eL bA r.1), (eI r.2)]) := by
  intro H0
  refine dG Try.func25 ?_
  have hO := aL.start H0
  unfold mI at h0
  refine aS aD 2 [] [] ?_
  refine aO ?_
  refine aO ?_
  refine aT aD 4 ?_
  refine bR 2 ?_
  obtain ⟨x1, hx2, h0⟩ := aV h0
  refine dU (xD l0 n1 _ hx2) hO ?_
  intro H hO
  refine bE ?_
  refine bX [] [(8, (eI x1))] ?_
  refine aS aD 2 [] [(18, (aF (!decide (x1 = (0 : Int)))))] ?_
  refine bN h0 (fun h0 => ?_) (fun h0 => ?_)
  · refine cH aD 3 [(6, (.sl true 0 (fun _ => .bad))), (7, (eI x1))] ?_
    refine bJ ?_
    refine cW (l := [(6, (eL bA ([]))), (7, (eI x1))]) ⟨[(6, (.sl true 0 (fun _ => .bad))), (7, (eI x1))], by kernel_rfl, rfl, ⟨kH, aN.refl _, trivial⟩⟩ ?_
    obtain rfl := oI h0
    exact aI (aR (Q_r hO))
  refine bO ?_
  refine bH [(0, (eL aG l0)), (1, (eI n1)), (2, (eI tK))] ?_
  refine aO ?_
  refine aS aD 6 [] [(25, (aF ((decide (tK < (0 : Int))) || (decide ((1125899906842624 : Int) < tK)))))] ?_
  refine bN h0 (fun h0 => ?_) (fun h0 => ?_)
  · refine cH aD 2 [(6, (.sl true 0 (fun _ => .bad))), (7, (eI (13 : Int)))] ?_
    refine bJ ?_
    refine cW (l := [(6, (eL bA ([]))), (7, (eI (13 : Int)))]) ⟨[(6, (.sl true 0 (fun _ => .bad))), (7, (eI (13 : Int)))], by kernel_rfl, rfl, ⟨kH, aN.refl _, trivial⟩⟩ ?_
    obtain rfl := oI h0
    exact aI (aR (Q_r hO))
  refine bO ?_
  refine bH [(0, (eL aG l0)), (1, (eI n1)), (2, (eI tK))] ?_
  refine aO ?_
  refine aT aD 3 ?_
  refine bR 1 ?_
  obtain ⟨x6, hx7, h0⟩ := aV h0
  refine dU (uA l0 _ hx7) hO ?_
  intro H hO
  refine bE ?_
  refine bX [] [(9, (eL (eI) x6))] ?_
  refine aO ?_
  refine aT aD 8 ?_
  refine bR 2 ?_
  obtain ⟨x9, hx10, h0⟩ := aV h0
  refine dU (oJ x6 tK _ hx10) hO ?_
  intro H hO
  refine bE ?_
  refine bX [2] [(10, (eI x9.1))] ?_
  refine aO ?_
  refine aT aD 8 ?_
  obtain ⟨c12, h0⟩ := aU h0
  refine mX [0 ≤ x9.1 ∧ x9.1 ≤ (lN x6) ∧ (lN x6) ≤ (lN x6) ∧ (lN x6) ≤ (lN x6)] ⟨c12, trivial⟩ ?_
  refine cW (l := [(0, (eL aG l0)), (1, (eI n1)), (12, (eL (eI) (List.drop (Int.toNat x9.1) (List.take (Int.toNat (lN x6)) x6))))]) ⟨[(0, (eL aG l0)), (1, (eI n1)), (12, (.sl false (Int.toNat (lN x6) - Int.toNat x9.1) (fun i => (eI) (List.getD x6 (Int.toNat x9.1 + i) default))))], by kernel_rfl, rfl, ⟨aN.refl _, aN.refl _, ZL (Int.toNat_le.2 (Int.le_trans (And.left (And.right (And.right c12))) (And.right (And.right (And.right c12))))), trivial⟩⟩ ?_
  refine aI (aH (?_))
  refine aO ?_
  refine aS aD 6 [] [(46, (aF (decide ((1024 : Int) < (wR ((wR ((lN (List.drop (Int.toNat x9.1) (List.take (Int.toNat (lN x6)) x6))) - n1)) + (1 : Int)))))))] ?_
  refine bN h0 (fun h0 => ?_) (fun h0 => ?_)
  · refine cH aD 2 [(6, (.sl true 0 (fun _ => .bad))), (7, (eI (7 : Int)))] ?_
    refine bJ ?_
    refine cW (l := [(6, (eL bA ([]))), (7, (eI (7 : Int)))]) ⟨[(6, (.sl true 0 (fun _ => .bad))), (7, (eI (7 : Int)))], by kernel_rfl, rfl, ⟨kH, aN.refl _, trivial⟩⟩ ?_
    obtain rfl := oI h0
    exact aI (aR (Q_r hO))
  refine bO ?_
  refine bH [(0, (eL aG l0)), (1, (eI n1)), (12, (eL (eI) (List.drop (Int.toNat x9.1) (List.take (Int.toNat (lN x6)) x6))))] ?_
  refine aO ?_
  refine aT aD 2 ?_
  refine rX (xs := []) (k := 3) (by kernel_rfl) (by kernel_rfl) ?_
  refine bE ?_
  refine bX [] [(13, (.sl true 0 (fun _ => .bad)))] ?_
  refine iA (fun T H => ∃ iW : List aX, ∃ lo14 : Nat, Has T [(13, (.msl 3 lo14 0 (List.length iW)))] ∧ aL ⟨H0, [], []⟩ H [(lo14, 3, List.map bA iW)] ∧ qQ iW = some r) ?_ ?_
  · clear hO h0
    rintro T H ⟨iW, lo14, hT, hO, h0⟩
    refine bF hT ?_
    clear hT
    unfold qQ at h0
    refine cH aD 3 [(6, (.msl 3 lo14 0 (List.length iW))), (7, (eI (0 : Int)))] ?_
    refine bJ ?_
    refine gK [(6, (.msl 3 lo14 0 (List.length iW))), (7, (eI (0 : Int)))] ?_
    refine xL (en := bA) iW 0 0 6 3 lo14 (List.length iW) hO (by kernel_rfl) (by kernel_rfl) (by kernel_rfl) (L' := []) (by kernel_rfl) ?_
    intro H15 hO
    obtain rfl := oI h0
    exact aI (Q_r hO)
  refine cG 0 ?_
  refine gR [(0, (eL aG l0)), (1, (eI n1)), (12, (eL (eI) (List.drop (Int.toNat x9.1) (List.take (Int.toNat (lN x6)) x6)))), (13, (.sl true 0 (fun _ => .bad)))] ?_
  refine RP (el := (fun _ => .bad)) 3 13 3 hO (by kernel_rfl) ?_
  intro lo26 H27 hO
  refine fG (fun T H => ∃ kF : (List Int), ∃ iW : List aX, ∃ lo17 : Nat, Has T [(0, (eL aG l0)), (1, (eI n1)), (12, (eL (eI) kF)), (13, (.msl 3 lo17 0 (List.length iW)))] ∧ aL ⟨H0, [], []⟩ H [(lo17, 3, List.map bA iW)] ∧ qM l0 n1 kF iW = some r) ?_ ⟨List.drop (Int.toNat x9.1) (List.take (Int.toNat (lN x6)) x6), ([] : List aX), lo26, .eq (by kernel_rfl), hO, h0⟩
  clear hO h0
  rintro T H ⟨kF, iW, lo17, hT, hO, h0⟩
  refine bF hT ?_
  clear hT
  unfold qM at h0
  obtain ⟨rr0, hl0, h0⟩ := aV h0
  refine dN (by kernel_rfl) (fun (s : (List Int) × List aX) T H => ∃ lo17 : Nat, Has T [(0, (eL aG l0)), (1, (eI n1)), (12, (eL (eI) s.1)), (13, (.msl 3 lo17 0 (List.length s.2)))] ∧ aL ⟨H0, [], []⟩ H [(lo17, 3, List.map bA s.2)]) hl0 ⟨lo17, .eq (by kernel_rfl), hO⟩ ?_
  clear hO
  rintro k0 s out1 T H ⟨lo17, hT, hO⟩ h1 ho0
  obtain ⟨kF, iW⟩ := s
  replace h1 : kM l0 n1 kF iW = some out1 := h1
  try dsimp only at hT
  refine bF hT ?_
  clear hT
  unfold kM at h1
  refine aO ?_
  refine aS aD 4 [] [(51, (aF (decide (n1 ≤ (lN kF)))))] ?_
  refine bN h1 (fun h1 => ?_) (fun h1 => ?_)
  · refine bO ?_
    refine bH [(0, (eL aG l0)), (1, (eI n1)), (12, (eL (eI) kF)), (13, (.msl 3 lo17 0 (List.length iW)))] ?_
    refine cG 1 ?_
    refine aO ?_
    refine aT aD 10 ?_
    refine bR 5 ?_
    obtain ⟨c19, h1⟩ := aU h1
    refine UE (n' := List.length kF) (el := fun i => (eI) (List.getD kF i default)) c19 ?_
    obtain ⟨x20, hx21, h1⟩ := aV h1
    refine aAm 50 [(eL aG l0), (.sl false (Int.toNat n1) (fun i => (eI) (List.getD kF i default)))] (bA x20) (dI.sub (FP l0 (List.take (Int.toNat n1) kF) _ hx21) ⟨aN.refl _, OF (Int.toNat_le.2 (Int.le_trans (And.left (And.right c19)) (And.right (And.right c19)))), trivial⟩) hO ?_
    intro H hO
    refine rX (xs := [(bA x20)]) (k := 3) (by kernel_rfl) (by kernel_rfl) ?_
    obtain ⟨c24, h1⟩ := aU h1
    refine CB (e := bA) iW ([x20]) 0 lo17 3 40 (lJ [(bA x20)]) (fun lo23 => [(lo23, 3, List.map bA (iW ++ ([x20])))]) (by kernel_rfl) (by kernel_rfl) hO (by kernel_rfl) (by kernel_rfl) c24 (fun _ => by kernel_rfl) ?_
    intro lo23 H hO
    refine bE ?_
    refine bX [13] [(13, (.msl 3 lo23 0 (List.length (iW ++ ([x20])))))] ?_
    refine aT aD 3 ?_
    obtain ⟨c25, h1⟩ := aU h1
    refine mX [0 ≤ (1 : Int) ∧ (1 : Int) ≤ (lN kF)] ⟨c25, trivial⟩ ?_
    refine cW (l := [(0, (eL aG l0)), (1, (eI n1)), (12, (eL (eI) (List.drop (Int.toNat (1 : Int)) kF))), (13, (.msl 3 lo23 0 (List.length (iW ++ ([x20])))))]) ⟨[(0, (eL aG l0)), (1, (eI n1)), (12, (.sl false (List.length kF - Int.toNat (1 : Int)) (fun i => (eI) (List.getD kF (Int.toNat (1 : Int) + i) default)))), (13, (.msl 3 lo23 0 (List.length (iW ++ ([x20])))))], by kernel_rfl, rfl, ⟨aN.refl _, aN.refl _, XB, aN.refl _, trivial⟩⟩ ?_
    exact aI (aY (aH (⟨rfl, _, (oI h1).symm, _, .eq (by kernel_rfl), hO⟩)))
  refine iP 0 ?_
  obtain rfl := oI h1
  obtain rfl : _ = rr0 := ho0
  replace h0 : qQ iW = some r := h0
  exact aI (aW (aW (cC (aH (⟨rfl, _, _, .eq (by kernel_rfl), hO, h0⟩)))))

theorem xI  (r : Bool) (h0 : nN  = some r) : dI Try.prog 20 [] (aF r) := by
  intro H0
  refine dG Try.func20 ?_
  have hO := aL.start H0
  unfold nN at h0
  refine cH aD 1 [] ?_
  refine aO ?_
  refine aT aD 3 ?_
  refine bR 1 ?_
  refine rX (xs := [(aK (aB.mk (1 : Int) (1 : Int) ByteArray.empty))]) (k := 3) (by kernel_rfl) (by kernel_rfl) ?_
  refine bE ?_
  refine cW (l := [(1, (eL aK ([aB.mk (1 : Int) (1 : Int) ByteArray.empty])))]) ⟨[(1, (lJ [(aK (aB.mk (1 : Int) (1 : Int) ByteArray.empty))]))], by kernel_rfl, rfl, ⟨LK (l := [aB.mk (1 : Int) (1 : Int) ByteArray.empty]), trivial⟩⟩ ?_
  refine aI (aH (?_))
  refine aO ?_
  refine aT aD 3 ?_
  refine bR 1 ?_
  refine rX (xs := [(aK (aB.mk (1 : Int) (2 : Int) ByteArray.empty))]) (k := 3) (by kernel_rfl) (by kernel_rfl) ?_
  refine bE ?_
  refine cW (l := [(1, (eL aK ([aB.mk (1 : Int) (1 : Int) ByteArray.empty]))), (2, (eL aK ([aB.mk (1 : Int) (2 : Int) ByteArray.empty])))]) ⟨[(1, (eL aK ([aB.mk (1 : Int) (1 : Int) ByteArray.empty]))), (2, (lJ [(aK (aB.mk (1 : Int) (2 : Int) ByteArray.empty))]))], by kernel_rfl, rfl, ⟨aN.refl _, LK (l := [aB.mk (1 : Int) (2 : Int) ByteArray.empty]), trivial⟩⟩ ?_
  refine aI (aH (?_))
  refine aO ?_
  refine aT aD 10 ?_
  refine bR 8 ?_
  refine rX (xs := [(aG (aE.mk ([aB.mk (1 : Int) (1 : Int) ByteArray.empty]) (2 : Int) (1 : Int))), (aG (aE.mk ([aB.mk (1 : Int) (2 : Int) ByteArray.empty]) (5 : Int) (1 : Int))), (aG (aE.mk ([aB.mk (1 : Int) (2 : Int) ByteArray.empty]) (7 : Int) (-1 : Int))), (aG (aE.mk ([aB.mk (1 : Int) (2 : Int) ByteArray.empty]) (8 : Int) (1 : Int)))]) (k := 3) (by kernel_rfl) (by kernel_rfl) ?_
  refine bE ?_
  refine cW (l := [(3, (eL aG ([aE.mk ([aB.mk (1 : Int) (1 : Int) ByteArray.empty]) (2 : Int) (1 : Int), aE.mk ([aB.mk (1 : Int) (2 : Int) ByteArray.empty]) (5 : Int) (1 : Int), aE.mk ([aB.mk (1 : Int) (2 : Int) ByteArray.empty]) (7 : Int) (-1 : Int), aE.mk ([aB.mk (1 : Int) (2 : Int) ByteArray.empty]) (8 : Int) (1 : Int)])))]) ⟨[(3, (lJ [(aG (aE.mk ([aB.mk (1 : Int) (1 : Int) ByteArray.empty]) (2 : Int) (1 : Int))), (aG (aE.mk ([aB.mk (1 : Int) (2 : Int) ByteArray.empty]) (5 : Int) (1 : Int))), (aG (aE.mk ([aB.mk (1 : Int) (2 : Int) ByteArray.empty]) (7 : Int) (-1 : Int))), (aG (aE.mk ([aB.mk (1 : Int) (2 : Int) ByteArray.empty]) (8 : Int) (1 : Int)))]))], by kernel_rfl, rfl, ⟨LK (l := [aE.mk ([aB.mk (1 : Int) (1 : Int) ByteArray.empty]) (2 : Int) (1 : Int), aE.mk ([aB.mk (1 : Int) (2 : Int) ByteArray.empty]) (5 : Int) (1 : Int), aE.mk ([aB.mk (1 : Int) (2 : Int) ByteArray.empty]) (7 : Int) (-1 : Int), aE.mk ([aB.mk (1 : Int) (2 : Int) ByteArray.empty]) (8 : Int) (1 : Int)]), trivial⟩⟩ ?_
  refine aI (aH (?_))
  refine aO ?_
  refine aT aD 7 ?_
  refine bR 1 ?_
  obtain ⟨x1, hx2, h0⟩ := aV h0
  refine dU (EO ([aE.mk ([aB.mk (1 : Int) (1 : Int) ByteArray.empty]) (2 : Int) (1 : Int), aE.mk ([aB.mk (1 : Int) (2 : Int) ByteArray.empty]) (5 : Int) (1 : Int), aE.mk ([aB.mk (1 : Int) (2 : Int) ByteArray.empty]) (7 : Int) (-1 : Int), aE.mk ([aB.mk (1 : Int) (2 : Int) ByteArray.empty]) (8 : Int) (1 : Int)]) _ hx2) hO ?_
  intro H hO
  refine bE ?_
  refine bX [] [(4, (eL (eI) x1.1)), (5, (eI x1.2))] ?_
  refine aO ?_
  refine aT aD 7 ?_
  refine bR 1 ?_
  obtain ⟨x4, hx5, h0⟩ := aV h0
  refine dU (vO ([aE.mk ([aB.mk (1 : Int) (1 : Int) ByteArray.empty]) (2 : Int) (1 : Int), aE.mk ([aB.mk (1 : Int) (2 : Int) ByteArray.empty]) (5 : Int) (1 : Int), aE.mk ([aB.mk (1 : Int) (2 : Int) ByteArray.empty]) (7 : Int) (-1 : Int), aE.mk ([aB.mk (1 : Int) (2 : Int) ByteArray.empty]) (8 : Int) (1 : Int)]) (2 : Int) (6 : Int) _ hx5) hO ?_
  intro H hO
  refine bE ?_
  refine bX [] [(6, (eI x4.1)), (7, (eI x4.2))] ?_
  refine aO ?_
  refine aT aD 7 ?_
  refine bR 1 ?_
  obtain ⟨x7, hx8, h0⟩ := aV h0
  refine dU (uH ([aE.mk ([aB.mk (1 : Int) (1 : Int) ByteArray.empty]) (2 : Int) (1 : Int), aE.mk ([aB.mk (1 : Int) (2 : Int) ByteArray.empty]) (5 : Int) (1 : Int), aE.mk ([aB.mk (1 : Int) (2 : Int) ByteArray.empty]) (7 : Int) (-1 : Int), aE.mk ([aB.mk (1 : Int) (2 : Int) ByteArray.empty]) (8 : Int) (1 : Int)]) (2 : Int) (0 : Int) _ hx8) hO ?_
  intro H hO
  refine bE ?_
  refine bX [3] [(8, (eL bA x7.1)), (9, (eI x7.2))] ?_
  refine aO ?_
  refine aT aD 59 ?_
  obtain ⟨c10, h0⟩ := aU h0
  obtain ⟨c11, h0⟩ := aU h0
  obtain ⟨c12, h0⟩ := aU h0
  obtain ⟨c13, h0⟩ := aU h0
  obtain ⟨c14, h0⟩ := aU h0
  refine mX [((((((((decide (x1.2 = (0 : Int))) && (decide (x4.2 = (0 : Int)))) && (decide (x7.2 = (0 : Int)))) && (decide ((lN x1.1) = (3 : Int)))) && (decide (x4.1 = (5 : Int)))) && (decide ((lN x7.1) = (2 : Int))))) = true → 0 ≤ (0 : Int) ∧ (0 : Int) < (lN x7.1)), (((((((((decide (x1.2 = (0 : Int))) && (decide (x4.2 = (0 : Int)))) && (decide (x7.2 = (0 : Int)))) && (decide ((lN x1.1) = (3 : Int)))) && (decide (x4.1 = (5 : Int)))) && (decide ((lN x7.1) = (2 : Int)))) && ((decide ((((gD x7.1 (0 : Int)).Span).From) = ((cS.mk (2 : Int) (6 : Int)).From))) && ((decide ((((gD x7.1 (0 : Int)).Span).To) = ((cS.mk (2 : Int) (6 : Int)).To))) && true)))) = true → 0 ≤ (0 : Int) ∧ (0 : Int) < (lN x7.1)), ((((((((((decide (x1.2 = (0 : Int))) && (decide (x4.2 = (0 : Int)))) && (decide (x7.2 = (0 : Int)))) && (decide ((lN x1.1) = (3 : Int)))) && (decide (x4.1 = (5 : Int)))) && (decide ((lN x7.1) = (2 : Int)))) && ((decide ((((gD x7.1 (0 : Int)).Span).From) = ((cS.mk (2 : Int) (6 : Int)).From))) && ((decide ((((gD x7.1 (0 : Int)).Span).To) = ((cS.mk (2 : Int) (6 : Int)).To))) && true))) && (decide ((lN ((gD x7.1 (0 : Int)).Rows)) = (2 : Int))))) = true → 0 ≤ (1 : Int) ∧ (1 : Int) < (lN x7.1)), (((((((((((decide (x1.2 = (0 : Int))) && (decide (x4.2 = (0 : Int)))) && (decide (x7.2 = (0 : Int)))) && (decide ((lN x1.1) = (3 : Int)))) && (decide (x4.1 = (5 : Int)))) && (decide ((lN x7.1) = (2 : Int)))) && ((decide ((((gD x7.1 (0 : Int)).Span).From) = ((cS.mk (2 : Int) (6 : Int)).From))) && ((decide ((((gD x7.1 (0 : Int)).Span).To) = ((cS.mk (2 : Int) (6 : Int)).To))) && true))) && (decide ((lN ((gD x7.1 (0 : Int)).Rows)) = (2 : Int)))) && (decide ((lN ((gD x7.1 (1 : Int)).Rows)) = (1 : Int))))) = true → 0 ≤ (1 : Int) ∧ (1 : Int) < (lN x7.1)), (((((((((((decide (x1.2 = (0 : Int))) && (decide (x4.2 = (0 : Int)))) && (decide (x7.2 = (0 : Int)))) && (decide ((lN x1.1) = (3 : Int)))) && (decide (x4.1 = (5 : Int)))) && (decide ((lN x7.1) = (2 : Int)))) && ((decide ((((gD x7.1 (0 : Int)).Span).From) = ((cS.mk (2 : Int) (6 : Int)).From))) && ((decide ((((gD x7.1 (0 : Int)).Span).To) = ((cS.mk (2 : Int) (6 : Int)).To))) && true))) && (decide ((lN ((gD x7.1 (0 : Int)).Rows)) = (2 : Int)))) && (decide ((lN ((gD x7.1 (1 : Int)).Rows)) = (1 : Int))))) = true → 0 ≤ (0 : Int) ∧ (0 : Int) < (lN ((gD x7.1 (1 : Int)).Rows)))] ⟨c10, c11, c12, c13, c14, trivial⟩ ?_
  refine bH [(0, (aF ((((((((((decide (x1.2 = (0 : Int))) && (decide (x4.2 = (0 : Int)))) && (decide (x7.2 = (0 : Int)))) && (decide ((lN x1.1) = (3 : Int)))) && (decide (x4.1 = (5 : Int)))) && (decide ((lN x7.1) = (2 : Int)))) && ((decide ((((gD x7.1 (0 : Int)).Span).From) = ((cS.mk (2 : Int) (6 : Int)).From))) && ((decide ((((gD x7.1 (0 : Int)).Span).To) = ((cS.mk (2 : Int) (6 : Int)).To))) && true))) && (decide ((lN ((gD x7.1 (0 : Int)).Rows)) = (2 : Int)))) && (decide ((lN ((gD x7.1 (1 : Int)).Rows)) = (1 : Int)))) && (decide (((gD ((gD x7.1 (1 : Int)).Rows) (0 : Int)).N) = (2 : Int))))))] ?_
  refine bJ ?_
  obtain rfl := oI h0
  exact aI (Q_r hO)

theorem LV (a0 : (List aB)) (b1 : (List aB)) (r : Bool) (h0 : rA a0 b1 = some r) : dI Try.prog 42 [(eL aK a0), (eL aK b1)] (aF r) := by
  intro H0
  refine dG Try.func42 ?_
  have hO := aL.start H0
  unfold rA at h0
  refine aS aD 1 [] [] ?_
  refine aO ?_
  refine aS aD 5 [] [(10, (aF (!decide ((lN a0) = (lN b1)))))] ?_
  refine bN h0 (fun h0 => ?_) (fun h0 => ?_)
  · refine cH aD 1 [(4, (aF false))] ?_
    refine bJ ?_
    obtain rfl := oI h0
    exact aI (aR (Q_r hO))
  refine bO ?_
  refine bH [(0, (eL aK a0)), (1, (eL aK b1))] ?_
  refine iA (fun T H => Has T [] ∧ aL ⟨H0, [], []⟩ H [] ∧ pY  = some r) ?_ ?_
  · clear hO h0
    rintro T H ⟨hT, hO, h0⟩
    refine bF hT ?_
    clear hT
    unfold pY at h0
    refine cH aD 1 [(4, (aF true))] ?_
    refine bJ ?_
    obtain rfl := oI h0
    exact aI (Q_r hO)
  refine aS aD 1 [] [(5, (eI (0 : Int)))] ?_
  refine cG 0 ?_
  refine gR [(0, (eL aK a0)), (1, (eL aK b1)), (5, (eI (0 : Int)))] ?_
  refine fG (fun T H => ∃ i5 : Int, Has T [(0, (eL aK a0)), (1, (eL aK b1)), (5, (eI i5))] ∧ aL ⟨H0, [], []⟩ H [] ∧ sR a0 b1 i5 = some r) ?_ ⟨(0 : Int), .eq (by kernel_rfl), hO, h0⟩
  clear hO h0
  rintro T H ⟨i5, hT, hO, h0⟩
  refine bF hT ?_
  clear hT
  unfold sR at h0
  obtain ⟨rr0, hl0, h0⟩ := aV h0
  refine dN (by kernel_rfl) (fun (s : Int) T H => Has T [(0, (eL aK a0)), (1, (eL aK b1)), (5, (eI s))] ∧ aL ⟨H0, [], []⟩ H []) hl0 ⟨.eq (by kernel_rfl), hO⟩ ?_
  clear hO
  rintro k0 s out1 T H ⟨hT, hO⟩ h1 ho0
  obtain ⟨i5, rfl⟩ : ∃ x, x = s := ⟨_, rfl⟩
  replace h1 : nX a0 b1 i5 = some out1 := h1
  refine bF hT ?_
  clear hT
  unfold nX at h1
  refine aO ?_
  refine aS aD 4 [] [(14, (aF (decide (i5 < (lN a0)))))] ?_
  refine bN h1 (fun h1 => ?_) (fun h1 => ?_)
  · refine bO ?_
    refine bH [(0, (eL aK a0)), (1, (eL aK b1)), (5, (eI i5))] ?_
    refine aO ?_
    refine cG 1 ?_
    refine aO ?_
    refine fN (fK [20, 24]) aD 9 ?_
    obtain ⟨c3, h1⟩ := aU h1
    obtain ⟨c4, h1⟩ := aU h1
    refine JF (Ds := [0 ≤ i5 ∧ i5 < (lN a0), 0 ≤ i5 ∧ i5 < (lN b1)]) (by kernel_rfl) ⟨c3, c4, trivial⟩ ?_
    refine bX [] [(25, (aF (!((decide (((gD a0 i5).Kind) = ((gD b1 i5).Kind))) && ((decide (((gD a0 i5).Num) = ((gD b1 i5).Num))) && ((mV ((gD a0 i5).Text) ((gD b1 i5).Text)) && true))))))] ?_
    refine bN h1 (fun h1 => ?_) (fun h1 => ?_)
    · refine cH aD 1 [(4, (aF false))] ?_
      refine bJ ?_
      obtain rfl := oI h1
      obtain rfl : _ = rr0 := ho0
      replace h0 : some false = some r := h0
      obtain rfl := oI h0
      exact aI (bM (aR (aR (bM (aR (Q_r hO))))))
    refine bO ?_
    refine gK [(0, (eL aK a0)), (1, (eL aK b1)), (5, (eI i5))] ?_
    refine aI (aY (aH (?_)))
    refine aT aD 3 ?_
    refine bE ?_
    exact aI (aH (⟨rfl, _, (oI h1).symm, .eq (by kernel_rfl), hO⟩))
  refine iP 0 ?_
  obtain rfl := oI h1
  obtain rfl : _ = rr0 := ho0
  replace h0 : pY  = some r := h0
  exact aI (aW (aW (cC (aH (⟨rfl, .eq (by kernel_rfl), hO, h0⟩)))))

end Go.Abs
namespace Go.Abs
open Go Go.RowKit Go.Proofs
theorem BO (a0 : (List bU)) (b1 : (List bU)) (r : Bool) (h0 : mL a0 b1 = some r) : dI Try.prog 17 [(eL bT a0), (eL bT b1)] (aF r) := by
  intro H0
  refine dG Try.func17 ?_
  have hO := aL.start H0
  unfold mL at h0
  refine aS aD 1 [] [] ?_
  refine aO ?_
  refine aS aD 5 [] [(10, (aF (!decide ((lN a0) = (lN b1)))))] ?_
  refine bN h0 (fun h0 => ?_) (fun h0 => ?_)
  · refine cH aD 1 [(4, (aF false))] ?_
    refine bJ ?_
    obtain rfl := oI h0
    exact aI (aR (Q_r hO))
  refine bO ?_
  refine bH [(0, (eL bT a0)), (1, (eL bT b1))] ?_
  refine iA (fun T H => Has T [] ∧ aL ⟨H0, [], []⟩ H [] ∧ lZ  = some r) ?_ ?_
  · clear hO h0
    rintro T H ⟨hT, hO, h0⟩
    refine bF hT ?_
    clear hT
    unfold lZ at h0
    refine cH aD 1 [(4, (aF true))] ?_
    refine bJ ?_
    obtain rfl := oI h0
    exact aI (Q_r hO)
  refine aS aD 1 [] [(5, (eI (0 : Int)))] ?_
  refine cG 0 ?_
  refine gR [(0, (eL bT a0)), (1, (eL bT b1)), (5, (eI (0 : Int)))] ?_
  refine fG (fun T H => ∃ i5 : Int, Has T [(0, (eL bT a0)), (1, (eL bT b1)), (5, (eI i5))] ∧ aL ⟨H0, [], []⟩ H [] ∧ nO a0 b1 i5 = some r) ?_ ⟨(0 : Int), .eq (by kernel_rfl), hO, h0⟩
  clear hO h0
  rintro T H ⟨i5, hT, hO, h0⟩
  refine bF hT ?_
  clear hT
  unfold nO at h0
  obtain ⟨rr0, hl0, h0⟩ := aV h0
  refine dN (by kernel_rfl) (fun (s : Int) T H => Has T [(0, (eL bT a0)), (1, (eL bT b1)), (5, (eI s))] ∧ aL ⟨H0, [], []⟩ H []) hl0 ⟨.eq (by kernel_rfl), hO⟩ ?_
  clear hO
  rintro k0 s out1 T H ⟨hT, hO⟩ h1 ho0
  obtain ⟨i5, rfl⟩ : ∃ x, x = s := ⟨_, rfl⟩
  replace h1 : kO a0 b1 i5 = some out1 := h1
  refine bF hT ?_
  clear hT
  unfold kO at h1
  refine aO ?_
  refine aS aD 4 [] [(14, (aF (decide (i5 < (lN a0)))))] ?_
  refine bN h1 (fun h1 => ?_) (fun h1 => ?_)
  · refine bO ?_
    refine bH [(0, (eL bT a0)), (1, (eL bT b1)), (5, (eI i5))] ?_
    refine aO ?_
    refine cG 1 ?_
    refine aO ?_
    obtain ⟨c3, h1⟩ := aU h1
    obtain ⟨c4, h1⟩ := aU h1
    obtain ⟨c5, h1⟩ := aU h1
    obtain ⟨c6, h1⟩ := aU h1
    obtain ⟨x7, hx8, h1⟩ := aV h1
    refine fN (fK [21, 26, 33, 38]) aD 25 ?_
    refine oF (K := fun T H => Has (lift T) [(0, (eL bT a0)), (1, (eL bT b1)), (5, (eI i5)), (41, (aF ((!decide (((gD a0 i5).N) = ((gD b1 i5).N))) || (!x7))))] ∧ aL ⟨H0, [], []⟩ H []) ?_ ?_
    · refine cB 12 [0 ≤ i5 ∧ i5 < (lN a0), 0 ≤ i5 ∧ i5 < (lN b1)] ⟨c3, c4, trivial⟩ ?_
      refine nE (t := 28) (e := !decide (((gD a0 i5).N) = ((gD b1 i5).N))) (by kernel_rfl) (fun hg9 => ?_) (fun hg9 => ?_)
      · refine jS ?_
        exact ⟨⟨[(0, (eL bT a0)), (1, (eL bT b1)), (5, (eI i5)), (41, (aF true))], by kernel_rfl, rfl, ⟨aN.refl _, aN.refl _, aN.refl _, aN.eq (congrArg aF (PU hg9 rfl).symm), trivial⟩⟩, hO⟩
      refine cB 22 [0 ≤ i5 ∧ i5 < (lN a0), 0 ≤ i5 ∧ i5 < (lN b1)] ⟨(c5 (CF hg9)), (c6 (CF hg9)), trivial⟩ ?_
      refine nD 42 [(eL aK ((gD a0 i5).Row)), (eL aK ((gD b1 i5).Row))] (aF x7) (by kernel_rfl) (by kernel_rfl) (LV ((gD a0 i5).Row) ((gD b1 i5).Row) _ (kA hx8 (CF hg9))) hO ?_
      intro H hO
      refine jS ?_
      exact ⟨⟨[(0, (eL bT a0)), (1, (eL bT b1)), (5, (eI i5)), (41, (aF (!x7)))], by kernel_rfl, rfl, ⟨aN.refl _, aN.refl _, aN.refl _, aN.eq (congrArg aF (PU hg9 rfl).symm), trivial⟩⟩, hO⟩
    · rintro T H ⟨hT, hO⟩
      refine cW hT ?_
      clear hT
      refine aI (aH ?_)
      refine bN h1 (fun h1 => ?_) (fun h1 => ?_)
      · refine cH aD 1 [(4, (aF false))] ?_
        refine bJ ?_
        obtain rfl := oI h1
        obtain rfl : _ = rr0 := ho0
        replace h0 : some false = some r := h0
        obtain rfl := oI h0
        exact aI (bM (aR (aR (bM (aR (Q_r hO))))))
      refine bO ?_
      refine gK [(0, (eL bT a0)), (1, (eL bT b1)), (5, (eI i5))] ?_
      refine aI (aY (aH (?_)))
      refine aT aD 3 ?_
      refine bE ?_
      exact aI (aH (⟨rfl, _, (oI h1).symm, .eq (by kernel_rfl), hO⟩))
  refine iP 0 ?_
  obtain rfl := oI h1
  obtain rfl : _ = rr0 := ho0
  replace h0 : lZ  = some r := h0
  exact aI (aW (aW (cC (aH (⟨rfl, .eq (by kernel_rfl), hO, h0⟩)))))

theorem KB (a0 : (List aX)) (b1 : (List aX)) (r : Bool) (h0 : rB a0 b1 = some r) : dI Try.prog 16 [(eL bA a0), (eL bA b1)] (aF r) := by
  intro H0
  refine dG Try.func16 ?_
  have hO := aL.start H0
  unfold rB at h0
  refine aS aD 1 [] [] ?_
  refine aO ?_
  refine aS aD 5 [] [(10, (aF (!decide ((lN a0) = (lN b1)))))] ?_
  refine bN h0 (fun h0 => ?_) (fun h0 => ?_)
  · refine cH aD 1 [(4, (aF false))] ?_
    refine bJ ?_
    obtain rfl := oI h0
    exact aI (aR (Q_r hO))
  refine bO ?_
  refine bH [(0, (eL bA a0)), (1, (eL bA b1))] ?_
  refine iA (fun T H => Has T [] ∧ aL ⟨H0, [], []⟩ H [] ∧ pR  = some r) ?_ ?_
  · clear hO h0
    rintro T H ⟨hT, hO, h0⟩
    refine bF hT ?_
    clear hT
    unfold pR at h0
    refine cH aD 1 [(4, (aF true))] ?_
    refine bJ ?_
    obtain rfl := oI h0
    exact aI (Q_r hO)
  refine aS aD 1 [] [(5, (eI (0 : Int)))] ?_
  refine cG 0 ?_
  refine gR [(0, (eL bA a0)), (1, (eL bA b1)), (5, (eI (0 : Int)))] ?_
  refine fG (fun T H => ∃ i5 : Int, Has T [(0, (eL bA a0)), (1, (eL bA b1)), (5, (eI i5))] ∧ aL ⟨H0, [], []⟩ H [] ∧ sO a0 b1 i5 = some r) ?_ ⟨(0 : Int), .eq (by kernel_rfl), hO, h0⟩
  clear hO h0
  rintro T H ⟨i5, hT, hO, h0⟩
  refine bF hT ?_
  clear hT
  unfold sO at h0
  obtain ⟨rr0, hl0, h0⟩ := aV h0
  refine dN (by kernel_rfl) (fun (s : Int) T H => Has T [(0, (eL bA a0)), (1, (eL bA b1)), (5, (eI s))] ∧ aL ⟨H0, [], []⟩ H []) hl0 ⟨.eq (by kernel_rfl), hO⟩ ?_
  clear hO
  rintro k0 s out1 T H ⟨hT, hO⟩ h1 ho0
  obtain ⟨i5, rfl⟩ : ∃ x, x = s := ⟨_, rfl⟩
  replace h1 : nZ a0 b1 i5 = some out1 := h1
  refine bF hT ?_
  clear hT
  unfold nZ at h1
  refine aO ?_
  refine aS aD 4 [] [(14, (aF (decide (i5 < (lN a0)))))] ?_
  refine bN h1 (fun h1 => ?_) (fun h1 => ?_)
  · refine bO ?_
    refine bH [(0, (eL bA a0)), (1, (eL bA b1)), (5, (eI i5))] ?_
    refine aO ?_
    refine cG 1 ?_
    refine aO ?_
    obtain ⟨c3, h1⟩ := aU h1
    obtain ⟨c4, h1⟩ := aU h1
    obtain ⟨c5, h1⟩ := aU h1
    obtain ⟨c6, h1⟩ := aU h1
    obtain ⟨x7, hx8, h1⟩ := aV h1
    refine fN (fK [21, 26, 33, 38]) aD 25 ?_
    refine oF (K := fun T H => Has (lift T) [(0, (eL bA a0)), (1, (eL bA b1)), (5, (eI i5)), (41, (aF ((!((decide ((((gD a0 i5).Span).From) = (((gD b1 i5).Span).From))) && ((decide ((((gD a0 i5).Span).To) = (((gD b1 i5).Span).To))) && true))) || (!x7))))] ∧ aL ⟨H0, [], []⟩ H []) ?_ ?_
    · refine cB 12 [0 ≤ i5 ∧ i5 < (lN a0), 0 ≤ i5 ∧ i5 < (lN b1)] ⟨c3, c4, trivial⟩ ?_
      refine nE (t := 28) (e := !((decide ((((gD a0 i5).Span).From) = (((gD b1 i5).Span).From))) && ((decide ((((gD a0 i5).Span).To) = (((gD b1 i5).Span).To))) && true))) (by kernel_rfl) (fun hg9 => ?_) (fun hg9 => ?_)
      · refine jS ?_
        exact ⟨⟨[(0, (eL bA a0)), (1, (eL bA b1)), (5, (eI i5)), (41, (aF true))], by kernel_rfl, rfl, ⟨aN.refl _, aN.refl _, aN.refl _, aN.eq (congrArg aF (PU hg9 rfl).symm), trivial⟩⟩, hO⟩
      refine cB 22 [0 ≤ i5 ∧ i5 < (lN a0), 0 ≤ i5 ∧ i5 < (lN b1)] ⟨(c5 (CF hg9)), (c6 (CF hg9)), trivial⟩ ?_
      refine nD 17 [(eL bT ((gD a0 i5).Rows)), (eL bT ((gD b1 i5).Rows))] (aF x7) (by kernel_rfl) (by kernel_rfl) (BO ((gD a0 i5).Rows) ((gD b1 i5).Rows) _ (kA hx8 (CF hg9))) hO ?_
      intro H hO
      refine jS ?_
      exact ⟨⟨[(0, (eL bA a0)), (1, (eL bA b1)), (5, (eI i5)), (41, (aF (!x7)))], by kernel_rfl, rfl, ⟨aN.refl _, aN.refl _, aN.refl _, aN.eq (congrArg aF (PU hg9 rfl).symm), trivial⟩⟩, hO⟩
    · rintro T H ⟨hT, hO⟩
      refine cW hT ?_
      clear hT
      refine aI (aH ?_)
      refine bN h1 (fun h1 => ?_) (fun h1 => ?_)
      · refine cH aD 1 [(4, (aF false))] ?_
        refine bJ ?_
        obtain rfl := oI h1
        obtain rfl : _ = rr0 := ho0
        replace h0 : some false = some r := h0
        obtain rfl := oI h0
        exact aI (bM (aR (aR (bM (aR (Q_r hO))))))
      refine bO ?_
      refine gK [(0, (eL bA a0)), (1, (eL bA b1)), (5, (eI i5))] ?_
      refine aI (aY (aH (?_)))
      refine aT aD 3 ?_
      refine bE ?_
      exact aI (aH (⟨rfl, _, (oI h1).symm, .eq (by kernel_rfl), hO⟩))
  refine iP 0 ?_
  obtain rfl := oI h1
  obtain rfl : _ = rr0 := ho0
  replace h0 : pR  = some r := h0
  exact aI (aW (aW (cC (aH (⟨rfl, .eq (by kernel_rfl), hO, h0⟩)))))

theorem OS (lo0p : Nat) (l0 : (List aE)) (r1 : (List aB)) (f2 : (List aC)) (r : (List aE)) (h0 : tN l0 r1 f2 = some r) : xU Try.prog 96 lo0p 3 (List.map aG l0) [(.msl 3 lo0p 0 (List.length l0)), (eL aK r1), (eL aP f2)] (fun lo => .msl 3 lo 0 (List.length r)) (List.map aG r) := by
  intro H0 hl0
  refine dG Try.func96 ?_
  have hO := aL.oR hl0
  clear hl0
  unfold tN at h0
  refine aS aD 1 [] [] ?_
  refine iA (fun T H => ∃ l0 : List aE, ∃ lo1 : Nat, Has T [(0, (.msl 3 lo1 0 (List.length l0)))] ∧ aL ⟨H0, [lo0p], []⟩ H [(lo1, 3, List.map aG l0)] ∧ vA l0 = some r) ?_ ?_
  · clear hO h0
    rintro T H ⟨l0, lo1, hT, hO, h0⟩
    refine bF hT ?_
    clear hT
    unfold vA at h0
    refine cH aD 2 [(6, (.msl 3 lo1 0 (List.length l0)))] ?_
    refine bJ ?_
    obtain rfl := oI h0
    exact aI (jY (x := (.msl 3 lo1 0 (List.length l0))) (by kernel_rfl) (aN.refl _) ⟨lo1, rfl, hO⟩)
  refine aS aD 3 [2] [(9, (eL aP f2)), (10, (eI (lN f2))), (11, (eI (0 : Int)))] ?_
  refine cG 0 ?_
  refine gR [(0, (.msl 3 lo0p 0 (List.length l0))), (1, (eL aK r1)), (9, (eL aP f2)), (10, (eI (lN f2))), (11, (eI (0 : Int)))] ?_
  refine fG (fun T H => ∃ l0 : List aE, ∃ t9 : (List aC), ∃ t10 : Int, ∃ t11 : Int, ∃ lo3 : Nat, Has T [(0, (.msl 3 lo3 0 (List.length l0))), (1, (eL aK r1)), (9, (eL aP t9)), (10, (eI t10)), (11, (eI t11))] ∧ aL ⟨H0, [lo0p], []⟩ H [(lo3, 3, List.map aG l0)] ∧ uW l0 r1 t9 t10 t11 = some r) ?_ ⟨l0, f2, (lN f2), (0 : Int), lo0p, .eq (by kernel_rfl), hO, h0⟩
  clear hO h0
  rintro T H ⟨l0, t9, t10, t11, lo3, hT, hO, h0⟩
  refine bF hT ?_
  clear hT
  unfold uW at h0
  obtain ⟨rr0, hl0, h0⟩ := aV h0
  refine dN (by kernel_rfl) (fun (s : List aE × Int) T H => ∃ lo3 : Nat, Has T [(0, (.msl 3 lo3 0 (List.length s.1))), (1, (eL aK r1)), (9, (eL aP t9)), (10, (eI t10)), (11, (eI s.2))] ∧ aL ⟨H0, [lo0p], []⟩ H [(lo3, 3, List.map aG s.1)]) hl0 ⟨lo3, .eq (by kernel_rfl), hO⟩ ?_
  clear hO
  rintro k0 s out1 T H ⟨lo3, hT, hO⟩ h1 ho0
  obtain ⟨l0, t11⟩ := s
  replace h1 : mZ r1 t9 t10 l0 t11 = some out1 := h1
  try dsimp only at hT
  refine bF hT ?_
  clear hT
  unfold mZ at h1
  refine aS aD 1 [] [(12, (aF (decide (t11 < t10))))] ?_
  refine aO ?_
  refine bN h1 (fun h1 => ?_) (fun h1 => ?_)
  · refine bO ?_
    refine bH [(0, (.msl 3 lo3 0 (List.length l0))), (1, (eL aK r1)), (9, (eL aP t9)), (10, (eI t10)), (11, (eI t11))] ?_
    refine aO ?_
    refine cG 1 ?_
    refine aO ?_
    refine aT aD 4 ?_
    obtain ⟨c5, h1⟩ := aU h1
    refine uC 2 [0 ≤ t11 ∧ t11 < (lN t9)] ⟨c5, trivial⟩ ?_
    refine oZ 2 (aP (aC.mk 0 0)) (by kernel_rfl) (by kernel_rfl) hO ?_
    intro lo6 H hO
    refine lT 1 lo6 2 0 (aP (aC.mk 0 0)) (aP (gD t9 t11)) [(aP (aC.mk 0 0))] [(lo3, 3, List.map aG l0), (lo6, 2, [(aP (gD t9 t11))])] hO rfl (by kernel_rfl) ?_
    intro H hO
    refine fM ?_
    refine bX [] [(8, (.lp lo6 0 0))] ?_
    refine gR [(0, (.msl 3 lo3 0 (List.length l0))), (1, (eL aK r1)), (8, (.lp lo6 0 0)), (9, (eL aP t9)), (10, (eI t10)), (11, (eI t11))] ?_
    refine HK 2 1 8 2 lo6 (aP (gD t9 t11)) [(lo3, 3, List.map aG l0)] hO (by kernel_rfl) (by kernel_rfl) (by kernel_rfl) ?_
    intro H hO
    refine fN (fK [19, 21, 23]) aD 11 ?_
    refine lH 2 ?_
    obtain ⟨x7, hx8, h1⟩ := aV h1
    refine DB (FA r1 _ hx8) hO ?_
    intro H hO
    refine lH 8 ?_
    refine OW (xs := [(aG (aE.mk x7 ((gD t9 t11).At) ((gD t9 t11).Net)))]) (k := 3) (by kernel_rfl) (by kernel_rfl) ?_
    obtain ⟨c11, h1⟩ := aU h1
    refine FW (e := aG) l0 ([aE.mk x7 ((gD t9 t11).At) ((gD t9 t11).Net)]) 0 lo3 3 40 (lJ [(aG (aE.mk x7 ((gD t9 t11).At) ((gD t9 t11).Net)))]) (fun lo10 => [(lo10, 3, List.map aG (l0 ++ ([aE.mk x7 ((gD t9 t11).At) ((gD t9 t11).Net)])))]) (by kernel_rfl) (by kernel_rfl) hO (by kernel_rfl) (by kernel_rfl) c11 (fun _ => by kernel_rfl) ?_
    intro lo10 H hO
    refine jS ?_
    refine gK [(0, (.msl 3 lo10 0 (List.length (l0 ++ ([aE.mk x7 ((gD t9 t11).At) ((gD t9 t11).Net)]))))), (1, (eL aK r1)), (9, (eL aP t9)), (10, (eI t10)), (11, (eI t11))] ?_
    refine aI (aY (aH (?_)))
    refine aT aD 2 ?_
    refine bE ?_
    exact aI (aH (⟨rfl, _, (oI h1).symm, _, .eq (by kernel_rfl), hO⟩))
  refine iP 0 ?_
  obtain rfl := oI h1
  obtain rfl : _ = rr0 := ho0
  replace h0 : vA l0 = some r := h0
  exact aI (aW (aW (cC (aH (⟨rfl, _, _, .eq (by kernel_rfl), hO, h0⟩)))))

theorem IV (l0 : (List aE)) (by1_f : Nat) (by1_a by1_c : List V) (by1 : (List aC) → Option ((List aC) × Int)) (by1_h : ∀ a0 r, by1 a0 = some r → dI Try.prog by1_f (by1_a ++ [(eL aP a0)] ++ by1_c) (.tup [(eL aP r.1), (eI r.2)])) (r : ((List aE) × Int)) (h0 : pQ l0 by1 = some r) : dI Try.prog 73 [(eL aG l0), (.fn (.func by1_f) by1_a by1_c)] (.tup [(eL aG r.1), (eI r.2)]) := by
  intro H0
  refine CC aD Try.func73 (by kernel_rfl) (by kernel_rfl) (by kernel_rfl) ?_
  have hO := aL.start H0
  unfold pQ at h0
  refine aO ?_
  refine aT aD 3 ?_
  refine pP 1 (.fn (.func by1_f) by1_a by1_c) (by kernel_rfl) (by kernel_rfl) ?_
  refine rH 1 (.sl true 0 (fun _ => .bad)) (eL aG ([])) (by kernel_rfl) (by kernel_rfl) (by kernel_rfl) (kH) (by kernel_rfl) (by kernel_rfl) hO ?_
  intro lo1 H hO
  refine oZ 1 (eI 0) (by kernel_rfl) (by kernel_rfl) hO ?_
  intro lo2 H hO
  refine fM ?_
  refine bX [1] [(3, (.rp (.fn (.func by1_f) by1_a by1_c))), (4, (.lp lo1 0 0)), (5, (.lp lo2 0 0))] ?_
  refine aO ?_
  refine aT aD 3 ?_
  refine rX (xs := []) (k := 3) (by kernel_rfl) (by kernel_rfl) ?_
  refine rH 1 (.sl true 0 (fun _ => .bad)) (eL aG ([])) (by kernel_rfl) (by kernel_rfl) (by kernel_rfl) (kH) (by kernel_rfl) (by kernel_rfl) hO ?_
  intro lo3 H hO
  refine QT 11 3 (fun _ => .bad) (by kernel_rfl) hO (by kernel_rfl) ?_
  intro lo4 H hO
  refine lT 2 lo3 1 0 (eL aG ([])) (.msl 3 lo4 0 (List.length ([] : List aE))) [(eL aG ([]))] [(lo1, 1, [(eL aG ([]))]), (lo2, 1, [(eI 0)]), (lo3, 1, [(.msl 3 lo4 0 (List.length ([] : List aE)))]), (lo4, 3, List.map aG ([] : List aE))] hO rfl (by kernel_rfl) ?_
  intro H hO
  refine fM ?_
  refine bX [] [(6, (.lp lo3 0 0))] ?_
  refine aO ?_
  refine aO ?_
  refine aT aD 2 ?_
  refine bR 1 ?_
  obtain ⟨x5, hx6, h0⟩ := aV h0
  refine dU (CO l0 _ hx6) hO ?_
  intro H hO
  refine fM ?_
  refine bX [0] [(13, (.fn (.func 91) [] [(.rp (eL aG x5))]))] ?_
  refine cG 0 ?_
  refine gR [(3, (.rp (.fn (.func by1_f) by1_a by1_c))), (4, (.lp lo1 0 0)), (5, (.lp lo2 0 0)), (6, (.lp lo3 0 0)), (13, (.fn (.func 91) [] [(.rp (eL aG x5))]))] ?_
  refine fG (fun T H => ∃ t4 : (List aE), ∃ t5 : Int, ∃ out6 : List aE, ∃ kJ : (List aE), ∃ lo7 : Nat, Has T [(3, (.rp (.fn (.func by1_f) by1_a by1_c))), (4, (.lp lo1 0 0)), (5, (.lp lo2 0 0)), (6, (.lp lo3 0 0)), (13, (.fn (.func 91) [] [(.rp (eL aG kJ))]))] ∧ aL ⟨H0, [], []⟩ H [(lo1, 1, [(eL aG t4)]), (lo2, 1, [(eI t5)]), (lo3, 1, [(.msl 3 lo7 0 (List.length out6))]), (lo7, 3, List.map aG out6)] ∧ rN by1 t4 t5 out6 kJ = some r) ?_ ⟨[], 0, ([] : List aE), x5, lo4, .eq (by kernel_rfl), hO, h0⟩
  clear hO h0
  rintro T H ⟨t4, t5, out6, kJ, lo7, hT, hO, h0⟩
  refine bF (l := [(3, (.rp (.fn (.func by1_f) by1_a by1_c))), (4, (.lp lo1 0 0)), (5, (.lp lo2 0 0)), (6, (.lp lo3 0 0)), (13, (.fn (.func 91) [] [(.rp (eL aG kJ))]))]) hT ?_
  clear hT
  unfold rN at h0
  obtain ⟨o0, hl0, h0⟩ := aV h0
  refine zE (fid := 91) (ys := []) (cs := [(.rp (eL aG kJ))]) #[14, 15] (fun (A : wJ) (b lL : Nat) (st : ((List aE) × Int × List aE) ⊕ ((List aE) × Int × List aE)) (G' : Gs) => Sum.elim (fun (s : (List aE) × Int × List aE) => ∃ lo7 : Nat, G' = (lL, .raw (kT b A .ready none)) :: (up [(lo1, 1, [(eL aG s.1)]), (lo2, 1, [(eI s.2.1)]), (lo3, 1, [(.msl 3 lo7 0 (List.length s.2.2))]), (lo7, 3, List.map aG s.2.2)] ++ [])) (fun (s : (List aE) × Int × List aE) => ∃ lo7 : Nat, G' = (lL, .raw (kT b A .done (some .ret))) :: (up [(lo1, 1, [(eL aG s.1)]), (lo2, 1, [(eI s.2.1)]), (lo3, 1, [(.msl 3 lo7 0 (List.length s.2.2))]), (lo7, 3, List.map aG s.2.2)] ++ [])) st) (.inl (t4, t5, out6)) o0 (.tup []) (by kernel_rfl) (by kernel_rfl) (by kernel_rfl) hO (fun _ _ => ⟨lo7, rfl⟩) ?_ ?_
  · intro b lL
    clear hO h0
    refine xT _ b (fun st t14 t15 => rnd (fun (s : (List aE) × Int × List aE) => mC by1 kJ s.1 s.2.1 s.2.2 t14 t15) st) ?_ kJ _ _ hl0
    intro st t14 t15 out1 rr hr
    obtain ⟨s, rfl, h1, rfl⟩ := PL hr
    clear hr
    intro Hr Gr hi hg
    obtain ⟨t4, t5, out6⟩ := s
    dsimp only [Sum.elim_inl] at hi
    obtain ⟨lo7, rfl⟩ := hi
    replace h1 : mC by1 kJ t4 t5 out6 t14 t15 = some out1 := h1
    unfold mC at h1
    obtain ⟨E1, hE, hO⟩ := uZ hg
    refine vB (zZ (hO.gm 0 _ rfl).2 (by kernel_rfl) (by kernel_rfl) ?_)
    refine gR [(3, (.rp (.fn (.func by1_f) by1_a by1_c))), (4, (.lp lo1 0 0)), (5, (.lp lo2 0 0)), (6, (.lp lo3 0 0)), (13, (.fn (.func 91) [] [(.rp (eL aG kJ))])), (14, (eL aK t14)), (15, (eL aP t15))] ?_
    refine aS aD 1 [13, 14] [(7, (eL aK t14))] ?_
    refine aT aD 1 ?_
    refine bE ?_
    refine gK [(3, (.rp (.fn (.func by1_f) by1_a by1_c))), (4, (.lp lo1 0 0)), (5, (.lp lo2 0 0)), (6, (.lp lo3 0 0)), (7, (eL aK t14)), (8, (eL aP t15))] ?_
    refine aI (⟨rfl, rfl, (hO.gm 0 _ rfl).2, ?_⟩)
    intro o1 ho1
    replace hO := hO.vT o1
    refine cG 1 ?_
    refine aO ?_
    refine aT aD 8 ?_
    refine bR 2 ?_
    obtain ⟨x8, hx9, h1⟩ := aV h1
    refine dU (by1_h t15 _ hx9) hO ?_
    intro H hO
    refine bE ?_
    refine bX [3, 8] [(9, (eL aP x8.1)), (10, (eI x8.2))] ?_
    refine aO ?_
    refine aS aD 2 [] [(23, (aF (!decide (x8.2 = (0 : Int)))))] ?_
    refine bN h1 (fun h1 => ?_) (fun h1 => ?_)
    · refine aO ?_
      refine aT aD 3 ?_
      refine bR 1 ?_
      refine lT 0 lo1 1 0 (eL aG t4) (.sl true 0 (fun _ => .bad)) [(eL aG t4)] [(lo1, 1, [(.sl true 0 (fun _ => .bad))]), (lo2, 1, [(eI t5)]), (lo3, 1, [(.msl 3 lo7 0 (List.length out6))]), (lo7, 3, List.map aG out6)] hO rfl (by kernel_rfl) ?_
      intro H hO
      refine lT 1 lo2 1 0 (eI t5) (eI x8.2) [(eI t5)] [(lo1, 1, [(.sl true 0 (fun _ => .bad))]), (lo2, 1, [(eI x8.2)]), (lo3, 1, [(.msl 3 lo7 0 (List.length out6))]), (lo7, 3, List.map aG out6)] hO rfl (by kernel_rfl) ?_
      intro H hO
      refine fM ?_
      refine JS 0 lo1 1 (.sl true 0 (fun _ => .bad)) (eL aG ([])) [(lo1, 1, [(eL aG ([]))]), (lo2, 1, [(eI x8.2)]), (lo3, 1, [(.msl 3 lo7 0 (List.length out6))]), (lo7, 3, List.map aG out6)] hO (by kernel_rfl) (by kernel_rfl) kH (by kernel_rfl) ?_
      intro H hO
      refine bH [(4, (.lp lo1 0 0)), (5, (.lp lo2 0 0)), (6, (.lp lo3 0 0))] ?_
      refine bJ ?_
      refine gK [(4, (.lp lo1 0 0)), (5, (.lp lo2 0 0)), (6, (.lp lo3 0 0))] ?_
      obtain rfl := oI h1
      exact aI (aR (bM (⟨(iK hO hE ho1 .dead).1, rfl, _, ⟨lo7, rfl⟩, (iK hO hE ho1 _).2⟩)))
    refine bO ?_
    refine bH [(4, (.lp lo1 0 0)), (5, (.lp lo2 0 0)), (6, (.lp lo3 0 0)), (7, (eL aK t14)), (9, (eL aP x8.1))] ?_
    refine aO ?_
    refine aT aD 5 ?_
    refine oT 2 lo3 1 0 (.msl 3 lo7 0 (List.length out6)) (.msl 3 lo7 0 (List.length out6)) [(.msl 3 lo7 0 (List.length out6))] hO rfl ?_
    refine bR 3 ?_
    obtain ⟨x12, hx13, h1⟩ := aV h1
    refine NC (L' := fun lo14 => [(lo1, 1, [(eL aG t4)]), (lo2, 1, [(eI t5)]), (lo3, 1, [(.msl 3 lo7 0 (List.length out6))]), (lo14, 3, List.map aG x12)]) 3 lo7 3 (List.map aG out6) (List.map aG x12) 96 [(.msl 3 lo7 0 (List.length out6)), (eL aK t14), (eL aP x8.1)] (fun lo14 => (.msl 3 lo14 0 (List.length x12))) (by kernel_rfl) (by kernel_rfl) (OS lo7 out6 t14 x8.1 _ hx13) hO (by kernel_rfl) (fun _ => by kernel_rfl) ?_
    intro lo14 H hO
    refine lT 2 lo3 1 0 (.msl 3 lo7 0 (List.length out6)) (.msl 3 lo14 0 (List.length x12)) [(.msl 3 lo7 0 (List.length out6))] [(lo1, 1, [(eL aG t4)]), (lo2, 1, [(eI t5)]), (lo3, 1, [(.msl 3 lo14 0 (List.length x12))]), (lo14, 3, List.map aG x12)] hO rfl (by kernel_rfl) ?_
    intro H hO
    refine fM ?_
    refine bX [7, 9] [] ?_
    refine aO ?_
    refine aT aD 3 ?_
    refine oT 2 lo3 1 0 (.msl 3 lo14 0 (List.length x12)) (.msl 3 lo14 0 (List.length x12)) [(.msl 3 lo14 0 (List.length x12))] hO rfl ?_
    refine bE ?_
    refine bX [] [(31, (aF (decide ((4096 : Int) < (lN x12)))))] ?_
    refine bN h1 (fun h1 => ?_) (fun h1 => ?_)
    · refine aO ?_
      refine aT aD 2 ?_
      refine lT 0 lo1 1 0 (eL aG t4) (.sl true 0 (fun _ => .bad)) [(eL aG t4)] [(lo1, 1, [(.sl true 0 (fun _ => .bad))]), (lo2, 1, [(eI t5)]), (lo3, 1, [(.msl 3 lo14 0 (List.length x12))]), (lo14, 3, List.map aG x12)] hO rfl (by kernel_rfl) ?_
      intro H hO
      refine lT 1 lo2 1 0 (eI t5) (eI (7 : Int)) [(eI t5)] [(lo1, 1, [(.sl true 0 (fun _ => .bad))]), (lo2, 1, [(eI (7 : Int))]), (lo3, 1, [(.msl 3 lo14 0 (List.length x12))]), (lo14, 3, List.map aG x12)] hO rfl (by kernel_rfl) ?_
      intro H hO
      refine fM ?_
      refine JS 0 lo1 1 (.sl true 0 (fun _ => .bad)) (eL aG ([])) [(lo1, 1, [(eL aG ([]))]), (lo2, 1, [(eI (7 : Int))]), (lo3, 1, [(.msl 3 lo14 0 (List.length x12))]), (lo14, 3, List.map aG x12)] hO (by kernel_rfl) (by kernel_rfl) kH (by kernel_rfl) ?_
      intro H hO
      refine bH [(4, (.lp lo1 0 0)), (5, (.lp lo2 0 0)), (6, (.lp lo3 0 0))] ?_
      refine bJ ?_
      refine gK [(4, (.lp lo1 0 0)), (5, (.lp lo2 0 0)), (6, (.lp lo3 0 0))] ?_
      obtain rfl := oI h1
      exact aI (bM (⟨(iK hO hE ho1 .dead).1, rfl, _, ⟨lo14, rfl⟩, (iK hO hE ho1 _).2⟩))
    refine bO ?_
    refine gK [(4, (.lp lo1 0 0)), (5, (.lp lo2 0 0)), (6, (.lp lo3 0 0))] ?_
    obtain rfl := oI h1
    exact aI (aY (⟨(iK hO hE ho1 .dead).1, rfl, _, ⟨lo14, rfl⟩, (iK hO hE ho1 _).2⟩))
  · intro b lD16 lL H' G' hi hO
    rcases o0 with s | s
    · dsimp only [Sum.elim_inl] at hi
      obtain ⟨lo7, rfl⟩ := hi
      replace h0 : (some (s.2.2, (0 : Int))) = some r := h0
      obtain ⟨hlL, hO⟩ := rW hO
      refine ⟨_, _, hlL, (by intro e; cases e), ?_⟩
      refine gK [(4, (.lp lo1 0 0)), (5, (.lp lo2 0 0)), (6, (.lp lo3 0 0))] ?_
      refine aI (aY (aH (?_)))
      refine aO ?_
      refine QA (e := aG) s.2.2 2 3 1 3 lo3 lo7 (List.length s.2.2) [(lo1, 1, [(eL aG s.1)]), (lo2, 1, [(eI s.2.1)]), (lo3, 1, [(eL aG s.2.2)])] hO (by kernel_rfl) (by kernel_rfl) (by kernel_rfl) (.inr (by decide)) (by kernel_rfl) ?_
      intro H hO
      refine aT aD 3 ?_
      refine oT 2 lo3 1 0 (eL aG s.2.2) (eL aG s.2.2) [(eL aG s.2.2)] hO rfl ?_
      refine lT 0 lo1 1 0 (eL aG s.1) (eL aG s.2.2) [(eL aG s.1)] [(lo1, 1, [(eL aG s.2.2)]), (lo2, 1, [(eI s.2.1)]), (lo3, 1, [(eL aG s.2.2)])] hO rfl (by kernel_rfl) ?_
      intro H hO
      refine lT 1 lo2 1 0 (eI s.2.1) (eI (0 : Int)) [(eI s.2.1)] [(lo1, 1, [(eL aG s.2.2)]), (lo2, 1, [(eI (0 : Int))]), (lo3, 1, [(eL aG s.2.2)])] hO rfl (by kernel_rfl) ?_
      intro H hO
      refine fM ?_
      replace hO := hO.pick (L' := [(lo1, 1, [(eL aG s.2.2)]), (lo2, 1, [(eI (0 : Int))])]) [0, 1] (by decide) (by kernel_rfl)
      refine bX [6] [] ?_
      refine bJ ?_
      obtain rfl := oI h0
      have hD := (hO.gm 0 _ rfl).2
      replace hO := (hO.vT .dead).wA
      exact aI (QM1 (.inr rfl) hD (rs := [.cell 4 22, .cell 5 26]) (xs := [(eL aG s.2.2), (eI (0 : Int))]) (x := (.tup [(eL aG s.2.2), (eI (0 : Int))])) (by kernel_rfl) (tD (lo := lo1) (k := 1) (y := (eL aG s.2.2)) (x := (eL aG s.2.2)) 0 hO (by kernel_rfl) (by kernel_rfl) (by kernel_rfl) (by kernel_rfl) (tD (lo := lo2) (k := 1) (y := (eI (0 : Int))) (x := (eI (0 : Int))) 1 hO (by kernel_rfl) (by kernel_rfl) (by kernel_rfl) (by kernel_rfl) xF)) (by kernel_rfl) ⟨rfl, hO.out⟩)
    · dsimp only [Sum.elim_inr] at hi
      obtain ⟨lo7, rfl⟩ := hi
      replace h0 : (some (s.1, s.2.1)) = some r := h0
      obtain ⟨hlL, hO⟩ := rW hO
      refine ⟨_, _, hlL, (by intro e; cases e), ?_⟩
      refine bJ ?_
      replace hO := hO.pick (L' := [(lo1, 1, [(eL aG s.1)]), (lo2, 1, [(eI s.2.1)])]) [0, 1] (by decide) (by kernel_rfl)
      obtain rfl := oI h0
      have hD := (hO.gm 0 _ rfl).2
      replace hO := (hO.vT .dead).wA
      exact aI (bM (aR (QM1 (.inr rfl) hD (rs := [.cell 4 22, .cell 5 26]) (xs := [(eL aG s.1), (eI s.2.1)]) (x := (.tup [(eL aG s.1), (eI s.2.1)])) (by kernel_rfl) (tD (lo := lo1) (k := 1) (y := (eL aG s.1)) (x := (eL aG s.1)) 0 hO (by kernel_rfl) (by kernel_rfl) (by kernel_rfl) (by kernel_rfl) (tD (lo := lo2) (k := 1) (y := (eI s.2.1)) (x := (eI s.2.1)) 1 hO (by kernel_rfl) (by kernel_rfl) (by kernel_rfl) (by kernel_rfl) xF)) (by kernel_rfl) ⟨rfl, hO.out⟩)))

theorem PW (l0 : (List aE)) (by1_f : Nat) (by1_a by1_c : List V) (by1 : (List aC) → Option ((List aC) × Int)) (by1_h : ∀ a0 r, by1 a0 = some r → dI Try.prog by1_f (by1_a ++ [(eL aP a0)] ++ by1_c) (.tup [(eL aP r.1), (eI r.2)])) (r : ((List aE) × Int)) (h0 : tI l0 by1 = some r) : dI Try.prog 51 [(eL aG l0), (.fn (.func by1_f) by1_a by1_c)] (.tup [(eL aG r.1), (eI r.2)]) := by
  intro H0
  refine dG Try.func51 ?_
  have hO := aL.start H0
  unfold tI at h0
  refine aS aD 2 [] [] ?_
  refine aO ?_
  refine aO ?_
  refine aT aD 3 ?_
  refine bR 1 ?_
  obtain ⟨x1, hx2, h0⟩ := aV h0
  refine dU (EF l0 _ hx2) hO ?_
  intro H hO
  refine bE ?_
  refine bX [] [(8, (aF (!x1)))] ?_
  refine bN h0 (fun h0 => ?_) (fun h0 => ?_)
  · refine cH aD 2 [(4, (.sl true 0 (fun _ => .bad))), (5, (eI (2 : Int)))] ?_
    refine bJ ?_
    refine cW (l := [(4, (eL aG ([]))), (5, (eI (2 : Int)))]) ⟨[(4, (.sl true 0 (fun _ => .bad))), (5, (eI (2 : Int)))], by kernel_rfl, rfl, ⟨kH, aN.refl _, trivial⟩⟩ ?_
    obtain rfl := oI h0
    exact aI (aR (Q_r hO))
  refine bO ?_
  refine bH [(0, (eL aG l0)), (1, (.fn (.func by1_f) by1_a by1_c))] ?_
  refine aO ?_
  refine aT aD 7 ?_
  refine bR 2 ?_
  obtain ⟨x5, hx6, h0⟩ := aV h0
  refine dU (IV l0 by1_f by1_a by1_c by1 by1_h _ hx6) hO ?_
  intro H hO
  refine bE ?_
  refine bH [(4, (eL aG x5.1)), (5, (eI x5.2))] ?_
  refine bJ ?_
  obtain rfl := oI h0
  exact aI (Q_r hO)

theorem tC (s0 : (List aC)) (r : (List aC)) (h0 : gM s0 = some r) : sQ Try.prog 74 [(eL aP s0)] (fun lo => (.msl 2 lo 0 (List.length r))) 2 (List.map aP r) := by
  intro H0
  refine dG Try.func74 ?_
  have hO := aL.start H0
  unfold gM at h0
  refine aS aD 1 [] [] ?_
  refine aO ?_
  refine aO ?_
  refine aT aD 2 ?_
  refine bR 1 ?_
  refine WH false (List.length s0) (fun i => aP (List.getD s0 i default)) (by kernel_rfl) (by kernel_rfl) ?_
  intro b1 hn2
  refine fM ?_
  refine bX [] [(4, (aF b1))] ?_
  refine mM (b1) (fun hc3 => ?_) (fun hc3 => ?_)
  · replace h0 : some ([] : List aC) = some r := by
      have hl := List.eq_nil_of_length_eq_zero (hn2 hc3)
      rw [hl] at h0
      exact (aU h0).2
    refine cH aD 1 [(2, (.sl true 0 (fun _ => .bad)))] ?_
    refine bJ ?_
    refine gK [(2, (.sl true 0 (fun _ => .bad)))] ?_
    refine KW (el := (fun _ => .bad)) 0 2 2 hO (by kernel_rfl) ?_
    intro lo4 H5 hO
    obtain rfl := oI h0
    exact aI (aR (jY (x := (.msl 2 lo4 0 (List.length ([] : List aC)))) (by kernel_rfl) (aN.refl _) ⟨lo4, rfl, hO⟩))
  · refine bO ?_
    refine bH [(0, (eL aP s0))] ?_
    refine aO ?_
    refine aT aD 4 ?_
    refine rX (xs := []) (k := 2) (by kernel_rfl) (by kernel_rfl) ?_
    refine bR 2 ?_
    obtain ⟨c7, h0⟩ := aU h0
    refine GU (e := aP) s0 (fun _ => .bad) 2 16 (eL aP s0) (fun lo6 => [(lo6, 2, List.map aP s0)]) (by kernel_rfl) (by kernel_rfl) hO (GV (fun _ => by kernel_rfl)) c7 (fun _ => by kernel_rfl) ?_
    intro lo6 H hO
    refine bE ?_
    refine bH [(2, (.msl 2 lo6 0 (List.length s0)))] ?_
    refine bJ ?_
    obtain rfl := oI h0
    exact aI (jY (x := (.msl 2 lo6 0 (List.length s0))) (by kernel_rfl) (aN.refl _) ⟨lo6, rfl, hO⟩)

theorem MI (f0 : (List aC)) (r : ((List aC) × Int)) (h0 : qH f0 = some r) : dI Try.prog 75 [(eL aP f0)] (.tup [(eL aP r.1), (eI r.2)]) := by
  intro H0
  refine dG Try.func75 ?_
  have hO := aL.start H0
  unfold qH at h0
  refine aS aD 2 [] [] ?_
  refine aO ?_
  refine aO ?_
  refine aT aD 3 ?_
  refine bR 1 ?_
  obtain ⟨x1, hx2, h0⟩ := aV h0
  refine dU (tJ f0 _ hx2) hO ?_
  intro H hO
  refine bE ?_
  refine bX [] [(6, (aF (!x1)))] ?_
  refine bN h0 (fun h0 => ?_) (fun h0 => ?_)
  · refine cH aD 2 [(2, (.sl true 0 (fun _ => .bad))), (3, (eI (7 : Int)))] ?_
    refine bJ ?_
    refine cW (l := [(2, (eL aP ([]))), (3, (eI (7 : Int)))]) ⟨[(2, (.sl true 0 (fun _ => .bad))), (3, (eI (7 : Int)))], by kernel_rfl, rfl, ⟨kH, aN.refl _, trivial⟩⟩ ?_
    obtain rfl := oI h0
    exact aI (aR (Q_r hO))
  refine bO ?_
  refine bH [(0, (eL aP f0))] ?_
  refine cH aD 3 [(2, (eL aP f0)), (3, (eI (0 : Int)))] ?_
  refine bJ ?_
  obtain rfl := oI h0
  exact aI (Q_r hO)

theorem MU (f0 : (List aC)) (t1 : Int) (r : ((List aC) × Int)) (h0 : sN f0 t1 = some r) : dI Try.prog 55 [(eL aP f0), (eI t1)] (.tup [(eL aP r.1), (eI r.2)]) := by
  intro H0
  refine dG Try.func55 ?_
  have hO := aL.start H0
  unfold sN at h0
  refine aS aD 2 [] [] ?_
  refine aO ?_
  refine cG 0 ?_
  refine aO ?_
  refine aT aD 4 ?_
  refine bR 1 ?_
  obtain ⟨x1, hx2, h0⟩ := aV h0
  refine dU (tJ f0 _ hx2) hO ?_
  intro H hO
  refine bE ?_
  refine bX [] [(9, (aF (!x1)))] ?_
  refine bN h0 (fun h0 => ?_) (fun h0 => ?_)
  · refine cH aD 2 [(4, (.sl true 0 (fun _ => .bad))), (5, (eI (2 : Int)))] ?_
    refine bJ ?_
    refine cW (l := [(4, (eL aP ([]))), (5, (eI (2 : Int)))]) ⟨[(4, (.sl true 0 (fun _ => .bad))), (5, (eI (2 : Int)))], by kernel_rfl, rfl, ⟨kH, aN.refl _, trivial⟩⟩ ?_
    obtain rfl := oI h0
    exact aI (bM (aR (Q_r hO)))
  refine aS aD 3 [9] [(13, (aF (decide ((1125899906842624 : Int) ≤ t1))))] ?_
  refine bN h0 (fun h0 => ?_) (fun h0 => ?_)
  · refine cH aD 2 [(4, (.sl true 0 (fun _ => .bad))), (5, (eI (0 : Int)))] ?_
    refine bJ ?_
    refine cW (l := [(4, (eL aP ([]))), (5, (eI (0 : Int)))]) ⟨[(4, (.sl true 0 (fun _ => .bad))), (5, (eI (0 : Int)))], by kernel_rfl, rfl, ⟨kH, aN.refl _, trivial⟩⟩ ?_
    obtain rfl := oI h0
    exact aI (bM (aR (Q_r hO)))
  refine aS aD 3 [13] [(16, (aF (decide (t1 ≤ (-1 : Int)))))] ?_
  refine bN h0 (fun h0 => ?_) (fun h0 => ?_)
  · refine aO ?_
    refine aT aD 4 ?_
    refine bR 1 ?_
    obtain ⟨x7, hx8, h0⟩ := aV h0
    refine XV (L' := fun lo9 => [(lo9, 2, List.map aP x7)]) 2 (List.map aP x7) 74 [(eL aP f0)] (fun lo9 => (.msl 2 lo9 0 (List.length x7))) (by kernel_rfl) (by kernel_rfl) (tC f0 _ hx8) hO (fun _ => by kernel_rfl) ?_
    intro lo9 H hO
    refine bE ?_
    refine bH [(4, (.msl 2 lo9 0 (List.length x7))), (5, (eI (0 : Int)))] ?_
    refine bJ ?_
    refine gK [(4, (.msl 2 lo9 0 (List.length x7))), (5, (eI (0 : Int)))] ?_
    refine xL (en := aP) x7 0 0 4 2 lo9 (List.length x7) hO (by kernel_rfl) (by kernel_rfl) (by kernel_rfl) (L' := []) (by kernel_rfl) ?_
    intro H10 hO
    obtain rfl := oI h0
    exact aI (bM (aR (Q_r hO)))
  refine bO ?_
  refine gK [(0, (eL aP f0)), (1, (eI t1))] ?_
  refine aI (aY (aH (?_)))
  refine aS aD 2 [] [(6, (eI (0 : Int))), (7, (eI (0 : Int)))] ?_
  refine iA (fun T H => ∃ v6 : Int, ∃ at7 : Int, Has T [(0, (eL aP f0)), (6, (eI v6)), (7, (eI at7))] ∧ aL ⟨H0, [], []⟩ H [] ∧ qU f0 v6 at7 = some r) ?_ ?_
  · clear hO h0
    rintro T H ⟨v6, at7, hT, hO, h0⟩
    refine bF hT ?_
    clear hT
    unfold qU at h0
    refine aO ?_
    refine aT aD 2 ?_
    refine rX (xs := []) (k := 2) (by kernel_rfl) (by kernel_rfl) ?_
    refine bE ?_
    refine bX [] [(8, (.sl true 0 (fun _ => .bad)))] ?_
    refine iA (fun T H => ∃ out8 : List aC, ∃ lo11 : Nat, Has T [(0, (eL aP f0)), (7, (eI at7)), (8, (.msl 2 lo11 0 (List.length out8)))] ∧ aL ⟨H0, [], []⟩ H [(lo11, 2, List.map aP out8)] ∧ rD f0 at7 out8 = some r) ?_ ?_
    · clear hO h0
      rintro T H ⟨out8, lo11, hT, hO, h0⟩
      refine bF hT ?_
      clear hT
      unfold rD at h0
      refine aO ?_
      refine aT aD 10 ?_
      obtain ⟨c15, h0⟩ := aU h0
      refine uC 4 [0 ≤ at7 ∧ at7 ≤ (lN f0)] ⟨c15, trivial⟩ ?_
      obtain ⟨c17, h0⟩ := aU h0
      refine CB (e := aP) out8 (List.drop (Int.toNat at7) f0) 0 lo11 2 16 (.sl false (List.length f0 - Int.toNat at7) (fun i => aP (List.getD f0 (Int.toNat at7 + i) default))) (fun lo16 => [(lo16, 2, List.map aP (out8 ++ (List.drop (Int.toNat at7) f0)))]) (by kernel_rfl) (by kernel_rfl) hO (by kernel_rfl) (TH (fun _ => by kernel_rfl)) c17 (fun _ => by kernel_rfl) ?_
      intro lo16 H hO
      refine IN (e := aP) (out8 ++ (List.drop (Int.toNat at7) f0)) 0 55 2 lo16 (List.length (out8 ++ (List.drop (Int.toNat at7) f0))) [] (by kernel_rfl) hO (by kernel_rfl) (by kernel_rfl) (by kernel_rfl) (by kernel_rfl) ?_
      intro H hO
      obtain ⟨x18, hx19, h0⟩ := aV h0
      refine dU (MI (out8 ++ (List.drop (Int.toNat at7) f0)) _ hx19) hO ?_
      intro H hO
      refine bE ?_
      refine bH [(4, (eL aP x18.1)), (5, (eI x18.2))] ?_
      refine bJ ?_
      obtain rfl := oI h0
      exact aI (Q_r hO)
    refine aS aD 2 [] [(45, (aF (!decide (v6 = (0 : Int)))))] ?_
    refine bN h0 (fun h0 => ?_) (fun h0 => ?_)
    · refine aT aD 6 ?_
      refine bR 3 ?_
      refine rX (xs := [(aP (aC.mk (-1 : Int) v6))]) (k := 2) (by kernel_rfl) (by kernel_rfl) ?_
      obtain ⟨c23, h0⟩ := aU h0
      refine GU (e := aP) ([aC.mk (-1 : Int) v6]) (fun _ => .bad) 2 16 (lJ [(aP (aC.mk (-1 : Int) v6))]) (fun lo22 => [(lo22, 2, List.map aP ([aC.mk (-1 : Int) v6]))]) (by kernel_rfl) (by kernel_rfl) hO (by kernel_rfl) c23 (fun _ => by kernel_rfl) ?_
      intro lo22 H hO
      refine bE ?_
      exact aI (aH (⟨rfl, _, _, .eq (by kernel_rfl), hO, h0⟩))
    refine bO ?_
    refine gK [(0, (eL aP f0)), (7, (eI at7)), (8, (.sl true 0 (fun _ => .bad)))] ?_
    refine KW (el := (fun _ => .bad)) 2 8 2 hO (by kernel_rfl) ?_
    intro lo24 H25 hO
    exact aI (aH (⟨rfl, ([] : List aC), _, .eq (by kernel_rfl), hO, h0⟩))
  refine cG 1 ?_
  refine gR [(0, (eL aP f0)), (1, (eI t1)), (6, (eI (0 : Int))), (7, (eI (0 : Int)))] ?_
  refine fG (fun T H => ∃ v6 : Int, ∃ at7 : Int, Has T [(0, (eL aP f0)), (1, (eI t1)), (6, (eI v6)), (7, (eI at7))] ∧ aL ⟨H0, [], []⟩ H [] ∧ tY f0 t1 v6 at7 = some r) ?_ ⟨(0 : Int), (0 : Int), .eq (by kernel_rfl), hO, h0⟩
  clear hO h0
  rintro T H ⟨v6, at7, hT, hO, h0⟩
  refine bF hT ?_
  clear hT
  unfold tY at h0
  obtain ⟨rr0, hl0, h0⟩ := aV h0
  refine dN (by kernel_rfl) (fun (s : Int × Int) T H => Has T [(0, (eL aP f0)), (1, (eI t1)), (6, (eI s.1)), (7, (eI s.2))] ∧ aL ⟨H0, [], []⟩ H []) hl0 ⟨.eq (by kernel_rfl), hO⟩ ?_
  clear hO
  rintro k0 s out1 T H ⟨hT, hO⟩ h1 ho0
  obtain ⟨v6, at7⟩ := s
  replace h1 : kQ f0 t1 v6 at7 = some out1 := h1
  try dsimp only at hT
  refine bF hT ?_
  clear hT
  unfold kQ at h1
  refine aO ?_
  refine aO ?_
  refine aT aD 13 ?_
  obtain ⟨c26, h1⟩ := aU h1
  refine mX [(((decide (at7 < (lN f0)))) = true → 0 ≤ at7 ∧ at7 < (lN f0))] ⟨c26, trivial⟩ ?_
  refine bX [] [(33, (aF ((decide (at7 < (lN f0))) && (decide (((gD f0 at7).At) < t1)))))] ?_
  refine bN h1 (fun h1 => ?_) (fun h1 => ?_)
  · refine bO ?_
    refine bH [(0, (eL aP f0)), (1, (eI t1)), (6, (eI v6)), (7, (eI at7))] ?_
    refine cG 2 ?_
    refine aO ?_
    refine aT aD 8 ?_
    obtain ⟨c28, h1⟩ := aU h1
    refine mX [0 ≤ at7 ∧ at7 < (lN f0)] ⟨c28, trivial⟩ ?_
    refine bX [6] [(6, (eI (wR (v6 + ((gD f0 at7).Net)))))] ?_
    refine aT aD 3 ?_
    refine bE ?_
    exact aI (aY (aH (⟨rfl, _, (oI h1).symm, .eq (by kernel_rfl), hO⟩)))
  refine iP 1 ?_
  obtain rfl := oI h1
  obtain rfl : _ = rr0 := ho0
  replace h0 : qU f0 v6 at7 = some r := h0
  exact aI (aW (aW (cC (aH (⟨rfl, _, _, .eq (by kernel_rfl), hO, h0⟩)))))

theorem IU (f0 : (List aC)) (t1 : Int) (r : ((List aC) × Int)) (h0 : nW f0 t1 = some r) : dI Try.prog 54 [(eL aP f0), (.rp (eI t1))] (.tup [(eL aP r.1), (eI r.2)]) := by
  intro H0
  refine dG Try.func54 ?_
  have hO := aL.start H0
  unfold nW at h0
  refine aS aD 2 [] [] ?_
  refine aO ?_
  refine aT aD 7 ?_
  refine bR 2 ?_
  obtain ⟨x1, hx2, h0⟩ := aV h0
  refine dU (MU f0 t1 _ hx2) hO ?_
  intro H hO
  refine bE ?_
  refine bH [(3, (eL aP x1.1)), (4, (eI x1.2))] ?_
  refine bJ ?_
  obtain rfl := oI h0
  exact aI (Q_r hO)

theorem MJ (l0 : (List aE)) (t1 : Int) (r : ((List aE) × Int)) (h0 : sF l0 t1 = some r) : dI Try.prog 30 [(eL aG l0), (eI t1)] (.tup [(eL aG r.1), (eI r.2)]) := by
  intro H0
  refine dG Try.func30 ?_
  have hO := aL.start H0
  unfold sF at h0
  refine aO ?_
  refine aT aD 3 ?_
  refine pP 1 (eI t1) (by kernel_rfl) (by kernel_rfl) ?_
  refine bE ?_
  refine bX [1] [(3, (.rp (eI t1)))] ?_
  refine aO ?_
  refine aT aD 7 ?_
  refine bR 2 ?_
  obtain ⟨x1, hx2, h0⟩ := aV h0
  refine dU (PW l0 54 [] [(.rp (eI t1))] (fun y0 => nW y0 t1) (fun y0 r h => IU y0 t1 r h) _ hx2) hO ?_
  intro H hO
  refine bE ?_
  refine bH [(4, (eL aG x1.1)), (5, (eI x1.2))] ?_
  refine bJ ?_
  obtain rfl := oI h0
  exact aI (Q_r hO)

theorem yL (l0 : (List aE)) (n1 : Int) (t2 : Int) (r : Bool) (h0 : mQ l0 n1 t2 = some r) : dI Try.prog 9 [(eL aG l0), (eI n1), (eI t2)] (aF r) := by
  intro H0
  refine dG Try.func9 ?_
  have hO := aL.start H0
  unfold mQ at h0
  refine aS aD 1 [] [] ?_
  refine aO ?_
  refine aT aD 9 ?_
  refine bR 3 ?_
  obtain ⟨x1, hx2, h0⟩ := aV h0
  refine dU (vO l0 n1 t2 _ hx2) hO ?_
  intro H hO
  refine bE ?_
  refine bX [] [(7, (eI x1.1)), (8, (eI x1.2))] ?_
  refine aO ?_
  refine aS aD 6 [8] [(29, (aF ((!decide (x1.2 = (0 : Int))) || (decide (x1.1 = (1125899906842624 : Int))))))] ?_
  refine bN h0 (fun h0 => ?_) (fun h0 => ?_)
  · refine aO ?_
    refine aT aD 2 ?_
    obtain ⟨x5, hx6, h0⟩ := aV h0
    refine dU (xI  _ hx6) hO ?_
    intro H hO
    refine bE ?_
    refine bH [(6, (aF x5))] ?_
    refine bJ ?_
    obtain rfl := oI h0
    exact aI (aR (Q_r hO))
  refine bO ?_
  refine bH [(0, (eL aG l0)), (1, (eI n1)), (2, (eI t2)), (7, (eI x1.1))] ?_
  refine aO ?_
  refine aT aD 8 ?_
  refine bR 2 ?_
  obtain ⟨x8, hx9, h0⟩ := aV h0
  refine dU (MJ l0 x1.1 _ hx9) hO ?_
  intro H hO
  refine bE ?_
  refine bX [] [(9, (eL aG x8.1)), (10, (eI x8.2))] ?_
  refine aO ?_
  refine aS aD 2 [10] [(38, (aF (!decide (x8.2 = (0 : Int)))))] ?_
  refine bN h0 (fun h0 => ?_) (fun h0 => ?_)
  · refine aO ?_
    refine aT aD 2 ?_
    obtain ⟨x12, hx13, h0⟩ := aV h0
    refine dU (xI  _ hx13) hO ?_
    intro H hO
    refine bE ?_
    refine bH [(6, (aF x12))] ?_
    refine bJ ?_
    obtain rfl := oI h0
    exact aI (aR (Q_r hO))
  refine bO ?_
  refine bH [(0, (eL aG l0)), (1, (eI n1)), (2, (eI t2)), (7, (eI x1.1)), (9, (eL aG x8.1))] ?_
  refine aO ?_
  refine aT aD 9 ?_
  refine bR 3 ?_
  obtain ⟨x15, hx16, h0⟩ := aV h0
  refine dU (vO x8.1 n1 t2 _ hx16) hO ?_
  intro H hO
  refine bE ?_
  refine bX [2] [(11, (eI x15.1)), (12, (eI x15.2))] ?_
  refine aO ?_
  refine aT aD 9 ?_
  refine bR 3 ?_
  obtain ⟨x18, hx19, h0⟩ := aV h0
  refine dU (uH l0 n1 x1.1 _ hx19) hO ?_
  intro H hO
  refine bE ?_
  refine bX [0] [(13, (eL bA x18.1)), (14, (eI x18.2))] ?_
  refine aO ?_
  refine aT aD 9 ?_
  refine bR 3 ?_
  obtain ⟨x21, hx22, h0⟩ := aV h0
  refine dU (uH x8.1 n1 x1.1 _ hx22) hO ?_
  intro H hO
  refine bE ?_
  refine bX [1, 9] [(15, (eL bA x21.1)), (16, (eI x21.2))] ?_
  refine aO ?_
  refine aT aD 21 ?_
  obtain ⟨x24, hx25, h0⟩ := aV h0
  refine dU (xI  _ hx25) hO ?_
  intro H hO
  refine bR 18 ?_
  obtain ⟨x27, hx28, h0⟩ := aV h0
  refine nY [(76, true)] 16 [(eL bA x18.1), (eL bA x21.1)] (aF x27) (((x24 && (decide (x15.2 = (0 : Int)))) && (decide (x15.1 = x1.1))) && (decide (x18.2 = x21.2))) (by kernel_rfl) (by kernel_rfl) (by kernel_rfl) (fun hb29 => (KB x18.1 x21.1 _ (kA hx28 hb29))) hO ?_
  intro H hO
  refine bE ?_
  refine bH [(6, (aF ((((x24 && (decide (x15.2 = (0 : Int)))) && (decide (x15.1 = x1.1))) && (decide (x18.2 = x21.2))) && x27)))] ?_
  refine bJ ?_
  obtain rfl := oI h0
  exact aI (Q_r hO)

end Go.Abs
namespace Go.Abs
open Go Go.RowKit Go.Proofs
theorem BE {H : Type} {enc : TypeId × Value → H} {w : World} : tP enc Try.prog w 53 aK wW :=
  BG Try.underlying53 (by kernel_rfl) (qD (c' := CV) (ok' := wW) (fun (a : Int) (b : Int × ByteArray × Unit) => (aB.mk a b.1 b.2.1 : aB)) (by kernel_rfl) (xV Try.underlying51) (qD (c' := fun (b : Int × ByteArray × Unit) => (V.cells (cP .i64 b.1) ++ (V.cells (uE b.2.1) ++ []))) (ok' := fun b => (uD b.1 ∧ ((fun s => s.size ≤ maxLen) b.2.1 ∧ True))) (fun a b => (a, b)) (by kernel_rfl) (xV Try.underlying3) (qD (c' := fun (b : ByteArray × Unit) => (V.cells (uE b.1) ++ [])) (ok' := fun b => ((fun s => s.size ≤ maxLen) b.1 ∧ True)) (fun a b => (a, b)) (by kernel_rfl) (LQ Try.underlying9) (EG ()) (fun _ _ => rfl) (fun _ _ h1 h2 => ⟨h1, h2⟩)) (fun _ _ => rfl) (fun _ _ h1 h2 => ⟨h1, h2⟩)) (fun _ _ => rfl) (fun _ _ h1 h2 => ⟨h1, h2⟩))

theorem CJ {H : Type} {enc : TypeId × Value → H} {w : World} : tP enc Try.prog w 57 aG sE :=
  BG Try.underlying57 (by kernel_rfl) (qD (c' := EM) (ok' := sE) (fun (a : (List aB)) (b : Int × Int × Unit) => (aE.mk a b.1 b.2.1 : aE)) (by kernel_rfl) (MM Try.underlying55 (by decide +kernel) (fun _ => by kernel_rfl) (fun _ => rfl) BE (by kernel_rfl)) (qD (c' := fun (b : Int × Int × Unit) => (V.cells (cP .i64 b.1) ++ (V.cells (cP .i64 b.2.1) ++ []))) (ok' := fun b => (uD b.1 ∧ (uD b.2.1 ∧ True))) (fun a b => (a, b)) (by kernel_rfl) (xV Try.underlying3) (qD (c' := fun (b : Int × Unit) => (V.cells (cP .i64 b.1) ++ [])) (ok' := fun b => (uD b.1 ∧ True)) (fun a b => (a, b)) (by kernel_rfl) (xV Try.underlying3) (EG ()) (fun _ _ => rfl) (fun _ _ h1 h2 => ⟨h1, h2⟩)) (fun _ _ => rfl) (fun _ _ h1 h2 => ⟨h1, h2⟩)) (fun _ _ => rfl) (fun _ _ h1 h2 => ⟨h1, h2⟩))

end Go.Abs
namespace Go.Abs
open Go
theorem dS {n : Int} (h1 : -9223372036854775808 ≤ n) (h2 : n ≤ 9223372036854775807) : IntKind.i64.wrap n = n := by
  simp only [IntKind.wrap, IntKind.bits, IntKind.signed]
  simp
  split <;> omega

def nS {α st R : Type} (step : st → α → Option (st ⊕ R)) (fin : st → R) : st → List α → Option R
  | s, [] => some (fin s)
  | s, a :: r => match step s a with
    | some (.inl s') => nS step fin s' r
    | some (.inr x) => some x
    | none => none

theorem FM {α st R : Type} {step : st → α → Option (st ⊕ R)} {fin : st → R} {s s' : st} {a : α} {r : List α} (h : step s a = some (.inl s')) : nS step fin s (a :: r) = nS step fin s' r := by
  simp only [nS, h]

theorem FL {α st R : Type} {step : st → α → Option (st ⊕ R)} {fin : st → R} {s : st} {x : R} {a : α} {r : List α} (h : step s a = some (.inr x)) : nS step fin s (a :: r) = some x := by
  simp only [nS, h]

theorem NU {α S st R : Type} {body : S → Option (S ⊕ R)} {l : List α} (mk : st → Int → S) (step : st → α → Option (st ⊕ R)) (fin : st → R)
    (hn : ∀ (i : Nat) a s, l[i]? = some a → (∀ s', step s a = some (.inl s') → body (mk s i) = some (.inl (mk s' ((i + 1 : Nat) : Int)))) ∧ (∀ x, step s a = some (.inr x) → body (mk s i) = some (.inr x)))
    (he : ∀ s, body (mk s (l.length : Nat)) = some (.inr (fin s))) : ∀ (m k : Nat) (s : st) (r : R), l.length - k = m → k ≤ l.length → nS step fin s (l.drop k) = some r → lp body (mk s k) = some r
  | 0, k, s, r, hm, hk, h => by
    have : k = l.length := by omega
    subst this
    rw [List.drop_length] at h
    simp only [nS, Option.some.injEq] at h
    subst h
    exact cV (he s)
  | m + 1, k, s, r, hm, hk, h => by
    have hlt : k < l.length := by omega
    have hd : l.drop k = l[k] :: l.drop (k + 1) := List.drop_eq_getElem_cons hlt
    rw [hd] at h
    simp only [nS] at h
    obtain ⟨h1, h2⟩ := hn k l[k] s (List.getElem?_eq_getElem hlt)
    split at h
    · rename_i s' hs
      rw [gF (h1 s' hs)]
      exact NU mk step fin hn he m (k + 1) s' r (by omega) (by omega) h
    · rename_i x hs
      simp at h; subst h
      exact cV (h2 x hs)
    · cases h

theorem UA {α S st R : Type} {body : S → Option (S ⊕ R)} {l : List α} (mk : st → Int → S) (step : st → α → Option (st ⊕ R)) (fin : st → R)
    (hn : ∀ (i : Nat) a s, l[i]? = some a → (∀ s', step s a = some (.inl s') → body (mk s i) = some (.inl (mk s' ((i + 1 : Nat) : Int)))) ∧ (∀ x, step s a = some (.inr x) → body (mk s i) = some (.inr x)))
    (he : ∀ s, body (mk s (l.length : Nat)) = some (.inr (fin s))) {s : st} {r : R} (h : nS step fin s l = some r) : lp body (mk s 0) = some r :=
  NU mk step fin hn he _ 0 s r rfl (Nat.zero_le _) (by simpa using h)

theorem MB {α S st R : Type} {body : S → Option (S ⊕ R)} {l : List α} (mk : st → Int → S) (step : st → α → Option (st ⊕ R)) (fin : st → R) (Inv : Nat → st → Prop)
    (hn : ∀ (i : Nat) a s, Inv i s → l[i]? = some a → (∀ s', step s a = some (.inl s') → Inv (i + 1) s' ∧ body (mk s i) = some (.inl (mk s' ((i + 1 : Nat) : Int)))) ∧ (∀ x, step s a = some (.inr x) → body (mk s i) = some (.inr x)))
    (he : ∀ s, Inv l.length s → body (mk s (l.length : Nat)) = some (.inr (fin s))) : ∀ (m k : Nat) (s : st) (r : R), l.length - k = m → k ≤ l.length → Inv k s → nS step fin s (l.drop k) = some r → lp body (mk s k) = some r
  | 0, k, s, r, hm, hk, hi, h => by
    have : k = l.length := by omega
    subst this
    rw [List.drop_length] at h
    simp only [nS, Option.some.injEq] at h
    subst h
    exact cV (he s hi)
  | m + 1, k, s, r, hm, hk, hi, h => by
    have hlt : k < l.length := by omega
    have hd : l.drop k = l[k] :: l.drop (k + 1) := List.drop_eq_getElem_cons hlt
    rw [hd] at h
    simp only [nS] at h
    obtain ⟨h1, h2⟩ := hn k l[k] s hi (List.getElem?_eq_getElem hlt)
    split at h
    · rename_i s' hs
      obtain ⟨hi', hb⟩ := h1 s' hs
      rw [gF hb]
      exact MB mk step fin Inv hn he m (k + 1) s' r (by omega) (by omega) hi' h
    · rename_i x hs
      simp at h; subst h
      exact cV (h2 x hs)
    · cases h

theorem SD {α S st R : Type} {body : S → Option (S ⊕ R)} {l : List α} (mk : st → Int → S) (step : st → α → Option (st ⊕ R)) (fin : st → R) (Inv : Nat → st → Prop)
    (hn : ∀ (i : Nat) a s, Inv i s → l[i]? = some a → (∀ s', step s a = some (.inl s') → Inv (i + 1) s' ∧ body (mk s i) = some (.inl (mk s' ((i + 1 : Nat) : Int)))) ∧ (∀ x, step s a = some (.inr x) → body (mk s i) = some (.inr x)))
    (he : ∀ s, Inv l.length s → body (mk s (l.length : Nat)) = some (.inr (fin s))) {s : st} {r : R} (hi : Inv 0 s) (h : nS step fin s l = some r) : lp body (mk s 0) = some r :=
  MB mk step fin Inv hn he _ 0 s r rfl (Nat.zero_le _) hi (by simpa using h)

theorem idx {α : Type} [Inhabited α] {l : List α} {i : Nat} {a : α} (h : l[i]? = some a) (hl : l.length < 4611686018427387904) :
    decide ((i : Int) < ((l.length : Nat) : Int)) = true ∧ (0 ≤ (i : Int) ∧ (i : Int) < ((l.length : Nat) : Int)) ∧ l.getD (Int.toNat (i : Int)) default = a ∧ IntKind.i64.wrap ((i : Int) + 1) = ((i + 1 : Nat) : Int) := by
  have hlt : i < l.length := (List.getElem?_eq_some_iff.1 h).1
  refine ⟨by simpa using hlt, ⟨by omega, by omega⟩, ?_, ?_⟩
  · rw [Int.toNat_natCast, List.getD_eq_getElem?_getD, h]; rfl
  · rw [dS (by omega) (by omega)]; omega

theorem mO {n : Nat} : decide (((n : Nat) : Int) < ((n : Nat) : Int)) = false := by simp

theorem aAj {α : Type} {j : α} {r : List α} : (0 : Int) ≤ 0 ∧ (0 : Int) < ((List.length (j :: r) : Nat) : Int) := ⟨by omega, by simp⟩

theorem ZN {α : Type} [Inhabited α] {j : α} {r : List α} : List.getD (j :: r) (Int.toNat (0 : Int)) default = j := rfl

end Go.Abs
namespace Go.Abs
open Go
theorem drop_cons {α : Type} {l r : List α} {a : α} {k : Nat} (h : l.drop k = a :: r) : l[k]? = some a ∧ l.drop (k + 1) = r := by
  have hk : k < l.length := by
    apply Classical.byContradiction; intro hn
    rw [List.drop_eq_nil_of_le (by omega)] at h; cases h
  rw [List.drop_eq_getElem_cons hk] at h
  obtain ⟨h1, h2⟩ := List.cons.inj h
  exact ⟨by rw [List.getElem?_eq_getElem hk, h1], h2⟩

theorem RV {α S st R : Type} {body : S → Option (S ⊕ R)} {l : List α} (mk : st → Int → S) (G : st → List α → R) (Inv : st → List α → Prop)
    (hn : ∀ (i : Nat) a r s, l[i]? = some a → Inv s (a :: r) → (∃ s', body (mk s i) = some (.inl (mk s' ((i + 1 : Nat) : Int))) ∧ Inv s' r ∧ G s' r = G s (a :: r)) ∨ body (mk s i) = some (.inr (G s (a :: r))))
    (he : ∀ s, Inv s [] → body (mk s (l.length : Nat)) = some (.inr (G s []))) : ∀ (r : List α) (k : Nat) (s : st), l.drop k = r → k ≤ l.length → Inv s r → lp body (mk s k) = some (G s r)
  | [], k, s, hd, hk, hi => by
    have : k = l.length := by
      have := congrArg List.length hd
      simp only [List.length_drop, List.length_nil] at this; omega
    subst this
    exact cV (he s hi)
  | a :: r, k, s, hd, hk, hi => by
    obtain ⟨h1, h2⟩ := drop_cons hd
    have hlt : k < l.length := (List.getElem?_eq_some_iff.1 h1).1
    rcases hn k a r s h1 hi with ⟨s', hb, hi', hg⟩ | hb
    · rw [gF hb, RV mk G Inv hn he r (k + 1) s' h2 (by omega) hi', hg]
    · exact cV hb

theorem CA {α S st R : Type} {body : S → Option (S ⊕ R)} {l : List α} (mk : st → Int → S) (G : st → List α → R) (Inv : st → List α → Prop) (s : st)
    (hn : ∀ (i : Nat) a r s, l[i]? = some a → Inv s (a :: r) → (∃ s', body (mk s i) = some (.inl (mk s' ((i + 1 : Nat) : Int))) ∧ Inv s' r ∧ G s' r = G s (a :: r)) ∨ body (mk s i) = some (.inr (G s (a :: r))))
    (he : ∀ s, Inv s [] → body (mk s (l.length : Nat)) = some (.inr (G s []))) (hi : Inv s l) : lp body (mk s 0) = some (G s l) :=
  RV mk G Inv hn he l 0 s rfl (Nat.zero_le _) hi

theorem TE {α S R : Type} {body : S → Option (S ⊕ R)} {l : List α} (mk : Int → S) (bad : α → Bool) (x y : R)
    (hn : ∀ (i : Nat) a, l[i]? = some a → body (mk i) = some (if bad a then .inr x else .inl (mk ((i + 1 : Nat) : Int))))
    (he : body (mk (l.length : Nat)) = some (.inr y)) : lp body (mk 0) = some (if l.any bad then x else y) := by
  refine CA (st := Unit) (fun _ i => mk i) (fun _ r => if r.any bad then x else y) (fun _ _ => True) () ?_ ?_ trivial
  · intro i a r s ha _
    have hb := hn i a ha
    cases h : bad a
    · left; refine ⟨(), ?_, trivial, ?_⟩
      · simpa [h] using hb
      · simp [List.any_cons, h]
    · right; simpa [h, List.any_cons] using hb
  · intro _ _; simpa using he

end Go.Abs
namespace Go.Abs
open Go
variable {α : Type} [Inhabited α]
structure Cmp {β : Type} (ok : β → Prop) (le : β → β → Prop) (cmp : β → β → Option Int) : Prop where
  ans : ∀ x y, ok x → ok y → ∃ v, cmp x y = some v ∧ (v < 0 ↔ ¬ le y x)
  trans : ∀ x y z, ok x → ok y → ok z → le x y → le y z → le x z
  total : ∀ x y, ok x → ok y → le x y ∨ le y x

abbrev Srt {β : Type} (le : β → β → Prop) (l : List β) : Prop := l.Pairwise le

abbrev Oks {β : Type} (ok : β → Prop) (l : List β) : Prop := ∀ x ∈ l, ok x

theorem wr {n : Int} (h1 : -1099511627776 ≤ n) (h2 : n ≤ 8796093022208) : IntKind.i64.wrap n = n := dS (by omega) (by omega)

section ins
variable {ok : α → Prop} {le : α → α → Prop} {cmp : α → α → Option Int}
end ins
end Go.Abs
namespace Go.Abs
open Go
variable {α : Type} [Inhabited α]
theorem half {s : Nat} (h : s ≤ 4398046511104) : IntKind.i64.wrap (Int.fdiv (IntKind.u64.wrap (IntKind.i64.wrap (s : Int))) (2 ^ (min (Int.toNat (1 : Int)) 64))) = ((s / 2 : Nat) : Int) := by
  rw [wr (n := (s : Int)) (by omega) (by omega)]
  have hu : IntKind.u64.wrap (s : Int) = (s : Int) := by
    simp only [IntKind.wrap, IntKind.bits, IntKind.signed]
    simp
    omega
  have hp : (2 : Int) ^ (min (Int.toNat (1 : Int)) 64) = 2 := by decide
  rw [hu, hp, Int.fdiv_eq_ediv_of_nonneg _ (by omega), wr (by omega) (by omega)]
  omega

section sym
variable {ok : α → Prop} {le : α → α → Prop} {cmp : α → α → Option Int}
theorem Cmp.refl {β : Type} {ok : β → Prop} {le : β → β → Prop} {cmp : β → β → Option Int} (C : Cmp ok le cmp) {x : β} (h : ok x) : le x x := by rcases C.total x x h h with h | h <;> exact h

end sym
end Go.Abs
namespace Go.Abs
open Go
variable {α : Type} [Inhabited α] {ok : α → Prop} {le : α → α → Prop} {cmp : α → α → Option Int}
inductive GL {β : Type} (le : β → β → Prop) (n : Nat) : List β → Prop
  | last {l : List β} : l.length ≤ n → Srt le l → GL le n l
  | cons {x l : List β} : x.length = n → Srt le x → GL le n l → GL le n (x ++ l)

theorem GL.split {β : Type} {le : β → β → Prop} {n : Nat} {l : List β} (h : GL le n l) (hl : n < l.length) : ∃ x r, l = x ++ r ∧ x.length = n ∧ Srt le x ∧ GL le n r := by
  cases h with
  | last h' _ => omega
  | cons hx hs hr => exact ⟨_, _, rfl, hx, hs, hr⟩

theorem Oks.perm {β : Type} {ok : β → Prop} {l l' : List β} (h : Oks ok l) (hp : l'.Perm l) : Oks ok l' := fun x hx => h x (hp.mem_iff.1 hx)

end Go.Abs
namespace Go.Abs
open Go
structure aAh where
  Row : (List aB)
  Span : cS
  deriving Inhabited, DecidableEq

structure aAi where
  Kind : Int
  Input : Int
  Edges : (List aE)
  At : Int
  deriving Inhabited, DecidableEq

structure aAg where
  row : (List aB)
  jumps : (List aC)
  deriving Inhabited, DecidableEq

end Go.Abs
namespace Go.Abs
open Go
def JE (n : Int) : Bool := decide (n ≤ 1048576) && decide (-1048576 ≤ n)

theorem XR (n : Int) : uR n = some (JE n) := rfl

def DE (last : Int) (j : aC) : Bool := decide (j.At ≤ last) || decide (1125899906842624 ≤ j.At) || decide (j.Net = 0) || !JE j.Net

def chk (last : Int) : List aC → Bool
  | [] => true
  | j :: r => !DE last j && chk j.At r

def jT (f : List aC) : Bool := decide (f.length ≤ 1024) && chk (-2) f

theorem KP {f : List aC} {i : Nat} {a : aC} {last : Int} (ha : f[i]? = some a) (hl : f.length < 4611686018427387904) :
    lF f (f.length : Nat) last i = some (if DE last a then .inr (.inr false) else .inl (a.At, ((i + 1 : Nat) : Int))) := by
  obtain ⟨d1, d2, d3, d4⟩ := idx ha hl
  simp only [lF, d1, cond_true, aM d2, d3, d4, XR]
  unfold DE
  cases h : (decide (a.At ≤ last) || decide (1125899906842624 ≤ a.At) || decide (a.Net = 0)) <;> cases h2 : JE a.Net <;> simp [dJ]

theorem KI : ∀ (f : List aC) (last : Int), nS (fun last (j : aC) => some (if DE last j then .inr (.inr false) else .inl j.At)) (fun _ => (.inl () : Unit ⊕ Bool)) last f = some (if chk last f then .inl () else .inr false)
  | [], last => by simp [nS, chk]
  | j :: r, last => by
    cases h : DE last j
    · rw [FM (s' := j.At) (by simp [h])]
      rw [KI r j.At]
      simp [chk, h]
    · rw [FL (x := .inr false) (by simp [h])]
      simp [chk, h]

theorem BF (f : List aC) : mK f = some (jT f) := by
  unfold mK jT
  by_cases hl : f.length ≤ 1024
  · have h1 : decide ((1024 : Int) < ((f.length : Nat) : Int)) = false := by simp; omega
    rw [h1, cond_false]
    unfold uT
    have key := UA (l := f) (body := fun s : Int × Int => lF f (f.length : Nat) s.1 s.2) (fun last i => (last, i)) _ _
      (fun i a s ha => by
        constructor
        · intro s' hs
          show lF f (f.length : Nat) s i = _
          rw [KP ha (by omega)]
          split at hs <;> simp_all
        · intro x hs
          show lF f (f.length : Nat) s i = _
          rw [KP ha (by omega)]
          split at hs <;> simp_all)
      (fun s => by show lF f (f.length : Nat) s (f.length : Nat) = _; simp only [lF, mO, cond_false]) (KI f (-2))
    rw [key]
    cases h : chk (-2) f <;> simp [sI, hl]
  · have h1 : decide ((1024 : Int) < ((f.length : Nat) : Int)) = true := by simp; omega
    rw [h1, cond_true]
    simp [hl]

theorem QG {last : Int} {j : aC} : DE last j = false ↔ last < j.At ∧ j.At < 1125899906842624 ∧ j.Net ≠ 0 ∧ j.Net ≤ 1048576 ∧ -1048576 ≤ j.Net := by
  simp [DE, JE]
  omega

def nI (last : Int) : List aC → Prop
  | [] => True
  | j :: r => (last < j.At ∧ j.At < 1125899906842624 ∧ j.Net ≠ 0 ∧ j.Net ≤ 1048576 ∧ -1048576 ≤ j.Net) ∧ nI j.At r

theorem NS : ∀ {f : List aC} {last : Int}, chk last f = true ↔ nI last f
  | [], last => by simp [chk, nI]
  | j :: r, last => by simp [chk, nI, QG, NS]

theorem oP {f : List aC} : jT f = true ↔ f.length ≤ 1024 ∧ nI (-2) f := by simp [jT, NS]

theorem nI.above : ∀ {f : List aC} {last : Int}, nI last f → ∀ j ∈ f, last < j.At ∧ j.At < 1125899906842624 ∧ j.Net ≠ 0 ∧ j.Net ≤ 1048576 ∧ -1048576 ≤ j.Net
  | [], _, _, j, hj => by simp at hj
  | a :: r, last, h, j, hj => by
    rcases List.mem_cons.1 hj with rfl | hj
    · exact h.1
    · have := h.2.above j hj
      have h1 := h.1.1
      exact ⟨by omega, this.2⟩

def val (f : List aC) (t : Int) : Int := (f.map fun j => if j.At ≤ t then j.Net else 0).sum

theorem HC (t : Int) : val [] t = 0 := rfl

theorem kD (j : aC) (r : List aC) (t : Int) : val (j :: r) t = (if j.At ≤ t then j.Net else 0) + val r t := by simp [val]

theorem zL (f g : List aC) (t : Int) : val (f ++ g) t = val f t + val g t := by simp [val]

theorem vD {f : List aC} {t : Int} (h : ∀ j ∈ f, t < j.At) : val f t = 0 := by
  induction f with
  | nil => rfl
  | cons j r ih =>
    rw [kD, ih (fun k hk => h k (List.mem_cons_of_mem _ hk))]
    have := h j (List.mem_cons_self ..)
    rw [if_neg (by omega)]; rfl

theorem XM (f : List aC) : qH f = some (if jT f then (f, 0) else ([], 7)) := by
  unfold qH
  rw [BF]
  cases h : jT f <;> simp

end Go.Abs
namespace Go.Abs
open Go
section both
variable {op : Int → Int → Option Int} {f g r : List aC} {out : List aC} {a b was t : Int} {j : aC}
end both
def emit (p v was : Int) : List aC := if v = was then [] else [⟨p, v - was⟩]

def WQ (was : Int) : List (Int × Int) → List aC
  | [] => []
  | x :: r => emit x.1 x.2 was ++ WQ x.2 r

def merge (f g : List aC) (a b : Int) : List (Int × Int × Int) :=
  match f, g with
  | [], [] => []
  | j :: f, [] => (j.At, a + j.Net, b) :: merge f [] (a + j.Net) b
  | [], k :: g => (k.At, a, b + k.Net) :: merge [] g a (b + k.Net)
  | j :: f, k :: g =>
    if j.At < k.At then (j.At, a + j.Net, b) :: merge f (k :: g) (a + j.Net) b
    else if k.At < j.At then (k.At, a, b + k.Net) :: merge (j :: f) g a (b + k.Net)
    else (j.At, a + j.Net, b + k.Net) :: merge f g (a + j.Net) (b + k.Net)

termination_by f.length + g.length
end Go.Abs
namespace Go.Abs
open Go
def comb (OP : Int → Int → Int) (f g : List aC) : List aC := WQ 0 ((merge f g 0 0).map fun x => (x.1, OP x.2.1 x.2.2))

def told (f : List aC) : List aC × Int := if jT f then (f, 0) else ([], 7)

theorem UN (f : List aC) : qH f = some (told f) := XM f

def two (OP : Int → Int → Int) (f g : List aC) : List aC × Int := if jT f && jT g then told (comb OP f g) else ([], 2)

end Go.Abs
namespace Go.Abs
open Go
theorem nI.vU {l t : Int} {f : List aC} (h : nI l f) (ht : t ≤ l) : val f t = 0 := vD fun j hj => by have := (h.above j hj).1; omega

end Go.Abs
namespace Go.Abs
open Go
def oQ (f : List aC) : Int := (f.map aC.Net).sum

theorem HP (j : aC) (f : List aC) : oQ (j :: f) = j.Net + oQ f := by simp [oQ]

def jA (t : Int) : List aC → List aC
  | [] => []
  | j :: r => if t ≤ j.At then [] else j :: jA t r

def aft (t : Int) : List aC → List aC
  | [] => []
  | j :: r => if t ≤ j.At then j :: r else aft t r

theorem sY (t : Int) : ∀ f : List aC, jA t f ++ aft t f = f
  | [] => rfl
  | j :: r => by
    unfold jA aft
    split
    · rfl
    · simp [sY t r]

theorem GB {t : Int} : ∀ {f : List aC}, ∀ j ∈ jA t f, j.At < t
  | [], j, h => by simp [jA] at h
  | k :: r, j, h => by
    unfold jA at h
    split at h
    · simp at h
    · rcases List.mem_cons.1 h with rfl | h
      · omega
      · exact GB j h

theorem ET {t l : Int} : ∀ {f : List aC}, nI l f → ∀ j ∈ aft t f, t ≤ j.At
  | [], _, j, h => by simp [aft] at h
  | k :: r, hr, j, h => by
    unfold aft at h
    split at h
    · rcases List.mem_cons.1 h with rfl | h
      · assumption
      · have := (hr.2.above j h).1; omega
    · exact ET hr.2 j h

theorem NT {f : List aC} {t : Int} (h : ∀ j ∈ f, j.At ≤ t) : val f t = oQ f := by
  induction f with
  | nil => rfl
  | cons j r ih => rw [kD, HP, if_pos (h j (List.mem_cons_self ..)), ih fun k hk => h k (List.mem_cons_of_mem _ hk)]

theorem LP (t : Int) : ∀ f : List aC, (jA t f).length ≤ f.length
  | [] => by simp [jA]
  | j :: r => by
    unfold jA
    split
    · simp
    · simpa using LP t r

theorem UM {l t p : Int} {f : List aC} (hf : nI l f) (hp : p < t) : val f p = val (jA t f) p := by
  conv => lhs; rw [← sY t f]
  rw [zL, vD (f := aft t f) (fun j hj => by have := ET hf j hj; omega)]
  omega

theorem XN {l t p : Int} {f : List aC} (hf : nI l f) (hp : t ≤ p) : val f p = oQ (jA t f) + val (aft t f) p := by
  conv => lhs; rw [← sY t f]
  rw [zL, NT (fun j hj => by have := GB j hj; omega)]

theorem RM {l t : Int} {f : List aC} (hf : nI l f) : oQ (jA t f) = val f (t - 1) := by
  rw [UM hf (p := t - 1) (t := t) (by omega), NT (fun j hj => by have := GB j hj; omega)]

theorem UW {f : List aC} (hl : f.length ≤ 1024) : gM f = some f := by
  unfold gM
  exact aM ⟨by omega, by omega⟩

end Go.Abs
namespace Go.Abs
open Go
theorem RI {t : Int} (f : List aC) : ∀ (l v : Int) (k : Nat), nI l f → v ≤ 1048576 * (2048 - f.length) → -(1048576 * (2048 - f.length)) ≤ v → f.length ≤ 1024 →
    nS (fun (s : Int × Nat) (j : aC) => some (if t ≤ j.At then .inr (s.1, ((s.2 : Nat) : Int)) else .inl (IntKind.i64.wrap (s.1 + j.Net), s.2 + 1))) (fun s => (s.1, ((s.2 : Nat) : Int))) (v, k) f = some (v + oQ (jA t f), ((k + (jA t f).length : Nat) : Int)) := by
  induction f with
  | nil => intro l v k _ _ _ _; simp [nS, jA, oQ]
  | cons j r ih =>
    intro l v k h h1 h2 hl
    simp only [List.length_cons] at h1 h2 hl
    have hj1 := h.1
    by_cases hj : t ≤ j.At
    · rw [FL (x := (v, ((k : Nat) : Int))) (by simp [hj])]
      simp [jA, hj, oQ]
    · have hw : IntKind.i64.wrap (v + j.Net) = v + j.Net := dS (by omega) (by omega)
      rw [FM (s' := (v + j.Net, k + 1)) (by simp [hj, hw])]
      rw [ih j.At (v + j.Net) (k + 1) h.2 (by omega) (by omega) (by omega)]
      have : jA t (j :: r) = j :: jA t r := by simp [jA, hj]
      rw [this, HP, List.length_cons]
      congr 2
      · omega
      · congr 1; omega

def tO (t : Int) (f : List aC) : List aC := (if oQ (jA t f) = 0 then [] else [⟨-1, oQ (jA t f)⟩]) ++ aft t f

def rest (f : List aC) (t : Int) : List aC × Int :=
  if jT f then (if 1125899906842624 ≤ t then ([], 0) else if t ≤ -1 then (f, 0) else told (tO t f)) else ([], 2)

theorem RO (t : Int) (f : List aC) : List.drop (jA t f).length f = aft t f := by
  rw [show List.drop (jA t f).length f = List.drop (jA t f).length (jA t f ++ aft t f) by rw [sY]]
  exact List.drop_left

theorem WZ (f : List aC) (t : Int) : sN f t = some (rest f t) := by
  unfold sN rest
  rw [BF]
  simp only [Option.bind_some]
  cases h : jT f
  · simp
  · obtain ⟨hl, hr⟩ := oP.1 h
    simp only [Bool.not_true, cond_false, if_true]
    by_cases ht : 1125899906842624 ≤ t
    · simp [ht]
    · rw [decide_eq_false ht, cond_false, if_neg ht]
      by_cases ht' : t ≤ -1
      · simp [ht', UW hl]
      · rw [decide_eq_false ht', cond_false, if_neg ht']
        unfold tY
        have key := SD (l := f) (body := fun s : Int × Int => kQ f t s.1 s.2) (fun (s : Int × Nat) i => (s.1, i)) _ _ (fun i s => s.2 = i)
          (fun i a s hi ha => by
            obtain ⟨d1, d2, d3, d4⟩ := idx ha (by omega)
            have hb : kQ f t s.1 i = some (if t ≤ a.At then .inr (s.1, ((s.2 : Nat) : Int)) else .inl (IntKind.i64.wrap (s.1 + a.Net), ((i + 1 : Nat) : Int))) := by
              simp only [kQ, d1, Bool.true_and, d3, d4]
              rw [aM (fun _ => d2), aM d2, hi]
              by_cases h : t ≤ a.At
              · have : decide (a.At < t) = false := by simp; omega
                simp [h, this]
              · have : decide (a.At < t) = true := by simp; omega
                simp [h, this]
            by_cases hh : t ≤ a.At
            · refine ⟨fun s' hs => by simp [hh] at hs, fun x hs => ?_⟩
              simp [hh] at hs; subst hs
              show kQ f t s.1 i = _
              rw [hb, if_pos hh]
            · refine ⟨fun s' hs => ?_, fun x hs => by simp [hh] at hs⟩
              simp [hh] at hs; subst hs
              refine ⟨by simp [hi], ?_⟩
              show kQ f t s.1 i = _
              rw [hb, if_neg hh])
          (fun s hi => by
            show kQ f t s.1 (f.length : Nat) = _
            simp only [kQ, mO, Bool.false_and, cond_false]
            rw [aM (fun h => by cases h), hi]) (s := (0, 0)) rfl (RI (t := t) f (-2) 0 0 hr (by omega) (by omega) hl)
        rw [key]
        have hlen := LP t f
        have hal : (aft t f).length ≤ f.length := by
          have := congrArg List.length (sY t f)
          simp only [List.length_append] at this
          omega
        have hto : ∀ n : Nat, Int.toNat (n : Int) = n := fun n => Int.toNat_natCast n
        simp only [Option.bind_some, Nat.zero_add, Int.zero_add, qU, rD, tO, hto, RO, UN]
        by_cases hv : oQ (jA t f) = 0
        · simp only [hv, decide_true, Bool.not_true, cond_false, if_true, List.nil_append]
          rw [aM ⟨by omega, by omega⟩, aM (by simp only [List.length_nil]; omega)]
        · simp only [hv, decide_false, Bool.not_false, cond_true, if_false]
          rw [aM (by simp), aM ⟨by omega, by omega⟩, aM (by simp only [List.length_cons, List.length_nil]; omega)]

end Go.Abs
namespace Go.Abs
open Go
def Up (last : Int) : List aC → Prop
  | [] => True
  | j :: r => (last < j.At ∧ j.At < 1125899906842624 ∧ j.Net ≠ 0) ∧ Up j.At r

theorem Up.above : ∀ {f : List aC} {last : Int}, Up last f → ∀ j ∈ f, last < j.At ∧ j.At < 1125899906842624 ∧ j.Net ≠ 0
  | [], _, _, j, hj => by simp at hj
  | a :: r, last, h, j, hj => by
    rcases List.mem_cons.1 hj with rfl | hj
    · exact h.1
    · have := h.2.above j hj
      have h1 := h.1.1
      exact ⟨by omega, this.2⟩

theorem Up.vU {l t : Int} {f : List aC} (h : Up l f) (ht : t ≤ l) : val f t = 0 := vD fun j hj => by have := (h.above j hj).1; omega

theorem Up.weaken {a b : Int} {f : List aC} (h : Up b f) (hab : a ≤ b) : Up a f := by
  cases f with
  | nil => trivial
  | cons j r => exact ⟨⟨by have := h.1.1; omega, h.1.2⟩, h.2⟩

theorem nI.up : ∀ {f : List aC} {last : Int}, nI last f → Up last f
  | [], _, _ => trivial
  | _ :: _, _, h => ⟨⟨h.1.1, h.1.2.1, h.1.2.2.1⟩, h.2.up⟩

theorem Up.ext : ∀ {f g : List aC} {last : Int}, Up last f → Up last g → (∀ t, last < t → t < 1125899906842624 → val f t = val g t) → f = g
  | [], [], _, _, _, _ => rfl
  | j :: r, [], last, hf, _, h => by
    have := h j.At hf.1.1 hf.1.2.1
    rw [kD, if_pos (Int.le_refl _), hf.2.vU (Int.le_refl _), HC] at this
    exact absurd (by omega) hf.1.2.2
  | [], k :: s, last, _, hg, h => by
    have := h k.At hg.1.1 hg.1.2.1
    rw [kD, if_pos (Int.le_refl _), hg.2.vU (Int.le_refl _), HC] at this
    exact absurd (by omega) hg.1.2.2
  | j :: r, k :: s, last, hf, hg, h => by
    have h1 := h j.At hf.1.1 hf.1.2.1
    have h2 := h k.At hg.1.1 hg.1.2.1
    rw [kD, if_pos (Int.le_refl _), hf.2.vU (Int.le_refl _), kD] at h1
    rw [kD, kD k, if_pos (Int.le_refl _), hg.2.vU (Int.le_refl _)] at h2
    have n1 := hf.1.2.2
    have n2 := hg.1.2.2
    have he : j.At = k.At := by
      rcases Int.lt_trichotomy j.At k.At with h3 | h3 | h3
      · rw [if_neg (by omega), hg.2.vU (by omega)] at h1; omega
      · exact h3
      · rw [if_neg (by omega), hf.2.vU (by omega)] at h2; omega
    rw [if_pos (by omega), hg.2.vU (by omega)] at h1
    have hj : j = k := by
      obtain ⟨a, b⟩ := j; obtain ⟨c, d⟩ := k
      simp only at he h1
      simp only [Int.add_zero] at h1
      rw [he, h1]
    subst hj
    rw [hf.2.ext hg.2 (fun t ht ht' => by
      have := h t (by have := hf.1.1; omega) ht'
      rw [kD, kD] at this; omega)]

def Inc (last : Int) : List Int → Prop
  | [] => True
  | p :: r => (last < p ∧ p < 1125899906842624) ∧ Inc p r

theorem Inc.above : ∀ {ps : List Int} {last : Int}, Inc last ps → ∀ p ∈ ps, last < p ∧ p < 1125899906842624
  | [], _, _, j, hj => by simp at hj
  | a :: r, last, h, j, hj => by
    rcases List.mem_cons.1 hj with rfl | hj
    · exact h.1
    · have := h.2.above j hj
      have h1 := h.1.1
      exact ⟨by omega, this.2⟩

theorem nI.restrict {l m : Int} {k : aC} {g : List aC} (h : nI l (k :: g)) (hm : m < k.At) : nI m (k :: g) := ⟨⟨hm, h.1.2⟩, h.2⟩

end Go.Abs
namespace Go.Abs
open Go
theorem UY {f : List aC} (h : jT f = true) : ∀ j ∈ f, j.Net ≤ 1048576 ∧ -1048576 ≤ j.Net := fun j hj => by have := (oP.1 h).2.above j hj; omega

def pL (t : Int) : List Int → List Int
  | [] => [t]
  | p :: r => if p = t then p :: r else if t < p then t :: p :: r else p :: pL t r

theorem HW {t x : Int} : ∀ {ps : List Int}, x ∈ pL t ps ↔ x = t ∨ x ∈ ps
  | [] => by simp [pL]
  | p :: r => by
    unfold pL
    split
    · rename_i h; subst h; simp
    · split
      · simp
      · simp only [List.mem_cons, HW (ps := r)]; constructor <;> (intro h; rcases h with h | h | h <;> simp [h])

theorem ID {t : Int} : ∀ {ps : List Int} {last : Int}, Inc last ps → last < t → t < 1125899906842624 → Inc last (pL t ps)
  | [], last, _, h1, h2 => ⟨⟨h1, h2⟩, trivial⟩
  | p :: r, last, h, h1, h2 => by
    unfold pL
    split
    · exact h
    · split
      · rename_i h3 h4
        exact ⟨⟨h1, h2⟩, ⟨h4, h.1.2⟩, h.2⟩
      · exact ⟨h.1, ID h.2 (by omega) h2⟩

theorem HG {t : Int} : ∀ {ps : List Int}, (pL t ps).length ≤ ps.length + 1
  | [] => by simp [pL]
  | p :: r => by
    unfold pL
    split
    · simp
    · split
      · simp
      · simp only [List.length_cons]; have := HG (t := t) (ps := r); omega

end Go.Abs
namespace Go.Abs
open Go
def mn (a b : Int) : Int := if b < a then b else a

def parts (v : Int) : List aC → List Int
  | [] => []
  | j :: r => (v + j.Net) :: parts (v + j.Net) r

def yM (f : List aC) : Int := (f.map fun j => val f j.At).foldl mn (val f (-1))

theorem parts_eq : ∀ {f : List aC} {l v : Int}, nI l f → parts v f = f.map fun j => v + val f j.At
  | [], _, _, _ => rfl
  | j :: r, l, v, h => by
    simp only [parts, List.map_cons]
    rw [parts_eq h.2, kD, if_pos (Int.le_refl _), h.2.vU (Int.le_refl _), Int.add_zero]
    congr 1
    apply List.map_congr_left
    intro k hk
    have := (h.2.above k hk).1
    rw [kD, if_pos (by omega)]; omega

theorem SV {j : aC} {r : List aC} (h : nI (-2) (j :: r)) : val (j :: r) (-1) = if j.At = -1 then j.Net else 0 := by
  have := h.1.1
  by_cases e : j.At = -1
  · rw [if_pos e, kD, if_pos (by omega), h.2.vU (by omega)]; omega
  · rw [if_neg e, vD]
    intro k hk
    rcases List.mem_cons.1 hk with rfl | hk
    · omega
    · have := (h.2.above k hk).1; omega

theorem FV {f : List aC} (hf : jT f = true) (m : Int) (hm : -1125899906842624 ≤ m ∧ m ≤ 1125899906842624) : pZ 0 m f (f.length : Nat) 0 = some ((f.map fun j => val f j.At).foldl mn m) := by
  obtain ⟨hl, hr⟩ := oP.1 hf
  unfold pZ
  rw [CA (l := f) (body := fun s : Int × Int × Int => lS f (f.length : Nat) s.1 s.2.1 s.2.2) (fun (s : Int × Int) i => (s.1, s.2, i)) (fun s r => (parts s.1 r).foldl mn s.2)
    (fun s r => (∀ j ∈ r, j.Net ≤ 1048576 ∧ -1048576 ≤ j.Net) ∧ r.length ≤ 1024 ∧ s.1 ≤ 1048576 * (1024 - r.length) ∧ -(1048576 * (1024 - r.length)) ≤ s.1) (0, m) ?_ ?_ ?_]
  · simp only [Option.bind_some, pS, parts_eq hr, Int.zero_add]
  · rintro i a r ⟨v, m⟩ ha ⟨h1, h2, h3, h4⟩
    obtain ⟨d1, d2, d3, d4⟩ := idx ha (by omega)
    have hj := h1 a (List.mem_cons_self ..)
    simp only [List.length_cons] at h2 h3 h4
    have hw : IntKind.i64.wrap (v + a.Net) = v + a.Net := dS (by omega) (by omega)
    left
    refine ⟨(v + a.Net, mn m (v + a.Net)), ?_, ⟨fun j hj => h1 j (List.mem_cons_of_mem _ hj), by omega, by simp only; omega, by simp only; omega⟩, rfl⟩
    show lS f (f.length : Nat) v m i = _
    simp only [lS, d1, cond_true, aM d2, d3, d4, hw, mn]
  · rintro ⟨v, m⟩ _
    show lS f (f.length : Nat) v m (f.length : Nat) = _
    simp only [lS, mO, cond_false, parts, List.foldl_nil]
  · exact ⟨UY hf, hl, by simp only; omega, by simp only; omega⟩

theorem VP (f : List aC) : qW f = some (if jT f then yM f else 0) := by
  unfold qW
  rw [BF]
  cases h : jT f
  · simp
  · cases f with
    | nil => simp [yM, val]
    | cons j r =>
      obtain ⟨hl, hr⟩ := oP.1 h
      have hne : decide (((List.length (j :: r) : Nat) : Int) = 0) = false := by simp; omega
      simp only [Option.bind_some, Bool.not_true, Bool.false_or, hne, cond_false, aM aAj, ZN, if_true]
      have hj := hr.1
      unfold yM
      rw [SV hr]
      by_cases e : j.At = -1
      · simp only [e, decide_true, cond_true, if_true, nV]
        exact FV h j.Net (by omega)
      · simp only [e, decide_false, cond_false, if_false, nV]
        exact FV h 0 (by omega)

theorem IE {s t : Int} (hst : s ≤ t) : ∀ {f : List aC}, (∀ j ∈ f, ¬ (s < j.At ∧ j.At ≤ t)) → val f s = val f t
  | [], _ => rfl
  | j :: r, h => by
    have hj := h j (List.mem_cons_self ..)
    rw [kD, kD, IE hst (fun k hk => h k (List.mem_cons_of_mem _ hk))]
    by_cases e : j.At ≤ s
    · rw [if_pos e, if_pos (by omega)]
    · rw [if_neg e, if_neg (by omega)]

theorem GD : jT [] = true := by decide

theorem LH {t l' : Int} (hl : l' < t) : ∀ {f : List aC} {l : Int}, nI l f → Up l' (aft t f)
  | [], _, _ => trivial
  | j :: r, l, h => by
    unfold aft
    split
    · exact (h.restrict (m := l') (by omega)).up
    · exact LH hl h.2

theorem TY {f : List aC} {t : Int} (hf : jT f = true) (ht : -1 < t) : Up (-2) (tO t f) := by
  have hr := (oP.1 hf).2
  unfold tO
  split
  · simpa using LH (l' := -2) (by omega) hr
  · rename_i hn
    exact ⟨⟨by show (-2 : Int) < -1; omega, by show (-1 : Int) < _; omega, hn⟩, LH (l' := -1) ht hr⟩

theorem SO {f : List aC} {t : Int} (hf : jT f = true) (p : Int) (hp : -1 ≤ p) : val (tO t f) p = val f (if p < t then t - 1 else p) := by
  have hr := (oP.1 hf).2
  unfold tO
  rw [zL]
  have e1 : val (if oQ (jA t f) = 0 then [] else [⟨-1, oQ (jA t f)⟩]) p = oQ (jA t f) := by
    split
    · rename_i h0; rw [h0]; rfl
    · rw [kD, HC, if_pos (show (⟨-1, oQ (jA t f)⟩ : aC).At ≤ p from hp)]; simp
  rw [e1]
  by_cases h : p < t
  · rw [if_pos h, vD (f := aft t f) (fun j hj => by have := ET hr j hj; omega), ← RM hr]; omega
  · rw [if_neg h, XN hr (t := t) (by omega)]

end Go.Abs
namespace Go.Abs
open Go
theorem w1 : IntKind.i64.wrap (0 + 1) = 1 := by rw [dS] <;> omega

theorem w2 : IntKind.i64.wrap (1 + 1) = 2 := by rw [dS] <;> omega

theorem w3 : IntKind.i64.wrap (1 - 1) = 0 := by rw [dS] <;> omega

theorem v0 : IntKind.i64.wrap 0 = 0 := by rw [dS] <;> omega

theorem v1 : IntKind.i64.wrap 1 = 1 := by rw [dS] <;> omega

theorem v2 : IntKind.i64.wrap 2 = 2 := by rw [dS] <;> omega

theorem v3 : IntKind.i64.wrap (-1) = -1 := by rw [dS] <;> omega

end Go.Abs
namespace Go.Abs
open Go
theorem VU (f : List aC) : (told f).1.length ≤ 1024 := by
  unfold told
  cases h : jT f
  · simp
  · simpa using (oP.1 h).1

theorem UB (f : List aC) (t : Int) : (rest f t).1.length ≤ 1024 := by
  unfold rest
  split
  · split
    · simp
    · split
      · exact (oP.1 (by assumption)).1
      · exact VU _
  · simp

end Go.Abs
namespace Go.Abs
open Go
variable {α : Type} [Inhabited α]
noncomputable def nB (f1 : α → Option Bool) (s0 : (List α)) (t7 : Int) (t8 : Int) : Option ((Int) ⊕ (Unit ⊕ Int)) :=
  cond (decide (t8 < t7))
  (aZ (0 ≤ t8 ∧ t8 < ((List.length s0 : Nat) : Int)) <|
  (f1 (List.getD s0 (Int.toNat t8) default)).bind fun x2 =>
  cond x2
  (some (.inr (.inr t8)))
  (some (.inl (IntKind.i64.wrap (t8 + (1 : Int))))))
  (some (.inr (.inl ())))

theorem KJ {l : List α} {f : α → Option Bool} {g : α → Bool} (hl : l.length ≤ 1099511627776) (hf : ∀ x ∈ l, f x = some (g x)) : ∀ (r : List α) (k : Nat), l.drop k = r → k ≤ l.length →
    ∃ x, lp (fun s => nB f l (l.length : Nat) s) (k : Int) = some x ∧ ((x = .inl () ∧ r.any g = false) ∨ (∃ i : Nat, x = .inr (i : Int) ∧ k ≤ i ∧ i < l.length ∧ r.any g = true ∧ g (l.getD i default) = true ∧ ∀ j, k ≤ j → j < i → g (l.getD j default) = false))
  | [], k, hd, hk => by
    have : k = l.length := by
      have := congrArg List.length hd
      simp only [List.length_drop, List.length_nil] at this; omega
    subst this
    refine ⟨.inl (), cV ?_, Or.inl ⟨rfl, rfl⟩⟩
    show nB f l _ _ = _
    simp only [nB, mO, cond_false]
  | a :: r, k, hd, hk => by
    obtain ⟨h1, h2⟩ := drop_cons hd
    have hlt : k < l.length := (List.getElem?_eq_some_iff.1 h1).1
    obtain ⟨d1, d2, d3, d4⟩ := idx h1 (by omega)
    have hga : l.getD k default = a := by rw [Int.toNat_natCast] at d3; exact d3
    have hb : (fun s => nB f l (l.length : Nat) s) (k : Int) = some (if g a then .inr (.inr (k : Int)) else .inl ((k + 1 : Nat) : Int)) := by
      show nB f l _ _ = _
      simp only [nB, d1, cond_true, aM d2, d3, d4, hf a (List.mem_of_getElem? h1), Option.bind_some]
      cases g a <;> simp
    cases hg : g a
    · rw [hg] at hb
      obtain ⟨x, e, hx⟩ := KJ hl hf r (k + 1) h2 (by omega)
      refine ⟨x, by rw [gF hb]; exact e, ?_⟩
      rcases hx with ⟨rfl, h⟩ | ⟨i, rfl, h3, h4, h5, h6, h7⟩
      · exact Or.inl ⟨rfl, by simp [hg, h]⟩
      · refine Or.inr ⟨i, rfl, by omega, h4, by simp [h5], h6, fun j hj hj' => ?_⟩
        by_cases e : j = k
        · subst e; rw [hga, hg]
        · exact h7 j (by omega) hj'
    · rw [hg] at hb
      exact ⟨.inr (k : Int), cV hb, Or.inr ⟨k, rfl, Nat.le_refl _, hlt, by simp [hg], by rw [hga, hg], fun j h h' => by omega⟩⟩

end Go.Abs
namespace Go.Abs
open Go
theorem II (x y : ByteArray) : mV x y = decide (x = y) := by
  unfold mV
  rw [ByteArray.toList_eq, ByteArray.toList_eq]
  by_cases h : x = y
  · simp [h]
  · have : x.data.toList ≠ y.data.toList := by
      intro he
      apply h
      cases x; cases y
      congr 1
      exact Array.toList_inj.1 he
    have h2 : (x.data.toList == y.data.toList) = false := by simpa using this
    rw [h2]; simp [h]

theorem veq (a b : aB) : ((decide (a.Kind = b.Kind)) && ((decide (a.Num = b.Num)) && ((mV a.Text b.Text) && true))) = decide (a = b) := by
  rw [II]
  obtain ⟨a1, a2, a3⟩ := a
  obtain ⟨b1, b2, b3⟩ := b
  by_cases h1 : a1 = b1 <;> by_cases h2 : a2 = b2 <;> by_cases h3 : a3 = b3 <;> simp [h1, h2, h3]

def AB (v : aB) : Bool := decide (v.Kind = 1) && mV v.Text (⟨#[]⟩ : ByteArray)

def yZ (v : aB) : Bool := ((decide (v.Kind = 2)) && (decide (v.Num = 0))) && (decide (((ByteArray.size v.Text : Nat) : Int) ≤ 64))

def zH (v : aB) : Bool := AB v || yZ v

def qK (r : List aB) : Bool := decide (r.length ≤ 8) && r.all zH

theorem of_eq (v : aB) : kV v = some (if AB v then (.k_number v.Num, true) else if yZ v then (.k_words v.Text, true) else (.none_, false)) := by
  unfold kV AB yZ
  cases (decide (v.Kind = 1) && mV v.Text (⟨#[]⟩ : ByteArray)) <;> cases (((decide (v.Kind = 2)) && (decide (v.Num = 0))) && (decide (((ByteArray.size v.Text : Nat) : Int) ≤ 64))) <;> rfl

theorem XY (v : aB) : sK v = some (zH v) := by
  unfold sK zH
  rw [of_eq]
  cases AB v <;> cases yZ v <;> rfl

theorem KV {l : List aB} {f : aB → Option Bool} {g : aB → Bool} (hl : l.length ≤ 1099511627776) (hf : ∀ x ∈ l, f x = some (g x)) : eM l f = some (l.any g) := by
  unfold eM gZ gV
  obtain ⟨x, e, hx⟩ := KJ hl hf l 0 rfl (Nat.zero_le _)
  have e' : lp (fun s => gU f l (l.length : Nat) s) 0 = some x := e
  rw [e']
  rcases hx with ⟨rfl, h⟩ | ⟨i, rfl, _, _, h, _⟩
  · simp [eZ, h]
  · simp [h]

theorem GJ (r : List aB) : rE r = some (qK r) := by
  unfold rE qK
  by_cases h : r.length ≤ 8
  · have h1 : decide ((8 : Int) < ((r.length : Nat) : Int)) = false := by simp; omega
    rw [h1, cond_false, KV (g := fun v => !zH v) (by omega) (fun x _ => by simp [sJ, XY])]
    simp only [Option.bind_some, h, decide_true, Bool.true_and]
    congr 1
    rw [List.all_eq_not_any_not]
  · have h1 : decide ((8 : Int) < ((r.length : Nat) : Int)) = true := by simp; omega
    rw [h1, cond_true]
    simp [h]

theorem QB {α : Type} [DecidableEq α] {f g : List α} {body : Int → Option (Int ⊕ (Unit ⊕ Bool))} (he : f.length = g.length)
    (hb : ∀ (i : Nat) a b, f[i]? = some a → g[i]? = some b → body i = some (if a = b then .inl ((i + 1 : Nat) : Int) else .inr (.inr false)))
    (hend : body (f.length : Nat) = some (.inr (.inl ()))) : ∀ (m k : Nat), f.length - k = m → k ≤ f.length → lp body (k : Int) = some (if f.drop k = g.drop k then .inl () else .inr false)
  | 0, k, hm, hk => by
    have : k = f.length := by omega
    subst this
    rw [List.drop_length, he, List.drop_length, if_pos rfl]
    rw [← he]
    exact cV hend
  | m + 1, k, hm, hk => by
    have h1 : k < f.length := by omega
    have h2 : k < g.length := by omega
    have hbk := hb k _ _ (List.getElem?_eq_getElem h1) (List.getElem?_eq_getElem h2)
    have e1 : f.drop k = f[k] :: f.drop (k + 1) := List.drop_eq_getElem_cons h1
    have e2 : g.drop k = g[k] :: g.drop (k + 1) := List.drop_eq_getElem_cons h2
    have hiff : (f.drop k = g.drop k) ↔ (f[k] = g[k] ∧ f.drop (k + 1) = g.drop (k + 1)) := by rw [e1, e2, List.cons.injEq]
    by_cases h : f[k] = g[k]
    · rw [if_pos h] at hbk
      rw [gF hbk, QB he hb hend m (k + 1) (by omega) (by omega)]
      simp only [hiff, h, true_and]
    · rw [if_neg h] at hbk
      rw [cV hbk]
      simp only [hiff, h, false_and, if_false]

theorem RA {α : Type} {f g : List α} (h : f.length ≠ g.length) : (!decide (((f.length : Nat) : Int) = ((g.length : Nat) : Int))) = true := by simp; omega

theorem EU {α : Type} {f g : List α} (h : f.length = g.length) : (!decide (((f.length : Nat) : Int) = ((g.length : Nat) : Int))) = false := by simp [h]

theorem FN (a b : List aB) (hl : a.length ≤ 17592186044416) : rT a b = some (decide (a = b)) := by
  unfold rT eT
  by_cases he : a.length = b.length
  · rw [EU he, cond_false]
    unfold iT
    have := QB (f := a) (g := b) (body := fun s => eP a b (a.length : Nat) s) he ?_ ?_ a.length 0 rfl (Nat.zero_le _)
    · simp only [Int.natCast_zero, List.drop_zero] at this
      rw [this]
      by_cases h : a = b <;> simp [h, fV]
    · intro i x y hx hy
      obtain ⟨d1, d2, d3, d4⟩ := idx hx (by omega)
      obtain ⟨_, e2, e3, _⟩ := idx hy (by omega)
      simp only [eP, d1, cond_true, aM d2, aM e2, d3, e3, d4, veq]
      by_cases h : x = y <;> simp [h]
    · simp only [eP, mO, cond_false]
  · rw [RA he, cond_true]
    have : a ≠ b := fun h => he (by rw [h])
    simp [this]

theorem IP (a b : List aB) (hl : a.length ≤ 17592186044416) : rA a b = some (decide (a = b)) := by
  unfold rA
  by_cases he : a.length = b.length
  · rw [EU he, cond_false]
    unfold sR
    have := QB (f := a) (g := b) (body := fun s => nX a b s) he ?_ ?_ a.length 0 rfl (Nat.zero_le _)
    · simp only [Int.natCast_zero, List.drop_zero] at this
      rw [this]
      by_cases h : a = b <;> simp [h, pY]
    · intro i x y hx hy
      obtain ⟨d1, d2, d3, d4⟩ := idx hx (by omega)
      obtain ⟨_, e2, e3, _⟩ := idx hy (by omega)
      simp only [nX, d1, cond_true, aM d2, aM e2, d3, e3, d4, veq]
      by_cases h : x = y <;> simp [h]
    · simp only [nX, mO, cond_false]
  · rw [RA he, cond_true]
    have : a ≠ b := fun h => he (by rw [h])
    simp [this]

structure AU {α : Type} (c : α → α → Int) : Prop where
  eq : ∀ a b, c a b = 0 ↔ a = b
  anti : ∀ a b, c a b < 0 ↔ 0 < c b a
  trans : ∀ a b d, c a b < 0 → c b d < 0 → c a d < 0

def pM (x y : Int) : Int := if x < y then -1 else if y < x then 1 else 0

theorem xJ : AU pM where
  eq a b := by unfold pM; (repeat' split) <;> omega
  anti a b := by unfold pM; (repeat' split) <;> omega
  trans a b d := by unfold pM; (repeat' split) <;> omega

def kN {α : Type} [DecidableEq α] (c : α → α → Int) : List α → List α → Int
  | [], [] => 0
  | [], _ :: _ => -1
  | _ :: _, [] => 1
  | a :: r, b :: s => if a = b then kN c r s else c a b

theorem AU.list {α : Type} [DecidableEq α] {c : α → α → Int} (h : AU c) : AU (kN c) where
  eq := by
    intro a
    induction a with
    | nil => intro b; cases b <;> simp [kN]
    | cons x r ih =>
      intro b
      cases b with
      | nil => simp [kN]
      | cons y s =>
        unfold kN
        split
        · rename_i e; subst e; rw [ih]; simp
        · rename_i e
          have := h.eq x y
          constructor
          · intro h0; exact absurd (this.1 h0) e
          · intro h0; cases h0; exact absurd rfl e
  anti := by
    intro a
    induction a with
    | nil => intro b; cases b <;> simp [kN]
    | cons x r ih =>
      intro b
      cases b with
      | nil => simp [kN]
      | cons y s =>
        unfold kN
        by_cases e : x = y
        · subst e; simp only [if_true]; exact ih s
        · rw [if_neg e, if_neg (fun e' => e e'.symm)]; exact h.anti x y
  trans := by
    intro a
    induction a with
    | nil =>
      intro b d
      cases b <;> cases d <;> simp [kN]
    | cons x r ih =>
      intro b d
      cases b with
      | nil => simp [kN]
      | cons y s =>
        cases d with
        | nil => simp [kN]
        | cons z t =>
          unfold kN
          by_cases e1 : x = y
          · subst e1
            rw [if_pos rfl]
            by_cases e2 : x = z
            · subst e2; rw [if_pos rfl, if_pos rfl]; exact ih s t
            · rw [if_neg e2, if_neg e2]; exact fun _ h => h
          · rw [if_neg e1]
            by_cases e2 : y = z
            · have hz : ¬ x = z := fun e => e1 (e.trans e2.symm)
              intro h _
              rw [if_neg hz, ← e2]; exact h
            · rw [if_neg e2]
              intro h1 h2
              by_cases e3 : x = z
              · subst e3
                have h3 := (h.anti x y).1 h1
                omega
              · rw [if_neg e3]; exact h.trans x y z h1 h2

def DQ (a b : UInt8) : Int := if a < b then -1 else if b < a then 1 else 0

theorem DF : AU DQ where
  eq a b := by
    unfold DQ
    constructor
    · intro h
      split at h
      · cases h
      · split at h
        · cases h
        · rename_i h1 h2
          rw [UInt8.lt_iff_toNat_lt] at h1 h2
          exact UInt8.toNat_inj.1 (by omega)
    · rintro rfl
      have : ¬ a < a := by rw [UInt8.lt_iff_toNat_lt]; omega
      simp [this]
  anti a b := by
    unfold DQ
    simp only [UInt8.lt_iff_toNat_lt]
    (repeat' split) <;> omega
  trans a b d := by
    unfold DQ
    simp only [UInt8.lt_iff_toNat_lt]
    (repeat' split) <;> omega

theorem xM : ∀ (a b : List UInt8), Go.Lib.compareBytes a b = kN DQ a b
  | [], [] => rfl
  | [], _ :: _ => rfl
  | _ :: _, [] => rfl
  | a :: r, b :: s => by
    unfold Go.Lib.compareBytes kN
    rw [xM r s]
    by_cases e : a = b
    · subst e
      have : ¬ a < a := by rw [UInt8.lt_iff_toNat_lt]; omega
      simp [this]
    · rw [if_neg e]
      unfold DQ
      have : ¬ (¬ a < b ∧ ¬ b < a) := by
        rintro ⟨h1, h2⟩
        rw [UInt8.lt_iff_toNat_lt] at h1 h2
        exact e (UInt8.toNat_inj.1 (by omega))
      by_cases h1 : a < b
      · simp [h1]
      · have h2 : b < a := Classical.byContradiction fun h2 => this ⟨h1, h2⟩
        simp [h1, h2]

def KQ (a b : ByteArray) : Int := kN DQ a.data.toList b.data.toList

theorem XD (a b : ByteArray) : GR a b = KQ a b := xM _ _

theorem data_inj {x y : ByteArray} (h : x.data.toList = y.data.toList) : x = y := by
  cases x; cases y
  congr 1
  exact Array.toList_inj.1 h

theorem zO : AU KQ where
  eq a b := by unfold KQ; rw [(DF.list).eq]; exact ⟨data_inj, fun h => by rw [h]⟩
  anti a b := (DF.list).anti _ _
  trans a b d := (DF.list).trans _ _ _

def xB (a b : aB) : Int := if a.Kind = b.Kind then (if a.Num = b.Num then KQ a.Text b.Text else pM a.Num b.Num) else pM a.Kind b.Kind

theorem UJ : AU xB where
  eq a b := by
    obtain ⟨a1, a2, a3⟩ := a
    obtain ⟨b1, b2, b3⟩ := b
    unfold xB
    simp only [aB.mk.injEq]
    by_cases h1 : a1 = b1
    · by_cases h2 : a2 = b2
      · simp [h1, h2, zO.eq]
      · simp [h1, h2, xJ.eq]
    · simp [h1, xJ.eq]
  anti a b := by
    unfold xB
    by_cases h1 : a.Kind = b.Kind
    · rw [if_pos h1, if_pos h1.symm]
      by_cases h2 : a.Num = b.Num
      · rw [if_pos h2, if_pos h2.symm]; exact zO.anti _ _
      · rw [if_neg h2, if_neg (fun h => h2 h.symm)]; exact xJ.anti _ _
    · rw [if_neg h1, if_neg (fun h => h1 h.symm)]; exact xJ.anti _ _
  trans a b d := by
    unfold xB
    intro h1 h2
    have lt : ∀ {x y : Int}, pM x y < 0 → x < y := fun {x y} h => by unfold pM at h; split at h <;> (try split at h) <;> omega
    have mk : ∀ {x y : Int}, x < y → pM x y < 0 := fun {x y} h => by unfold pM; rw [if_pos h]; omega
    by_cases e1 : a.Kind = b.Kind
    · rw [if_pos e1] at h1
      by_cases e2 : b.Kind = d.Kind
      · rw [if_pos e2] at h2
        rw [if_pos (e1.trans e2)]
        by_cases f1 : a.Num = b.Num
        · rw [if_pos f1] at h1
          by_cases f2 : b.Num = d.Num
          · rw [if_pos f2] at h2
            rw [if_pos (f1.trans f2)]
            exact zO.trans _ _ _ h1 h2
          · rw [if_neg f2] at h2
            rw [f1, if_neg f2]; exact h2
        · rw [if_neg f1] at h1
          have g1 := lt h1
          by_cases f2 : b.Num = d.Num
          · rw [← f2, if_neg f1]; exact h1
          · rw [if_neg f2] at h2
            have g2 := lt h2
            rw [if_neg (by omega)]
            exact mk (by omega)
      · rw [if_neg e2] at h2
        rw [e1, if_neg e2]; exact h2
    · rw [if_neg e1] at h1
      have g1 := lt h1
      by_cases e2 : b.Kind = d.Kind
      · rw [← e2, if_neg e1]; exact h1
      · rw [if_neg e2] at h2
        have g2 := lt h2
        rw [if_neg (by omega)]
        exact mk (by omega)

def oU (a b : List aB) : Int := kN xB a b

theorem uG : AU oU := UJ.list

end Go.Abs
namespace Go.Abs
open Go
theorem TI (x y : Int) : mU x y = some (pM x y) := by
  unfold mU jO pM
  by_cases h1 : x < y
  · simp [h1]
  · by_cases h2 : y < x <;> simp [h1, h2]

theorem SS (x y : Int) : fL x y = some (pM x y) := by
  unfold fL kE pM
  by_cases h1 : x < y
  · simp [h1]
  · by_cases h2 : y < x <;> simp [h1, h2]

theorem CE {v : aB} (h : AB v = true) : v.Kind = 1 ∧ v.Text = (⟨#[]⟩ : ByteArray) := by
  simp only [AB, II, Bool.and_eq_true, decide_eq_true_eq] at h; exact h

theorem AA {v : aB} (h : yZ v = true) : v.Kind = 2 ∧ v.Num = 0 ∧ v.Text.size ≤ 64 := by
  simp only [yZ, Bool.and_eq_true, decide_eq_true_eq] at h; exact ⟨h.1.1, h.1.2, by omega⟩

theorem OD {v : aB} (h : zH v = true) : AB v = true ∨ (AB v = false ∧ yZ v = true) := by
  unfold zH at h
  cases hn : AB v
  · rw [hn] at h; exact .inr ⟨rfl, by simpa using h⟩
  · exact .inl rfl

theorem TO (a : ByteArray) : KQ a a = 0 := (zO.eq a a).2 rfl

theorem AZ (a : Int) : pM a a = 0 := (xJ.eq a a).2 rfl

theorem QM {a b : aB} (ha : zH a = true) (hb : zH b = true) : oA a b = some (xB a b) := by
  unfold oA
  simp only [of_eq, Option.bind_some]
  rcases OD ha with h1 | ⟨h1, h1'⟩ <;> rcases OD hb with h2 | ⟨h2, h2'⟩
  · obtain ⟨k1, t1⟩ := CE h1
    obtain ⟨k2, t2⟩ := CE h2
    simp only [h1, h2, if_true, Bool.not_true, Bool.or_self, cond_false, SS, Option.bind_some]
    unfold xB
    rw [k1, k2, t1, t2, if_pos rfl, TO]
    by_cases hn : a.Num = b.Num
    · rw [if_pos hn, hn, AZ]
    · rw [if_neg hn]
  · obtain ⟨k1, t1⟩ := CE h1
    obtain ⟨k2, n2, _⟩ := AA h2'
    simp only [h1, h2, h2', if_true, Bool.false_eq_true, if_false, Bool.not_true, Bool.or_self, cond_false]
    unfold xB
    rw [k1, k2]; rfl
  · obtain ⟨k1, n1, _⟩ := AA h1'
    obtain ⟨k2, t2⟩ := CE h2
    simp only [h1, h1', h2, if_true, Bool.false_eq_true, if_false, Bool.not_true, Bool.or_self, cond_false]
    unfold xB
    rw [k1, k2]; rfl
  · obtain ⟨k1, n1, _⟩ := AA h1'
    obtain ⟨k2, n2, _⟩ := AA h2'
    simp only [h1, h1', h2, h2', if_true, Bool.false_eq_true, if_false, Bool.not_true, Bool.or_self, cond_false]
    unfold xB lO iY
    rw [k1, k2, n1, n2, if_pos rfl, if_pos rfl]
    simp [XD]

theorem NJ {r : List aB} (h : qK r = true) : r.length ≤ 8 ∧ ∀ v ∈ r, zH v = true := by
  simp only [qK, Bool.and_eq_true, decide_eq_true_eq, List.all_eq_true] at h; exact h

theorem VX {a b : List aB} {k : Nat} (hk : k = a.length ∨ k = b.length) (h1 : k ≤ a.length) (h2 : k ≤ b.length) : oU (a.drop k) (b.drop k) = pM a.length b.length := by
  rcases hk with rfl | rfl
  · rw [List.drop_length]
    by_cases h : a.length = b.length
    · rw [h, List.drop_length, AZ]; rfl
    · rw [List.drop_eq_getElem_cons (by omega)]
      show (-1 : Int) = _
      unfold pM; rw [if_pos (by omega)]
  · rw [List.drop_length]
    by_cases h : a.length = b.length
    · rw [← h, List.drop_length, AZ]; rfl
    · rw [List.drop_eq_getElem_cons (by omega)]
      show (1 : Int) = _
      unfold pM; rw [if_neg (by omega), if_pos (by omega)]

theorem OC {a b : List aB} (hl : a.length ≤ 8) (hlb : b.length ≤ 8) (n : Nat) (hn : n = min a.length b.length) : ∀ (m k : Nat), n - k = m → k ≤ n →
    ∃ x, lp (fun s : Int × Int => cA (fun st y0 => (jF y0 st b).bind fun o => some (o.2, o.1)) (a.take n) (n : Nat) s.1 s.2) ((k : Int) - 1, (k : Int)) = some x ∧
      ((∃ sg, x = .inl sg ∧ oU (a.drop k) (b.drop k) = pM a.length b.length) ∨
        (∃ i : Nat, x = .inr ((i : Int), (i : Int)) ∧ i < a.length ∧ i < b.length ∧ oU (a.drop k) (b.drop k) = xB (a.getD i default) (b.getD i default)))
  | 0, k, hm, hk => by
    have : k = n := by omega
    subst this
    refine ⟨.inl ((k : Int) - 1), cV ?_, .inl ⟨_, rfl, VX (by omega) (by omega) (by omega)⟩⟩
    show cA _ _ _ _ _ = _
    simp only [cA, mO, cond_false]
  | m + 1, k, hm, hk => by
    have h1 : k < a.length := by omega
    have h2 : k < b.length := by omega
    have ht : (a.take n)[k]? = some a[k] := by
      rw [List.getElem?_take_of_lt (by omega)]; exact List.getElem?_eq_getElem h1
    obtain ⟨d1, d2, d3, d4⟩ := idx ht (by simp; omega)
    have hlt : (a.take n).length = n := by simp; omega
    rw [hlt] at d1 d2
    obtain ⟨_, e2, e3, _⟩ := idx (List.getElem?_eq_getElem h2) (by omega)
    have hw : IntKind.i64.wrap ((k : Int) - 1 + 1) = (k : Int) := by rw [dS (by omega) (by omega)]; omega
    have hb : (fun s : Int × Int => cA (fun st y0 => (jF y0 st b).bind fun o => some (o.2, o.1)) (a.take n) (n : Nat) s.1 s.2) ((k : Int) - 1, (k : Int)) =
        some (if a[k] = b[k] then .inl ((k : Int), ((k + 1 : Nat) : Int)) else .inr (.inr ((k : Int), (k : Int)))) := by
      show cA _ _ _ _ _ = _
      simp only [cA, d1, cond_true, hlt, aM d2, d3, d4, jF, hw, aM e2, e3, veq, Option.bind_some]
      by_cases h : a[k] = b[k] <;> simp [h]
    have ea : a.drop k = a[k] :: a.drop (k + 1) := List.drop_eq_getElem_cons h1
    have eb : b.drop k = b[k] :: b.drop (k + 1) := List.drop_eq_getElem_cons h2
    by_cases h : a[k] = b[k]
    · rw [if_pos h] at hb
      obtain ⟨x, e, hx⟩ := OC hl hlb n hn m (k + 1) (by omega) (by omega)
      have hc : oU (a.drop k) (b.drop k) = oU (a.drop (k + 1)) (b.drop (k + 1)) := by
        rw [ea, eb]; unfold oU; rw [kN, if_pos h]
      refine ⟨x, ?_, by rw [hc]; exact hx⟩
      rw [gF hb]
      rw [show ((k + 1 : Nat) : Int) - 1 = (k : Int) by omega] at e
      exact e
    · rw [if_neg h] at hb
      refine ⟨_, cV hb, .inr ⟨k, rfl, h1, h2, ?_⟩⟩
      rw [ea, eb]; unfold oU; rw [kN, if_neg h]
      simp [List.getD_eq_getElem?_getD, h1, h2]

theorem SE (a b : List aB) : pV a b = some (if qK a && qK b then oU a b else 0) := by
  unfold pV
  rw [GJ]
  simp only [Option.bind_some]
  cases ha : qK a
  · simp [dJ]
  · simp only [Bool.not_true, Bool.not_false, dJ, cond_true, GJ, Option.bind_some, Bool.false_or]
    cases hb : qK b
    · simp
    · obtain ⟨la, ma⟩ := NJ ha
      obtain ⟨lb, mb⟩ := NJ hb
      have hif : (if ((List.length b : Nat) : Int) < ((List.length a : Nat) : Int) then ((List.length b : Nat) : Int) else ((List.length a : Nat) : Int)) = ((min a.length b.length : Nat) : Int) := by split <;> omega
      have hlt : (a.take (min a.length b.length)).length = min a.length b.length := by rw [List.length_take]; omega
      simp only [Bool.not_true, cond_false, hif, Int.toNat_natCast, qO, Option.bind_some, gP, gI, hlt, Bool.and_self, if_true]
      rw [aM ⟨by omega, by omega⟩]
      obtain ⟨x, e, hx⟩ := OC (a := a) (b := b) la lb _ rfl _ 0 rfl (Nat.zero_le _)
      have e' : lp (fun s : Int × Int => cA (fun st y0 => (jF y0 st b).bind fun o => some (o.2, o.1)) (a.take (min a.length b.length)) (min a.length b.length : Nat) s.1 s.2) ((-1 : Int), (0 : Int)) = some x := e
      rw [e']
      simp only [List.drop_zero] at hx
      rcases hx with ⟨sg, rfl, h⟩ | ⟨i, rfl, h1, h2, h⟩
      · simp [eN, TI, h]
      · have hi : decide ((i : Int) < 0) = false := by simp
        simp only [Option.bind_some, Sum.elim_inr, hi, cond_false, Int.toNat_natCast]
        rw [aM ⟨by omega, by omega⟩, aM ⟨by omega, by omega⟩]
        have g1 : a.getD i default ∈ a := by simp [List.getD_eq_getElem?_getD, h1]
        have g2 : b.getD i default ∈ b := by simp [List.getD_eq_getElem?_getD, h2]
        rw [QM (ma _ g1) (mb _ g2), h]
        simp only [Option.bind_some]

end Go.Abs
namespace Go.Abs
open Go
def jE (e : aE) : aC := ⟨e.At, e.Net⟩

def gA (r : List aB) (f : List aC) : List aE → List (List aB × List aC)
  | [] => [(r, f)]
  | e :: l => if e.Row = r then gA r (f ++ [jE e]) l else (r, f) :: gA e.Row [jE e] l

def groups : List aE → List (List aB × List aC)
  | [] => []
  | e :: l => gA e.Row [jE e] l

def itG {σ : Type} (y : σ → List aB → List aC → Option (σ × Bool)) : List (List aB × List aC) → σ → Option σ
  | [], s => some s
  | g :: gs, s => (y s g.1 g.2).bind fun x => if x.2 then itG y gs x.1 else some x.1

def okL (l : List aE) : Prop := l.length ≤ 3518437208783 ∧ ∀ e ∈ l, e.Row.length ≤ 4398046510976

theorem EW {r : List aB} (h : r.length ≤ 4398046510976) : rO r = some r := by
  unfold rO
  rw [aM ⟨by omega, by omega, by omega⟩, aM (by simp only [List.length_nil, Nat.zero_add]; omega)]
  rfl

theorem EZ {σ : Type} {y : σ → List aB → List aC → Option (σ × Bool)} {l : List aE} (hl : okL l) (row : List aB) (sg : σ) : ∀ (r : List aE) (k : Nat) (f : List aC), l.drop k = r → k ≤ l.length → f.length ≤ k →
    ∃ k' f', k ≤ k' ∧ k' ≤ l.length ∧ f'.length ≤ k' ∧ lp (fun s : σ × Int × List aC => iX y l row s.1 s.2.1 s.2.2) (sg, (k : Int), f) = some (sg, ((k' : Nat) : Int), f') ∧
      gA row f r = (row, f') :: groups (l.drop k') ∧ (∀ e r', r = e :: r' → e.Row = row → k < k')
  | [], k, f, hd, hk, hf => by
    have : k = l.length := by
      have := congrArg List.length hd
      simp only [List.length_drop, List.length_nil] at this; omega
    subst this
    refine ⟨l.length, f, Nat.le_refl _, Nat.le_refl _, hf, cV ?_, by simp [gA, groups], fun e r' h => by cases h⟩
    show iX _ _ _ _ _ _ = _
    simp only [iX, mO, dJ, cond_false, Option.bind_some, Bool.false_and]
    exact aM (fun h => by cases h)
  | a :: r, k, f, hd, hk, hf => by
    obtain ⟨h1, h2⟩ := drop_cons hd
    have hlt : k < l.length := (List.getElem?_eq_some_iff.1 h1).1
    obtain ⟨hll, hlr⟩ := hl
    obtain ⟨d1, d2, d3, d4⟩ := idx h1 (by omega)
    have har := hlr a (List.mem_of_getElem? h1)
    have hb : (fun s : σ × Int × List aC => iX y l row s.1 s.2.1 s.2.2) (sg, (k : Int), f) = some (if a.Row = row then .inl (sg, ((k + 1 : Nat) : Int), f ++ [jE a]) else .inr (sg, (k : Int), f)) := by
      show iX _ _ _ _ _ _ = _
      simp only [iX, d1, d3, d4, dJ, cond_true, FN a.Row row (by omega), Option.bind_some, Bool.true_and]
      rw [aM (fun _ => d2)]
      by_cases e : a.Row = row
      · simp only [e, decide_true, cond_true, if_true]
        rw [aM d2, aM d2, aM (by simp only [List.length_cons, List.length_nil]; omega)]
        rfl
      · simp [e]
    by_cases e : a.Row = row
    · rw [if_pos e] at hb
      obtain ⟨k', f', g1, g2, g3, g4, g5, _⟩ := EZ ⟨hll, hlr⟩ row sg r (k + 1) (f ++ [jE a]) h2 (by omega) (by simp; omega) (y := y)
      refine ⟨k', f', by omega, g2, g3, by rw [gF hb]; exact g4, by simp [gA, e, g5], fun _ _ _ _ => by omega⟩
    · rw [if_neg e] at hb
      refine ⟨k, f, Nat.le_refl _, hk, hf, cV hb, ?_, fun b r' h hr => by cases h; exact absurd hr e⟩
      rw [hd]; simp [gA, e, groups]

theorem PM {σ : Type} {y : σ → List aB → List aC → Option (σ × Bool)} {l : List aE} (hl : okL l) : ∀ (m k : Nat) (sg s' : σ), l.length - k ≤ m → k ≤ l.length → itG y (groups (l.drop k)) sg = some s' →
    ∃ x, lp (fun s : σ × Int => iC y l s.1 s.2) (sg, (k : Int)) = some x ∧ Sum.elim id id x = s' := by
  have stop : ∀ (sg s' : σ), itG y (groups (l.drop l.length)) sg = some s' → ∃ x, lp (fun s : σ × Int => iC y l s.1 s.2) (sg, ((l.length : Nat) : Int)) = some x ∧ Sum.elim id id x = s' := by
    intro sg s' h
    rw [List.drop_length] at h
    simp only [groups, itG, Option.some.injEq] at h
    refine ⟨.inl sg, cV ?_, h⟩
    show iC _ _ _ _ = _
    simp only [iC, mO, cond_false]
  intro m
  induction m with
  | zero =>
    intro k sg s' hm hk h
    have : k = l.length := by omega
    subst this; exact stop sg s' h
  | succ m ih =>
    intro k sg s' hm hk h
    by_cases he : k = l.length
    · subst he; exact stop sg s' h
    · have hlt : k < l.length := by omega
      have hd : l.drop k = l[k] :: l.drop (k + 1) := List.drop_eq_getElem_cons hlt
      obtain ⟨d1, d2, d3, d4⟩ := idx (List.getElem?_eq_getElem hlt) (by have := hl.1; omega)
      obtain ⟨k', f', g1, g2, g3, g4, g5, g6⟩ := EZ hl l[k].Row sg (l.drop k) k [] rfl hk (by simp) (y := y)
      have hk' := g6 _ _ hd rfl
      have hg : groups (l.drop k) = (l[k].Row, f') :: groups (l.drop k') := by
        rw [← g5, hd]; simp [groups, gA]
      rw [hg] at h
      simp only [itG] at h
      obtain ⟨x, hx, h⟩ := aV h
      have hrow := hl.2 _ (List.getElem_mem hlt)
      have hb : (fun s : σ × Int => iC y l s.1 s.2) (sg, (k : Int)) = some (if x.2 then .inl (x.1, ((k' : Nat) : Int)) else .inr (.inr x.1)) := by
        show iC _ _ _ _ = _
        simp only [iC, d1, cond_true, aM d2, d3, pJ, g4, Option.bind_some, nM, EW hrow, hx]
        cases x.2 <;> simp
      cases hx2 : x.2
      · rw [hx2] at hb h
        simp only [Bool.false_eq_true, if_false, Option.some.injEq] at hb h
        exact ⟨_, cV hb, h⟩
      · rw [hx2] at hb h
        simp only [if_true] at hb h
        obtain ⟨z, hz1, hz2⟩ := ih k' x.1 s' (by omega) g2 h
        exact ⟨z, by rw [gF hb]; exact hz1, hz2⟩

theorem NL {σ : Type} {y : σ → List aB → List aC → Option (σ × Bool)} {l : List aE} (hl : okL l) {s s' : σ} (h : itG y (groups l) s = some s') : mP y l s = some s' := by
  unfold mP pI
  obtain ⟨x, h1, h2⟩ := PM hl l.length 0 s s' (by omega) (Nat.zero_le _) (by simpa using h)
  simp only [Int.natCast_zero] at h1
  rw [h1]
  cases x <;> simpa using h2

def ahd (last : Option (List aB)) (r : List aB) : Bool := match last with
  | none => true
  | some q => decide (oU q r < 0)

def sS (p : List aC → Bool) : Option (List aB) → List (List aB × List aC) → Bool
  | _, [] => true
  | last, g :: gs => (qK g.1 && ahd last g.1 && p g.2) && sS p (some g.1) gs

theorem OE {holds : List aC → Option Bool} {p : List aC → Bool} (hp : ∀ f, holds f = some (p f)) (c : List aE) (t : Bool) : ∀ (gs : List (List aB × List aC)) (last : List aB) (b : Bool), (b = true → qK last = true) →
    ∃ x, itG (fun st r f => rnd (fun (s : Bool × (List aB) × Bool) => nK holds c s.1 s.2.1 s.2.2 r f) st) gs (.inl (t, last, b)) = some x ∧
      (if sS p (if b then some last else none) gs then ∃ u, x = .inl (t, u) else ∃ u, x = .inr (false, u))
  | [], last, b, _ => ⟨_, rfl, by simp [sS]⟩
  | g :: gs, last, b, hb => by
    have hy : nK holds c t last b g.1 g.2 = some (if qK g.1 && ahd (if b then some last else none) g.1 && p g.2 then .inl (t, g.1, true) else .inr (false, last, b)) := by
      unfold nK
      simp only [GJ, Option.bind_some, SE, hp]
      cases hm : qK g.1
      · simp [dJ]
      · cases b
        · cases h2 : p g.2 <;> simp [dJ, ahd, h2]
        · have hl := hb rfl
          by_cases h1 : oU last g.1 < 0
          · have h1' : ¬ (0 ≤ oU last g.1) := by omega
            cases h2 : p g.2 <;> simp [dJ, ahd, h2, hl, h1, h1']
          · have h1' : 0 ≤ oU last g.1 := by omega
            simp [dJ, ahd, hl, h1, h1']
    cases hc : (qK g.1 && ahd (if b then some last else none) g.1 && p g.2)
    · rw [hc] at hy
      simp only [itG, rnd, hy, Option.bind_some, sS, hc]
      exact ⟨.inr (false, last, b), by simp, by simp⟩
    · rw [hc] at hy
      simp only [itG, rnd, hy, Option.bind_some, sS, hc]
      have hm : qK g.1 = true := by simp only [Bool.and_eq_true] at hc; exact hc.1.1
      obtain ⟨x, h1, h2⟩ := OE hp c t gs g.1 true (fun _ => hm)
      refine ⟨x, ?_, ?_⟩
      · simpa [rnd] using h1
      · simpa using h2

theorem NR {l : List aE} (hl : okL l) {holds : List aC → Option Bool} {p : List aC → Bool} (hp : ∀ f, holds f = some (p f)) : qC l holds = some (decide (l.length ≤ 4096) && sS p none (groups l)) := by
  unfold qC
  by_cases h : l.length ≤ 4096
  · have h1 : decide ((4096 : Int) < ((l.length : Nat) : Int)) = false := by simp; omega
    rw [h1, cond_false]
    simp only [qF, Option.bind_some, tM]
    obtain ⟨x, e1, e2⟩ := OE hp l false (groups l) [] false (fun h => by cases h)
    rw [NL hl e1]
    simp only [Bool.false_eq_true, if_false] at e2
    simp only [h, decide_true, Bool.true_and]
    cases hc : sS p none (groups l)
    · rw [hc] at e2
      simp only [Bool.false_eq_true, if_false] at e2
      obtain ⟨u, rfl⟩ := e2
      rfl
    · rw [hc] at e2
      simp only [if_true] at e2
      obtain ⟨u, rfl⟩ := e2
      rfl
  · have h1 : decide ((4096 : Int) < ((l.length : Nat) : Int)) = true := by simp; omega
    rw [h1, cond_true]
    simp [h]

def kW (l : List aE) : Bool := decide (l.length ≤ 4096) && sS jT none (groups l)

theorem NX {l : List aE} (hl : okL l) : rQ l = some (kW l) := by
  unfold rQ
  rw [NR hl (p := jT) (fun f => BF f)]; rfl

def GO (f : List aC) : Bool := jT f && decide (0 ≤ yM f)

def rL (l : List aE) : Bool := decide (l.length ≤ 4096) && sS GO none (groups l)

theorem SL {l : List aE} (hl : okL l) : qX l = some (rL l) := by
  unfold qX
  rw [NR hl (p := GO) (fun f => by
    unfold oM GO
    rw [BF]
    cases h : jT f <;> simp [dJ, VP, h])]
  rfl

def gQ (r : List aB) (f : List aC) : List aE := f.map fun j => ⟨r, j.At, j.Net⟩

theorem put_eq {out : List aE} {r : List aB} {f : List aC} (hr : r.length ≤ 4398046510976) (hl : out.length + f.length ≤ 1099511627776) : tN out r f = some (out ++ gQ r f) := by
  unfold tN uW
  rw [CA (l := f) (body := fun s : List aE × Int => mZ r f (f.length : Nat) s.1 s.2) (fun o i => (o, i)) (fun o t => o ++ gQ r t) (fun o t => o.length + t.length ≤ 1099511627776) out ?_ ?_ hl]
  · rfl
  · intro i a t o ha hi
    left
    obtain ⟨d1, d2, d3, d4⟩ := idx ha (by have := (List.getElem?_eq_some_iff.1 ha).1; omega)
    simp only [List.length_cons] at hi
    refine ⟨o ++ [⟨r, a.At, a.Net⟩], ?_, by simp; omega, by simp [gQ]⟩
    show mZ _ _ _ _ _ = _
    simp only [mZ, d1, cond_true, aM d2, d3, d4, EW hr, Option.bind_some]
    exact aM (by simp only [List.length_cons, List.length_nil]; omega)
  · intro o _
    show mZ _ _ _ _ _ = _
    simp only [mZ, mO, cond_false]
    simp [gQ]

def tT (by1 : List aC → List aC × Int) : List (List aB × List aC) → List aE → List aE × Int
  | [], out => (out, 0)
  | g :: gs, out => if (by1 g.2).2 ≠ 0 then ([], (by1 g.2).2) else if 4096 < (out ++ gQ g.1 (by1 g.2).1).length then ([], 7) else tT by1 gs (out ++ gQ g.1 (by1 g.2).1)

theorem IK {by0 : List aC → Option (List aC × Int)} {by1 : List aC → List aC × Int} (c : List aE) : ∀ (gs : List (List aB × List aC)) (out : List aE), out.length ≤ 4096 → (∀ g ∈ gs, by0 g.2 = some (by1 g.2) ∧ (by1 g.2).1.length ≤ 1024 ∧ g.1.length ≤ 4398046510976) →
    ∃ x, itG (fun st r f => rnd (fun (s : (List aE) × Int × List aE) => mC by0 c s.1 s.2.1 s.2.2 r f) st) gs (.inl ([], 0, out)) = some x ∧ Sum.elim (fun s : (List aE) × Int × List aE => (s.2.2, (0 : Int))) (fun s => (s.1, s.2.1)) x = tT by1 gs out
  | [], out, _, _ => ⟨_, rfl, rfl⟩
  | g :: gs, out, ho, hg => by
    obtain ⟨h1, h2, h3⟩ := hg g (by simp)
    have hy : mC by0 c [] 0 out g.1 g.2 = some (if (by1 g.2).2 ≠ 0 then .inr ([], (by1 g.2).2, out) else if 4096 < (out ++ gQ g.1 (by1 g.2).1).length then .inr ([], 7, out ++ gQ g.1 (by1 g.2).1) else .inl ([], 0, out ++ gQ g.1 (by1 g.2).1)) := by
      unfold mC
      simp only [h1, Option.bind_some, put_eq h3 (show out.length + (by1 g.2).1.length ≤ 1099511627776 by omega)]
      by_cases e1 : (by1 g.2).2 = 0
      · by_cases e2 : 4096 < (out ++ gQ g.1 (by1 g.2).1).length
        · have e2' : (4096 : Int) < (((out ++ gQ g.1 (by1 g.2).1).length : Nat) : Int) := by omega
          simp only [e1, e2, e2', decide_true, Bool.not_true, cond_false, cond_true, ne_eq, not_true_eq_false, if_false, if_true]
        · have e2' : ¬ (4096 : Int) < (((out ++ gQ g.1 (by1 g.2).1).length : Nat) : Int) := by omega
          simp only [e1, e2, e2', decide_true, decide_false, Bool.not_true, cond_false, ne_eq, not_true_eq_false, if_false]
      · simp only [e1, decide_false, Bool.not_false, cond_true, ne_eq, not_false_eq_true, if_true]
    simp only [itG, rnd, hy, Option.bind_some, tT]
    by_cases e1 : (by1 g.2).2 ≠ 0
    · rw [if_pos e1, if_pos e1]; exact ⟨_, rfl, rfl⟩
    · rw [if_neg e1, if_neg e1]
      by_cases e2 : 4096 < (out ++ gQ g.1 (by1 g.2).1).length
      · rw [if_pos e2, if_pos e2]; exact ⟨_, rfl, rfl⟩
      · rw [if_neg e2, if_neg e2]
        exact IK c gs _ (by omega) (fun q hq => hg q (by simp [hq]))

theorem SU {l : List aE} (hl : okL l) {by0 : List aC → Option (List aC × Int)} {by1 : List aC → List aC × Int} (hb : ∀ g ∈ groups l, by0 g.2 = some (by1 g.2) ∧ (by1 g.2).1.length ≤ 1024 ∧ g.1.length ≤ 4398046510976) : pQ l by0 = some (tT by1 (groups l) []) := by
  unfold pQ
  simp only [qF, Option.bind_some, rN]
  obtain ⟨x, e1, e2⟩ := IK (by0 := by0) (by1 := by1) l (groups l) [] (by simp) hb
  rw [NL hl e1]
  cases x <;> simpa using e2

def flat (gs : List (List aB × List aC)) : List aE := gs.flatMap fun g => gQ g.1 g.2

theorem GZ : ∀ (l : List aE) (r : List aB) (f : List aC), flat (gA r f l) = gQ r f ++ l
  | [], r, f => by simp [gA, flat]
  | e :: l, r, f => by
    unfold gA
    split
    · rename_i h
      rw [GZ l r]
      simp [gQ, jE, ← h]
    · have := GZ l e.Row [jE e]
      simp only [flat, List.flatMap_cons] at this ⊢
      rw [this]
      simp [gQ, jE]

theorem yD (l : List aE) : flat (groups l) = l := by
  cases l with
  | nil => rfl
  | cons e l => unfold groups; rw [GZ]; simp [gQ, jE]

theorem KT {r : List aB} : ∀ {l : List aE} {f : List aC} {g : List aB × List aC}, g ∈ gA r f l → f ≠ [] → g.2 ≠ [] ∧ (g.1 = r ∨ ∃ e ∈ l, g.1 = e.Row)
  | [], f, g, h, hf => by simp only [gA, List.mem_singleton] at h; subst h; exact ⟨hf, .inl rfl⟩
  | e :: l, f, g, h, hf => by
    unfold gA at h
    split at h
    · obtain ⟨h1, h2⟩ := KT h (by simp)
      exact ⟨h1, h2.imp id fun ⟨x, hx, hx'⟩ => ⟨x, by simp [hx], hx'⟩⟩
    · rcases List.mem_cons.1 h with rfl | h
      · exact ⟨hf, .inl rfl⟩
      · obtain ⟨h1, h2⟩ := KT (r := e.Row) h (by simp)
        refine ⟨h1, .inr ?_⟩
        rcases h2 with h2 | ⟨x, hx, hx'⟩
        · exact ⟨e, by simp, h2⟩
        · exact ⟨x, by simp [hx], hx'⟩

theorem QE {l : List aE} {g : List aB × List aC} (h : g ∈ groups l) : g.2 ≠ [] ∧ ∃ e ∈ l, g.1 = e.Row := by
  cases l with
  | nil => simp [groups] at h
  | cons e l =>
    obtain ⟨h1, h2⟩ := KT h (by simp)
    refine ⟨h1, ?_⟩
    rcases h2 with h2 | ⟨x, hx, hx'⟩
    · exact ⟨e, by simp, h2⟩
    · exact ⟨x, by simp [hx], hx'⟩

end Go.Abs
namespace Go.Abs
open Go
def jV (l : List aE) (r : List aB) : List aC := (l.filter fun e => decide (e.Row = r)).map jE

theorem yI (a b : List aE) (r : List aB) : jV (a ++ b) r = jV a r ++ jV b r := by simp [jV]

theorem IZ (q : List aB) (f : List aC) (r : List aB) : jV (gQ q f) r = if q = r then f else [] := by
  induction f with
  | nil => simp [jV, gQ]
  | cons j f ih =>
    have h1 : gQ q (j :: f) = [⟨q, j.At, j.Net⟩] ++ gQ q f := rfl
    rw [h1, yI, ih]
    by_cases h : q = r <;> simp [jV, jE, h]

def look : List (List aB × List aC) → List aB → List aC
  | [], _ => []
  | g :: gs, r => if g.1 = r then g.2 else look gs r

theorem oW (g : List aB × List aC) (gs : List (List aB × List aC)) (r : List aB) : look (g :: gs) r = if g.1 = r then g.2 else look gs r := rfl

abbrev ltG (a b : List aB × List aC) : Prop := oU a.1 b.1 < 0

abbrev rZ (gs : List (List aB × List aC)) : Prop := gs.Pairwise ltG

abbrev Full (gs : List (List aB × List aC)) : Prop := ∀ g ∈ gs, g.2 ≠ []

theorem qT {a : List aB} : ¬ oU a a < 0 := by rw [(uG.eq a a).2 rfl]; omega

theorem tE : ∀ {gs : List (List aB × List aC)} {r : List aB}, (∀ g ∈ gs, g.1 ≠ r) → look gs r = []
  | [], _, _ => rfl
  | g :: gs, r, h => by
    rw [oW]
    rw [if_neg (h g (by simp))]
    exact tE fun q hq => h q (by simp [hq])

theorem zW (gs : List (List aB × List aC)) (r : List aB) : (look gs r = [] ∧ ∀ g ∈ gs, g.1 ≠ r) ∨ ∃ g ∈ gs, g.1 = r ∧ look gs r = g.2 := by
  induction gs with
  | nil => exact .inl ⟨rfl, by simp⟩
  | cons g gs ih =>
    rw [oW]
    by_cases h : g.1 = r
    · rw [if_pos h]; exact .inr ⟨g, by simp, h, rfl⟩
    · rw [if_neg h]
      rcases ih with ⟨h1, h2⟩ | ⟨q, hq, h1, h2⟩
      · refine .inl ⟨h1, fun q hq => ?_⟩
        rcases List.mem_cons.1 hq with rfl | hq
        · exact h
        · exact h2 q hq
      · exact .inr ⟨q, by simp [hq], h1, h2⟩

theorem DX {gs : List (List aB × List aC)} (hs : rZ gs) {g : List aB × List aC} (hg : g ∈ gs) : look gs g.1 = g.2 := by
  induction gs with
  | nil => simp at hg
  | cons q gs ih =>
    have hs' := List.pairwise_cons.1 hs
    rw [oW]
    rcases List.mem_cons.1 hg with rfl | hg
    · rw [if_pos rfl]
    · rw [if_neg (fun e => by have := hs'.1 g hg; simp only [ltG, e] at this; exact qT this)]
      exact ih hs'.2 hg

theorem oV (g : List aB × List aC) (gs : List (List aB × List aC)) : flat (g :: gs) = gQ g.1 g.2 ++ flat gs := rfl

theorem tZ : ∀ {gs : List (List aB × List aC)}, rZ gs → ∀ r, jV (flat gs) r = look gs r
  | [], _, r => rfl
  | g :: gs, hs, r => by
    have hs' := List.pairwise_cons.1 hs
    rw [oV, yI, IZ, tZ hs'.2, oW]
    by_cases h : g.1 = r
    · rw [if_pos h, if_pos h, tE, List.append_nil]
      intro q hq e
      have := hs'.1 q hq
      simp only [ltG, h, e] at this; exact qT this
    · rw [if_neg h, if_neg h]; rfl

theorem OB : ∀ {gs hs : List (List aB × List aC)}, rZ gs → rZ hs → Full gs → Full hs → (∀ r, look gs r = look hs r) → gs = hs
  | [], [], _, _, _, _, _ => rfl
  | [], h :: hs, _, _, _, fh, he => by
    have := he h.1
    simp only [oW, look, if_true] at this
    exact absurd this.symm (fh h (by simp))
  | g :: gs, [], _, _, fg, _, he => by
    have := he g.1
    simp only [oW, look, if_true] at this
    exact absurd this (fg g (by simp))
  | g :: gs, h :: hs, sg, sh, fg, fh, he => by
    have sg' := List.pairwise_cons.1 sg
    have sh' := List.pairwise_cons.1 sh
    by_cases e : g.1 = h.1
    · have h2 := he g.1
      simp only [look, if_true, if_pos e.symm] at h2
      have ht : gs = hs := OB sg'.2 sh'.2 (fun q hq => fg q (by simp [hq])) (fun q hq => fh q (by simp [hq])) fun r => by
        by_cases hr : g.1 = r
        · subst hr
          rw [tE (gs := gs), tE (gs := hs)]
          · intro q hq e'; have := sh'.1 q hq; simp only [ltG, ← e, e'] at this; exact qT this
          · intro q hq e'; have := sg'.1 q hq; simp only [ltG, e'] at this; exact qT this
        · have := he r
          simp only [look, if_neg hr, if_neg (fun x => hr (e.trans x))] at this
          exact this
      rw [ht]
      obtain ⟨g1, g2⟩ := g
      obtain ⟨h1, h3⟩ := h
      simp only at e h2
      rw [e, h2]
    · exfalso
      have hne : oU g.1 h.1 ≠ 0 := fun x => e ((uG.eq _ _).1 x)
      by_cases hlt : oU g.1 h.1 < 0
      · have h2 := he g.1
        rw [DX sg (by simp), tE] at h2
        · exact fg g (by simp) h2
        · intro q hq e'
          rcases List.mem_cons.1 hq with rfl | hq
          · exact e e'.symm
          · have := uG.trans _ _ _ hlt (sh'.1 q hq)
            rw [e'] at this; exact qT this
      · have hlt' : oU h.1 g.1 < 0 := (uG.anti _ _).2 (by omega)
        have h2 := he h.1
        rw [DX sh (by simp), tE] at h2
        · exact fh h (by simp) h2.symm
        · intro q hq e'
          rcases List.mem_cons.1 hq with rfl | hq
          · exact e e'
          · have := uG.trans _ _ _ hlt' (sg'.1 q hq)
            rw [e'] at this; exact qT this

theorem tF {p : List aC → Bool} : ∀ {gs : List (List aB × List aC)} {last : Option (List aB)}, sS p last gs = true ↔ (∀ g ∈ gs, qK g.1 = true ∧ p g.2 = true) ∧ rZ gs ∧ (∀ q, last = some q → ∀ g ∈ gs, oU q g.1 < 0)
  | [], last => by simp [sS]
  | g :: gs, last => by
    unfold sS
    simp only [Bool.and_eq_true, tF (gs := gs), List.mem_cons, List.pairwise_cons]
    constructor
    · rintro ⟨⟨⟨h1, h2⟩, h3⟩, h4, h5, h6⟩
      refine ⟨?_, ⟨fun q hq => h6 _ rfl q hq, h5⟩, ?_⟩
      · rintro q (rfl | hq)
        · exact ⟨h1, h3⟩
        · exact h4 q hq
      · rintro q rfl x (rfl | hx)
        · simpa [ahd] using h2
        · simp only [ahd, decide_eq_true_eq] at h2
          exact uG.trans _ _ _ h2 (h6 _ rfl x hx)
    · rintro ⟨h1, ⟨h2, h3⟩, h4⟩
      refine ⟨⟨⟨(h1 g (.inl rfl)).1, ?_⟩, (h1 g (.inl rfl)).2⟩, fun q hq => h1 q (.inr hq), h3, ?_⟩
      · unfold ahd
        split
        · rfl
        · exact decide_eq_true (h4 _ rfl g (.inl rfl))
      · rintro q hq x hx
        cases hq
        exact h2 x hx

theorem lQ {l : List aE} (h : kW l = true) : l.length ≤ 4096 ∧ (∀ g ∈ groups l, qK g.1 = true ∧ jT g.2 = true) ∧ rZ (groups l) := by
  simp only [kW, Bool.and_eq_true, decide_eq_true_eq] at h
  obtain ⟨h1, h2, _⟩ := tF.1 h.2
  exact ⟨h.1, h1, h2⟩

theorem RZ {l : List aE} (h : kW l = true) (r : List aB) : jT (look (groups l) r) = true := by
  rcases zW (groups l) r with ⟨h1, _⟩ | ⟨g, hg, _, h1⟩
  · rw [h1]; exact GD
  · rw [h1]; exact ((lQ h).2.1 g hg).2

theorem wC {l : List aE} (h : rZ (groups l)) (r : List aB) : look (groups l) r = jV l r := by
  rw [← tZ h, yD]

theorem NZ (r : List aB) (f : List aC) (e : aE) (l : List aE) : gA r f (e :: l) = if e.Row = r then gA r (f ++ [jE e]) l else (r, f) :: gA e.Row [jE e] l := rfl

theorem LI (r : List aB) : ∀ (f2 f : List aC) (l : List aE), gA r f (gQ r f2 ++ l) = gA r (f ++ f2) l
  | [], f, l => by simp [gQ]
  | j :: f2, f, l => by
    show gA r f (⟨r, j.At, j.Net⟩ :: (gQ r f2 ++ l)) = _
    rw [NZ, if_pos rfl, LI r f2]
    simp [jE]

theorem HZ : ∀ {gs : List (List aB × List aC)}, rZ gs → Full gs → groups (flat gs) = gs
  | [], _, _ => rfl
  | (r, f) :: gs, hs, hf => by
    have hs' := List.pairwise_cons.1 hs
    have hne := hf (r, f) (by simp)
    have ih := HZ hs'.2 (fun g hg => hf g (by simp [hg]))
    cases f with
    | nil => exact absurd rfl hne
    | cons j f =>
      rw [oV]
      show gA r [jE ⟨r, j.At, j.Net⟩] (gQ r f ++ flat gs) = _
      rw [LI]
      have key : ∀ (F : List aC), gA r F (flat gs) = (r, F) :: groups (flat gs) := by
        intro F
        cases gs with
        | nil => rfl
        | cons g gs =>
          obtain ⟨q, f'⟩ := g
          have hq := hf (q, f') (by simp)
          cases f' with
          | nil => exact absurd rfl hq
          | cons j' f' =>
            have hqr : q ≠ r := fun e => by
              have := hs'.1 (q, j' :: f') (by simp)
              simp only [ltG, e] at this; exact qT this
            rw [oV]
            show gA r F (⟨q, j'.At, j'.Net⟩ :: (gQ q f' ++ flat gs)) = _
            rw [gA, if_neg hqr]
            rfl
      rw [key, ih]
      rfl

def uF (gs : List (List aB × List aC)) : List (List aB × List aC) := gs.filter fun g => !g.2.isEmpty

theorem xS : ∀ (gs : List (List aB × List aC)), flat (uF gs) = flat gs
  | [] => rfl
  | (r, []) :: gs => by
    have : uF ((r, []) :: gs) = uF gs := rfl
    rw [this, xS gs, oV]; rfl
  | (r, j :: f) :: gs => by
    have : uF ((r, j :: f) :: gs) = (r, j :: f) :: uF gs := rfl
    rw [this, oV, oV, xS gs]

theorem AP (gs : List (List aB × List aC)) : Full (uF gs) := by
  intro g hg
  have := (List.mem_filter.1 hg).2
  intro h; rw [h] at this; simp at this

theorem tR {gs : List (List aB × List aC)} (hs : rZ gs) : groups (flat gs) = uF gs := by
  rw [← xS]
  exact HZ (hs.filter _) (AP gs)

theorem IJ {gs : List (List aB × List aC)} (hs : rZ gs) (r : List aB) : look (groups (flat gs)) r = look gs r := by
  have h1 := tZ (gs := uF gs) (hs.filter _) r
  rw [tR hs, ← h1, ← tZ hs, xS]

theorem RX {gs : List (List aB × List aC)} (hs : rZ gs) (hm : ∀ g ∈ gs, qK g.1 = true ∧ jT g.2 = true) (hl : (flat gs).length ≤ 4096) : kW (flat gs) = true := by
  simp only [kW, Bool.and_eq_true, decide_eq_true_eq]
  refine ⟨hl, tF.2 ?_⟩
  rw [tR hs]
  exact ⟨fun g hg => hm g (List.mem_filter.1 hg).1, hs.filter _, by simp⟩

def uP (by1 : List aC → List aC × Int) (gs : List (List aB × List aC)) : List (List aB × List aC) := gs.map fun g => (g.1, (by1 g.2).1)

theorem zU {by1 : List aC → List aC × Int} {gs : List (List aB × List aC)} (hs : rZ gs) : rZ (uP by1 gs) := by
  rw [rZ, uP, List.pairwise_map]; exact hs

theorem xP {by1 : List aC → List aC × Int} (h0 : (by1 []).1 = []) : ∀ (gs : List (List aB × List aC)) (r : List aB), look (uP by1 gs) r = (by1 (look gs r)).1
  | [], r => h0.symm
  | g :: gs, r => by
    show look ((g.1, (by1 g.2).1) :: uP by1 gs) r = _
    rw [oW, oW]
    by_cases h : g.1 = r
    · rw [if_pos h, if_pos h]
    · rw [if_neg h, if_neg h]; exact xP h0 gs r

theorem NK {by1 : List aC → List aC × Int} : ∀ {gs : List (List aB × List aC)} {out : List aE}, out.length ≤ 4096 → (tT by1 gs out).2 = 0 → (∀ g ∈ gs, (by1 g.2).2 = 0) ∧ (tT by1 gs out).1 = out ++ flat (uP by1 gs) ∧ (tT by1 gs out).1.length ≤ 4096
  | [], out, ho, _ => by simp [tT, uP, flat, ho]
  | g :: gs, out, ho, h => by
    unfold tT at h ⊢
    by_cases e1 : (by1 g.2).2 = 0
    · rw [if_neg (by simp [e1])] at h ⊢
      by_cases e2 : 4096 < (out ++ gQ g.1 (by1 g.2).1).length
      · rw [if_pos e2] at h; simp at h
      · rw [if_neg e2] at h ⊢
        obtain ⟨h1, h2, h3⟩ := NK (by omega) h
        refine ⟨?_, ?_, h3⟩
        · intro q hq
          rcases List.mem_cons.1 hq with rfl | hq
          · exact e1
          · exact h1 q hq
        · rw [h2]; simp [uP, oV]
    · rw [if_pos e1] at h; exact absurd h e1

theorem KM {by1 : List aC → List aC × Int} : ∀ {gs : List (List aB × List aC)} {out : List aE}, (tT by1 gs out).2 ≠ 0 → (tT by1 gs out).1 = []
  | [], out, h => by simp [tT] at h
  | g :: gs, out, h => by
    unfold tT at h ⊢
    split
    · rfl
    · rename_i e1
      rw [if_neg e1] at h
      split
      · rfl
      · rename_i e2
        rw [if_neg e2] at h
        exact KM h

def sW (by1 : List aC → List aC × Int) (l : List aE) : List aE × Int := if kW l then tT by1 (groups l) [] else ([], 2)

theorem AN {l : List aE} (hl : okL l) {g : List aB × List aC} (hg : g ∈ groups l) : g.1.length ≤ 4398046510976 := by
  obtain ⟨_, e, he, h⟩ := QE hg
  rw [h]; exact hl.2 e he

theorem all_eq {l : List aE} (hl : okL l) {by0 : List aC → Option (List aC × Int)} {by1 : List aC → List aC × Int} (hb : ∀ f, by0 f = some (by1 f)) (h1 : ∀ f, (by1 f).1.length ≤ 1024) : tI l by0 = some (sW by1 l) := by
  unfold tI sW
  rw [NX hl]
  cases h : kW l
  · rfl
  · simp only [Option.bind_some, Bool.not_true, cond_false, if_true]
    rw [SU hl (fun g hg => ⟨hb g.2, h1 g.2, AN hl hg⟩)]
    rfl

theorem yY {by1 : List aC → List aC × Int} {l : List aE} (h : (sW by1 l).2 = 0) : kW l = true ∧ (∀ g ∈ groups l, (by1 g.2).2 = 0) ∧ (sW by1 l).1 = flat (uP by1 (groups l)) ∧ (sW by1 l).1.length ≤ 4096 := by
  unfold sW at h ⊢
  cases hm : kW l
  · rw [hm] at h; simp at h
  · rw [hm] at h
    simp only [if_true] at h ⊢
    obtain ⟨h1, h2, h3⟩ := NK (by simp) h
    exact ⟨trivial, h1, by simpa using h2, h3⟩

theorem RT {by1 : List aC → List aC × Int} (h0 : (by1 []).1 = []) {l : List aE} (h : (sW by1 l).2 = 0) (r : List aB) : look (groups (sW by1 l).1) r = (by1 (look (groups l) r)).1 := by
  obtain ⟨h1, h2, h3, _⟩ := yY h
  rw [h3, IJ (zU (lQ h1).2.2), xP h0]

theorem UU {by1 : List aC → List aC × Int} (h0 : (by1 []).2 = 0) {l : List aE} (h : (sW by1 l).2 = 0) (r : List aB) : (by1 (look (groups l) r)).2 = 0 := by
  obtain ⟨h1, h2, _, _⟩ := yY h
  rcases zW (groups l) r with ⟨e, _⟩ | ⟨g, hg, _, e⟩
  · rw [e]; exact h0
  · rw [e]; exact h2 g hg

theorem vM : ∀ (l : List aE) (r : List aB) (f : List aC), (gA r f l).length ≤ l.length + 1
  | [], _, _ => by simp [gA]
  | e :: l, r, f => by
    rw [NZ]
    split
    · have := vM l r (f ++ [jE e]); simp only [List.length_cons]; omega
    · have := vM l e.Row [jE e]; simp only [List.length_cons]; omega

theorem OQ (l : List aE) : (groups l).length ≤ l.length := by
  cases l with
  | nil => simp [groups]
  | cons e l => exact vM l e.Row [jE e]

end Go.Abs
namespace Go.Abs
open Go
def vL : aB := ⟨1, 1, ByteArray.empty⟩

end Go.Abs
namespace Go.Abs
open Go
theorem NP : okL [] := ⟨by simp, by simp⟩

theorem TZ {gs : List (List aB × List aC)} (h : ∀ g ∈ gs, g.1.length ≤ 4398046510976) (hl : (flat gs).length ≤ 4096) : okL (flat gs) := by
  refine ⟨by omega, fun e he => ?_⟩
  obtain ⟨g, hg, h1⟩ := List.mem_flatMap.1 he
  obtain ⟨j, _, rfl⟩ := List.mem_map.1 h1
  exact h g hg

theorem TS {by1 : List aC → List aC × Int} {l : List aE} (hl : okL l) : okL (sW by1 l).1 := by
  by_cases h : (sW by1 l).2 = 0
  · obtain ⟨_, _, h3, h4⟩ := yY h
    rw [h3] at h4 ⊢
    refine TZ (fun g hg => ?_) h4
    obtain ⟨q, hq, rfl⟩ := List.mem_map.1 hg
    have := AN hl hq
    exact this
  · unfold sW at h ⊢
    split
    · rename_i hm
      rw [if_pos hm] at h
      rw [KM h]; exact NP
    · exact NP

def lU (l : List aE) (t : Int) : List aE × Int := sW (fun f => rest f t) l

theorem SY {l : List aE} (hl : okL l) (t : Int) : okL (lU l t).1 := TS hl

theorem VE {l : List aE} (hl : okL l) (t : Int) : sF l t = some (lU l t) := by
  unfold sF lU
  rw [all_eq hl (by0 := fun y0 => nW y0 t) (by1 := fun f => rest f t) (fun f => by unfold nW; rw [WZ]; rfl) (fun f => UB f t)]
  rfl

theorem LO {t : Int} : rest [] t = ([], 0) := by
  unfold rest
  rw [if_pos GD]
  split
  · rfl
  · split <;> rfl

end Go.Abs
namespace Go.Abs
open Go
theorem EH {l : List aE} (hm : kW l = true) {e : aE} (he : e ∈ l) : qK e.Row = true ∧ -2 < e.At ∧ e.At < 1125899906842624 ∧ e.Net ≠ 0 ∧ e.Net ≤ 1048576 ∧ -1048576 ≤ e.Net := by
  obtain ⟨_, h2, _⟩ := lQ hm
  have he' : e ∈ flat (groups l) := by rw [yD]; exact he
  obtain ⟨g, hg, h1⟩ := List.mem_flatMap.1 he'
  obtain ⟨j, hj, rfl⟩ := List.mem_map.1 h1
  obtain ⟨a, b⟩ := h2 g hg
  exact ⟨a, (oP.1 b).2.above j hj⟩

theorem vY {l : List aE} (hm : kW l = true) (r : List aB) : jT (jV l r) = true := by
  rw [← wC (lQ hm).2.2]; exact RZ hm r

end Go.Abs
namespace Go.Abs
open Go
theorem NG {c : Int} : ∀ {l : List Int} {m : Int}, c ≤ l.foldl mn m ↔ c ≤ m ∧ ∀ x ∈ l, c ≤ x
  | [], m => by simp
  | a :: l, m => by
    rw [List.foldl_cons, NG]
    unfold mn
    constructor
    · rintro ⟨h1, h2⟩
      have h3 : c ≤ m ∧ c ≤ a := by split at h1 <;> omega
      refine ⟨h3.1, fun x hx => ?_⟩
      rcases List.mem_cons.1 hx with rfl | hx
      · exact h3.2
      · exact h2 x hx
    · rintro ⟨h1, h2⟩
      have := h2 a (by simp)
      exact ⟨by split <;> omega, fun x hx => h2 x (by simp [hx])⟩

theorem HI {t : Int} : ∀ {f : List aC} {l v : Int}, nI l f → v + val f t = v ∨ v + val f t ∈ parts v f
  | [], l, v, _ => .inl (by simp [val])
  | j :: r, l, v, h => by
    unfold parts
    rw [kD]
    by_cases e : j.At ≤ t
    · rw [if_pos e]
      right
      rcases HI (t := t) (v := v + j.Net) h.2 with h1 | h1
      · rw [show v + (j.Net + val r t) = v + j.Net by omega]; simp
      · rw [show v + (j.Net + val r t) = v + j.Net + val r t by omega]; exact List.mem_cons_of_mem _ h1
    · left
      rw [if_neg e, h.2.vU (by omega)]; omega

theorem IL {f : List aC} (hf : jT f = true) : 0 ≤ yM f ↔ ∀ t, 0 ≤ val f t := by
  have hr := (oP.1 hf).2
  unfold yM
  rw [NG]
  constructor
  · rintro ⟨_, h2⟩ t
    rcases HI (t := t) (v := 0) hr with h | h
    · omega
    · rw [parts_eq hr] at h
      obtain ⟨j, hj, h⟩ := List.mem_map.1 h
      have := h2 _ (List.mem_map.2 ⟨j, hj, rfl⟩)
      omega
  · intro h
    refine ⟨h _, fun x hx => ?_⟩
    obtain ⟨j, _, rfl⟩ := List.mem_map.1 hx
    exact h _

theorem FQ {l : List aE} : rL l = true ↔ kW l = true ∧ ∀ r t, 0 ≤ val (jV l r) t := by
  constructor
  · intro h
    unfold rL at h
    rw [Bool.and_eq_true, tF] at h
    obtain ⟨h1, h2, h3, _⟩ := h
    have hm : kW l = true := by
      unfold kW
      rw [Bool.and_eq_true]
      exact ⟨h1, tF.2 ⟨fun g hg => ⟨(h2 g hg).1, by have := (h2 g hg).2; unfold GO at this; rw [Bool.and_eq_true] at this; exact this.1⟩, h3, fun q hq => by cases hq⟩⟩
    refine ⟨hm, fun r => ?_⟩
    rw [← wC h3]
    rcases zW (groups l) r with ⟨e, _⟩ | ⟨g, hg, _, e⟩
    · rw [e]; intro t; simp [val]
    · rw [e]
      have := (h2 g hg).2
      unfold GO at this
      rw [Bool.and_eq_true, decide_eq_true_eq] at this
      exact (IL this.1).1 this.2
  · rintro ⟨hm, h⟩
    obtain ⟨h1, h2, h3⟩ := lQ hm
    unfold rL
    rw [Bool.and_eq_true]
    refine ⟨by simpa using h1, tF.2 ⟨fun g hg => ⟨(h2 g hg).1, ?_⟩, h3, fun q hq => by cases hq⟩⟩
    unfold GO
    rw [Bool.and_eq_true, decide_eq_true_eq]
    refine ⟨(h2 g hg).2, (IL (h2 g hg).2).2 ?_⟩
    have : g.2 = jV l g.1 := by rw [← wC h3, DX h3 hg]
    rw [this]; exact h g.1

theorem RR {f : List aC} (hu : Up (-2) f) (h : ∀ t, -2 < t → t < 1125899906842624 → 0 ≤ val f t) : ∀ t, 0 ≤ val f t := by
  intro t
  by_cases h1 : -2 < t
  · by_cases h2 : t < 1125899906842624
    · exact h t h1 h2
    · have := IE (s := 1125899906842623) (t := t) (by omega) (f := f) (fun j hj => by have := (hu.above j hj); omega)
      rw [← this]; exact h _ (by omega) (by omega)
  · rw [hu.vU (by omega)]; omega

end Go.Abs
namespace Go.Abs
open Go
abbrev gN (d : List Int) (i : Nat) : Int := d.getD i default

def swp (d : List Int) (i j : Nat) : List Int := (d.set i (gN d j)).set j (gN d i)

theorem SP {d : List Int} {i k : Nat} {x : Int} (h : i < d.length) : gN (d.set i x) k = if k = i then x else gN d k := by
  simp only [gN, List.getD_eq_getElem?_getD, List.getElem?_set]
  by_cases e : i = k
  · subst e; simp [h]
  · rw [if_neg e, if_neg (fun h => e h.symm)]

theorem gG (d : List Int) (i j : Nat) : (swp d i j).length = d.length := by simp [swp]

theorem qA {d : List Int} {i j : Nat} (hi : i < d.length) (hj : j < d.length) (k : Nat) : gN (swp d i j) k = if k = j then gN d i else if k = i then gN d j else gN d k := by
  unfold swp
  rw [SP (by simpa using hj), SP hi]

theorem VG {d : List Int} {i j : Nat} (hi : i < d.length) (hj : j < d.length) : (swp d i j).Perm d := by
  have h1 : gN d i = d[i] := by simp [gN, List.getD_eq_getElem?_getD, List.getElem?_eq_getElem hi]
  have h2 : gN d j = d[j] := by simp [gN, List.getD_eq_getElem?_getD, List.getElem?_eq_getElem hj]
  unfold swp
  rw [h1, h2]
  exact List.set_set_perm hi hj

structure Rel (a b : Nat) (d d' : List Int) : Prop where
  len : d'.length = d.length
  perm : d'.Perm d
  out : ∀ k, k < a ∨ b ≤ k → gN d' k = gN d k
  src : ∀ k, a ≤ k → k < b → ∃ k', a ≤ k' ∧ k' < b ∧ gN d' k = gN d k'

theorem Rel.refl (a b : Nat) (d : List Int) : Rel a b d d := ⟨rfl, .refl _, fun _ _ => rfl, fun k h1 h2 => ⟨k, h1, h2, rfl⟩⟩

theorem Rel.trans {a b : Nat} {d d' d'' : List Int} (h : Rel a b d d') (h' : Rel a b d' d'') : Rel a b d d'' :=
  ⟨h'.len.trans h.len, h'.perm.trans h.perm, fun k hk => (h'.out k hk).trans (h.out k hk), fun k h1 h2 => by
    obtain ⟨k1, a1, a2, a3⟩ := h'.src k h1 h2
    obtain ⟨k2, b1, b2, b3⟩ := h.src k1 a1 a2
    exact ⟨k2, b1, b2, a3.trans b3⟩⟩

theorem Rel.mono {a b a' b' : Nat} {d d' : List Int} (h : Rel a b d d') (h1 : a' ≤ a) (h2 : b ≤ b') : Rel a' b' d d' :=
  ⟨h.len, h.perm, fun k hk => h.out k (by omega), fun k k1 k2 => by
    by_cases hk : a ≤ k ∧ k < b
    · obtain ⟨k', c1, c2, c3⟩ := h.src k hk.1 hk.2
      exact ⟨k', by omega, by omega, c3⟩
    · exact ⟨k, k1, k2, h.out k (by omega)⟩⟩

theorem Rel.swp {a b : Nat} {d : List Int} {i j : Nat} (hi : i < d.length) (hj : j < d.length) (h1 : a ≤ i ∧ i < b) (h2 : a ≤ j ∧ j < b) : Rel a b d (swp d i j) :=
  ⟨gG .., VG hi hj, fun k hk => by rw [qA hi hj, if_neg (by omega), if_neg (by omega)], fun k k1 k2 => by
    rw [qA hi hj]
    split
    · exact ⟨i, h1.1, h1.2, rfl⟩
    · split
      · exact ⟨j, h2.1, h2.2, rfl⟩
      · exact ⟨k, k1, k2, rfl⟩⟩

theorem Rel.all {a b : Nat} {d d' : List Int} (h : Rel a b d d') {p : Int → Prop} (hp : ∀ k, a ≤ k → k < b → p (gN d k)) : ∀ k, a ≤ k → k < b → p (gN d' k) := fun k k1 k2 => by
  obtain ⟨k', c1, c2, c3⟩ := h.src k k1 k2
  rw [c3]; exact hp k' c1 c2

def nT (a b : Nat) (d : List Int) : Prop := ∀ p q, a ≤ p → p ≤ q → q < b → gN d p ≤ gN d q

theorem pK (a b : Int) : cN a b = some (decide (a < b)) := by simp [cN, jO, dJ]

theorem wrN {x : Int} {n : Nat} (h : x = (n : Int)) (hn : n ≤ 9000000000000000000) : IntKind.i64.wrap x = (n : Int) := by
  rw [dS (by omega) (by omega), h]

theorem asN {i n : Nat} (h : i < n) : 0 ≤ (i : Int) ∧ (i : Int) < ((n : Nat) : Int) := by omega

theorem LA {a b i : Int} {d : List Int} {lo j : Nat} (ha : a = (lo : Nat)) (h1 : lo ≤ j) (hj : j < d.length) (hl : d.length < 4611686018427387904) :
    eK a b i d (j : Nat) = if lo < j ∧ gN d j < gN d (j - 1) then some (.inl (swp d j (j - 1), ((j - 1 : Nat) : Int))) else some (.inr d) := by
  subst ha
  unfold eK
  by_cases h : lo < j
  · have e1 : IntKind.i64.wrap ((j : Int) - 1) = ((j - 1 : Nat) : Int) := wrN (by omega) (by omega)
    have d1 : decide (((lo : Nat) : Int) < ((j : Nat) : Int)) = true := by simp; omega
    rw [e1, d1]
    simp only [true_and, Int.toNat_natCast, pK, dJ, cond_true, Option.bind_some, Bool.true_and]
    rw [aM fun _ => asN hj, aM fun _ => asN (by omega)]
    by_cases h2 : gN d j < gN d (j - 1)
    · rw [if_pos ⟨h, h2⟩]
      simp only [gN] at h2
      simp only [h2, decide_true, cond_true]
      rw [aM (asN (by omega)), aM (asN hj), aM (asN hj), aM (asN (by omega))]
      rfl
    · rw [if_neg (fun hh => h2 hh.2)]
      simp only [gN] at h2
      simp only [h2, decide_false, cond_false]
  · have d1 : decide (((lo : Nat) : Int) < ((j : Nat) : Int)) = false := by simp; omega
    rw [if_neg (fun hh => h hh.1), d1]
    simp only [Bool.false_eq_true, false_implies, dJ, cond_false, Option.bind_some, Bool.false_and]
    rw [aM trivial, aM trivial]

structure AT (a j i : Nat) (d : List Int) : Prop where
  oth : ∀ p q, a ≤ p → p ≤ q → q ≤ i → p ≠ j → q ≠ j → gN d p ≤ gN d q
  up : ∀ q, j < q → q ≤ i → gN d j ≤ gN d q

theorem AT.done {a j i : Nat} {d : List Int} (h : AT a j i d) (hj : a ≤ j) (hn : ¬ (a < j ∧ gN d j < gN d (j - 1))) : nT a (i + 1) d := by
  intro p q h1 h2 h3
  by_cases hp : p = j
  · by_cases hq : q = j
    · subst hp; subst hq; exact Int.le_refl _
    · subst hp; exact h.up q (by omega) (by omega)
  · by_cases hq : q = j
    · subst hq
      have h4 : ¬ gN d q < gN d (q - 1) := fun hh => hn ⟨by omega, hh⟩
      have := h.oth p (q - 1) h1 (by omega) (by omega) hp (by omega)
      omega
    · exact h.oth p q h1 h2 (by omega) hp hq

end Go.Abs
