/- What the law CountsStarts stands on: the framework, the given functions as plain functions, their walks, and the plain laws; part 4. -/
import Derived.Test.YtfhaegpflbcmgaaCountsStartsZ3
set_option linter.unusedSimpArgs false
set_option linter.unusedVariables false
namespace Go.Abs
open Go Go.RowKit Go.Proofs
theorem vS (lo0p : Nat) (aA : (List Int)) (a1 : Int) (b2 : Int) (cF : Int) (r : ((Int × Bool) × List Int)) (h0 : fZ aA a1 b2 cF = some r) : mU Try.prog 86 lo0p 1 (List.map (eI) aA) (List.map (eI) r.2) [(.msl 1 lo0p 0 (List.length aA)), (eI a1), (eI b2), (eI cF)] (.tup [(eI r.1.1), (aE r.1.2)]) := by
  intro H0 hl0
  refine cZ Try.func86 ?_
  have hO := aL.rC hl0
  clear hl0
  obtain ⟨N0, hN0⟩ : ∃ n, n = List.length aA := ⟨_, rfl⟩
  have hN : List.length aA = N0 := hN0.symm
  unfold fZ at h0
  refine aR aC 2 [] [] ?_
  refine aN ?_
  refine eM (eK []) aC 16 ?_
  obtain ⟨c1, h0⟩ := aS h0
  refine bZ 7 [0 ≤ cF ∧ cF < (lN aA)] ⟨c1, trivial⟩ ?_
  refine fL 0 lo0p 1 (0 + Int.toNat cF) (eI (gD aA cF)) (eI (gD aA cF)) (List.map (eI) aA) hO (bR c1) ?_
  obtain ⟨c2, h0⟩ := aS h0
  refine bZ 11 [0 ≤ a1 ∧ a1 < (lN aA)] ⟨c2, trivial⟩ ?_
  refine fL 0 lo0p 1 (0 + Int.toNat a1) (eI (gD aA a1)) (eI (gD aA a1)) (List.map (eI) aA) hO (bR c2) ?_
  obtain ⟨c3, h0⟩ := aS h0
  refine bZ 13 [0 ≤ a1 ∧ a1 < (lN aA)] ⟨c3, trivial⟩ ?_
  refine kB 0 lo0p 1 (0 + Int.toNat a1) (eI (gD aA a1)) (eI (gD aA cF)) (List.map (eI) aA) [(lo0p, 1, List.map (eI) (List.set aA (Int.toNat a1) (gD aA cF)))] hO (bR c3) (by simp only [List.set, gE]) ?_
  intro H hO
  replace hN : List.length (List.set aA (Int.toNat a1) (gD aA cF)) = N0 := by simpa using hN
  obtain ⟨c4, h0⟩ := aS h0
  refine bZ 15 [0 ≤ cF ∧ cF < (lN aA)] ⟨c4, trivial⟩ ?_
  refine kB 0 lo0p 1 (0 + Int.toNat cF) (eI (gD (List.set aA (Int.toNat a1) (gD aA cF)) cF)) (eI (gD aA a1)) (List.map (eI) (List.set aA (Int.toNat a1) (gD aA cF))) [(lo0p, 1, List.map (eI) (List.set (List.set aA (Int.toNat a1) (gD aA cF)) (Int.toNat cF) (gD aA a1)))] hO (mK c4 (by simp [])) (by simp only [List.set, gE]) ?_
  intro H hO
  replace hN : List.length (List.set (List.set aA (Int.toNat a1) (gD aA cF)) (Int.toNat cF) (gD aA a1)) = N0 := by simpa using hN
  refine mH (by kernel_rfl) ?_
  refine dA (l := [(0, (.msl 1 lo0p 0 (List.length (List.set (List.set aA (Int.toNat a1) (gD aA cF)) (Int.toNat cF) (gD aA a1))))), (1, (eI a1)), (2, (eI b2))]) ⟨[(0, (.msl 1 lo0p 0 (List.length aA))), (1, (eI a1)), (2, (eI b2))], by kernel_rfl, rfl, ⟨aO.eq (by simp []), aO.refl _, aO.refl _, trivial⟩⟩ ?_
  refine aG (aF (?_))
  refine aR aC 6 [2] [(10, (eI (wR (a1 + (1 : Int))))), (11, (eI (wR (b2 - (1 : Int)))))] ?_
  refine dZ (fun T H => ∃ aA : List Int, ∃ i10 : Int, ∃ j11 : Int, Has T [(0, (.msl 1 lo0p 0 (List.length aA))), (1, (eI a1)), (10, (eI i10)), (11, (eI j11))] ∧ aL ⟨H0, [lo0p], []⟩ H [(lo0p, 1, List.map (eI) aA)] ∧ List.length aA = N0 ∧ iA aA a1 i10 j11 = some r) ?_ ?_
  · clear hO hN h0
    rintro T H ⟨aA, i10, j11, hT, hO, hN, h0⟩
    refine aZ hT ?_
    clear hT
    unfold iA at h0
    refine dZ (fun T H => ∃ aA : List Int, ∃ j11 : Int, Has T [(0, (.msl 1 lo0p 0 (List.length aA))), (1, (eI a1)), (10, (eI i10)), (11, (eI j11))] ∧ aL ⟨H0, [lo0p], []⟩ H [(lo0p, 1, List.map (eI) aA)] ∧ List.length aA = N0 ∧ eE aA a1 i10 j11 = some r) ?_ ?_
    · clear hO hN h0
      rintro T H ⟨aA, j11, hT, hO, hN, h0⟩
      refine aZ hT ?_
      clear hT
      unfold eE at h0
      refine aN ?_
      refine aR aC 3 [] [(65, (aE (decide (j11 < i10))))] ?_
      refine bE h0 (fun h0 => ?_) (fun h0 => ?_)
      · refine aN ?_
        refine eM (eK []) aC 16 ?_
        obtain ⟨c6, h0⟩ := aS h0
        refine bZ 7 [0 ≤ a1 ∧ a1 < (lN aA)] ⟨c6, trivial⟩ ?_
        refine fL 0 lo0p 1 (0 + Int.toNat a1) (eI (gD aA a1)) (eI (gD aA a1)) (List.map (eI) aA) hO (bR c6) ?_
        obtain ⟨c7, h0⟩ := aS h0
        refine bZ 11 [0 ≤ j11 ∧ j11 < (lN aA)] ⟨c7, trivial⟩ ?_
        refine fL 0 lo0p 1 (0 + Int.toNat j11) (eI (gD aA j11)) (eI (gD aA j11)) (List.map (eI) aA) hO (bR c7) ?_
        obtain ⟨c8, h0⟩ := aS h0
        refine bZ 13 [0 ≤ j11 ∧ j11 < (lN aA)] ⟨c8, trivial⟩ ?_
        refine kB 0 lo0p 1 (0 + Int.toNat j11) (eI (gD aA j11)) (eI (gD aA a1)) (List.map (eI) aA) [(lo0p, 1, List.map (eI) (List.set aA (Int.toNat j11) (gD aA a1)))] hO (bR c8) (by simp only [List.set, gE]) ?_
        intro H hO
        replace hN : List.length (List.set aA (Int.toNat j11) (gD aA a1)) = N0 := by simpa using hN
        obtain ⟨c9, h0⟩ := aS h0
        refine bZ 15 [0 ≤ a1 ∧ a1 < (lN aA)] ⟨c9, trivial⟩ ?_
        refine kB 0 lo0p 1 (0 + Int.toNat a1) (eI (gD (List.set aA (Int.toNat j11) (gD aA a1)) a1)) (eI (gD aA j11)) (List.map (eI) (List.set aA (Int.toNat j11) (gD aA a1))) [(lo0p, 1, List.map (eI) (List.set (List.set aA (Int.toNat j11) (gD aA a1)) (Int.toNat a1) (gD aA j11)))] hO (mK c9 (by simp [])) (by simp only [List.set, gE]) ?_
        intro H hO
        replace hN : List.length (List.set (List.set aA (Int.toNat j11) (gD aA a1)) (Int.toNat a1) (gD aA j11)) = N0 := by simpa using hN
        refine mH (by kernel_rfl) ?_
        refine dA (l := [(0, (.msl 1 lo0p 0 (List.length (List.set (List.set aA (Int.toNat j11) (gD aA a1)) (Int.toNat a1) (gD aA j11))))), (11, (eI j11))]) ⟨[(0, (.msl 1 lo0p 0 (List.length aA))), (11, (eI j11))], by kernel_rfl, rfl, ⟨aO.eq (by simp []), aO.refl _, trivial⟩⟩ ?_
        refine aG (aF (?_))
        refine aR aC 3 [11] [(8, (eI j11)), (9, (aE true))] ?_
        refine bD ?_
        obtain rfl := oI h0
        exact aG (aP (lA (x := (.tup [(eI j11), (aE true)])) (by kernel_rfl) (aO.refl _) ⟨rfl, hO.ext, hO.at 0 (by kernel_rfl), by simp only [List.length_map]; exact hN.trans hN0⟩))
      refine bF ?_
      refine bB [(0, (.msl 1 lo0p 0 (List.length aA))), (1, (eI a1)), (10, (eI i10)), (11, (eI j11))] ?_
      refine aN ?_
      refine eM (eK []) aC 16 ?_
      obtain ⟨c10, h0⟩ := aS h0
      refine bZ 7 [0 ≤ j11 ∧ j11 < (lN aA)] ⟨c10, trivial⟩ ?_
      refine fL 0 lo0p 1 (0 + Int.toNat j11) (eI (gD aA j11)) (eI (gD aA j11)) (List.map (eI) aA) hO (bR c10) ?_
      obtain ⟨c11, h0⟩ := aS h0
      refine bZ 11 [0 ≤ i10 ∧ i10 < (lN aA)] ⟨c11, trivial⟩ ?_
      refine fL 0 lo0p 1 (0 + Int.toNat i10) (eI (gD aA i10)) (eI (gD aA i10)) (List.map (eI) aA) hO (bR c11) ?_
      obtain ⟨c12, h0⟩ := aS h0
      refine bZ 13 [0 ≤ i10 ∧ i10 < (lN aA)] ⟨c12, trivial⟩ ?_
      refine kB 0 lo0p 1 (0 + Int.toNat i10) (eI (gD aA i10)) (eI (gD aA j11)) (List.map (eI) aA) [(lo0p, 1, List.map (eI) (List.set aA (Int.toNat i10) (gD aA j11)))] hO (bR c12) (by simp only [List.set, gE]) ?_
      intro H hO
      replace hN : List.length (List.set aA (Int.toNat i10) (gD aA j11)) = N0 := by simpa using hN
      obtain ⟨c13, h0⟩ := aS h0
      refine bZ 15 [0 ≤ j11 ∧ j11 < (lN aA)] ⟨c13, trivial⟩ ?_
      refine kB 0 lo0p 1 (0 + Int.toNat j11) (eI (gD (List.set aA (Int.toNat i10) (gD aA j11)) j11)) (eI (gD aA i10)) (List.map (eI) (List.set aA (Int.toNat i10) (gD aA j11))) [(lo0p, 1, List.map (eI) (List.set (List.set aA (Int.toNat i10) (gD aA j11)) (Int.toNat j11) (gD aA i10)))] hO (mK c13 (by simp [])) (by simp only [List.set, gE]) ?_
      intro H hO
      replace hN : List.length (List.set (List.set aA (Int.toNat i10) (gD aA j11)) (Int.toNat j11) (gD aA i10)) = N0 := by simpa using hN
      refine mH (by kernel_rfl) ?_
      refine dA (l := [(0, (.msl 1 lo0p 0 (List.length (List.set (List.set aA (Int.toNat i10) (gD aA j11)) (Int.toNat j11) (gD aA i10))))), (1, (eI a1)), (10, (eI i10)), (11, (eI j11))]) ⟨[(0, (.msl 1 lo0p 0 (List.length aA))), (1, (eI a1)), (10, (eI i10)), (11, (eI j11))], by kernel_rfl, rfl, ⟨aO.eq (by simp []), aO.refl _, aO.refl _, aO.refl _, trivial⟩⟩ ?_
      refine aG (aF (?_))
      refine aR aC 3 [10] [(10, (eI (wR (i10 + (1 : Int)))))] ?_
      refine aR aC 3 [11] [(11, (eI (wR (j11 - (1 : Int)))))] ?_
      refine dZ (fun T H => ∃ aA : List Int, ∃ j11 : Int, Has T [(0, (.msl 1 lo0p 0 (List.length aA))), (1, (eI a1)), (11, (eI j11))] ∧ aL ⟨H0, [lo0p], []⟩ H [(lo0p, 1, List.map (eI) aA)] ∧ List.length aA = N0 ∧ iB aA a1 j11 = some r) ?_ ?_
      · clear hO hN h0
        rintro T H ⟨aA, j11, hT, hO, hN, h0⟩
        refine aZ hT ?_
        clear hT
        unfold iB at h0
        refine aN ?_
        refine eM (eK []) aC 16 ?_
        obtain ⟨c14, h0⟩ := aS h0
        refine bZ 7 [0 ≤ a1 ∧ a1 < (lN aA)] ⟨c14, trivial⟩ ?_
        refine fL 0 lo0p 1 (0 + Int.toNat a1) (eI (gD aA a1)) (eI (gD aA a1)) (List.map (eI) aA) hO (bR c14) ?_
        obtain ⟨c15, h0⟩ := aS h0
        refine bZ 11 [0 ≤ j11 ∧ j11 < (lN aA)] ⟨c15, trivial⟩ ?_
        refine fL 0 lo0p 1 (0 + Int.toNat j11) (eI (gD aA j11)) (eI (gD aA j11)) (List.map (eI) aA) hO (bR c15) ?_
        obtain ⟨c16, h0⟩ := aS h0
        refine bZ 13 [0 ≤ j11 ∧ j11 < (lN aA)] ⟨c16, trivial⟩ ?_
        refine kB 0 lo0p 1 (0 + Int.toNat j11) (eI (gD aA j11)) (eI (gD aA a1)) (List.map (eI) aA) [(lo0p, 1, List.map (eI) (List.set aA (Int.toNat j11) (gD aA a1)))] hO (bR c16) (by simp only [List.set, gE]) ?_
        intro H hO
        replace hN : List.length (List.set aA (Int.toNat j11) (gD aA a1)) = N0 := by simpa using hN
        obtain ⟨c17, h0⟩ := aS h0
        refine bZ 15 [0 ≤ a1 ∧ a1 < (lN aA)] ⟨c17, trivial⟩ ?_
        refine kB 0 lo0p 1 (0 + Int.toNat a1) (eI (gD (List.set aA (Int.toNat j11) (gD aA a1)) a1)) (eI (gD aA j11)) (List.map (eI) (List.set aA (Int.toNat j11) (gD aA a1))) [(lo0p, 1, List.map (eI) (List.set (List.set aA (Int.toNat j11) (gD aA a1)) (Int.toNat a1) (gD aA j11)))] hO (mK c17 (by simp [])) (by simp only [List.set, gE]) ?_
        intro H hO
        replace hN : List.length (List.set (List.set aA (Int.toNat j11) (gD aA a1)) (Int.toNat a1) (gD aA j11)) = N0 := by simpa using hN
        refine mH (by kernel_rfl) ?_
        refine dA (l := [(0, (.msl 1 lo0p 0 (List.length (List.set (List.set aA (Int.toNat j11) (gD aA a1)) (Int.toNat a1) (gD aA j11))))), (11, (eI j11))]) ⟨[(0, (.msl 1 lo0p 0 (List.length aA))), (11, (eI j11))], by kernel_rfl, rfl, ⟨aO.eq (by simp []), aO.refl _, trivial⟩⟩ ?_
        refine aG (aF (?_))
        refine aR aC 3 [11] [(8, (eI j11)), (9, (aE false))] ?_
        refine bD ?_
        obtain rfl := oI h0
        exact aG (lA (x := (.tup [(eI j11), (aE false)])) (by kernel_rfl) (aO.refl _) ⟨rfl, hO.ext, hO.at 0 (by kernel_rfl), by simp only [List.length_map]; exact hN.trans hN0⟩)
      refine bX 4 ?_
      refine fG [(0, (.msl 1 lo0p 0 (List.length (List.set (List.set aA (Int.toNat i10) (gD aA j11)) (Int.toNat j11) (gD aA i10))))), (1, (eI a1)), (10, (eI (wR (i10 + (1 : Int))))), (11, (eI (wR (j11 - (1 : Int)))))] ?_
      refine dS (fun T H => ∃ aA : List Int, ∃ i10 : Int, ∃ j11 : Int, Has T [(0, (.msl 1 lo0p 0 (List.length aA))), (1, (eI a1)), (10, (eI i10)), (11, (eI j11))] ∧ aL ⟨H0, [lo0p], []⟩ H [(lo0p, 1, List.map (eI) aA)] ∧ List.length aA = N0 ∧ jU aA a1 i10 j11 = some r) ?_ ⟨List.set (List.set aA (Int.toNat i10) (gD aA j11)) (Int.toNat j11) (gD aA i10), wR (i10 + (1 : Int)), wR (j11 - (1 : Int)), .eq (by kernel_rfl), hO, hN, h0⟩
      clear hO hN h0
      rintro T H ⟨aA, i10, j11, hT, hO, hN, h0⟩
      refine aZ hT ?_
      clear hT
      unfold jU at h0
      obtain ⟨rr0, hl0, h0⟩ := aV h0
      refine cQ (by kernel_rfl) (fun (s : List Int × Int × Int) T H => Has T [(0, (.msl 1 lo0p 0 (List.length s.1))), (1, (eI a1)), (10, (eI s.2.1)), (11, (eI s.2.2))] ∧ aL ⟨H0, [lo0p], []⟩ H [(lo0p, 1, List.map (eI) s.1)] ∧ List.length s.1 = N0) hl0 ⟨.eq (by kernel_rfl), hO, hN⟩ ?_
      clear hO hN
      rintro k0 s out1 T H ⟨hT, hO, hN⟩ h1 ho0
      obtain ⟨aA, i10, j11⟩ := s
      replace h1 : dH a1 aA i10 j11 = some out1 := h1
      try dsimp only at hT
      refine aZ hT ?_
      clear hT
      unfold dH at h1
      refine bX 5 ?_
      refine dZ (fun T H => ∃ aA : List Int, ∃ i10 : Int, Has T [(0, (.msl 1 lo0p 0 (List.length aA))), (1, (eI a1)), (10, (eI i10)), (11, (eI j11))] ∧ aL ⟨H0, [lo0p], []⟩ H [(lo0p, 1, List.map (eI) aA)] ∧ List.length aA = N0 ∧ hU aA a1 i10 j11 = some out1) ?_ ?_
      · clear hO hN h1
        rintro T H ⟨aA, i10, hT, hO, hN, h1⟩
        refine aZ hT ?_
        clear hT
        unfold hU at h1
        refine dZ (fun T H => ∃ aA : List Int, ∃ j11 : Int, Has T [(0, (.msl 1 lo0p 0 (List.length aA))), (1, (eI a1)), (10, (eI i10)), (11, (eI j11))] ∧ aL ⟨H0, [lo0p], []⟩ H [(lo0p, 1, List.map (eI) aA)] ∧ List.length aA = N0 ∧ eJ aA a1 i10 j11 = some out1) ?_ ?_
        · clear hO hN h1
          rintro T H ⟨aA, j11, hT, hO, hN, h1⟩
          refine aZ hT ?_
          clear hT
          unfold eJ at h1
          refine aN ?_
          refine aR aC 3 [] [(134, (aE (decide (j11 < i10))))] ?_
          refine bE h1 (fun h1 => ?_) (fun h1 => ?_)
          · refine fB 4 ?_
            obtain rfl := oI h1
            obtain rfl : _ = rr0 := ho0
            replace h0 : iB aA a1 j11 = some r := h0
            exact aG (aT (uA (by kernel_rfl) (aT (bO (aF (⟨rfl, _, _, .eq (by kernel_rfl), hO, hN, h0⟩))))))
          refine bF ?_
          refine bB [(0, (.msl 1 lo0p 0 (List.length aA))), (1, (eI a1)), (10, (eI i10)), (11, (eI j11))] ?_
          refine aN ?_
          refine eM (eK []) aC 16 ?_
          obtain ⟨c19, h1⟩ := aS h1
          refine bZ 7 [0 ≤ j11 ∧ j11 < (lN aA)] ⟨c19, trivial⟩ ?_
          refine fL 0 lo0p 1 (0 + Int.toNat j11) (eI (gD aA j11)) (eI (gD aA j11)) (List.map (eI) aA) hO (bR c19) ?_
          obtain ⟨c20, h1⟩ := aS h1
          refine bZ 11 [0 ≤ i10 ∧ i10 < (lN aA)] ⟨c20, trivial⟩ ?_
          refine fL 0 lo0p 1 (0 + Int.toNat i10) (eI (gD aA i10)) (eI (gD aA i10)) (List.map (eI) aA) hO (bR c20) ?_
          obtain ⟨c21, h1⟩ := aS h1
          refine bZ 13 [0 ≤ i10 ∧ i10 < (lN aA)] ⟨c21, trivial⟩ ?_
          refine kB 0 lo0p 1 (0 + Int.toNat i10) (eI (gD aA i10)) (eI (gD aA j11)) (List.map (eI) aA) [(lo0p, 1, List.map (eI) (List.set aA (Int.toNat i10) (gD aA j11)))] hO (bR c21) (by simp only [List.set, gE]) ?_
          intro H hO
          replace hN : List.length (List.set aA (Int.toNat i10) (gD aA j11)) = N0 := by simpa using hN
          obtain ⟨c22, h1⟩ := aS h1
          refine bZ 15 [0 ≤ j11 ∧ j11 < (lN aA)] ⟨c22, trivial⟩ ?_
          refine kB 0 lo0p 1 (0 + Int.toNat j11) (eI (gD (List.set aA (Int.toNat i10) (gD aA j11)) j11)) (eI (gD aA i10)) (List.map (eI) (List.set aA (Int.toNat i10) (gD aA j11))) [(lo0p, 1, List.map (eI) (List.set (List.set aA (Int.toNat i10) (gD aA j11)) (Int.toNat j11) (gD aA i10)))] hO (mK c22 (by simp [])) (by simp only [List.set, gE]) ?_
          intro H hO
          replace hN : List.length (List.set (List.set aA (Int.toNat i10) (gD aA j11)) (Int.toNat j11) (gD aA i10)) = N0 := by simpa using hN
          refine mH (by kernel_rfl) ?_
          refine dA (l := [(0, (.msl 1 lo0p 0 (List.length (List.set (List.set aA (Int.toNat i10) (gD aA j11)) (Int.toNat j11) (gD aA i10))))), (1, (eI a1)), (10, (eI i10)), (11, (eI j11))]) ⟨[(0, (.msl 1 lo0p 0 (List.length aA))), (1, (eI a1)), (10, (eI i10)), (11, (eI j11))], by kernel_rfl, rfl, ⟨aO.eq (by simp []), aO.refl _, aO.refl _, aO.refl _, trivial⟩⟩ ?_
          refine aG (aF (?_))
          refine aR aC 3 [10] [(10, (eI (wR (i10 + (1 : Int)))))] ?_
          refine aU aC 3 ?_
          refine bA ?_
          exact aG (aW (aF (⟨rfl, _, (oI h1).symm, .eq (by kernel_rfl), hO, hN⟩)))
        refine bX 8 ?_
        refine fG [(0, (.msl 1 lo0p 0 (List.length aA))), (1, (eI a1)), (10, (eI i10)), (11, (eI j11))] ?_
        refine dS (fun T H => ∃ aA : List Int, ∃ j11 : Int, Has T [(0, (.msl 1 lo0p 0 (List.length aA))), (1, (eI a1)), (10, (eI i10)), (11, (eI j11))] ∧ aL ⟨H0, [lo0p], []⟩ H [(lo0p, 1, List.map (eI) aA)] ∧ List.length aA = N0 ∧ kA aA a1 i10 j11 = some out1) ?_ ⟨aA, j11, .eq (by kernel_rfl), hO, hN, h1⟩
        clear hO hN h1
        rintro T H ⟨aA, j11, hT, hO, hN, h1⟩
        refine aZ hT ?_
        clear hT
        unfold kA at h1
        obtain ⟨rr1, hl1, h1⟩ := aV h1
        refine cQ (by kernel_rfl) (fun (s : List Int × Int) T H => Has T [(0, (.msl 1 lo0p 0 (List.length s.1))), (1, (eI a1)), (10, (eI i10)), (11, (eI s.2))] ∧ aL ⟨H0, [lo0p], []⟩ H [(lo0p, 1, List.map (eI) s.1)] ∧ List.length s.1 = N0) hl1 ⟨.eq (by kernel_rfl), hO, hN⟩ ?_
        clear hO hN
        rintro k1 s out2 T H ⟨hT, hO, hN⟩ h2 ho1
        obtain ⟨aA, j11⟩ := s
        replace h2 : eN a1 i10 aA j11 = some out2 := h2
        try dsimp only at hT
        refine aZ hT ?_
        clear hT
        unfold eN at h2
        refine aN ?_
        refine aN ?_
        obtain ⟨c23, h2⟩ := aS h2
        obtain ⟨c24, h2⟩ := aS h2
        obtain ⟨x25, hx26, h2⟩ := aV h2
        refine eM (eK []) aC 15 ?_
        refine mW (K := fun T H => Has (lift T) [(0, (.msl 1 lo0p 0 (List.length aA))), (1, (eI a1)), (10, (eI i10)), (11, (eI j11)), (129, (aE ((decide (i10 ≤ j11)) && (!x25))))] ∧ aL ⟨H0, [lo0p], []⟩ H [(lo0p, 1, List.map (eI) aA)]) ?_ ?_
        · refine kP 4 ?_
          refine lG (t := 118) (e := decide (i10 ≤ j11)) (by kernel_rfl) (fun hg27 => ?_) (fun hg27 => ?_)
          · refine bZ 7 [0 ≤ j11 ∧ j11 < (lN aA)] ⟨(c23 hg27), trivial⟩ ?_
            refine gZ 0 lo0p 1 (0 + Int.toNat j11) (eI (gD aA j11)) (eI (gD aA j11)) (List.map (eI) aA) (by kernel_rfl) (by kernel_rfl) (by kernel_rfl) hO (by kernel_rfl) (bR (c23 hg27)) ?_
            refine bZ 11 [0 ≤ a1 ∧ a1 < (lN aA)] ⟨(c24 hg27), trivial⟩ ?_
            refine gZ 0 lo0p 1 (0 + Int.toNat a1) (eI (gD aA a1)) (eI (gD aA a1)) (List.map (eI) aA) (by kernel_rfl) (by kernel_rfl) (by kernel_rfl) hO (by kernel_rfl) (bR (c24 hg27)) ?_
            refine mL 70 [(eI (gD aA j11)), (eI (gD aA a1))] (aE x25) (by kernel_rfl) (by kernel_rfl) (fE (gD aA j11) (gD aA a1) _ (jJ hx26 hg27)) hO ?_
            intro H hO
            refine iH ?_
            exact ⟨⟨[(0, (.msl 1 lo0p 0 (List.length aA))), (1, (eI a1)), (10, (eI i10)), (11, (eI j11)), (129, (aE (!x25)))], by kernel_rfl, rfl, ⟨aO.refl _, aO.refl _, aO.refl _, aO.refl _, aO.eq (congrArg aE (jA hg27 rfl).symm), trivial⟩⟩, hO⟩
          refine iH ?_
          exact ⟨⟨[(0, (.msl 1 lo0p 0 (List.length aA))), (1, (eI a1)), (10, (eI i10)), (11, (eI j11)), (129, (aE false))], by kernel_rfl, rfl, ⟨aO.refl _, aO.refl _, aO.refl _, aO.refl _, aO.eq (congrArg aE (jA hg27 rfl).symm), trivial⟩⟩, hO⟩
        · rintro T H ⟨hT, hO⟩
          refine dA hT ?_
          clear hT
          refine aG (aF ?_)
          refine bE h2 (fun h2 => ?_) (fun h2 => ?_)
          · refine bF ?_
            refine bB [(0, (.msl 1 lo0p 0 (List.length aA))), (1, (eI a1)), (10, (eI i10)), (11, (eI j11))] ?_
            refine bX 9 ?_
            refine aU aC 3 ?_
            refine bA ?_
            exact aG (aW (aF (⟨rfl, _, (oI h2).symm, .eq (by kernel_rfl), hO, hN⟩)))
          refine fB 8 ?_
          obtain rfl := oI h2
          obtain rfl : _ = rr1 := ho1
          replace h1 : eJ aA a1 i10 j11 = some out1 := h1
          exact aG (aT (aT (bO (aF (⟨rfl, _, _, .eq (by kernel_rfl), hO, hN, h1⟩)))))
      refine bX 6 ?_
      refine fG [(0, (.msl 1 lo0p 0 (List.length aA))), (1, (eI a1)), (10, (eI i10)), (11, (eI j11))] ?_
      refine dS (fun T H => ∃ aA : List Int, ∃ i10 : Int, Has T [(0, (.msl 1 lo0p 0 (List.length aA))), (1, (eI a1)), (10, (eI i10)), (11, (eI j11))] ∧ aL ⟨H0, [lo0p], []⟩ H [(lo0p, 1, List.map (eI) aA)] ∧ List.length aA = N0 ∧ jZ aA a1 i10 j11 = some out1) ?_ ⟨aA, i10, .eq (by kernel_rfl), hO, hN, h1⟩
      clear hO hN h1
      rintro T H ⟨aA, i10, hT, hO, hN, h1⟩
      refine aZ hT ?_
      clear hT
      unfold jZ at h1
      obtain ⟨rr1, hl1, h1⟩ := aV h1
      refine cQ (by kernel_rfl) (fun (s : List Int × Int) T H => Has T [(0, (.msl 1 lo0p 0 (List.length s.1))), (1, (eI a1)), (10, (eI s.2)), (11, (eI j11))] ∧ aL ⟨H0, [lo0p], []⟩ H [(lo0p, 1, List.map (eI) s.1)] ∧ List.length s.1 = N0) hl1 ⟨.eq (by kernel_rfl), hO, hN⟩ ?_
      clear hO hN
      rintro k1 s out2 T H ⟨hT, hO, hN⟩ h2 ho1
      obtain ⟨aA, i10⟩ := s
      replace h2 : eF a1 j11 aA i10 = some out2 := h2
      try dsimp only at hT
      refine aZ hT ?_
      clear hT
      unfold eF at h2
      refine aN ?_
      refine aN ?_
      obtain ⟨c29, h2⟩ := aS h2
      obtain ⟨c30, h2⟩ := aS h2
      obtain ⟨x31, hx32, h2⟩ := aV h2
      refine eM (eK []) aC 14 ?_
      refine mW (K := fun T H => Has (lift T) [(0, (.msl 1 lo0p 0 (List.length aA))), (1, (eI a1)), (10, (eI i10)), (11, (eI j11)), (112, (aE ((decide (i10 ≤ j11)) && x31)))] ∧ aL ⟨H0, [lo0p], []⟩ H [(lo0p, 1, List.map (eI) aA)]) ?_ ?_
      · refine kP 4 ?_
        refine lG (t := 102) (e := decide (i10 ≤ j11)) (by kernel_rfl) (fun hg33 => ?_) (fun hg33 => ?_)
        · refine bZ 7 [0 ≤ i10 ∧ i10 < (lN aA)] ⟨(c29 hg33), trivial⟩ ?_
          refine gZ 0 lo0p 1 (0 + Int.toNat i10) (eI (gD aA i10)) (eI (gD aA i10)) (List.map (eI) aA) (by kernel_rfl) (by kernel_rfl) (by kernel_rfl) hO (by kernel_rfl) (bR (c29 hg33)) ?_
          refine bZ 11 [0 ≤ a1 ∧ a1 < (lN aA)] ⟨(c30 hg33), trivial⟩ ?_
          refine gZ 0 lo0p 1 (0 + Int.toNat a1) (eI (gD aA a1)) (eI (gD aA a1)) (List.map (eI) aA) (by kernel_rfl) (by kernel_rfl) (by kernel_rfl) hO (by kernel_rfl) (bR (c30 hg33)) ?_
          refine mL 70 [(eI (gD aA i10)), (eI (gD aA a1))] (aE x31) (by kernel_rfl) (by kernel_rfl) (fE (gD aA i10) (gD aA a1) _ (jJ hx32 hg33)) hO ?_
          intro H hO
          refine iH ?_
          exact ⟨⟨[(0, (.msl 1 lo0p 0 (List.length aA))), (1, (eI a1)), (10, (eI i10)), (11, (eI j11)), (112, (aE x31))], by kernel_rfl, rfl, ⟨aO.refl _, aO.refl _, aO.refl _, aO.refl _, aO.eq (congrArg aE (jA hg33 rfl).symm), trivial⟩⟩, hO⟩
        refine iH ?_
        exact ⟨⟨[(0, (.msl 1 lo0p 0 (List.length aA))), (1, (eI a1)), (10, (eI i10)), (11, (eI j11)), (112, (aE false))], by kernel_rfl, rfl, ⟨aO.refl _, aO.refl _, aO.refl _, aO.refl _, aO.eq (congrArg aE (jA hg33 rfl).symm), trivial⟩⟩, hO⟩
      · rintro T H ⟨hT, hO⟩
        refine dA hT ?_
        clear hT
        refine aG (aF ?_)
        refine bE h2 (fun h2 => ?_) (fun h2 => ?_)
        · refine bF ?_
          refine bB [(0, (.msl 1 lo0p 0 (List.length aA))), (1, (eI a1)), (10, (eI i10)), (11, (eI j11))] ?_
          refine bX 7 ?_
          refine aU aC 3 ?_
          refine bA ?_
          exact aG (aW (aF (⟨rfl, _, (oI h2).symm, .eq (by kernel_rfl), hO, hN⟩)))
        refine fB 6 ?_
        obtain rfl := oI h2
        obtain rfl : _ = rr1 := ho1
        replace h1 : hU aA a1 i10 j11 = some out1 := h1
        exact aG (aT (aT (bO (aF (⟨rfl, _, _, .eq (by kernel_rfl), hO, hN, h1⟩)))))
    refine bX 2 ?_
    refine fG [(0, (.msl 1 lo0p 0 (List.length aA))), (1, (eI a1)), (10, (eI i10)), (11, (eI j11))] ?_
    refine dS (fun T H => ∃ aA : List Int, ∃ j11 : Int, Has T [(0, (.msl 1 lo0p 0 (List.length aA))), (1, (eI a1)), (10, (eI i10)), (11, (eI j11))] ∧ aL ⟨H0, [lo0p], []⟩ H [(lo0p, 1, List.map (eI) aA)] ∧ List.length aA = N0 ∧ jW aA a1 i10 j11 = some r) ?_ ⟨aA, j11, .eq (by kernel_rfl), hO, hN, h0⟩
    clear hO hN h0
    rintro T H ⟨aA, j11, hT, hO, hN, h0⟩
    refine aZ hT ?_
    clear hT
    unfold jW at h0
    obtain ⟨rr0, hl0, h0⟩ := aV h0
    refine cQ (by kernel_rfl) (fun (s : List Int × Int) T H => Has T [(0, (.msl 1 lo0p 0 (List.length s.1))), (1, (eI a1)), (10, (eI i10)), (11, (eI s.2))] ∧ aL ⟨H0, [lo0p], []⟩ H [(lo0p, 1, List.map (eI) s.1)] ∧ List.length s.1 = N0) hl0 ⟨.eq (by kernel_rfl), hO, hN⟩ ?_
    clear hO hN
    rintro k0 s out1 T H ⟨hT, hO, hN⟩ h1 ho0
    obtain ⟨aA, j11⟩ := s
    replace h1 : eG a1 i10 aA j11 = some out1 := h1
    try dsimp only at hT
    refine aZ hT ?_
    clear hT
    unfold eG at h1
    refine aN ?_
    refine aN ?_
    obtain ⟨c35, h1⟩ := aS h1
    obtain ⟨c36, h1⟩ := aS h1
    obtain ⟨x37, hx38, h1⟩ := aV h1
    refine eM (eK []) aC 15 ?_
    refine mW (K := fun T H => Has (lift T) [(0, (.msl 1 lo0p 0 (List.length aA))), (1, (eI a1)), (10, (eI i10)), (11, (eI j11)), (60, (aE ((decide (i10 ≤ j11)) && (!x37))))] ∧ aL ⟨H0, [lo0p], []⟩ H [(lo0p, 1, List.map (eI) aA)]) ?_ ?_
    · refine kP 4 ?_
      refine lG (t := 49) (e := decide (i10 ≤ j11)) (by kernel_rfl) (fun hg39 => ?_) (fun hg39 => ?_)
      · refine bZ 7 [0 ≤ j11 ∧ j11 < (lN aA)] ⟨(c35 hg39), trivial⟩ ?_
        refine gZ 0 lo0p 1 (0 + Int.toNat j11) (eI (gD aA j11)) (eI (gD aA j11)) (List.map (eI) aA) (by kernel_rfl) (by kernel_rfl) (by kernel_rfl) hO (by kernel_rfl) (bR (c35 hg39)) ?_
        refine bZ 11 [0 ≤ a1 ∧ a1 < (lN aA)] ⟨(c36 hg39), trivial⟩ ?_
        refine gZ 0 lo0p 1 (0 + Int.toNat a1) (eI (gD aA a1)) (eI (gD aA a1)) (List.map (eI) aA) (by kernel_rfl) (by kernel_rfl) (by kernel_rfl) hO (by kernel_rfl) (bR (c36 hg39)) ?_
        refine mL 70 [(eI (gD aA j11)), (eI (gD aA a1))] (aE x37) (by kernel_rfl) (by kernel_rfl) (fE (gD aA j11) (gD aA a1) _ (jJ hx38 hg39)) hO ?_
        intro H hO
        refine iH ?_
        exact ⟨⟨[(0, (.msl 1 lo0p 0 (List.length aA))), (1, (eI a1)), (10, (eI i10)), (11, (eI j11)), (60, (aE (!x37)))], by kernel_rfl, rfl, ⟨aO.refl _, aO.refl _, aO.refl _, aO.refl _, aO.eq (congrArg aE (jA hg39 rfl).symm), trivial⟩⟩, hO⟩
      refine iH ?_
      exact ⟨⟨[(0, (.msl 1 lo0p 0 (List.length aA))), (1, (eI a1)), (10, (eI i10)), (11, (eI j11)), (60, (aE false))], by kernel_rfl, rfl, ⟨aO.refl _, aO.refl _, aO.refl _, aO.refl _, aO.eq (congrArg aE (jA hg39 rfl).symm), trivial⟩⟩, hO⟩
    · rintro T H ⟨hT, hO⟩
      refine dA hT ?_
      clear hT
      refine aG (aF ?_)
      refine bE h1 (fun h1 => ?_) (fun h1 => ?_)
      · refine bF ?_
        refine bB [(0, (.msl 1 lo0p 0 (List.length aA))), (1, (eI a1)), (10, (eI i10)), (11, (eI j11))] ?_
        refine bX 3 ?_
        refine aU aC 3 ?_
        refine bA ?_
        exact aG (aW (aF (⟨rfl, _, (oI h1).symm, .eq (by kernel_rfl), hO, hN⟩)))
      refine fB 2 ?_
      obtain rfl := oI h1
      obtain rfl : _ = rr0 := ho0
      replace h0 : eE aA a1 i10 j11 = some r := h0
      exact aG (aT (aT (bO (aF (⟨rfl, _, _, .eq (by kernel_rfl), hO, hN, h0⟩)))))
  refine bX 0 ?_
  refine fG [(0, (.msl 1 lo0p 0 (List.length (List.set (List.set aA (Int.toNat a1) (gD aA cF)) (Int.toNat cF) (gD aA a1))))), (1, (eI a1)), (10, (eI (wR (a1 + (1 : Int))))), (11, (eI (wR (b2 - (1 : Int)))))] ?_
  refine dS (fun T H => ∃ aA : List Int, ∃ i10 : Int, ∃ j11 : Int, Has T [(0, (.msl 1 lo0p 0 (List.length aA))), (1, (eI a1)), (10, (eI i10)), (11, (eI j11))] ∧ aL ⟨H0, [lo0p], []⟩ H [(lo0p, 1, List.map (eI) aA)] ∧ List.length aA = N0 ∧ fH aA a1 i10 j11 = some r) ?_ ⟨List.set (List.set aA (Int.toNat a1) (gD aA cF)) (Int.toNat cF) (gD aA a1), wR (a1 + (1 : Int)), wR (b2 - (1 : Int)), .eq (by kernel_rfl), hO, hN, h0⟩
  clear hO hN h0
  rintro T H ⟨aA, i10, j11, hT, hO, hN, h0⟩
  refine aZ hT ?_
  clear hT
  unfold fH at h0
  obtain ⟨rr0, hl0, h0⟩ := aV h0
  refine cQ (by kernel_rfl) (fun (s : List Int × Int) T H => Has T [(0, (.msl 1 lo0p 0 (List.length s.1))), (1, (eI a1)), (10, (eI s.2)), (11, (eI j11))] ∧ aL ⟨H0, [lo0p], []⟩ H [(lo0p, 1, List.map (eI) s.1)] ∧ List.length s.1 = N0) hl0 ⟨.eq (by kernel_rfl), hO, hN⟩ ?_
  clear hO hN
  rintro k0 s out1 T H ⟨hT, hO, hN⟩ h1 ho0
  obtain ⟨aA, i10⟩ := s
  replace h1 : eB a1 j11 aA i10 = some out1 := h1
  try dsimp only at hT
  refine aZ hT ?_
  clear hT
  unfold eB at h1
  refine aN ?_
  refine aN ?_
  obtain ⟨c41, h1⟩ := aS h1
  obtain ⟨c42, h1⟩ := aS h1
  obtain ⟨x43, hx44, h1⟩ := aV h1
  refine eM (eK []) aC 14 ?_
  refine mW (K := fun T H => Has (lift T) [(0, (.msl 1 lo0p 0 (List.length aA))), (1, (eI a1)), (10, (eI i10)), (11, (eI j11)), (43, (aE ((decide (i10 ≤ j11)) && x43)))] ∧ aL ⟨H0, [lo0p], []⟩ H [(lo0p, 1, List.map (eI) aA)]) ?_ ?_
  · refine kP 4 ?_
    refine lG (t := 33) (e := decide (i10 ≤ j11)) (by kernel_rfl) (fun hg45 => ?_) (fun hg45 => ?_)
    · refine bZ 7 [0 ≤ i10 ∧ i10 < (lN aA)] ⟨(c41 hg45), trivial⟩ ?_
      refine gZ 0 lo0p 1 (0 + Int.toNat i10) (eI (gD aA i10)) (eI (gD aA i10)) (List.map (eI) aA) (by kernel_rfl) (by kernel_rfl) (by kernel_rfl) hO (by kernel_rfl) (bR (c41 hg45)) ?_
      refine bZ 11 [0 ≤ a1 ∧ a1 < (lN aA)] ⟨(c42 hg45), trivial⟩ ?_
      refine gZ 0 lo0p 1 (0 + Int.toNat a1) (eI (gD aA a1)) (eI (gD aA a1)) (List.map (eI) aA) (by kernel_rfl) (by kernel_rfl) (by kernel_rfl) hO (by kernel_rfl) (bR (c42 hg45)) ?_
      refine mL 70 [(eI (gD aA i10)), (eI (gD aA a1))] (aE x43) (by kernel_rfl) (by kernel_rfl) (fE (gD aA i10) (gD aA a1) _ (jJ hx44 hg45)) hO ?_
      intro H hO
      refine iH ?_
      exact ⟨⟨[(0, (.msl 1 lo0p 0 (List.length aA))), (1, (eI a1)), (10, (eI i10)), (11, (eI j11)), (43, (aE x43))], by kernel_rfl, rfl, ⟨aO.refl _, aO.refl _, aO.refl _, aO.refl _, aO.eq (congrArg aE (jA hg45 rfl).symm), trivial⟩⟩, hO⟩
    refine iH ?_
    exact ⟨⟨[(0, (.msl 1 lo0p 0 (List.length aA))), (1, (eI a1)), (10, (eI i10)), (11, (eI j11)), (43, (aE false))], by kernel_rfl, rfl, ⟨aO.refl _, aO.refl _, aO.refl _, aO.refl _, aO.eq (congrArg aE (jA hg45 rfl).symm), trivial⟩⟩, hO⟩
  · rintro T H ⟨hT, hO⟩
    refine dA hT ?_
    clear hT
    refine aG (aF ?_)
    refine bE h1 (fun h1 => ?_) (fun h1 => ?_)
    · refine bF ?_
      refine bB [(0, (.msl 1 lo0p 0 (List.length aA))), (1, (eI a1)), (10, (eI i10)), (11, (eI j11))] ?_
      refine bX 1 ?_
      refine aU aC 3 ?_
      refine bA ?_
      exact aG (aW (aF (⟨rfl, _, (oI h1).symm, .eq (by kernel_rfl), hO, hN⟩)))
    refine fB 0 ?_
    obtain rfl := oI h1
    obtain rfl : _ = rr0 := ho0
    replace h0 : iA aA a1 i10 j11 = some r := h0
    exact aG (aT (aT (bO (aF (⟨rfl, _, _, _, .eq (by kernel_rfl), hO, hN, h0⟩)))))

theorem uL  (rec : (List Int) → Int → Int → Int → Option (List Int)) (ih : ∀ (lo0p : Nat) (aA : (List Int)) (a1 : Int) (b2 : Int) (bY : Int) (r : List Int), rec aA a1 b2 bY = some r → mU Try.prog 60 lo0p 1 (List.map (eI) aA) (List.map (eI) r) [(.msl 1 lo0p 0 (List.length aA)), (eI a1), (eI b2), (eI bY)] (.tup [])) (lo0p : Nat) (aA : (List Int)) (a1 : Int) (b2 : Int) (bY : Int) (r : List Int) (h0 : fO rec aA a1 b2 bY = some r) : mU Try.prog 60 lo0p 1 (List.map (eI) aA) (List.map (eI) r) [(.msl 1 lo0p 0 (List.length aA)), (eI a1), (eI b2), (eI bY)] (.tup []) := by
  intro H0 hl0
  refine cZ Try.func60 ?_
  have hO := aL.rC hl0
  clear hl0
  obtain ⟨N0, hN0⟩ : ∃ n, n = List.length aA := ⟨_, rfl⟩
  have hN : List.length aA = N0 := hN0.symm
  unfold fO at h0
  refine aR aC 1 [] [(8, (aE true))] ?_
  refine aR aC 1 [] [(9, (aE true))] ?_
  refine bX 0 ?_
  refine fG [(0, (.msl 1 lo0p 0 (List.length aA))), (1, (eI a1)), (2, (eI b2)), (3, (eI bY)), (8, (aE true)), (9, (aE true))] ?_
  refine dS (fun T H => ∃ aA : List Int, ∃ a1 : Int, ∃ b2 : Int, ∃ bY : Int, ∃ bT : Bool, ∃ bL : Bool, Has T [(0, (.msl 1 lo0p 0 (List.length aA))), (1, (eI a1)), (2, (eI b2)), (3, (eI bY)), (8, (aE bT)), (9, (aE bL))] ∧ aL ⟨H0, [lo0p], []⟩ H [(lo0p, 1, List.map (eI) aA)] ∧ List.length aA = N0 ∧ kN rec aA a1 b2 bY bT bL = some r) ?_ ⟨aA, a1, b2, bY, true, true, .eq (by kernel_rfl), hO, hN, h0⟩
  clear hO hN h0
  rintro T H ⟨aA, a1, b2, bY, bT, bL, hT, hO, hN, h0⟩
  refine aZ hT ?_
  clear hT
  unfold kN at h0
  obtain ⟨rr0, hl0, h0⟩ := aV h0
  refine cQ (by kernel_rfl) (fun (s : List Int × Int × Int × Int × Bool × Bool) T H => Has T [(0, (.msl 1 lo0p 0 (List.length s.1))), (1, (eI s.2.1)), (2, (eI s.2.2.1)), (3, (eI s.2.2.2.1)), (8, (aE s.2.2.2.2.1)), (9, (aE s.2.2.2.2.2))] ∧ aL ⟨H0, [lo0p], []⟩ H [(lo0p, 1, List.map (eI) s.1)] ∧ List.length s.1 = N0) hl0 ⟨.eq (by kernel_rfl), hO, hN⟩ ?_
  clear hO hN
  rintro k0 s out1 T H ⟨hT, hO, hN⟩ h1 ho0
  obtain ⟨aA, a1, b2, bY, bT, bL⟩ := s
  replace h1 : eA rec aA a1 b2 bY bT bL = some out1 := h1
  try dsimp only at hT
  refine aZ hT ?_
  clear hT
  unfold eA at h1
  refine bX 1 ?_
  refine aR aC 4 [] [(10, (eI (wR (b2 - a1))))] ?_
  refine aN ?_
  refine aR aC 2 [] [(23, (aE (decide ((wR (b2 - a1)) ≤ (12 : Int)))))] ?_
  refine bE h1 (fun h1 => ?_) (fun h1 => ?_)
  · refine aN ?_
    refine aU aC 4 ?_
    refine bS 3 ?_
    obtain ⟨x2, hx3, h1⟩ := aV h1
    refine wA [(lo0p, 1, List.map (eI) x2)] 0 (tY lo0p aA a1 b2 _ hx3) hO ?_
    intro H hO hl4
    simp only [List.length_map] at hl4
    replace hN := hl4.trans hN
    refine iF ?_
    refine dA (l := [(0, (.msl 1 lo0p 0 (List.length x2)))]) ⟨[(0, (.msl 1 lo0p 0 (List.length aA)))], by kernel_rfl, rfl, ⟨aO.eq (by simp [hl4]), trivial⟩⟩ ?_
    refine aG (aF (?_))
    refine bD ?_
    obtain rfl := oI h1
    obtain rfl : _ = rr0 := ho0
    replace h0 : some x2 = some r := h0
    obtain rfl := oI h0
    exact aG (aP (bI (aP (bI (lA (x := (.tup [])) (by kernel_rfl) (aO.refl _) ⟨rfl, hO.ext, hO.at 0 (by kernel_rfl), by simp only [List.length_map]; exact hN.trans hN0⟩)))))
  refine bF ?_
  refine bB [(0, (.msl 1 lo0p 0 (List.length aA))), (1, (eI a1)), (2, (eI b2)), (3, (eI bY)), (8, (aE bT)), (9, (aE bL)), (10, (eI (wR (b2 - a1))))] ?_
  refine aN ?_
  refine aR aC 2 [] [(29, (aE (decide (bY = (0 : Int)))))] ?_
  refine bE h1 (fun h1 => ?_) (fun h1 => ?_)
  · refine aN ?_
    refine aU aC 4 ?_
    refine bS 3 ?_
    obtain ⟨x6, hx7, h1⟩ := aV h1
    refine wA [(lo0p, 1, List.map (eI) x6)] 0 (wD lo0p aA a1 b2 _ hx7) hO ?_
    intro H hO hl8
    simp only [List.length_map] at hl8
    replace hN := hl8.trans hN
    refine iF ?_
    refine dA (l := [(0, (.msl 1 lo0p 0 (List.length x6)))]) ⟨[(0, (.msl 1 lo0p 0 (List.length aA)))], by kernel_rfl, rfl, ⟨aO.eq (by simp [hl8]), trivial⟩⟩ ?_
    refine aG (aF (?_))
    refine bD ?_
    obtain rfl := oI h1
    obtain rfl : _ = rr0 := ho0
    replace h0 : some x6 = some r := h0
    obtain rfl := oI h0
    exact aG (aP (bI (aP (bI (lA (x := (.tup [])) (by kernel_rfl) (aO.refl _) ⟨rfl, hO.ext, hO.at 0 (by kernel_rfl), by simp only [List.length_map]; exact hN.trans hN0⟩)))))
  refine bF ?_
  refine bB [(0, (.msl 1 lo0p 0 (List.length aA))), (1, (eI a1)), (2, (eI b2)), (3, (eI bY)), (8, (aE bT)), (9, (aE bL)), (10, (eI (wR (b2 - a1))))] ?_
  refine dZ (fun T H => ∃ aA : List Int, ∃ bY : Int, ∃ dO : Int, Has T [(0, (.msl 1 lo0p 0 (List.length aA))), (1, (eI a1)), (2, (eI b2)), (3, (eI bY)), (8, (aE bT)), (9, (aE bL)), (10, (eI dO))] ∧ aL ⟨H0, [lo0p], []⟩ H [(lo0p, 1, List.map (eI) aA)] ∧ List.length aA = N0 ∧ gK rec aA a1 b2 bY bT bL dO = some out1) ?_ ?_
  · clear hO hN h1
    rintro T H ⟨aA, bY, dO, hT, hO, hN, h1⟩
    refine aZ hT ?_
    clear hT
    unfold gK at h1
    refine aN ?_
    refine aU aC 9 ?_
    refine bS 3 ?_
    obtain ⟨x9, hx10, h1⟩ := aV h1
    refine zF [] [0] (uV lo0p aA a1 b2 _ hx10) hO ?_
    intro r11 L12 H hP13 hO
    obtain ⟨rfl, rfl⟩ := hP13
    replace hO : aL ⟨H0, [lo0p], []⟩ H [(lo0p, 1, List.map (eI) aA)] := hO
    refine bA ?_
    refine bP [] [(11, (eI x9.1)), (12, (eI x9.2))] ?_
    refine dZ (fun T H => ∃ aA : List Int, ∃ fP : Int, ∃ zT : Int, Has T [(0, (.msl 1 lo0p 0 (List.length aA))), (1, (eI a1)), (2, (eI b2)), (3, (eI bY)), (8, (aE bT)), (9, (aE bL)), (10, (eI dO)), (11, (eI fP)), (12, (eI zT))] ∧ aL ⟨H0, [lo0p], []⟩ H [(lo0p, 1, List.map (eI) aA)] ∧ List.length aA = N0 ∧ gJ rec aA a1 b2 bY bT bL dO fP zT = some out1) ?_ ?_
    · clear hO hN h1
      rintro T H ⟨aA, fP, zT, hT, hO, hN, h1⟩
      refine aZ hT ?_
      clear hT
      unfold gJ at h1
      refine dZ (fun T H => ∃ aA : List Int, Has T [(0, (.msl 1 lo0p 0 (List.length aA))), (1, (eI a1)), (2, (eI b2)), (3, (eI bY)), (8, (aE bT)), (9, (aE bL)), (10, (eI dO)), (11, (eI fP))] ∧ aL ⟨H0, [lo0p], []⟩ H [(lo0p, 1, List.map (eI) aA)] ∧ List.length aA = N0 ∧ gI rec aA a1 b2 bY bT bL dO fP = some out1) ?_ ?_
      · clear hO hN h1
        rintro T H ⟨aA, hT, hO, hN, h1⟩
        refine aZ hT ?_
        clear hT
        unfold gI at h1
        refine aN ?_
        refine aN ?_
        obtain ⟨c14, h1⟩ := aS h1
        obtain ⟨c15, h1⟩ := aS h1
        obtain ⟨x16, hx17, h1⟩ := aV h1
        refine eM (eK []) aC 15 ?_
        refine mW (K := fun T H => Has (lift T) [(0, (.msl 1 lo0p 0 (List.length aA))), (1, (eI a1)), (2, (eI b2)), (3, (eI bY)), (8, (aE bT)), (9, (aE bL)), (10, (eI dO)), (11, (eI fP)), (87, (aE ((decide ((0 : Int) < a1)) && (!x16))))] ∧ aL ⟨H0, [lo0p], []⟩ H [(lo0p, 1, List.map (eI) aA)]) ?_ ?_
        · refine kP 3 ?_
          refine lG (t := 75) (e := decide ((0 : Int) < a1)) (by kernel_rfl) (fun hg18 => ?_) (fun hg18 => ?_)
          · refine bZ 7 [0 ≤ (wR (a1 - (1 : Int))) ∧ (wR (a1 - (1 : Int))) < (lN aA)] ⟨(c14 hg18), trivial⟩ ?_
            refine gZ 0 lo0p 1 (0 + Int.toNat (wR (a1 - (1 : Int)))) (eI (gD aA (wR (a1 - (1 : Int))))) (eI (gD aA (wR (a1 - (1 : Int))))) (List.map (eI) aA) (by kernel_rfl) (by kernel_rfl) (by kernel_rfl) hO (by kernel_rfl) (bR (c14 hg18)) ?_
            refine bZ 11 [0 ≤ fP ∧ fP < (lN aA)] ⟨(c15 hg18), trivial⟩ ?_
            refine gZ 0 lo0p 1 (0 + Int.toNat fP) (eI (gD aA fP)) (eI (gD aA fP)) (List.map (eI) aA) (by kernel_rfl) (by kernel_rfl) (by kernel_rfl) hO (by kernel_rfl) (bR (c15 hg18)) ?_
            refine mL 70 [(eI (gD aA (wR (a1 - (1 : Int))))), (eI (gD aA fP))] (aE x16) (by kernel_rfl) (by kernel_rfl) (fE (gD aA (wR (a1 - (1 : Int)))) (gD aA fP) _ (jJ hx17 hg18)) hO ?_
            intro H hO
            refine iH ?_
            exact ⟨⟨[(0, (.msl 1 lo0p 0 (List.length aA))), (1, (eI a1)), (2, (eI b2)), (3, (eI bY)), (8, (aE bT)), (9, (aE bL)), (10, (eI dO)), (11, (eI fP)), (87, (aE (!x16)))], by kernel_rfl, rfl, ⟨aO.refl _, aO.refl _, aO.refl _, aO.refl _, aO.refl _, aO.refl _, aO.refl _, aO.refl _, aO.eq (congrArg aE (jA hg18 rfl).symm), trivial⟩⟩, hO⟩
          refine iH ?_
          exact ⟨⟨[(0, (.msl 1 lo0p 0 (List.length aA))), (1, (eI a1)), (2, (eI b2)), (3, (eI bY)), (8, (aE bT)), (9, (aE bL)), (10, (eI dO)), (11, (eI fP)), (87, (aE false))], by kernel_rfl, rfl, ⟨aO.refl _, aO.refl _, aO.refl _, aO.refl _, aO.refl _, aO.refl _, aO.refl _, aO.refl _, aO.eq (congrArg aE (jA hg18 rfl).symm), trivial⟩⟩, hO⟩
        · rintro T H ⟨hT, hO⟩
          refine dA hT ?_
          clear hT
          refine aG (aF ?_)
          refine bE h1 (fun h1 => ?_) (fun h1 => ?_)
          · refine aN ?_
            refine aU aC 6 ?_
            refine bS 4 ?_
            obtain ⟨x20, hx21, h1⟩ := aV h1
            refine wA [(lo0p, 1, List.map (eI) x20.2)] 0 (tM lo0p aA a1 b2 fP _ hx21) hO ?_
            intro H hO hl22
            simp only [List.length_map] at hl22
            replace hN := hl22.trans hN
            refine bA ?_
            refine dA (l := [(0, (.msl 1 lo0p 0 (List.length x20.2))), (2, (eI b2)), (3, (eI bY)), (8, (aE bT)), (9, (aE bL)), (13, (eI x20.1))]) ⟨[(0, (.msl 1 lo0p 0 (List.length aA))), (2, (eI b2)), (3, (eI bY)), (8, (aE bT)), (9, (aE bL)), (13, (eI x20.1))], by kernel_rfl, rfl, ⟨aO.eq (by simp [hl22]), aO.refl _, aO.refl _, aO.refl _, aO.refl _, aO.refl _, trivial⟩⟩ ?_
            refine aG (aF (?_))
            refine aR aC 2 [13] [(1, (eI x20.1))] ?_
            refine fB 1 ?_
            exact aG (aT (bO (aF (⟨rfl, _, (oI h1).symm, .eq (by kernel_rfl), hO, hN⟩))))
          refine bF ?_
          refine bB [(0, (.msl 1 lo0p 0 (List.length aA))), (1, (eI a1)), (2, (eI b2)), (3, (eI bY)), (10, (eI dO)), (11, (eI fP))] ?_
          refine aN ?_
          refine aU aC 10 ?_
          refine bS 4 ?_
          obtain ⟨x23, hx24, h1⟩ := aV h1
          refine wA [(lo0p, 1, List.map (eI) x23.2)] 0 (vS lo0p aA a1 b2 fP _ hx24) hO ?_
          intro H hO hl25
          simp only [List.length_map] at hl25
          replace hN := hl25.trans hN
          refine bA ?_
          refine dA (l := [(0, (.msl 1 lo0p 0 (List.length x23.2))), (1, (eI a1)), (2, (eI b2)), (3, (eI bY)), (10, (eI dO)), (14, (eI x23.1.1)), (15, (aE x23.1.2))]) ⟨[(0, (.msl 1 lo0p 0 (List.length aA))), (1, (eI a1)), (2, (eI b2)), (3, (eI bY)), (10, (eI dO)), (14, (eI x23.1.1)), (15, (aE x23.1.2))], by kernel_rfl, rfl, ⟨aO.eq (by simp [hl25]), aO.refl _, aO.refl _, aO.refl _, aO.refl _, aO.refl _, aO.refl _, trivial⟩⟩ ?_
          refine aG (aF (?_))
          refine aR aC 2 [15] [(9, (aE x23.1.2))] ?_
          refine aR aC 8 [] [(16, (eI (wR (x23.1.1 - a1)))), (17, (eI (wR (b2 - x23.1.1))))] ?_
          refine aN ?_
          refine aU aC 3 ?_
          obtain ⟨c26, h1⟩ := aS h1
          refine lV [(8 : Int) ≠ 0] ⟨c26, trivial⟩ ?_
          refine bP [10] [(18, (eI (wR (Int.tdiv dO (8 : Int)))))] ?_
          refine aR aC 3 [] [(113, (aE (decide ((wR (x23.1.1 - a1)) < (wR (b2 - x23.1.1))))))] ?_
          refine bE h1 (fun h1 => ?_) (fun h1 => ?_)
          · refine bQ aC 4 [(0, (.msl 1 lo0p 0 (List.length x23.2))), (1, (eI a1)), (2, (eI b2)), (3, (eI bY)), (8, (aE (decide ((wR (Int.tdiv dO (8 : Int))) ≤ (wR (x23.1.1 - a1)))))), (9, (aE x23.1.2)), (14, (eI x23.1.1))] ?_
            refine aN ?_
            refine aU aC 5 ?_
            refine bS 4 ?_
            obtain ⟨x28, hx29, h1⟩ := aV h1
            refine wA [(lo0p, 1, List.map (eI) x28)] 0 (ih lo0p x23.2 a1 x23.1.1 bY _ hx29) hO ?_
            intro H hO hl30
            simp only [List.length_map] at hl30
            replace hN := hl30.trans hN
            refine iF ?_
            refine dA (l := [(0, (.msl 1 lo0p 0 (List.length x28))), (2, (eI b2)), (3, (eI bY)), (8, (aE (decide ((wR (Int.tdiv dO (8 : Int))) ≤ (wR (x23.1.1 - a1)))))), (9, (aE x23.1.2)), (14, (eI x23.1.1))]) ⟨[(0, (.msl 1 lo0p 0 (List.length x23.2))), (2, (eI b2)), (3, (eI bY)), (8, (aE (decide ((wR (Int.tdiv dO (8 : Int))) ≤ (wR (x23.1.1 - a1)))))), (9, (aE x23.1.2)), (14, (eI x23.1.1))], by kernel_rfl, rfl, ⟨aO.eq (by simp [hl30]), aO.refl _, aO.refl _, aO.refl _, aO.refl _, aO.refl _, trivial⟩⟩ ?_
            refine aG (aF (?_))
            refine aU aC 3 ?_
            refine bA ?_
            exact aG (aW (aF (⟨rfl, _, (oI h1).symm, .eq (by kernel_rfl), hO, hN⟩)))
          refine bQ aC 4 [(0, (.msl 1 lo0p 0 (List.length x23.2))), (1, (eI a1)), (2, (eI b2)), (3, (eI bY)), (8, (aE (decide ((wR (Int.tdiv dO (8 : Int))) ≤ (wR (b2 - x23.1.1)))))), (9, (aE x23.1.2)), (14, (eI x23.1.1))] ?_
          refine aN ?_
          refine aU aC 6 ?_
          refine bS 5 ?_
          obtain ⟨x31, hx32, h1⟩ := aV h1
          refine wA [(lo0p, 1, List.map (eI) x31)] 0 (ih lo0p x23.2 (wR (x23.1.1 + (1 : Int))) b2 bY _ hx32) hO ?_
          intro H hO hl33
          simp only [List.length_map] at hl33
          replace hN := hl33.trans hN
          refine iF ?_
          refine dA (l := [(0, (.msl 1 lo0p 0 (List.length x31))), (1, (eI a1)), (3, (eI bY)), (8, (aE (decide ((wR (Int.tdiv dO (8 : Int))) ≤ (wR (b2 - x23.1.1)))))), (9, (aE x23.1.2)), (14, (eI x23.1.1))]) ⟨[(0, (.msl 1 lo0p 0 (List.length x23.2))), (1, (eI a1)), (3, (eI bY)), (8, (aE (decide ((wR (Int.tdiv dO (8 : Int))) ≤ (wR (b2 - x23.1.1)))))), (9, (aE x23.1.2)), (14, (eI x23.1.1))], by kernel_rfl, rfl, ⟨aO.eq (by simp [hl33]), aO.refl _, aO.refl _, aO.refl _, aO.refl _, aO.refl _, trivial⟩⟩ ?_
          refine aG (aF (?_))
          refine aU aC 2 ?_
          refine bA ?_
          exact aG (aW (aF (⟨rfl, _, (oI h1).symm, .eq (by kernel_rfl), hO, hN⟩)))
      refine aR aC 8 [12] [(68, (aE ((bT && bL) && (decide (zT = (1 : Int))))))] ?_
      refine bE h1 (fun h1 => ?_) (fun h1 => ?_)
      · refine aN ?_
        refine aU aC 4 ?_
        refine bS 3 ?_
        obtain ⟨x35, hx36, h1⟩ := aV h1
        refine wA [(lo0p, 1, List.map (eI) x35.2)] 0 (qU lo0p aA a1 b2 _ hx36) hO ?_
        intro H hO hl37
        simp only [List.length_map] at hl37
        replace hN := hl37.trans hN
        refine iF ?_
        refine dA (l := [(0, (.msl 1 lo0p 0 (List.length x35.2))), (1, (eI a1)), (2, (eI b2)), (3, (eI bY)), (8, (aE bT)), (9, (aE bL)), (10, (eI dO)), (11, (eI fP)), (72, (aE x35.1))]) ⟨[(0, (.msl 1 lo0p 0 (List.length aA))), (1, (eI a1)), (2, (eI b2)), (3, (eI bY)), (8, (aE bT)), (9, (aE bL)), (10, (eI dO)), (11, (eI fP)), (72, (aE x35.1))], by kernel_rfl, rfl, ⟨aO.eq (by simp [hl37]), aO.refl _, aO.refl _, aO.refl _, aO.refl _, aO.refl _, aO.refl _, aO.refl _, aO.refl _, trivial⟩⟩ ?_
        refine aG (aF (?_))
        refine bE h1 (fun h1 => ?_) (fun h1 => ?_)
        · refine bD ?_
          obtain rfl := oI h1
          obtain rfl : _ = rr0 := ho0
          replace h0 : some x35.2 = some r := h0
          obtain rfl := oI h0
          exact aG (aP (bI (aP (bI (lA (x := (.tup [])) (by kernel_rfl) (aO.refl _) ⟨rfl, hO.ext, hO.at 0 (by kernel_rfl), by simp only [List.length_map]; exact hN.trans hN0⟩)))))
        refine bF ?_
        exact aG (aF (⟨rfl, _, .eq (by kernel_rfl), hO, hN, h1⟩))
      refine bF ?_
      exact aG (aF (⟨rfl, _, .eq (by kernel_rfl), hO, hN, h1⟩))
    refine aR aC 2 [] [(50, (aE (decide (x9.2 = (2 : Int)))))] ?_
    refine bE h1 (fun h1 => ?_) (fun h1 => ?_)
    · refine aN ?_
      refine aU aC 4 ?_
      refine bS 3 ?_
      obtain ⟨x40, hx41, h1⟩ := aV h1
      refine wA [(lo0p, 1, List.map (eI) x40)] 0 (uP lo0p aA a1 b2 _ hx41) hO ?_
      intro H hO hl42
      simp only [List.length_map] at hl42
      replace hN := hl42.trans hN
      refine iF ?_
      refine dA (l := [(0, (.msl 1 lo0p 0 (List.length x40))), (1, (eI a1)), (2, (eI b2)), (3, (eI bY)), (8, (aE bT)), (9, (aE bL)), (10, (eI dO)), (11, (eI x9.1))]) ⟨[(0, (.msl 1 lo0p 0 (List.length aA))), (1, (eI a1)), (2, (eI b2)), (3, (eI bY)), (8, (aE bT)), (9, (aE bL)), (10, (eI dO)), (11, (eI x9.1))], by kernel_rfl, rfl, ⟨aO.eq (by simp [hl42]), aO.refl _, aO.refl _, aO.refl _, aO.refl _, aO.refl _, aO.refl _, aO.refl _, trivial⟩⟩ ?_
      refine aG (aF (?_))
      refine aR aC 7 [11] [(11, (eI (wR ((wR (b2 - (1 : Int))) - (wR (x9.1 - a1))))))] ?_
      refine aU aC 1 ?_
      refine bA ?_
      exact aG (aF (⟨rfl, _, _, _, .eq (by kernel_rfl), hO, hN, h1⟩))
    refine bF ?_
    exact aG (aF (⟨rfl, _, _, _, .eq (by kernel_rfl), hO, hN, h1⟩))
  refine aR aC 2 [] [(35, (aE (!bT)))] ?_
  refine bE h1 (fun h1 => ?_) (fun h1 => ?_)
  · refine aN ?_
    refine aU aC 4 ?_
    refine bS 3 ?_
    obtain ⟨x44, hx45, h1⟩ := aV h1
    refine wA [(lo0p, 1, List.map (eI) x44)] 0 (tT lo0p aA a1 b2 _ hx45) hO ?_
    intro H hO hl46
    simp only [List.length_map] at hl46
    replace hN := hl46.trans hN
    refine iF ?_
    refine dA (l := [(0, (.msl 1 lo0p 0 (List.length x44))), (1, (eI a1)), (2, (eI b2)), (3, (eI bY)), (8, (aE bT)), (9, (aE bL)), (10, (eI (wR (b2 - a1))))]) ⟨[(0, (.msl 1 lo0p 0 (List.length aA))), (1, (eI a1)), (2, (eI b2)), (3, (eI bY)), (8, (aE bT)), (9, (aE bL)), (10, (eI (wR (b2 - a1))))], by kernel_rfl, rfl, ⟨aO.eq (by simp [hl46]), aO.refl _, aO.refl _, aO.refl _, aO.refl _, aO.refl _, aO.refl _, trivial⟩⟩ ?_
    refine aG (aF (?_))
    refine aU aC 3 ?_
    refine bA ?_
    exact aG (aF (⟨rfl, _, _, _, .eq (by kernel_rfl), hO, hN, h1⟩))
  refine bF ?_
  exact aG (aF (⟨rfl, _, _, _, .eq (by kernel_rfl), hO, hN, h1⟩))

theorem pG  : ∀ (k : Nat) (lo0p : Nat) (aA : (List Int)) (a1 : Int) (b2 : Int) (bY : Int) (r : List Int), dD k aA a1 b2 bY = some r → mU Try.prog 60 lo0p 1 (List.map (eI) aA) (List.map (eI) r) [(.msl 1 lo0p 0 (List.length aA)), (eI a1), (eI b2), (eI bY)] (.tup [])
  | 0, _, _, _, _, _, _, h => by cases h
  | k + 1, lo0p, aA, a1, b2, bY, r, h => uL  _ (pG  k) lo0p aA a1 b2 bY r h

theorem wW (lo0p : Nat) (aA : (List Int)) (a1 : Int) (b2 : Int) (bY : Int) (r : List Int) (h0 : jD aA a1 b2 bY = some r) : mU Try.prog 60 lo0p 1 (List.map (eI) aA) (List.map (eI) r) [(.msl 1 lo0p 0 (List.length aA)), (eI a1), (eI b2), (eI bY)] (.tup []) := by
  obtain ⟨k, hk⟩ := JU h0
  exact pG  k lo0p aA a1 b2 bY r hk

theorem AE (lo0p : Nat) (x0 : (List Int)) (r : List Int) (h0 : kD x0 = some r) : mU Try.prog 33 lo0p 1 (List.map (eI) x0) (List.map (eI) r) [(.msl 1 lo0p 0 (List.length x0))] (.tup []) := by
  intro H0 hl0
  refine cZ Try.func33 ?_
  have hO := aL.rC hl0
  clear hl0
  obtain ⟨N0, hN0⟩ : ∃ n, n = List.length x0 := ⟨_, rfl⟩
  have hN : List.length x0 = N0 := hN0.symm
  unfold kD at h0
  refine aR aC 3 [] [(2, (eI (lN x0)))] ?_
  refine aU aC 6 ?_
  refine bS 4 ?_
  obtain ⟨x1, hx2, h0⟩ := aV h0
  refine dI (yR (IntKind.u64.wrap (lN x0)) _ hx2) hO ?_
  intro H hO
  obtain ⟨x4, hx5, h0⟩ := aV h0
  refine wA [(lo0p, 1, List.map (eI) x4)] 0 (wW lo0p x0 (0 : Int) (lN x0) x1 _ hx5) hO ?_
  intro H hO hl6
  simp only [List.length_map] at hl6
  replace hN := hl6.trans hN
  refine iF ?_
  refine dA (l := [(0, (.msl 1 lo0p 0 (List.length x4)))]) ⟨[(0, (.msl 1 lo0p 0 (List.length x0)))], by kernel_rfl, rfl, ⟨aO.eq (by simp [hl6]), trivial⟩⟩ ?_
  obtain rfl := oI h0
  exact aG (xL (x := (.tup [])) (by kernel_rfl) (aO.refl _) ⟨rfl, hO.ext, hO.at 0 (by kernel_rfl), by simp only [List.length_map]; exact hN.trans hN0⟩)

theorem yJ (lo0p : Nat) (s0 : (List Int)) (r : (List Int)) (h0 : iX s0 = some r) : AJ Try.prog 69 lo0p 1 (List.map (eI) s0) [(.msl 1 lo0p 0 (List.length s0))] (fun lo => .msl 1 lo 0 (List.length r)) (List.map (eI) r) := by
  intro H0 hl0
  refine cZ Try.func69 ?_
  have hO := aL.rC hl0
  clear hl0
  unfold iX at h0
  refine aR aC 1 [] [] ?_
  refine aN ?_
  refine aR aC 3 [] [(8, (aE (decide ((lN s0) < (2 : Int)))))] ?_
  refine bE h0 (fun h0 => ?_) (fun h0 => ?_)
  · refine bQ aC 2 [(2, (.msl 1 lo0p 0 (List.length s0)))] ?_
    refine bD ?_
    obtain rfl := oI h0
    exact aG (aP (lA (x := (.msl 1 lo0p 0 (List.length s0))) (by kernel_rfl) (aO.refl _) ⟨lo0p, rfl, hO⟩))
  refine bF ?_
  refine bB [(0, (.msl 1 lo0p 0 (List.length s0)))] ?_
  refine dZ (fun T H => ∃ s0 : List Int, ∃ lo2 : Nat, Has T [(0, (.msl 1 lo2 0 (List.length s0)))] ∧ aL ⟨H0, [lo0p], []⟩ H [(lo2, 1, List.map (eI) s0)] ∧ jS s0 = some r) ?_ ?_
  · clear hO h0
    rintro T H ⟨s0, lo2, hT, hO, h0⟩
    refine aZ hT ?_
    clear hT
    unfold jS at h0
    refine bQ aC 2 [(2, (.msl 1 lo2 0 (List.length s0)))] ?_
    refine bD ?_
    obtain rfl := oI h0
    exact aG (lA (x := (.msl 1 lo2 0 (List.length s0))) (by kernel_rfl) (aO.refl _) ⟨lo2, rfl, hO⟩)
  refine aR aC 1 [] [(3, (eI (1 : Int)))] ?_
  refine bX 0 ?_
  refine fG [(0, (.msl 1 lo0p 0 (List.length s0))), (3, (eI (1 : Int)))] ?_
  refine dS (fun T H => ∃ s0 : List Int, ∃ k3 : Int, ∃ lo4 : Nat, Has T [(0, (.msl 1 lo4 0 (List.length s0))), (3, (eI k3))] ∧ aL ⟨H0, [lo0p], []⟩ H [(lo4, 1, List.map (eI) s0)] ∧ lO s0 k3 = some r) ?_ ⟨s0, (1 : Int), lo0p, .eq (by kernel_rfl), hO, h0⟩
  clear hO h0
  rintro T H ⟨s0, k3, lo4, hT, hO, h0⟩
  refine aZ hT ?_
  clear hT
  unfold lO at h0
  obtain ⟨rr0, hl0, h0⟩ := aV h0
  refine cQ (by kernel_rfl) (fun (s : List Int × Int) T H => ∃ lo4 : Nat, Has T [(0, (.msl 1 lo4 0 (List.length s.1))), (3, (eI s.2))] ∧ aL ⟨H0, [lo0p], []⟩ H [(lo4, 1, List.map (eI) s.1)]) hl0 ⟨lo4, .eq (by kernel_rfl), hO⟩ ?_
  clear hO
  rintro k0 s out1 T H ⟨lo4, hT, hO⟩ h1 ho0
  obtain ⟨s0, k3⟩ := s
  replace h1 : gC s0 k3 = some out1 := h1
  try dsimp only at hT
  refine aZ hT ?_
  clear hT
  unfold gC at h1
  refine aN ?_
  refine aR aC 4 [] [(13, (aE (decide (k3 < (lN s0)))))] ?_
  refine bE h1 (fun h1 => ?_) (fun h1 => ?_)
  · refine bF ?_
    refine bB [(0, (.msl 1 lo4 0 (List.length s0))), (3, (eI k3))] ?_
    refine dZ (fun T H => ∃ s0 : List Int, ∃ k3 : Int, ∃ lo6 : Nat, Has T [(0, (.msl 1 lo6 0 (List.length s0))), (3, (eI k3))] ∧ aL ⟨H0, [lo0p], []⟩ H [(lo6, 1, List.map (eI) s0)] ∧ lP s0 k3 = some out1) ?_ ?_
    · clear hO h1
      rintro T H ⟨s0, k3, lo6, hT, hO, h1⟩
      refine aZ hT ?_
      clear hT
      unfold lP at h1
      refine aU aC 3 ?_
      refine bA ?_
      exact aG (aF (⟨rfl, _, (oI h1).symm, _, .eq (by kernel_rfl), hO⟩))
    refine bX 1 ?_
    refine aN ?_
    refine eM (eK []) aC 10 ?_
    obtain ⟨c7, h1⟩ := aS h1
    refine bZ 3 [0 ≤ k3 ∧ k3 < (lN s0)] ⟨c7, trivial⟩ ?_
    refine fL 0 lo4 1 (0 + Int.toNat k3) (eI (gD s0 k3)) (eI (gD s0 k3)) (List.map (eI) s0) hO (bR c7) ?_
    obtain ⟨c8, h1⟩ := aS h1
    refine bZ 8 [0 ≤ (wR (k3 - (1 : Int))) ∧ (wR (k3 - (1 : Int))) < (lN s0)] ⟨c8, trivial⟩ ?_
    refine fL 0 lo4 1 (0 + Int.toNat (wR (k3 - (1 : Int)))) (eI (gD s0 (wR (k3 - (1 : Int))))) (eI (gD s0 (wR (k3 - (1 : Int))))) (List.map (eI) s0) hO (bR c8) ?_
    refine iH ?_
    refine bP [] [(25, (aE (decide ((gD s0 k3) = (gD s0 (wR (k3 - (1 : Int))))))))] ?_
    refine bE h1 (fun h1 => ?_) (fun h1 => ?_)
    · refine aN ?_
      refine aU aC 4 ?_
      obtain ⟨c10, h1⟩ := aS h1
      refine lV [0 ≤ k3 ∧ k3 ≤ (lN s0)] ⟨c10, trivial⟩ ?_
      refine bP [25] [(4, (.msl 1 lo4 (0 + Int.toNat k3) (List.length s0 - Int.toNat k3)))] ?_
      refine dZ (fun T H => ∃ s0 : List Int, ∃ k3 : Int, ∃ lo11 : Nat, Has T [(0, (.msl 1 lo11 0 (List.length s0))), (3, (eI k3))] ∧ aL ⟨H0, [lo0p], []⟩ H [(lo11, 1, List.map (eI) s0)] ∧ jY s0 k3 = some out1) ?_ ?_
      · clear hO h1
        rintro T H ⟨s0, k3, lo11, hT, hO, h1⟩
        refine aZ hT ?_
        clear hT
        unfold jY at h1
        refine aN ?_
        refine aU aC 4 ?_
        obtain ⟨c12, h1⟩ := aS h1
        refine nH 3 [0 ≤ k3 ∧ k3 ≤ (lN s0)] ⟨c12, trivial⟩ ?_
        refine YY (t := 25) (m := (0 + Int.toNat k3)) (nn := (List.length s0 - Int.toNat k3)) s0 0 lo11 [(lo11, 1, List.map (eI) (jI (0 + Int.toNat k3) s0))] hO (by omega) ?_
        intro H hO
        refine iF ?_
        refine dA (l := [(0, (.msl 1 lo11 0 (List.length (jI (0 + Int.toNat k3) s0)))), (3, (eI k3))]) ⟨[(0, (.msl 1 lo11 0 (List.length s0))), (3, (eI k3))], by kernel_rfl, rfl, ⟨aO.eq (by simp [clearL_len]), aO.refl _, trivial⟩⟩ ?_
        refine aG (aF (?_))
        refine aN ?_
        refine aU aC 4 ?_
        obtain ⟨c13, h1⟩ := aS h1
        obtain ⟨c14, h1⟩ := aS h1
        refine lV [0 ≤ k3 ∧ k3 ≤ (lN (jI (0 + Int.toNat k3) s0))] ⟨c13, trivial⟩ ?_
        refine bB [(2, (.msl 1 lo11 0 (Int.toNat k3)))] ?_
        refine bD ?_
        refine dA (l := [(2, (.msl 1 lo11 0 (List.length (List.take (Int.toNat k3) (jI (0 + Int.toNat k3) s0)))))]) ⟨[(2, (.msl 1 lo11 0 (Int.toNat k3)))], by kernel_rfl, rfl, ⟨aO.eq (by rw [List.length_take, Nat.min_eq_left c14]), trivial⟩⟩ ?_
        refine ZH (en := (eI)) (jI (0 + Int.toNat k3) s0) (Int.toNat k3) 0 1 lo11 [(lo11, 1, List.map (eI) (List.take (Int.toNat k3) (jI (0 + Int.toNat k3) s0)))] hO (by kernel_rfl) (by kernel_rfl) ?_
        intro H hO
        obtain rfl := oI h1
        obtain rfl : _ = rr0 := ho0
        replace h0 : some (List.take (Int.toNat k3) (jI (0 + Int.toNat k3) s0)) = some r := h0
        obtain rfl := oI h0
        exact aG (bI (aP (aP (bI (aP (lA (x := (.msl 1 lo11 0 (List.length (List.take (Int.toNat k3) (jI (0 + Int.toNat k3) s0))))) (by kernel_rfl) (aO.refl _) ⟨lo11, rfl, hO⟩))))))
      refine aR aC 1 [] [(5, (eI (1 : Int)))] ?_
      refine bX 2 ?_
      refine fG [(0, (.msl 1 lo4 0 (List.length s0))), (3, (eI k3)), (4, (.msl 1 lo4 (0 + Int.toNat k3) (List.length s0 - Int.toNat k3))), (5, (eI (1 : Int)))] ?_
      refine dS (fun T H => ∃ s0 : List Int, ∃ k3 : Int, ∃ k25 : Int, ∃ s24o : Nat, ∃ s24n : Nat, ∃ lo16 : Nat, Has T [(0, (.msl 1 lo16 0 (List.length s0))), (3, (eI k3)), (4, (.msl 1 lo16 s24o s24n)), (5, (eI k25))] ∧ aL ⟨H0, [lo0p], []⟩ H [(lo16, 1, List.map (eI) s0)] ∧ lQ s0 k3 k25 s24o s24n = some out1) ?_ ⟨s0, k3, (1 : Int), (0 + Int.toNat k3), (List.length s0 - Int.toNat k3), lo4, .eq (by kernel_rfl), hO, h1⟩
      clear hO h1
      rintro T H ⟨s0, k3, k25, s24o, s24n, lo16, hT, hO, h1⟩
      refine aZ hT ?_
      clear hT
      unfold lQ at h1
      obtain ⟨rr1, hl1, h1⟩ := aV h1
      refine cQ (by kernel_rfl) (fun (s : List Int × Int × Int) T H => ∃ lo16 : Nat, Has T [(0, (.msl 1 lo16 0 (List.length s.1))), (3, (eI s.2.1)), (4, (.msl 1 lo16 s24o s24n)), (5, (eI s.2.2))] ∧ aL ⟨H0, [lo0p], []⟩ H [(lo16, 1, List.map (eI) s.1)]) hl1 ⟨lo16, .eq (by kernel_rfl), hO⟩ ?_
      clear hO
      rintro k1 s out2 T H ⟨lo16, hT, hO⟩ h2 ho1
      obtain ⟨s0, k3, k25⟩ := s
      replace h2 : eX s24o s24n s0 k3 k25 = some out2 := h2
      try dsimp only at hT
      refine aZ hT ?_
      clear hT
      unfold eX at h2
      refine aN ?_
      refine aR aC 4 [] [(32, (aE (decide (k25 < ((s24n : Nat) : Int)))))] ?_
      refine bE h2 (fun h2 => ?_) (fun h2 => ?_)
      · refine bF ?_
        refine bB [(0, (.msl 1 lo16 0 (List.length s0))), (3, (eI k3)), (4, (.msl 1 lo16 s24o s24n)), (5, (eI k25))] ?_
        refine dZ (fun T H => ∃ s0 : List Int, ∃ k3 : Int, ∃ lo18 : Nat, Has T [(0, (.msl 1 lo18 0 (List.length s0))), (3, (eI k3)), (4, (.msl 1 lo18 s24o s24n)), (5, (eI k25))] ∧ aL ⟨H0, [lo0p], []⟩ H [(lo18, 1, List.map (eI) s0)] ∧ iL s0 k3 k25 s24o s24n = some out2) ?_ ?_
        · clear hO h2
          rintro T H ⟨s0, k3, lo18, hT, hO, h2⟩
          refine aZ hT ?_
          clear hT
          unfold iL at h2
          refine aU aC 3 ?_
          refine bA ?_
          exact aG (aF (⟨rfl, _, (oI h2).symm, _, .eq (by kernel_rfl), hO⟩))
        refine bX 3 ?_
        refine aN ?_
        refine eM (eK []) aC 10 ?_
        obtain ⟨c19, h2⟩ := aS h2
        obtain ⟨c20, h2⟩ := aS h2
        refine bZ 3 [0 ≤ k25 ∧ k25 < ((s24n : Nat) : Int)] ⟨c19, trivial⟩ ?_
        refine fL 0 lo16 1 (s24o + Int.toNat k25) (eI (List.getD s0 (s24o + Int.toNat k25) default)) (eI (List.getD s0 (s24o + Int.toNat k25) default)) (List.map (eI) s0) hO (HY c20) ?_
        obtain ⟨c21, h2⟩ := aS h2
        obtain ⟨c22, h2⟩ := aS h2
        refine bZ 8 [0 ≤ (wR (k25 - (1 : Int))) ∧ (wR (k25 - (1 : Int))) < ((s24n : Nat) : Int)] ⟨c21, trivial⟩ ?_
        refine fL 0 lo16 1 (s24o + Int.toNat (wR (k25 - (1 : Int)))) (eI (List.getD s0 (s24o + Int.toNat (wR (k25 - (1 : Int)))) default)) (eI (List.getD s0 (s24o + Int.toNat (wR (k25 - (1 : Int)))) default)) (List.map (eI) s0) hO (HY c22) ?_
        refine iH ?_
        refine bP [] [(44, (aE (!decide ((List.getD s0 (s24o + Int.toNat k25) default) = (List.getD s0 (s24o + Int.toNat (wR (k25 - (1 : Int)))) default)))))] ?_
        refine bE h2 (fun h2 => ?_) (fun h2 => ?_)
        · refine aN ?_
          refine aU aC 8 ?_
          obtain ⟨c24, h2⟩ := aS h2
          obtain ⟨c25, h2⟩ := aS h2
          refine nH 5 [0 ≤ k25 ∧ k25 < ((s24n : Nat) : Int)] ⟨c24, trivial⟩ ?_
          refine qN 0 lo16 1 (s24o + Int.toNat k25) (eI (List.getD s0 (s24o + Int.toNat k25) default)) (eI (List.getD s0 (s24o + Int.toNat k25) default)) (List.map (eI) s0) hO (HY c25) ?_
          obtain ⟨c26, h2⟩ := aS h2
          refine nH 7 [0 ≤ k3 ∧ k3 < (lN s0)] ⟨c26, trivial⟩ ?_
          refine qP 0 lo16 1 (0 + Int.toNat k3) (eI (gD s0 k3)) (eI (List.getD s0 (s24o + Int.toNat k25) default)) (List.map (eI) s0) [(lo16, 1, List.map (eI) (List.set s0 (Int.toNat k3) (List.getD s0 (s24o + Int.toNat k25) default)))] hO (bR c26) (by simp only [List.set, gE]) ?_
          intro H hO
          refine iF ?_
          refine dA (l := [(0, (.msl 1 lo16 0 (List.length (List.set s0 (Int.toNat k3) (List.getD s0 (s24o + Int.toNat k25) default))))), (3, (eI k3)), (4, (.msl 1 lo16 s24o s24n)), (5, (eI k25))]) ⟨[(0, (.msl 1 lo16 0 (List.length s0))), (3, (eI k3)), (4, (.msl 1 lo16 s24o s24n)), (5, (eI k25))], by kernel_rfl, rfl, ⟨aO.eq (by simp []), aO.refl _, aO.refl _, aO.refl _, trivial⟩⟩ ?_
          refine aG (aF (?_))
          refine aU aC 3 ?_
          refine bA ?_
          exact aG (aW (aF (⟨rfl, _, _, _, .eq (by kernel_rfl), hO, h2⟩)))
        refine bF ?_
        exact aG (aW (aF (⟨rfl, _, _, _, .eq (by kernel_rfl), hO, h2⟩)))
      refine fB 2 ?_
      obtain rfl := oI h2
      obtain rfl : _ = rr1 := ho1
      replace h1 : jY s0 k3 = some out1 := h1
      exact aG (aT (aT (bO (aF (⟨rfl, _, _, _, .eq (by kernel_rfl), hO, h1⟩)))))
    refine bF ?_
    exact aG (aW (aF (⟨rfl, _, _, _, .eq (by kernel_rfl), hO, h1⟩)))
  refine fB 0 ?_
  obtain rfl := oI h1
  obtain rfl : _ = rr0 := ho0
  replace h0 : jS s0 = some r := h0
  exact aG (aT (aT (bO (aF (⟨rfl, _, _, .eq (by kernel_rfl), hO, h0⟩)))))

theorem vP (l0 : (List aI)) (r : (List Int)) (h0 : lT l0 = some r) : dB Try.prog 47 [(eL aH l0)] (eL (eI) r) := by
  intro H0
  refine IE aC Try.func47 (by kernel_rfl) (by kernel_rfl) (by kernel_rfl) ?_
  have hO := aL.start H0
  unfold lT at h0
  refine aR aC 1 [] [] ?_
  refine aN ?_
  refine aU aC 3 ?_
  refine nB (xs := []) (k := 1) (by kernel_rfl) (by kernel_rfl) ?_
  refine vT 1 (.sl true 0 (fun _ => .bad)) (eL (eI) ([])) (by kernel_rfl) (by kernel_rfl) (by kernel_rfl) (nQ) (by kernel_rfl) (by kernel_rfl) hO ?_
  intro lo1 H hO
  refine aAp 5 1 (fun _ => .bad) (by kernel_rfl) hO (by kernel_rfl) ?_
  intro lo2 H hO
  refine qP 0 lo1 1 0 (eL (eI) ([])) (.msl 1 lo2 0 (List.length ([] : List Int))) [(eL (eI) ([]))] [(lo1, 1, [(.msl 1 lo2 0 (List.length ([] : List Int)))]), (lo2, 1, List.map (eI) ([] : List Int))] hO rfl (by kernel_rfl) ?_
  intro H hO
  refine iF ?_
  refine bP [] [(3, (.lp lo1 0 0))] ?_
  refine aN ?_
  refine aN ?_
  refine aU aC 2 ?_
  refine bS 1 ?_
  obtain ⟨x3, hx4, h0⟩ := aV h0
  refine dI (zZ l0 _ hx4) hO ?_
  intro H hO
  refine iF ?_
  refine bP [0] [(7, (.fn (.func 94) [] [(.rp (eL aH x3))]))] ?_
  refine bX 0 ?_
  refine fG [(3, (.lp lo1 0 0)), (7, (.fn (.func 94) [] [(.rp (eL aH x3))]))] ?_
  refine dS (fun T H => ∃ out3 : List Int, ∃ t7c0 : (List aI), ∃ lo5 : Nat, Has T [(3, (.lp lo1 0 0)), (7, (.fn (.func 94) [] [(.rp (eL aH t7c0))]))] ∧ aL ⟨H0, [], []⟩ H [(lo1, 1, [(.msl 1 lo5 0 (List.length out3))]), (lo5, 1, List.map (eI) out3)] ∧ qQ out3 t7c0 = some r) ?_ ⟨([] : List Int), x3, lo2, .eq (by kernel_rfl), hO, h0⟩
  clear hO h0
  rintro T H ⟨out3, t7c0, lo5, hT, hO, h0⟩
  refine aZ (l := [(3, (.lp lo1 0 0)), (7, (.fn (.func 94) [] [(.rp (eL aH t7c0))]))]) hT ?_
  clear hT
  unfold qQ at h0
  obtain ⟨o0, hl0, h0⟩ := aV h0
  refine FQ (fid := 94) (ys := []) (cs := [(.rp (eL aH t7c0))]) #[8] (fun (A : zE) (b lL : Nat) (st : (List Int) ⊕ (List Int)) (G' : Gs) => Sum.elim (fun (s : List Int) => ∃ lo5 : Nat, G' = (lL, .raw (lW b A .ready none)) :: (up [(lo1, 1, [(.msl 1 lo5 0 (List.length s))]), (lo5, 1, List.map (eI) s)] ++ [])) (fun (s : List Int) => False) st) (.inl out3) o0 (.tup []) (by kernel_rfl) (by kernel_rfl) (by kernel_rfl) hO (fun _ _ => ⟨lo5, rfl⟩) ?_ ?_
  · intro b lL
    clear hO h0
    refine wQ _ b (fun st t8 => rnd (fun (s : List Int) => oB t7c0 s t8) st) ?_ t7c0 _ _ hl0
    intro st t8 out1 rr hr
    obtain ⟨s, rfl, h1, rfl⟩ := WS hr
    clear hr
    intro Hr Gr hi hg
    obtain ⟨out3, rfl⟩ : ∃ x, x = s := ⟨_, rfl⟩
    dsimp only [Sum.elim_inl] at hi
    obtain ⟨lo5, rfl⟩ := hi
    replace h1 : oB t7c0 out3 t8 = some out1 := h1
    unfold oB at h1
    obtain ⟨E1, hE, hO⟩ := zP hg
    refine zI (FI (hO.gm 0 _ rfl).2 (by kernel_rfl) (by kernel_rfl) ?_)
    refine fG [(3, (.lp lo1 0 0)), (7, (.fn (.func 94) [] [(.rp (eL aH t7c0))])), (8, (aH t8))] ?_
    refine aU aC 2 ?_
    refine vT 3 (.agg [(.sl true 0 (fun _ => .bad)), (eI 0), (eI 0)]) (aH (aI.mk ([]) 0 0)) (by kernel_rfl) (by kernel_rfl) (by kernel_rfl) (CV (xs := [(.sl true 0 (fun _ => .bad)), (eI 0), (eI 0)]) (ys := [(eL aD ([])), (eI 0), (eI 0)]) ⟨nQ, aO.refl _, aO.refl _, trivial⟩) (by kernel_rfl) (by kernel_rfl) hO ?_
    intro lo6 H hO
    refine qP 2 lo6 3 0 (aH (aI.mk ([]) 0 0)) (aH t8) [(aH (aI.mk ([]) 0 0))] [(lo1, 1, [(.msl 1 lo5 0 (List.length out3))]), (lo5, 1, List.map (eI) out3), (lo6, 3, [(aH t8)])] hO rfl (by kernel_rfl) ?_
    intro H hO
    refine iF ?_
    refine fX [(3, (.lp lo1 0 0)), (4, (.lp lo6 0 0))] ?_
    refine aG (⟨rfl, rfl, (hO.gm 0 _ rfl).2, ?_⟩)
    intro o1 ho1
    replace hO := hO.AI o1
    refine bX 1 ?_
    refine aU aC 6 ?_
    refine qN 0 lo1 1 0 (.msl 1 lo5 0 (List.length out3)) (.msl 1 lo5 0 (List.length out3)) [(.msl 1 lo5 0 (List.length out3))] hO rfl ?_
    refine bS 2 ?_
    refine qN 2 lo6 3 0 (aH t8) (eI t8.At) [(aH t8)] hO rfl ?_
    refine nB (xs := [(eI t8.At)]) (k := 1) (by kernel_rfl) (by kernel_rfl) ?_
    obtain ⟨c8, h1⟩ := aS h1
    refine tD (e := (eI)) out3 ([t8.At]) 1 lo5 1 8 (iY [(eI t8.At)]) (fun lo7 => [(lo1, 1, [(.msl 1 lo5 0 (List.length out3))]), (lo7, 1, List.map (eI) (out3 ++ ([t8.At]))), (lo6, 3, [(aH t8)])]) (by kernel_rfl) (by kernel_rfl) hO (by kernel_rfl) (by kernel_rfl) c8 (fun _ => by kernel_rfl) ?_
    intro lo7 H hO
    refine qP 0 lo1 1 0 (.msl 1 lo5 0 (List.length out3)) (.msl 1 lo7 0 (List.length (out3 ++ ([t8.At])))) [(.msl 1 lo5 0 (List.length out3))] [(lo1, 1, [(.msl 1 lo7 0 (List.length (out3 ++ ([t8.At]))))]), (lo7, 1, List.map (eI) (out3 ++ ([t8.At]))), (lo6, 3, [(aH t8)])] hO rfl (by kernel_rfl) ?_
    intro H hO
    refine iF ?_
    refine fX [(3, (.lp lo1 0 0))] ?_
    replace hO := hO.pick (L' := [(lo1, 1, [(.msl 1 lo7 0 (List.length (out3 ++ ([t8.At]))))]), (lo7, 1, List.map (eI) (out3 ++ ([t8.At])))]) [0, 1] (by decide) (by kernel_rfl)
    obtain rfl := oI h1
    exact aG (aW (⟨(mF hO hE ho1 .dead).1, rfl, _, ⟨lo7, rfl⟩, (mF hO hE ho1 _).2⟩))
  · intro b lD9 lL H' G' hi hO
    rcases o0 with s | s
    · dsimp only [Sum.elim_inl] at hi
      obtain ⟨lo5, rfl⟩ := hi
      replace h0 : ((kD s).bind fun x10 => (iX x10).bind fun x13 => some x13) = some r := h0
      obtain ⟨hlL, hO⟩ := xN hO
      refine ⟨_, _, hlL, (by intro e; cases e), ?_⟩
      refine fX [(3, (.lp lo1 0 0))] ?_
      refine aG (aW (aF (?_)))
      refine aN ?_
      refine aU aC 2 ?_
      refine qN 0 lo1 1 0 (.msl 1 lo5 0 (List.length s)) (.msl 1 lo5 0 (List.length s)) [(.msl 1 lo5 0 (List.length s))] hO rfl ?_
      obtain ⟨x10, hx11, h0⟩ := aV h0
      refine wA [(lo1, 1, [(.msl 1 lo5 0 (List.length s))]), (lo5, 1, List.map (eI) x10)] 1 (AE lo5 s _ hx11) hO ?_
      intro H hO hl12
      simp only [List.length_map] at hl12
      refine iF ?_
      refine fX [(3, (.lp lo1 0 0))] ?_
      replace hO : aL ⟨H0, [], (lD9, .raw yA) :: []⟩ H [(lo1, 1, [(.msl 1 lo5 0 (List.length x10))]), (lo5, 1, List.map (eI) x10)] := by simpa only [List.length_set, hl12] using hO
      refine aG (aF (?_))
      refine aN ?_
      refine aU aC 3 ?_
      refine qN 0 lo1 1 0 (.msl 1 lo5 0 (List.length x10)) (.msl 1 lo5 0 (List.length x10)) [(.msl 1 lo5 0 (List.length x10))] hO rfl ?_
      obtain ⟨x13, hx14, h0⟩ := aV h0
      refine XU (L' := fun lo15 => [(lo1, 1, [(.msl 1 lo5 0 (List.length x10))]), (lo15, 1, List.map (eI) x13)]) 1 lo5 1 (List.map (eI) x10) (List.map (eI) x13) 69 [(.msl 1 lo5 0 (List.length x10))] (fun lo15 => (.msl 1 lo15 0 (List.length x13))) (by kernel_rfl) (by kernel_rfl) (yJ lo5 x10 _ hx14) hO (by kernel_rfl) (fun _ => by kernel_rfl) ?_
      intro lo15 H hO
      refine bA ?_
      refine fX [(2, (.msl 1 lo15 0 (List.length x13)))] ?_
      replace hO := hO.pick (L' := [(lo15, 1, List.map (eI) x13)]) [1] (by decide) (by kernel_rfl)
      refine aG (aF (?_))
      refine bD ?_
      refine fX [(2, (.msl 1 lo15 0 (List.length x13)))] ?_
      refine uU (en := (eI)) x13 0 0 2 1 lo15 (List.length x13) hO (by kernel_rfl) (by kernel_rfl) (by kernel_rfl) (L' := []) (by kernel_rfl) ?_
      intro H16 hO
      obtain rfl := oI h0
      have hD := (hO.gm 0 _ rfl).2
      replace hO := (hO.AI .dead).BG
      exact aG (QM1 (.inr rfl) hD (rs := [.tmp 2]) (xs := [(eL (eI) x13)]) (x := (eL (eI) x13)) (by kernel_rfl) (aAq (x := (eL (eI) x13)) (by kernel_rfl) DQ) (by kernel_rfl) ⟨rfl, hO.out⟩)
    · exact hi.elim

theorem yS (l0 : (List aI)) (r : ((List Int) × Int)) (h0 : nD l0 = some r) : dB Try.prog 21 [(eL aH l0)] (.tup [(eL (eI) r.1), (eI r.2)]) := by
  intro H0
  refine cZ Try.func21 ?_
  have hO := aL.start H0
  unfold nD at h0
  refine aR aC 2 [] [] ?_
  refine aN ?_
  refine aN ?_
  refine aU aC 3 ?_
  refine bS 1 ?_
  obtain ⟨x1, hx2, h0⟩ := aV h0
  refine dI (yB l0 (1 : Int) _ hx2) hO ?_
  intro H hO
  refine bA ?_
  refine bP [] [(4, (eI x1))] ?_
  refine aR aC 2 [] [(8, (aE (!decide (x1 = (0 : Int)))))] ?_
  refine bE h0 (fun h0 => ?_) (fun h0 => ?_)
  · refine bQ aC 3 [(2, (.sl true 0 (fun _ => .bad))), (3, (eI x1))] ?_
    refine bD ?_
    refine dA (l := [(2, (eL (eI) ([]))), (3, (eI x1))]) ⟨[(2, (.sl true 0 (fun _ => .bad))), (3, (eI x1))], by kernel_rfl, rfl, ⟨nQ, aO.refl _, trivial⟩⟩ ?_
    obtain rfl := oI h0
    exact aG (aP (Q_r hO))
  refine bF ?_
  refine bB [(0, (eL aH l0))] ?_
  refine aN ?_
  refine aU aC 4 ?_
  refine bS 1 ?_
  obtain ⟨x5, hx6, h0⟩ := aV h0
  refine dI (vP l0 _ hx6) hO ?_
  intro H hO
  refine bA ?_
  refine bB [(2, (eL (eI) x5)), (3, (eI (0 : Int)))] ?_
  refine bD ?_
  obtain rfl := oI h0
  exact aG (Q_r hO)

theorem wP (x0 : Int) (r : Bool) (h0 : mV x0 = some r) : dB Try.prog 71 [(eI x0)] (aE r) := by
  intro H0
  refine cZ Try.func71 ?_
  have hO := aL.start H0
  unfold mV at h0
  refine aR aC 1 [] [] ?_
  refine bQ aC 4 [(2, (aE (!decide (x0 = x0))))] ?_
  refine bD ?_
  obtain rfl := oI h0
  exact aG (Q_r hO)

theorem pN (x0 : (List Int)) (eZ : Int) (r : (Int × Bool)) (h0 : eV x0 eZ = some r) : dB Try.prog 49 [(eL (eI) x0), (eI eZ)] (.tup [(eI r.1), (aE r.2)]) := by
  intro H0
  refine cZ Try.func49 ?_
  have hO := aL.start H0
  unfold eV at h0
  refine aR aC 2 [] [] ?_
  refine aR aC 3 [] [(6, (eI (lN x0)))] ?_
  refine aR aC 3 [] [(7, (eI (0 : Int))), (8, (eI (lN x0)))] ?_
  refine dZ (fun T H => ∃ n6 : Int, ∃ i7 : Int, Has T [(0, (eL (eI) x0)), (1, (eI eZ)), (6, (eI n6)), (7, (eI i7))] ∧ aL ⟨H0, [], []⟩ H [] ∧ iD x0 eZ n6 i7 = some r) ?_ ?_
  · clear hO h0
    rintro T H ⟨n6, i7, hT, hO, h0⟩
    refine aZ hT ?_
    clear hT
    unfold iD at h0
    refine aN ?_
    refine aU aC 25 ?_
    obtain ⟨c1, h0⟩ := aS h0
    obtain ⟨c2, h0⟩ := aS h0
    refine nH 16 [(((decide (i7 < n6))) = true → 0 ≤ i7 ∧ i7 < (lN x0)), (((!(decide ((gD x0 i7) = eZ))) && (decide (i7 < n6))) = true → 0 ≤ i7 ∧ i7 < (lN x0))] ⟨c1, c2, trivial⟩ ?_
    obtain ⟨x3, hx4, h0⟩ := aV h0
    refine nR [(42, false), (35, true)] 71 [(eI (gD x0 i7))] (aE x3) ((!(decide ((gD x0 i7) = eZ))) && (decide (i7 < n6))) (by kernel_rfl) (by kernel_rfl) (by kernel_rfl) (fun hb5 => (wP (gD x0 i7) _ (jJ hx4 hb5))) hO ?_
    intro H hO
    refine bS 19 ?_
    obtain ⟨x6, hx7, h0⟩ := aV h0
    refine nR [(48, true), (42, false), (35, true)] 71 [(eI eZ)] (aE x6) (x3 && ((!(decide ((gD x0 i7) = eZ))) && (decide (i7 < n6)))) (by kernel_rfl) (by kernel_rfl) (by kernel_rfl) (fun hb8 => (wP eZ _ (jJ hx7 hb8))) hO ?_
    intro H hO
    refine bA ?_
    refine bB [(4, (eI i7)), (5, (aE ((decide (i7 < n6)) && ((decide ((gD x0 i7) = eZ)) || (x3 && x6)))))] ?_
    refine bD ?_
    obtain rfl := oI h0
    exact aG (Q_r hO)
  refine bX 0 ?_
  refine fG [(0, (eL (eI) x0)), (1, (eI eZ)), (6, (eI (lN x0))), (7, (eI (0 : Int))), (8, (eI (lN x0)))] ?_
  refine dS (fun T H => ∃ n6 : Int, ∃ i7 : Int, ∃ j8 : Int, Has T [(0, (eL (eI) x0)), (1, (eI eZ)), (6, (eI n6)), (7, (eI i7)), (8, (eI j8))] ∧ aL ⟨H0, [], []⟩ H [] ∧ jV x0 eZ n6 i7 j8 = some r) ?_ ⟨(lN x0), (0 : Int), (lN x0), .eq (by kernel_rfl), hO, h0⟩
  clear hO h0
  rintro T H ⟨n6, i7, j8, hT, hO, h0⟩
  refine aZ hT ?_
  clear hT
  unfold jV at h0
  obtain ⟨rr0, hl0, h0⟩ := aV h0
  refine cQ (by kernel_rfl) (fun (s : Int × Int) T H => Has T [(0, (eL (eI) x0)), (1, (eI eZ)), (6, (eI n6)), (7, (eI s.1)), (8, (eI s.2))] ∧ aL ⟨H0, [], []⟩ H []) hl0 ⟨.eq (by kernel_rfl), hO⟩ ?_
  clear hO
  rintro k0 s out1 T H ⟨hT, hO⟩ h1 ho0
  obtain ⟨i7, j8⟩ := s
  replace h1 : eH x0 eZ n6 i7 j8 = some out1 := h1
  try dsimp only at hT
  refine aZ hT ?_
  clear hT
  unfold eH at h1
  refine aN ?_
  refine aR aC 3 [] [(15, (aE (decide (i7 < j8))))] ?_
  refine bE h1 (fun h1 => ?_) (fun h1 => ?_)
  · refine bF ?_
    refine bB [(0, (eL (eI) x0)), (1, (eI eZ)), (6, (eI n6)), (7, (eI i7)), (8, (eI j8))] ?_
    refine bX 1 ?_
    refine aN ?_
    refine aU aC 7 ?_
    obtain ⟨c10, h1⟩ := aS h1
    refine lV [0 ≤ (1 : Int)] ⟨c10, trivial⟩ ?_
    refine bP [] [(9, (eI (wR (Int.fdiv (IntKind.u64.wrap (wR (i7 + j8))) (2 ^ (min (Int.toNat (1 : Int)) 64))))))] ?_
    refine aN ?_
    refine aU aC 6 ?_
    obtain ⟨c11, h1⟩ := aS h1
    refine nH 5 [0 ≤ (wR (Int.fdiv (IntKind.u64.wrap (wR (i7 + j8))) (2 ^ (min (Int.toNat (1 : Int)) 64)))) ∧ (wR (Int.fdiv (IntKind.u64.wrap (wR (i7 + j8))) (2 ^ (min (Int.toNat (1 : Int)) 64)))) < (lN x0)] ⟨c11, trivial⟩ ?_
    obtain ⟨x12, hx13, h1⟩ := aV h1
    refine dI (fE (gD x0 (wR (Int.fdiv (IntKind.u64.wrap (wR (i7 + j8))) (2 ^ (min (Int.toNat (1 : Int)) 64))))) eZ _ hx13) hO ?_
    intro H hO
    refine iF ?_
    refine bP [] [(27, (aE x12))] ?_
    refine bE h1 (fun h1 => ?_) (fun h1 => ?_)
    · refine aU aC 3 ?_
      refine bA ?_
      exact aG (aW (aF (⟨rfl, _, (oI h1).symm, .eq (by kernel_rfl), hO⟩)))
    refine aU aC 2 ?_
    refine bA ?_
    exact aG (aW (aF (⟨rfl, _, (oI h1).symm, .eq (by kernel_rfl), hO⟩)))
  refine fB 0 ?_
  obtain rfl := oI h1
  obtain rfl : _ = rr0 := ho0
  replace h0 : iD x0 eZ n6 i7 = some r := h0
  exact aG (aT (aT (bO (aF (⟨rfl, _, _, .eq (by kernel_rfl), hO, h0⟩)))))

theorem BT (l0 : (List aI)) (n1 : Int) (t2 : Int) (r : (Int × Int)) (h0 : oT l0 n1 t2 = some r) : dB Try.prog 23 [(eL aH l0), (eI n1), (eI t2)] (.tup [(eI r.1), (eI r.2)]) := by
  intro H0
  refine cZ Try.func23 ?_
  have hO := aL.start H0
  unfold oT at h0
  refine aR aC 2 [] [] ?_
  refine aN ?_
  refine aN ?_
  refine aU aC 4 ?_
  refine bS 2 ?_
  obtain ⟨x1, hx2, h0⟩ := aV h0
  refine dI (yB l0 n1 _ hx2) hO ?_
  intro H hO
  refine bA ?_
  refine bP [] [(8, (eI x1))] ?_
  refine aR aC 2 [] [(17, (aE (!decide (x1 = (0 : Int)))))] ?_
  refine bE h0 (fun h0 => ?_) (fun h0 => ?_)
  · refine bQ aC 3 [(6, (eI (0 : Int))), (7, (eI x1))] ?_
    refine bD ?_
    obtain rfl := oI h0
    exact aG (aP (Q_r hO))
  refine bF ?_
  refine bB [(0, (eL aH l0)), (1, (eI n1)), (2, (eI t2))] ?_
  refine aN ?_
  refine bX 0 ?_
  refine aR aC 7 [] [(19, (aE ((decide (t2 < (0 : Int))) || (decide ((1125899906842624 : Int) < t2)))))] ?_
  refine bE h0 (fun h0 => ?_) (fun h0 => ?_)
  · refine bQ aC 2 [(6, (eI (0 : Int))), (7, (eI (13 : Int)))] ?_
    refine bD ?_
    obtain rfl := oI h0
    exact aG (bI (aP (Q_r hO)))
  refine aR aC 3 [19] [(26, (aE (decide (t2 = (1125899906842624 : Int)))))] ?_
  refine bE h0 (fun h0 => ?_) (fun h0 => ?_)
  · refine bQ aC 3 [(6, (eI t2)), (7, (eI (0 : Int)))] ?_
    refine bD ?_
    obtain rfl := oI h0
    exact aG (bI (aP (Q_r hO)))
  refine bF ?_
  refine fX [(0, (eL aH l0)), (1, (eI n1)), (2, (eI t2))] ?_
  refine aG (aW (aF (?_)))
  refine aN ?_
  refine aU aC 3 ?_
  refine bS 1 ?_
  obtain ⟨x7, hx8, h0⟩ := aV h0
  refine dI (vP l0 _ hx8) hO ?_
  intro H hO
  refine bA ?_
  refine bP [0] [(9, (eL (eI) x7))] ?_
  refine aN ?_
  refine aU aC 8 ?_
  refine bS 2 ?_
  obtain ⟨x10, hx11, h0⟩ := aV h0
  refine dI (pN x7 t2 _ hx11) hO ?_
  intro H hO
  refine bA ?_
  refine bP [] [(10, (eI x10.1))] ?_
  refine aR aC 6 [1] [(12, (eI (if (wR ((wR (x10.1 - n1)) + (1 : Int))) > (0 : Int) then (wR ((wR (x10.1 - n1)) + (1 : Int))) else (0 : Int))))] ?_
  refine aN ?_
  refine aR aC 3 [10] [(45, (aE (decide ((if (wR ((wR (x10.1 - n1)) + (1 : Int))) > (0 : Int) then (wR ((wR (x10.1 - n1)) + (1 : Int))) else (0 : Int)) = x10.1))))] ?_
  refine bE h0 (fun h0 => ?_) (fun h0 => ?_)
  · refine bQ aC 3 [(6, (eI t2)), (7, (eI (0 : Int)))] ?_
    refine bD ?_
    obtain rfl := oI h0
    exact aG (aP (Q_r hO))
  refine bF ?_
  refine bB [(9, (eL (eI) x7)), (12, (eI (if (wR ((wR (x10.1 - n1)) + (1 : Int))) > (0 : Int) then (wR ((wR (x10.1 - n1)) + (1 : Int))) else (0 : Int))))] ?_
  refine aN ?_
  refine aU aC 6 ?_
  obtain ⟨c14, h0⟩ := aS h0
  refine lV [0 ≤ (if (wR ((wR (x10.1 - n1)) + (1 : Int))) > (0 : Int) then (wR ((wR (x10.1 - n1)) + (1 : Int))) else (0 : Int)) ∧ (if (wR ((wR (x10.1 - n1)) + (1 : Int))) > (0 : Int) then (wR ((wR (x10.1 - n1)) + (1 : Int))) else (0 : Int)) < (lN x7)] ⟨c14, trivial⟩ ?_
  refine bB [(6, (eI (gD x7 (if (wR ((wR (x10.1 - n1)) + (1 : Int))) > (0 : Int) then (wR ((wR (x10.1 - n1)) + (1 : Int))) else (0 : Int))))), (7, (eI (0 : Int)))] ?_
  refine bD ?_
  obtain rfl := oI h0
  exact aG (Q_r hO)

theorem uN (s0 : (List aB)) (r : (List aB)) (h0 : gR s0 = some r) : wN Try.prog 41 [(eL aD s0)] (fun lo => (.msl 3 lo 0 (List.length r))) 3 (List.map aD r) := by
  intro H0
  refine cZ Try.func41 ?_
  have hO := aL.start H0
  unfold gR at h0
  refine aR aC 1 [] [] ?_
  refine aN ?_
  refine aN ?_
  refine aU aC 2 ?_
  refine bS 1 ?_
  refine aAz false (List.length s0) (fun i => aD (List.getD s0 i default)) (by kernel_rfl) (by kernel_rfl) ?_
  intro b1 hn2
  refine iF ?_
  refine bP [] [(4, (aE b1))] ?_
  refine nG (b1) (fun hc3 => ?_) (fun hc3 => ?_)
  · replace h0 : some ([] : List aB) = some r := by
      have hl := List.eq_nil_of_length_eq_zero (hn2 hc3)
      rw [hl] at h0
      exact (aS h0).2
    refine bQ aC 1 [(2, (.sl true 0 (fun _ => .bad)))] ?_
    refine bD ?_
    refine fX [(2, (.sl true 0 (fun _ => .bad)))] ?_
    refine ZS (el := (fun _ => .bad)) 0 2 3 hO (by kernel_rfl) ?_
    intro lo4 H5 hO
    obtain rfl := oI h0
    exact aG (aP (lA (x := (.msl 3 lo4 0 (List.length ([] : List aB)))) (by kernel_rfl) (aO.refl _) ⟨lo4, rfl, hO⟩))
  · refine bF ?_
    refine bB [(0, (eL aD s0))] ?_
    refine aN ?_
    refine aU aC 4 ?_
    refine nB (xs := []) (k := 3) (by kernel_rfl) (by kernel_rfl) ?_
    refine bS 2 ?_
    obtain ⟨c7, h0⟩ := aS h0
    refine PJ (e := aD) s0 (fun _ => .bad) 3 32 (eL aD s0) (fun lo6 => [(lo6, 3, List.map aD s0)]) (by kernel_rfl) (by kernel_rfl) hO (PI (fun _ => by kernel_rfl)) c7 (fun _ => by kernel_rfl) ?_
    intro lo6 H hO
    refine bA ?_
    refine bB [(2, (.msl 3 lo6 0 (List.length s0)))] ?_
    refine bD ?_
    obtain rfl := oI h0
    exact aG (lA (x := (.msl 3 lo6 0 (List.length s0))) (by kernel_rfl) (aO.refl _) ⟨lo6, rfl, hO⟩)

theorem HF (l0 : (List aI)) (run1 : (List Int)) (r : bJ) (h0 : pH l0 run1 = some r) : dB Try.prog 50 [(eL aH l0), (eL (eI) run1)] (bW r) := by
  intro H0
  refine IE aC Try.func50 (by kernel_rfl) (by kernel_rfl) (by kernel_rfl) ?_
  have hO := aL.start H0
  unfold pH at h0
  refine aN ?_
  refine aU aC 1 ?_
  refine vT 3 (.agg [(eI 0), (eI 0), (.sl true 0 (fun _ => .bad))]) (bW (bJ.mk (cV.mk 0 0) ([]))) (by kernel_rfl) (by kernel_rfl) (by kernel_rfl) (CV (xs := [(eI 0), (eI 0), (.sl true 0 (fun _ => .bad))]) (ys := [(eI 0), (eI 0), (eL dR ([]))]) ⟨aO.refl _, aO.refl _, nQ, trivial⟩) (by kernel_rfl) (by kernel_rfl) hO ?_
  intro lo1 H hO
  refine iF ?_
  refine bP [] [(4, (.lp lo1 0 0))] ?_
  refine aN ?_
  refine eM (eK [10, 16, 5]) aC 14 ?_
  obtain ⟨c2, h0⟩ := aS h0
  obtain ⟨c3, h0⟩ := aS h0
  refine bZ 12 [0 ≤ (0 : Int) ∧ (0 : Int) < (lN run1), 0 ≤ (wR ((lN run1) - (1 : Int))) ∧ (wR ((lN run1) - (1 : Int))) < (lN run1)] ⟨c2, c3, trivial⟩ ?_
  refine WG 3 (.agg [(eI 0), (eI 0), (.sl true 0 (fun _ => .bad))]) (bW (bJ.mk (cV.mk 0 0) ([]))) (CV (xs := [(eI 0), (eI 0), (.sl true 0 (fun _ => .bad))]) (ys := [(eI 0), (eI 0), (eL dR ([]))]) ⟨aO.refl _, aO.refl _, nQ, trivial⟩) hO ?_
  intro lo4 H hO
  refine kB 1 lo4 3 0 (bW (bJ.mk (cV.mk 0 0) ([]))) (.agg [(eI ((cV.mk (gD run1 (0 : Int)) (wR ((gD run1 (wR ((lN run1) - (1 : Int)))) + (1 : Int)))).From)), (eI ((cV.mk (gD run1 (0 : Int)) (wR ((gD run1 (wR ((lN run1) - (1 : Int)))) + (1 : Int)))).To)), (.sl true 0 (fun _ => .bad))]) [(bW (bJ.mk (cV.mk 0 0) ([])))] [(lo1, 3, [(bW (bJ.mk (cV.mk 0 0) ([])))]), (lo4, 3, [(.agg [(eI ((cV.mk (gD run1 (0 : Int)) (wR ((gD run1 (wR ((lN run1) - (1 : Int)))) + (1 : Int)))).From)), (eI ((cV.mk (gD run1 (0 : Int)) (wR ((gD run1 (wR ((lN run1) - (1 : Int)))) + (1 : Int)))).To)), (.sl true 0 (fun _ => .bad))])])] hO rfl (by kernel_rfl) ?_
  intro H hO
  refine mH (by kernel_rfl) ?_
  refine ZN 1 3 lo4 2 2 [(eI ((cV.mk (gD run1 (0 : Int)) (wR ((gD run1 (wR ((lN run1) - (1 : Int)))) + (1 : Int)))).From)), (eI ((cV.mk (gD run1 (0 : Int)) (wR ((gD run1 (wR ((lN run1) - (1 : Int)))) + (1 : Int)))).To)), (.sl true 0 (fun _ => .bad))] (fun _ => .bad) (fun lo5 => [(lo1, 3, [(bW (bJ.mk (cV.mk 0 0) ([])))]), (lo4, 3, [(.agg [(eI ((bJ.mk (cV.mk (gD run1 (0 : Int)) (wR ((gD run1 (wR ((lN run1) - (1 : Int)))) + (1 : Int)))) ([])).Span.From)), (eI ((bJ.mk (cV.mk (gD run1 (0 : Int)) (wR ((gD run1 (wR ((lN run1) - (1 : Int)))) + (1 : Int)))) ([])).Span.To)), (.msl 2 lo5 0 (List.length ([] : List cG)))])]), (lo5, 2, List.map dR ([] : List cG))]) hO (by kernel_rfl) (by kernel_rfl) (fun _ => by kernel_rfl) ?_
  intro lo5 H hO
  refine bB [(0, (eL aH l0)), (4, (.lp lo1 0 0)), (5, (.lp lo4 0 0))] ?_
  refine aN ?_
  refine aN ?_
  refine aU aC 2 ?_
  refine bS 1 ?_
  obtain ⟨x6, hx7, h0⟩ := aV h0
  refine dI (zZ l0 _ hx7) hO ?_
  intro H hO
  refine iF ?_
  refine bP [0] [(21, (.fn (.func 94) [] [(.rp (eL aH x6))]))] ?_
  refine bX 0 ?_
  refine fG [(4, (.lp lo1 0 0)), (5, (.lp lo4 0 0)), (21, (.fn (.func 94) [] [(.rp (eL aH x6))]))] ?_
  refine dS (fun T H => ∃ t4 : bJ, ∃ p5 : bJ, ∃ tF : (List aI), ∃ lo8 : Nat, Has T [(4, (.lp lo1 0 0)), (5, (.lp lo4 0 0)), (21, (.fn (.func 94) [] [(.rp (eL aH tF))]))] ∧ aL ⟨H0, [], []⟩ H [(lo1, 3, [(bW t4)]), (lo4, 3, [(.agg [(eI p5.Span.From), (eI p5.Span.To), (.msl 2 lo8 0 (List.length p5.Rows))])]), (lo8, 2, List.map dR p5.Rows)] ∧ qO t4 p5 tF = some r) ?_ ⟨(bJ.mk (cV.mk 0 0) ([])), bJ.mk (cV.mk (gD run1 (0 : Int)) (wR ((gD run1 (wR ((lN run1) - (1 : Int)))) + (1 : Int)))) ([]), x6, lo5, .eq (by kernel_rfl), hO, h0⟩
  clear hO h0
  rintro T H ⟨t4, p5, tF, lo8, hT, hO, h0⟩
  refine aZ (l := [(4, (.lp lo1 0 0)), (5, (.lp lo4 0 0)), (21, (.fn (.func 94) [] [(.rp (eL aH tF))]))]) hT ?_
  clear hT
  unfold qO at h0
  obtain ⟨o0, hl0, h0⟩ := aV h0
  refine FQ (fid := 94) (ys := []) (cs := [(.rp (eL aH tF))]) #[22] (fun (A : zE) (b lL : Nat) (st : (bJ × bJ) ⊕ (bJ × bJ)) (G' : Gs) => Sum.elim (fun (s : bJ × bJ) => ∃ lo8 : Nat, G' = (lL, .raw (lW b A .ready none)) :: (up [(lo1, 3, [(bW s.1)]), (lo4, 3, [(.agg [(eI s.2.Span.From), (eI s.2.Span.To), (.msl 2 lo8 0 (List.length s.2.Rows))])]), (lo8, 2, List.map dR s.2.Rows)] ++ [])) (fun (s : bJ × bJ) => False) st) (.inl (t4, p5)) o0 (.tup []) (by kernel_rfl) (by kernel_rfl) (by kernel_rfl) hO (fun _ _ => ⟨lo8, rfl⟩) ?_ ?_
  · intro b lL
    clear hO h0
    refine wQ _ b (fun st t22 => rnd (fun (s : bJ × bJ) => mO tF s.1 s.2 t22) st) ?_ tF _ _ hl0
    intro st t22 out1 rr hr
    obtain ⟨s, rfl, h1, rfl⟩ := WS hr
    clear hr
    intro Hr Gr hi hg
    obtain ⟨t4, p5⟩ := s
    dsimp only [Sum.elim_inl] at hi
    obtain ⟨lo8, rfl⟩ := hi
    replace h1 : mO tF t4 p5 t22 = some out1 := h1
    unfold mO at h1
    obtain ⟨E1, hE, hO⟩ := zP hg
    refine zI (FI (hO.gm 0 _ rfl).2 (by kernel_rfl) (by kernel_rfl) ?_)
    refine fG [(4, (.lp lo1 0 0)), (5, (.lp lo4 0 0)), (21, (.fn (.func 94) [] [(.rp (eL aH tF))])), (22, (aH t22))] ?_
    refine aU aC 2 ?_
    refine vT 3 (.agg [(.sl true 0 (fun _ => .bad)), (eI 0), (eI 0)]) (aH (aI.mk ([]) 0 0)) (by kernel_rfl) (by kernel_rfl) (by kernel_rfl) (CV (xs := [(.sl true 0 (fun _ => .bad)), (eI 0), (eI 0)]) (ys := [(eL aD ([])), (eI 0), (eI 0)]) ⟨nQ, aO.refl _, aO.refl _, trivial⟩) (by kernel_rfl) (by kernel_rfl) hO ?_
    intro lo9 H hO
    refine qP 3 lo9 3 0 (aH (aI.mk ([]) 0 0)) (aH t22) [(aH (aI.mk ([]) 0 0))] [(lo1, 3, [(bW t4)]), (lo4, 3, [(.agg [(eI p5.Span.From), (eI p5.Span.To), (.msl 2 lo8 0 (List.length p5.Rows))])]), (lo8, 2, List.map dR p5.Rows), (lo9, 3, [(aH t22)])] hO rfl (by kernel_rfl) ?_
    intro H hO
    refine iF ?_
    refine fX [(4, (.lp lo1 0 0)), (5, (.lp lo4 0 0)), (6, (.lp lo9 0 0))] ?_
    refine aG (⟨rfl, rfl, (hO.gm 0 _ rfl).2, ?_⟩)
    intro o1 ho1
    replace hO := hO.AI o1
    refine bX 1 ?_
    refine aN ?_
    refine aN ?_
    refine aU aC 14 ?_
    refine bS 1 ?_
    refine qN 3 lo9 3 0 (aH t22) (eI t22.At) [(aH t22)] hO rfl ?_
    refine bS 4 ?_
    refine qN 1 lo4 3 0 (.agg [(eI p5.Span.From), (eI p5.Span.To), (.msl 2 lo8 0 (List.length p5.Rows))]) (eI p5.Span.From) [(.agg [(eI p5.Span.From), (eI p5.Span.To), (.msl 2 lo8 0 (List.length p5.Rows))])] hO rfl ?_
    refine bS 8 ?_
    refine rU [(29, false)] 3 lo9 3 0 (aH t22) (eI t22.At) [(aH t22)] (by kernel_rfl) (by kernel_rfl) hO (by kernel_rfl) (!(decide (t22.At < p5.Span.From))) (by kernel_rfl) (fun hb10 => rfl) ?_
    refine bS 11 ?_
    refine rU [(29, false)] 1 lo4 3 0 (.agg [(eI p5.Span.From), (eI p5.Span.To), (.msl 2 lo8 0 (List.length p5.Rows))]) (eI p5.Span.To) [(.agg [(eI p5.Span.From), (eI p5.Span.To), (.msl 2 lo8 0 (List.length p5.Rows))])] (by kernel_rfl) (by kernel_rfl) hO (by kernel_rfl) (!(decide (t22.At < p5.Span.From))) (by kernel_rfl) (fun _ => rfl) ?_
    refine bA ?_
    refine bP [] [(36, (aE ((decide (t22.At < p5.Span.From)) || (decide (p5.Span.To ≤ t22.At)))))] ?_
    refine bE h1 (fun h1 => ?_) (fun h1 => ?_)
    · refine fB 1 ?_
      refine fX [(4, (.lp lo1 0 0)), (5, (.lp lo4 0 0))] ?_
      replace hO := hO.pick (L' := [(lo1, 3, [(bW t4)]), (lo4, 3, [(.agg [(eI p5.Span.From), (eI p5.Span.To), (.msl 2 lo8 0 (List.length p5.Rows))])]), (lo8, 2, List.map dR p5.Rows)]) [0, 1, 2] (by decide) (by kernel_rfl)
      obtain rfl := oI h1
      exact aG (aT (bO (⟨(mF hO hE ho1 .dead).1, rfl, _, ⟨lo8, rfl⟩, (mF hO hE ho1 _).2⟩)))
    refine bF ?_
    refine bB [(4, (.lp lo1 0 0)), (5, (.lp lo4 0 0)), (6, (.lp lo9 0 0))] ?_
    refine aN ?_
    refine aU aC 5 ?_
    refine bS 1 ?_
    refine qN 1 lo4 3 0 (.agg [(eI p5.Span.From), (eI p5.Span.To), (.msl 2 lo8 0 (List.length p5.Rows))]) (.msl 2 lo8 0 (List.length p5.Rows)) [(.agg [(eI p5.Span.From), (eI p5.Span.To), (.msl 2 lo8 0 (List.length p5.Rows))])] hO rfl ?_
    refine bA ?_
    refine bP [] [(7, (eI (wR ((lN p5.Rows) - (1 : Int)))))] ?_
    refine aN ?_
    refine aN ?_
    obtain ⟨c12, h1⟩ := aS h1
    obtain ⟨x13, hx14, h1⟩ := aV h1
    refine eM (eK []) aC 13 ?_
    refine mW (K := fun T H => Has (lift T) [(4, (.lp lo1 0 0)), (5, (.lp lo4 0 0)), (6, (.lp lo9 0 0)), (7, (eI (wR ((lN p5.Rows) - (1 : Int))))), (53, (aE ((decide ((0 : Int) ≤ (wR ((lN p5.Rows) - (1 : Int))))) && x13)))] ∧ aL ⟨Hr, E1, (lL, o1) :: []⟩ H [(lo1, 3, [(bW t4)]), (lo4, 3, [(.agg [(eI p5.Span.From), (eI p5.Span.To), (.msl 2 lo8 0 (List.length p5.Rows))])]), (lo8, 2, List.map dR p5.Rows), (lo9, 3, [(aH t22)])]) ?_ ?_
    · refine kP 3 ?_
      refine lG (t := 43) (e := decide ((0 : Int) ≤ (wR ((lN p5.Rows) - (1 : Int))))) (by kernel_rfl) (fun hg15 => ?_) (fun hg15 => ?_)
      · refine kP 4 ?_
        refine gZ 1 lo4 3 0 (.agg [(eI p5.Span.From), (eI p5.Span.To), (.msl 2 lo8 0 (List.length p5.Rows))]) (.msl 2 lo8 0 (List.length p5.Rows)) [(.agg [(eI p5.Span.From), (eI p5.Span.To), (.msl 2 lo8 0 (List.length p5.Rows))])] (by kernel_rfl) (by kernel_rfl) (by kernel_rfl) hO (by kernel_rfl) rfl ?_
        refine bZ 8 [0 ≤ (wR ((lN p5.Rows) - (1 : Int))) ∧ (wR ((lN p5.Rows) - (1 : Int))) < (lN p5.Rows)] ⟨(c12 hg15), trivial⟩ ?_
        refine gZ 2 lo8 2 (0 + Int.toNat (wR ((lN p5.Rows) - (1 : Int)))) (dR (gD p5.Rows (wR ((lN p5.Rows) - (1 : Int))))) (eL aD ((gD p5.Rows (wR ((lN p5.Rows) - (1 : Int)))).Row)) (List.map dR p5.Rows) (by kernel_rfl) (by kernel_rfl) (by kernel_rfl) hO (by kernel_rfl) (bR (c12 hg15)) ?_
        refine kP 10 ?_
        refine gZ 3 lo9 3 0 (aH t22) (eL aD t22.Row) [(aH t22)] (by kernel_rfl) (by kernel_rfl) (by kernel_rfl) hO (by kernel_rfl) rfl ?_
        refine mL 72 [(eL aD ((gD p5.Rows (wR ((lN p5.Rows) - (1 : Int)))).Row)), (eL aD t22.Row)] (aE x13) (by kernel_rfl) (by kernel_rfl) (nW ((gD p5.Rows (wR ((lN p5.Rows) - (1 : Int)))).Row) t22.Row _ (jJ hx14 hg15)) hO ?_
        intro H hO
        refine iH ?_
        exact ⟨⟨[(4, (.lp lo1 0 0)), (5, (.lp lo4 0 0)), (6, (.lp lo9 0 0)), (7, (eI (wR ((lN p5.Rows) - (1 : Int))))), (53, (aE x13))], by kernel_rfl, rfl, ⟨aO.refl _, aO.refl _, aO.refl _, aO.refl _, aO.eq (congrArg aE (jA hg15 rfl).symm), trivial⟩⟩, hO⟩
      refine iH ?_
      exact ⟨⟨[(4, (.lp lo1 0 0)), (5, (.lp lo4 0 0)), (6, (.lp lo9 0 0)), (7, (eI (wR ((lN p5.Rows) - (1 : Int))))), (53, (aE false))], by kernel_rfl, rfl, ⟨aO.refl _, aO.refl _, aO.refl _, aO.refl _, aO.eq (congrArg aE (jA hg15 rfl).symm), trivial⟩⟩, hO⟩
    · rintro T H ⟨hT, hO⟩
      refine dA hT ?_
      clear hT
      refine aG (aF ?_)
      refine bE h1 (fun h1 => ?_) (fun h1 => ?_)
      · refine aN ?_
        refine eM (eK []) aC 12 ?_
        refine kP 1 ?_
        refine fL 1 lo4 3 0 (.agg [(eI p5.Span.From), (eI p5.Span.To), (.msl 2 lo8 0 (List.length p5.Rows))]) (.msl 2 lo8 0 (List.length p5.Rows)) [(.agg [(eI p5.Span.From), (eI p5.Span.To), (.msl 2 lo8 0 (List.length p5.Rows))])] hO rfl ?_
        obtain ⟨c17, h1⟩ := aS h1
        refine bZ 5 [0 ≤ (wR ((lN p5.Rows) - (1 : Int))) ∧ (wR ((lN p5.Rows) - (1 : Int))) < (lN p5.Rows)] ⟨c17, trivial⟩ ?_
        refine fL 2 lo8 2 (0 + Int.toNat (wR ((lN p5.Rows) - (1 : Int)))) (dR (gD p5.Rows (wR ((lN p5.Rows) - (1 : Int))))) (eI ((gD p5.Rows (wR ((lN p5.Rows) - (1 : Int)))).N)) (List.map dR p5.Rows) hO (bR c17) ?_
        refine kP 7 ?_
        refine fL 3 lo9 3 0 (aH t22) (eI t22.Net) [(aH t22)] hO rfl ?_
        obtain ⟨c18, h1⟩ := aS h1
        refine bZ 11 [0 ≤ (wR ((lN p5.Rows) - (1 : Int))) ∧ (wR ((lN p5.Rows) - (1 : Int))) < (lN p5.Rows)] ⟨c18, trivial⟩ ?_
        refine kB 2 lo8 2 (0 + Int.toNat (wR ((lN p5.Rows) - (1 : Int)))) (dR (gD p5.Rows (wR ((lN p5.Rows) - (1 : Int))))) (dR (cG.mk (gD p5.Rows (wR ((lN p5.Rows) - (1 : Int)))).Row (wR (((gD p5.Rows (wR ((lN p5.Rows) - (1 : Int)))).N) + t22.Net)))) (List.map dR p5.Rows) [(lo1, 3, [(bW t4)]), (lo4, 3, [(.agg [(eI p5.Span.From), (eI p5.Span.To), (.msl 2 lo8 0 (List.length p5.Rows))])]), (lo8, 2, List.map dR (List.set p5.Rows (Int.toNat (wR ((lN p5.Rows) - (1 : Int)))) (cG.mk (gD p5.Rows (wR ((lN p5.Rows) - (1 : Int)))).Row (wR (((gD p5.Rows (wR ((lN p5.Rows) - (1 : Int)))).N) + t22.Net))))), (lo9, 3, [(aH t22)])] hO (bR c18) (by simp only [List.set, gE]) ?_
        intro H hO
        refine mH (by kernel_rfl) ?_
        replace hO : aL ⟨Hr, E1, (lL, o1) :: []⟩ H [(lo1, 3, [(bW t4)]), (lo4, 3, [(.agg [(eI ((bJ.mk p5.Span (List.set p5.Rows (Int.toNat (wR ((lN p5.Rows) - (1 : Int)))) (cG.mk (gD p5.Rows (wR ((lN p5.Rows) - (1 : Int)))).Row (wR (((gD p5.Rows (wR ((lN p5.Rows) - (1 : Int)))).N) + t22.Net))))).Span.From)), (eI ((bJ.mk p5.Span (List.set p5.Rows (Int.toNat (wR ((lN p5.Rows) - (1 : Int)))) (cG.mk (gD p5.Rows (wR ((lN p5.Rows) - (1 : Int)))).Row (wR (((gD p5.Rows (wR ((lN p5.Rows) - (1 : Int)))).N) + t22.Net))))).Span.To)), (.msl 2 lo8 0 (List.length (List.set p5.Rows (Int.toNat (wR ((lN p5.Rows) - (1 : Int)))) (cG.mk (gD p5.Rows (wR ((lN p5.Rows) - (1 : Int)))).Row (wR (((gD p5.Rows (wR ((lN p5.Rows) - (1 : Int)))).N) + t22.Net))))))])]), (lo8, 2, List.map dR (List.set p5.Rows (Int.toNat (wR ((lN p5.Rows) - (1 : Int)))) (cG.mk (gD p5.Rows (wR ((lN p5.Rows) - (1 : Int)))).Row (wR (((gD p5.Rows (wR ((lN p5.Rows) - (1 : Int)))).N) + t22.Net))))), (lo9, 3, [(aH t22)])] := by simpa only [List.length_set] using hO
        replace hO := hO.pick (L' := [(lo1, 3, [(bW t4)]), (lo4, 3, [(.agg [(eI ((bJ.mk p5.Span (List.set p5.Rows (Int.toNat (wR ((lN p5.Rows) - (1 : Int)))) (cG.mk (gD p5.Rows (wR ((lN p5.Rows) - (1 : Int)))).Row (wR (((gD p5.Rows (wR ((lN p5.Rows) - (1 : Int)))).N) + t22.Net))))).Span.From)), (eI ((bJ.mk p5.Span (List.set p5.Rows (Int.toNat (wR ((lN p5.Rows) - (1 : Int)))) (cG.mk (gD p5.Rows (wR ((lN p5.Rows) - (1 : Int)))).Row (wR (((gD p5.Rows (wR ((lN p5.Rows) - (1 : Int)))).N) + t22.Net))))).Span.To)), (.msl 2 lo8 0 (List.length (List.set p5.Rows (Int.toNat (wR ((lN p5.Rows) - (1 : Int)))) (cG.mk (gD p5.Rows (wR ((lN p5.Rows) - (1 : Int)))).Row (wR (((gD p5.Rows (wR ((lN p5.Rows) - (1 : Int)))).N) + t22.Net))))))])]), (lo8, 2, List.map dR (List.set p5.Rows (Int.toNat (wR ((lN p5.Rows) - (1 : Int)))) (cG.mk (gD p5.Rows (wR ((lN p5.Rows) - (1 : Int)))).Row (wR (((gD p5.Rows (wR ((lN p5.Rows) - (1 : Int)))).N) + t22.Net)))))]) [0, 1, 2] (by decide) (by kernel_rfl)
        refine bP [6, 7, 53] [] ?_
        refine fB 1 ?_
        refine fX [(4, (.lp lo1 0 0)), (5, (.lp lo4 0 0))] ?_
        obtain rfl := oI h1
        exact aG (aT (bO (⟨(mF hO hE ho1 .dead).1, rfl, _, ⟨lo8, rfl⟩, (mF hO hE ho1 _).2⟩)))
      refine bF ?_
      refine bB [(4, (.lp lo1 0 0)), (5, (.lp lo4 0 0)), (6, (.lp lo9 0 0))] ?_
      refine TG 2 3 6 3 lo9 (aH t22) [(lo1, 3, [(bW t4)]), (lo4, 3, [(.agg [(eI p5.Span.From), (eI p5.Span.To), (.msl 2 lo8 0 (List.length p5.Rows))])]), (lo8, 2, List.map dR p5.Rows)] hO (by kernel_rfl) (by kernel_rfl) (by kernel_rfl) ?_
      intro H hO
      refine eM (eK [68, 69, 71, 73]) aC 12 ?_
      refine kP 1 ?_
      refine fL 1 lo4 3 0 (.agg [(eI p5.Span.From), (eI p5.Span.To), (.msl 2 lo8 0 (List.length p5.Rows))]) (.msl 2 lo8 0 (List.length p5.Rows)) [(.agg [(eI p5.Span.From), (eI p5.Span.To), (.msl 2 lo8 0 (List.length p5.Rows))])] hO rfl ?_
      refine kP 4 ?_
      obtain ⟨x19, hx20, h1⟩ := aV h1
      refine PW 41 [(eL aD t22.Row)] (eL aD x19) (by kernel_rfl) (by kernel_rfl) (wN.frozen (uN t22.Row _ hx20)) hO ?_
      intro H hO
      refine kP 8 ?_
      refine RJ (xs := [(dR (cG.mk x19 t22.Net))]) (k := 2) (by kernel_rfl) (by kernel_rfl) ?_
      obtain ⟨c23, h1⟩ := aS h1
      refine IW (e := dR) p5.Rows ([cG.mk x19 t22.Net]) 2 lo8 2 32 (iY [(dR (cG.mk x19 t22.Net))]) (fun lo22 => [(lo1, 3, [(bW t4)]), (lo4, 3, [(.agg [(eI p5.Span.From), (eI p5.Span.To), (.msl 2 lo8 0 (List.length p5.Rows))])]), (lo22, 2, List.map dR (p5.Rows ++ ([cG.mk x19 t22.Net])))]) (by kernel_rfl) (by kernel_rfl) hO (by kernel_rfl) (by kernel_rfl) c23 (fun _ => by kernel_rfl) ?_
      intro lo22 H hO
      refine kP 11 ?_
      refine kB 1 lo4 3 0 (.agg [(eI p5.Span.From), (eI p5.Span.To), (.msl 2 lo8 0 (List.length p5.Rows))]) (.agg [(eI ((bJ.mk p5.Span (p5.Rows ++ ([cG.mk x19 t22.Net]))).Span.From)), (eI ((bJ.mk p5.Span (p5.Rows ++ ([cG.mk x19 t22.Net]))).Span.To)), (.msl 2 lo22 0 (List.length (p5.Rows ++ ([cG.mk x19 t22.Net]))))]) [(.agg [(eI p5.Span.From), (eI p5.Span.To), (.msl 2 lo8 0 (List.length p5.Rows))])] [(lo1, 3, [(bW t4)]), (lo4, 3, [(.agg [(eI ((bJ.mk p5.Span (p5.Rows ++ ([cG.mk x19 t22.Net]))).Span.From)), (eI ((bJ.mk p5.Span (p5.Rows ++ ([cG.mk x19 t22.Net]))).Span.To)), (.msl 2 lo22 0 (List.length (p5.Rows ++ ([cG.mk x19 t22.Net]))))])]), (lo22, 2, List.map dR (p5.Rows ++ ([cG.mk x19 t22.Net])))] hO rfl (by kernel_rfl) ?_
      intro H hO
      refine mH (by kernel_rfl) ?_
      refine fX [(4, (.lp lo1 0 0)), (5, (.lp lo4 0 0))] ?_
      obtain rfl := oI h1
      exact aG (aW (⟨(mF hO hE ho1 .dead).1, rfl, _, ⟨lo22, rfl⟩, (mF hO hE ho1 _).2⟩))
  · intro b lD24 lL H' G' hi hO
    rcases o0 with s | s
    · dsimp only [Sum.elim_inl] at hi
      obtain ⟨lo8, rfl⟩ := hi
      replace h0 : (some s.2) = some r := h0
      obtain ⟨hlL, hO⟩ := xN hO
      refine ⟨_, _, hlL, (by intro e; cases e), ?_⟩
      refine fX [(4, (.lp lo1 0 0)), (5, (.lp lo4 0 0))] ?_
      refine aG (aW (aF (?_)))
      refine aN ?_
      refine OJ (e := dR) s.2.Rows 1 2 3 2 lo4 lo8 (List.length s.2.Rows) 2 [(eI s.2.Span.From), (eI s.2.Span.To), (.msl 2 lo8 0 (List.length s.2.Rows))] [(lo1, 3, [(bW s.1)]), (lo4, 3, [(bW s.2)])] hO (by kernel_rfl) (by kernel_rfl) (by kernel_rfl) (by kernel_rfl) (by kernel_rfl) (by kernel_rfl) ?_
      intro H hO
      refine aU aC 2 ?_
      refine qN 1 lo4 3 0 (bW s.2) (bW s.2) [(bW s.2)] hO rfl ?_
      refine qP 0 lo1 3 0 (bW s.1) (bW s.2) [(bW s.1)] [(lo1, 3, [(bW s.2)]), (lo4, 3, [(bW s.2)])] hO rfl (by kernel_rfl) ?_
      intro H hO
      refine iF ?_
      refine fX [(4, (.lp lo1 0 0))] ?_
      replace hO := hO.pick (L' := [(lo1, 3, [(bW s.2)])]) [0] (by decide) (by kernel_rfl)
      refine aG (aF (?_))
      refine bD ?_
      obtain rfl := oI h0
      have hD := (hO.gm 0 _ rfl).2
      replace hO := (hO.AI .dead).BG
      exact aG (QM1 (.inr rfl) hD (rs := [.cell 4 38]) (xs := [(bW s.2)]) (x := (bW s.2)) (by kernel_rfl) (DT (lo := lo1) (k := 3) (y := (bW s.2)) (x := (bW s.2)) 0 hO (by kernel_rfl) (by kernel_rfl) (by kernel_rfl) (by kernel_rfl) DQ) (by kernel_rfl) ⟨rfl, hO.out⟩)
    · exact hi.elim

theorem JD (l0 : (List aI)) (n1 : Int) (vI : Int) (r : ((List bJ) × Int)) (h0 : qG l0 n1 vI = some r) : dB Try.prog 25 [(eL aH l0), (eI n1), (eI vI)] (.tup [(eL bW r.1), (eI r.2)]) := by
  intro H0
  refine cZ Try.func25 ?_
  have hO := aL.start H0
  unfold qG at h0
  refine aR aC 2 [] [] ?_
  refine aN ?_
  refine aN ?_
  refine aU aC 4 ?_
  refine bS 2 ?_
  obtain ⟨x1, hx2, h0⟩ := aV h0
  refine dI (yB l0 n1 _ hx2) hO ?_
  intro H hO
  refine bA ?_
  refine bP [] [(8, (eI x1))] ?_
  refine aR aC 2 [] [(18, (aE (!decide (x1 = (0 : Int)))))] ?_
  refine bE h0 (fun h0 => ?_) (fun h0 => ?_)
  · refine bQ aC 3 [(6, (.sl true 0 (fun _ => .bad))), (7, (eI x1))] ?_
    refine bD ?_
    refine dA (l := [(6, (eL bW ([]))), (7, (eI x1))]) ⟨[(6, (.sl true 0 (fun _ => .bad))), (7, (eI x1))], by kernel_rfl, rfl, ⟨nQ, aO.refl _, trivial⟩⟩ ?_
    obtain rfl := oI h0
    exact aG (aP (Q_r hO))
  refine bF ?_
  refine bB [(0, (eL aH l0)), (1, (eI n1)), (2, (eI vI))] ?_
  refine aN ?_
  refine aR aC 6 [] [(25, (aE ((decide (vI < (0 : Int))) || (decide ((1125899906842624 : Int) < vI)))))] ?_
  refine bE h0 (fun h0 => ?_) (fun h0 => ?_)
  · refine bQ aC 2 [(6, (.sl true 0 (fun _ => .bad))), (7, (eI (13 : Int)))] ?_
    refine bD ?_
    refine dA (l := [(6, (eL bW ([]))), (7, (eI (13 : Int)))]) ⟨[(6, (.sl true 0 (fun _ => .bad))), (7, (eI (13 : Int)))], by kernel_rfl, rfl, ⟨nQ, aO.refl _, trivial⟩⟩ ?_
    obtain rfl := oI h0
    exact aG (aP (Q_r hO))
  refine bF ?_
  refine bB [(0, (eL aH l0)), (1, (eI n1)), (2, (eI vI))] ?_
  refine aN ?_
  refine aU aC 3 ?_
  refine bS 1 ?_
  obtain ⟨x6, hx7, h0⟩ := aV h0
  refine dI (vP l0 _ hx7) hO ?_
  intro H hO
  refine bA ?_
  refine bP [] [(9, (eL (eI) x6))] ?_
  refine aN ?_
  refine aU aC 8 ?_
  refine bS 2 ?_
  obtain ⟨x9, hx10, h0⟩ := aV h0
  refine dI (pN x6 vI _ hx10) hO ?_
  intro H hO
  refine bA ?_
  refine bP [2] [(10, (eI x9.1))] ?_
  refine aN ?_
  refine aU aC 8 ?_
  obtain ⟨c12, h0⟩ := aS h0
  refine lV [0 ≤ x9.1 ∧ x9.1 ≤ (lN x6) ∧ (lN x6) ≤ (lN x6) ∧ (lN x6) ≤ (lN x6)] ⟨c12, trivial⟩ ?_
  refine dA (l := [(0, (eL aH l0)), (1, (eI n1)), (12, (eL (eI) (List.drop (Int.toNat x9.1) (List.take (Int.toNat (lN x6)) x6))))]) ⟨[(0, (eL aH l0)), (1, (eI n1)), (12, (.sl false (Int.toNat (lN x6) - Int.toNat x9.1) (fun i => (eI) (List.getD x6 (Int.toNat x9.1 + i) default))))], by kernel_rfl, rfl, ⟨aO.refl _, aO.refl _, ZZ (Int.toNat_le.2 (Int.le_trans (And.left (And.right (And.right c12))) (And.right (And.right (And.right c12))))), trivial⟩⟩ ?_
  refine aG (aF (?_))
  refine aN ?_
  refine aR aC 6 [] [(46, (aE (decide ((1024 : Int) < (wR ((wR ((lN (List.drop (Int.toNat x9.1) (List.take (Int.toNat (lN x6)) x6))) - n1)) + (1 : Int)))))))] ?_
  refine bE h0 (fun h0 => ?_) (fun h0 => ?_)
  · refine bQ aC 2 [(6, (.sl true 0 (fun _ => .bad))), (7, (eI (7 : Int)))] ?_
    refine bD ?_
    refine dA (l := [(6, (eL bW ([]))), (7, (eI (7 : Int)))]) ⟨[(6, (.sl true 0 (fun _ => .bad))), (7, (eI (7 : Int)))], by kernel_rfl, rfl, ⟨nQ, aO.refl _, trivial⟩⟩ ?_
    obtain rfl := oI h0
    exact aG (aP (Q_r hO))
  refine bF ?_
  refine bB [(0, (eL aH l0)), (1, (eI n1)), (12, (eL (eI) (List.drop (Int.toNat x9.1) (List.take (Int.toNat (lN x6)) x6))))] ?_
  refine aN ?_
  refine aU aC 2 ?_
  refine nB (xs := []) (k := 3) (by kernel_rfl) (by kernel_rfl) ?_
  refine bA ?_
  refine bP [] [(13, (.sl true 0 (fun _ => .bad)))] ?_
  refine dZ (fun T H => ∃ jH : List bJ, ∃ lo14 : Nat, Has T [(13, (.msl 3 lo14 0 (List.length jH)))] ∧ aL ⟨H0, [], []⟩ H [(lo14, 3, List.map bW jH)] ∧ rX jH = some r) ?_ ?_
  · clear hO h0
    rintro T H ⟨jH, lo14, hT, hO, h0⟩
    refine aZ hT ?_
    clear hT
    unfold rX at h0
    refine bQ aC 3 [(6, (.msl 3 lo14 0 (List.length jH))), (7, (eI (0 : Int)))] ?_
    refine bD ?_
    refine fX [(6, (.msl 3 lo14 0 (List.length jH))), (7, (eI (0 : Int)))] ?_
    refine uU (en := bW) jH 0 0 6 3 lo14 (List.length jH) hO (by kernel_rfl) (by kernel_rfl) (by kernel_rfl) (L' := []) (by kernel_rfl) ?_
    intro H15 hO
    obtain rfl := oI h0
    exact aG (Q_r hO)
  refine bX 0 ?_
  refine fG [(0, (eL aH l0)), (1, (eI n1)), (12, (eL (eI) (List.drop (Int.toNat x9.1) (List.take (Int.toNat (lN x6)) x6)))), (13, (.sl true 0 (fun _ => .bad)))] ?_
  refine zX (el := (fun _ => .bad)) 3 13 3 hO (by kernel_rfl) ?_
  intro lo26 H27 hO
  refine dS (fun T H => ∃ kM : (List Int), ∃ jH : List bJ, ∃ lo17 : Nat, Has T [(0, (eL aH l0)), (1, (eI n1)), (12, (eL (eI) kM)), (13, (.msl 3 lo17 0 (List.length jH)))] ∧ aL ⟨H0, [], []⟩ H [(lo17, 3, List.map bW jH)] ∧ rY l0 n1 kM jH = some r) ?_ ⟨List.drop (Int.toNat x9.1) (List.take (Int.toNat (lN x6)) x6), ([] : List bJ), lo26, .eq (by kernel_rfl), hO, h0⟩
  clear hO h0
  rintro T H ⟨kM, jH, lo17, hT, hO, h0⟩
  refine aZ hT ?_
  clear hT
  unfold rY at h0
  obtain ⟨rr0, hl0, h0⟩ := aV h0
  refine cQ (by kernel_rfl) (fun (s : (List Int) × List bJ) T H => ∃ lo17 : Nat, Has T [(0, (eL aH l0)), (1, (eI n1)), (12, (eL (eI) s.1)), (13, (.msl 3 lo17 0 (List.length s.2)))] ∧ aL ⟨H0, [], []⟩ H [(lo17, 3, List.map bW s.2)]) hl0 ⟨lo17, .eq (by kernel_rfl), hO⟩ ?_
  clear hO
  rintro k0 s out1 T H ⟨lo17, hT, hO⟩ h1 ho0
  obtain ⟨kM, jH⟩ := s
  replace h1 : kR l0 n1 kM jH = some out1 := h1
  try dsimp only at hT
  refine aZ hT ?_
  clear hT
  unfold kR at h1
  refine aN ?_
  refine aR aC 4 [] [(51, (aE (decide (n1 ≤ (lN kM)))))] ?_
  refine bE h1 (fun h1 => ?_) (fun h1 => ?_)
  · refine bF ?_
    refine bB [(0, (eL aH l0)), (1, (eI n1)), (12, (eL (eI) kM)), (13, (.msl 3 lo17 0 (List.length jH)))] ?_
    refine bX 1 ?_
    refine aN ?_
    refine aU aC 10 ?_
    refine bS 5 ?_
    obtain ⟨c19, h1⟩ := aS h1
    refine WA (n' := List.length kM) (el := fun i => (eI) (List.getD kM i default)) c19 ?_
    obtain ⟨x20, hx21, h1⟩ := aV h1
    refine aAO 50 [(eL aH l0), (.sl false (Int.toNat n1) (fun i => (eI) (List.getD kM i default)))] (bW x20) (dB.sub (HF l0 (List.take (Int.toNat n1) kM) _ hx21) ⟨aO.refl _, PY (Int.toNat_le.2 (Int.le_trans (And.left (And.right c19)) (And.right (And.right c19)))), trivial⟩) hO ?_
    intro H hO
    refine nB (xs := [(bW x20)]) (k := 3) (by kernel_rfl) (by kernel_rfl) ?_
    obtain ⟨c24, h1⟩ := aS h1
    refine tD (e := bW) jH ([x20]) 0 lo17 3 40 (iY [(bW x20)]) (fun lo23 => [(lo23, 3, List.map bW (jH ++ ([x20])))]) (by kernel_rfl) (by kernel_rfl) hO (by kernel_rfl) (by kernel_rfl) c24 (fun _ => by kernel_rfl) ?_
    intro lo23 H hO
    refine bA ?_
    refine bP [13] [(13, (.msl 3 lo23 0 (List.length (jH ++ ([x20])))))] ?_
    refine aU aC 3 ?_
    obtain ⟨c25, h1⟩ := aS h1
    refine lV [0 ≤ (1 : Int) ∧ (1 : Int) ≤ (lN kM)] ⟨c25, trivial⟩ ?_
    refine dA (l := [(0, (eL aH l0)), (1, (eI n1)), (12, (eL (eI) (List.drop (Int.toNat (1 : Int)) kM))), (13, (.msl 3 lo23 0 (List.length (jH ++ ([x20])))))]) ⟨[(0, (eL aH l0)), (1, (eI n1)), (12, (.sl false (List.length kM - Int.toNat (1 : Int)) (fun i => (eI) (List.getD kM (Int.toNat (1 : Int) + i) default)))), (13, (.msl 3 lo23 0 (List.length (jH ++ ([x20])))))], by kernel_rfl, rfl, ⟨aO.refl _, aO.refl _, XX, aO.refl _, trivial⟩⟩ ?_
    exact aG (aW (aF (⟨rfl, _, (oI h1).symm, _, .eq (by kernel_rfl), hO⟩)))
  refine fB 0 ?_
  obtain rfl := oI h1
  obtain rfl : _ = rr0 := ho0
  replace h0 : rX jH = some r := h0
  exact aG (aT (aT (bO (aF (⟨rfl, _, _, .eq (by kernel_rfl), hO, h0⟩)))))

theorem DD  (r : Bool) (h0 : pZ  = some r) : dB Try.prog 20 [] (aE r) := by
  intro H0
  refine cZ Try.func20 ?_
  have hO := aL.start H0
  unfold pZ at h0
  refine bQ aC 1 [] ?_
  refine aN ?_
  refine aU aC 3 ?_
  refine bS 1 ?_
  refine nB (xs := [(aD (aB.mk (1 : Int) (1 : Int) ByteArray.empty))]) (k := 3) (by kernel_rfl) (by kernel_rfl) ?_
  refine bA ?_
  refine dA (l := [(1, (eL aD ([aB.mk (1 : Int) (1 : Int) ByteArray.empty])))]) ⟨[(1, (iY [(aD (aB.mk (1 : Int) (1 : Int) ByteArray.empty))]))], by kernel_rfl, rfl, ⟨GD (l := [aB.mk (1 : Int) (1 : Int) ByteArray.empty]), trivial⟩⟩ ?_
  refine aG (aF (?_))
  refine aN ?_
  refine aU aC 3 ?_
  refine bS 1 ?_
  refine nB (xs := [(aD (aB.mk (1 : Int) (2 : Int) ByteArray.empty))]) (k := 3) (by kernel_rfl) (by kernel_rfl) ?_
  refine bA ?_
  refine dA (l := [(1, (eL aD ([aB.mk (1 : Int) (1 : Int) ByteArray.empty]))), (2, (eL aD ([aB.mk (1 : Int) (2 : Int) ByteArray.empty])))]) ⟨[(1, (eL aD ([aB.mk (1 : Int) (1 : Int) ByteArray.empty]))), (2, (iY [(aD (aB.mk (1 : Int) (2 : Int) ByteArray.empty))]))], by kernel_rfl, rfl, ⟨aO.refl _, GD (l := [aB.mk (1 : Int) (2 : Int) ByteArray.empty]), trivial⟩⟩ ?_
  refine aG (aF (?_))
  refine aN ?_
  refine aU aC 10 ?_
  refine bS 8 ?_
  refine nB (xs := [(aH (aI.mk ([aB.mk (1 : Int) (1 : Int) ByteArray.empty]) (2 : Int) (1 : Int))), (aH (aI.mk ([aB.mk (1 : Int) (2 : Int) ByteArray.empty]) (5 : Int) (1 : Int))), (aH (aI.mk ([aB.mk (1 : Int) (2 : Int) ByteArray.empty]) (7 : Int) (-1 : Int))), (aH (aI.mk ([aB.mk (1 : Int) (2 : Int) ByteArray.empty]) (8 : Int) (1 : Int)))]) (k := 3) (by kernel_rfl) (by kernel_rfl) ?_
  refine bA ?_
  refine dA (l := [(3, (eL aH ([aI.mk ([aB.mk (1 : Int) (1 : Int) ByteArray.empty]) (2 : Int) (1 : Int), aI.mk ([aB.mk (1 : Int) (2 : Int) ByteArray.empty]) (5 : Int) (1 : Int), aI.mk ([aB.mk (1 : Int) (2 : Int) ByteArray.empty]) (7 : Int) (-1 : Int), aI.mk ([aB.mk (1 : Int) (2 : Int) ByteArray.empty]) (8 : Int) (1 : Int)])))]) ⟨[(3, (iY [(aH (aI.mk ([aB.mk (1 : Int) (1 : Int) ByteArray.empty]) (2 : Int) (1 : Int))), (aH (aI.mk ([aB.mk (1 : Int) (2 : Int) ByteArray.empty]) (5 : Int) (1 : Int))), (aH (aI.mk ([aB.mk (1 : Int) (2 : Int) ByteArray.empty]) (7 : Int) (-1 : Int))), (aH (aI.mk ([aB.mk (1 : Int) (2 : Int) ByteArray.empty]) (8 : Int) (1 : Int)))]))], by kernel_rfl, rfl, ⟨GD (l := [aI.mk ([aB.mk (1 : Int) (1 : Int) ByteArray.empty]) (2 : Int) (1 : Int), aI.mk ([aB.mk (1 : Int) (2 : Int) ByteArray.empty]) (5 : Int) (1 : Int), aI.mk ([aB.mk (1 : Int) (2 : Int) ByteArray.empty]) (7 : Int) (-1 : Int), aI.mk ([aB.mk (1 : Int) (2 : Int) ByteArray.empty]) (8 : Int) (1 : Int)]), trivial⟩⟩ ?_
  refine aG (aF (?_))
  refine aN ?_
  refine aU aC 7 ?_
  refine bS 1 ?_
  obtain ⟨x1, hx2, h0⟩ := aV h0
  refine dI (yS ([aI.mk ([aB.mk (1 : Int) (1 : Int) ByteArray.empty]) (2 : Int) (1 : Int), aI.mk ([aB.mk (1 : Int) (2 : Int) ByteArray.empty]) (5 : Int) (1 : Int), aI.mk ([aB.mk (1 : Int) (2 : Int) ByteArray.empty]) (7 : Int) (-1 : Int), aI.mk ([aB.mk (1 : Int) (2 : Int) ByteArray.empty]) (8 : Int) (1 : Int)]) _ hx2) hO ?_
  intro H hO
  refine bA ?_
  refine bP [] [(4, (eL (eI) x1.1)), (5, (eI x1.2))] ?_
  refine aN ?_
  refine aU aC 7 ?_
  refine bS 1 ?_
  obtain ⟨x4, hx5, h0⟩ := aV h0
  refine dI (BT ([aI.mk ([aB.mk (1 : Int) (1 : Int) ByteArray.empty]) (2 : Int) (1 : Int), aI.mk ([aB.mk (1 : Int) (2 : Int) ByteArray.empty]) (5 : Int) (1 : Int), aI.mk ([aB.mk (1 : Int) (2 : Int) ByteArray.empty]) (7 : Int) (-1 : Int), aI.mk ([aB.mk (1 : Int) (2 : Int) ByteArray.empty]) (8 : Int) (1 : Int)]) (2 : Int) (6 : Int) _ hx5) hO ?_
  intro H hO
  refine bA ?_
  refine bP [] [(6, (eI x4.1)), (7, (eI x4.2))] ?_
  refine aN ?_
  refine aU aC 7 ?_
  refine bS 1 ?_
  obtain ⟨x7, hx8, h0⟩ := aV h0
  refine dI (JD ([aI.mk ([aB.mk (1 : Int) (1 : Int) ByteArray.empty]) (2 : Int) (1 : Int), aI.mk ([aB.mk (1 : Int) (2 : Int) ByteArray.empty]) (5 : Int) (1 : Int), aI.mk ([aB.mk (1 : Int) (2 : Int) ByteArray.empty]) (7 : Int) (-1 : Int), aI.mk ([aB.mk (1 : Int) (2 : Int) ByteArray.empty]) (8 : Int) (1 : Int)]) (2 : Int) (0 : Int) _ hx8) hO ?_
  intro H hO
  refine bA ?_
  refine bP [3] [(8, (eL bW x7.1)), (9, (eI x7.2))] ?_
  refine aN ?_
  refine aU aC 59 ?_
  obtain ⟨c10, h0⟩ := aS h0
  obtain ⟨c11, h0⟩ := aS h0
  obtain ⟨c12, h0⟩ := aS h0
  obtain ⟨c13, h0⟩ := aS h0
  obtain ⟨c14, h0⟩ := aS h0
  refine lV [((((((((decide (x1.2 = (0 : Int))) && (decide (x4.2 = (0 : Int)))) && (decide (x7.2 = (0 : Int)))) && (decide ((lN x1.1) = (3 : Int)))) && (decide (x4.1 = (5 : Int)))) && (decide ((lN x7.1) = (2 : Int))))) = true → 0 ≤ (0 : Int) ∧ (0 : Int) < (lN x7.1)), (((((((((decide (x1.2 = (0 : Int))) && (decide (x4.2 = (0 : Int)))) && (decide (x7.2 = (0 : Int)))) && (decide ((lN x1.1) = (3 : Int)))) && (decide (x4.1 = (5 : Int)))) && (decide ((lN x7.1) = (2 : Int)))) && ((decide ((((gD x7.1 (0 : Int)).Span).From) = ((cV.mk (2 : Int) (6 : Int)).From))) && ((decide ((((gD x7.1 (0 : Int)).Span).To) = ((cV.mk (2 : Int) (6 : Int)).To))) && true)))) = true → 0 ≤ (0 : Int) ∧ (0 : Int) < (lN x7.1)), ((((((((((decide (x1.2 = (0 : Int))) && (decide (x4.2 = (0 : Int)))) && (decide (x7.2 = (0 : Int)))) && (decide ((lN x1.1) = (3 : Int)))) && (decide (x4.1 = (5 : Int)))) && (decide ((lN x7.1) = (2 : Int)))) && ((decide ((((gD x7.1 (0 : Int)).Span).From) = ((cV.mk (2 : Int) (6 : Int)).From))) && ((decide ((((gD x7.1 (0 : Int)).Span).To) = ((cV.mk (2 : Int) (6 : Int)).To))) && true))) && (decide ((lN ((gD x7.1 (0 : Int)).Rows)) = (2 : Int))))) = true → 0 ≤ (1 : Int) ∧ (1 : Int) < (lN x7.1)), (((((((((((decide (x1.2 = (0 : Int))) && (decide (x4.2 = (0 : Int)))) && (decide (x7.2 = (0 : Int)))) && (decide ((lN x1.1) = (3 : Int)))) && (decide (x4.1 = (5 : Int)))) && (decide ((lN x7.1) = (2 : Int)))) && ((decide ((((gD x7.1 (0 : Int)).Span).From) = ((cV.mk (2 : Int) (6 : Int)).From))) && ((decide ((((gD x7.1 (0 : Int)).Span).To) = ((cV.mk (2 : Int) (6 : Int)).To))) && true))) && (decide ((lN ((gD x7.1 (0 : Int)).Rows)) = (2 : Int)))) && (decide ((lN ((gD x7.1 (1 : Int)).Rows)) = (1 : Int))))) = true → 0 ≤ (1 : Int) ∧ (1 : Int) < (lN x7.1)), (((((((((((decide (x1.2 = (0 : Int))) && (decide (x4.2 = (0 : Int)))) && (decide (x7.2 = (0 : Int)))) && (decide ((lN x1.1) = (3 : Int)))) && (decide (x4.1 = (5 : Int)))) && (decide ((lN x7.1) = (2 : Int)))) && ((decide ((((gD x7.1 (0 : Int)).Span).From) = ((cV.mk (2 : Int) (6 : Int)).From))) && ((decide ((((gD x7.1 (0 : Int)).Span).To) = ((cV.mk (2 : Int) (6 : Int)).To))) && true))) && (decide ((lN ((gD x7.1 (0 : Int)).Rows)) = (2 : Int)))) && (decide ((lN ((gD x7.1 (1 : Int)).Rows)) = (1 : Int))))) = true → 0 ≤ (0 : Int) ∧ (0 : Int) < (lN ((gD x7.1 (1 : Int)).Rows)))] ⟨c10, c11, c12, c13, c14, trivial⟩ ?_
  refine bB [(0, (aE ((((((((((decide (x1.2 = (0 : Int))) && (decide (x4.2 = (0 : Int)))) && (decide (x7.2 = (0 : Int)))) && (decide ((lN x1.1) = (3 : Int)))) && (decide (x4.1 = (5 : Int)))) && (decide ((lN x7.1) = (2 : Int)))) && ((decide ((((gD x7.1 (0 : Int)).Span).From) = ((cV.mk (2 : Int) (6 : Int)).From))) && ((decide ((((gD x7.1 (0 : Int)).Span).To) = ((cV.mk (2 : Int) (6 : Int)).To))) && true))) && (decide ((lN ((gD x7.1 (0 : Int)).Rows)) = (2 : Int)))) && (decide ((lN ((gD x7.1 (1 : Int)).Rows)) = (1 : Int)))) && (decide (((gD ((gD x7.1 (1 : Int)).Rows) (0 : Int)).N) = (2 : Int))))))] ?_
  refine bD ?_
  obtain rfl := oI h0
  exact aG (Q_r hO)

theorem zL (v0 : aB) (r : Bool) (h0 : pK v0 = some r) : dB Try.prog 89 [(aD v0)] (aE r) := by
  intro H0
  refine cZ Try.func89 ?_
  have hO := aL.start H0
  unfold pK at h0
  refine aN ?_
  refine aU aC 2 ?_
  refine pS 3 (aD v0) (by kernel_rfl) (by kernel_rfl) ?_
  refine bA ?_
  refine bB [(1, (.rp (aD v0)))] ?_
  refine aN ?_
  refine aR aC 3 [] [(5, (aE (decide (v0.Kind = (1 : Int)))))] ?_
  refine bE h0 (fun h0 => ?_) (fun h0 => ?_)
  · refine bQ aC 4 [(2, (aE (mT v0.Text (⟨#[]⟩ : ByteArray))))] ?_
    refine bD ?_
    obtain rfl := oI h0
    exact aG (aP (Q_r hO))
  refine bF ?_
  refine bB [(1, (.rp (aD v0)))] ?_
  refine bQ aC 15 [(2, (aE (((decide (v0.Kind = (2 : Int))) && (decide (v0.Num = (0 : Int)))) && (decide (((ByteArray.size v0.Text : Nat) : Int) ≤ (64 : Int))))))] ?_
  refine bD ?_
  obtain rfl := oI h0
  exact aG (Q_r hO)

theorem zK (r0 : (List aB)) (r : Bool) (h0 : pI r0 = some r) : dB Try.prog 62 [(eL aD r0)] (aE r) := by
  intro H0
  refine cZ Try.func62 ?_
  have hO := aL.start H0
  unfold pI at h0
  refine aR aC 1 [] [] ?_
  refine dZ (fun T H => Has T [(0, (eL aD r0))] ∧ aL ⟨H0, [], []⟩ H [] ∧ pX r0 = some r) ?_ ?_
  · clear hO h0
    rintro T H ⟨hT, hO, h0⟩
    refine aZ hT ?_
    clear hT
    unfold pX at h0
    refine bQ aC 4 [(2, (aE (decide ((lN r0) ≤ (8 : Int)))))] ?_
    refine bD ?_
    obtain rfl := oI h0
    exact aG (Q_r hO)
  refine aR aC 1 [] [(3, (eI (0 : Int)))] ?_
  refine bX 0 ?_
  refine fG [(0, (eL aD r0)), (3, (eI (0 : Int)))] ?_
  refine dS (fun T H => ∃ i3 : Int, Has T [(0, (eL aD r0)), (3, (eI i3))] ∧ aL ⟨H0, [], []⟩ H [] ∧ uZ r0 i3 = some r) ?_ ⟨(0 : Int), .eq (by kernel_rfl), hO, h0⟩
  clear hO h0
  rintro T H ⟨i3, hT, hO, h0⟩
  refine aZ hT ?_
  clear hT
  unfold uZ at h0
  obtain ⟨rr0, hl0, h0⟩ := aV h0
  refine cQ (by kernel_rfl) (fun (s : Int) T H => Has T [(0, (eL aD r0)), (3, (eI s))] ∧ aL ⟨H0, [], []⟩ H []) hl0 ⟨.eq (by kernel_rfl), hO⟩ ?_
  clear hO
  rintro k0 s out1 T H ⟨hT, hO⟩ h1 ho0
  obtain ⟨i3, rfl⟩ : ∃ x, x = s := ⟨_, rfl⟩
  replace h1 : nU r0 i3 = some out1 := h1
  refine aZ hT ?_
  clear hT
  unfold nU at h1
  refine aN ?_
  refine aR aC 8 [] [(11, (aE ((decide (i3 < (lN r0))) && (decide (i3 < (9 : Int))))))] ?_
  refine bE h1 (fun h1 => ?_) (fun h1 => ?_)
  · refine bF ?_
    refine bB [(0, (eL aD r0)), (3, (eI i3))] ?_
    refine aN ?_
    refine bX 1 ?_
    refine aN ?_
    refine aU aC 6 ?_
    obtain ⟨c2, h1⟩ := aS h1
    refine nH 4 [0 ≤ i3 ∧ i3 < (lN r0)] ⟨c2, trivial⟩ ?_
    obtain ⟨x3, hx4, h1⟩ := aV h1
    refine dI (zL (gD r0 i3) _ hx4) hO ?_
    intro H hO
    refine bA ?_
    refine bP [] [(19, (aE (!x3)))] ?_
    refine bE h1 (fun h1 => ?_) (fun h1 => ?_)
    · refine bQ aC 1 [(2, (aE false))] ?_
      refine bD ?_
      obtain rfl := oI h1
      obtain rfl : _ = rr0 := ho0
      replace h0 : some false = some r := h0
      obtain rfl := oI h0
      exact aG (bI (aP (aP (bI (aP (Q_r hO))))))
    refine bF ?_
    refine fX [(0, (eL aD r0)), (3, (eI i3))] ?_
    refine aG (aW (aF (?_)))
    refine aU aC 3 ?_
    refine bA ?_
    exact aG (aF (⟨rfl, _, (oI h1).symm, .eq (by kernel_rfl), hO⟩))
  refine fB 0 ?_
  obtain rfl := oI h1
  obtain rfl : _ = rr0 := ho0
  replace h0 : pX r0 = some r := h0
  exact aG (aT (aT (bO (aF (⟨rfl, .eq (by kernel_rfl), hO, h0⟩)))))

theorem ET (f0 : (List aM)) (r : Bool) (h0 : pL f0 = some r) : dB Try.prog 63 [(eL aX f0)] (aE r) := by
  intro H0
  refine cZ Try.func63 ?_
  have hO := aL.start H0
  unfold pL at h0
  refine aR aC 1 [] [] ?_
  refine aN ?_
  refine aR aC 3 [] [(6, (aE (decide ((1024 : Int) < (lN f0)))))] ?_
  refine bE h0 (fun h0 => ?_) (fun h0 => ?_)
  · refine bQ aC 1 [(2, (aE false))] ?_
    refine bD ?_
    obtain rfl := oI h0
    exact aG (aP (Q_r hO))
  refine bF ?_
  refine bB [(0, (eL aX f0))] ?_
  refine dZ (fun T H => Has T [] ∧ aL ⟨H0, [], []⟩ H [] ∧ sQ  = some r) ?_ ?_
  · clear hO h0
    rintro T H ⟨hT, hO, h0⟩
    refine aZ hT ?_
    clear hT
    unfold sQ at h0
    refine bQ aC 1 [(2, (aE true))] ?_
    refine bD ?_
    obtain rfl := oI h0
    exact aG (Q_r hO)
  refine aR aC 1 [] [(3, (eI (0 : Int)))] ?_
  refine bX 0 ?_
  refine fG [(0, (eL aX f0)), (3, (eI (0 : Int)))] ?_
  refine dS (fun T H => ∃ i3 : Int, Has T [(0, (eL aX f0)), (3, (eI i3))] ∧ aL ⟨H0, [], []⟩ H [] ∧ vH f0 i3 = some r) ?_ ⟨(0 : Int), .eq (by kernel_rfl), hO, h0⟩
  clear hO h0
  rintro T H ⟨i3, hT, hO, h0⟩
  refine aZ hT ?_
  clear hT
  unfold vH at h0
  obtain ⟨rr0, hl0, h0⟩ := aV h0
  refine cQ (by kernel_rfl) (fun (s : Int) T H => Has T [(0, (eL aX f0)), (3, (eI s))] ∧ aL ⟨H0, [], []⟩ H []) hl0 ⟨.eq (by kernel_rfl), hO⟩ ?_
  clear hO
  rintro k0 s out1 T H ⟨hT, hO⟩ h1 ho0
  obtain ⟨i3, rfl⟩ : ∃ x, x = s := ⟨_, rfl⟩
  replace h1 : kU f0 i3 = some out1 := h1
  refine aZ hT ?_
  clear hT
  unfold kU at h1
  refine aN ?_
  refine aR aC 4 [] [(10, (aE (decide (i3 < (lN f0)))))] ?_
  refine bE h1 (fun h1 => ?_) (fun h1 => ?_)
  · refine bF ?_
    refine bB [(0, (eL aX f0)), (3, (eI i3))] ?_
    refine aN ?_
    refine bX 1 ?_
    refine aN ?_
    refine aN ?_
    refine aU aC 38 ?_
    obtain ⟨c3, h1⟩ := aS h1
    obtain ⟨c4, h1⟩ := aS h1
    obtain ⟨c5, h1⟩ := aS h1
    obtain ⟨c6, h1⟩ := aS h1
    obtain ⟨c7, h1⟩ := aS h1
    refine lV [0 ≤ i3 ∧ i3 < (lN f0), (((!(decide (((gD f0 i3).At) < (-1 : Int))))) = true → 0 ≤ i3 ∧ i3 < (lN f0)), (((!((decide (((gD f0 i3).At) < (-1 : Int))) || (decide ((1125899906842624 : Int) ≤ ((gD f0 i3).At)))))) = true → 0 ≤ i3 ∧ i3 < (lN f0)), (((!(((decide (((gD f0 i3).At) < (-1 : Int))) || (decide ((1125899906842624 : Int) ≤ ((gD f0 i3).At)))) || (decide (((gD f0 i3).Net) = (0 : Int)))))) = true → 0 ≤ i3 ∧ i3 < (lN f0)), (((!((((decide (((gD f0 i3).At) < (-1 : Int))) || (decide ((1125899906842624 : Int) ≤ ((gD f0 i3).At)))) || (decide (((gD f0 i3).Net) = (0 : Int)))) || (decide ((1048576 : Int) < ((gD f0 i3).Net)))))) = true → 0 ≤ i3 ∧ i3 < (lN f0))] ⟨c3, c4, c5, c6, c7, trivial⟩ ?_
    refine bP [] [(50, (aE (((((decide (((gD f0 i3).At) < (-1 : Int))) || (decide ((1125899906842624 : Int) ≤ ((gD f0 i3).At)))) || (decide (((gD f0 i3).Net) = (0 : Int)))) || (decide ((1048576 : Int) < ((gD f0 i3).Net)))) || (decide (((gD f0 i3).Net) < (-1048576 : Int))))))] ?_
    refine bE h1 (fun h1 => ?_) (fun h1 => ?_)
    · refine bQ aC 1 [(2, (aE false))] ?_
      refine bD ?_
      obtain rfl := oI h1
      obtain rfl : _ = rr0 := ho0
      replace h0 : some false = some r := h0
      obtain rfl := oI h0
      exact aG (aP (bI (aP (aP (bI (aP (Q_r hO)))))))
    refine bF ?_
    refine bB [(0, (eL aX f0)), (3, (eI i3))] ?_
    refine aN ?_
    obtain ⟨c9, h1⟩ := aS h1
    obtain ⟨c10, h1⟩ := aS h1
    refine eM (eK [58, 64]) aC 16 ?_
    refine mW (K := fun T H => Has (lift T) [(0, (eL aX f0)), (3, (eI i3)), (66, (aE ((decide ((0 : Int) < i3)) && (decide (((gD f0 i3).At) ≤ ((gD f0 (wR (i3 - (1 : Int)))).At))))))] ∧ aL ⟨H0, [], []⟩ H []) ?_ ?_
    · refine kP 3 ?_
      refine lG (t := 53) (e := decide ((0 : Int) < i3)) (by kernel_rfl) (fun hg11 => ?_) (fun hg11 => ?_)
      · refine xQ (Ds := [0 ≤ i3 ∧ i3 < (lN f0), 0 ≤ (wR (i3 - (1 : Int))) ∧ (wR (i3 - (1 : Int))) < (lN f0)]) (by kernel_rfl) ⟨(c9 hg11), (c10 hg11), trivial⟩ ?_
        exact ⟨⟨[(0, (eL aX f0)), (3, (eI i3)), (66, (aE (decide (((gD f0 i3).At) ≤ ((gD f0 (wR (i3 - (1 : Int)))).At)))))], by kernel_rfl, rfl, ⟨aO.refl _, aO.refl _, aO.eq (congrArg aE (jA hg11 rfl).symm), trivial⟩⟩, hO⟩
      refine iH ?_
      exact ⟨⟨[(0, (eL aX f0)), (3, (eI i3)), (66, (aE false))], by kernel_rfl, rfl, ⟨aO.refl _, aO.refl _, aO.eq (congrArg aE (jA hg11 rfl).symm), trivial⟩⟩, hO⟩
    · rintro T H ⟨hT, hO⟩
      refine dA hT ?_
      clear hT
      refine aG (aF ?_)
      refine bE h1 (fun h1 => ?_) (fun h1 => ?_)
      · refine bQ aC 1 [(2, (aE false))] ?_
        refine bD ?_
        obtain rfl := oI h1
        obtain rfl : _ = rr0 := ho0
        replace h0 : some false = some r := h0
        obtain rfl := oI h0
        exact aG (bI (aP (aP (bI (aP (Q_r hO))))))
      refine bF ?_
      refine fX [(0, (eL aX f0)), (3, (eI i3))] ?_
      refine aG (aW (aF (?_)))
      refine aU aC 3 ?_
      refine bA ?_
      exact aG (aF (⟨rfl, _, (oI h1).symm, .eq (by kernel_rfl), hO⟩))
  refine fB 0 ?_
  obtain rfl := oI h1
  obtain rfl : _ = rr0 := ho0
  replace h0 : sQ  = some r := h0
  exact aG (aT (aT (bO (aF (⟨rfl, .eq (by kernel_rfl), hO, h0⟩)))))

theorem GF (a0 : aB) (b1 : aB) (r : Int) (h0 : oY a0 b1 = some r) : dB Try.prog 90 [(aD a0), (aD b1)] (eI r) := by
  intro H0
  refine cZ Try.func90 ?_
  have hO := aL.start H0
  unfold oY at h0
  refine aN ?_
  refine aU aC 3 ?_
  refine pS 3 (aD a0) (by kernel_rfl) (by kernel_rfl) ?_
  refine pS 3 (aD b1) (by kernel_rfl) (by kernel_rfl) ?_
  refine bA ?_
  refine bB [(2, (.rp (aD a0))), (3, (.rp (aD b1)))] ?_
  refine aN ?_
  refine aN ?_
  refine aU aC 8 ?_
  refine bS 1 ?_
  obtain ⟨x1, hx2, h0⟩ := aV h0
  refine dI (zL a0 _ hx2) hO ?_
  intro H hO
  refine bS 5 ?_
  obtain ⟨x4, hx5, h0⟩ := aV h0
  refine nR [(9, false)] 89 [(aD b1)] (aE x4) (!(!x1)) (by kernel_rfl) (by kernel_rfl) (by kernel_rfl) (fun hb6 => (zL b1 _ (jJ hx5 hb6))) hO ?_
  intro H hO
  refine bA ?_
  refine bP [] [(13, (aE ((!x1) || (!x4))))] ?_
  refine bE h0 (fun h0 => ?_) (fun h0 => ?_)
  · refine bQ aC 1 [(4, (eI (0 : Int)))] ?_
    refine bD ?_
    obtain rfl := oI h0
    exact aG (aP (Q_r hO))
  refine bF ?_
  refine bB [(2, (.rp (aD a0))), (3, (.rp (aD b1)))] ?_
  refine aN ?_
  refine aR aC 5 [] [(18, (aE (!decide (a0.Kind = b1.Kind))))] ?_
  refine bE h0 (fun h0 => ?_) (fun h0 => ?_)
  · refine aN ?_
    refine bQ aC 3 [(21, (aE (decide (a0.Kind = (1 : Int)))))] ?_
    refine bE h0 (fun h0 => ?_) (fun h0 => ?_)
    · refine bQ aC 1 [(4, (eI (-1 : Int)))] ?_
      refine bD ?_
      obtain rfl := oI h0
      exact aG (aP (aP (Q_r hO)))
    refine bF ?_
    refine bB [] ?_
    refine bQ aC 1 [(4, (eI (1 : Int)))] ?_
    refine bD ?_
    obtain rfl := oI h0
    exact aG (aP (Q_r hO))
  refine bF ?_
  refine bB [(2, (.rp (aD a0))), (3, (.rp (aD b1)))] ?_
  refine aN ?_
  refine aR aC 5 [] [(26, (aE (!decide (a0.Num = b1.Num))))] ?_
  refine bE h0 (fun h0 => ?_) (fun h0 => ?_)
  · refine aN ?_
    refine bQ aC 5 [(31, (aE (decide (a0.Num < b1.Num))))] ?_
    refine bE h0 (fun h0 => ?_) (fun h0 => ?_)
    · refine bQ aC 1 [(4, (eI (-1 : Int)))] ?_
      refine bD ?_
      obtain rfl := oI h0
      exact aG (aP (aP (Q_r hO)))
    refine bF ?_
    refine bB [] ?_
    refine bQ aC 1 [(4, (eI (1 : Int)))] ?_
    refine bD ?_
    obtain rfl := oI h0
    exact aG (aP (Q_r hO))
  refine bF ?_
  refine bB [(2, (.rp (aD a0))), (3, (.rp (aD b1)))] ?_
  refine dZ (fun T H => ∃ a2 : aB, ∃ b3 : aB, Has T [(2, (.rp (aD a2))), (3, (.rp (aD b3)))] ∧ aL ⟨H0, [], []⟩ H [] ∧ nY a2 b3 = some r) ?_ ?_
  · clear hO h0
    rintro T H ⟨a2, b3, hT, hO, h0⟩
    refine aZ hT ?_
    clear hT
    unfold nY at h0
    refine aN ?_
    refine aR aC 7 [] [(70, (aE (!decide (((ByteArray.size a2.Text : Nat) : Int) = ((ByteArray.size b3.Text : Nat) : Int)))))] ?_
    refine bE h0 (fun h0 => ?_) (fun h0 => ?_)
    · refine aN ?_
      refine bQ aC 7 [(77, (aE (decide (((ByteArray.size a2.Text : Nat) : Int) < ((ByteArray.size b3.Text : Nat) : Int)))))] ?_
      refine bE h0 (fun h0 => ?_) (fun h0 => ?_)
      · refine bQ aC 1 [(4, (eI (-1 : Int)))] ?_
        refine bD ?_
        obtain rfl := oI h0
        exact aG (aP (aP (Q_r hO)))
      refine bF ?_
      refine bB [] ?_
      refine bQ aC 1 [(4, (eI (1 : Int)))] ?_
      refine bD ?_
      obtain rfl := oI h0
      exact aG (aP (Q_r hO))
    refine bF ?_
    refine bB [] ?_
    refine bQ aC 1 [(4, (eI (0 : Int)))] ?_
    refine bD ?_
    obtain rfl := oI h0
    exact aG (Q_r hO)
  refine aR aC 1 [] [(5, (eI (0 : Int)))] ?_
  refine bX 0 ?_
  refine fG [(2, (.rp (aD a0))), (3, (.rp (aD b1))), (5, (eI (0 : Int)))] ?_
  refine dS (fun T H => ∃ a2 : aB, ∃ b3 : aB, ∃ i5 : Int, Has T [(2, (.rp (aD a2))), (3, (.rp (aD b3))), (5, (eI i5))] ∧ aL ⟨H0, [], []⟩ H [] ∧ qR a2 b3 i5 = some r) ?_ ⟨a0, b1, (0 : Int), .eq (by kernel_rfl), hO, h0⟩
  clear hO h0
  rintro T H ⟨a2, b3, i5, hT, hO, h0⟩
  refine aZ hT ?_
  clear hT
  unfold qR at h0
  obtain ⟨rr0, hl0, h0⟩ := aV h0
  refine cQ (by kernel_rfl) (fun (s : Int) T H => Has T [(2, (.rp (aD a2))), (3, (.rp (aD b3))), (5, (eI s))] ∧ aL ⟨H0, [], []⟩ H []) hl0 ⟨.eq (by kernel_rfl), hO⟩ ?_
  clear hO
  rintro k0 s out1 T H ⟨hT, hO⟩ h1 ho0
  obtain ⟨i5, rfl⟩ : ∃ x, x = s := ⟨_, rfl⟩
  replace h1 : iI a2 b3 i5 = some out1 := h1
  refine aZ hT ?_
  clear hT
  unfold iI at h1
  refine aN ?_
  refine aR aC 12 [] [(43, (aE ((decide (i5 < ((ByteArray.size a2.Text : Nat) : Int))) && (decide (i5 < ((ByteArray.size b3.Text : Nat) : Int))))))] ?_
  refine bE h1 (fun h1 => ?_) (fun h1 => ?_)
  · refine bF ?_
    refine bB [(2, (.rp (aD a2))), (3, (.rp (aD b3))), (5, (eI i5))] ?_
    refine aN ?_
    refine bX 1 ?_
    refine aN ?_
    refine eM (eK [47, 51]) aC 9 ?_
    obtain ⟨c15, h1⟩ := aS h1
    obtain ⟨c16, h1⟩ := aS h1
    refine xQ (Ds := [0 ≤ i5 ∧ i5 < ((ByteArray.size a2.Text : Nat) : Int), 0 ≤ i5 ∧ i5 < ((ByteArray.size b3.Text : Nat) : Int)]) (by kernel_rfl) ⟨c15, c16, trivial⟩ ?_
    refine bP [] [(54, (aE (!decide ((bt a2.Text i5) = (bt b3.Text i5)))))] ?_
    refine bE h1 (fun h1 => ?_) (fun h1 => ?_)
    · refine aN ?_
      refine aN ?_
      refine eM (eK [56, 60]) aC 9 ?_
      obtain ⟨c18, h1⟩ := aS h1
      obtain ⟨c19, h1⟩ := aS h1
      refine xQ (Ds := [0 ≤ i5 ∧ i5 < ((ByteArray.size a2.Text : Nat) : Int), 0 ≤ i5 ∧ i5 < ((ByteArray.size b3.Text : Nat) : Int)]) (by kernel_rfl) ⟨c18, c19, trivial⟩ ?_
      refine bB [(63, (aE (decide ((bt a2.Text i5) < (bt b3.Text i5)))))] ?_
      refine bE h1 (fun h1 => ?_) (fun h1 => ?_)
      · refine bQ aC 1 [(4, (eI (-1 : Int)))] ?_
        refine bD ?_
        obtain rfl := oI h1
        obtain rfl : _ = rr0 := ho0
        replace h0 : some (-1 : Int) = some r := h0
        obtain rfl := oI h0
        exact aG (aP (bI (aP (aP (bI (aP (Q_r hO)))))))
      refine bF ?_
      refine bB [] ?_
      refine bQ aC 1 [(4, (eI (1 : Int)))] ?_
      refine bD ?_
      obtain rfl := oI h1
      obtain rfl : _ = rr0 := ho0
      replace h0 : some (1 : Int) = some r := h0
      obtain rfl := oI h0
      exact aG (bI (aP (aP (bI (aP (Q_r hO))))))
    refine bF ?_
    refine fX [(2, (.rp (aD a2))), (3, (.rp (aD b3))), (5, (eI i5))] ?_
    refine aG (aW (aF (?_)))
    refine aU aC 3 ?_
    refine bA ?_
    exact aG (aF (⟨rfl, _, (oI h1).symm, .eq (by kernel_rfl), hO⟩))
  refine fB 0 ?_
  obtain rfl := oI h1
  obtain rfl : _ = rr0 := ho0
  replace h0 : nY a2 b3 = some r := h0
  exact aG (aT (aT (bO (aF (⟨rfl, _, _, .eq (by kernel_rfl), hO, h0⟩)))))

theorem zC (a0 : (List aB)) (b1 : (List aB)) (r : Int) (h0 : nA a0 b1 = some r) : dB Try.prog 64 [(eL aD a0), (eL aD b1)] (eI r) := by
  intro H0
  refine cZ Try.func64 ?_
  have hO := aL.start H0
  unfold nA at h0
  refine aR aC 1 [] [] ?_
  refine aN ?_
  refine aN ?_
  refine aU aC 8 ?_
  refine bS 1 ?_
  obtain ⟨x1, hx2, h0⟩ := aV h0
  refine dI (zK a0 _ hx2) hO ?_
  intro H hO
  refine bS 5 ?_
  obtain ⟨x4, hx5, h0⟩ := aV h0
  refine nR [(10, false)] 62 [(eL aD b1)] (aE x4) (!(!x1)) (by kernel_rfl) (by kernel_rfl) (by kernel_rfl) (fun hb6 => (zK b1 _ (jJ hx5 hb6))) hO ?_
  intro H hO
  refine bA ?_
  refine bP [] [(14, (aE ((!x1) || (!x4))))] ?_
  refine bE h0 (fun h0 => ?_) (fun h0 => ?_)
  · refine bQ aC 1 [(4, (eI (0 : Int)))] ?_
    refine bD ?_
    obtain rfl := oI h0
    exact aG (aP (Q_r hO))
  refine bF ?_
  refine bB [(0, (eL aD a0)), (1, (eL aD b1))] ?_
  refine dZ (fun T H => Has T [(0, (eL aD a0)), (1, (eL aD b1))] ∧ aL ⟨H0, [], []⟩ H [] ∧ oD a0 b1 = some r) ?_ ?_
  · clear hO h0
    rintro T H ⟨hT, hO, h0⟩
    refine aZ hT ?_
    clear hT
    unfold oD at h0
    refine aN ?_
    refine aR aC 5 [] [(43, (aE (decide ((lN a0) < (lN b1)))))] ?_
    refine bE h0 (fun h0 => ?_) (fun h0 => ?_)
    · refine bQ aC 1 [(4, (eI (-1 : Int)))] ?_
      refine bD ?_
      obtain rfl := oI h0
      exact aG (aP (Q_r hO))
    refine bF ?_
    refine bB [(0, (eL aD a0)), (1, (eL aD b1))] ?_
    refine aN ?_
    refine bQ aC 5 [(48, (aE (decide ((lN b1) < (lN a0)))))] ?_
    refine bE h0 (fun h0 => ?_) (fun h0 => ?_)
    · refine bQ aC 1 [(4, (eI (1 : Int)))] ?_
      refine bD ?_
      obtain rfl := oI h0
      exact aG (aP (Q_r hO))
    refine bF ?_
    refine bB [] ?_
    refine bQ aC 1 [(4, (eI (0 : Int)))] ?_
    refine bD ?_
    obtain rfl := oI h0
    exact aG (Q_r hO)
  refine aR aC 1 [] [(5, (eI (0 : Int)))] ?_
  refine bX 0 ?_
  refine fG [(0, (eL aD a0)), (1, (eL aD b1)), (5, (eI (0 : Int)))] ?_
  refine dS (fun T H => ∃ i5 : Int, Has T [(0, (eL aD a0)), (1, (eL aD b1)), (5, (eI i5))] ∧ aL ⟨H0, [], []⟩ H [] ∧ qL a0 b1 i5 = some r) ?_ ⟨(0 : Int), .eq (by kernel_rfl), hO, h0⟩
  clear hO h0
  rintro T H ⟨i5, hT, hO, h0⟩
  refine aZ hT ?_
  clear hT
  unfold qL at h0
  obtain ⟨rr0, hl0, h0⟩ := aV h0
  refine cQ (by kernel_rfl) (fun (s : Int) T H => Has T [(0, (eL aD a0)), (1, (eL aD b1)), (5, (eI s))] ∧ aL ⟨H0, [], []⟩ H []) hl0 ⟨.eq (by kernel_rfl), hO⟩ ?_
  clear hO
  rintro k0 s out1 T H ⟨hT, hO⟩ h1 ho0
  obtain ⟨i5, rfl⟩ : ∃ x, x = s := ⟨_, rfl⟩
  replace h1 : iE a0 b1 i5 = some out1 := h1
  refine aZ hT ?_
  clear hT
  unfold iE at h1
  refine aN ?_
  refine aR aC 10 [] [(24, (aE ((decide (i5 < (lN a0))) && (decide (i5 < (lN b1))))))] ?_
  refine bE h1 (fun h1 => ?_) (fun h1 => ?_)
  · refine bF ?_
    refine bB [(0, (eL aD a0)), (1, (eL aD b1)), (5, (eI i5))] ?_
    refine aN ?_
    refine bX 1 ?_
    refine aN ?_
    refine eM (eK [30, 34, 35]) aC 10 ?_
    obtain ⟨c11, h1⟩ := aS h1
    obtain ⟨c12, h1⟩ := aS h1
    refine bZ 8 [0 ≤ i5 ∧ i5 < (lN a0), 0 ≤ i5 ∧ i5 < (lN b1)] ⟨c11, c12, trivial⟩ ?_
    obtain ⟨x13, hx14, h1⟩ := aV h1
    refine BV (GF (gD a0 i5) (gD b1 i5) _ hx14) hO ?_
    intro H hO
    refine iH ?_
    refine bP [] [(6, (eI x13))] ?_
    refine aR aC 2 [] [(37, (aE (!decide (x13 = (0 : Int)))))] ?_
    refine bE h1 (fun h1 => ?_) (fun h1 => ?_)
    · refine bQ aC 2 [(4, (eI x13))] ?_
      refine bD ?_
      obtain rfl := oI h1
      obtain rfl : _ = rr0 := ho0
      replace h0 : some x13 = some r := h0
      obtain rfl := oI h0
      exact aG (bI (aP (aP (bI (aP (Q_r hO))))))
    refine bF ?_
    refine fX [(0, (eL aD a0)), (1, (eL aD b1)), (5, (eI i5))] ?_
    refine aG (aW (aF (?_)))
    refine aU aC 3 ?_
    refine bA ?_
    exact aG (aF (⟨rfl, _, (oI h1).symm, .eq (by kernel_rfl), hO⟩))
  refine fB 0 ?_
  obtain rfl := oI h1
  obtain rfl : _ = rr0 := ho0
  replace h0 : oD a0 b1 = some r := h0
  exact aG (aT (aT (bO (aF (⟨rfl, .eq (by kernel_rfl), hO, h0⟩)))))

theorem DC (a0 : (List aB)) (b1 : (List aB)) (r : Bool) (h0 : qA a0 b1 = some r) : dB Try.prog 42 [(eL aD a0), (eL aD b1)] (aE r) := by
  intro H0
  refine cZ Try.func42 ?_
  have hO := aL.start H0
  unfold qA at h0
  refine aR aC 1 [] [] ?_
  refine aN ?_
  refine aR aC 5 [] [(10, (aE (!decide ((lN a0) = (lN b1)))))] ?_
  refine bE h0 (fun h0 => ?_) (fun h0 => ?_)
  · refine bQ aC 1 [(4, (aE false))] ?_
    refine bD ?_
    obtain rfl := oI h0
    exact aG (aP (Q_r hO))
  refine bF ?_
  refine bB [(0, (eL aD a0)), (1, (eL aD b1))] ?_
  refine dZ (fun T H => Has T [] ∧ aL ⟨H0, [], []⟩ H [] ∧ qW  = some r) ?_ ?_
  · clear hO h0
    rintro T H ⟨hT, hO, h0⟩
    refine aZ hT ?_
    clear hT
    unfold qW at h0
    refine bQ aC 1 [(4, (aE true))] ?_
    refine bD ?_
    obtain rfl := oI h0
    exact aG (Q_r hO)
  refine aR aC 1 [] [(5, (eI (0 : Int)))] ?_
  refine bX 0 ?_
  refine fG [(0, (eL aD a0)), (1, (eL aD b1)), (5, (eI (0 : Int)))] ?_
  refine dS (fun T H => ∃ i5 : Int, Has T [(0, (eL aD a0)), (1, (eL aD b1)), (5, (eI i5))] ∧ aL ⟨H0, [], []⟩ H [] ∧ uI a0 b1 i5 = some r) ?_ ⟨(0 : Int), .eq (by kernel_rfl), hO, h0⟩
  clear hO h0
  rintro T H ⟨i5, hT, hO, h0⟩
  refine aZ hT ?_
  clear hT
  unfold uI at h0
  obtain ⟨rr0, hl0, h0⟩ := aV h0
  refine cQ (by kernel_rfl) (fun (s : Int) T H => Has T [(0, (eL aD a0)), (1, (eL aD b1)), (5, (eI s))] ∧ aL ⟨H0, [], []⟩ H []) hl0 ⟨.eq (by kernel_rfl), hO⟩ ?_
  clear hO
  rintro k0 s out1 T H ⟨hT, hO⟩ h1 ho0
  obtain ⟨i5, rfl⟩ : ∃ x, x = s := ⟨_, rfl⟩
  replace h1 : oN a0 b1 i5 = some out1 := h1
  refine aZ hT ?_
  clear hT
  unfold oN at h1
  refine aN ?_
  refine aR aC 4 [] [(14, (aE (decide (i5 < (lN a0)))))] ?_
  refine bE h1 (fun h1 => ?_) (fun h1 => ?_)
  · refine bF ?_
    refine bB [(0, (eL aD a0)), (1, (eL aD b1)), (5, (eI i5))] ?_
    refine aN ?_
    refine bX 1 ?_
    refine aN ?_
    refine eM (eK [20, 24]) aC 9 ?_
    obtain ⟨c3, h1⟩ := aS h1
    obtain ⟨c4, h1⟩ := aS h1
    refine xQ (Ds := [0 ≤ i5 ∧ i5 < (lN a0), 0 ≤ i5 ∧ i5 < (lN b1)]) (by kernel_rfl) ⟨c3, c4, trivial⟩ ?_
    refine bP [] [(25, (aE (!((decide (((gD a0 i5).Kind) = ((gD b1 i5).Kind))) && ((decide (((gD a0 i5).Num) = ((gD b1 i5).Num))) && ((mT ((gD a0 i5).Text) ((gD b1 i5).Text)) && true))))))] ?_
    refine bE h1 (fun h1 => ?_) (fun h1 => ?_)
    · refine bQ aC 1 [(4, (aE false))] ?_
      refine bD ?_
      obtain rfl := oI h1
      obtain rfl : _ = rr0 := ho0
      replace h0 : some false = some r := h0
      obtain rfl := oI h0
      exact aG (bI (aP (aP (bI (aP (Q_r hO))))))
    refine bF ?_
    refine fX [(0, (eL aD a0)), (1, (eL aD b1)), (5, (eI i5))] ?_
    refine aG (aW (aF (?_)))
    refine aU aC 3 ?_
    refine bA ?_
    exact aG (aF (⟨rfl, _, (oI h1).symm, .eq (by kernel_rfl), hO⟩))
  refine fB 0 ?_
  obtain rfl := oI h1
  obtain rfl : _ = rr0 := ho0
  replace h0 : qW  = some r := h0
  exact aG (aT (aT (bO (aF (⟨rfl, .eq (by kernel_rfl), hO, h0⟩)))))

theorem CD (l0 : (List aI)) (r : (List (List aB))) (h0 : pV l0 = some r) : dB Try.prog 43 [(eL aH l0)] (eL (eL aD) r) := by
  intro H0
  refine cZ Try.func43 ?_
  have hO := aL.start H0
  unfold pV at h0
  refine aR aC 1 [] [] ?_
  refine aN ?_
  refine aU aC 2 ?_
  refine nB (xs := []) (k := 1) (by kernel_rfl) (by kernel_rfl) ?_
  refine bA ?_
  refine bP [] [(3, (.sl true 0 (fun _ => .bad)))] ?_
  refine dZ (fun T H => ∃ bG : List (List aB), ∃ lo1 : Nat, Has T [(3, (.msl 1 lo1 0 (List.length bG)))] ∧ aL ⟨H0, [], []⟩ H [(lo1, 1, List.map (eL aD) bG)] ∧ uJ bG = some r) ?_ ?_
  · clear hO h0
    rintro T H ⟨bG, lo1, hT, hO, h0⟩
    refine aZ hT ?_
    clear hT
    unfold uJ at h0
    refine bQ aC 2 [(2, (.msl 1 lo1 0 (List.length bG)))] ?_
    refine bD ?_
    refine fX [(2, (.msl 1 lo1 0 (List.length bG)))] ?_
    refine uU (en := (eL aD)) bG 0 0 2 1 lo1 (List.length bG) hO (by kernel_rfl) (by kernel_rfl) (by kernel_rfl) (L' := []) (by kernel_rfl) ?_
    intro H2 hO
    obtain rfl := oI h0
    exact aG (Q_r hO)
  refine aR aC 1 [] [(4, (eI (0 : Int)))] ?_
  refine bX 0 ?_
  refine fG [(0, (eL aH l0)), (3, (.sl true 0 (fun _ => .bad))), (4, (eI (0 : Int)))] ?_
  refine zX (el := (fun _ => .bad)) 1 3 1 hO (by kernel_rfl) ?_
  intro lo31 H32 hO
  refine dS (fun T H => ∃ bG : List (List aB), ∃ i4 : Int, ∃ lo4 : Nat, Has T [(0, (eL aH l0)), (3, (.msl 1 lo4 0 (List.length bG))), (4, (eI i4))] ∧ aL ⟨H0, [], []⟩ H [(lo4, 1, List.map (eL aD) bG)] ∧ uB l0 bG i4 = some r) ?_ ⟨([] : List (List aB)), (0 : Int), lo31, .eq (by kernel_rfl), hO, h0⟩
  clear hO h0
  rintro T H ⟨bG, i4, lo4, hT, hO, h0⟩
  refine aZ hT ?_
  clear hT
  unfold uB at h0
  obtain ⟨rr0, hl0, h0⟩ := aV h0
  refine cQ (by kernel_rfl) (fun (s : List (List aB) × Int) T H => ∃ lo4 : Nat, Has T [(0, (eL aH l0)), (3, (.msl 1 lo4 0 (List.length s.1))), (4, (eI s.2))] ∧ aL ⟨H0, [], []⟩ H [(lo4, 1, List.map (eL aD) s.1)]) hl0 ⟨lo4, .eq (by kernel_rfl), hO⟩ ?_
  clear hO
  rintro k0 s out1 T H ⟨lo4, hT, hO⟩ h1 ho0
  obtain ⟨bG, i4⟩ := s
  replace h1 : mD l0 bG i4 = some out1 := h1
  try dsimp only at hT
  refine aZ hT ?_
  clear hT
  unfold mD at h1
  refine aN ?_
  refine aR aC 4 [] [(11, (aE (decide (i4 < (lN l0)))))] ?_
  refine bE h1 (fun h1 => ?_) (fun h1 => ?_)
  · refine bF ?_
    refine bB [(0, (eL aH l0)), (3, (.msl 1 lo4 0 (List.length bG))), (4, (eI i4))] ?_
    refine dZ (fun T H => ∃ bG : List (List aB), ∃ lo6 : Nat, Has T [(0, (eL aH l0)), (3, (.msl 1 lo6 0 (List.length bG))), (4, (eI i4))] ∧ aL ⟨H0, [], []⟩ H [(lo6, 1, List.map (eL aD) bG)] ∧ rF l0 bG i4 = some out1) ?_ ?_
    · clear hO h1
      rintro T H ⟨bG, lo6, hT, hO, h1⟩
      refine aZ hT ?_
      clear hT
      unfold rF at h1
      refine aU aC 3 ?_
      refine bA ?_
      exact aG (aF (⟨rfl, _, (oI h1).symm, _, .eq (by kernel_rfl), hO⟩))
    refine bX 1 ?_
    refine aR aC 1 [] [(5, (eI (0 : Int)))] ?_
    refine dZ (fun T H => ∃ bG : List (List aB), ∃ at5 : Int, ∃ lo7 : Nat, Has T [(0, (eL aH l0)), (3, (.msl 1 lo7 0 (List.length bG))), (4, (eI i4)), (5, (eI at5))] ∧ aL ⟨H0, [], []⟩ H [(lo7, 1, List.map (eL aD) bG)] ∧ rM l0 bG i4 at5 = some out1) ?_ ?_
    · clear hO h1
      rintro T H ⟨bG, at5, lo7, hT, hO, h1⟩
      refine aZ hT ?_
      clear hT
      unfold rM at h1
      refine aN ?_
      refine aN ?_
      obtain ⟨c8, h1⟩ := aS h1
      obtain ⟨c9, h1⟩ := aS h1
      obtain ⟨x10, hx11, h1⟩ := aV h1
      refine eM (eK [46]) aC 16 ?_
      refine mW (K := fun T H => Has (lift T) [(0, (eL aH l0)), (3, (.msl 1 lo7 0 (List.length bG))), (4, (eI i4)), (5, (eI at5)), (48, (aE ((decide (at5 < (lN bG))) && x10)))] ∧ aL ⟨H0, [], []⟩ H [(lo7, 1, List.map (eL aD) bG)]) ?_ ?_
      · refine kP 5 ?_
        refine lG (t := 37) (e := decide (at5 < (lN bG))) (by kernel_rfl) (fun hg12 => ?_) (fun hg12 => ?_)
        · refine bZ 8 [0 ≤ at5 ∧ at5 < (lN bG)] ⟨(c8 hg12), trivial⟩ ?_
          refine gZ 0 lo7 1 (0 + Int.toNat at5) (eL aD (gD bG at5)) (eL aD (gD bG at5)) (List.map (eL aD) bG) (by kernel_rfl) (by kernel_rfl) (by kernel_rfl) hO (by kernel_rfl) (bR (c8 hg12)) ?_
          refine bZ 14 [0 ≤ i4 ∧ i4 < (lN l0)] ⟨(c9 hg12), trivial⟩ ?_
          refine mL 42 [(eL aD (gD bG at5)), (eL aD ((gD l0 i4).Row))] (aE x10) (by kernel_rfl) (by kernel_rfl) (DC (gD bG at5) ((gD l0 i4).Row) _ (jJ hx11 hg12)) hO ?_
          intro H hO
          refine iH ?_
          exact ⟨⟨[(0, (eL aH l0)), (3, (.msl 1 lo7 0 (List.length bG))), (4, (eI i4)), (5, (eI at5)), (48, (aE x10))], by kernel_rfl, rfl, ⟨aO.refl _, aO.refl _, aO.refl _, aO.refl _, aO.eq (congrArg aE (jA hg12 rfl).symm), trivial⟩⟩, hO⟩
        refine iH ?_
        exact ⟨⟨[(0, (eL aH l0)), (3, (.msl 1 lo7 0 (List.length bG))), (4, (eI i4)), (5, (eI at5)), (48, (aE false))], by kernel_rfl, rfl, ⟨aO.refl _, aO.refl _, aO.refl _, aO.refl _, aO.eq (congrArg aE (jA hg12 rfl).symm), trivial⟩⟩, hO⟩
      · rintro T H ⟨hT, hO⟩
        refine dA hT ?_
        clear hT
        refine aG (aF ?_)
        refine bE h1 (fun h1 => ?_) (fun h1 => ?_)
        · refine fB 1 ?_
          exact aG (aT (bO (aF (⟨rfl, _, _, .eq (by kernel_rfl), hO, h1⟩))))
        refine bF ?_
        refine bB [(0, (eL aH l0)), (3, (.msl 1 lo7 0 (List.length bG))), (4, (eI i4)), (5, (eI at5))] ?_
        refine aN ?_
        refine aU aC 6 ?_
        refine nB (xs := []) (k := 1) (by kernel_rfl) (by kernel_rfl) ?_
        obtain ⟨c14, h1⟩ := aS h1
        refine nH 4 [0 ≤ at5 ∧ at5 ≤ (lN bG)] ⟨c14, trivial⟩ ?_
        obtain ⟨c16, h1⟩ := aS h1
        refine PJ (e := (eL aD)) (List.take (Int.toNat at5) bG) (fun _ => .bad) 1 24 (.msl 1 lo7 0 (Int.toNat at5)) (fun lo15 => [(lo7, 1, List.map (eL aD) bG), (lo15, 1, List.map (eL aD) (List.take (Int.toNat at5) bG))]) (by kernel_rfl) (by kernel_rfl) hO (LR hO 0 (by kernel_rfl) (Int.toNat_le.2 (And.right c14))) c16 (fun _ => by kernel_rfl) ?_
        intro lo15 H hO
        refine bA ?_
        refine bP [] [(6, (.msl 1 lo15 0 (List.length (List.take (Int.toNat at5) bG))))] ?_
        refine aN ?_
        refine aU aC 9 ?_
        obtain ⟨c17, h1⟩ := aS h1
        refine nH 6 [0 ≤ i4 ∧ i4 < (lN l0)] ⟨c17, trivial⟩ ?_
        refine nB (xs := [(eL aD ((gD l0 i4).Row))]) (k := 1) (by kernel_rfl) (by kernel_rfl) ?_
        obtain ⟨c19, h1⟩ := aS h1
        refine tD (e := (eL aD)) (List.take (Int.toNat at5) bG) ([(gD l0 i4).Row]) 1 lo15 1 24 (iY [(eL aD ((gD l0 i4).Row))]) (fun lo18 => [(lo7, 1, List.map (eL aD) bG), (lo18, 1, List.map (eL aD) ((List.take (Int.toNat at5) bG) ++ ([(gD l0 i4).Row])))]) (by kernel_rfl) (by kernel_rfl) hO (by kernel_rfl) (by kernel_rfl) c19 (fun _ => by kernel_rfl) ?_
        intro lo18 H hO
        refine bA ?_
        refine bP [6] [(6, (.msl 1 lo18 0 (List.length ((List.take (Int.toNat at5) bG) ++ ([(gD l0 i4).Row])))))] ?_
        refine aU aC 6 ?_
        obtain ⟨c20, h1⟩ := aS h1
        refine nH 4 [0 ≤ at5 ∧ at5 ≤ (lN bG)] ⟨c20, trivial⟩ ?_
        obtain ⟨c22, h1⟩ := aS h1
        refine tD (e := (eL aD)) ((List.take (Int.toNat at5) bG) ++ ([(gD l0 i4).Row])) (List.drop (Int.toNat at5) bG) 1 lo18 1 24 (.msl 1 lo7 (0 + Int.toNat at5) (List.length bG - Int.toNat at5)) (fun lo21 => [(lo7, 1, List.map (eL aD) bG), (lo21, 1, List.map (eL aD) (((List.take (Int.toNat at5) bG) ++ ([(gD l0 i4).Row])) ++ (List.drop (Int.toNat at5) bG)))]) (by kernel_rfl) (by kernel_rfl) hO (by kernel_rfl) (MA hO 0 (by kernel_rfl) rfl (Int.toNat_le.2 (And.right c20))) c22 (fun _ => by kernel_rfl) ?_
        intro lo21 H hO
        refine bA ?_
        replace hO := hO.pick (L' := [(lo21, 1, List.map (eL aD) (((List.take (Int.toNat at5) bG) ++ ([(gD l0 i4).Row])) ++ (List.drop (Int.toNat at5) bG)))]) [1] (by decide) (by kernel_rfl)
        exact aG (aW (aF (⟨rfl, _, _, .eq (by kernel_rfl), hO, h1⟩)))
    refine bX 2 ?_
    refine fG [(0, (eL aH l0)), (3, (.msl 1 lo4 0 (List.length bG))), (4, (eI i4)), (5, (eI (0 : Int)))] ?_
    refine dS (fun T H => ∃ bG : List (List aB), ∃ at5 : Int, ∃ lo24 : Nat, Has T [(0, (eL aH l0)), (3, (.msl 1 lo24 0 (List.length bG))), (4, (eI i4)), (5, (eI at5))] ∧ aL ⟨H0, [], []⟩ H [(lo24, 1, List.map (eL aD) bG)] ∧ uE l0 bG i4 at5 = some out1) ?_ ⟨bG, (0 : Int), lo4, .eq (by kernel_rfl), hO, h1⟩
    clear hO h1
    rintro T H ⟨bG, at5, lo24, hT, hO, h1⟩
    refine aZ hT ?_
    clear hT
    unfold uE at h1
    obtain ⟨rr1, hl1, h1⟩ := aV h1
    refine cQ (by kernel_rfl) (fun (s : List (List aB) × Int) T H => ∃ lo24 : Nat, Has T [(0, (eL aH l0)), (3, (.msl 1 lo24 0 (List.length s.1))), (4, (eI i4)), (5, (eI s.2))] ∧ aL ⟨H0, [], []⟩ H [(lo24, 1, List.map (eL aD) s.1)]) hl1 ⟨lo24, .eq (by kernel_rfl), hO⟩ ?_
    clear hO
    rintro k1 s out2 T H ⟨lo24, hT, hO⟩ h2 ho1
    obtain ⟨bG, at5⟩ := s
    replace h2 : kY l0 i4 bG at5 = some out2 := h2
    try dsimp only at hT
    refine aZ hT ?_
    clear hT
    unfold kY at h2
    refine aN ?_
    refine aN ?_
    obtain ⟨c25, h2⟩ := aS h2
    obtain ⟨c26, h2⟩ := aS h2
    obtain ⟨x27, hx28, h2⟩ := aV h2
    refine eM (eK [27]) aC 17 ?_
    refine mW (K := fun T H => Has (lift T) [(0, (eL aH l0)), (3, (.msl 1 lo24 0 (List.length bG))), (4, (eI i4)), (5, (eI at5)), (30, (aE ((decide (at5 < (lN bG))) && (decide (x27 < (0 : Int))))))] ∧ aL ⟨H0, [], []⟩ H [(lo24, 1, List.map (eL aD) bG)]) ?_ ?_
    · refine kP 5 ?_
      refine lG (t := 18) (e := decide (at5 < (lN bG))) (by kernel_rfl) (fun hg29 => ?_) (fun hg29 => ?_)
      · refine bZ 8 [0 ≤ at5 ∧ at5 < (lN bG)] ⟨(c25 hg29), trivial⟩ ?_
        refine gZ 0 lo24 1 (0 + Int.toNat at5) (eL aD (gD bG at5)) (eL aD (gD bG at5)) (List.map (eL aD) bG) (by kernel_rfl) (by kernel_rfl) (by kernel_rfl) hO (by kernel_rfl) (bR (c25 hg29)) ?_
        refine bZ 14 [0 ≤ i4 ∧ i4 < (lN l0)] ⟨(c26 hg29), trivial⟩ ?_
        refine mL 64 [(eL aD (gD bG at5)), (eL aD ((gD l0 i4).Row))] (eI x27) (by kernel_rfl) (by kernel_rfl) (zC (gD bG at5) ((gD l0 i4).Row) _ (jJ hx28 hg29)) hO ?_
        intro H hO
        refine iH ?_
        exact ⟨⟨[(0, (eL aH l0)), (3, (.msl 1 lo24 0 (List.length bG))), (4, (eI i4)), (5, (eI at5)), (30, (aE (decide (x27 < (0 : Int)))))], by kernel_rfl, rfl, ⟨aO.refl _, aO.refl _, aO.refl _, aO.refl _, aO.eq (congrArg aE (jA hg29 rfl).symm), trivial⟩⟩, hO⟩
      refine iH ?_
      exact ⟨⟨[(0, (eL aH l0)), (3, (.msl 1 lo24 0 (List.length bG))), (4, (eI i4)), (5, (eI at5)), (30, (aE false))], by kernel_rfl, rfl, ⟨aO.refl _, aO.refl _, aO.refl _, aO.refl _, aO.eq (congrArg aE (jA hg29 rfl).symm), trivial⟩⟩, hO⟩
    · rintro T H ⟨hT, hO⟩
      refine dA hT ?_
      clear hT
      refine aG (aF ?_)
      refine bE h2 (fun h2 => ?_) (fun h2 => ?_)
      · refine bF ?_
        refine bB [(0, (eL aH l0)), (3, (.msl 1 lo24 0 (List.length bG))), (4, (eI i4)), (5, (eI at5))] ?_
        refine bX 3 ?_
        refine aU aC 3 ?_
        refine bA ?_
        exact aG (aW (aF (⟨rfl, _, (oI h2).symm, _, .eq (by kernel_rfl), hO⟩)))
      refine fB 2 ?_
      obtain rfl := oI h2
      obtain rfl : _ = rr1 := ho1
      replace h1 : rM l0 bG i4 at5 = some out1 := h1
      exact aG (aT (aT (bO (aF (⟨rfl, _, _, _, .eq (by kernel_rfl), hO, h1⟩)))))
  refine fB 0 ?_
  obtain rfl := oI h1
  obtain rfl : _ = rr0 := ho0
  replace h0 : uJ bG = some r := h0
  exact aG (aT (aT (bO (aF (⟨rfl, _, _, .eq (by kernel_rfl), hO, h0⟩)))))

theorem BS (l0 : (List aI)) (r1 : (List aB)) (r : (List aM)) (h0 : oQ l0 r1 = some r) : dB Try.prog 45 [(eL aH l0), (eL aD r1)] (eL aX r) := by
  intro H0
  refine cZ Try.func45 ?_
  have hO := aL.start H0
  unfold oQ at h0
  refine aR aC 1 [] [] ?_
  refine aN ?_
  refine aU aC 2 ?_
  refine nB (xs := []) (k := 2) (by kernel_rfl) (by kernel_rfl) ?_
  refine bA ?_
  refine bP [] [(5, (.sl true 0 (fun _ => .bad)))] ?_
  refine dZ (fun T H => ∃ f5 : List aM, ∃ lo1 : Nat, Has T [(5, (.msl 2 lo1 0 (List.length f5)))] ∧ aL ⟨H0, [], []⟩ H [(lo1, 2, List.map aX f5)] ∧ tB f5 = some r) ?_ ?_
  · clear hO h0
    rintro T H ⟨f5, lo1, hT, hO, h0⟩
    refine aZ hT ?_
    clear hT
    unfold tB at h0
    refine bQ aC 2 [(4, (.msl 2 lo1 0 (List.length f5)))] ?_
    refine bD ?_
    refine fX [(4, (.msl 2 lo1 0 (List.length f5)))] ?_
    refine uU (en := aX) f5 0 0 4 2 lo1 (List.length f5) hO (by kernel_rfl) (by kernel_rfl) (by kernel_rfl) (L' := []) (by kernel_rfl) ?_
    intro H2 hO
    obtain rfl := oI h0
    exact aG (Q_r hO)
  refine aR aC 1 [] [(6, (eI (0 : Int)))] ?_
  refine bX 0 ?_
  refine fG [(0, (eL aH l0)), (1, (eL aD r1)), (5, (.sl true 0 (fun _ => .bad))), (6, (eI (0 : Int)))] ?_
  refine zX (el := (fun _ => .bad)) 2 5 2 hO (by kernel_rfl) ?_
  intro lo16 H17 hO
  refine dS (fun T H => ∃ f5 : List aM, ∃ i6 : Int, ∃ lo4 : Nat, Has T [(0, (eL aH l0)), (1, (eL aD r1)), (5, (.msl 2 lo4 0 (List.length f5))), (6, (eI i6))] ∧ aL ⟨H0, [], []⟩ H [(lo4, 2, List.map aX f5)] ∧ tJ l0 r1 f5 i6 = some r) ?_ ⟨([] : List aM), (0 : Int), lo16, .eq (by kernel_rfl), hO, h0⟩
  clear hO h0
  rintro T H ⟨f5, i6, lo4, hT, hO, h0⟩
  refine aZ hT ?_
  clear hT
  unfold tJ at h0
  obtain ⟨rr0, hl0, h0⟩ := aV h0
  refine cQ (by kernel_rfl) (fun (s : List aM × Int) T H => ∃ lo4 : Nat, Has T [(0, (eL aH l0)), (1, (eL aD r1)), (5, (.msl 2 lo4 0 (List.length s.1))), (6, (eI s.2))] ∧ aL ⟨H0, [], []⟩ H [(lo4, 2, List.map aX s.1)]) hl0 ⟨lo4, .eq (by kernel_rfl), hO⟩ ?_
  clear hO
  rintro k0 s out1 T H ⟨lo4, hT, hO⟩ h1 ho0
  obtain ⟨f5, i6⟩ := s
  replace h1 : lK l0 r1 f5 i6 = some out1 := h1
  try dsimp only at hT
  refine aZ hT ?_
  clear hT
  unfold lK at h1
  refine aN ?_
  refine aR aC 4 [] [(11, (aE (decide (i6 < (lN l0)))))] ?_
  refine bE h1 (fun h1 => ?_) (fun h1 => ?_)
  · refine bF ?_
    refine bB [(0, (eL aH l0)), (1, (eL aD r1)), (5, (.msl 2 lo4 0 (List.length f5))), (6, (eI i6))] ?_
    refine dZ (fun T H => ∃ f5 : List aM, ∃ lo6 : Nat, Has T [(0, (eL aH l0)), (1, (eL aD r1)), (5, (.msl 2 lo6 0 (List.length f5))), (6, (eI i6))] ∧ aL ⟨H0, [], []⟩ H [(lo6, 2, List.map aX f5)] ∧ pT l0 r1 f5 i6 = some out1) ?_ ?_
    · clear hO h1
      rintro T H ⟨f5, lo6, hT, hO, h1⟩
      refine aZ hT ?_
      clear hT
      unfold pT at h1
      refine aU aC 3 ?_
      refine bA ?_
      exact aG (aF (⟨rfl, _, (oI h1).symm, _, .eq (by kernel_rfl), hO⟩))
    refine bX 1 ?_
    refine aN ?_
    refine aU aC 7 ?_
    obtain ⟨c7, h1⟩ := aS h1
    refine nH 6 [0 ≤ i6 ∧ i6 < (lN l0)] ⟨c7, trivial⟩ ?_
    obtain ⟨x8, hx9, h1⟩ := aV h1
    refine dI (DC ((gD l0 i6).Row) r1 _ hx9) hO ?_
    intro H hO
    refine iF ?_
    refine bP [] [(20, (aE x8))] ?_
    refine bE h1 (fun h1 => ?_) (fun h1 => ?_)
    · refine eM (eK [26, 31, 33]) aC 15 ?_
      obtain ⟨c12, h1⟩ := aS h1
      obtain ⟨c13, h1⟩ := aS h1
      refine bZ 12 [0 ≤ i6 ∧ i6 < (lN l0), 0 ≤ i6 ∧ i6 < (lN l0)] ⟨c12, c13, trivial⟩ ?_
      refine RJ (xs := [(aX (aM.mk ((gD l0 i6).At) ((gD l0 i6).Net)))]) (k := 2) (by kernel_rfl) (by kernel_rfl) ?_
      obtain ⟨c15, h1⟩ := aS h1
      refine IW (e := aX) f5 ([aM.mk ((gD l0 i6).At) ((gD l0 i6).Net)]) 0 lo4 2 16 (iY [(aX (aM.mk ((gD l0 i6).At) ((gD l0 i6).Net)))]) (fun lo14 => [(lo14, 2, List.map aX (f5 ++ ([aM.mk ((gD l0 i6).At) ((gD l0 i6).Net)])))]) (by kernel_rfl) (by kernel_rfl) hO (by kernel_rfl) (by kernel_rfl) c15 (fun _ => by kernel_rfl) ?_
      intro lo14 H hO
      refine iH ?_
      exact aG (aW (aF (⟨rfl, _, _, .eq (by kernel_rfl), hO, h1⟩)))
    refine bF ?_
    exact aG (aW (aF (⟨rfl, _, _, .eq (by kernel_rfl), hO, h1⟩)))
  refine fB 0 ?_
  obtain rfl := oI h1
  obtain rfl : _ = rr0 := ho0
  replace h0 : tB f5 = some r := h0
  exact aG (aT (aT (bO (aF (⟨rfl, _, _, .eq (by kernel_rfl), hO, h0⟩)))))

theorem ES (l0 : (List aI)) (r : Bool) (h0 : rO l0 = some r) : dB Try.prog 34 [(eL aH l0)] (aE r) := by
  intro H0
  refine cZ Try.func34 ?_
  have hO := aL.start H0
  unfold rO at h0
  refine aR aC 1 [] [] ?_
  refine aN ?_
  refine aR aC 3 [] [(9, (aE (decide ((4096 : Int) < (lN l0)))))] ?_
  refine bE h0 (fun h0 => ?_) (fun h0 => ?_)
  · refine bQ aC 1 [(2, (aE false))] ?_
    refine bD ?_
    obtain rfl := oI h0
    exact aG (aP (Q_r hO))
  refine bF ?_
  refine bB [(0, (eL aH l0))] ?_
  refine dZ (fun T H => Has T [(0, (eL aH l0))] ∧ aL ⟨H0, [], []⟩ H [] ∧ sR l0 = some r) ?_ ?_
  · clear hO h0
    rintro T H ⟨hT, hO, h0⟩
    refine aZ hT ?_
    clear hT
    unfold sR at h0
    refine aN ?_
    refine aU aC 3 ?_
    refine bS 1 ?_
    obtain ⟨x2, hx3, h0⟩ := aV h0
    refine dI (CD l0 _ hx3) hO ?_
    intro H hO
    refine bA ?_
    refine bP [] [(5, (eL (eL aD) x2))] ?_
    refine dZ (fun T H => Has T [] ∧ aL ⟨H0, [], []⟩ H [] ∧ vF  = some r) ?_ ?_
    · clear hO h0
      rintro T H ⟨hT, hO, h0⟩
      refine aZ hT ?_
      clear hT
      unfold vF at h0
      refine bQ aC 1 [(2, (aE true))] ?_
      refine bD ?_
      obtain rfl := oI h0
      exact aG (Q_r hO)
    refine aR aC 1 [] [(6, (eI (0 : Int)))] ?_
    refine bX 2 ?_
    refine fG [(0, (eL aH l0)), (5, (eL (eL aD) x2)), (6, (eI (0 : Int)))] ?_
    refine dS (fun T H => ∃ pP : (List (List aB)), ∃ i6 : Int, Has T [(0, (eL aH l0)), (5, (eL (eL aD) pP)), (6, (eI i6))] ∧ aL ⟨H0, [], []⟩ H [] ∧ vG l0 pP i6 = some r) ?_ ⟨x2, (0 : Int), .eq (by kernel_rfl), hO, h0⟩
    clear hO h0
    rintro T H ⟨pP, i6, hT, hO, h0⟩
    refine aZ hT ?_
    clear hT
    unfold vG at h0
    obtain ⟨rr0, hl0, h0⟩ := aV h0
    refine cQ (by kernel_rfl) (fun (s : Int) T H => Has T [(0, (eL aH l0)), (5, (eL (eL aD) pP)), (6, (eI s))] ∧ aL ⟨H0, [], []⟩ H []) hl0 ⟨.eq (by kernel_rfl), hO⟩ ?_
    clear hO
    rintro k0 s out1 T H ⟨hT, hO⟩ h1 ho0
    obtain ⟨i6, rfl⟩ : ∃ x, x = s := ⟨_, rfl⟩
    replace h1 : oE l0 pP i6 = some out1 := h1
    refine aZ hT ?_
    clear hT
    unfold oE at h1
    refine aN ?_
    refine aR aC 4 [] [(78, (aE (decide (i6 < (lN pP)))))] ?_
    refine bE h1 (fun h1 => ?_) (fun h1 => ?_)
    · refine bF ?_
      refine bB [(0, (eL aH l0)), (5, (eL (eL aD) pP)), (6, (eI i6))] ?_
      refine aN ?_
      refine bX 3 ?_
      refine aN ?_
      refine aU aC 8 ?_
      obtain ⟨c6, h1⟩ := aS h1
      refine nH 5 [0 ≤ i6 ∧ i6 < (lN pP)] ⟨c6, trivial⟩ ?_
      obtain ⟨x7, hx8, h1⟩ := aV h1
      refine dI (BS l0 (gD pP i6) _ hx8) hO ?_
      intro H hO
      refine bA ?_
      refine bP [] [(88, (aE (decide ((1024 : Int) < (lN x7)))))] ?_
      refine bE h1 (fun h1 => ?_) (fun h1 => ?_)
      · refine bQ aC 1 [(2, (aE false))] ?_
        refine bD ?_
        obtain rfl := oI h1
        obtain rfl : _ = rr0 := ho0
        replace h0 : some false = some r := h0
        obtain rfl := oI h0
        exact aG (bI (aP (aP (bI (aP (Q_r hO))))))
      refine bF ?_
      refine fX [(0, (eL aH l0)), (5, (eL (eL aD) pP)), (6, (eI i6))] ?_
      refine aG (aW (aF (?_)))
      refine aU aC 3 ?_
      refine bA ?_
      exact aG (aF (⟨rfl, _, (oI h1).symm, .eq (by kernel_rfl), hO⟩))
    refine fB 2 ?_
    obtain rfl := oI h1
    obtain rfl : _ = rr0 := ho0
    replace h0 : vF  = some r := h0
    exact aG (aT (aT (bO (aF (⟨rfl, .eq (by kernel_rfl), hO, h0⟩)))))
  refine aR aC 1 [] [(3, (eI (0 : Int)))] ?_
  refine bX 0 ?_
  refine fG [(0, (eL aH l0)), (3, (eI (0 : Int)))] ?_
  refine dS (fun T H => ∃ i3 : Int, Has T [(0, (eL aH l0)), (3, (eI i3))] ∧ aL ⟨H0, [], []⟩ H [] ∧ vN l0 i3 = some r) ?_ ⟨(0 : Int), .eq (by kernel_rfl), hO, h0⟩
  clear hO h0
  rintro T H ⟨i3, hT, hO, h0⟩
  refine aZ hT ?_
  clear hT
  unfold vN at h0
  obtain ⟨rr0, hl0, h0⟩ := aV h0
  refine cQ (by kernel_rfl) (fun (s : Int) T H => Has T [(0, (eL aH l0)), (3, (eI s))] ∧ aL ⟨H0, [], []⟩ H []) hl0 ⟨.eq (by kernel_rfl), hO⟩ ?_
  clear hO
  rintro k0 s out1 T H ⟨hT, hO⟩ h1 ho0
  obtain ⟨i3, rfl⟩ : ∃ x, x = s := ⟨_, rfl⟩
  replace h1 : mX l0 i3 = some out1 := h1
  refine aZ hT ?_
  clear hT
  unfold mX at h1
  refine aN ?_
  refine aR aC 4 [] [(13, (aE (decide (i3 < (lN l0)))))] ?_
  refine bE h1 (fun h1 => ?_) (fun h1 => ?_)
  · refine bF ?_
    refine bB [(0, (eL aH l0)), (3, (eI i3))] ?_
    refine dZ (fun T H => Has T [(0, (eL aH l0)), (3, (eI i3))] ∧ aL ⟨H0, [], []⟩ H [] ∧ pR l0 i3 = some out1) ?_ ?_
    · clear hO h1
      rintro T H ⟨hT, hO, h1⟩
      refine aZ hT ?_
      clear hT
      unfold pR at h1
      refine aU aC 3 ?_
      refine bA ?_
      exact aG (aF (⟨rfl, _, (oI h1).symm, .eq (by kernel_rfl), hO⟩))
    refine bX 1 ?_
    refine aN ?_
    refine aN ?_
    obtain ⟨c12, h1⟩ := aS h1
    obtain ⟨x13, hx14, h1⟩ := aV h1
    obtain ⟨c15, h1⟩ := aS h1
    obtain ⟨c16, h1⟩ := aS h1
    obtain ⟨x17, hx18, h1⟩ := aV h1
    refine eM (eK [20, 28, 33]) aC 23 ?_
    refine mW (K := fun T H => Has (lift T) [(0, (eL aH l0)), (3, (eI i3)), (38, (aE ((!x13) || (!x17))))] ∧ aL ⟨H0, [], []⟩ H []) ?_ ?_
    · refine bZ 5 [0 ≤ i3 ∧ i3 < (lN l0)] ⟨c12, trivial⟩ ?_
      refine mL 62 [(eL aD ((gD l0 i3).Row))] (aE x13) (by kernel_rfl) (by kernel_rfl) (zK ((gD l0 i3).Row) _ hx14) hO ?_
      intro H hO
      refine kP 8 ?_
      refine lG (t := 23) (e := !x13) (by kernel_rfl) (fun hg19 => ?_) (fun hg19 => ?_)
      · refine iH ?_
        exact ⟨⟨[(0, (eL aH l0)), (3, (eI i3)), (38, (aE true))], by kernel_rfl, rfl, ⟨aO.refl _, aO.refl _, aO.eq (congrArg aE (LD hg19 rfl).symm), trivial⟩⟩, hO⟩
      refine bZ 19 [0 ≤ i3 ∧ i3 < (lN l0), 0 ≤ i3 ∧ i3 < (lN l0)] ⟨(c15 (HU hg19)), (c16 (HU hg19)), trivial⟩ ?_
      refine aAm (xs := [(aX (aM.mk ((gD l0 i3).At) ((gD l0 i3).Net)))]) (by kernel_rfl) (by kernel_rfl) ?_
      refine mL 63 [(iY [(aX (aM.mk ((gD l0 i3).At) ((gD l0 i3).Net)))])] (aE x17) (by kernel_rfl) (by kernel_rfl) (dB.sub (ET ([aM.mk ((gD l0 i3).At) ((gD l0 i3).Net)]) _ (jJ hx18 (HU hg19))) ⟨GD (l := [aM.mk ((gD l0 i3).At) ((gD l0 i3).Net)]), trivial⟩) hO ?_
      intro H hO
      refine iH ?_
      exact ⟨⟨[(0, (eL aH l0)), (3, (eI i3)), (38, (aE (!x17)))], by kernel_rfl, rfl, ⟨aO.refl _, aO.refl _, aO.eq (congrArg aE (LD hg19 rfl).symm), trivial⟩⟩, hO⟩
    · rintro T H ⟨hT, hO⟩
      refine dA hT ?_
      clear hT
      refine aG (aF ?_)
      refine bE h1 (fun h1 => ?_) (fun h1 => ?_)
      · refine bQ aC 1 [(2, (aE false))] ?_
        refine bD ?_
        obtain rfl := oI h1
        obtain rfl : _ = rr0 := ho0
        replace h0 : some false = some r := h0
        obtain rfl := oI h0
        exact aG (aP (bI (aP (aP (bI (aP (Q_r hO)))))))
      refine bF ?_
      refine bB [(0, (eL aH l0)), (3, (eI i3))] ?_
      refine aN ?_
      refine aR aC 2 [] [(40, (aE (decide (i3 = (0 : Int)))))] ?_
      refine bE h1 (fun h1 => ?_) (fun h1 => ?_)
      · refine fB 1 ?_
        exact aG (aT (bO (aF (⟨rfl, .eq (by kernel_rfl), hO, h1⟩))))
      refine bF ?_
      refine bB [(0, (eL aH l0)), (3, (eI i3))] ?_
      refine aN ?_
      refine eM (eK [46, 51, 52]) aC 13 ?_
      obtain ⟨c22, h1⟩ := aS h1
      obtain ⟨c23, h1⟩ := aS h1
      refine bZ 11 [0 ≤ (wR (i3 - (1 : Int))) ∧ (wR (i3 - (1 : Int))) < (lN l0), 0 ≤ i3 ∧ i3 < (lN l0)] ⟨c22, c23, trivial⟩ ?_
      obtain ⟨x24, hx25, h1⟩ := aV h1
      refine BV (zC ((gD l0 (wR (i3 - (1 : Int)))).Row) ((gD l0 i3).Row) _ hx25) hO ?_
      intro H hO
      refine iH ?_
      refine bP [] [(4, (eI x24))] ?_
      refine aN ?_
      obtain ⟨c27, h1⟩ := aS h1
      obtain ⟨c28, h1⟩ := aS h1
      refine eM (eK [64, 69]) aC 20 ?_
      refine mW (K := fun T H => Has (lift T) [(0, (eL aH l0)), (3, (eI i3)), (72, (aE ((decide ((0 : Int) < x24)) || ((decide (x24 = (0 : Int))) && (decide (((gD l0 i3).At) ≤ ((gD l0 (wR (i3 - (1 : Int)))).At)))))))] ∧ aL ⟨H0, [], []⟩ H []) ?_ ?_
      · refine kP 3 ?_
        refine lG (t := 55) (e := decide ((0 : Int) < x24)) (by kernel_rfl) (fun hg29 => ?_) (fun hg29 => ?_)
        · refine iH ?_
          exact ⟨⟨[(0, (eL aH l0)), (3, (eI i3)), (72, (aE true))], by kernel_rfl, rfl, ⟨aO.refl _, aO.refl _, aO.eq (congrArg aE (LD hg29 rfl).symm), trivial⟩⟩, hO⟩
        refine kP 6 ?_
        refine lG (t := 58) (e := decide (x24 = (0 : Int))) (by kernel_rfl) (fun hg30 => ?_) (fun hg30 => ?_)
        · refine xQ (Ds := [0 ≤ (wR (i3 - (1 : Int))) ∧ (wR (i3 - (1 : Int))) < (lN l0), 0 ≤ i3 ∧ i3 < (lN l0)]) (by kernel_rfl) ⟨(c27 (jA hg30 (HU hg29))), (c28 (jA hg30 (HU hg29))), trivial⟩ ?_
          exact ⟨⟨[(0, (eL aH l0)), (3, (eI i3)), (72, (aE (decide (((gD l0 i3).At) ≤ ((gD l0 (wR (i3 - (1 : Int)))).At)))))], by kernel_rfl, rfl, ⟨aO.refl _, aO.refl _, aO.eq (congrArg aE (LD hg29 (jA hg30 rfl)).symm), trivial⟩⟩, hO⟩
        refine iH ?_
        exact ⟨⟨[(0, (eL aH l0)), (3, (eI i3)), (72, (aE false))], by kernel_rfl, rfl, ⟨aO.refl _, aO.refl _, aO.eq (congrArg aE (LD hg29 (jA hg30 rfl)).symm), trivial⟩⟩, hO⟩
      · rintro T H ⟨hT, hO⟩
        refine dA hT ?_
        clear hT
        refine aG (aF ?_)
        refine bE h1 (fun h1 => ?_) (fun h1 => ?_)
        · refine bQ aC 1 [(2, (aE false))] ?_
          refine bD ?_
          obtain rfl := oI h1
          obtain rfl : _ = rr0 := ho0
          replace h0 : some false = some r := h0
          obtain rfl := oI h0
          exact aG (bI (aP (aP (bI (aP (Q_r hO))))))
        refine bF ?_
        exact aG (aW (aF (⟨rfl, .eq (by kernel_rfl), hO, h1⟩)))
  refine fB 0 ?_
  obtain rfl := oI h1
  obtain rfl : _ = rr0 := ho0
  replace h0 : sR l0 = some r := h0
  exact aG (aT (aT (bO (aF (⟨rfl, .eq (by kernel_rfl), hO, h0⟩)))))

theorem wZ (f0 : (List aM)) (t1 : Int) (r : Int) (h0 : mE f0 t1 = some r) : dB Try.prog 44 [(eL aX f0), (eI t1)] (eI r) := by
  intro H0
  refine cZ Try.func44 ?_
  have hO := aL.start H0
  unfold mE at h0
  refine aR aC 1 [] [] ?_
  refine aR aC 1 [] [(5, (eI (0 : Int)))] ?_
  refine dZ (fun T H => ∃ v5 : Int, Has T [(5, (eI v5))] ∧ aL ⟨H0, [], []⟩ H [] ∧ qD v5 = some r) ?_ ?_
  · clear hO h0
    rintro T H ⟨v5, hT, hO, h0⟩
    refine aZ hT ?_
    clear hT
    unfold qD at h0
    refine bQ aC 2 [(4, (eI v5))] ?_
    refine bD ?_
    obtain rfl := oI h0
    exact aG (Q_r hO)
  refine aR aC 1 [] [(6, (eI (0 : Int)))] ?_
  refine bX 0 ?_
  refine fG [(0, (eL aX f0)), (1, (eI t1)), (5, (eI (0 : Int))), (6, (eI (0 : Int)))] ?_
  refine dS (fun T H => ∃ v5 : Int, ∃ i6 : Int, Has T [(0, (eL aX f0)), (1, (eI t1)), (5, (eI v5)), (6, (eI i6))] ∧ aL ⟨H0, [], []⟩ H [] ∧ tE f0 t1 v5 i6 = some r) ?_ ⟨(0 : Int), (0 : Int), .eq (by kernel_rfl), hO, h0⟩
  clear hO h0
  rintro T H ⟨v5, i6, hT, hO, h0⟩
  refine aZ hT ?_
  clear hT
  unfold tE at h0
  obtain ⟨rr0, hl0, h0⟩ := aV h0
  refine cQ (by kernel_rfl) (fun (s : Int × Int) T H => Has T [(0, (eL aX f0)), (1, (eI t1)), (5, (eI s.1)), (6, (eI s.2))] ∧ aL ⟨H0, [], []⟩ H []) hl0 ⟨.eq (by kernel_rfl), hO⟩ ?_
  clear hO
  rintro k0 s out1 T H ⟨hT, hO⟩ h1 ho0
  obtain ⟨v5, i6⟩ := s
  replace h1 : jM f0 t1 v5 i6 = some out1 := h1
  try dsimp only at hT
  refine aZ hT ?_
  clear hT
  unfold jM at h1
  refine aN ?_
  refine aR aC 4 [] [(10, (aE (decide (i6 < (lN f0)))))] ?_
  refine bE h1 (fun h1 => ?_) (fun h1 => ?_)
  · refine bF ?_
    refine bB [(0, (eL aX f0)), (1, (eI t1)), (5, (eI v5)), (6, (eI i6))] ?_
    refine dZ (fun T H => ∃ v5 : Int, Has T [(0, (eL aX f0)), (1, (eI t1)), (5, (eI v5)), (6, (eI i6))] ∧ aL ⟨H0, [], []⟩ H [] ∧ nT f0 t1 v5 i6 = some out1) ?_ ?_
    · clear hO h1
      rintro T H ⟨v5, hT, hO, h1⟩
      refine aZ hT ?_
      clear hT
      unfold nT at h1
      refine aU aC 3 ?_
      refine bA ?_
      exact aG (aF (⟨rfl, _, (oI h1).symm, .eq (by kernel_rfl), hO⟩))
    refine bX 1 ?_
    refine aN ?_
    refine aU aC 7 ?_
    obtain ⟨c2, h1⟩ := aS h1
    refine lV [0 ≤ i6 ∧ i6 < (lN f0)] ⟨c2, trivial⟩ ?_
    refine bP [] [(19, (aE (decide (((gD f0 i6).At) ≤ t1))))] ?_
    refine bE h1 (fun h1 => ?_) (fun h1 => ?_)
    · refine aU aC 8 ?_
      obtain ⟨c4, h1⟩ := aS h1
      refine lV [0 ≤ i6 ∧ i6 < (lN f0)] ⟨c4, trivial⟩ ?_
      exact aG (aW (aF (⟨rfl, _, .eq (by kernel_rfl), hO, h1⟩)))
    refine bF ?_
    exact aG (aW (aF (⟨rfl, _, .eq (by kernel_rfl), hO, h1⟩)))
  refine fB 0 ?_
  obtain rfl := oI h1
  obtain rfl : _ = rr0 := ho0
  replace h0 : qD v5 = some r := h0
  exact aG (aT (aT (bO (aF (⟨rfl, _, .eq (by kernel_rfl), hO, h0⟩)))))

theorem KO (f0 : (List aM)) (r : Int) (h0 : qY f0 = some r) : dB Try.prog 65 [(eL aX f0)] (eI r) := by
  intro H0
  refine cZ Try.func65 ?_
  have hO := aL.start H0
  unfold qY at h0
  refine aR aC 1 [] [] ?_
  refine aN ?_
  refine aN ?_
  refine aU aC 3 ?_
  refine bS 1 ?_
  obtain ⟨x1, hx2, h0⟩ := aV h0
  refine dI (ET f0 _ hx2) hO ?_
  intro H hO
  refine bA ?_
  refine bP [] [(7, (aE (!x1)))] ?_
  refine bE h0 (fun h0 => ?_) (fun h0 => ?_)
  · refine bQ aC 1 [(2, (eI (0 : Int)))] ?_
    refine bD ?_
    obtain rfl := oI h0
    exact aG (aP (Q_r hO))
  refine bF ?_
  refine bB [(0, (eL aX f0))] ?_
  refine aN ?_
  refine aU aC 3 ?_
  refine bS 1 ?_
  obtain ⟨x5, hx6, h0⟩ := aV h0
  refine dI (wZ f0 (-1 : Int) _ hx6) hO ?_
  intro H hO
  refine bA ?_
  refine bP [] [(3, (eI x5))] ?_
  refine dZ (fun T H => ∃ m3 : Int, Has T [(3, (eI m3))] ∧ aL ⟨H0, [], []⟩ H [] ∧ qB m3 = some r) ?_ ?_
  · clear hO h0
    rintro T H ⟨m3, hT, hO, h0⟩
    refine aZ hT ?_
    clear hT
    unfold qB at h0
    refine bQ aC 2 [(2, (eI m3))] ?_
    refine bD ?_
    obtain rfl := oI h0
    exact aG (Q_r hO)
  refine aR aC 1 [] [(4, (eI (0 : Int)))] ?_
  refine bX 0 ?_
  refine fG [(0, (eL aX f0)), (3, (eI x5)), (4, (eI (0 : Int)))] ?_
  refine dS (fun T H => ∃ m3 : Int, ∃ i4 : Int, Has T [(0, (eL aX f0)), (3, (eI m3)), (4, (eI i4))] ∧ aL ⟨H0, [], []⟩ H [] ∧ tK f0 m3 i4 = some r) ?_ ⟨x5, (0 : Int), .eq (by kernel_rfl), hO, h0⟩
  clear hO h0
  rintro T H ⟨m3, i4, hT, hO, h0⟩
  refine aZ hT ?_
  clear hT
  unfold tK at h0
  obtain ⟨rr0, hl0, h0⟩ := aV h0
  refine cQ (by kernel_rfl) (fun (s : Int × Int) T H => Has T [(0, (eL aX f0)), (3, (eI s.1)), (4, (eI s.2))] ∧ aL ⟨H0, [], []⟩ H []) hl0 ⟨.eq (by kernel_rfl), hO⟩ ?_
  clear hO
  rintro k0 s out1 T H ⟨hT, hO⟩ h1 ho0
  obtain ⟨m3, i4⟩ := s
  replace h1 : lF f0 m3 i4 = some out1 := h1
  try dsimp only at hT
  refine aZ hT ?_
  clear hT
  unfold lF at h1
  refine aN ?_
  refine aR aC 4 [] [(13, (aE (decide (i4 < (lN f0)))))] ?_
  refine bE h1 (fun h1 => ?_) (fun h1 => ?_)
  · refine bF ?_
    refine bB [(0, (eL aX f0)), (3, (eI m3)), (4, (eI i4))] ?_
    refine dZ (fun T H => ∃ m3 : Int, Has T [(0, (eL aX f0)), (3, (eI m3)), (4, (eI i4))] ∧ aL ⟨H0, [], []⟩ H [] ∧ qE f0 m3 i4 = some out1) ?_ ?_
    · clear hO h1
      rintro T H ⟨m3, hT, hO, h1⟩
      refine aZ hT ?_
      clear hT
      unfold qE at h1
      refine aU aC 3 ?_
      refine bA ?_
      exact aG (aF (⟨rfl, _, (oI h1).symm, .eq (by kernel_rfl), hO⟩))
    refine bX 1 ?_
    refine aN ?_
    refine aU aC 9 ?_
    obtain ⟨c9, h1⟩ := aS h1
    refine nH 6 [0 ≤ i4 ∧ i4 < (lN f0)] ⟨c9, trivial⟩ ?_
    obtain ⟨x10, hx11, h1⟩ := aV h1
    refine dI (wZ f0 ((gD f0 i4).At) _ hx11) hO ?_
    intro H hO
    refine bA ?_
    refine bP [] [(24, (aE (decide (x10 < m3))))] ?_
    refine bE h1 (fun h1 => ?_) (fun h1 => ?_)
    · refine aU aC 8 ?_
      obtain ⟨c14, h1⟩ := aS h1
      refine nH 6 [0 ≤ i4 ∧ i4 < (lN f0)] ⟨c14, trivial⟩ ?_
      obtain ⟨x15, hx16, h1⟩ := aV h1
      refine dI (wZ f0 ((gD f0 i4).At) _ hx16) hO ?_
      intro H hO
      refine bA ?_
      exact aG (aW (aF (⟨rfl, _, .eq (by kernel_rfl), hO, h1⟩)))
    refine bF ?_
    exact aG (aW (aF (⟨rfl, _, .eq (by kernel_rfl), hO, h1⟩)))
  refine fB 0 ?_
  obtain rfl := oI h1
  obtain rfl : _ = rr0 := ho0
  replace h0 : qB m3 = some r := h0
  exact aG (aT (aT (bO (aF (⟨rfl, _, .eq (by kernel_rfl), hO, h0⟩)))))

theorem KK (l0 : (List aI)) (r : Bool) (h0 : rG l0 = some r) : dB Try.prog 35 [(eL aH l0)] (aE r) := by
  intro H0
  refine cZ Try.func35 ?_
  have hO := aL.start H0
  unfold rG at h0
  refine aR aC 1 [] [] ?_
  refine aN ?_
  refine aN ?_
  refine aU aC 3 ?_
  refine bS 1 ?_
  obtain ⟨x1, hx2, h0⟩ := aV h0
  refine dI (ES l0 _ hx2) hO ?_
  intro H hO
  refine bA ?_
  refine bP [] [(7, (aE (!x1)))] ?_
  refine bE h0 (fun h0 => ?_) (fun h0 => ?_)
  · refine bQ aC 1 [(2, (aE false))] ?_
    refine bD ?_
    obtain rfl := oI h0
    exact aG (aP (Q_r hO))
  refine bF ?_
  refine bB [(0, (eL aH l0))] ?_
  refine aN ?_
  refine aU aC 3 ?_
  refine bS 1 ?_
  obtain ⟨x5, hx6, h0⟩ := aV h0
  refine dI (CD l0 _ hx6) hO ?_
  intro H hO
  refine bA ?_
  refine bP [] [(3, (eL (eL aD) x5))] ?_
  refine dZ (fun T H => Has T [] ∧ aL ⟨H0, [], []⟩ H [] ∧ sX  = some r) ?_ ?_
  · clear hO h0
    rintro T H ⟨hT, hO, h0⟩
    refine aZ hT ?_
    clear hT
    unfold sX at h0
    refine bQ aC 1 [(2, (aE true))] ?_
    refine bD ?_
    obtain rfl := oI h0
    exact aG (Q_r hO)
  refine aR aC 1 [] [(4, (eI (0 : Int)))] ?_
  refine bX 0 ?_
  refine fG [(0, (eL aH l0)), (3, (eL (eL aD) x5)), (4, (eI (0 : Int)))] ?_
  refine dS (fun T H => ∃ bG : (List (List aB)), ∃ i4 : Int, Has T [(0, (eL aH l0)), (3, (eL (eL aD) bG)), (4, (eI i4))] ∧ aL ⟨H0, [], []⟩ H [] ∧ tG l0 bG i4 = some r) ?_ ⟨x5, (0 : Int), .eq (by kernel_rfl), hO, h0⟩
  clear hO h0
  rintro T H ⟨bG, i4, hT, hO, h0⟩
  refine aZ hT ?_
  clear hT
  unfold tG at h0
  obtain ⟨rr0, hl0, h0⟩ := aV h0
  refine cQ (by kernel_rfl) (fun (s : Int) T H => Has T [(0, (eL aH l0)), (3, (eL (eL aD) bG)), (4, (eI s))] ∧ aL ⟨H0, [], []⟩ H []) hl0 ⟨.eq (by kernel_rfl), hO⟩ ?_
  clear hO
  rintro k0 s out1 T H ⟨hT, hO⟩ h1 ho0
  obtain ⟨i4, rfl⟩ : ∃ x, x = s := ⟨_, rfl⟩
  replace h1 : mN l0 bG i4 = some out1 := h1
  refine aZ hT ?_
  clear hT
  unfold mN at h1
  refine aN ?_
  refine aR aC 4 [] [(13, (aE (decide (i4 < (lN bG)))))] ?_
  refine bE h1 (fun h1 => ?_) (fun h1 => ?_)
  · refine bF ?_
    refine bB [(0, (eL aH l0)), (3, (eL (eL aD) bG)), (4, (eI i4))] ?_
    refine aN ?_
    refine bX 1 ?_
    refine aN ?_
    refine aU aC 8 ?_
    obtain ⟨c9, h1⟩ := aS h1
    refine nH 5 [0 ≤ i4 ∧ i4 < (lN bG)] ⟨c9, trivial⟩ ?_
    obtain ⟨x10, hx11, h1⟩ := aV h1
    refine dI (BS l0 (gD bG i4) _ hx11) hO ?_
    intro H hO
    obtain ⟨x13, hx14, h1⟩ := aV h1
    refine dI (KO x10 _ hx14) hO ?_
    intro H hO
    refine bA ?_
    refine bP [] [(23, (aE (decide (x13 < (0 : Int)))))] ?_
    refine bE h1 (fun h1 => ?_) (fun h1 => ?_)
    · refine bQ aC 1 [(2, (aE false))] ?_
      refine bD ?_
      obtain rfl := oI h1
      obtain rfl : _ = rr0 := ho0
      replace h0 : some false = some r := h0
      obtain rfl := oI h0
      exact aG (bI (aP (aP (bI (aP (Q_r hO))))))
    refine bF ?_
    refine fX [(0, (eL aH l0)), (3, (eL (eL aD) bG)), (4, (eI i4))] ?_
    refine aG (aW (aF (?_)))
    refine aU aC 3 ?_
    refine bA ?_
    exact aG (aF (⟨rfl, _, (oI h1).symm, .eq (by kernel_rfl), hO⟩))
  refine fB 0 ?_
  obtain rfl := oI h1
  obtain rfl : _ = rr0 := ho0
  replace h0 : sX  = some r := h0
  exact aG (aT (aT (bO (aF (⟨rfl, .eq (by kernel_rfl), hO, h0⟩)))))

theorem BM (l0 : (List aI)) (n1 : Int) (r : Int) (h0 : oU l0 n1 = some r) : dB Try.prog 48 [(eL aH l0), (eI n1)] (eI r) := by
  intro H0
  refine cZ Try.func48 ?_
  have hO := aL.start H0
  unfold oU at h0
  refine aR aC 1 [] [] ?_
  refine aN ?_
  refine aN ?_
  refine aU aC 11 ?_
  refine bS 1 ?_
  obtain ⟨x1, hx2, h0⟩ := aV h0
  refine dI (ES l0 _ hx2) hO ?_
  intro H hO
  refine bA ?_
  refine bP [1] [(15, (aE (((!x1) || (decide (n1 < (1 : Int)))) || (decide ((64 : Int) < n1)))))] ?_
  refine bE h0 (fun h0 => ?_) (fun h0 => ?_)
  · refine bQ aC 1 [(4, (eI (2 : Int)))] ?_
    refine bD ?_
    obtain rfl := oI h0
    exact aG (aP (Q_r hO))
  refine bF ?_
  refine bB [(0, (eL aH l0))] ?_
  refine aN ?_
  refine aN ?_
  refine aU aC 3 ?_
  refine bS 1 ?_
  obtain ⟨x5, hx6, h0⟩ := aV h0
  refine dI (KK l0 _ hx6) hO ?_
  intro H hO
  refine bA ?_
  refine bB [(18, (aE (!x5)))] ?_
  refine bE h0 (fun h0 => ?_) (fun h0 => ?_)
  · refine bQ aC 1 [(4, (eI (20 : Int)))] ?_
    refine bD ?_
    obtain rfl := oI h0
    exact aG (aP (Q_r hO))
  refine bF ?_
  refine bB [] ?_
  refine bQ aC 1 [(4, (eI (0 : Int)))] ?_
  refine bD ?_
  obtain rfl := oI h0
  exact aG (Q_r hO)

theorem LK (l0 : (List Int)) (t1 : Int) (r : (List Int)) (h0 : sP l0 t1 = some r) : dB Try.prog 37 [(eL (eI) l0), (eI t1)] (eL (eI) r) := by
  intro H0
  refine cZ Try.func37 ?_
  have hO := aL.start H0
  unfold sP at h0
  refine aR aC 1 [] [] ?_
  refine aN ?_
  refine aU aC 2 ?_
  refine nB (xs := []) (k := 1) (by kernel_rfl) (by kernel_rfl) ?_
  refine bA ?_
  refine bP [] [(5, (.sl true 0 (fun _ => .bad)))] ?_
  refine aR aC 1 [] [(6, (aE false))] ?_
  refine dZ (fun T H => ∃ out5 : List Int, ∃ put6 : Bool, ∃ lo1 : Nat, Has T [(1, (eI t1)), (5, (.msl 1 lo1 0 (List.length out5))), (6, (aE put6))] ∧ aL ⟨H0, [], []⟩ H [(lo1, 1, List.map (eI) out5)] ∧ oR t1 out5 put6 = some r) ?_ ?_
  · clear hO h0
    rintro T H ⟨out5, put6, lo1, hT, hO, h0⟩
    refine aZ hT ?_
    clear hT
    unfold oR at h0
    refine dZ (fun T H => ∃ out5 : List Int, ∃ lo2 : Nat, Has T [(5, (.msl 1 lo2 0 (List.length out5)))] ∧ aL ⟨H0, [], []⟩ H [(lo2, 1, List.map (eI) out5)] ∧ oV out5 = some r) ?_ ?_
    · clear hO h0
      rintro T H ⟨out5, lo2, hT, hO, h0⟩
      refine aZ hT ?_
      clear hT
      unfold oV at h0
      refine bQ aC 2 [(4, (.msl 1 lo2 0 (List.length out5)))] ?_
      refine bD ?_
      refine fX [(4, (.msl 1 lo2 0 (List.length out5)))] ?_
      refine uU (en := (eI)) out5 0 0 4 1 lo2 (List.length out5) hO (by kernel_rfl) (by kernel_rfl) (by kernel_rfl) (L' := []) (by kernel_rfl) ?_
      intro H3 hO
      obtain rfl := oI h0
      exact aG (Q_r hO)
    refine aR aC 2 [6] [(44, (aE (!put6)))] ?_
    refine bE h0 (fun h0 => ?_) (fun h0 => ?_)
    · refine aU aC 5 ?_
      refine bS 2 ?_
      refine nB (xs := [(eI t1)]) (k := 1) (by kernel_rfl) (by kernel_rfl) ?_
      obtain ⟨c6, h0⟩ := aS h0
      refine tD (e := (eI)) out5 ([t1]) 0 lo1 1 8 (iY [(eI t1)]) (fun lo5 => [(lo5, 1, List.map (eI) (out5 ++ ([t1])))]) (by kernel_rfl) (by kernel_rfl) hO (by kernel_rfl) (by kernel_rfl) c6 (fun _ => by kernel_rfl) ?_
      intro lo5 H hO
      refine bA ?_
      exact aG (aF (⟨rfl, _, _, .eq (by kernel_rfl), hO, h0⟩))
    refine bF ?_
    exact aG (aF (⟨rfl, _, _, .eq (by kernel_rfl), hO, h0⟩))
  refine aR aC 1 [] [(7, (eI (0 : Int)))] ?_
  refine bX 0 ?_
  refine fG [(0, (eL (eI) l0)), (1, (eI t1)), (5, (.sl true 0 (fun _ => .bad))), (6, (aE false)), (7, (eI (0 : Int)))] ?_
  refine zX (el := (fun _ => .bad)) 2 5 1 hO (by kernel_rfl) ?_
  intro lo20 H21 hO
  refine dS (fun T H => ∃ out5 : List Int, ∃ put6 : Bool, ∃ i7 : Int, ∃ lo8 : Nat, Has T [(0, (eL (eI) l0)), (1, (eI t1)), (5, (.msl 1 lo8 0 (List.length out5))), (6, (aE put6)), (7, (eI i7))] ∧ aL ⟨H0, [], []⟩ H [(lo8, 1, List.map (eI) out5)] ∧ uD l0 t1 out5 put6 i7 = some r) ?_ ⟨([] : List Int), false, (0 : Int), lo20, .eq (by kernel_rfl), hO, h0⟩
  clear hO h0
  rintro T H ⟨out5, put6, i7, lo8, hT, hO, h0⟩
  refine aZ hT ?_
  clear hT
  unfold uD at h0
  obtain ⟨rr0, hl0, h0⟩ := aV h0
  refine cQ (by kernel_rfl) (fun (s : List Int × Bool × Int) T H => ∃ lo8 : Nat, Has T [(0, (eL (eI) l0)), (1, (eI t1)), (5, (.msl 1 lo8 0 (List.length s.1))), (6, (aE s.2.1)), (7, (eI s.2.2))] ∧ aL ⟨H0, [], []⟩ H [(lo8, 1, List.map (eI) s.1)]) hl0 ⟨lo8, .eq (by kernel_rfl), hO⟩ ?_
  clear hO
  rintro k0 s out1 T H ⟨lo8, hT, hO⟩ h1 ho0
  obtain ⟨out5, put6, i7⟩ := s
  replace h1 : iV l0 t1 out5 put6 i7 = some out1 := h1
  try dsimp only at hT
  refine aZ hT ?_
  clear hT
  unfold iV at h1
  refine aN ?_
  refine aR aC 4 [] [(12, (aE (decide (i7 < (lN l0)))))] ?_
  refine bE h1 (fun h1 => ?_) (fun h1 => ?_)
  · refine bF ?_
    refine bB [(0, (eL (eI) l0)), (1, (eI t1)), (5, (.msl 1 lo8 0 (List.length out5))), (6, (aE put6)), (7, (eI i7))] ?_
    refine aN ?_
    refine bX 1 ?_
    refine aN ?_
    refine aN ?_
    refine aU aC 6 ?_
    obtain ⟨c10, h1⟩ := aS h1
    refine lV [0 ≤ i7 ∧ i7 < (lN l0)] ⟨c10, trivial⟩ ?_
    refine bP [] [(20, (aE (decide ((gD l0 i7) = t1))))] ?_
    refine bE h1 (fun h1 => ?_) (fun h1 => ?_)
    · refine aN ?_
      refine aU aC 2 ?_
      refine bA ?_
      refine fX [(4, (eL (eI) l0))] ?_
      replace hO := hO.pick (L' := []) [] (by decide) (by kernel_rfl)
      refine aG (aF (?_))
      refine bD ?_
      obtain rfl := oI h1
      obtain rfl : _ = rr0 := ho0
      replace h0 : some l0 = some r := h0
      obtain rfl := oI h0
      exact aG (aP (bI (aP (aP (bI (aP (Q_r hO)))))))
    refine bF ?_
    refine bB [(0, (eL (eI) l0)), (1, (eI t1)), (5, (.msl 1 lo8 0 (List.length out5))), (6, (aE put6)), (7, (eI i7))] ?_
    refine dZ (fun T H => ∃ out5 : List Int, ∃ put6 : Bool, ∃ lo12 : Nat, Has T [(0, (eL (eI) l0)), (1, (eI t1)), (5, (.msl 1 lo12 0 (List.length out5))), (6, (aE put6)), (7, (eI i7))] ∧ aL ⟨H0, [], []⟩ H [(lo12, 1, List.map (eI) out5)] ∧ rI l0 t1 out5 put6 i7 = some out1) ?_ ?_
    · clear hO h1
      rintro T H ⟨out5, put6, lo12, hT, hO, h1⟩
      refine aZ hT ?_
      clear hT
      unfold rI at h1
      refine aU aC 8 ?_
      obtain ⟨c13, h1⟩ := aS h1
      refine nH 5 [0 ≤ i7 ∧ i7 < (lN l0)] ⟨c13, trivial⟩ ?_
      refine nB (xs := [(eI (gD l0 i7))]) (k := 1) (by kernel_rfl) (by kernel_rfl) ?_
      obtain ⟨c15, h1⟩ := aS h1
      refine tD (e := (eI)) out5 ([gD l0 i7]) 0 lo12 1 8 (iY [(eI (gD l0 i7))]) (fun lo14 => [(lo14, 1, List.map (eI) (out5 ++ ([gD l0 i7])))]) (by kernel_rfl) (by kernel_rfl) hO (by kernel_rfl) (by kernel_rfl) c15 (fun _ => by kernel_rfl) ?_
      intro lo14 H hO
      refine bA ?_
      refine fX [(0, (eL (eI) l0)), (1, (eI t1)), (5, (.msl 1 lo14 0 (List.length (out5 ++ ([gD l0 i7]))))), (6, (aE put6)), (7, (eI i7))] ?_
      refine aG (aW (aF (?_)))
      refine aU aC 3 ?_
      refine bA ?_
      exact aG (aF (⟨rfl, _, (oI h1).symm, _, .eq (by kernel_rfl), hO⟩))
    refine aN ?_
    refine aU aC 10 ?_
    obtain ⟨c16, h1⟩ := aS h1
    refine lV [0 ≤ i7 ∧ i7 < (lN l0)] ⟨c16, trivial⟩ ?_
    refine bP [] [(31, (aE ((decide (t1 < (gD l0 i7))) && (!put6))))] ?_
    refine bE h1 (fun h1 => ?_) (fun h1 => ?_)
    · refine aN ?_
      refine aU aC 5 ?_
      refine bS 2 ?_
      refine nB (xs := [(eI t1)]) (k := 1) (by kernel_rfl) (by kernel_rfl) ?_
      obtain ⟨c19, h1⟩ := aS h1
      refine tD (e := (eI)) out5 ([t1]) 0 lo8 1 8 (iY [(eI t1)]) (fun lo18 => [(lo18, 1, List.map (eI) (out5 ++ ([t1])))]) (by kernel_rfl) (by kernel_rfl) hO (by kernel_rfl) (by kernel_rfl) c19 (fun _ => by kernel_rfl) ?_
      intro lo18 H hO
      refine bA ?_
      refine bP [5, 6, 31] [(5, (.msl 1 lo18 0 (List.length (out5 ++ ([t1])))))] ?_
      refine aU aC 1 ?_
      refine bA ?_
      exact aG (aF (⟨rfl, _, _, _, .eq (by kernel_rfl), hO, h1⟩))
    refine bF ?_
    exact aG (aF (⟨rfl, _, _, _, .eq (by kernel_rfl), hO, h1⟩))
  refine fB 0 ?_
  obtain rfl := oI h1
  obtain rfl : _ = rr0 := ho0
  replace h0 : oR t1 out5 put6 = some r := h0
  exact aG (aT (aT (bO (aF (⟨rfl, _, _, _, .eq (by kernel_rfl), hO, h0⟩)))))

theorem AG (l0 : (List aI)) (r : ((List Int) × Int)) (h0 : nP l0 = some r) : dB Try.prog 22 [(eL aH l0)] (.tup [(eL (eI) r.1), (eI r.2)]) := by
  intro H0
  refine cZ Try.func22 ?_
  have hO := aL.start H0
  unfold nP at h0
  refine aR aC 2 [] [] ?_
  refine aN ?_
  refine aN ?_
  refine aU aC 3 ?_
  refine bS 1 ?_
  obtain ⟨x1, hx2, h0⟩ := aV h0
  refine dI (BM l0 (1 : Int) _ hx2) hO ?_
  intro H hO
  refine bA ?_
  refine bP [] [(4, (eI x1))] ?_
  refine aR aC 2 [] [(10, (aE (!decide (x1 = (0 : Int)))))] ?_
  refine bE h0 (fun h0 => ?_) (fun h0 => ?_)
  · refine bQ aC 3 [(2, (.sl true 0 (fun _ => .bad))), (3, (eI x1))] ?_
    refine bD ?_
    refine dA (l := [(2, (eL (eI) ([]))), (3, (eI x1))]) ⟨[(2, (.sl true 0 (fun _ => .bad))), (3, (eI x1))], by kernel_rfl, rfl, ⟨nQ, aO.refl _, trivial⟩⟩ ?_
    obtain rfl := oI h0
    exact aG (aP (Q_r hO))
  refine bF ?_
  refine bB [(0, (eL aH l0))] ?_
  refine aN ?_
  refine aU aC 2 ?_
  refine nB (xs := []) (k := 1) (by kernel_rfl) (by kernel_rfl) ?_
  refine bA ?_
  refine bP [] [(5, (.sl true 0 (fun _ => .bad)))] ?_
  refine dZ (fun T H => ∃ out5 : (List Int), Has T [(5, (eL (eI) out5))] ∧ aL ⟨H0, [], []⟩ H [] ∧ sF out5 = some r) ?_ ?_
  · clear hO h0
    rintro T H ⟨out5, hT, hO, h0⟩
    refine aZ hT ?_
    clear hT
    unfold sF at h0
    refine bQ aC 3 [(2, (eL (eI) out5)), (3, (eI (0 : Int)))] ?_
    refine bD ?_
    obtain rfl := oI h0
    exact aG (Q_r hO)
  refine aR aC 1 [] [(6, (eI (0 : Int)))] ?_
  refine bX 0 ?_
  refine aZ (l := [(0, (eL aH l0)), (5, (eL (eI) ([]))), (6, (eI (0 : Int)))]) ⟨[(0, (eL aH l0)), (5, (.sl true 0 (fun _ => .bad))), (6, (eI (0 : Int)))], by kernel_rfl, rfl, ⟨aO.refl _, nQ, aO.refl _, trivial⟩⟩ ?_
  refine dS (fun T H => ∃ out5 : (List Int), ∃ i6 : Int, Has T [(0, (eL aH l0)), (5, (eL (eI) out5)), (6, (eI i6))] ∧ aL ⟨H0, [], []⟩ H [] ∧ sC l0 out5 i6 = some r) ?_ ⟨[], (0 : Int), .eq (by kernel_rfl), hO, h0⟩
  clear hO h0
  rintro T H ⟨out5, i6, hT, hO, h0⟩
  refine aZ hT ?_
  clear hT
  unfold sC at h0
  obtain ⟨rr0, hl0, h0⟩ := aV h0
  refine cQ (by kernel_rfl) (fun (s : (List Int) × Int) T H => Has T [(0, (eL aH l0)), (5, (eL (eI) s.1)), (6, (eI s.2))] ∧ aL ⟨H0, [], []⟩ H []) hl0 ⟨.eq (by kernel_rfl), hO⟩ ?_
  clear hO
  rintro k0 s out1 T H ⟨hT, hO⟩ h1 ho0
  obtain ⟨out5, i6⟩ := s
  replace h1 : kS l0 out5 i6 = some out1 := h1
  try dsimp only at hT
  refine aZ hT ?_
  clear hT
  unfold kS at h1
  refine aN ?_
  refine aR aC 4 [] [(16, (aE (decide (i6 < (lN l0)))))] ?_
  refine bE h1 (fun h1 => ?_) (fun h1 => ?_)
  · refine bF ?_
    refine bB [(0, (eL aH l0)), (5, (eL (eI) out5)), (6, (eI i6))] ?_
    refine dZ (fun T H => ∃ out5 : (List Int), Has T [(0, (eL aH l0)), (5, (eL (eI) out5)), (6, (eI i6))] ∧ aL ⟨H0, [], []⟩ H [] ∧ mZ l0 out5 i6 = some out1) ?_ ?_
    · clear hO h1
      rintro T H ⟨out5, hT, hO, h1⟩
      refine aZ hT ?_
      clear hT
      unfold mZ at h1
      refine aU aC 3 ?_
      refine bA ?_
      exact aG (aF (⟨rfl, _, (oI h1).symm, .eq (by kernel_rfl), hO⟩))
    refine bX 1 ?_
    refine aN ?_
    refine aU aC 14 ?_
    obtain ⟨c7, h1⟩ := aS h1
    obtain ⟨c8, h1⟩ := aS h1
    refine lV [0 ≤ i6 ∧ i6 < (lN l0), (((decide ((0 : Int) < ((gD l0 i6).Net)))) = true → 0 ≤ i6 ∧ i6 < (lN l0))] ⟨c7, c8, trivial⟩ ?_
    refine bP [] [(32, (aE ((decide ((0 : Int) < ((gD l0 i6).Net))) && (decide ((0 : Int) ≤ ((gD l0 i6).At))))))] ?_
    refine bE h1 (fun h1 => ?_) (fun h1 => ?_)
    · refine aU aC 8 ?_
      obtain ⟨c10, h1⟩ := aS h1
      refine nH 6 [0 ≤ i6 ∧ i6 < (lN l0)] ⟨c10, trivial⟩ ?_
      obtain ⟨x11, hx12, h1⟩ := aV h1
      refine dI (LK out5 ((gD l0 i6).At) _ hx12) hO ?_
      intro H hO
      refine bA ?_
      exact aG (aW (aF (⟨rfl, _, .eq (by kernel_rfl), hO, h1⟩)))
    refine bF ?_
    exact aG (aW (aF (⟨rfl, _, .eq (by kernel_rfl), hO, h1⟩)))
  refine fB 0 ?_
  obtain rfl := oI h1
  obtain rfl : _ = rr0 := ho0
  replace h0 : sF out5 = some r := h0
  exact aG (aT (aT (bO (aF (⟨rfl, _, .eq (by kernel_rfl), hO, h0⟩)))))

theorem MX (t0 : Int) (r : Bool) (h0 : vC t0 = some r) : dB Try.prog 36 [(eI t0)] (aE r) := by
  intro H0
  refine cZ Try.func36 ?_
  have hO := aL.start H0
  unfold vC at h0
  refine aR aC 1 [] [] ?_
  refine bQ aC 7 [(2, (aE ((decide ((0 : Int) ≤ t0)) && (decide (t0 ≤ (1125899906842624 : Int))))))] ?_
  refine bD ?_
  obtain rfl := oI h0
  exact aG (Q_r hO)

theorem NM (l0 : (List aI)) (n1 : Int) (t2 : Int) (r : (Int × Int)) (h0 : sM l0 n1 t2 = some r) : dB Try.prog 24 [(eL aH l0), (eI n1), (eI t2)] (.tup [(eI r.1), (eI r.2)]) := by
  intro H0
  refine cZ Try.func24 ?_
  have hO := aL.start H0
  unfold sM at h0
  refine aR aC 2 [] [] ?_
  refine aN ?_
  refine aN ?_
  refine aU aC 4 ?_
  refine bS 2 ?_
  obtain ⟨x1, hx2, h0⟩ := aV h0
  refine dI (BM l0 n1 _ hx2) hO ?_
  intro H hO
  refine bA ?_
  refine bP [] [(8, (eI x1))] ?_
  refine aR aC 2 [] [(17, (aE (!decide (x1 = (0 : Int)))))] ?_
  refine bE h0 (fun h0 => ?_) (fun h0 => ?_)
  · refine bQ aC 3 [(6, (eI (0 : Int))), (7, (eI x1))] ?_
    refine bD ?_
    obtain rfl := oI h0
    exact aG (aP (Q_r hO))
  refine bF ?_
  refine bB [(0, (eL aH l0)), (1, (eI n1)), (2, (eI t2))] ?_
  refine aN ?_
  refine aN ?_
  refine aU aC 3 ?_
  refine bS 1 ?_
  obtain ⟨x5, hx6, h0⟩ := aV h0
  refine dI (MX t2 _ hx6) hO ?_
  intro H hO
  refine bA ?_
  refine bP [] [(21, (aE (!x5)))] ?_
  refine bE h0 (fun h0 => ?_) (fun h0 => ?_)
  · refine bQ aC 2 [(6, (eI (0 : Int))), (7, (eI (13 : Int)))] ?_
    refine bD ?_
    obtain rfl := oI h0
    exact aG (aP (Q_r hO))
  refine bF ?_
  refine bB [(0, (eL aH l0)), (1, (eI n1)), (2, (eI t2))] ?_
  refine aN ?_
  refine aU aC 7 ?_
  refine bS 1 ?_
  obtain ⟨x9, hx10, h0⟩ := aV h0
  refine dI (AG l0 _ hx10) hO ?_
  intro H hO
  refine bA ?_
  refine bP [0] [(9, (eL (eI) x9.1))] ?_
  refine aN ?_
  refine aU aC 2 ?_
  refine nB (xs := []) (k := 1) (by kernel_rfl) (by kernel_rfl) ?_
  refine bA ?_
  refine bP [] [(11, (.sl true 0 (fun _ => .bad)))] ?_
  refine dZ (fun T H => ∃ cM : List Int, ∃ lo12 : Nat, Has T [(1, (eI n1)), (2, (eI t2)), (11, (.msl 1 lo12 0 (List.length cM)))] ∧ aL ⟨H0, [], []⟩ H [(lo12, 1, List.map (eI) cM)] ∧ rJ n1 t2 cM = some r) ?_ ?_
  · clear hO h0
    rintro T H ⟨cM, lo12, hT, hO, h0⟩
    refine aZ hT ?_
    clear hT
    unfold rJ at h0
    refine aN ?_
    refine aR aC 11 [] [(57, (aE (((decide (t2 = (1125899906842624 : Int))) || (decide ((lN cM) = (0 : Int)))) || (decide (n1 = (1 : Int))))))] ?_
    refine bE h0 (fun h0 => ?_) (fun h0 => ?_)
    · refine aN ?_
      refine aU aC 3 ?_
      refine bA ?_
      refine fX [(6, (eI t2)), (7, (eI (0 : Int)))] ?_
      replace hO := hO.pick (L' := []) [] (by decide) (by kernel_rfl)
      refine aG (aF (?_))
      refine bD ?_
      obtain rfl := oI h0
      exact aG (aP (Q_r hO))
    refine bF ?_
    refine bB [(1, (eI n1)), (11, (.msl 1 lo12 0 (List.length cM)))] ?_
    refine aN ?_
    refine aR aC 5 [] [(63, (aE (decide ((wR (n1 - (1 : Int))) ≤ (lN cM)))))] ?_
    refine bE h0 (fun h0 => ?_) (fun h0 => ?_)
    · refine aN ?_
      refine aU aC 10 ?_
      obtain ⟨c15, h0⟩ := aS h0
      refine nH 7 [0 ≤ (wR ((lN cM) - (wR (n1 - (1 : Int))))) ∧ (wR ((lN cM) - (wR (n1 - (1 : Int))))) < (lN cM)] ⟨c15, trivial⟩ ?_
      refine qN 0 lo12 1 (0 + Int.toNat (wR ((lN cM) - (wR (n1 - (1 : Int)))))) (eI (gD cM (wR ((lN cM) - (wR (n1 - (1 : Int))))))) (eI (gD cM (wR ((lN cM) - (wR (n1 - (1 : Int))))))) (List.map (eI) cM) hO (bR c15) ?_
      refine bA ?_
      refine fX [(6, (eI (gD cM (wR ((lN cM) - (wR (n1 - (1 : Int)))))))), (7, (eI (0 : Int)))] ?_
      replace hO := hO.pick (L' := []) [] (by decide) (by kernel_rfl)
      refine aG (aF (?_))
      refine bD ?_
      obtain rfl := oI h0
      exact aG (aP (Q_r hO))
    refine bF ?_
    refine bB [(11, (.msl 1 lo12 0 (List.length cM)))] ?_
    refine aN ?_
    refine aU aC 5 ?_
    obtain ⟨c16, h0⟩ := aS h0
    refine nH 2 [0 ≤ (0 : Int) ∧ (0 : Int) < (lN cM)] ⟨c16, trivial⟩ ?_
    refine qN 0 lo12 1 (0 + Int.toNat (0 : Int)) (eI (gD cM (0 : Int))) (eI (gD cM (0 : Int))) (List.map (eI) cM) hO (bR c16) ?_
    refine bA ?_
    refine fX [(6, (eI (gD cM (0 : Int)))), (7, (eI (0 : Int)))] ?_
    replace hO := hO.pick (L' := []) [] (by decide) (by kernel_rfl)
    refine aG (aF (?_))
    refine bD ?_
    obtain rfl := oI h0
    exact aG (Q_r hO)
  refine aR aC 1 [] [(12, (eI (0 : Int)))] ?_
  refine bX 0 ?_
  refine fG [(1, (eI n1)), (2, (eI t2)), (9, (eL (eI) x9.1)), (11, (.sl true 0 (fun _ => .bad))), (12, (eI (0 : Int)))] ?_
  refine zX (el := (fun _ => .bad)) 3 11 1 hO (by kernel_rfl) ?_
  intro lo26 H27 hO
  refine dS (fun T H => ∃ all9 : (List Int), ∃ cM : List Int, ∃ i12 : Int, ∃ lo18 : Nat, Has T [(1, (eI n1)), (2, (eI t2)), (9, (eL (eI) all9)), (11, (.msl 1 lo18 0 (List.length cM))), (12, (eI i12))] ∧ aL ⟨H0, [], []⟩ H [(lo18, 1, List.map (eI) cM)] ∧ uK n1 t2 all9 cM i12 = some r) ?_ ⟨x9.1, ([] : List Int), (0 : Int), lo26, .eq (by kernel_rfl), hO, h0⟩
  clear hO h0
  rintro T H ⟨all9, cM, i12, lo18, hT, hO, h0⟩
  refine aZ hT ?_
  clear hT
  unfold uK at h0
  obtain ⟨rr0, hl0, h0⟩ := aV h0
  refine cQ (by kernel_rfl) (fun (s : List Int × Int) T H => ∃ lo18 : Nat, Has T [(1, (eI n1)), (2, (eI t2)), (9, (eL (eI) all9)), (11, (.msl 1 lo18 0 (List.length s.1))), (12, (eI s.2))] ∧ aL ⟨H0, [], []⟩ H [(lo18, 1, List.map (eI) s.1)]) hl0 ⟨lo18, .eq (by kernel_rfl), hO⟩ ?_
  clear hO
  rintro k0 s out1 T H ⟨lo18, hT, hO⟩ h1 ho0
  obtain ⟨cM, i12⟩ := s
  replace h1 : mB n1 t2 all9 cM i12 = some out1 := h1
  try dsimp only at hT
  refine aZ hT ?_
  clear hT
  unfold mB at h1
  refine aN ?_
  refine aR aC 4 [] [(31, (aE (decide (i12 < (lN all9)))))] ?_
  refine bE h1 (fun h1 => ?_) (fun h1 => ?_)
  · refine bF ?_
    refine bB [(1, (eI n1)), (2, (eI t2)), (9, (eL (eI) all9)), (11, (.msl 1 lo18 0 (List.length cM))), (12, (eI i12))] ?_
    refine dZ (fun T H => ∃ cM : List Int, ∃ lo20 : Nat, Has T [(1, (eI n1)), (2, (eI t2)), (9, (eL (eI) all9)), (11, (.msl 1 lo20 0 (List.length cM))), (12, (eI i12))] ∧ aL ⟨H0, [], []⟩ H [(lo20, 1, List.map (eI) cM)] ∧ oM n1 t2 all9 cM i12 = some out1) ?_ ?_
    · clear hO h1
      rintro T H ⟨cM, lo20, hT, hO, h1⟩
      refine aZ hT ?_
      clear hT
      unfold oM at h1
      refine aU aC 3 ?_
      refine bA ?_
      exact aG (aF (⟨rfl, _, (oI h1).symm, _, .eq (by kernel_rfl), hO⟩))
    refine bX 1 ?_
    refine aN ?_
    refine aU aC 6 ?_
    obtain ⟨c21, h1⟩ := aS h1
    refine lV [0 ≤ i12 ∧ i12 < (lN all9)] ⟨c21, trivial⟩ ?_
    refine bP [] [(39, (aE (decide ((gD all9 i12) < t2))))] ?_
    refine bE h1 (fun h1 => ?_) (fun h1 => ?_)
    · refine aU aC 8 ?_
      obtain ⟨c23, h1⟩ := aS h1
      refine nH 5 [0 ≤ i12 ∧ i12 < (lN all9)] ⟨c23, trivial⟩ ?_
      refine nB (xs := [(eI (gD all9 i12))]) (k := 1) (by kernel_rfl) (by kernel_rfl) ?_
      obtain ⟨c25, h1⟩ := aS h1
      refine tD (e := (eI)) cM ([gD all9 i12]) 0 lo18 1 8 (iY [(eI (gD all9 i12))]) (fun lo24 => [(lo24, 1, List.map (eI) (cM ++ ([gD all9 i12])))]) (by kernel_rfl) (by kernel_rfl) hO (by kernel_rfl) (by kernel_rfl) c25 (fun _ => by kernel_rfl) ?_
      intro lo24 H hO
      refine bA ?_
      exact aG (aW (aF (⟨rfl, _, _, .eq (by kernel_rfl), hO, h1⟩)))
    refine bF ?_
    exact aG (aW (aF (⟨rfl, _, _, .eq (by kernel_rfl), hO, h1⟩)))
  refine fB 0 ?_
  obtain rfl := oI h1
  obtain rfl : _ = rr0 := ho0
  replace h0 : rJ n1 t2 cM = some r := h0
  exact aG (aT (aT (bO (aF (⟨rfl, _, _, .eq (by kernel_rfl), hO, h0⟩)))))

theorem AV (l0 : (List aI)) (n1 : Int) (t2 : Int) (r : Bool) (h0 : nM l0 n1 t2 = some r) : dB Try.prog 6 [(eL aH l0), (eI n1), (eI t2)] (aE r) := by
  intro H0
  refine cZ Try.func6 ?_
  have hO := aL.start H0
  unfold nM at h0
  refine aR aC 1 [] [] ?_
  refine aN ?_
  refine aN ?_
  refine aU aC 3 ?_
  refine bS 1 ?_
  obtain ⟨x1, hx2, h0⟩ := aV h0
  refine dI (OX l0 _ hx2) hO ?_
  intro H hO
  refine bA ?_
  refine bP [] [(18, (aE (!x1)))] ?_
  refine bE h0 (fun h0 => ?_) (fun h0 => ?_)
  · refine aN ?_
    refine aU aC 2 ?_
    obtain ⟨x5, hx6, h0⟩ := aV h0
    refine dI (DD  _ hx6) hO ?_
    intro H hO
    refine bA ?_
    refine bB [(6, (aE x5))] ?_
    refine bD ?_
    obtain rfl := oI h0
    exact aG (aP (Q_r hO))
  refine bF ?_
  refine bB [(0, (eL aH l0)), (1, (eI n1)), (2, (eI t2))] ?_
  refine aN ?_
  refine aU aC 7 ?_
  refine bS 1 ?_
  obtain ⟨x8, hx9, h0⟩ := aV h0
  refine dI (yS l0 _ hx9) hO ?_
  intro H hO
  refine bA ?_
  refine bP [] [(7, (eL (eI) x8.1)), (8, (eI x8.2))] ?_
  refine aN ?_
  refine aU aC 7 ?_
  refine bS 1 ?_
  obtain ⟨x11, hx12, h0⟩ := aV h0
  refine dI (AG l0 _ hx12) hO ?_
  intro H hO
  refine bA ?_
  refine bP [] [(9, (eL (eI) x11.1)), (10, (eI x11.2))] ?_
  refine aN ?_
  refine aR aC 10 [8, 10] [(39, (aE ((!decide (x8.2 = x11.2)) || (!decide ((lN x8.1) = (lN x11.1))))))] ?_
  refine bE h0 (fun h0 => ?_) (fun h0 => ?_)
  · refine bQ aC 1 [(6, (aE false))] ?_
    refine bD ?_
    obtain rfl := oI h0
    exact aG (aP (Q_r hO))
  refine bF ?_
  refine bB [(0, (eL aH l0)), (1, (eI n1)), (2, (eI t2)), (7, (eL (eI) x8.1)), (9, (eL (eI) x11.1))] ?_
  refine dZ (fun T H => Has T [(0, (eL aH l0)), (1, (eI n1)), (2, (eI t2))] ∧ aL ⟨H0, [], []⟩ H [] ∧ lH l0 n1 t2 = some r) ?_ ?_
  · clear hO h0
    rintro T H ⟨hT, hO, h0⟩
    refine aZ hT ?_
    clear hT
    unfold lH at h0
    refine aN ?_
    refine aU aC 9 ?_
    refine bS 3 ?_
    obtain ⟨x15, hx16, h0⟩ := aV h0
    refine dI (BT l0 n1 t2 _ hx16) hO ?_
    intro H hO
    refine bA ?_
    refine bP [] [(12, (eI x15.1)), (13, (eI x15.2))] ?_
    refine aN ?_
    refine aU aC 9 ?_
    refine bS 3 ?_
    obtain ⟨x18, hx19, h0⟩ := aV h0
    refine dI (NM l0 n1 t2 _ hx19) hO ?_
    intro H hO
    refine bA ?_
    refine bP [0, 1, 2] [(14, (eI x18.1)), (15, (eI x18.2))] ?_
    refine aN ?_
    refine aU aC 12 ?_
    obtain ⟨x21, hx22, h0⟩ := aV h0
    refine dI (DD  _ hx22) hO ?_
    intro H hO
    refine bA ?_
    refine bB [(6, (aE ((x21 && (decide (x15.1 = x18.1))) && (decide (x15.2 = x18.2)))))] ?_
    refine bD ?_
    obtain rfl := oI h0
    exact aG (Q_r hO)
  refine aR aC 1 [] [(11, (eI (0 : Int)))] ?_
  refine bX 0 ?_
  refine fG [(0, (eL aH l0)), (1, (eI n1)), (2, (eI t2)), (7, (eL (eI) x8.1)), (9, (eL (eI) x11.1)), (11, (eI (0 : Int)))] ?_
  refine dS (fun T H => ∃ a7 : (List Int), ∃ b9 : (List Int), ∃ i11 : Int, Has T [(0, (eL aH l0)), (1, (eI n1)), (2, (eI t2)), (7, (eL (eI) a7)), (9, (eL (eI) b9)), (11, (eI i11))] ∧ aL ⟨H0, [], []⟩ H [] ∧ nC l0 n1 t2 a7 b9 i11 = some r) ?_ ⟨x8.1, x11.1, (0 : Int), .eq (by kernel_rfl), hO, h0⟩
  clear hO h0
  rintro T H ⟨a7, b9, i11, hT, hO, h0⟩
  refine aZ hT ?_
  clear hT
  unfold nC at h0
  obtain ⟨rr0, hl0, h0⟩ := aV h0
  refine cQ (by kernel_rfl) (fun (s : Int) T H => Has T [(0, (eL aH l0)), (1, (eI n1)), (2, (eI t2)), (7, (eL (eI) a7)), (9, (eL (eI) b9)), (11, (eI s))] ∧ aL ⟨H0, [], []⟩ H []) hl0 ⟨.eq (by kernel_rfl), hO⟩ ?_
  clear hO
  rintro k0 s out1 T H ⟨hT, hO⟩ h1 ho0
  obtain ⟨i11, rfl⟩ : ∃ x, x = s := ⟨_, rfl⟩
  replace h1 : kC l0 n1 t2 a7 b9 i11 = some out1 := h1
  refine aZ hT ?_
  clear hT
  unfold kC at h1
  refine aN ?_
  refine aR aC 4 [] [(43, (aE (decide (i11 < (lN a7)))))] ?_
  refine bE h1 (fun h1 => ?_) (fun h1 => ?_)
  · refine bF ?_
    refine bB [(0, (eL aH l0)), (1, (eI n1)), (2, (eI t2)), (7, (eL (eI) a7)), (9, (eL (eI) b9)), (11, (eI i11))] ?_
    refine aN ?_
    refine bX 1 ?_
    refine aN ?_
    refine eM (eK [49, 53]) aC 9 ?_
    obtain ⟨c25, h1⟩ := aS h1
    obtain ⟨c26, h1⟩ := aS h1
    refine xQ (Ds := [0 ≤ i11 ∧ i11 < (lN a7), 0 ≤ i11 ∧ i11 < (lN b9)]) (by kernel_rfl) ⟨c25, c26, trivial⟩ ?_
    refine bP [] [(54, (aE (!decide ((gD a7 i11) = (gD b9 i11)))))] ?_
    refine bE h1 (fun h1 => ?_) (fun h1 => ?_)
    · refine bQ aC 1 [(6, (aE false))] ?_
      refine bD ?_
      obtain rfl := oI h1
      obtain rfl : _ = rr0 := ho0
      replace h0 : some false = some r := h0
      obtain rfl := oI h0
      exact aG (bI (aP (aP (bI (aP (Q_r hO))))))
    refine bF ?_
    refine fX [(0, (eL aH l0)), (1, (eI n1)), (2, (eI t2)), (7, (eL (eI) a7)), (9, (eL (eI) b9)), (11, (eI i11))] ?_
    refine aG (aW (aF (?_)))
    refine aU aC 3 ?_
    refine bA ?_
    exact aG (aF (⟨rfl, _, (oI h1).symm, .eq (by kernel_rfl), hO⟩))
  refine fB 0 ?_
  obtain rfl := oI h1
  obtain rfl : _ = rr0 := ho0
  replace h0 : lH l0 n1 t2 = some r := h0
  exact aG (aT (aT (bO (aF (⟨rfl, .eq (by kernel_rfl), hO, h0⟩)))))

end Go.Abs
namespace Go.Abs
open Go Go.RowKit Go.Proofs
theorem CH {H : Type} {enc : TypeId × Value → H} {w : World} : vO enc Try.prog w 53 aD yD :=
  CU Try.underlying53 (by kernel_rfl) (rS (c' := EJ) (ok' := yD) (fun (a : Int) (b : Int × ByteArray × Unit) => (aB.mk a b.1 b.2.1 : aB)) (by kernel_rfl) (yU Try.underlying51) (rS (c' := fun (b : Int × ByteArray × Unit) => (V.cells (cS .i64 b.1) ++ (V.cells (vY b.2.1) ++ []))) (ok' := fun b => (wB b.1 ∧ ((fun s => s.size ≤ maxLen) b.2.1 ∧ True))) (fun a b => (a, b)) (by kernel_rfl) (yU Try.underlying3) (rS (c' := fun (b : ByteArray × Unit) => (V.cells (vY b.1) ++ [])) (ok' := fun b => ((fun s => s.size ≤ maxLen) b.1 ∧ True)) (fun a b => (a, b)) (by kernel_rfl) (ND Try.underlying9) (GA ()) (fun _ _ => rfl) (fun _ _ h1 h2 => ⟨h1, h2⟩)) (fun _ _ => rfl) (fun _ _ h1 h2 => ⟨h1, h2⟩)) (fun _ _ => rfl) (fun _ _ h1 h2 => ⟨h1, h2⟩))

theorem EC {H : Type} {enc : TypeId × Value → H} {w : World} : vO enc Try.prog w 57 aH tZ :=
  CU Try.underlying57 (by kernel_rfl) (rS (c' := GV) (ok' := tZ) (fun (a : (List aB)) (b : Int × Int × Unit) => (aI.mk a b.1 b.2.1 : aI)) (by kernel_rfl) (OM Try.underlying55 (by decide +kernel) (fun _ => by kernel_rfl) (fun _ => rfl) CH (by kernel_rfl)) (rS (c' := fun (b : Int × Int × Unit) => (V.cells (cS .i64 b.1) ++ (V.cells (cS .i64 b.2.1) ++ []))) (ok' := fun b => (wB b.1 ∧ (wB b.2.1 ∧ True))) (fun a b => (a, b)) (by kernel_rfl) (yU Try.underlying3) (rS (c' := fun (b : Int × Unit) => (V.cells (cS .i64 b.1) ++ [])) (ok' := fun b => (wB b.1 ∧ True)) (fun a b => (a, b)) (by kernel_rfl) (yU Try.underlying3) (GA ()) (fun _ _ => rfl) (fun _ _ h1 h2 => ⟨h1, h2⟩)) (fun _ _ => rfl) (fun _ _ h1 h2 => ⟨h1, h2⟩)) (fun _ _ => rfl) (fun _ _ h1 h2 => ⟨h1, h2⟩))

end Go.Abs
namespace Go.Abs
open Go
theorem dG {n : Int} (h1 : -9223372036854775808 ≤ n) (h2 : n ≤ 9223372036854775807) : IntKind.i64.wrap n = n := by
  simp only [IntKind.wrap, IntKind.bits, IntKind.signed]
  simp
  split <;> omega

def uH {α st R : Type} (step : st → α → Option (st ⊕ R)) (fin : st → R) : st → List α → Option R
  | s, [] => some (fin s)
  | s, a :: r => match step s a with
    | some (.inl s') => uH step fin s' r
    | some (.inr x) => some x
    | none => none

theorem SI {α st R : Type} {step : st → α → Option (st ⊕ R)} {fin : st → R} {s s' : st} {a : α} {r : List α} (h : step s a = some (.inl s')) : uH step fin s (a :: r) = uH step fin s' r := by
  simp only [uH, h]

theorem RL {α st R : Type} {step : st → α → Option (st ⊕ R)} {fin : st → R} {s : st} {x : R} {a : α} {r : List α} (h : step s a = some (.inr x)) : uH step fin s (a :: r) = some x := by
  simp only [uH, h]

theorem PT {α S st R : Type} {body : S → Option (S ⊕ R)} {l : List α} (mk : st → Int → S) (step : st → α → Option (st ⊕ R)) (fin : st → R)
    (hn : ∀ (i : Nat) a s, l[i]? = some a → (∀ s', step s a = some (.inl s') → body (mk s i) = some (.inl (mk s' ((i + 1 : Nat) : Int)))) ∧ (∀ x, step s a = some (.inr x) → body (mk s i) = some (.inr x)))
    (he : ∀ s, body (mk s (l.length : Nat)) = some (.inr (fin s))) : ∀ (m k : Nat) (s : st) (r : R), l.length - k = m → k ≤ l.length → uH step fin s (l.drop k) = some r → lp body (mk s k) = some r
  | 0, k, s, r, hm, hk, h => by
    have : k = l.length := by omega
    subst this
    rw [List.drop_length] at h
    simp only [uH, Option.some.injEq] at h
    subst h
    exact cO (he s)
  | m + 1, k, s, r, hm, hk, h => by
    have hlt : k < l.length := by omega
    have hd : l.drop k = l[k] :: l.drop (k + 1) := List.drop_eq_getElem_cons hlt
    rw [hd] at h
    simp only [uH] at h
    obtain ⟨h1, h2⟩ := hn k l[k] s (List.getElem?_eq_getElem hlt)
    split at h
    · rename_i s' hs
      rw [fI (h1 s' hs)]
      exact PT mk step fin hn he m (k + 1) s' r (by omega) (by omega) h
    · rename_i x hs
      simp at h; subst h
      exact cO (h2 x hs)
    · cases h

theorem WY {α S st R : Type} {body : S → Option (S ⊕ R)} {l : List α} (mk : st → Int → S) (step : st → α → Option (st ⊕ R)) (fin : st → R)
    (hn : ∀ (i : Nat) a s, l[i]? = some a → (∀ s', step s a = some (.inl s') → body (mk s i) = some (.inl (mk s' ((i + 1 : Nat) : Int)))) ∧ (∀ x, step s a = some (.inr x) → body (mk s i) = some (.inr x)))
    (he : ∀ s, body (mk s (l.length : Nat)) = some (.inr (fin s))) {s : st} {r : R} (h : uH step fin s l = some r) : lp body (mk s 0) = some r :=
  PT mk step fin hn he _ 0 s r rfl (Nat.zero_le _) (by simpa using h)

theorem idx {α : Type} [Inhabited α] {l : List α} {i : Nat} {a : α} (h : l[i]? = some a) (hl : l.length < 4611686018427387904) :
    decide ((i : Int) < ((l.length : Nat) : Int)) = true ∧ (0 ≤ (i : Int) ∧ (i : Int) < ((l.length : Nat) : Int)) ∧ l.getD (Int.toNat (i : Int)) default = a ∧ IntKind.i64.wrap ((i : Int) + 1) = ((i + 1 : Nat) : Int) := by
  have hlt : i < l.length := (List.getElem?_eq_some_iff.1 h).1
  refine ⟨by simpa using hlt, ⟨by omega, by omega⟩, ?_, ?_⟩
  · rw [Int.toNat_natCast, List.getD_eq_getElem?_getD, h]; rfl
  · rw [dG (by omega) (by omega)]; omega

theorem iZ {n : Nat} : decide (((n : Nat) : Int) < ((n : Nat) : Int)) = false := by simp

theorem aAP {α : Type} {j : α} {r : List α} : (0 : Int) ≤ 0 ∧ (0 : Int) < ((List.length (j :: r) : Nat) : Int) := ⟨by omega, by simp⟩

theorem aAn {α : Type} [Inhabited α] {j : α} {r : List α} : List.getD (j :: r) (Int.toNat (0 : Int)) default = j := rfl

end Go.Abs
namespace Go.Abs
open Go
theorem drop_cons {α : Type} {l r : List α} {a : α} {k : Nat} (h : l.drop k = a :: r) : l[k]? = some a ∧ l.drop (k + 1) = r := by
  have hk : k < l.length := by
    apply Classical.byContradiction; intro hn
    rw [List.drop_eq_nil_of_le (by omega)] at h; cases h
  rw [List.drop_eq_getElem_cons hk] at h
  obtain ⟨h1, h2⟩ := List.cons.inj h
  exact ⟨by rw [List.getElem?_eq_getElem hk, h1], h2⟩

theorem UU {α S st R : Type} {body : S → Option (S ⊕ R)} {l : List α} (mk : st → Int → S) (G : st → List α → R) (Inv : st → List α → Prop)
    (hn : ∀ (i : Nat) a r s, l[i]? = some a → Inv s (a :: r) → (∃ s', body (mk s i) = some (.inl (mk s' ((i + 1 : Nat) : Int))) ∧ Inv s' r ∧ G s' r = G s (a :: r)) ∨ body (mk s i) = some (.inr (G s (a :: r))))
    (he : ∀ s, Inv s [] → body (mk s (l.length : Nat)) = some (.inr (G s []))) : ∀ (r : List α) (k : Nat) (s : st), l.drop k = r → k ≤ l.length → Inv s r → lp body (mk s k) = some (G s r)
  | [], k, s, hd, hk, hi => by
    have : k = l.length := by
      have := congrArg List.length hd
      simp only [List.length_drop, List.length_nil] at this; omega
    subst this
    exact cO (he s hi)
  | a :: r, k, s, hd, hk, hi => by
    obtain ⟨h1, h2⟩ := drop_cons hd
    have hlt : k < l.length := (List.getElem?_eq_some_iff.1 h1).1
    rcases hn k a r s h1 hi with ⟨s', hb, hi', hg⟩ | hb
    · rw [fI hb, UU mk G Inv hn he r (k + 1) s' h2 (by omega) hi', hg]
    · exact cO hb

theorem rP {α S st R : Type} {body : S → Option (S ⊕ R)} {l : List α} (mk : st → Int → S) (G : st → List α → R) (Inv : st → List α → Prop) (s : st)
    (hn : ∀ (i : Nat) a r s, l[i]? = some a → Inv s (a :: r) → (∃ s', body (mk s i) = some (.inl (mk s' ((i + 1 : Nat) : Int))) ∧ Inv s' r ∧ G s' r = G s (a :: r)) ∨ body (mk s i) = some (.inr (G s (a :: r))))
    (he : ∀ s, Inv s [] → body (mk s (l.length : Nat)) = some (.inr (G s []))) (hi : Inv s l) : lp body (mk s 0) = some (G s l) :=
  UU mk G Inv hn he l 0 s rfl (Nat.zero_le _) hi

theorem CJ {α S R : Type} {body : S → Option (S ⊕ R)} {l : List α} (mk : Int → S) (bad : α → Bool) (x y : R)
    (hn : ∀ (i : Nat) a, l[i]? = some a → body (mk i) = some (if bad a then .inr x else .inl (mk ((i + 1 : Nat) : Int))))
    (he : body (mk (l.length : Nat)) = some (.inr y)) : lp body (mk 0) = some (if l.any bad then x else y) := by
  refine rP (st := Unit) (fun _ i => mk i) (fun _ r => if r.any bad then x else y) (fun _ _ => True) () ?_ ?_ trivial
  · intro i a r s ha _
    have hb := hn i a ha
    cases h : bad a
    · left; refine ⟨(), ?_, trivial, ?_⟩
      · simpa [h] using hb
      · simp [List.any_cons, h]
    · right; simpa [h, List.any_cons] using hb
  · intro _ _; simpa using he

end Go.Abs
namespace Go.Abs
open Go
variable {α : Type} [Inhabited α]
structure Cmp {β : Type} (ok : β → Prop) (le : β → β → Prop) (cmp : β → β → Option Int) : Prop where
  ans : ∀ x y, ok x → ok y → ∃ v, cmp x y = some v ∧ (v < 0 ↔ ¬ le y x)
  trans : ∀ x y z, ok x → ok y → ok z → le x y → le y z → le x z
  total : ∀ x y, ok x → ok y → le x y ∨ le y x

abbrev Srt {β : Type} (le : β → β → Prop) (l : List β) : Prop := l.Pairwise le

abbrev Oks {β : Type} (ok : β → Prop) (l : List β) : Prop := ∀ x ∈ l, ok x

theorem wr {n : Int} (h1 : -1099511627776 ≤ n) (h2 : n ≤ 8796093022208) : IntKind.i64.wrap n = n := dG (by omega) (by omega)

section ins
variable {ok : α → Prop} {le : α → α → Prop} {cmp : α → α → Option Int}
end ins
end Go.Abs
namespace Go.Abs
open Go
variable {α : Type} [Inhabited α]
theorem half {s : Nat} (h : s ≤ 4398046511104) : IntKind.i64.wrap (Int.fdiv (IntKind.u64.wrap (IntKind.i64.wrap (s : Int))) (2 ^ (min (Int.toNat (1 : Int)) 64))) = ((s / 2 : Nat) : Int) := by
  rw [wr (n := (s : Int)) (by omega) (by omega)]
  have hu : IntKind.u64.wrap (s : Int) = (s : Int) := by
    simp only [IntKind.wrap, IntKind.bits, IntKind.signed]
    simp
    omega
  have hp : (2 : Int) ^ (min (Int.toNat (1 : Int)) 64) = 2 := by decide
  rw [hu, hp, Int.fdiv_eq_ediv_of_nonneg _ (by omega), wr (by omega) (by omega)]
  omega

section sym
variable {ok : α → Prop} {le : α → α → Prop} {cmp : α → α → Option Int}
theorem Cmp.refl {β : Type} {ok : β → Prop} {le : β → β → Prop} {cmp : β → β → Option Int} (C : Cmp ok le cmp) {x : β} (h : ok x) : le x x := by rcases C.total x x h h with h | h <;> exact h

end sym
end Go.Abs
namespace Go.Abs
open Go
variable {α : Type} [Inhabited α] {ok : α → Prop} {le : α → α → Prop} {cmp : α → α → Option Int}
inductive IX {β : Type} (le : β → β → Prop) (n : Nat) : List β → Prop
  | last {l : List β} : l.length ≤ n → Srt le l → IX le n l
  | cons {x l : List β} : x.length = n → Srt le x → IX le n l → IX le n (x ++ l)

theorem IX.split {β : Type} {le : β → β → Prop} {n : Nat} {l : List β} (h : IX le n l) (hl : n < l.length) : ∃ x r, l = x ++ r ∧ x.length = n ∧ Srt le x ∧ IX le n r := by
  cases h with
  | last h' _ => omega
  | cons hx hs hr => exact ⟨_, _, rfl, hx, hs, hr⟩

theorem Oks.perm {β : Type} {ok : β → Prop} {l l' : List β} (h : Oks ok l) (hp : l'.Perm l) : Oks ok l' := fun x hx => h x (hp.mem_iff.1 hx)

end Go.Abs
namespace Go.Abs
open Go
structure aAJ where
  Row : (List aB)
  Span : cV
  deriving Inhabited, DecidableEq

structure aAM where
  Kind : Int
  Input : Int
  Edges : (List aI)
  At : Int
  deriving Inhabited, DecidableEq

structure aAK where
  row : (List aB)
  jumps : (List aM)
  deriving Inhabited, DecidableEq

end Go.Abs
namespace Go.Abs
open Go
def DS (n : Int) : Bool := decide (n ≤ 1048576) && decide (-1048576 ≤ n)

theorem XV (n : Int) : wG n = some (DS n) := rfl

def oA (last : Int) (j : aM) : Bool := decide (j.At ≤ last) || decide (1125899906842624 ≤ j.At) || decide (j.Net = 0) || !DS j.Net

def chk (last : Int) : List aM → Bool
  | [] => true
  | j :: r => !oA last j && chk j.At r

def mJ (f : List aM) : Bool := decide (f.length ≤ 1024) && chk (-2) f

theorem MD {f : List aM} {i : Nat} {a : aM} {last : Int} (ha : f[i]? = some a) (hl : f.length < 4611686018427387904) :
    lS f (f.length : Nat) last i = some (if oA last a then .inr (.inr false) else .inl (a.At, ((i + 1 : Nat) : Int))) := by
  obtain ⟨d1, d2, d3, d4⟩ := idx ha hl
  simp only [lS, d1, cond_true, aK d2, d3, d4, XV]
  unfold oA
  cases h : (decide (a.At ≤ last) || decide (1125899906842624 ≤ a.At) || decide (a.Net = 0)) <;> cases h2 : DS a.Net <;> simp [cX]

theorem LO : ∀ (f : List aM) (last : Int), uH (fun last (j : aM) => some (if oA last j then .inr (.inr false) else .inl j.At)) (fun _ => (.inl () : Unit ⊕ Bool)) last f = some (if chk last f then .inl () else .inr false)
  | [], last => by simp [uH, chk]
  | j :: r, last => by
    cases h : oA last j
    · rw [SI (s' := j.At) (by simp [h])]
      rw [LO r j.At]
      simp [chk, h]
    · rw [RL (x := .inr false) (by simp [h])]
      simp [chk, h]

theorem NG (f : List aM) : pE f = some (mJ f) := by
  unfold pE mJ
  by_cases hl : f.length ≤ 1024
  · have h1 : decide ((1024 : Int) < ((f.length : Nat) : Int)) = false := by simp; omega
    rw [h1, cond_false]
    unfold wM
    have key := WY (l := f) (body := fun s : Int × Int => lS f (f.length : Nat) s.1 s.2) (fun last i => (last, i)) _ _
      (fun i a s ha => by
        constructor
        · intro s' hs
          show lS f (f.length : Nat) s i = _
          rw [MD ha (by omega)]
          split at hs <;> simp_all
        · intro x hs
          show lS f (f.length : Nat) s i = _
          rw [MD ha (by omega)]
          split at hs <;> simp_all)
      (fun s => by show lS f (f.length : Nat) s (f.length : Nat) = _; simp only [lS, iZ, cond_false]) (LO f (-2))
    rw [key]
    cases h : chk (-2) f <;> simp [tV, hl]
  · have h1 : decide ((1024 : Int) < ((f.length : Nat) : Int)) = true := by simp; omega
    rw [h1, cond_true]
    simp [hl]

theorem kZ {last : Int} {j : aM} : oA last j = false ↔ last < j.At ∧ j.At < 1125899906842624 ∧ j.Net ≠ 0 ∧ j.Net ≤ 1048576 ∧ -1048576 ≤ j.Net := by
  simp [oA, DS]
  omega

def sG (last : Int) : List aM → Prop
  | [] => True
  | j :: r => (last < j.At ∧ j.At < 1125899906842624 ∧ j.Net ≠ 0 ∧ j.Net ≤ 1048576 ∧ -1048576 ≤ j.Net) ∧ sG j.At r

theorem QH : ∀ {f : List aM} {last : Int}, chk last f = true ↔ sG last f
  | [], last => by simp [chk, sG]
  | j :: r, last => by simp [chk, sG, kZ, QH]

theorem rV {f : List aM} : mJ f = true ↔ f.length ≤ 1024 ∧ sG (-2) f := by simp [mJ, QH]

theorem sG.above : ∀ {f : List aM} {last : Int}, sG last f → ∀ j ∈ f, last < j.At ∧ j.At < 1125899906842624 ∧ j.Net ≠ 0 ∧ j.Net ≤ 1048576 ∧ -1048576 ≤ j.Net
  | [], _, _, j, hj => by simp at hj
  | a :: r, last, h, j, hj => by
    rcases List.mem_cons.1 hj with rfl | hj
    · exact h.1
    · have := h.2.above j hj
      have h1 := h.1.1
      exact ⟨by omega, this.2⟩

def val (f : List aM) (t : Int) : Int := (f.map fun j => if j.At ≤ t then j.Net else 0).sum

theorem PO (t : Int) : val [] t = 0 := rfl

theorem lE (j : aM) (r : List aM) (t : Int) : val (j :: r) t = (if j.At ≤ t then j.Net else 0) + val r t := by simp [val]

theorem DG {f : List aM} {t : Int} (h : ∀ j ∈ f, t < j.At) : val f t = 0 := by
  induction f with
  | nil => rfl
  | cons j r ih =>
    rw [lE, ih (fun k hk => h k (List.mem_cons_of_mem _ hk))]
    have := h j (List.mem_cons_self ..)
    rw [if_neg (by omega)]; rfl

end Go.Abs
namespace Go.Abs
open Go
section both
variable {op : Int → Int → Option Int} {f g r : List aM} {out : List aM} {a b was t : Int} {j : aM}
end both
def emit (p v was : Int) : List aM := if v = was then [] else [⟨p, v - was⟩]

def XO (was : Int) : List (Int × Int) → List aM
  | [] => []
  | x :: r => emit x.1 x.2 was ++ XO x.2 r

def merge (f g : List aM) (a b : Int) : List (Int × Int × Int) :=
  match f, g with
  | [], [] => []
  | j :: f, [] => (j.At, a + j.Net, b) :: merge f [] (a + j.Net) b
  | [], k :: g => (k.At, a, b + k.Net) :: merge [] g a (b + k.Net)
  | j :: f, k :: g =>
    if j.At < k.At then (j.At, a + j.Net, b) :: merge f (k :: g) (a + j.Net) b
    else if k.At < j.At then (k.At, a, b + k.Net) :: merge (j :: f) g a (b + k.Net)
    else (j.At, a + j.Net, b + k.Net) :: merge f g (a + j.Net) (b + k.Net)

termination_by f.length + g.length
end Go.Abs
namespace Go.Abs
open Go
def comb (OP : Int → Int → Int) (f g : List aM) : List aM := XO 0 ((merge f g 0 0).map fun x => (x.1, OP x.2.1 x.2.2))

def told (f : List aM) : List aM × Int := if mJ f then (f, 0) else ([], 7)

def two (OP : Int → Int → Int) (f g : List aM) : List aM × Int := if mJ f && mJ g then told (comb OP f g) else ([], 2)

end Go.Abs
namespace Go.Abs
open Go
theorem sG.xX {l t : Int} {f : List aM} (h : sG l f) (ht : t ≤ l) : val f t = 0 := DG fun j hj => by have := (h.above j hj).1; omega

end Go.Abs
namespace Go.Abs
open Go
def tW (f : List aM) : Nat → Int
  | 0 => -2
  | k + 1 => (f.getD k default).At

theorem OZ {f : List aM} {i : Nat} {a : aM} {last : Int} (ha : f[i]? = some a) (hl : f.length ≤ 1024) (hlast : last = tW f i) (hp : -2 ≤ last) (hp' : 0 < i → -1 ≤ last) :
    kU f i = some (if oA last a then .inr (.inr false) else .inl ((i + 1 : Nat) : Int)) := by
  obtain ⟨d1, d2, d3, d4⟩ := idx ha (by omega)
  have hlt : i < f.length := (List.getElem?_eq_some_iff.1 ha).1
  simp only [kU, d1, cond_true, d3, d4]
  rw [aK d2, aK (fun _ => d2), aK (fun _ => d2), aK (fun _ => d2), aK (fun _ => d2), aK (fun _ => d2)]
  cases i with
  | zero =>
    rw [aK (fun h => by simp at h)]
    have hm2 : last = -2 := hlast
    subst hm2
    by_cases hb : oA (-2) a = true
    · rw [if_pos hb]
      have hx : (((((decide (a.At < -1)) || (decide (1125899906842624 ≤ a.At))) || (decide (a.Net = 0))) || (decide (1048576 < a.Net))) || (decide (a.Net < -1048576))) = true := by
        simp [oA, DS] at hb ⊢; omega
      rw [hx, cond_true]
    · have hb' : oA (-2) a = false := by simpa using hb
      rw [if_neg hb]
      rw [kZ] at hb'
      have hx : (((((decide (a.At < -1)) || (decide (1125899906842624 ≤ a.At))) || (decide (a.Net = 0))) || (decide (1048576 < a.Net))) || (decide (a.Net < -1048576))) = false := by
        simp; omega
      rw [hx, cond_false]
      simp
  | succ k =>
    have hw : IntKind.i64.wrap (((k + 1 : Nat) : Int) - 1) = (k : Int) := by rw [dG (by omega) (by omega)]; omega
    have hg : List.getD f (Int.toNat (k : Int)) default = f.getD k default := by rw [Int.toNat_natCast]
    rw [hw, hg, aK (fun _ => ⟨by omega, by omega⟩)]
    have hpos : decide ((0 : Int) < ((k + 1 : Nat) : Int)) = true := by simp
    have hp1 := hp' (by omega)
    have hl2 : (f.getD k default).At = last := hlast.symm
    rw [hpos, Bool.true_and, hl2]
    by_cases hb : oA last a = true
    · rw [if_pos hb]
      by_cases hx : (((((decide (a.At < -1)) || (decide (1125899906842624 ≤ a.At))) || (decide (a.Net = 0))) || (decide (1048576 < a.Net))) || (decide (a.Net < -1048576))) = true
      · rw [hx, cond_true]
      · have hx' : (((((decide (a.At < -1)) || (decide (1125899906842624 ≤ a.At))) || (decide (a.Net = 0))) || (decide (1048576 < a.Net))) || (decide (a.Net < -1048576))) = false := by simpa using hx
        have hy : decide (a.At ≤ last) = true := by
          simp [oA, DS] at hb hx' ⊢; omega
        rw [hx', cond_false, hy, cond_true]
    · have hb' : oA last a = false := by simpa using hb
      rw [if_neg hb]
      rw [kZ] at hb'
      have hx : (((((decide (a.At < -1)) || (decide (1125899906842624 ≤ a.At))) || (decide (a.Net = 0))) || (decide (1048576 < a.Net))) || (decide (a.Net < -1048576))) = false := by
        simp; omega
      have hy : decide (a.At ≤ last) = false := by simp; omega
      rw [hx, cond_false, hy, cond_false]

theorem JX {f : List aM} (hl : f.length ≤ 1024) : ∀ (m k : Nat), f.length - k = m → k ≤ f.length → -2 ≤ tW f k → (0 < k → -1 ≤ tW f k) → lp (fun s => kU f s) (k : Int) = some (if chk (tW f k) (f.drop k) = true then .inl () else .inr false)
  | 0, k, hm, hk, _, _ => by
    have : k = f.length := by omega
    subst this
    rw [List.drop_length]
    refine cO ?_
    show kU f _ = _
    simp [kU, chk]
  | m + 1, k, hm, hk, hp, hp' => by
    have h1 : k < f.length := by omega
    have hb := OZ (List.getElem?_eq_getElem h1) hl rfl hp hp'
    have e1 : f.drop k = f[k] :: f.drop (k + 1) := List.drop_eq_getElem_cons h1
    have hpa : tW f (k + 1) = f[k].At := by simp [tW, List.getD_eq_getElem?_getD, h1]
    rw [e1]
    by_cases h : oA (tW f k) f[k] = true
    · rw [if_pos h] at hb
      rw [cO (show (fun s => kU f s) (k : Int) = _ from hb)]
      simp [chk, h]
    · rw [if_neg h] at hb
      have h' : oA (tW f k) f[k] = false := by simpa using h
      have := kZ.1 h'
      rw [fI (show (fun s => kU f s) (k : Int) = _ from hb), JX hl m (k + 1) (by omega) (by omega) (by rw [hpa]; omega) (fun _ => by rw [hpa]; omega), hpa]
      simp [chk, h']

theorem KG (f : List aM) : pL f = some (mJ f) := by
  unfold pL mJ
  by_cases hl : f.length ≤ 1024
  · have h1 : decide ((1024 : Int) < ((f.length : Nat) : Int)) = false := by simp; omega
    rw [h1, cond_false]
    unfold vH
    have := JX hl f.length 0 rfl (Nat.zero_le _) (by simp [tW]) (by omega)
    simp only [Int.natCast_zero, List.drop_zero, tW] at this
    rw [this]
    cases h : chk (-2) f <;> simp [sQ, hl]
  · have h1 : decide ((1024 : Int) < ((f.length : Nat) : Int)) = true := by simp; omega
    rw [h1, cond_true]
    simp [hl]

end Go.Abs
namespace Go.Abs
open Go
def aAe (f : List aM) : Int := (f.map aM.Net).sum

def WW (t : Int) : List aM → List aM
  | [] => []
  | j :: r => if t ≤ j.At then [] else j :: WW t r

def aft (t : Int) : List aM → List aM
  | [] => []
  | j :: r => if t ≤ j.At then j :: r else aft t r

end Go.Abs
namespace Go.Abs
open Go
def aAw (t : Int) (f : List aM) : List aM := (if aAe (WW t f) = 0 then [] else [⟨-1, aAe (WW t f)⟩]) ++ aft t f

def rest (f : List aM) (t : Int) : List aM × Int :=
  if mJ f then (if 1125899906842624 ≤ t then ([], 0) else if t ≤ -1 then (f, 0) else told (aAw t f)) else ([], 2)

end Go.Abs
namespace Go.Abs
open Go
def Up (last : Int) : List aM → Prop
  | [] => True
  | j :: r => (last < j.At ∧ j.At < 1125899906842624 ∧ j.Net ≠ 0) ∧ Up j.At r

theorem Up.above : ∀ {f : List aM} {last : Int}, Up last f → ∀ j ∈ f, last < j.At ∧ j.At < 1125899906842624 ∧ j.Net ≠ 0
  | [], _, _, j, hj => by simp at hj
  | a :: r, last, h, j, hj => by
    rcases List.mem_cons.1 hj with rfl | hj
    · exact h.1
    · have := h.2.above j hj
      have h1 := h.1.1
      exact ⟨by omega, this.2⟩

theorem Up.xX {l t : Int} {f : List aM} (h : Up l f) (ht : t ≤ l) : val f t = 0 := DG fun j hj => by have := (h.above j hj).1; omega

theorem Up.weaken {a b : Int} {f : List aM} (h : Up b f) (hab : a ≤ b) : Up a f := by
  cases f with
  | nil => trivial
  | cons j r => exact ⟨⟨by have := h.1.1; omega, h.1.2⟩, h.2⟩

theorem sG.up : ∀ {f : List aM} {last : Int}, sG last f → Up last f
  | [], _, _ => trivial
  | _ :: _, _, h => ⟨⟨h.1.1, h.1.2.1, h.1.2.2.1⟩, h.2.up⟩

theorem Up.ext : ∀ {f g : List aM} {last : Int}, Up last f → Up last g → (∀ t, last < t → t < 1125899906842624 → val f t = val g t) → f = g
  | [], [], _, _, _, _ => rfl
  | j :: r, [], last, hf, _, h => by
    have := h j.At hf.1.1 hf.1.2.1
    rw [lE, if_pos (Int.le_refl _), hf.2.xX (Int.le_refl _), PO] at this
    exact absurd (by omega) hf.1.2.2
  | [], k :: s, last, _, hg, h => by
    have := h k.At hg.1.1 hg.1.2.1
    rw [lE, if_pos (Int.le_refl _), hg.2.xX (Int.le_refl _), PO] at this
    exact absurd (by omega) hg.1.2.2
  | j :: r, k :: s, last, hf, hg, h => by
    have h1 := h j.At hf.1.1 hf.1.2.1
    have h2 := h k.At hg.1.1 hg.1.2.1
    rw [lE, if_pos (Int.le_refl _), hf.2.xX (Int.le_refl _), lE] at h1
    rw [lE, lE k, if_pos (Int.le_refl _), hg.2.xX (Int.le_refl _)] at h2
    have n1 := hf.1.2.2
    have n2 := hg.1.2.2
    have he : j.At = k.At := by
      rcases Int.lt_trichotomy j.At k.At with h3 | h3 | h3
      · rw [if_neg (by omega), hg.2.xX (by omega)] at h1; omega
      · exact h3
      · rw [if_neg (by omega), hf.2.xX (by omega)] at h2; omega
    rw [if_pos (by omega), hg.2.xX (by omega)] at h1
    have hj : j = k := by
      obtain ⟨a, b⟩ := j; obtain ⟨c, d⟩ := k
      simp only at he h1
      simp only [Int.add_zero] at h1
      rw [he, h1]
    subst hj
    rw [hf.2.ext hg.2 (fun t ht ht' => by
      have := h t (by have := hf.1.1; omega) ht'
      rw [lE, lE] at this; omega)]

def Inc (last : Int) : List Int → Prop
  | [] => True
  | p :: r => (last < p ∧ p < 1125899906842624) ∧ Inc p r

theorem Inc.above : ∀ {ps : List Int} {last : Int}, Inc last ps → ∀ p ∈ ps, last < p ∧ p < 1125899906842624
  | [], _, _, j, hj => by simp at hj
  | a :: r, last, h, j, hj => by
    rcases List.mem_cons.1 hj with rfl | hj
    · exact h.1
    · have := h.2.above j hj
      have h1 := h.1.1
      exact ⟨by omega, this.2⟩

end Go.Abs
namespace Go.Abs
open Go
theorem PA {f : List aM} (t : Int) (hb : ∀ j ∈ f, j.Net ≤ 1048576 ∧ -1048576 ≤ j.Net) (hl : f.length ≤ 1099511627776) : mE f t = some (val f t) := by
  unfold mE tE
  rw [rP (l := f) (body := fun s : Int × Int => jM f t s.1 s.2) (fun v i => (v, i)) (fun v r => v + val r t)
    (fun v r => (∀ j ∈ r, j.Net ≤ 1048576 ∧ -1048576 ≤ j.Net) ∧ r.length ≤ 1099511627776 ∧ v ≤ 1048576 * (1099511627776 - r.length) ∧ -(1048576 * (1099511627776 - r.length)) ≤ v) 0 ?_ ?_ ?_]
  · simp [qD]
  · intro i a r v ha ⟨h1, h2, h3, h4⟩
    obtain ⟨d1, d2, d3, d4⟩ := idx ha (by omega)
    have hj := h1 a (List.mem_cons_self ..)
    simp only [List.length_cons] at h2 h3 h4
    left
    by_cases h : a.At ≤ t
    · refine ⟨v + a.Net, ?_, ⟨fun j hj => h1 j (List.mem_cons_of_mem _ hj), by omega, by omega, by omega⟩, ?_⟩
      · show jM f t v i = _
        have hw : IntKind.i64.wrap (v + a.Net) = v + a.Net := dG (by omega) (by omega)
        simp only [jM, nT, d1, cond_true, aK d2, d3, d4, h, decide_true, hw]
      · show v + a.Net + val r t = v + val (a :: r) t
        rw [lE, if_pos h]; omega
    · refine ⟨v, ?_, ⟨fun j hj => h1 j (List.mem_cons_of_mem _ hj), by omega, by omega, by omega⟩, ?_⟩
      · show jM f t v i = _
        simp only [jM, nT, d1, cond_true, aK d2, d3, d4, h, decide_false, cond_false]
      · show v + val r t = v + val (a :: r) t
        rw [lE, if_neg h]; omega
  · intro s _
    show jM f t s (f.length : Nat) = _
    simp only [jM, iZ, cond_false]
    simp [val]
  · exact ⟨hb, hl, by omega, by omega⟩

theorem LZ {f : List aM} (h : mJ f = true) : ∀ j ∈ f, j.Net ≤ 1048576 ∧ -1048576 ≤ j.Net := fun j hj => by have := (rV.1 h).2.above j hj; omega

theorem DH {f : List aM} (h : mJ f = true) (t : Int) : mE f t = some (val f t) :=
  PA t (LZ h) (by have := (rV.1 h).1; omega)

def kX (t : Int) : List Int → List Int
  | [] => [t]
  | p :: r => if p = t then p :: r else if t < p then t :: p :: r else p :: kX t r

theorem KF {t x : Int} : ∀ {ps : List Int}, x ∈ kX t ps ↔ x = t ∨ x ∈ ps
  | [] => by simp [kX]
  | p :: r => by
    unfold kX
    split
    · rename_i h; subst h; simp
    · split
      · simp
      · simp only [List.mem_cons, KF (ps := r)]; constructor <;> (intro h; rcases h with h | h | h <;> simp [h])

theorem DK {t : Int} : ∀ {ps : List Int} {last : Int}, Inc last ps → last < t → t < 1125899906842624 → Inc last (kX t ps)
  | [], last, _, h1, h2 => ⟨⟨h1, h2⟩, trivial⟩
  | p :: r, last, h, h1, h2 => by
    unfold kX
    split
    · exact h
    · split
      · rename_i h3 h4
        exact ⟨⟨h1, h2⟩, ⟨h4, h.1.2⟩, h.2⟩
      · exact ⟨h.1, DK h.2 (by omega) h2⟩

theorem CN {t : Int} : ∀ {ps : List Int}, (kX t ps).length ≤ ps.length + 1
  | [] => by simp [kX]
  | p :: r => by
    unfold kX
    split
    · simp
    · split
      · simp
      · simp only [List.length_cons]; have := CN (t := t) (ps := r); omega

theorem DO {t : Int} : ∀ {ps : List Int}, (∀ x ∈ ps, x < t) → kX t ps = ps ++ [t]
  | [], _ => rfl
  | p :: r, h => by
    have := h p (List.mem_cons_self ..)
    unfold kX
    rw [if_neg (by omega), if_neg (by omega), DO (fun x hx => h x (List.mem_cons_of_mem _ hx))]; rfl

theorem GP {t : Int} : ∀ {ps : List Int} {last : Int}, Inc last ps → t ∈ ps → kX t ps = ps
  | [], _, _, h => by simp at h
  | p :: r, last, hi, h => by
    unfold kX
    split
    · rfl
    · rename_i hp
      rcases List.mem_cons.1 h with h | h
      · exact absurd h.symm hp
      · have := (hi.2.above t h).1
        rw [if_neg (by omega), GP hi.2 h]

theorem UF {l out : List Int} {t a : Int} {put : Bool} {i : Nat} (ha : l[i]? = some a) (hl : l.length ≤ 1099511627776) (ho : out.length ≤ 2199023255552) :
    iV l t out put i = some (if a = t then .inr (.inr l) else if t < a ∧ put = false then .inl (out ++ [t] ++ [a], true, ((i + 1 : Nat) : Int)) else .inl (out ++ [a], put, ((i + 1 : Nat) : Int))) := by
  obtain ⟨d1, d2, d3, d4⟩ := idx ha (by omega)
  simp only [iV, rI, d1, cond_true, aK d2, d3, d4]
  by_cases h1 : a = t
  · simp [h1]
  · rw [decide_eq_false h1, cond_false, if_neg h1]
    by_cases h2 : t < a
    · cases put
      · simp only [h2, decide_true, Bool.not_false, Bool.and_self, cond_true, and_self, if_true]
        rw [aK (by simp only [List.length_cons, List.length_nil]; omega), aK (by simp only [List.length_append, List.length_cons, List.length_nil]; omega)]
      · simp only [h2, decide_true, Bool.not_true, Bool.and_false, cond_false, and_false, if_false, reduceCtorEq]
        rw [aK (by simp only [List.length_cons, List.length_nil]; omega)]
    · simp only [h2, decide_false, Bool.false_and, cond_false, false_and, if_false]
      rw [aK (by simp only [List.length_cons, List.length_nil]; omega)]

theorem YZ {l : List Int} {last t : Int} (hi : Inc last l) (hl : l.length ≤ 1099511627776) : sP l t = some (kX t l) := by
  unfold sP uD
  rw [rP (l := l) (body := fun s : List Int × Bool × Int => iV l t s.1 s.2.1 s.2.2) (fun (s : List Int × Bool) i => (s.1, s.2, i))
    (fun s r => if s.2 then .inl (s.1 ++ r, true) else if t ∈ r then .inr l else if (∃ x ∈ r, t < x) then .inl (s.1 ++ kX t r, true) else .inl (s.1 ++ r, false))
    (fun s r => (∃ m, Inc m r) ∧ (s.2 = true → ∀ x ∈ r, t < x) ∧ r.length ≤ 1099511627776 ∧ s.1.length + r.length ≤ 1099511627777 + (if s.2 then 1 else 0)) ([], false) ?_ ?_ ?_]
  · simp only [Bool.false_eq_true, if_false, List.nil_append, Option.bind_some]
    by_cases h1 : t ∈ l
    · simp [h1, GP hi h1]
    · simp only [h1, if_false]
      by_cases h2 : ∃ x ∈ l, t < x
      · simp only [h2, if_true]
        simp [oR, oV]
      · simp only [h2, if_false]
        have : ∀ x ∈ l, x < t := fun x hx => by
          have h3 : ¬ t < x := fun h => h2 ⟨x, hx, h⟩
          have h4 : x ≠ t := fun h => h1 (h ▸ hx)
          omega
        rw [DO this]
        simp only [Sum.elim_inl, oR, oV, Bool.not_false, cond_true]
        rw [aK (by simp only [List.length_cons, List.length_nil]; omega)]
  · rintro i a r ⟨out, put⟩ ha ⟨⟨m, hm⟩, h1, h2, h3⟩
    simp only [List.length_cons] at h2 h3
    have hb := UF (t := t) (put := put) (out := out) ha hl (by split at h3 <;> omega)
    have hab : ∀ x ∈ r, a < x := fun x hx => (hm.2.above x hx).1
    cases put
    · by_cases e : a = t
      · right
        show iV l t out false i = _
        rw [hb]; simp [e]
      · left
        by_cases e2 : t < a
        · have hnt : t ∉ a :: r := fun h => by
            rcases List.mem_cons.1 h with h | h
            · exact e h.symm
            · have := hab t h; omega
          refine ⟨(out ++ [t] ++ [a], true), ?_, ⟨⟨a, hm.2⟩, fun _ x hx => by have := hab x hx; omega, by omega, by simp only [List.length_append, List.length_cons, List.length_nil, Bool.false_eq_true, if_false, if_true] at h3 ⊢; omega⟩, ?_⟩
          · show iV l t out false i = _
            rw [hb]; simp [e, e2]
          · have hex : ∃ x ∈ a :: r, t < x := ⟨a, List.mem_cons_self .., e2⟩
            simp only [if_true, Bool.false_eq_true, if_false, hnt, hex]
            simp [kX, e, e2]
        · refine ⟨(out ++ [a], false), ?_, ⟨⟨a, hm.2⟩, fun h => absurd h (by simp), by omega, by simp only [List.length_append, List.length_cons, List.length_nil, Bool.false_eq_true, if_false] at h3 ⊢; omega⟩, ?_⟩
          · show iV l t out false i = _
            rw [hb]; simp [e, e2]
          · have i1 : (t ∈ a :: r) ↔ t ∈ r := by simp only [List.mem_cons]; constructor; (intro h; rcases h with h | h; exact absurd h.symm e; exact h); exact Or.inr
            have i2 : (∃ x ∈ a :: r, t < x) ↔ (∃ x ∈ r, t < x) := by
              constructor
              · rintro ⟨x, hx, hx'⟩
                rcases List.mem_cons.1 hx with rfl | hx
                · exact absurd hx' e2
                · exact ⟨x, hx, hx'⟩
              · rintro ⟨x, hx, hx'⟩; exact ⟨x, List.mem_cons_of_mem _ hx, hx'⟩
            simp only [Bool.false_eq_true, if_false, i1, i2]
            simp [kX, e, e2]
    · left
      have ht := h1 rfl a (List.mem_cons_self ..)
      refine ⟨(out ++ [a], true), ?_, ⟨⟨a, hm.2⟩, fun _ x hx => h1 rfl x (List.mem_cons_of_mem _ hx), by omega, by simp only [List.length_append, List.length_cons, List.length_nil, if_true] at h3 ⊢; omega⟩, ?_⟩
      · show iV l t out true i = _
        have : a ≠ t := by omega
        rw [hb]; simp [this]
      · simp
  · rintro ⟨out, put⟩ _
    show iV l t out put (l.length : Nat) = _
    simp only [iV, iZ, cond_false]
    cases put <;> simp
  · exact ⟨⟨last, hi⟩, fun h => absurd h (by simp), hl, by simp only [List.length_nil]; simp; omega⟩

end Go.Abs
namespace Go.Abs
open Go
def mn (a b : Int) : Int := if b < a then b else a

def parts (v : Int) : List aM → List Int
  | [] => []
  | j :: r => (v + j.Net) :: parts (v + j.Net) r

def sH (f : List aM) : Int := (f.map fun j => val f j.At).foldl mn (val f (-1))

theorem parts_eq : ∀ {f : List aM} {l v : Int}, sG l f → parts v f = f.map fun j => v + val f j.At
  | [], _, _, _ => rfl
  | j :: r, l, v, h => by
    simp only [parts, List.map_cons]
    rw [parts_eq h.2, lE, if_pos (Int.le_refl _), h.2.xX (Int.le_refl _), Int.add_zero]
    congr 1
    apply List.map_congr_left
    intro k hk
    have := (h.2.above k hk).1
    rw [lE, if_pos (by omega)]; omega

theorem UQ {j : aM} {r : List aM} (h : sG (-2) (j :: r)) : val (j :: r) (-1) = if j.At = -1 then j.Net else 0 := by
  have := h.1.1
  by_cases e : j.At = -1
  · rw [if_pos e, lE, if_pos (by omega), h.2.xX (by omega)]; omega
  · rw [if_neg e, DG]
    intro k hk
    rcases List.mem_cons.1 hk with rfl | hk
    · omega
    · have := (h.2.above k hk).1; omega

theorem HV {f : List aM} (hf : mJ f = true) (m : Int) (hm : -1125899906842624 ≤ m ∧ m ≤ 1125899906842624) : qZ 0 m f (f.length : Nat) 0 = some ((f.map fun j => val f j.At).foldl mn m) := by
  obtain ⟨hl, hr⟩ := rV.1 hf
  unfold qZ
  rw [rP (l := f) (body := fun s : Int × Int × Int => mC f (f.length : Nat) s.1 s.2.1 s.2.2) (fun (s : Int × Int) i => (s.1, s.2, i)) (fun s r => (parts s.1 r).foldl mn s.2)
    (fun s r => (∀ j ∈ r, j.Net ≤ 1048576 ∧ -1048576 ≤ j.Net) ∧ r.length ≤ 1024 ∧ s.1 ≤ 1048576 * (1024 - r.length) ∧ -(1048576 * (1024 - r.length)) ≤ s.1) (0, m) ?_ ?_ ?_]
  · simp only [Option.bind_some, rH, parts_eq hr, Int.zero_add]
  · rintro i a r ⟨v, m⟩ ha ⟨h1, h2, h3, h4⟩
    obtain ⟨d1, d2, d3, d4⟩ := idx ha (by omega)
    have hj := h1 a (List.mem_cons_self ..)
    simp only [List.length_cons] at h2 h3 h4
    have hw : IntKind.i64.wrap (v + a.Net) = v + a.Net := dG (by omega) (by omega)
    left
    refine ⟨(v + a.Net, mn m (v + a.Net)), ?_, ⟨fun j hj => h1 j (List.mem_cons_of_mem _ hj), by omega, by simp only; omega, by simp only; omega⟩, rfl⟩
    show mC f (f.length : Nat) v m i = _
    simp only [mC, d1, cond_true, aK d2, d3, d4, hw, mn]
  · rintro ⟨v, m⟩ _
    show mC f (f.length : Nat) v m (f.length : Nat) = _
    simp only [mC, iZ, cond_false, parts, List.foldl_nil]
  · exact ⟨LZ hf, hl, by simp only; omega, by simp only; omega⟩

theorem WI (f : List aM) : sS f = some (if mJ f then sH f else 0) := by
  unfold sS
  rw [NG]
  cases h : mJ f
  · simp
  · cases f with
    | nil => simp [sH, val]
    | cons j r =>
      obtain ⟨hl, hr⟩ := rV.1 h
      have hne : decide (((List.length (j :: r) : Nat) : Int) = 0) = false := by simp; omega
      simp only [Option.bind_some, Bool.not_true, Bool.false_or, hne, cond_false, aK aAP, aAn, if_true]
      have hj := hr.1
      unfold sH
      rw [UQ hr]
      by_cases e : j.At = -1
      · simp only [e, decide_true, cond_true, if_true, oS]
        exact HV h j.Net (by omega)
      · simp only [e, decide_false, cond_false, if_false, oS]
        exact HV h 0 (by omega)

theorem OC (f : List aM) : qY f = some (if mJ f then sH f else 0) := by
  unfold qY
  rw [KG]
  cases h : mJ f
  · simp
  · obtain ⟨hl, hr⟩ := rV.1 h
    simp only [Option.bind_some, Bool.not_true, cond_false, DH h, if_true, tK]
    rw [rP (l := f) (body := fun s : Int × Int => lF f s.1 s.2) (fun m i => (m, i)) (fun m r => (r.map fun j => val f j.At).foldl mn m) (fun _ _ => True) (val f (-1)) ?_ ?_ trivial]
    · simp [qB, sH]
    · rintro i a r m ha _
      obtain ⟨d1, d2, d3, d4⟩ := idx ha (by omega)
      left
      refine ⟨mn m (val f a.At), ?_, trivial, rfl⟩
      show lF f m i = _
      simp only [lF, qE, d1, cond_true, aK d2, d3, d4, DH h, Option.bind_some, mn]
      by_cases e : val f a.At < m <;> simp [e]
    · intro m _
      show lF f m (f.length : Nat) = _
      simp only [lF, iZ, cond_false, List.map_nil, List.foldl_nil]

theorem ZD : mJ [] = true := by decide

end Go.Abs
namespace Go.Abs
open Go
theorem w1 : IntKind.i64.wrap (0 + 1) = 1 := by rw [dG] <;> omega

theorem w2 : IntKind.i64.wrap (1 + 1) = 2 := by rw [dG] <;> omega

theorem w3 : IntKind.i64.wrap (1 - 1) = 0 := by rw [dG] <;> omega

theorem v0 : IntKind.i64.wrap 0 = 0 := by rw [dG] <;> omega

theorem v1 : IntKind.i64.wrap 1 = 1 := by rw [dG] <;> omega

theorem v2 : IntKind.i64.wrap 2 = 2 := by rw [dG] <;> omega

theorem v3 : IntKind.i64.wrap (-1) = -1 := by rw [dG] <;> omega

end Go.Abs
namespace Go.Abs
open Go
variable {α : Type} [Inhabited α]
noncomputable def nO (f1 : α → Option Bool) (s0 : (List α)) (t7 : Int) (t8 : Int) : Option ((Int) ⊕ (Unit ⊕ Int)) :=
  cond (decide (t8 < t7))
  (aY (0 ≤ t8 ∧ t8 < ((List.length s0 : Nat) : Int)) <|
  (f1 (List.getD s0 (Int.toNat t8) default)).bind fun x2 =>
  cond x2
  (some (.inr (.inr t8)))
  (some (.inl (IntKind.i64.wrap (t8 + (1 : Int))))))
  (some (.inr (.inl ())))

theorem NO {l : List α} {f : α → Option Bool} {g : α → Bool} (hl : l.length ≤ 1099511627776) (hf : ∀ x ∈ l, f x = some (g x)) : ∀ (r : List α) (k : Nat), l.drop k = r → k ≤ l.length →
    ∃ x, lp (fun s => nO f l (l.length : Nat) s) (k : Int) = some x ∧ ((x = .inl () ∧ r.any g = false) ∨ (∃ i : Nat, x = .inr (i : Int) ∧ k ≤ i ∧ i < l.length ∧ r.any g = true ∧ g (l.getD i default) = true ∧ ∀ j, k ≤ j → j < i → g (l.getD j default) = false))
  | [], k, hd, hk => by
    have : k = l.length := by
      have := congrArg List.length hd
      simp only [List.length_drop, List.length_nil] at this; omega
    subst this
    refine ⟨.inl (), cO ?_, Or.inl ⟨rfl, rfl⟩⟩
    show nO f l _ _ = _
    simp only [nO, iZ, cond_false]
  | a :: r, k, hd, hk => by
    obtain ⟨h1, h2⟩ := drop_cons hd
    have hlt : k < l.length := (List.getElem?_eq_some_iff.1 h1).1
    obtain ⟨d1, d2, d3, d4⟩ := idx h1 (by omega)
    have hga : l.getD k default = a := by rw [Int.toNat_natCast] at d3; exact d3
    have hb : (fun s => nO f l (l.length : Nat) s) (k : Int) = some (if g a then .inr (.inr (k : Int)) else .inl ((k + 1 : Nat) : Int)) := by
      show nO f l _ _ = _
      simp only [nO, d1, cond_true, aK d2, d3, d4, hf a (List.mem_of_getElem? h1), Option.bind_some]
      cases g a <;> simp
    cases hg : g a
    · rw [hg] at hb
      obtain ⟨x, e, hx⟩ := NO hl hf r (k + 1) h2 (by omega)
      refine ⟨x, by rw [fI hb]; exact e, ?_⟩
      rcases hx with ⟨rfl, h⟩ | ⟨i, rfl, h3, h4, h5, h6, h7⟩
      · exact Or.inl ⟨rfl, by simp [hg, h]⟩
      · refine Or.inr ⟨i, rfl, by omega, h4, by simp [h5], h6, fun j hj hj' => ?_⟩
        by_cases e : j = k
        · subst e; rw [hga, hg]
        · exact h7 j (by omega) hj'
    · rw [hg] at hb
      exact ⟨.inr (k : Int), cO hb, Or.inr ⟨k, rfl, Nat.le_refl _, hlt, by simp [hg], by rw [hga, hg], fun j h h' => by omega⟩⟩

end Go.Abs
namespace Go.Abs
open Go
theorem KI (x y : ByteArray) : mT x y = decide (x = y) := by
  unfold mT
  rw [ByteArray.toList_eq, ByteArray.toList_eq]
  by_cases h : x = y
  · simp [h]
  · have : x.data.toList ≠ y.data.toList := by
      intro he
      apply h
      cases x; cases y
      congr 1
      exact Array.toList_inj.1 he
    have h2 : (x.data.toList == y.data.toList) = false := by simpa using this
    rw [h2]; simp [h]

theorem veq (a b : aB) : ((decide (a.Kind = b.Kind)) && ((decide (a.Num = b.Num)) && ((mT a.Text b.Text) && true))) = decide (a = b) := by
  rw [KI]
  obtain ⟨a1, a2, a3⟩ := a
  obtain ⟨b1, b2, b3⟩ := b
  by_cases h1 : a1 = b1 <;> by_cases h2 : a2 = b2 <;> by_cases h3 : a3 = b3 <;> simp [h1, h2, h3]

def zN (v : aB) : Bool := decide (v.Kind = 1) && mT v.Text (⟨#[]⟩ : ByteArray)

def yO (v : aB) : Bool := ((decide (v.Kind = 2)) && (decide (v.Num = 0))) && (decide (((ByteArray.size v.Text : Nat) : Int) ≤ 64))

def qK (v : aB) : Bool := zN v || yO v

def jP (r : List aB) : Bool := decide (r.length ≤ 8) && r.all qK

theorem of_eq (v : aB) : lB v = some (if zN v then (.k_number v.Num, true) else if yO v then (.k_words v.Text, true) else (.none_, false)) := by
  unfold lB zN yO
  cases (decide (v.Kind = 1) && mT v.Text (⟨#[]⟩ : ByteArray)) <;> cases (((decide (v.Kind = 2)) && (decide (v.Num = 0))) && (decide (((ByteArray.size v.Text : Nat) : Int) ≤ 64))) <;> rfl

theorem YT (v : aB) : tS v = some (qK v) := by
  unfold tS qK
  rw [of_eq]
  cases zN v <;> cases yO v <;> rfl

theorem HI (v : aB) : pK v = some (qK v) := by
  unfold pK qK zN yO
  by_cases h : v.Kind = 1
  · simp [h]
  · simp [h]

theorem MZ {l : List aB} {f : aB → Option Bool} {g : aB → Bool} (hl : l.length ≤ 1099511627776) (hf : ∀ x ∈ l, f x = some (g x)) : eU l f = some (l.any g) := by
  unfold eU iC gW
  obtain ⟨x, e, hx⟩ := NO hl hf l 0 rfl (Nat.zero_le _)
  have e' : lp (fun s => gV f l (l.length : Nat) s) 0 = some x := e
  rw [e']
  rcases hx with ⟨rfl, h⟩ | ⟨i, rfl, _, _, h, _⟩
  · simp [fF, h]
  · simp [h]

theorem IV (r : List aB) : sW r = some (jP r) := by
  unfold sW jP
  by_cases h : r.length ≤ 8
  · have h1 : decide ((8 : Int) < ((r.length : Nat) : Int)) = false := by simp; omega
    rw [h1, cond_false, MZ (g := fun v => !qK v) (by omega) (fun x _ => by simp [tX, YT])]
    simp only [Option.bind_some, h, decide_true, Bool.true_and]
    congr 1
    rw [List.all_eq_not_any_not]
  · have h1 : decide ((8 : Int) < ((r.length : Nat) : Int)) = true := by simp; omega
    rw [h1, cond_true]
    simp [h]

theorem AW (r : List aB) (hl : r.length ≤ 1099511627776 * 16) : pI r = some (jP r) := by
  unfold pI uZ
  have hl9 : (r.take 9).length ≤ 9 := by simp; omega
  rw [CJ (l := r.take 9) (fun i => i) (fun v => !qK v) (.inr false) (.inl ()) ?_ ?_]
  · unfold jP
    by_cases h : r.length ≤ 8
    · have ht : r.take 9 = r := List.take_of_length_le (by omega)
      rw [ht, List.all_eq_not_any_not]
      cases h1 : (r.any fun v => !qK v)
      · have : ((r.length : Nat) : Int) ≤ 8 := by omega
        simp [pX, this, h]
      · simp
    · cases h1 : ((r.take 9).any fun v => !qK v)
      · have : ¬ ((r.length : Nat) : Int) ≤ 8 := by omega
        simp [pX, this, h]
      · simp [h]
  · intro i a ha
    have hi : i < (r.take 9).length := (List.getElem?_eq_some_iff.1 ha).1
    have hi2 : i < r.length := by simp at hi; omega
    have ha2 : r[i]? = some a := by
      rw [List.getElem?_take] at ha
      split at ha
      · exact ha
      · cases ha
    obtain ⟨d1, d2, d3, d4⟩ := idx ha2 (by omega)
    have h9 : decide ((i : Int) < 9) = true := by simp; omega
    show nU r i = _
    simp only [nU, d1, h9, Bool.and_self, cond_true, aK d2, d3, d4, HI, Option.bind_some]
    cases qK a <;> simp
  · show nU r _ = _
    have : ((decide ((((r.take 9).length : Nat) : Int) < ((r.length : Nat) : Int))) && (decide ((((r.take 9).length : Nat) : Int) < 9))) = false := by
      rw [Bool.and_eq_false_iff]
      by_cases h : r.length ≤ 8
      · left; simp; omega
      · right; simp; omega
    simp only [nU, this, cond_false]

theorem QL {α : Type} [DecidableEq α] {f g : List α} {body : Int → Option (Int ⊕ (Unit ⊕ Bool))} (he : f.length = g.length)
    (hb : ∀ (i : Nat) a b, f[i]? = some a → g[i]? = some b → body i = some (if a = b then .inl ((i + 1 : Nat) : Int) else .inr (.inr false)))
    (hend : body (f.length : Nat) = some (.inr (.inl ()))) : ∀ (m k : Nat), f.length - k = m → k ≤ f.length → lp body (k : Int) = some (if f.drop k = g.drop k then .inl () else .inr false)
  | 0, k, hm, hk => by
    have : k = f.length := by omega
    subst this
    rw [List.drop_length, he, List.drop_length, if_pos rfl]
    rw [← he]
    exact cO hend
  | m + 1, k, hm, hk => by
    have h1 : k < f.length := by omega
    have h2 : k < g.length := by omega
    have hbk := hb k _ _ (List.getElem?_eq_getElem h1) (List.getElem?_eq_getElem h2)
    have e1 : f.drop k = f[k] :: f.drop (k + 1) := List.drop_eq_getElem_cons h1
    have e2 : g.drop k = g[k] :: g.drop (k + 1) := List.drop_eq_getElem_cons h2
    have hiff : (f.drop k = g.drop k) ↔ (f[k] = g[k] ∧ f.drop (k + 1) = g.drop (k + 1)) := by rw [e1, e2, List.cons.injEq]
    by_cases h : f[k] = g[k]
    · rw [if_pos h] at hbk
      rw [fI hbk, QL he hb hend m (k + 1) (by omega) (by omega)]
      simp only [hiff, h, true_and]
    · rw [if_neg h] at hbk
      rw [cO hbk]
      simp only [hiff, h, false_and, if_false]

theorem TQ {α : Type} {f g : List α} (h : f.length ≠ g.length) : (!decide (((f.length : Nat) : Int) = ((g.length : Nat) : Int))) = true := by simp; omega

theorem US {α : Type} {f g : List α} (h : f.length = g.length) : (!decide (((f.length : Nat) : Int) = ((g.length : Nat) : Int))) = false := by simp [h]

theorem HE (a b : List aB) (hl : a.length ≤ 17592186044416) : sZ a b = some (decide (a = b)) := by
  unfold sZ fD
  by_cases he : a.length = b.length
  · rw [US he, cond_false]
    unfold jB
    have := QL (f := a) (g := b) (body := fun s => eW a b (a.length : Nat) s) he ?_ ?_ a.length 0 rfl (Nat.zero_le _)
    · simp only [Int.natCast_zero, List.drop_zero] at this
      rw [this]
      by_cases h : a = b <;> simp [h, gH]
    · intro i x y hx hy
      obtain ⟨d1, d2, d3, d4⟩ := idx hx (by omega)
      obtain ⟨_, e2, e3, _⟩ := idx hy (by omega)
      simp only [eW, d1, cond_true, aK d2, aK e2, d3, e3, d4, veq]
      by_cases h : x = y <;> simp [h]
    · simp only [eW, iZ, cond_false]
  · rw [TQ he, cond_true]
    have : a ≠ b := fun h => he (by rw [h])
    simp [this]

theorem BN (a b : List aB) (hl : a.length ≤ 17592186044416) : qA a b = some (decide (a = b)) := by
  unfold qA
  by_cases he : a.length = b.length
  · rw [US he, cond_false]
    unfold uI
    have := QL (f := a) (g := b) (body := fun s => oN a b s) he ?_ ?_ a.length 0 rfl (Nat.zero_le _)
    · simp only [Int.natCast_zero, List.drop_zero] at this
      rw [this]
      by_cases h : a = b <;> simp [h, qW]
    · intro i x y hx hy
      obtain ⟨d1, d2, d3, d4⟩ := idx hx (by omega)
      obtain ⟨_, e2, e3, _⟩ := idx hy (by omega)
      simp only [oN, d1, cond_true, aK d2, aK e2, d3, e3, d4, veq]
      by_cases h : x = y <;> simp [h]
    · simp only [oN, iZ, cond_false]
  · rw [TQ he, cond_true]
    have : a ≠ b := fun h => he (by rw [h])
    simp [this]

structure CT {α : Type} (c : α → α → Int) : Prop where
  eq : ∀ a b, c a b = 0 ↔ a = b
  anti : ∀ a b, c a b < 0 ↔ 0 < c b a
  trans : ∀ a b d, c a b < 0 → c b d < 0 → c a d < 0

def mY (x y : Int) : Int := if x < y then -1 else if y < x then 1 else 0

theorem yM : CT mY where
  eq a b := by unfold mY; (repeat' split) <;> omega
  anti a b := by unfold mY; (repeat' split) <;> omega
  trans a b d := by unfold mY; (repeat' split) <;> omega

def hM {α : Type} [DecidableEq α] (c : α → α → Int) : List α → List α → Int
  | [], [] => 0
  | [], _ :: _ => -1
  | _ :: _, [] => 1
  | a :: r, b :: s => if a = b then hM c r s else c a b

theorem CT.list {α : Type} [DecidableEq α] {c : α → α → Int} (h : CT c) : CT (hM c) where
  eq := by
    intro a
    induction a with
    | nil => intro b; cases b <;> simp [hM]
    | cons x r ih =>
      intro b
      cases b with
      | nil => simp [hM]
      | cons y s =>
        unfold hM
        split
        · rename_i e; subst e; rw [ih]; simp
        · rename_i e
          have := h.eq x y
          constructor
          · intro h0; exact absurd (this.1 h0) e
          · intro h0; cases h0; exact absurd rfl e
  anti := by
    intro a
    induction a with
    | nil => intro b; cases b <;> simp [hM]
    | cons x r ih =>
      intro b
      cases b with
      | nil => simp [hM]
      | cons y s =>
        unfold hM
        by_cases e : x = y
        · subst e; simp only [if_true]; exact ih s
        · rw [if_neg e, if_neg (fun e' => e e'.symm)]; exact h.anti x y
  trans := by
    intro a
    induction a with
    | nil =>
      intro b d
      cases b <;> cases d <;> simp [hM]
    | cons x r ih =>
      intro b d
      cases b with
      | nil => simp [hM]
      | cons y s =>
        cases d with
        | nil => simp [hM]
        | cons z t =>
          unfold hM
          by_cases e1 : x = y
          · subst e1
            rw [if_pos rfl]
            by_cases e2 : x = z
            · subst e2; rw [if_pos rfl, if_pos rfl]; exact ih s t
            · rw [if_neg e2, if_neg e2]; exact fun _ h => h
          · rw [if_neg e1]
            by_cases e2 : y = z
            · have hz : ¬ x = z := fun e => e1 (e.trans e2.symm)
              intro h _
              rw [if_neg hz, ← e2]; exact h
            · rw [if_neg e2]
              intro h1 h2
              by_cases e3 : x = z
              · subst e3
                have h3 := (h.anti x y).1 h1
                omega
              · rw [if_neg e3]; exact h.trans x y z h1 h2

def wX (a b : UInt8) : Int := if a < b then -1 else if b < a then 1 else 0

theorem FT : CT wX where
  eq a b := by
    unfold wX
    constructor
    · intro h
      split at h
      · cases h
      · split at h
        · cases h
        · rename_i h1 h2
          rw [UInt8.lt_iff_toNat_lt] at h1 h2
          exact UInt8.toNat_inj.1 (by omega)
    · rintro rfl
      have : ¬ a < a := by rw [UInt8.lt_iff_toNat_lt]; omega
      simp [this]
  anti a b := by
    unfold wX
    simp only [UInt8.lt_iff_toNat_lt]
    (repeat' split) <;> omega
  trans a b d := by
    unfold wX
    simp only [UInt8.lt_iff_toNat_lt]
    (repeat' split) <;> omega

theorem yX : ∀ (a b : List UInt8), Go.Lib.compareBytes a b = hM wX a b
  | [], [] => rfl
  | [], _ :: _ => rfl
  | _ :: _, [] => rfl
  | a :: r, b :: s => by
    unfold Go.Lib.compareBytes hM
    rw [yX r s]
    by_cases e : a = b
    · subst e
      have : ¬ a < a := by rw [UInt8.lt_iff_toNat_lt]; omega
      simp [this]
    · rw [if_neg e]
      unfold wX
      have : ¬ (¬ a < b ∧ ¬ b < a) := by
        rintro ⟨h1, h2⟩
        rw [UInt8.lt_iff_toNat_lt] at h1 h2
        exact e (UInt8.toNat_inj.1 (by omega))
      by_cases h1 : a < b
      · simp [h1]
      · have h2 : b < a := Classical.byContradiction fun h2 => this ⟨h1, h2⟩
        simp [h1, h2]

def HZ (a b : ByteArray) : Int := hM wX a.data.toList b.data.toList

theorem XY (a b : ByteArray) : IC a b = HZ a b := yX _ _

theorem data_inj {x y : ByteArray} (h : x.data.toList = y.data.toList) : x = y := by
  cases x; cases y
  congr 1
  exact Array.toList_inj.1 h

theorem BK : CT HZ where
  eq a b := by unfold HZ; rw [(FT.list).eq]; exact ⟨data_inj, fun h => by rw [h]⟩
  anti a b := (FT.list).anti _ _
  trans a b d := (FT.list).trans _ _ _

def uM (a b : aB) : Int := if a.Kind = b.Kind then (if a.Num = b.Num then HZ a.Text b.Text else mY a.Num b.Num) else mY a.Kind b.Kind

theorem AN : CT uM where
  eq a b := by
    obtain ⟨a1, a2, a3⟩ := a
    obtain ⟨b1, b2, b3⟩ := b
    unfold uM
    simp only [aB.mk.injEq]
    by_cases h1 : a1 = b1
    · by_cases h2 : a2 = b2
      · simp [h1, h2, BK.eq]
      · simp [h1, h2, yM.eq]
    · simp [h1, yM.eq]
  anti a b := by
    unfold uM
    by_cases h1 : a.Kind = b.Kind
    · rw [if_pos h1, if_pos h1.symm]
      by_cases h2 : a.Num = b.Num
      · rw [if_pos h2, if_pos h2.symm]; exact BK.anti _ _
      · rw [if_neg h2, if_neg (fun h => h2 h.symm)]; exact yM.anti _ _
    · rw [if_neg h1, if_neg (fun h => h1 h.symm)]; exact yM.anti _ _
  trans a b d := by
    unfold uM
    intro h1 h2
    have lt : ∀ {x y : Int}, mY x y < 0 → x < y := fun {x y} h => by unfold mY at h; split at h <;> (try split at h) <;> omega
    have mk : ∀ {x y : Int}, x < y → mY x y < 0 := fun {x y} h => by unfold mY; rw [if_pos h]; omega
    by_cases e1 : a.Kind = b.Kind
    · rw [if_pos e1] at h1
      by_cases e2 : b.Kind = d.Kind
      · rw [if_pos e2] at h2
        rw [if_pos (e1.trans e2)]
        by_cases f1 : a.Num = b.Num
        · rw [if_pos f1] at h1
          by_cases f2 : b.Num = d.Num
          · rw [if_pos f2] at h2
            rw [if_pos (f1.trans f2)]
            exact BK.trans _ _ _ h1 h2
          · rw [if_neg f2] at h2
            rw [f1, if_neg f2]; exact h2
        · rw [if_neg f1] at h1
          have g1 := lt h1
          by_cases f2 : b.Num = d.Num
          · rw [← f2, if_neg f1]; exact h1
          · rw [if_neg f2] at h2
            have g2 := lt h2
            rw [if_neg (by omega)]
            exact mk (by omega)
      · rw [if_neg e2] at h2
        rw [e1, if_neg e2]; exact h2
    · rw [if_neg e1] at h1
      have g1 := lt h1
      by_cases e2 : b.Kind = d.Kind
      · rw [← e2, if_neg e1]; exact h1
      · rw [if_neg e2] at h2
        have g2 := lt h2
        rw [if_neg (by omega)]
        exact mk (by omega)

def gX (a b : List aB) : Int := hM uM a b

theorem qI : CT gX := AN.list

end Go.Abs
namespace Go.Abs
open Go
theorem SS (x y : Int) : nJ x y = some (mY x y) := by
  unfold nJ jX mY
  by_cases h1 : x < y
  · simp [h1]
  · by_cases h2 : y < x <;> simp [h1, h2]

theorem UR (x y : Int) : fR x y = some (mY x y) := by
  unfold fR kK mY
  by_cases h1 : x < y
  · simp [h1]
  · by_cases h2 : y < x <;> simp [h1, h2]

theorem xR {v : aB} (h : zN v = true) : v.Kind = 1 ∧ v.Text = (⟨#[]⟩ : ByteArray) := by
  simp only [zN, KI, Bool.and_eq_true, decide_eq_true_eq] at h; exact h

theorem vV {v : aB} (h : yO v = true) : v.Kind = 2 ∧ v.Num = 0 ∧ v.Text.size ≤ 64 := by
  simp only [yO, Bool.and_eq_true, decide_eq_true_eq] at h; exact ⟨h.1.1, h.1.2, by omega⟩

theorem DW {v : aB} (h : qK v = true) : zN v = true ∨ (zN v = false ∧ yO v = true) := by
  unfold qK at h
  cases hn : zN v
  · rw [hn] at h; exact .inr ⟨rfl, by simpa using h⟩
  · exact .inl rfl

theorem SO (a : ByteArray) : HZ a a = 0 := (BK.eq a a).2 rfl

theorem yP (a : Int) : mY a a = 0 := (yM.eq a a).2 rfl

theorem SX {a b : aB} (ha : qK a = true) (hb : qK b = true) : oW a b = some (uM a b) := by
  unfold oW
  simp only [of_eq, Option.bind_some]
  rcases DW ha with h1 | ⟨h1, h1'⟩ <;> rcases DW hb with h2 | ⟨h2, h2'⟩
  · obtain ⟨k1, t1⟩ := xR h1
    obtain ⟨k2, t2⟩ := xR h2
    simp only [h1, h2, if_true, Bool.not_true, Bool.or_self, cond_false, UR, Option.bind_some]
    unfold uM
    rw [k1, k2, t1, t2, if_pos rfl, SO]
    by_cases hn : a.Num = b.Num
    · rw [if_pos hn, hn, yP]
    · rw [if_neg hn]
  · obtain ⟨k1, t1⟩ := xR h1
    obtain ⟨k2, n2, _⟩ := vV h2'
    simp only [h1, h2, h2', if_true, Bool.false_eq_true, if_false, Bool.not_true, Bool.or_self, cond_false]
    unfold uM
    rw [k1, k2]; rfl
  · obtain ⟨k1, n1, _⟩ := vV h1'
    obtain ⟨k2, t2⟩ := xR h2
    simp only [h1, h1', h2, if_true, Bool.false_eq_true, if_false, Bool.not_true, Bool.or_self, cond_false]
    unfold uM
    rw [k1, k2]; rfl
  · obtain ⟨k1, n1, _⟩ := vV h1'
    obtain ⟨k2, n2, _⟩ := vV h2'
    simp only [h1, h1', h2, h2', if_true, Bool.false_eq_true, if_false, Bool.not_true, Bool.or_self, cond_false]
    unfold uM lZ jG
    rw [k1, k2, n1, n2, if_pos rfl, if_pos rfl]
    simp [XY]

theorem vW {r : List aB} (h : jP r = true) : r.length ≤ 8 ∧ ∀ v ∈ r, qK v = true := by
  simp only [jP, Bool.and_eq_true, decide_eq_true_eq, List.all_eq_true] at h; exact h

end Go.Abs
